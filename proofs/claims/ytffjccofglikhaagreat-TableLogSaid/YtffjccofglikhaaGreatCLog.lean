/-
  logstore.
-/
import Derived.Test.YtffjccofglikhaaGreatCIns
namespace Go.Proofs.YtffjccofglikhaaGreat
open Go Go.RowKit

structure LogR (w : World) (q p : Nat) (v : Value) (l : List Rec) (es : List Ent) : Prop where
  blk : Blk w q 115 [v, ptr p]
  own : Own cRec 30 w v l
  dir : DirR w p es l.length
  nq : v.ownBlock ≠ some q
  np : v.ownBlock ≠ some p
  qp : q ≠ p
  tag : TagOk es
  ids : ∀ e ∈ es, e.has = true → 0 ≤ e.id ∧ e.id < l.length
  len : l.length ≤ 1000
  fit : ∀ r ∈ l, RecFit r
theorem LogR.mod {S : Nat → Prop} {w w' : World} {q p : Nat} {v : Value} {l : List Rec} {es : List Ent} (h : LogR w q p v l es) (m : Mod S w w') (h1 : ¬ S q) (h2 : ¬ S p) (h3 : ∀ k, v.ownBlock = some k → ¬ S k) : LogR w' q p v l es :=
  ⟨h.blk.mod m h1, h.own.mod m h3, h.dir.mod m h2, h.nq, h.np, h.qp, h.tag, h.ids, h.len, h.fit⟩
theorem LogR.grow {w w' : World} {q p : Nat} {v : Value} {l : List Rec} {es : List Ent} (h : LogR w q p v l es) (m : Mod no w w') : LogR w' q p v l es := h.mod m (fun h => h) (fun h => h) fun _ _ h => h
theorem LogR.drew {w : World} {q p : Nat} {v : Value} {l : List Rec} {es : List Ent} (h : LogR w q p v l es) : LogR w.drew q p v l es := h.grow mod_drew
def logFindGo (l : List Rec) (k : Str) : List Int → Int
  | [] => -1
  | i :: r => if (l.getD i.toNat Rec.zero).key = k then i else logFindGo l k r
def logIds (es : List Ent) (k : Str) : List Int := sortI (dirIds es (hashOf k))
def logFind (l : List Rec) (es : List Ent) (k : Str) : Int := logFindGo l k (logIds es k)
theorem dirIds_mem {es : List Ent} {h i : Int} (hi : i ∈ dirIds es h) : ∃ e ∈ es, e.has = true ∧ e.tag = hTag h ∧ e.id = i := by
  unfold dirIds at hi
  obtain ⟨b, _, hb⟩ := List.mem_flatMap.1 hi
  unfold idsB bktE at hb
  obtain ⟨e, he, rfl⟩ := List.mem_map.1 hb
  obtain ⟨he1, he2⟩ := List.mem_filter.1 he
  simp only [Bool.and_eq_true, decide_eq_true_eq] at he2
  exact ⟨e, List.mem_of_mem_drop (List.mem_of_mem_take (List.mem_of_mem_take he1)), he2.1, he2.2, rfl⟩
theorem logIds_mem {es : List Ent} {k : Str} {i : Int} (hi : i ∈ logIds es k) : ∃ e ∈ es, e.has = true ∧ e.tag = hTag (hashOf k) ∧ e.id = i := dirIds_mem (List.mem_mergeSort.1 hi)
theorem logIds_len (es : List Ent) (k : Str) : (logIds es k).length ≤ 8 := by
  unfold logIds sortI
  rw [List.length_mergeSort]
  unfold dirIds hB2
  simp only [List.flatMap_cons, List.flatMap_nil, List.append_nil, List.length_append]
  have := idsB_len es (hashOf k) (hFirst (hashOf k)).toNat 4
  have := idsB_len es (hashOf k) (hOther (hFirst (hashOf k)) (hTag (hashOf k))).toNat 4
  omega
theorem logFindGo_mem (l : List Rec) (k : Str) : ∀ (is : List Int), logFindGo l k is = -1 ∨ (logFindGo l k is ∈ is ∧ (l.getD (logFindGo l k is).toNat Rec.zero).key = k)
  | [] => .inl rfl
  | i :: r => by
    unfold logFindGo
    split
    · rename_i h; exact .inr ⟨by simp, h⟩
    · rcases logFindGo_mem l k r with h | h
      · exact .inl h
      · exact .inr ⟨by simp [h.1], h.2⟩
theorem log_New {w : World} : CallV P 16 [] w fun r w' => ∃ q p, r = ptr q ∧ LogR w' q p (.slice none 0 0) [] ent0 ∧ Mod no w w' ∧ w.heap.size ≤ q ∧ w.heap.size ≤ p := by
  refine calls_of lay_is Tryz.func16 rfl (by kernel_rfl) (call cuckoo_New ?_)
  rintro _ w1 ⟨rfl, hD, m1⟩
  have ls := hD.blk.lt
  refine ⟨[.slice none 0 0, ptr w.heap.size], rfl, al fun b2 w2 e2 m2 s2 hb2 => ⟨b2, w.heap.size, rfl, ⟨hb2, Own.nil _ _, hD.mod m2 fun h => h, nofun, nofun, by omega, ?_, ?_, by decide, nofun⟩, m1.trn m2, by omega, Nat.le_refl _⟩⟩
  · intro e he
    unfold ent0 at he
    rw [(List.mem_replicate.1 he).2]
    exact ⟨Int.le_refl 0, by decide⟩
  · intro e he hh
    unfold ent0 at he
    rw [(List.mem_replicate.1 he).2] at hh
    cases hh
theorem log_find {w : World} {q p : Nat} {v : Value} {l : List Rec} {es : List Ent} {k : Str} (h : LogR w q p v l es) (hk : k.length ≤ 1000000000) : CallV P 68 [ptr q, sV k] w fun r w' => r = iV (logFind l es k) ∧ Mod no w w' := by
  have h0 := (hashOf_rng k).1
  have hb : Blk w.drew q 115 [v, ptr p] := h.blk
  refine calls_of lay_is Tryz.func68 rfl (by kernel_rfl) (condF rfl (draw [(0, []), (1, []), (2, []), (3, []), (4, []), (8, []), (5, [3]), (6, []), (7, [])] (by kernel_rfl) (ld1 hb rfl (call (hash_Of (by omega)) ?_))))
  rintro _ w1 ⟨rfl, m1⟩
  have m1 : Mod no w w1 := m1
  have h1 := h.grow m1
  refine ⟨ld1 h1.blk rfl ⟨rfl, rfl⟩, call (dir_Find h1.dir h0) ?_⟩
  rintro ids w2 ⟨hO, m2, hF⟩
  have h2 := h1.grow m2
  have hM2 := m1.trn m2
  have hS := hO.slr
  have hil := logIds_len es k
  have hI : sortI (dirIds es (hashOf k)) = logIds es k := rfl
  rw [hI] at hS hO
  have hmem : ∀ i ∈ logIds es k, 0 ≤ i ∧ i < l.length := fun i hi => by
    obtain ⟨e, he, hh, _, rfl⟩ := logIds_mem hi
    exact h.ids e he hh
  have hdef : logFind l es k = logFindGo l k (logIds es k) := rfl
  rw [hdef]
  generalize logIds es k = is at *
  clear hO h1
  obtain ⟨a, cp, rfl⟩ := hS.len
  refine loop (σ := Nat) (fun j => [(0, ptr q), (1, sV k), (15, .slice a is.length cp), (16, iV is.length), (17, iV j)]) (fun j w' => w' = w2 ∧ j ≤ is.length ∧ logFindGo l k (is.drop j) = logFindGo l k is) (fun j _ => is.length - j) 0 ⟨rfl, rfl, rfl, rfl, rfl, trivial⟩ ⟨rfl, by omega, by rw [List.drop_zero]⟩ ?_
  rintro j w3 ⟨rfl, hj, hG⟩
  refine cond2 (fun h3 => ?_) (fun h3 => ?_)
  · have h3 : (j : Int) < is.length := of_decT h3
    have hlt : j < is.length := by omega
    have hr := getE hlt
    have hm := hmem _ (List.getElem_mem hlt)
    rw [List.drop_eq_getElem_cons hlt, logFindGo] at hG
    generalize is[j] = i at *
    obtain ⟨gb, go, gc, e, hgb, hgr⟩ := hS.at hr
    cases e
    have hil' : i.toNat < l.length := by omega
    have hgd : l.getD i.toNat Rec.zero = l[i.toNat] := by rw [List.getD_eq_getElem?_getD, getE hil']; rfl
    rw [hgd] at hG
    have hrl := getE hil'
    generalize l[i.toNat] = r at *
    obtain ⟨lb, lo, lc, e, hlb, hlr⟩ := h2.own.slr.at hrl
    subst e
    refine ⟨by omega, by omega, ld1r (j := 0) hgr rfl (ld1 h2.blk rfl ⟨hm.1, hm.2, ld1r (j := 0) hlr rfl (cond2 (fun h4 => ?_) (fun h4 => ?_))⟩)⟩
    · rw [beq_str] at h4
      rw [if_pos (of_decT h4)] at hG
      rw [← hG]
      exact ⟨rfl, hM2⟩
    · rw [beq_str] at h4
      rw [if_neg (of_decF h4)] at hG
      exact ⟨j + 1, ⟨rfl, rfl, rfl, rfl, congrArg some (ctr (by omega)), trivial⟩, ⟨rfl, by omega, hG⟩, by omega⟩
  · have h3 : ¬ (j : Int) < is.length := of_decF h3
    rw [List.drop_of_length_le (by omega), logFindGo] at hG
    rw [← hG]
    exact ⟨rfl, hM2⟩
theorem logFind_rng {w : World} {q p : Nat} {v : Value} {l : List Rec} {es : List Ent} (h : LogR w q p v l es) (k : Str) : logFind l es k = -1 ∨ (0 ≤ logFind l es k ∧ logFind l es k < l.length) := by
  unfold logFind
  rcases logFindGo_mem l k (logIds es k) with h1 | h1
  · exact .inl h1
  · obtain ⟨e, he, hh, _, hi⟩ := logIds_mem h1.1
    rw [← hi]
    exact .inr (h.ids e he hh)
theorem log_Get {w : World} {q p : Nat} {v : Value} {l : List Rec} {es : List Ent} {k : Str} (h : LogR w q p v l es) (hk : k.length ≤ 1000000000) : CallV P 30 [ptr q, sV k] w fun r w' => r = (if logFind l es k < 0 then .tuple #[recV Rec.zero, .bool false] else .tuple #[recV (l.getD (logFind l es k).toNat Rec.zero), .bool true]) ∧ Mod no w w' := by
  have hr := logFind_rng h k
  refine calls_of lay_is Tryz.func30 rfl (by kernel_rfl) (al fun b4 w1 e1 m1 s1 hb1 => call (log_find (h.grow m1) hk) ?_)
  rintro _ w2 ⟨rfl, m2⟩
  have hb2 := Blk.mod hb1 m2 fun h => h
  have h2 := (h.grow m1).grow m2
  have hM := m1.trn m2
  generalize logFind l es k = i at *
  refine cond2 (fun h3 => ?_) (fun h3 => ?_)
  · have h3 : i < 0 := of_decT h3
    rw [if_pos h3]
    exact ⟨_, rfl, st hb2 rfl (by decide) (by decide) fun w3 m3 s3 hb3 => ldB hb3 rfl ⟨rfl, hM.new m3 (by omega)⟩⟩
  · have h3 : ¬ i < 0 := of_decF h3
    rw [if_neg h3]
    have hil : i.toNat < l.length := by omega
    have hgd : l.getD i.toNat Rec.zero = l[i.toNat] := by rw [List.getD_eq_getElem?_getD, getE hil]; rfl
    rw [hgd]
    have hrl := getE hil
    generalize l[i.toNat] = r at *
    obtain ⟨lb, lo, lc, e, hlb, hlr⟩ := h2.own.slr.at hrl
    subst e
    exact ld1 h2.blk rfl ⟨by omega, by omega, ldN (cs := recC r) hlr rfl (st hb2 rfl (by decide) (recC_one _) fun w3 m3 s3 hb3 => ldB hb3 rfl ⟨rfl, hM.new m3 (by omega)⟩)⟩
theorem log_Reads {w : World} {q p : Nat} {v : Value} {l : List Rec} {es : List Ent} {k : Str} (h : LogR w q p v l es) (hk : k.length ≤ 1000000000) : CallV P 32 [ptr q, sV k] w fun r w' => r = iV (logIds es k).length ∧ Mod no w w' := by
  have h0 := (hashOf_rng k).1
  have hb : Blk w.drew q 115 [v, ptr p] := h.blk
  refine calls_of lay_is Tryz.func32 rfl (by kernel_rfl) (condF rfl (draw [(0, []), (1, []), (2, []), (3, []), (4, []), (5, [3]), (6, []), (7, []), (8, [])] (by kernel_rfl) (ld1 hb rfl (call (hash_Of (by omega)) ?_))))
  rintro _ w1 ⟨rfl, m1⟩
  have m1 : Mod no w w1 := m1
  have h1 := h.grow m1
  refine ⟨ld1 h1.blk rfl ⟨rfl, rfl⟩, call (dir_Find h1.dir h0) ?_⟩
  rintro ids w2 ⟨hO, m2, hF⟩
  obtain ⟨a, cp, rfl⟩ := hO.slr.len
  exact ⟨rfl, m1.trn m2⟩
theorem log_List {w : World} {q p : Nat} {v : Value} {l : List Rec} {es : List Ent} (h : LogR w q p v l es) : CallV P 19 [ptr q] w fun r w' => Own cRec 30 w' r (newest l) ∧ Mod no w w' ∧ ∀ k, r.ownBlock = some k → w.heap.size ≤ k := by
  have hl := h.len
  refine calls_of lay_is Tryz.func19 rfl (by kernel_rfl) (condF rfl (ld1 h.blk rfl (call (record_Newest h.own.slr (by omega) fun r hr => by have := (h.fit r hr).key; omega) ?_)))
  rintro r w1 hR
  exact hR
def logSlot (l : List Rec) (es : List Ent) (i : Nat) : Rec × Bool := if (es.getD i Ent.zero).has = true then (l.getD (es.getD i Ent.zero).id.toNat Rec.zero, true) else (Rec.zero, false)
theorem log_Slot {w : World} {q p : Nat} {v : Value} {l : List Rec} {es : List Ent} {b s : Nat} (h : LogR w q p v l es) (hb : b < 8) (hs : s < 4) : CallV P 18 [ptr q, iV b, iV s] w fun r w' => r = .tuple #[recV (logSlot l es (b * 4 + s)).1, .bool (logSlot l es (b * 4 + s)).2] ∧ Mod no w w' := by
  have hk : b * 4 + s < es.length := by rw [h.dir.len]; omega
  have hi := h.ids (es.getD (b * 4 + s) Ent.zero) (by rw [getD_at hk]; exact List.getElem_mem hk)
  refine calls_of lay_is Tryz.func18 rfl (by kernel_rfl) (al fun b6 w1 e1 m1 s1 hb1 => condF rfl (ld1 (h.grow m1).blk rfl (call (dir_At (h.grow m1).dir hb hs) ?_)))
  rintro _ w2 ⟨rfl, m2⟩
  have hb2 := Blk.mod hb1 m2 fun h => h
  have h2 := (h.grow m1).grow m2
  have hM := m1.trn m2
  unfold logSlot
  generalize es.getD (b * 4 + s) Ent.zero = e at *
  refine cond2 (fun h3 => ?_) (fun h3 => ?_)
  · have h3 : (!e.has) = true := h3
    have h3 : e.has = false := by simpa using h3
    rw [h3, if_neg (by decide)]
    exact ⟨_, rfl, st hb2 rfl (by decide) (by decide) fun w3 m3 s3 hb3 => ldB hb3 rfl ⟨rfl, hM.new m3 (by omega)⟩⟩
  · have h3 : (!e.has) = false := h3
    have h3 : e.has = true := by simpa using h3
    rw [if_pos h3]
    have hi := hi h3
    have hil : e.id.toNat < l.length := by omega
    have hgd : l.getD e.id.toNat Rec.zero = l[e.id.toNat] := by rw [List.getD_eq_getElem?_getD, getE hil]; rfl
    rw [hgd]
    have hrl := getE hil
    generalize l[e.id.toNat] = r at *
    obtain ⟨lb, lo, lc, e', hlb, hlr⟩ := h2.own.slr.at hrl
    subst e'
    exact ld1 h2.blk rfl ⟨hi.1, hi.2, ldN (cs := recC r) hlr rfl (st hb2 rfl (by decide) (recC_one _) fun w3 m3 s3 hb3 => ldB hb3 rfl ⟨rfl, hM.new m3 (by omega)⟩)⟩
end Go.Proofs.YtffjccofglikhaaGreat
