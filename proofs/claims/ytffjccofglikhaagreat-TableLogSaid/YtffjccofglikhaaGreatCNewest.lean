/-
  record.Newest, order.List, hashstore's List.
-/
import Derived.Test.YtffjccofglikhaaGreatCKeys
namespace Go.Proofs.YtffjccofglikhaaGreat
open Go Go.RowKit

def newMap (L : List Rec) : List (Str × Rec) := L.foldl (fun m r => mput m r.key r) []
def newest (L : List Rec) : List Rec := (sortS ((newMap L).map (·.1))).map fun k => (mget (newMap L) k).getD Rec.zero
theorem mput_len {κ α : Type} [DecidableEq κ] (l : List (κ × α)) (k : κ) (v : α) : (mput l k v).length ≤ l.length + 1 := by
  unfold mput
  split
  · rw [List.length_map]; omega
  · rw [List.length_append]; simp
theorem newMap_len (L : List Rec) : (newMap L).length ≤ L.length := by
  have : ∀ (L : List Rec) (m : List (Str × Rec)), (L.foldl (fun m r => mput m r.key r) m).length ≤ m.length + L.length := by
    intro L
    induction L with
    | nil => intro m; exact Nat.le_refl _
    | cons r L ih =>
      intro m
      rw [List.foldl_cons, List.length_cons]
      have h1 := ih (mput m r.key r)
      have h2 := mput_len m r.key r
      omega
  have := this L []
  simpa [newMap] using this
theorem sortS_len (l : List Str) : (sortS l).length = l.length := List.length_mergeSort _
theorem mem_sortS {l : List Str} {k : Str} : k ∈ sortS l ↔ k ∈ l := List.mem_mergeSort
theorem mget_mem {κ α : Type} [DecidableEq κ] {l : List (κ × α)} {k : κ} (h : k ∈ l.map (·.1)) : ∃ v, mget l k = some v := by
  obtain ⟨p, hp, rfl⟩ := List.mem_map.1 h
  unfold mget
  cases hf : l.find? fun q => decide (q.1 = p.1) with
  | none => rw [List.find?_eq_none] at hf; exact absurd (decT rfl) (hf p hp)
  | some q => exact ⟨q.2, rfl⟩
theorem one_max {α : Type} (x : α) : [x].length ≤ maxLen := by show 1 ≤ maxLen; unfold maxLen; omega
theorem mapRec_u : P.underlying 215 = some (.map 9 30) := by kernel_rfl
theorem record_Newest {w : World} {v : Value} {L : List Rec} (hv : SlR cRec w v L) (hl : L.length ≤ 1000000) (hk : ∀ r ∈ L, r.key.length ≤ 2147483000) : CallV P 71 [v] w fun r w' => Own cRec 30 w' r (newest L) ∧ Mod no w w' ∧ ∀ k, r.ownBlock = some k → w.heap.size ≤ k := by
  obtain ⟨a, cp, rfl⟩ := hv.len
  have hM : (2147483000 : Nat) ≤ maxLen := by unfold maxLen; omega
  refine calls_of lay_is Tryz.func71 rfl (by kernel_rfl) (mmap (q := kcS) (c := recV) fun b w1 e1 m1 s1 hb1 => ?_)
  refine loop (σ := Nat) (fun s => [(10, .slice a L.length cp), (11, iV L.length), (12, iV s), (3, .map (some b))]) (fun s w' => s ≤ L.length ∧ Mod no w w' ∧ MapR kcS recV w' b (newMap (L.take s))) (fun s _ => L.length - s) 0 ⟨rfl, rfl, rfl, rfl, trivial⟩ ⟨by omega, m1, hb1⟩ ?_
  rintro i w2 ⟨hi, hM2, hR⟩
  dsimp only at *
  have hS := hv.grow hM2
  refine cond2 (fun h1 => ?_) (fun h1 => ?_)
  · have h1 : (i : Int) < L.length := of_decT h1
    have hlt : i < L.length := by omega
    have hr := getE hlt
    have hkr := hk _ (List.getElem_mem hlt)
    have htk : newMap (L.take (i + 1)) = mput (newMap (L.take i)) L[i].key L[i] := by
      unfold newMap
      rw [← List.take_append_getElem hlt, List.foldl_append]; rfl
    have hml := newMap_len (L.take i)
    rw [List.length_take] at hml
    generalize L[i] = r at *
    obtain ⟨gb, go, gc, e, hgb, hgr⟩ := hS.at hr
    cases e
    refine ⟨by omega, by omega, ldN (cs := recC r) hgr rfl (al fun b5 w5 e5 m5 s5 hb5 => st hb5 rfl (by decide) (recC_one _) fun w6 m6 s6 hb6 => ?_)⟩
    have hb6 : Blk w6 b5 30 (recC r) := hb6
    have hR6 := (hR.mod m5 (fun h => h)).mod m6 (by have := hR.lt; omega)
    refine ld1 hb6 rfl (ldB hb6 rfl (mupd mapRec_u hR6 (by omega) (by show r.key.length ≤ maxLen; omega) (v := r) rfl fun w7 m7 s7 hR7 => ?_))
    refine ⟨i + 1, ⟨rfl, rfl, congrArg some (ctr (by omega)), rfl, trivial⟩, ⟨by omega, ?_, ?_⟩, by omega⟩
    · exact ((hM2.trn m5).new m6 (by have := hM2.size; omega)).new m7 (by have := m1.size; omega)
    · rw [htk]; exact hR7
  · have hin : i = L.length := by have := of_decF h1; omega
    subst hin
    rw [List.take_length] at hR
    have hml := newMap_len L
    have hR' : MapR kcS recV w2.drew b (newMap L) := hR
    refine call (keys_rec hR (by omega)) ?_
    rintro f w3 ⟨m3, hf⟩
    refine call hf ?_
    rintro ks w4 ⟨hO4, m4, hF4⟩
    obtain ⟨ka, kc, rfl⟩ := hO4.slr.len
    have hM4 := (hM2.trn m3).trn m4
    have hR4 := (hR.mod m3 fun h => h).mod m4 fun h => h
    have hS4 := hO4.slr
    clear hR hR' m3 m4 hf
    generalize hks : sortS ((newMap L).map (·.1)) = KS at *
    have hKS : KS.length ≤ 1000000 := by rw [← hks, sortS_len, List.length_map]; omega
    refine loop (σ := Nat × Value) (fun s => [(23, .slice ka KS.length kc), (24, iV KS.length), (25, iV s.1), (3, .map (some b)), (6, s.2)]) (fun s w' => s.1 ≤ KS.length ∧ Mod no w w' ∧ Mod no w4 w' ∧ (∀ k, s.2.ownBlock = some k → w4.heap.size ≤ k) ∧ Own cRec 30 w' s.2 ((KS.take s.1).map fun k => (mget (newMap L) k).getD Rec.zero)) (fun s _ => KS.length - s.1) (0, .slice none 0 0) ⟨rfl, rfl, rfl, rfl, rfl, trivial⟩ ⟨by omega, hM4, Mod.refl _ _, nofun, Own.nil _ _⟩ ?_
    rintro ⟨i, u⟩ w5 ⟨hi, hM5, m45, hFu, hO⟩
    dsimp only at *
    refine cond2 (fun h2 => ?_) (fun h2 => ?_)
    · have h2 : (i : Int) < KS.length := of_decT h2
      have hlt : i < KS.length := by omega
      have hr := getE hlt
      have hmem : KS[i] ∈ (newMap L).map (·.1) := by
        have hm : ∀ k ∈ KS, k ∈ (newMap L).map (·.1) := fun k hk => mem_sortS.1 (by rw [hks]; exact hk)
        exact hm _ (List.getElem_mem hlt)
      have htk : (KS.take (i + 1)).map (fun k => (mget (newMap L) k).getD Rec.zero) = (KS.take i).map (fun k => (mget (newMap L) k).getD Rec.zero) ++ [(mget (newMap L) KS[i]).getD Rec.zero] := by
        rw [← List.take_append_getElem hlt, List.map_append]; rfl
      generalize KS[i] = k at *
      obtain ⟨x, hx⟩ := mget_mem hmem
      rw [hx] at htk
      obtain ⟨gb, go, gc, e, hgb, hgr⟩ := (hS4.grow m45).at hr
      cases e
      have hR5 := hR4.mod m45 fun h => h
      have hkl : kcS.ok k := by
        obtain ⟨p, hp, rfl⟩ := List.mem_map.1 hmem
        exact hR5.1 p hp
      refine ⟨by omega, by omega, ld1r (j := 0) hgr rfl (mlook mapRec_u hR5 hkl hx (ok := false) ?_)⟩
      refine ⟨by decide, _, rfl, al fun b6 w6 e6 m6 s6 hb6 => app lay_is rfl (hO.grow m6) (Own.mk (c := cRec) (xs := [x]) hb6 rfl rfl (one_max _)).slr (by rw [List.length_map, List.length_take]; show _ + 1 ≤ _; omega) fun u' w7 hO7 m7 hf7 => ?_⟩
      refine ⟨(i + 1, u'), ⟨rfl, rfl, congrArg some (ctr (by omega)), rfl, rfl, trivial⟩, ⟨by show i + 1 ≤ _; omega, ?_, ?_, ?_, ?_⟩, by show KS.length - (i + 1) < KS.length - i; omega⟩
      · exact (hM5.trn m6).own m7 fun k hk => by have := hFu k hk; have := hM4.size; omega
      · exact (m45.trn m6).own m7 fun k hk => by have := hFu k hk; omega
      · intro k hk
        rcases hf7 k hk with h | h
        · exact hFu k h
        · have := m45.size; have := m6.size; omega
      · show Own _ _ _ _ ((KS.take (i + 1)).map _)
        rw [htk]; exact hO7
    · have hin : i = KS.length := by have := of_decF h2; omega
      subst hin
      rw [List.take_length] at hO
      refine ⟨?_, hM5, fun k hk => by have := hFu k hk; have := hM4.size; omega⟩
      unfold newest
      rw [hks]
      exact hO
theorem newMap_key : ∀ (L : List Rec), ∀ p ∈ newMap L, p.2.key = p.1 ∧ p.2 ∈ L := by
  have : ∀ (L : List Rec) (m : List (Str × Rec)) (S : List Rec), (∀ p ∈ m, p.2.key = p.1 ∧ p.2 ∈ S) → (∀ r ∈ L, r ∈ S) → ∀ p ∈ L.foldl (fun m r => mput m r.key r) m, p.2.key = p.1 ∧ p.2 ∈ S := by
    intro L
    induction L with
    | nil => intro m S h _; exact h
    | cons r L ih =>
      intro m S h hS
      rw [List.foldl_cons]
      refine ih _ S (fun p hp => ?_) fun x hx => hS x (by simp [hx])
      unfold mput at hp
      split at hp
      · obtain ⟨x, hx, rfl⟩ := List.mem_map.1 hp
        split
        · exact ⟨rfl, hS r (by simp)⟩
        · exact h x hx
      · rcases List.mem_append.1 hp with hp | hp
        · exact h p hp
        · rw [List.mem_singleton] at hp; subst hp; exact ⟨rfl, hS r (by simp)⟩
  intro L
  exact this L [] L (by simp) fun r h => h
set_option maxRecDepth 20000 in
theorem order_List {w : World} {t : List Slot} (hl : t.length = 32) (hk : ∀ s ∈ t, s.rec_.key.length ≤ 2147483000) : CallV P 74 [tabV t] w fun r w' => Own cRec 30 w' r (newest (recsOf t)) ∧ Mod no w w' ∧ ∀ k, r.ownBlock = some k → w.heap.size ≤ k := by
  have h192 : (flat cSlot t).length = 192 := by rw [flat_len, hl]; rfl
  refine calls_of lay_is Tryz.func74 rfl (by kernel_rfl) (al fun b1 w1 e1 m1 s1 hb1 => ?_)
  have hb1 : Blk w1 b1 44 (flat cSlot t) := hb1
  refine ldB hb1 h192 ?_
  refine loop (σ := Nat × Value) (fun s => [(8, tabV t), (9, iV s.1), (3, s.2)]) (fun s w' => s.1 ≤ 8 ∧ Mod no w w' ∧ (∀ k, s.2.ownBlock = some k → w.heap.size ≤ k) ∧ Own cRec 30 w' s.2 (recsOf (t.take (s.1 * 4)))) (fun s _ => 8 - s.1) (0, .slice none 0 0) ⟨rfl, rfl, rfl, trivial⟩ ⟨by omega, m1, nofun, Own.nil _ _⟩ ?_
  clear hb1
  rintro ⟨i, u⟩ w2 ⟨hi, hM, hF, hO⟩
  dsimp only at *
  refine cond2 (fun h1 => ?_) (fun h1 => ?_)
  · have h1 : (i : Int) < 8 := of_decT h1
    have hi8 : i < 8 := by omega
    have hbl := bkt_len hl hi8
    have h24 : (flat cSlot (bkt t i)).length = 24 := by rw [flat_len, hbl]; rfl
    refine idx_bkt hi8 (al fun b3 w3 e3 m3 s3 hb3 => st hb3 h24 (by decide) (flat_one _ _) fun w4 m4 s4 hb4 => ?_)
    have hb4 : Blk w4 b3 42 (flat cSlot (bkt t i)) := by
      have := hb4
      rw [List.take_zero, List.nil_append, List.drop_of_length_le (by decide), List.append_nil] at this
      exact this
    have hM4 : Mod no w w4 := (hM.trn m3).new m4 (by have := hM.size; omega)
    have hO4 := (hO.grow m3).mod m4 (fun k hk e => by have := (hO.grow m3).lt k hk; have := hO.lt k hk; omega)
    refine ldB hb4 h24 ?_
    refine loop (σ := Nat × Value) (fun s => [(8, tabV t), (9, iV i), (12, tabV (bkt t i)), (13, iV s.1), (3, s.2)]) (fun s w' => s.1 ≤ 4 ∧ Mod no w w' ∧ (∀ k, s.2.ownBlock = some k → w.heap.size ≤ k) ∧ Own cRec 30 w' s.2 (recsOf (t.take (i * 4 + s.1)))) (fun s _ => 4 - s.1) (0, u) ⟨rfl, rfl, rfl, rfl, rfl, trivial⟩ ⟨by omega, hM4, hF, hO4⟩ ?_
    clear hb4 hM4 hO4 m3 m4 hM hF hO
    rintro ⟨j, v⟩ w5 ⟨hj, hM, hF, hO⟩
    dsimp only at *
    refine cond2 (fun h2 => ?_) (fun h2 => ?_)
    · have h2 : (j : Int) < 4 := of_decT h2
      have hj4 : j < 4 := by omega
      have hlt : i * 4 + j < t.length := by omega
      have hs : (bkt t i)[j]? = some t[i * 4 + j] := by rw [bkt_at hj4]; exact getE hlt
      have htk : recsOf (t.take (i * 4 + (j + 1))) = recsOf (t.take (i * 4 + j)) ++ if t[i * 4 + j].has = true then [t[i * 4 + j].rec_] else [] := by
        rw [← recsOf_snoc, List.take_append_getElem hlt]; rfl
      generalize t[i * 4 + j] = s at *
      refine idx_slot hs hj4 (al fun b6 w6 e6 m6 s6 hb6 => st hb6 rfl (by decide) (cSlot.one s) fun w7 m7 s7 hb7 => ?_)
      have hb7 : Blk w7 b6 41 (slotC s) := hb7
      have hM7 : Mod no w w7 := (hM.trn m6).new m7 (by have := hM.size; omega)
      have hO7 := (hO.grow m6).mod m7 (fun k hk e => by have := hO.lt k hk; omega)
      refine ld1 hb7 rfl (cond2 (fun h3 => ?_) (fun h3 => ?_))
      · have h3 : s.has = true := h3
        rw [if_pos h3] at htk
        refine ldN (cs := recC s.rec_) (hb7.rd 1 5) rfl ⟨by decide, _, rfl, al fun b8 w8 e8 m8 s8 hb8 => app lay_is rfl (hO7.grow m8) (Own.mk (c := cRec) (xs := [s.rec_]) hb8 rfl rfl (one_max _)).slr (by have := recsOf_le (t.take (i * 4 + j)); rw [List.length_take] at this; show _ + 1 ≤ _; omega) fun u' w9 hO9 m9 hf9 => ?_⟩
        refine ⟨(j + 1, u'), ⟨rfl, rfl, rfl, congrArg some (ctr (by omega)), rfl, trivial⟩, ⟨by show j + 1 ≤ 4; omega, (hM7.trn m8).own m9 hF, ?_, ?_⟩, by show 4 - (j + 1) < 4 - j; omega⟩
        · intro k hk
          rcases hf9 k hk with h | h
          · exact hF k h
          · have := hM7.size; have := m8.size; omega
        · show Own _ _ _ _ (recsOf (t.take (i * 4 + (j + 1))))
          rw [htk]; exact hO9
      · have h3 : s.has = false := h3
        rw [h3, if_neg (by decide), List.append_nil] at htk
        refine ⟨(j + 1, v), ⟨rfl, rfl, rfl, congrArg some (ctr (by omega)), rfl, trivial⟩, ⟨by show j + 1 ≤ 4; omega, hM7, hF, ?_⟩, by show 4 - (j + 1) < 4 - j; omega⟩
        show Own _ _ _ _ (recsOf (t.take (i * 4 + (j + 1))))
        rw [htk]; exact hO7
    · have hj4 : j = 4 := by have := of_decF h2; omega
      subst hj4
      refine ⟨(i + 1, v), ⟨rfl, congrArg some (ctr (by omega)), rfl, trivial⟩, ⟨by show i + 1 ≤ 8; omega, hM, hF, ?_⟩, by show 8 - (i + 1) < 8 - i; omega⟩
      show Own _ _ _ _ (recsOf (t.take ((i + 1) * 4)))
      rw [show (i + 1) * 4 = i * 4 + 4 by omega]; exact hO
  · have hi8 : i = 8 := by have := of_decF h1; omega
    subst hi8
    rw [List.take_of_length_le (by omega)] at hO
    refine call (record_Newest hO.slr (by have := recsOf_le t; omega) ?_) ?_
    · intro r hr
      unfold recsOf at hr
      obtain ⟨s, hs, rfl⟩ := List.mem_map.1 hr
      exact hk s (List.mem_filter.1 hs).1
    · rintro r w3 ⟨h1, h2, h3⟩
      exact ⟨h1, hM.trn h2, fun k hk => by have := h3 k hk; have := hM.size; omega⟩
end Go.Proofs.YtffjccofglikhaaGreat
