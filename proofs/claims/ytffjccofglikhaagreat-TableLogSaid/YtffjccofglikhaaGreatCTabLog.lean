/-
  loesslaw20.TableLog.
-/
import Derived.Test.YtffjccofglikhaaGreatLLog
namespace Go.Proofs.YtffjccofglikhaaGreat
open Go Go.RowKit

/-! ### The table of a log -/
def logTab (s : LogS) : List Slot := (List.range 32).map fun i => ⟨(logSlot s.l s.es i).2, (logSlot s.l s.es i).1⟩
def slotOf (l : List Rec) (e : Ent) : Slot := if e.has = true then ⟨true, l.getD e.id.toNat Rec.zero⟩ else Slot.zero
theorem logTab_is {s : LogS} (h : LogOk s) : logTab s = s.es.map (slotOf s.l) := by
  apply List.ext_getElem?
  intro i
  unfold logTab
  rw [List.getElem?_map, List.getElem?_map]
  by_cases hi : i < 32
  · have hl : i < s.es.length := by rw [h.len]; exact hi
    rw [List.getElem?_range hi, getE hl]
    simp only [Option.map_some]
    unfold logSlot slotOf
    rw [getD_at hl]
    split
    · rfl
    · rfl
  · rw [List.getElem?_eq_none (by simp; omega), List.getElem?_eq_none (by rw [h.len]; omega)]; rfl
theorem logTab_len (s : LogS) : (logTab s).length = 32 := by unfold logTab; simp
theorem recsOf_ents (l : List Rec) (es : List Ent) : recsOf (es.map (slotOf l)) = (es.filter (·.has)).map fun e => l.getD e.id.toNat Rec.zero := by
  induction es with
  | nil => rfl
  | cons e es ih =>
    rw [List.map_cons, recsOf_cons, List.filter_cons, ih]
    unfold slotOf
    cases hh : e.has with
    | true => rw [if_pos rfl, if_pos rfl, if_pos rfl]; rfl
    | false => simp [Slot.zero]
theorem logTab_recs {s : LogS} (h : LogOk s) : (recsOf (logTab s)).Perm s.l := by
  rw [logTab_is h, recsOf_ents]
  have e1 : (s.es.filter (·.has)).map (fun e => s.l.getD e.id.toNat Rec.zero) = (hasIds s.es).map fun i => s.l.getD i.toNat Rec.zero := by unfold hasIds; rw [List.map_map]; rfl
  rw [e1]
  refine (h.perm.map _).trans (List.Perm.of_eq ?_)
  rw [List.map_map]
  apply List.ext_getElem?
  intro i
  rw [List.getElem?_map]
  by_cases hi : i < s.l.length
  · rw [List.getElem?_range hi]
    simp only [Option.map_some, Function.comp_apply, Int.toNat_natCast]
    rw [List.getD_eq_getElem?_getD, getE hi]; rfl
  · rw [List.getElem?_eq_none (by simp; omega), List.getElem?_eq_none (by omega)]; rfl
theorem logTab_may {s : LogS} (h : LogOk s) : MayT (logTab s) := by
  refine ⟨fun i x hx => ?_, ?_⟩
  · rw [logTab_is h, List.getElem?_map] at hx
    cases he : s.es[i]? with
    | none => rw [he] at hx; cases hx
    | some e =>
      rw [he] at hx
      have hx := Option.some.inj hx
      subst hx
      unfold slotOk slotOf
      cases hh : e.has with
      | false => rfl
      | true =>
        obtain ⟨r, a1, a2, a3, a4⟩ := h.ent i e he hh
        have hgd : s.l.getD e.id.toNat Rec.zero = r := by rw [List.getD_eq_getElem?_getD, a2]; rfl
        rw [if_pos rfl, if_pos rfl, hgd]
        refine ⟨h.may r (List.mem_of_getElem? a2), ?_⟩
        unfold ordBelongs
        unfold hsB at a4
        rcases List.mem_cons.1 a4 with a4 | a4
        · rw [decT a4]; rfl
        · rw [List.mem_singleton] at a4; rw [decT a4, Bool.or_true]
  · exact ((logTab_recs h).map (·.key)).nodup_iff.2 h.nd
theorem logTab_reads {s : LogS} (h : LogOk s) (k : Str) : (hsLike (logTab s) k).length = (logIds s.es k).length := by
  have key : ∀ b ∈ hB2 (hashOf k), (hsPick (logTab s) (hTag (hashOf k)) (hsLo (logTab s) b) (hsHi (logTab s) b - hsLo (logTab s) b)).length = (idsB s.es (hashOf k) b.toNat 4).length := by
    intro b hb
    have hbr := hB2_rng (hashOf_rng k).1 b hb
    obtain ⟨n, hn⟩ : ∃ n : Nat, (n : Int) = b := ⟨b.toNat, by omega⟩
    rw [← hn, Int.toNat_natCast, hsPick_is (logTab_len s) (by omega), logTab_is h]
    have e1 : bkt (s.es.map (slotOf s.l)) n = (bktE s.es n).map (slotOf s.l) := by unfold bkt bktE; rw [← List.map_drop, ← List.map_take]
    rw [e1, recsOf_ents]
    unfold idsB
    rw [List.length_map, List.take_of_length_le (by rw [bktE_len h.len (by omega)]; omega), List.filter_map, List.length_map, List.filter_filter]
    congr 1
    refine List.filter_congr fun e he => ?_
    rw [Bool.and_comm]
    cases hh : e.has with
    | false => rw [Bool.false_and, Bool.false_and]
    | true =>
      have hm : e ∈ s.es := List.mem_of_mem_drop (List.mem_of_mem_take he)
      obtain ⟨i, hi⟩ := List.getElem?_of_mem hm
      obtain ⟨r, a1, a2, a3, a4⟩ := h.ent i e hi hh
      have e5 : s.l.getD e.id.toNat Rec.zero = r := by rw [List.getD_eq_getElem?_getD, a2, Option.getD_some]
      rw [Function.comp_apply, e5, a3]
  have e1 : (logIds s.es k).length = (dirIds s.es (hashOf k)).length := List.length_mergeSort _
  have e2 : hsLike (logTab s) k = (hB2 (hashOf k)).flatMap fun b => hsPick (logTab s) (hTag (hashOf k)) (hsLo (logTab s) b) (hsHi (logTab s) b - hsLo (logTab s) b) := rfl
  have e3 : dirIds s.es (hashOf k) = (hB2 (hashOf k)).flatMap fun b => idsB s.es (hashOf k) b.toNat 4 := rfl
  rw [e1, e2, e3]
  generalize hB2 (hashOf k) = B at *
  clear e1 e2 e3
  induction B with
  | nil => rfl
  | cons b B ih =>
    rw [List.flatMap_cons, List.flatMap_cons, List.length_append, List.length_append, key b (by simp), ih fun x hx => key x (by simp [hx])]
/-! ### The walks -/
theorem ref10_EqRecs {w : World} {u v : Value} {L M : List Rec} (hu : SlR cRec w u L) (hv : SlR cRec w v M) (hl : L.length ≤ 1000000) : CallV P 26 [u, v] w fun r w' => r = .bool (decide (L = M)) ∧ Mod no w w' := by
  obtain ⟨a, cp, rfl⟩ := hu.len
  obtain ⟨a2, cp2, rfl⟩ := hv.len
  refine calls_of lay_is Tryz.func26 rfl (by kernel_rfl) (cond2 (fun h1 => ?_) (fun h1 => ?_))
  · have h1 : ((L.length : Nat) : Int) ≠ (M.length : Nat) := bneT h1
    rw [decF (fun e => h1 (by rw [e]))]
    exact ⟨rfl, Mod.refl _ _⟩
  · have h1 : ((L.length : Nat) : Int) = (M.length : Nat) := bneF h1
    refine loop (σ := Nat) (fun i => [(0, .slice a L.length cp), (1, .slice a2 M.length cp2), (5, iV i)]) (fun i w' => i ≤ L.length ∧ (∀ j, j < i → L[j]? = M[j]?) ∧ Mod no w w') (fun i _ => L.length - i) 0 ⟨rfl, rfl, rfl, trivial⟩ ⟨by omega, fun j hj => by omega, Mod.refl _ _⟩ ?_
    rintro i w1 ⟨hi, hE, hM⟩
    refine cond2 (fun h2 => ?_) (fun h2 => ?_)
    · have h2 : (i : Int) < L.length := of_decT h2
      have hla : i < L.length := by omega
      have hlb : i < M.length := by omega
      have hea := getE hla
      have heb := getE hlb
      have hne : L[i] ≠ M[i] → decide (L = M) = false := fun h => decF fun e => h (by subst e; rfl)
      generalize L[i] = x at *
      generalize M[i] = y at *
      obtain ⟨gb, go, gc, e, hgb, hgr⟩ := (hu.grow hM).at hea
      cases e
      obtain ⟨gb2, go2, gc2, e, hgb2, hgr2⟩ := (hv.grow hM).at heb
      cases e
      refine draw [(0, []), (1, []), (2, []), (3, []), (4, []), (5, []), (6, []), (7, []), (8, []), (9, [])] (by kernel_rfl) ⟨by omega, by omega, ldN (w := w1.drew) (cs := recC x) hgr rfl ⟨by omega, by omega, ldN (w := w1.drew) (cs := recC y) hgr2 rfl (call ref10_Eq ?_)⟩⟩
      rintro _ w2 ⟨rfl, m2⟩
      have m2 : Mod no w1 w2 := m2
      refine cond2 (fun h3 => ?_) (fun h3 => ?_)
      · have h3 : (!decide (x = y)) = true := h3
        have h3 : ¬ x = y := by simpa using h3
        rw [hne h3]
        exact ⟨rfl, hM.trn m2⟩
      · have h3 : (!decide (x = y)) = false := h3
        have h3 : x = y := by simpa using h3
        refine ⟨i + 1, ⟨rfl, rfl, congrArg some (ctr (by omega)), trivial⟩, ⟨by omega, fun j hj => ?_, hM.trn m2⟩, by omega⟩
        by_cases hji : j = i
        · rw [hji, hea, heb, h3]
        · exact hE j (by omega)
    · have h2 : ¬ (i : Int) < L.length := of_decF h2
      have : L = M := all_eq (by omega) fun j hj => hE j (by omega)
      rw [decT this]
      exact ⟨rfl, hM⟩
/-- What a record of the input is good for. -/
def RecIn (r : Rec) : Prop := i64R r.val.kind ∧ i64R r.val.n
theorem recCut_fit {r : Rec} (h : RecIn r) : RecFit (recCut r) := by
  refine ⟨⟨h.1, h.2, ?_⟩, ?_⟩
  · show (r.val.s.take 30).length ≤ _; rw [List.length_take]; omega
  · show (r.key.take 20).length ≤ _; rw [List.length_take]; omega
theorem law10_Recs {w : World} {v : Value} {L : List Rec} {n : Nat} (hv : SlR cRec w v L) (hn : n ≤ 1000) : CallV P 15 [v, iV n] w fun r w' => Own cRec 30 w' r ((L.take n).map recCut) ∧ Mod no w w' ∧ ∀ k, r.ownBlock = some k → w.heap.size ≤ k := by
  obtain ⟨a, cp, rfl⟩ := hv.len
  refine calls_of lay_is Tryz.func15 rfl (by kernel_rfl) ?_
  refine loop (σ := Nat × Value) (fun s => [(0, .slice a L.length cp), (1, iV n), (5, s.2), (6, iV s.1)]) (fun s w' => s.1 ≤ n ∧ s.1 ≤ L.length ∧ Own cRec 30 w' s.2 ((L.take s.1).map recCut) ∧ Mod no w w' ∧ ∀ k, s.2.ownBlock = some k → w.heap.size ≤ k) (fun s _ => n - s.1) (0, .slice none 0 0) ⟨rfl, rfl, rfl, rfl, trivial⟩ ⟨Nat.zero_le _, Nat.zero_le _, Own.nil _ _, Mod.refl _ _, nofun⟩ ?_
  rintro ⟨i, u⟩ w1 ⟨hi, hi2, hO, hM, hF⟩
  dsimp only at *
  refine ⟨fun h1 => cond2 (fun h2 => ?_) (fun h2 => ?_), fun h1 => condF rfl ?_⟩
  · have h1 : (i : Int) < L.length := of_decT h1
    have h2 : (i : Int) < n := of_decT h2
    have hlt : i < L.length := by omega
    have hr := getE hlt
    have htk : (L.take (i + 1)).map recCut = (L.take i).map recCut ++ [recCut L[i]] := by rw [← List.take_append_getElem hlt, List.map_append]; rfl
    generalize L[i] = r at *
    obtain ⟨gb, go, gc, e, hgb, hgr⟩ := (hv.grow hM).at hr
    cases e
    refine ⟨by omega, by omega, ldN (cs := recC r) hgr rfl (call law10_Cut ?_)⟩
    rintro _ w2 ⟨rfl, m2⟩
    refine ⟨by decide, _, rfl, al fun b3 w3 e3 m3 s3 hb3 => app lay_is rfl ((hO.grow m2).grow m3) (Own.mk (c := cRec) (xs := [recCut r]) hb3 rfl rfl (one_max _)).slr (by rw [List.length_map, List.length_take]; show _ + 1 ≤ _; omega) fun u' w4 hO4 m4 hf4 => ?_⟩
    have hM3 := (hM.trn m2).trn m3
    refine ⟨(i + 1, u'), ⟨rfl, rfl, rfl, congrArg some (ctr (by omega)), trivial⟩, ⟨by show i + 1 ≤ n; omega, by show i + 1 ≤ _; omega, ?_, hM3.own m4 hF, ge_grow hf4 hM3.size hF⟩, by show n - (i + 1) < n - i; omega⟩
    show Own _ _ _ _ ((L.take (i + 1)).map recCut)
    rw [htk]; exact hO4
  · have h2 : ¬ (i : Int) < n := of_decF h2
    have : i = n := by omega
    subst this
    exact ⟨hO, hM, hF⟩
  · have h1 : ¬ (i : Int) < L.length := of_decF h1
    have : i = L.length := by omega
    subst this
    rw [List.take_length] at hO
    rw [List.take_of_length_le hi]
    exact ⟨hO, hM, hF⟩
def logAll (L : List Rec) : LogS := L.foldl (fun s r => (logPut s r).1) ⟨[], ent0⟩
theorem logAll_ok (L : List Rec) : LogOk (logAll L) := by
  have : ∀ (L : List Rec) (s : LogS), LogOk s → LogOk (L.foldl (fun s r => (logPut s r).1) s) := by
    intro L
    induction L with
    | nil => intro s h; exact h
    | cons r L ih => intro s h; exact ih _ (logPut_ok h r)
  exact this L _ log0_ok
theorem logPut_len (s : LogS) (r : Rec) : (logPut s r).1.l.length ≤ s.l.length + 1 := by
  by_cases hm : recMay r = false
  · rw [logPut_no hm]; exact Nat.le_succ _
  · have hm : recMay r = true := by simpa using hm
    by_cases hf : 0 ≤ logFind s.l s.es r.key
    · rw [logPut_old hm hf]
      show (s.l.set _ r).length ≤ _
      rw [List.length_set]; exact Nat.le_succ _
    · cases hd : dirIns s.es (hashOf r.key) s.l.length with
      | none => rw [logPut_full hm hf hd]; exact Nat.le_succ _
      | some es' =>
        rw [logPut_new hm hf hd]
        show (s.l ++ [r]).length ≤ _
        rw [List.length_append]; exact Nat.le_refl _
theorem tdiv4 {i : Nat} (h : i < 32) : IntKind.i64.wrap ((i : Int).tdiv 4) = ((i / 4 : Nat) : Int) := by rw [Int.tdiv_eq_ediv_of_nonneg (by omega), w64 (by omega) (by omega)]; omega
theorem tmod4 {i : Nat} : (i : Int).tmod 4 = ((i % 4 : Nat) : Int) := by rw [Int.tmod_eq_emod_of_nonneg (by omega)]; omega
end Go.Proofs.YtffjccofglikhaaGreat
