/-
  hashstore: what reads.
-/
import Derived.Test.YtffjccofglikhaaGreatCHs
namespace Go.Proofs.YtffjccofglikhaaGreat
open Go Go.RowKit

def recsOf (t : List Slot) : List Rec := (t.filter (·.has)).map (·.rec_)
def tagsOf (t : List Slot) : List Int := (recsOf t).map fun r => hTag (hashOf r.key)
def hsAt (t : List Slot) (i : Int) : Nat := ones (t.map (·.has)) (min (max i 0) ((t.map (·.has)).length : Int)).toNat
def hsLo (t : List Slot) (b : Int) : Nat := hsAt t (IntKind.i64.wrap (b * 4))
def hsHi (t : List Slot) (b : Int) : Nat := hsAt t (IntKind.i64.wrap (IntKind.i64.wrap (b + 1) * 4))
def hsPick (t : List Slot) (g : Int) (lo n : Nat) : List Rec := (((recsOf t).drop lo).take n).filter fun r => decide (hTag (hashOf r.key) = g)
def hsB (k : Str) : List Int := [hFirst (hashOf k), hOther (hFirst (hashOf k)) (hTag (hashOf k))]
def hsLike (t : List Slot) (k : Str) : List Rec := (hsB k).flatMap fun b => hsPick t (hTag (hashOf k)) (hsLo t b) (hsHi t b - hsLo t b)
theorem recsOf_len (t : List Slot) : (recsOf t).length = ((t.map (·.has)).filter fun b => b).length := by
  unfold recsOf
  induction t with
  | nil => rfl
  | cons s t ih =>
    cases h : s.has <;> simp [h] at ih ⊢ <;> exact ih
theorem hsAt_le (t : List Slot) (i : Int) : hsAt t i ≤ (recsOf t).length := by rw [recsOf_len]; exact ones_all _ _
theorem recsOf_le (t : List Slot) : (recsOf t).length ≤ t.length := by
  unfold recsOf; rw [List.length_map]; exact List.length_filter_le ..
structure StoreR (w : World) (p : Nat) (t : List Slot) : Prop where
  fit : TabFit t
  ex : ∃ q rv a b, Blk w p 100 (flat cSlot t ++ [ptr q, a, b]) ∧ RankR w q rv (t.map (·.has)) ∧ SlR cRec w a (recsOf t) ∧ SlR cI w b (tagsOf t)
theorem StoreR.grow {w w' : World} {p : Nat} {t : List Slot} (h : StoreR w p t) (m : Mod no w w') : StoreR w' p t := by
  obtain ⟨q, rv, a, b, h1, h2, h3, h4⟩ := h.ex
  exact ⟨h.fit, q, rv, a, b, h1.mod m fun h => h, h2.mod m (fun h => h) fun _ _ h => h, h3.grow m, h4.grow m⟩
theorem idx1 {t n e k : Nat} (ha : lay.ar t = some (n, e, k)) (hk1 : k = 1) (hs : lay.sh e = some none) {cs : List Value} {j : Int} {w : World} {v : Value} {K : Value → Prop} (h0 : 0 ≤ j) (h1 : j < n) (hv : cs[j.toNat]? = some v) (hk : K v) : ReadW P (Instr.index t (.agg cs.toArray) (.int .i64 j)) w K := by
  obtain ⟨i, h2, h3, h4, h5⟩ := lay_is.ar t n e k ha
  subst hk1
  refine ⟨_, ?_, hk⟩
  simp [Instr.index, run_underlying h2, asIntOf, h0, h1, go_sem, run_sizeOf h3, h4, run_isAgg1 lay_is hs, hv]
theorem hs_at {t : List Slot} (ht : t.length = 32) (l : List Value) (j : Nat) : (flat cSlot t ++ l)[192 + j]? = l[j]? := by
  have h : (flat cSlot t).length = 192 := by rw [flat_len, ht]; rfl
  rw [List.getElem?_append_right (by omega), h, show 192 + j - 192 = j by omega]
theorem hsPick_succ {t : List Slot} {g : Int} {lo n : Nat} {r : Rec} (h : (recsOf t)[lo + n]? = some r) : hsPick t g lo (n + 1) = hsPick t g lo n ++ if hTag (hashOf r.key) = g then [r] else [] := by
  unfold hsPick
  have hlt : n < ((recsOf t).drop lo).length := by
    rw [List.length_drop]
    have := (List.getElem?_eq_some_iff.1 h).1
    omega
  have he : ((recsOf t).drop lo)[n] = r := by
    have h2 : ((recsOf t).drop lo)[n]? = some r := by rw [List.getElem?_drop]; exact h
    rw [List.getElem?_eq_getElem hlt] at h2
    exact Option.some.inj h2
  rw [List.take_succ_eq_append_getElem hlt, List.filter_append, he]
  congr 1
  by_cases hg : hTag (hashOf r.key) = g
  · rw [if_pos hg]; simp [hg]
  · rw [if_neg hg]; simp [hg]
theorem store_like {w : World} {p : Nat} {t : List Slot} {k : Str} (h : StoreR w p t) (hk : k.length ≤ 2147483000) : CallV P 75 [ptr p, sV k] w fun r w' => Own cRec 30 w' r (hsLike t k) ∧ Mod no w w' ∧ ∀ k, r.ownBlock = some k → w.heap.size ≤ k := by
  have h0 := hashOf_rng k
  have hl := h.fit.len
  have hml : (t.map (·.has)).length ≤ 1000000 := by rw [List.length_map, hl]; omega
  refine calls_of lay_is Tryz.func75 rfl (by kernel_rfl) (condF rfl (call (hash_Of hk) ?_))
  rintro _ w1 ⟨rfl, m1⟩
  refine call (hash_Tag h0.1) ?_
  rintro _ w1 ⟨rfl, rfl⟩
  refine call (hash_First h0.1) ?_
  rintro _ w1 ⟨rfl, rfl⟩
  refine call (hash_First h0.1) ?_
  rintro _ w1 ⟨rfl, rfl⟩
  refine call hash_Other ?_
  rintro _ w1 ⟨rfl, rfl⟩
  refine ⟨_, rfl, ?_⟩
  have hS := h.grow m1
  have hr32 := recsOf_le t
  generalize hG : hTag (hashOf k) = g at *
  generalize hH : hashOf k = hk_ at *
  have hB2 : hsB k = [hFirst hk_, hOther (hFirst hk_) g] := by unfold hsB; rw [hH, hG]
  refine loop (σ := Nat × Value) (fun s => [(0, ptr p), (6, iV g), (7, s.2), (23, .agg #[iV (hFirst hk_), iV (hOther (hFirst hk_) g)]), (24, iV s.1)]) (fun s w' => s.1 ≤ 2 ∧ Own cRec 30 w' s.2 (((hsB k).take s.1).flatMap fun b => hsPick t g (hsLo t b) (hsHi t b - hsLo t b)) ∧ (∀ k, s.2.ownBlock = some k → w.heap.size ≤ k) ∧ Mod no w w' ∧ (((hsB k).take s.1).flatMap fun b => hsPick t g (hsLo t b) (hsHi t b - hsLo t b)).length ≤ s.1 * 32) (fun s _ => 2 - s.1) (0, .slice none 0 0) ⟨rfl, rfl, rfl, rfl, rfl, trivial⟩ ⟨by omega, Own.nil _ _, nofun, m1, by simp⟩ ?_
  rintro ⟨j, v⟩ w2 ⟨hj, hO, hF, hM, hln⟩
  dsimp only at *
  refine cond2 (fun h1 => ?_) (fun h1 => ?_)
  · have h1 : (j : Int) < 2 := of_decT h1
    obtain ⟨b, hb⟩ : ∃ b, (hsB k)[j]? = some b := ⟨(hsB k)[j]'(by rw [hB2]; exact (by omega : j < 2)), List.getElem?_eq_getElem _⟩
    have etk : (hsB k).take (j + 1) = (hsB k).take j ++ [b] := by
      obtain ⟨hlt, he⟩ := List.getElem?_eq_some_iff.1 hb
      rw [List.take_succ_eq_append_getElem hlt, he]
    refine idx1 (cs := [iV (hFirst hk_), iV (hOther (hFirst hk_) g)]) (n := 2) (e := 3) (k := 1) rfl rfl rfl (by omega) (by omega) (v := iV b) ?_ ?_
    · rw [hB2] at hb
      have : j = 0 ∨ j = 1 := by omega
      rcases this with rfl | rfl
      · simp at hb; subst hb; rfl
      · simp at hb; subst hb; rfl
    obtain ⟨q, rv, ra, ta, hS1, hS2, hS3, hS4⟩ := (h.grow hM).ex
    refine ld1 hS1 (hs_at hl _ 0) (call (rank_Ones hS2 hml) ?_)
    rintro _ w3 ⟨rfl, m3⟩
    have hM3 := hM.trn m3
    refine loop (σ := Nat × Value) (fun s => [(0, ptr p), (6, iV g), (7, s.2), (9, iV b), (10, iV s.1), (23, .agg #[iV (hFirst hk_), iV (hOther (hFirst hk_) g)]), (24, iV j)]) (fun s w' => hsLo t b ≤ s.1 ∧ s.1 ≤ 32 ∧ (s.1 = hsLo t b ∨ s.1 ≤ hsHi t b) ∧ Own cRec 30 w' s.2 ((((hsB k).take j).flatMap fun b => hsPick t g (hsLo t b) (hsHi t b - hsLo t b)) ++ hsPick t g (hsLo t b) (s.1 - hsLo t b)) ∧ (∀ k, s.2.ownBlock = some k → w.heap.size ≤ k) ∧ Mod no w w') (fun s _ => 32 - s.1) (hsLo t b, v) ⟨rfl, rfl, rfl, rfl, rfl, rfl, rfl, trivial⟩ ⟨Nat.le_refl _, by have := hsAt_le t (IntKind.i64.wrap (b * 4)); show hsAt t _ ≤ 32; omega, .inl rfl, by rw [Nat.sub_self]; show Own _ _ _ _ (_ ++ []); rw [List.append_nil]; exact hO.grow m3, hF, hM3⟩ ?_
    clear hO hF hM hM3 m3 hS1 hS2 hS3 hS4
    generalize hX : (((hsB k).take j).flatMap fun b => hsPick t g (hsLo t b) (hsHi t b - hsLo t b)) = X at *
    rintro ⟨i, v⟩ w4 ⟨hi0, hi32, hi1, hO, hF, hM⟩
    dsimp only at *
    obtain ⟨q, rv, ra, ta, hS1, hS2, hS3, hS4⟩ := (h.grow hM).ex
    refine ld1 hS1 (hs_at hl _ 0) (call (rank_Ones hS2 hml) ?_)
    rintro _ w5 ⟨rfl, m5⟩
    have hM5 := hM.trn m5
    have hO5 := hO.grow m5
    have hhi : hsHi t b ≤ (recsOf t).length := hsAt_le t _
    refine cond2 (fun h2 => ?_) (fun h2 => ?_)
    · have h2 : (i : Int) < (hsHi t b : Nat) := of_decT h2
      have hlt : i < (recsOf t).length := by omega
      have hr := getE hlt
      have hti : (tagsOf t)[i]? = some (hTag (hashOf ((recsOf t)[i]).key)) := by unfold tagsOf; rw [List.getElem?_map, hr]; rfl
      have hsuc := @hsPick_succ t g (hsLo t b) (i - hsLo t b) (recsOf t)[i] (by rw [show hsLo t b + (i - hsLo t b) = i by omega]; exact hr)
      rw [show i - hsLo t b + 1 = i + 1 - hsLo t b by omega] at hsuc
      have hpl : (hsPick t g (hsLo t b) (i - hsLo t b)).length ≤ 32 := by
        unfold hsPick
        have := List.length_filter_le (fun r : Rec => decide (hTag (hashOf r.key) = g)) (((recsOf t).drop (hsLo t b)).take (i - hsLo t b))
        rw [List.length_take] at this
        omega
      generalize (recsOf t)[i] = r at *
      have hS1' := hS1.mod m5 fun h => h
      have hS4' := hS4.grow m5
      have hS3' := hS3.grow m5
      have htl : (tagsOf t).length = (recsOf t).length := by unfold tagsOf; rw [List.length_map]
      obtain ⟨gb, go, gc, e, hgb, hgr⟩ := hS4'.at hti
      subst e
      refine ld1 hS1' (hs_at hl _ 2) ⟨by omega, by rw [htl]; omega, ld1r (j := 0) hgr rfl (cond2 (fun h3 => ?_) (fun h3 => ?_))⟩
      · have h3 : hTag (hashOf r.key) = g := beqT h3
        rw [if_pos h3] at hsuc
        obtain ⟨rb, ro, rc, e, hrb, hrr⟩ := hS3'.at hr
        subst e
        refine ld1 hS1' (hs_at hl _ 1) ⟨by omega, by omega, ldN (cs := recC r) hrr rfl ⟨by decide, _, rfl, al fun b6 w6 e6 m6 s6 hb6 => ?_⟩⟩
        have hx : Own cRec 30 w6 (.slice (some ⟨b6, 0, none⟩) 1 1) [r] := Own.mk hb6 rfl rfl (by exact (by decide : 1 ≤ maxLen))
        refine app lay_is rfl (hO5.grow m6) hx.slr (by rw [List.length_append]; show _ + 1 ≤ _; omega) fun v7 w7 ho7 m7 f7 => ?_
        have hM7 : Mod no w w7 := (hM5.trn m6).tr m7 fun k hk e => by have := hF k e; omega
        refine ⟨(i + 1, v7), ⟨rfl, rfl, rfl, rfl, congrArg some (ctr (by omega)), rfl, rfl, trivial⟩, ⟨by omega, by omega, .inr (by omega), by rw [List.append_assoc, ← hsuc] at ho7; exact ho7, fun k hk => ?_, hM7⟩, by show 32 - (i + 1) < 32 - i; omega⟩
        rcases f7 k hk with h' | h'
        · exact hF k h'
        · have := hM5.size; have := m6.size; omega
      · have h3 : hTag (hashOf r.key) ≠ g := beqF h3
        rw [if_neg h3, List.append_nil] at hsuc
        exact ⟨(i + 1, v), ⟨rfl, rfl, rfl, rfl, congrArg some (ctr (by omega)), rfl, rfl, trivial⟩, ⟨by omega, by omega, .inr (by omega), by show Own _ _ _ _ (X ++ hsPick t g (hsLo t b) (i + 1 - hsLo t b)); rw [hsuc]; exact hO5, hF, hM5⟩, by show 32 - (i + 1) < 32 - i; omega⟩
    · have h2 : ¬ (i : Int) < (hsHi t b : Nat) := of_decF h2
      have hpk : hsPick t g (hsLo t b) (i - hsLo t b) = hsPick t g (hsLo t b) (hsHi t b - hsLo t b) := by
        rcases hi1 with e | e
        · rw [e, Nat.sub_self, show hsHi t b - hsLo t b = 0 by omega]
        · rw [show i = hsHi t b by omega]
      have hpl : (hsPick t g (hsLo t b) (hsHi t b - hsLo t b)).length ≤ 32 := by
        unfold hsPick
        have := List.length_filter_le (fun r : Rec => decide (hTag (hashOf r.key) = g)) (((recsOf t).drop (hsLo t b)).take (hsHi t b - hsLo t b))
        rw [List.length_take] at this
        omega
      rw [hpk] at hO5
      have efm : (((hsB k).take (j + 1)).flatMap fun b => hsPick t g (hsLo t b) (hsHi t b - hsLo t b)) = X ++ hsPick t g (hsLo t b) (hsHi t b - hsLo t b) := by
        rw [etk, List.flatMap_append, hX]; simp
      exact ⟨(j + 1, v), ⟨rfl, rfl, rfl, rfl, congrArg some (ctr (by omega)), trivial⟩, ⟨by omega, by show Own _ _ _ _ (((hsB k).take (j + 1)).flatMap _); rw [efm]; exact hO5, hF, hM5, by show (((hsB k).take (j + 1)).flatMap _).length ≤ (j + 1) * 32; rw [efm, List.length_append]; omega⟩, by omega⟩
  · have hj2 : j = 2 := by have := of_decF h1; omega
    subst hj2
    rw [List.take_of_length_le (by rw [hB2]; exact Nat.le_refl _)] at hO
    unfold hsLike
    rw [hH, hG]
    exact ⟨hO, hM, hF⟩
end Go.Proofs.YtffjccofglikhaaGreat
