/-
  order.
-/
import Derived.Test.YtffjccofglikhaaGreatCRnk
namespace Go.Proofs.YtffjccofglikhaaGreat
open Go Go.RowKit

/-! ### Arrays as values -/
theorem flat_drop {α : Type} (c : Codec α) (n : Nat) (xs : List α) : (flat c xs).drop (n * c.k) = flat c (xs.drop n) := by
  by_cases h : n ≤ xs.length
  · have e : flat c xs = flat c (xs.take n) ++ flat c (xs.drop n) := by rw [← flat_append, List.take_append_drop]
    rw [e, List.drop_append_of_le_length (by rw [flat_len, List.length_take, Nat.min_eq_left h]; exact Nat.le_refl _), List.drop_of_length_le (by rw [flat_len, List.length_take, Nat.min_eq_left h]; exact Nat.le_refl _), List.nil_append]
  · rw [List.drop_of_length_le (by rw [flat_len]; exact Nat.mul_le_mul_right _ (by omega)), List.drop_of_length_le (by omega)]; rfl
theorem flat_take {α : Type} (c : Codec α) (n : Nat) (xs : List α) : (flat c xs).take (n * c.k) = flat c (xs.take n) := by
  by_cases h : n ≤ xs.length
  · have e : flat c xs = flat c (xs.take n) ++ flat c (xs.drop n) := by rw [← flat_append, List.take_append_drop]
    rw [e, List.take_append_of_le_length (by rw [flat_len, List.length_take, Nat.min_eq_left h]; exact Nat.le_refl _), List.take_of_length_le (by rw [flat_len, List.length_take, Nat.min_eq_left h]; exact Nat.le_refl _)]
  · rw [List.take_of_length_le (by rw [flat_len]; exact Nat.mul_le_mul_right _ (by omega)), List.take_of_length_le (by omega)]
theorem idxA {t n e k : Nat} (ha : lay.ar t = some (n, e, k)) (hs : lay.sh e = some (some k)) {cs : List Value} {j : Int} {w : World} {K : Value → Prop} (h0 : 0 ≤ j) (h1 : j < n) (hk : K (.agg ((cs.drop (j.toNat * k)).take k).toArray)) : ReadW P (Instr.index t (.agg cs.toArray) (.int .i64 j)) w K := by
  obtain ⟨i, h2, h3, h4, h5⟩ := lay_is.ar t n e k ha
  refine ⟨_, ?_, hk⟩
  simp [Instr.index, run_underlying h2, asIntOf, h0, h1, go_sem, run_sizeOf h3, h4, run_isAggA lay_is hs]

/-! ### order.belongs, slices.Contains -/
def ordBelongs (k : Str) (b : Int) : Bool := decide (b = hFirst (hashOf k)) || decide (b = hOther (hFirst (hashOf k)) (hTag (hashOf k)))
theorem order_belongs {w : World} {k : Str} {b : Int} (hs : k.length ≤ 2147483000) : CallV P 107 [sV k, iV b] w fun r w' => r = .bool (ordBelongs k b) ∧ Mod no w w' := by
  have h0 := hashOf_rng k
  refine calls_of lay_is Tryz.func107 rfl (by kernel_rfl) (call (hash_Of hs) ?_)
  rintro _ w1 ⟨rfl, m1⟩
  refine call (hash_First h0.1) ?_
  rintro _ _ ⟨rfl, rfl⟩
  unfold ordBelongs
  refine ⟨fun h => ?_, fun h => call (hash_Tag h0.1) ?_⟩
  · rw [decT (beqT h), Bool.true_or]
    exact ⟨rfl, m1⟩
  · rintro _ _ ⟨rfl, rfl⟩
    refine call hash_Other ?_
    rintro _ _ ⟨rfl, rfl⟩
    rw [decF (beqF h), Bool.false_or]
    refine ⟨?_, m1⟩
    show Value.bool (_ == _) = _
    rw [beq_int]
def idxOf (k : Str) : List Str → Nat → Int
  | [], _ => -1
  | x :: r, i => if k = x then i else idxOf k r (i + 1)
theorem slices_Index {w : World} {v : Value} {xs : List Str} {k : Str} (hv : SlR cS w v xs) (hl : xs.length ≤ 2147483000) : CallV P 164 [v, sV k] w fun r w' => r = iV (idxOf k xs 0) ∧ w' = w := by
  obtain ⟨a, cp, rfl⟩ := hv.len
  refine calls_of lay_is Tryz.func164 rfl (by kernel_rfl) ?_
  refine loop (σ := Nat) (fun s => [(0, .slice a xs.length cp), (1, sV k), (7, iV xs.length), (8, iV s)]) (fun s w' => w' = w ∧ s ≤ xs.length ∧ idxOf k (xs.drop s) s = idxOf k xs 0) (fun s _ => xs.length - s) 0 ⟨rfl, rfl, rfl, rfl, trivial⟩ ⟨rfl, Nat.zero_le _, rfl⟩ ?_
  rintro i w1 ⟨rfl, hi, hg⟩
  refine cond2 (fun h => ?_) (fun h => ?_)
  · have h : (i : Int) < xs.length := of_decT h
    have hlt : i < xs.length := by omega
    have hx := getE hlt
    obtain ⟨b, o, cp', e, hb, hr⟩ := hv.at hx
    cases e
    rw [List.drop_eq_getElem_cons hlt, idxOf] at hg
    refine ⟨by omega, by omega, ld1r (j := 0) hr rfl (cond2 (fun h2 => ?_) (fun h2 => ?_))⟩
    · rw [beq_str] at h2
      rw [if_pos (of_decT h2)] at hg
      rw [← hg]
      exact ⟨rfl, rfl⟩
    · rw [beq_str] at h2
      rw [if_neg (of_decF h2)] at hg
      exact ⟨i + 1, ⟨rfl, rfl, rfl, congrArg some (ctr (by omega)), trivial⟩, ⟨rfl, by omega, hg⟩, by omega⟩
  · have hin : i = xs.length := by have := of_decF h; omega
    subst hin
    rw [List.drop_length] at hg
    rw [← hg]
    exact ⟨rfl, rfl⟩
theorem idxOf_mem (k : Str) : ∀ (xs : List Str) (i : Nat), decide (0 ≤ idxOf k xs i) = decide (k ∈ xs)
  | [], i => by simp [idxOf]
  | x :: r, i => by
    unfold idxOf
    by_cases h : k = x
    · simp [h]
    · rw [if_neg h, idxOf_mem k r (i + 1)]; simp [h]
theorem slices_Contains {w : World} {v : Value} {xs : List Str} {k : Str} (hv : SlR cS w v xs) (hl : xs.length ≤ 2147483000) : CallV P 108 [v, sV k] w fun r w' => r = .bool (decide (k ∈ xs)) ∧ w' = w := by
  refine calls_of lay_is Tryz.func108 rfl (by kernel_rfl) (call (slices_Index hv hl) ?_)
  rintro _ _ ⟨rfl, rfl⟩
  refine ⟨?_, rfl⟩
  show Value.bool (decide (0 ≤ idxOf k xs 0)) = _
  rw [idxOf_mem]

/-! ### A table -/
structure Slot where
  has : Bool
  rec_ : Rec
  deriving DecidableEq
def slotC (s : Slot) : List Value := .bool s.has :: recC s.rec_
def slotV (s : Slot) : Value := .agg (slotC s).toArray
def cSlot : Codec Slot := ⟨6, slotC, fun _ => rfl, by intro x v h; simp [slotC, recC] at h; rcases h with rfl | rfl | rfl | rfl | rfl | rfl <;> rfl, by decide⟩
def Slot.zero : Slot := ⟨false, Rec.zero⟩
def tabV (t : List Slot) : Value := .agg (flat cSlot t).toArray
def bkt (t : List Slot) (i : Nat) : List Slot := (t.drop (i * 4)).take 4
theorem bkt_len {t : List Slot} (ht : t.length = 32) {i : Nat} (hi : i < 8) : (bkt t i).length = 4 := by
  unfold bkt; rw [List.length_take, List.length_drop]; omega
theorem idx_bkt {t : List Slot} {i : Nat} (hi : i < 8) {w : World} {K : Value → Prop} (hk : K (tabV (bkt t i))) : ReadW P (Instr.index 44 (tabV t) (iV i)) w K := by
  refine idxA (n := 8) (e := 42) (k := 24) rfl rfl (by omega) (by omega) ?_
  have e : ((flat cSlot t).drop ((i : Int).toNat * 24)).take 24 = flat cSlot (bkt t i) := by
    have h1 := flat_drop cSlot (i * 4) t
    have h2 := flat_take cSlot 4 (t.drop (i * 4))
    rw [show i * 4 * cSlot.k = (i : Int).toNat * 24 by show i * 4 * 6 = _; omega] at h1
    rw [show 4 * cSlot.k = 24 from rfl, ← h1] at h2
    exact h2
  rw [e]
  exact hk
theorem idx_slot {t : List Slot} {j : Nat} {s : Slot} (hs : t[j]? = some s) (hj : j < 4) {w : World} {K : Value → Prop} (hk : K (slotV s)) : ReadW P (Instr.index 42 (tabV t) (iV j)) w K := by
  refine idxA (n := 4) (e := 41) (k := 6) rfl rfl (by omega) (by omega) ?_
  have e : ((flat cSlot t).drop ((j : Int).toNat * 6)).take 6 = slotC s := flat_at cSlot t j s hs
  rw [e]
  exact hk

/-! ### order.May -/
def ordMayGo : List Slot → Nat → List Str → Bool
  | [], _, _ => true
  | s :: r, p, ks => if s.has = false then decide (s.rec_ = Rec.zero) && ordMayGo r (p + 1) ks
    else recMay s.rec_ && ordBelongs s.rec_.key ((p / 4 : Nat) : Int) && !decide (s.rec_.key ∈ ks) && ordMayGo r (p + 1) (ks ++ [s.rec_.key])
def ordMay (t : List Slot) : Bool := ordMayGo t 0 []
/-- A table whose texts are no longer than any memory. -/
structure TabFit (t : List Slot) : Prop where
  len : t.length = 32
  fit : ∀ s ∈ t, RecFit s.rec_
theorem bkt_at {t : List Slot} {i j : Nat} (hj : j < 4) : (bkt t i)[j]? = t[i * 4 + j]? := by
  unfold bkt; rw [List.getElem?_take, if_pos hj, List.getElem?_drop]
theorem order_May {w : World} {t : List Slot} (ht : TabFit t) : CallV P 55 [tabV t] w fun r w' => r = .bool (ordMay t) ∧ Mod no w w' := by
  have hl := ht.len
  refine calls_of lay_is Tryz.func55 rfl (by kernel_rfl) (al fun b1 w1 e1 m1 s1 hb1 => ?_)
  refine ldB hb1 (by rw [show (tabV t).cells.toList = flat cSlot t from rfl, flat_len, hl]; rfl) ?_
  refine loop (σ := Nat × Value × List Str) (fun s => [(3, s.2.1), (8, tabV t), (9, iV s.1)]) (fun s w' => s.1 ≤ 8 ∧ Own cS 9 w' s.2.1 s.2.2 ∧ s.2.2.length ≤ s.1 * 4 ∧ (∀ k, s.2.1.ownBlock = some k → w.heap.size ≤ k) ∧ Mod no w w' ∧ ordMayGo (t.drop (s.1 * 4)) (s.1 * 4) s.2.2 = ordMay t) (fun s _ => 8 - s.1) (0, .slice none 0 0, []) ⟨rfl, rfl, rfl, trivial⟩ ⟨by omega, Own.nil _ _, by simp, nofun, m1, rfl⟩ ?_
  rintro ⟨i, v, ks⟩ w2 ⟨hi, hO, hk, hF, hM, hG⟩
  dsimp only at *
  refine cond2 (fun h1 => ?_) (fun h1 => ?_)
  · have h1 : (i : Int) < 8 := of_decT h1
    refine idx_bkt (by omega) (al fun b3 w3 e3 m3 s3 hb3 => ?_)
    have hbl : (flat cSlot (bkt t i)).length = 24 := by rw [flat_len, bkt_len hl (by omega)]; rfl
    refine st (vs := flat cSlot (bkt t i)) hb3 hbl (by decide) (flat_one _ _) fun w4 m4 s4 hb4 => ?_
    have hm4 : Mod no w w4 := (hM.trn m3).new m4 (by have := hM.size; omega)
    have hb4 : Blk w4 b3 42 (flat cSlot (bkt t i)) := by
      have e : (List.take 0 (lay.zr 42).get!) ++ flat cSlot (bkt t i) ++ List.drop (0 + 24) (lay.zr 42).get! = flat cSlot (bkt t i) := by
        rw [List.take_zero, List.nil_append, List.drop_of_length_le (by decide), List.append_nil]
      rw [← e]
      exact hb4
    refine ldB hb4 hbl ?_
    have hO4 : Own cS 9 w4 v ks := (hO.grow m3).mod m4 fun k hk e => by have := hO.lt k hk; omega
    refine loop (σ := Nat × Value × List Str) (fun s => [(3, s.2.1), (4, iV i), (8, tabV t), (9, iV i), (13, tabV (bkt t i)), (14, iV s.1)]) (fun s w' => s.1 ≤ 4 ∧ Own cS 9 w' s.2.1 s.2.2 ∧ s.2.2.length ≤ i * 4 + s.1 ∧ (∀ k, s.2.1.ownBlock = some k → w.heap.size ≤ k) ∧ Mod no w w' ∧ ordMayGo (t.drop (i * 4 + s.1)) (i * 4 + s.1) s.2.2 = ordMay t) (fun s _ => 4 - s.1) (0, v, ks) ⟨rfl, rfl, rfl, rfl, rfl, rfl, trivial⟩ ⟨by omega, hO4, hk, hF, hm4, hG⟩ ?_
    clear hO4 hO hk hF hM hG hb3 hb4 m3 m4 s3 s4 hm4
    rintro ⟨j, v, ks⟩ w5 ⟨hj, hO, hk, hF, hM, hG⟩
    dsimp only at *
    refine cond2 (fun h2 => ?_) (fun h2 => ?_)
    · have h2 : (j : Int) < 4 := of_decT h2
      have hp : i * 4 + j < t.length := by omega
      have hs : (bkt t i)[j]? = some t[i * 4 + j] := by rw [bkt_at (by omega)]; exact getE hp
      have hfit := ht.fit _ (List.getElem_mem hp)
      rw [List.drop_eq_getElem_cons hp, ordMayGo] at hG
      generalize t[i * 4 + j] = s at *
      refine idx_slot hs (by omega) (al fun b6 w6 e6 m6 s6 hb6 => ?_)
      refine st (vs := slotC s) hb6 rfl (by decide) (cSlot.one s) fun w7 m7 s7 hb7 => ?_
      have hb7 : Blk w7 b6 41 (slotC s) := hb7
      have hm7 : Mod no w w7 := (hM.trn m6).new m7 (by have := hM.size; omega)
      have hO7 : Own cS 9 w7 v ks := (hO.grow m6).mod m7 fun k hk e => by have := hO.lt k hk; omega
      have next : ordMayGo (t.drop (i * 4 + (j + 1))) (i * 4 + (j + 1)) = ordMayGo (t.drop (i * 4 + j + 1)) (i * 4 + j + 1) := rfl
      refine ld1 hb7 rfl (cond2 (fun h3 => ?_) (fun h3 => ?_))
      · have h3 : s.has = false := by cases h : s.has with | false => rfl | true => rw [h] at h3; cases h3
        rw [if_pos h3] at hG
        refine ldN (cs := recC s.rec_) (hb7.rd 1 5) rfl ⟨_, rfl, rec_neq (b := Rec.zero) (cond2 (fun h4 => ?_) (fun h4 => ?_))⟩
        · have h4 : decide (s.rec_ = Rec.zero) = false := by cases h : decide (s.rec_ = Rec.zero) with | false => rfl | true => rw [h] at h4; cases h4
          rw [h4, Bool.false_and] at hG
          rw [← hG]
          exact ⟨rfl, hm7⟩
        · have h4 : decide (s.rec_ = Rec.zero) = true := by cases h : decide (s.rec_ = Rec.zero) with | true => rfl | false => rw [h] at h4; cases h4
          rw [h4, Bool.true_and] at hG
          exact ⟨(j + 1, v, ks), ⟨rfl, rfl, rfl, rfl, rfl, congrArg some (ctr (by omega)), trivial⟩, ⟨by omega, hO7, by show ks.length ≤ i * 4 + (j + 1); omega, hF, hm7, hG⟩, by show 4 - (j + 1) < 4 - j; omega⟩
      · have h3 : s.has = true := by cases h : s.has with | true => rfl | false => rw [h] at h3; cases h3
        rw [if_neg (by rw [h3]; decide)] at hG
        refine ldN (cs := recC s.rec_) (hb7.rd 1 5) rfl (call (record_May (by have := hfit.val.s; omega)) ?_)
        rintro _ w8 ⟨rfl, m8⟩
        have hb8 : Blk w8 b6 41 (slotC s) := hb7.mod m8 fun h => h
        have hm8 := hm7.trn m8
        refine ⟨fun h4 => ⟨fun _ => condT rfl ?_, nofun⟩, fun h4 => ld1 hb8 rfl (call (order_belongs (by have := hfit.key; omega)) ?_)⟩
        · have h4 : recMay s.rec_ = false := by cases h : recMay s.rec_ with | false => rfl | true => rw [h] at h4; cases h4
          rw [h4] at hG
          simp only [Bool.false_and] at hG
          rw [← hG]
          exact ⟨rfl, hm8⟩
        · have h4 : recMay s.rec_ = true := by cases h : recMay s.rec_ with | true => rfl | false => rw [h] at h4; cases h4
          rintro _ w9 ⟨rfl, m9⟩
          have hb9 : Blk w9 b6 41 (slotC s) := hb8.mod m9 fun h => h
          have hm9 := hm8.trn m9
          have hO9 := (hO7.grow m8).grow m9
          rw [show ((i * 4 + j) / 4 : Nat) = i by omega, h4, Bool.true_and] at hG
          refine ⟨fun h5 => condT rfl ?_, fun h5 => ld1 hb9 rfl (call (slices_Contains hO9.slr (by omega)) ?_)⟩
          · have h5 : ordBelongs s.rec_.key i = false := by cases h : ordBelongs s.rec_.key i with | false => rfl | true => rw [h] at h5; cases h5
            rw [h5] at hG
            simp only [Bool.false_and] at hG
            rw [← hG]
            exact ⟨rfl, hm9⟩
          · have h5 : ordBelongs s.rec_.key i = true := by cases h : ordBelongs s.rec_.key i with | true => rfl | false => rw [h] at h5; cases h5
            rw [h5, Bool.true_and] at hG
            rintro _ _ ⟨rfl, rfl⟩
            refine cond2 (fun h6 => ?_) (fun h6 => ?_)
            · rw [show decide (s.rec_.key ∈ ks) = true from h6] at hG
              simp only [Bool.not_true, Bool.false_and] at hG
              rw [← hG]
              exact ⟨rfl, hm9⟩
            · rw [show decide (s.rec_.key ∈ ks) = false from h6] at hG
              simp only [Bool.not_false, Bool.true_and] at hG
              refine ld1 hb9 rfl ⟨by decide, _, rfl, al fun b10 w10 e10 m10 s10 hb10 => ?_⟩
              have hx2 : Own cS 9 w10 (.slice (some ⟨b10, 0, none⟩) 1 1) [s.rec_.key] := Own.mk hb10 rfl rfl (by exact (by decide : 1 ≤ maxLen))
              refine app lay_is rfl (hO9.grow m10) hx2.slr (by simp; omega) fun v2 w11 ho m11 f11 => ?_
              have hm11 : Mod no w w11 := (hm9.trn m10).tr m11 fun k hk e => by have := hF k e; omega
              refine ⟨(j + 1, v2, ks ++ [s.rec_.key]), ⟨rfl, rfl, rfl, rfl, rfl, congrArg some (ctr (by omega)), trivial⟩, ⟨by omega, ho, by show (ks ++ [s.rec_.key]).length ≤ i * 4 + (j + 1); simp; omega, fun k hk => ?_, hm11, hG⟩, by show 4 - (j + 1) < 4 - j; omega⟩
              rcases f11 k hk with h | h
              · exact hF k h
              · have := m10.size; have := hm9.size; omega
    · have hj4 : j = 4 := by have := of_decF h2; omega
      subst hj4
      exact ⟨(i + 1, v, ks), ⟨rfl, rfl, congrArg some (ctr (by omega)), trivial⟩, ⟨by omega, hO, by show ks.length ≤ (i + 1) * 4; omega, hF, hM, by rw [Nat.add_mul]; exact hG⟩, by omega⟩
  · have hi8 : i = 8 := by have := of_decF h1; omega
    subst hi8
    rw [List.drop_of_length_le (by omega)] at hG
    rw [← hG]
    exact ⟨rfl, hM⟩
end Go.Proofs.YtffjccofglikhaaGreat
