/-
  hashstore: what reads.
-/
import Derived.Test.YtffjccofglikhaaGreatCDec
namespace Go.Proofs.YtffjccofglikhaaGreat
open Go Go.RowKit

/-! ### The bits put are the bits got -/
theorem atB_orB (x : UInt8) {k m : Nat} (hk : k < 8) : atB (orB x k) m = (atB x m || decide (k = m)) := by
  unfold atB orB
  have h1 : x.toNat < 2 ^ 8 := x.toNat_lt
  have h2 : 2 ^ k < 2 ^ 8 := Nat.pow_lt_pow_right (by omega) hk
  have h3 : x.toNat ||| 2 ^ k < 2 ^ 8 := Nat.or_lt_two_pow h1 h2
  rw [UInt8.toNat_ofNat', Nat.mod_eq_of_lt h3, Nat.testBit_or, Nat.testBit_two_pow]
theorem bget_bput {bs : List UInt8} {n : Nat} (hb : bs.length = (n + 7) / 8) (hz : ∀ i, n ≤ i → bget bs i = false) (b : Bool) (i : Nat) : bget (bput bs n b) i = if i = n then b else bget bs i := by
  have hz0 : (0 : UInt8).toNat.testBit (7 - i % 8) = false := by simp
  have key : ∀ cs : List UInt8, n / 8 < cs.length → bget cs i = bget bs i → bget (if b = true then cs.set (n / 8) (orB (cs.getD (n / 8) 0) (7 - n % 8)) else cs) i = if i = n then b else bget bs i := by
    intro cs hc hcb
    cases b with
    | false =>
      rw [if_neg (by decide), hcb]
      by_cases h : i = n
      · rw [if_pos h, hz i (by omega)]
      · rw [if_neg h]
    | true =>
      rw [if_pos rfl, ← hcb]
      unfold bget
      rw [List.getD_eq_getElem?_getD, List.getElem?_set]
      by_cases h8 : n / 8 = i / 8
      · rw [if_pos h8, if_pos hc]
        simp only [Option.getD_some]
        rw [atB_orB _ (by omega), h8, List.getD_eq_getElem?_getD]
        by_cases h : i = n
        · subst h; simp
        · rw [if_neg h, decF (by omega : ¬ (7 - n % 8 = 7 - i % 8)), Bool.or_false]
      · rw [if_neg h8, if_neg (by rintro rfl; exact h8 rfl), List.getD_eq_getElem?_getD]
  unfold bput
  by_cases h8 : n % 8 = 0
  · simp only [h8, if_true]
    have := key (bs ++ [0]) (by rw [List.length_append]; simp; omega) (by
      unfold bget
      rw [List.getD_eq_getElem?_getD, List.getD_eq_getElem?_getD, List.getElem?_append]
      by_cases h : i / 8 < bs.length
      · rw [if_pos h]
      · rw [if_neg h, List.getElem?_eq_none (by omega : bs.length ≤ i / 8)]
        by_cases h0 : i / 8 - bs.length = 0
        · rw [h0]; rfl
        · rw [List.getElem?_eq_none (by simp; omega)])
    rw [h8] at this
    exact this
  · simp only [h8, if_false]
    exact key bs (by omega) rfl
theorem bget_pack (l : List Bool) : ∀ i, bget (pack l) i = l.getD i false := by
  have key : ∀ (l r : List Bool) (s : List UInt8 × Nat), s.1.length = (s.2 + 7) / 8 → r.length = s.2 → (∀ i, bget s.1 i = r.getD i false) → ∀ i, bget (packS s l).1 i = (r ++ l).getD i false := by
    intro l
    induction l with
    | nil => intro r s _ _ h i; rw [List.append_nil]; exact h i
    | cons b l ih =>
      intro r s h1 h2 h3 i
      have hz : ∀ i, s.2 ≤ i → bget s.1 i = false := fun i hi => by rw [h3, List.getD_eq_getElem?_getD, List.getElem?_eq_none (by omega)]; rfl
      have := ih (r ++ [b]) (bput s.1 s.2 b, s.2 + 1) (by
        simp only [bput]
        by_cases h8 : s.2 % 8 = 0 <;> cases b <;> simp [h8] <;> omega) (by simp [h2]) (fun i => by
        show bget (bput s.1 s.2 b) i = _
        rw [bget_bput h1 hz, h3]
        simp only [List.getD_eq_getElem?_getD, List.getElem?_append]
        by_cases hi : i = s.2
        · rw [if_pos hi, if_neg (by omega), hi, h2, Nat.sub_self]; rfl
        · rw [if_neg hi]
          by_cases hl : i < r.length
          · rw [if_pos hl]
          · rw [if_neg hl, List.getElem?_eq_none (by omega : r.length ≤ i), List.getElem?_eq_none (by simp; omega)]) i
      rw [List.append_assoc] at this
      exact this
  intro i
  have := key l [] ([], 0) rfl rfl (fun i => by simp [bget, atB]) i
  exact this
theorem bitsAt_nat (l : List Bool) (i : Nat) : bitsAt l i = l.getD i false := by
  unfold bitsAt
  rw [show ((i : Int)).toNat = i from rfl, bget_pack, decT (by omega : (0 : Int) ≤ i), Bool.true_and]
  by_cases h : i < l.length
  · rw [decT (by omega), Bool.true_and]
  · rw [decF (by omega), Bool.false_and, List.getD_eq_getElem?_getD, List.getElem?_eq_none (by omega)]; rfl
theorem ones_is (l : List Bool) : ∀ i, ones l i = ((l.take i).filter fun b => b).length := by
  intro i
  induction i with
  | zero => rfl
  | succ i ih =>
    rw [ones_succ, ih, bitsAt_nat]
    by_cases h : i < l.length
    · rw [List.take_succ_eq_append_getElem h, List.filter_append, List.length_append, List.getD_eq_getElem?_getD, List.getElem?_eq_getElem h]
      simp only [Option.getD_some]
      cases l[i] <;> simp
    · rw [List.take_of_length_le (by omega), List.take_of_length_le (by omega), List.getD_eq_getElem?_getD, List.getElem?_eq_none (by omega)]
      simp
theorem ones_all (l : List Bool) (i : Nat) : ones l i ≤ (l.filter fun b => b).length := by
  rw [ones_is]
  have e : l = l.take i ++ l.drop i := (List.take_append_drop ..).symm
  have : (l.filter fun b => b) = (l.take i).filter (fun b => b) ++ (l.drop i).filter (fun b => b) := by rw [← List.filter_append, List.take_append_drop]
  rw [this, List.length_append]
  omega
end Go.Proofs.YtffjccofglikhaaGreat
