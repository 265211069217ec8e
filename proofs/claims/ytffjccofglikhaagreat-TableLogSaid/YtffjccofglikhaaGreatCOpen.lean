/-
  hashstore.Open.
-/
import Derived.Test.YtffjccofglikhaaGreatCNew
namespace Go.Proofs.YtffjccofglikhaaGreat
open Go Go.RowKit

theorem decGo_fit (bs : List UInt8) (o : Option (List Bool)) (hl : bs.length ≤ 400000000) : ∀ (n i : Nat) (t : List Slot) (a : Nat) (u : List Slot), TabFit t → decGo bs o n i t a = some u → TabFit u
  | 0, i, t, a, u, ht, h => by cases h; exact ht
  | n + 1, i, t, a, u, ht, h => by
    unfold decGo at h
    by_cases h1 : bitO o i = false
    · rw [if_pos h1] at h; exact decGo_fit bs o hl n _ _ _ _ ht h
    · rw [if_neg h1] at h
      by_cases h2 : bs.length < a + 2
      · rw [if_pos h2] at h; cases h
      · rw [if_neg h2] at h
        by_cases h3 : (recGet (bs.drop (a + 2))).2.2 ≠ 0
        · rw [if_pos h3] at h; cases h
        · rw [if_neg h3] at h
          exact decGo_fit bs o hl n _ _ _ _ (ht.set i (recGet_fit (by rw [List.length_drop]; omega))) h
theorem ordDec_ok {bs : List UInt8} (hl : bs.length ≤ 400000000) : TabFit (ordDec bs).1 ∧ ((ordDec bs).2 = 0 ∧ ordMay (ordDec bs).1 = true ∧ ordEnc (ordDec bs).1 = bs ∨ (ordDec bs).2 = 8) := by
  unfold ordDec
  by_cases h : bs.length < 4
  · rw [if_pos h]; exact ⟨tab0_fit, .inr rfl⟩
  · rw [if_neg h]
    cases hd : decGo bs (bitsOf (bs.take 4) 32) 32 0 tab0 4 with
    | none => exact ⟨tab0_fit, .inr rfl⟩
    | some t =>
      have ht := decGo_fit bs _ hl _ _ _ _ _ tab0_fit hd
      dsimp only
      by_cases h2 : ordMay t = true ∧ ordEnc t = bs
      · rw [if_pos h2]; exact ⟨ht, .inl ⟨rfl, h2⟩⟩
      · rw [if_neg h2]; exact ⟨tab0_fit, .inr rfl⟩
set_option maxRecDepth 20000 in
theorem store_Open {w : World} {v : Value} {bs : List UInt8} (hv : SlR cB w v bs) (hl : bs.length ≤ 400000000) : CallV P 45 [v] w fun r w' => Mod no w w' ∧ if (ordDec bs).2 = 0 then ∃ p, r = .tuple #[ptr p, iV 0] ∧ StoreR w' p (ordDec bs).1 ∧ w.heap.size ≤ p else r = .tuple #[.pointer none, iV (ordDec bs).2] := by
  obtain ⟨hfit, hcase⟩ := ordDec_ok hl
  refine calls_of lay_is Tryz.func45 rfl (by kernel_rfl) (call (order_Decode hv hl) ?_)
  rintro _ w1 ⟨rfl, m1⟩
  generalize (ordDec bs).1 = t at *
  generalize (ordDec bs).2 = e at *
  have h192 : (flat cSlot t).length = 192 := by rw [flat_len, hfit.len]; rfl
  refine al fun b2 w2 e2 m2 s2 hb2 => st (vs := flat cSlot t) hb2 h192 (by decide) (flat_one _ _) fun w3 m3 s3 hb3 => ?_
  have hM3 : Mod no w w3 := (m1.trn m2).new m3 (by have := m1.size; omega)
  have hb3 : Blk w3 b2 44 (flat cSlot t) := by
    have e : (List.take 0 (lay.zr 44).get!) ++ flat cSlot t ++ List.drop (0 + 192) (lay.zr 44).get! = flat cSlot t := by
      rw [List.take_zero, List.nil_append, List.drop_of_length_le (by decide), List.append_nil]
    rw [← e]
    exact hb3
  rcases hcase with ⟨h0, hm, _⟩ | h8
  · subst h0
    refine condF rfl (ldB hb3 h192 (call (store_New hfit) ?_))
    rintro r w4 ⟨m4, h⟩
    rw [if_pos hm] at h
    obtain ⟨p, rfl, hS, hp⟩ := h
    exact ⟨hM3.trn m4, by rw [if_pos rfl]; exact ⟨p, rfl, hS, by have := hM3.size; omega⟩⟩
  · subst h8
    exact condT rfl ⟨hM3, by rw [if_neg (by decide)]; rfl⟩
end Go.Proofs.YtffjccofglikhaaGreat
