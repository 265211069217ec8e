/-
  loesslaw19.Of, Back.
-/
import Derived.Test.YtffjccofglikhaaGreatCRef
namespace Go.Proofs.YtffjccofglikhaaGreat
open Go Go.RowKit

set_option maxRecDepth 20000 in
theorem law19_Of {w : World} {t : List Slot} (hl : t.length = 32) : CallV P 11 [tabV t] w fun r w' => r = tabV t ∧ Mod no w w' := by
  have h192 : (flat cSlot t).length = 192 := by rw [flat_len, hl]; rfl
  refine calls_of lay_is Tryz.func11 rfl (by kernel_rfl) (al fun b1 w1 e1 m1 s1 hb1 => al fun b2 w2 e2 m2 s2 hb2 => al fun b3 w3 e3 m3 s3 hb3 => ?_)
  have hb1 : Blk w3 b1 35 (flat cSlot t) := (Blk.mod hb1 m2 fun h => h).mod m3 fun h => h
  have hb2 : Blk w3 b2 44 (flat cSlot tab0) := Blk.mod hb2 m3 fun h => h
  have hb3 : Blk w3 b3 44 (flat cSlot tab0) := hb3
  have hM3 : Mod no w w3 := (m1.trn m2).trn m3
  refine loop (σ := Nat × List Slot) (fun s => [(1, ptr b1), (2, ptr b2), (3, ptr b3), (4, iV s.1)]) (fun s w' => s.1 ≤ 32 ∧ s.2.length = 32 ∧ (∀ j, j < s.1 → s.2[j]? = t[j]?) ∧ Blk w' b1 35 (flat cSlot t) ∧ Blk w' b2 44 (flat cSlot tab0) ∧ Blk w' b3 44 (flat cSlot s.2) ∧ Mod no w w') (fun s _ => 32 - s.1) (0, tab0) ⟨rfl, rfl, rfl, rfl, trivial⟩ ⟨by omega, rfl, fun j hj => by omega, hb1, hb2, hb3, hM3⟩ ?_
  clear hb1 hb2 hb3 hM3
  rintro ⟨i, u⟩ w4 ⟨hi, hu, hE, hb1, hb2, hb3, hM⟩
  dsimp only at *
  refine cond2 (fun h1 => ?_) (fun h1 => ?_)
  · have h1 : (i : Int) < 32 := of_decT h1
    have hlt : i < t.length := by omega
    have hs := getE hlt
    have eq_ : IntKind.i64.wrap ((i : Int).tdiv 4) = ((i / 4 : Nat) : Int) := by rw [Int.tdiv_eq_ediv_of_nonneg (by omega), w64 (by omega) (by omega)]; omega
    have er_ : (i : Int).tmod 4 = ((i % 4 : Nat) : Int) := by rw [Int.tmod_eq_emod_of_nonneg (by omega)]; omega
    have q0 : 0 ≤ IntKind.i64.wrap ((i : Int).tdiv 4) := by rw [eq_]; omega
    have q1 : IntKind.i64.wrap ((i : Int).tdiv 4) < (8 : Nat) := by rw [eq_]; omega
    have r0 : 0 ≤ (i : Int).tmod 4 := by rw [er_]; omega
    have r1 : (i : Int).tmod 4 < (4 : Nat) := by rw [er_]; omega
    have eo : 0 + (IntKind.i64.wrap ((i : Int).tdiv 4)).toNat * 24 + ((i : Int).tmod 4).toNat * 6 = i * 6 := by rw [eq_, er_, Int.toNat_natCast, Int.toNat_natCast]; omega
    have hat : Rd w4 b1 (0 + (IntKind.i64.wrap ((i : Int).tdiv 4)).toNat * 24 + ((i : Int).tmod 4).toNat * 6) (slotC t[i]) := by
      rw [eo]
      have := hb1.rd (i * cSlot.k) cSlot.k
      rwa [flat_at cSlot t i _ hs] at this
    have hrd := hat.part 1 5
    generalize t[i] = s at *
    have hrd : Rd w4 b1 (0 + (IntKind.i64.wrap ((i : Int).tdiv 4)).toNat * 24 + ((i : Int).tmod 4).toNat * 6 + 1) (recC s.rec_) := hrd
    refine draw [(0, []), (1, []), (2, []), (3, []), (4, []), (5, []), (6, []), (7, []), (8, []), (9, []), (10, []), (11, []), (12, []), (13, []), (14, []), (15, []), (16, []), (17, []), (18, []), (19, []), (20, []), (21, []), (22, []), (23, [])] (by kernel_rfl) ⟨q0, q1, r0, r1, ld1r (w := w4.drew) (j := 0) hat rfl ⟨q0, q1, r0, r1, ldN (w := w4.drew) (cs := recC s.rec_) hrd rfl ⟨_, rfl, q0, q1, r0, r1, ?_⟩⟩⟩
    show StoreW w4.drew ⟨b3, 0 + (IntKind.i64.wrap ((i : Int).tdiv 4)).toNat * 24 + ((i : Int).tmod 4).toNat * 6, none⟩ 6 (slotC s) _
    rw [eo]
    refine st (w := w4.drew) hb3 rfl (by rw [flat_len, hu]; show i * 6 + 6 ≤ 192; omega) (cSlot.one _) fun w5 m5 s5 hb5 => ?_
    have m5 : Mod (· = b3) w4 w5 := m5
    have hb5 : Blk w5 b3 44 (flat cSlot (u.set i s)) := by
      rw [flat_set cSlot s u i (by omega)]
      exact hb5
    refine ⟨(i + 1, u.set i s), ⟨rfl, rfl, rfl, congrArg some (ctr (by omega)), trivial⟩, ⟨by omega, by show (u.set i s).length = 32; rw [List.length_set]; exact hu, fun j hj => ?_, hb1.mod m5 (by omega), hb2.mod m5 (by omega), hb5, hM.new m5 (by omega)⟩, by show 32 - (i + 1) < 32 - i; omega⟩
    show (u.set i s)[j]? = t[j]?
    rw [List.getElem?_set]
    by_cases hij : i = j
    · subst hij
      rw [if_pos rfl, if_pos (by omega)]
      exact hs.symm
    · rw [if_neg hij]
      have hj : j < i + 1 := hj
      exact hE j (by omega)
  · have hi32 : i = 32 := by have := of_decF h1; omega
    subst hi32
    have hut : u = t := by
      apply List.ext_getElem?
      intro j
      by_cases hj : j < 32
      · exact hE j hj
      · rw [List.getElem?_eq_none (by omega), List.getElem?_eq_none (by omega)]
    subst hut
    refine ldB hb3 h192 (st hb2 h192 (by decide) (flat_one _ _) fun w6 m6 s6 hb6 => ?_)
    have hb6 : Blk w6 b2 44 (flat cSlot u) := by
      have e : List.take 0 (flat cSlot tab0) ++ flat cSlot u ++ List.drop (0 + 192) (flat cSlot tab0) = flat cSlot u := by
        rw [List.take_zero, List.nil_append, List.drop_of_length_le (by exact (by decide : (flat cSlot tab0).length ≤ 192)), List.append_nil]
      rw [← e]
      exact hb6
    exact ldB hb6 h192 ⟨rfl, hM.new m6 (by omega)⟩
set_option maxRecDepth 20000 in
theorem law19_Back {w : World} {t : List Slot} (hl : t.length = 32) : CallV P 22 [tabV t] w fun r w' => r = tabV t ∧ Mod no w w' := by
  have h192 : (flat cSlot t).length = 192 := by rw [flat_len, hl]; rfl
  refine calls_of lay_is Tryz.func22 rfl (by kernel_rfl) (al fun b1 w1 e1 m1 s1 hb1 => al fun b2 w2 e2 m2 s2 hb2 => al fun b3 w3 e3 m3 s3 hb3 => ?_)
  have hb1 : Blk w3 b1 44 (flat cSlot t) := (Blk.mod hb1 m2 fun h => h).mod m3 fun h => h
  have hb2 : Blk w3 b2 35 (flat cSlot tab0) := Blk.mod hb2 m3 fun h => h
  have hb3 : Blk w3 b3 35 (flat cSlot tab0) := hb3
  have hM3 : Mod no w w3 := (m1.trn m2).trn m3
  refine loop (σ := Nat × List Slot) (fun s => [(1, ptr b1), (2, ptr b2), (3, ptr b3), (4, iV s.1)]) (fun s w' => s.1 ≤ 32 ∧ s.2.length = 32 ∧ (∀ j, j < s.1 → s.2[j]? = t[j]?) ∧ Blk w' b1 44 (flat cSlot t) ∧ Blk w' b2 35 (flat cSlot tab0) ∧ Blk w' b3 35 (flat cSlot s.2) ∧ Mod no w w') (fun s _ => 32 - s.1) (0, tab0) ⟨rfl, rfl, rfl, rfl, trivial⟩ ⟨by omega, rfl, fun j hj => by omega, hb1, hb2, hb3, hM3⟩ ?_
  clear hb1 hb2 hb3 hM3
  rintro ⟨i, u⟩ w4 ⟨hi, hu, hE, hb1, hb2, hb3, hM⟩
  dsimp only at *
  refine cond2 (fun h1 => ?_) (fun h1 => ?_)
  · have h1 : (i : Int) < 32 := of_decT h1
    have hlt : i < t.length := by omega
    have hs := getE hlt
    have eq_ : IntKind.i64.wrap ((i : Int).tdiv 4) = ((i / 4 : Nat) : Int) := by rw [Int.tdiv_eq_ediv_of_nonneg (by omega), w64 (by omega) (by omega)]; omega
    have er_ : (i : Int).tmod 4 = ((i % 4 : Nat) : Int) := by rw [Int.tmod_eq_emod_of_nonneg (by omega)]; omega
    have q0 : 0 ≤ IntKind.i64.wrap ((i : Int).tdiv 4) := by rw [eq_]; omega
    have q1 : IntKind.i64.wrap ((i : Int).tdiv 4) < (8 : Nat) := by rw [eq_]; omega
    have r0 : 0 ≤ (i : Int).tmod 4 := by rw [er_]; omega
    have r1 : (i : Int).tmod 4 < (4 : Nat) := by rw [er_]; omega
    have eo : 0 + (IntKind.i64.wrap ((i : Int).tdiv 4)).toNat * 24 + ((i : Int).tmod 4).toNat * 6 = i * 6 := by rw [eq_, er_, Int.toNat_natCast, Int.toNat_natCast]; omega
    have hat : Rd w4 b1 (0 + (IntKind.i64.wrap ((i : Int).tdiv 4)).toNat * 24 + ((i : Int).tmod 4).toNat * 6) (slotC t[i]) := by
      rw [eo]
      have := hb1.rd (i * cSlot.k) cSlot.k
      rwa [flat_at cSlot t i _ hs] at this
    have hrd := hat.part 1 5
    generalize t[i] = s at *
    have hrd : Rd w4 b1 (0 + (IntKind.i64.wrap ((i : Int).tdiv 4)).toNat * 24 + ((i : Int).tmod 4).toNat * 6 + 1) (recC s.rec_) := hrd
    refine draw [(0, []), (1, []), (2, []), (3, []), (4, []), (5, []), (6, []), (7, []), (8, []), (9, []), (10, []), (11, []), (12, []), (13, []), (14, []), (15, []), (16, []), (17, []), (18, []), (19, []), (20, []), (21, []), (22, []), (23, [])] (by kernel_rfl) ⟨q0, q1, r0, r1, ld1r (w := w4.drew) (j := 0) hat rfl ⟨q0, q1, r0, r1, ldN (w := w4.drew) (cs := recC s.rec_) hrd rfl ⟨_, rfl, q0, q1, r0, r1, ?_⟩⟩⟩
    show StoreW w4.drew ⟨b3, 0 + (IntKind.i64.wrap ((i : Int).tdiv 4)).toNat * 24 + ((i : Int).tmod 4).toNat * 6, none⟩ 6 (slotC s) _
    rw [eo]
    refine st (w := w4.drew) hb3 rfl (by rw [flat_len, hu]; show i * 6 + 6 ≤ 192; omega) (cSlot.one _) fun w5 m5 s5 hb5 => ?_
    have m5 : Mod (· = b3) w4 w5 := m5
    have hb5 : Blk w5 b3 35 (flat cSlot (u.set i s)) := by
      rw [flat_set cSlot s u i (by omega)]
      exact hb5
    refine ⟨(i + 1, u.set i s), ⟨rfl, rfl, rfl, congrArg some (ctr (by omega)), trivial⟩, ⟨by omega, by show (u.set i s).length = 32; rw [List.length_set]; exact hu, fun j hj => ?_, hb1.mod m5 (by omega), hb2.mod m5 (by omega), hb5, hM.new m5 (by omega)⟩, by show 32 - (i + 1) < 32 - i; omega⟩
    show (u.set i s)[j]? = t[j]?
    rw [List.getElem?_set]
    by_cases hij : i = j
    · subst hij
      rw [if_pos rfl, if_pos (by omega)]
      exact hs.symm
    · rw [if_neg hij]
      have hj : j < i + 1 := hj
      exact hE j (by omega)
  · have hi32 : i = 32 := by have := of_decF h1; omega
    subst hi32
    have hut : u = t := by
      apply List.ext_getElem?
      intro j
      by_cases hj : j < 32
      · exact hE j hj
      · rw [List.getElem?_eq_none (by omega), List.getElem?_eq_none (by omega)]
    subst hut
    refine ldB hb3 h192 (st hb2 h192 (by decide) (flat_one _ _) fun w6 m6 s6 hb6 => ?_)
    have hb6 : Blk w6 b2 35 (flat cSlot u) := by
      have e : List.take 0 (flat cSlot tab0) ++ flat cSlot u ++ List.drop (0 + 192) (flat cSlot tab0) = flat cSlot u := by
        rw [List.take_zero, List.nil_append, List.drop_of_length_le (by exact (by decide : (flat cSlot tab0).length ≤ 192)), List.append_nil]
      rw [← e]
      exact hb6
    exact ldB hb6 h192 ⟨rfl, hM.new m6 (by omega)⟩
end Go.Proofs.YtffjccofglikhaaGreat
