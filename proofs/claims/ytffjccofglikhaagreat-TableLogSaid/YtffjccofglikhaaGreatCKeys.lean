/-
  slices.Sorted(maps.Keys(m)), at maps whose keys are strings: by the shelf's contracts.
-/
import Derived.Test.YtffjccofglikhaaGreatCMap
import Derived.Test.YtffjccofglikhaaGreatIter
namespace Go.Proofs.YtffjccofglikhaaGreat
open Go Go.RowKit

def sortS (l : List Str) : List Str := l.mergeSort fun x y => decide (x ≤ y)
theorem flat_cS (s : List Str) : flat cS s = s.map sV := by
  unfold flat cS
  induction s with
  | nil => rfl
  | cons a s ih => simp [ih]
theorem row_own {base n : Nat} {w : World} {v : Value} {ss : List Str} (h : w.ownsRow base 9 1 v n (ss.map sV)) : Own cS 9 w v ss ∧ ∀ k, v.ownBlock = some k → base ≤ k := by
  obtain ⟨h0, h⟩ := h
  rw [List.length_map, Nat.mul_one] at h0
  subst h0
  rcases h with ⟨rfl, h⟩ | ⟨g, cap, cur, rfl, h1, h2, h3, h4, h5, h6⟩
  · exact ⟨.inl ⟨rfl, List.length_eq_zero_iff.1 h⟩, nofun⟩
  · refine ⟨.inr ⟨g, 0, cap, cur.toList, rfl, ?_, h3, h4, ?_, ?_⟩, fun k hk => by cases hk; exact h1⟩
    · unfold Blk; rw [Array.toArray_toList]; exact h2
    · rw [Array.length_toList, h5]; show 0 + cap * 1 ≤ cap * 1; omega
    · rw [List.drop_zero]
      show cur.toList.take (ss.length * 1) = _
      rw [h6, flat_cS]
theorem enc_sV : (fun x : List UInt8 => encStr x) = sV := rfl
theorem bel_mod {w w' : World} (h : Below w.heap.size w w') : Mod no w w' := ⟨h.os, h.tape, h.output, h.size, fun k hk _ => h.block k hk⟩
theorem keys_rec {α : Type} {c : α → Value} {w : World} {b : Nat} {l : List (Str × α)} (h : MapR kcS c w b l) (hl : l.length ≤ 2147483000) : CallV P 124 [.map (some b)] w fun f w1 => Mod no w w1 ∧ CallV P 123 [f] w1 fun r w2 => Own cS 9 w2 r (sortS (l.map (·.1))) ∧ Mod no w1 w2 ∧ ∀ k, r.ownBlock = some k → w1.heap.size ≤ k := by
  obtain ⟨D, hD, hp, hs⟩ := h.owns
  refine Calls.mono (callsIn_wide.1 (Tryz.maps_Keys_124 (some b) w)) ?_
  rintro _ _ ⟨rfl, rfl⟩
  refine ⟨_, rfl, mod_alloc, ?_⟩
  have hM : (2147483000 : Nat) ≤ maxLen := by unfold maxLen; omega
  refine Calls.mono (callsIn_wide.1 (Tryz.slices_Sorted_keys_123_124 b l.length D mR w hD (by omega) (by omega))) ?_
  rintro _ w' ⟨v, ss, rfl, h1, h2, _, h3⟩
  have e : ss.mergeSort (fun x y => decide (x ≤ y)) = sortS (l.map (·.1)) := mergeSort_of_perm (h1.trans hp)
  rw [e] at h2
  have hlen : ss.length = (sortS (l.map (·.1))).length := by rw [← e, List.length_mergeSort]
  rw [hlen] at h2
  obtain ⟨h4, h5⟩ := row_own (ss := sortS (l.map (·.1))) h2
  exact ⟨_, rfl, h4, bel_mod h3, h5⟩
theorem keys_bytes {α : Type} {c : α → Value} {w : World} {b : Nat} {l : List (Str × α)} (h : MapR kcS c w b l) (hl : l.length ≤ 2147483000) : CallV P 131 [.map (some b)] w fun f w1 => Mod no w w1 ∧ CallV P 123 [f] w1 fun r w2 => Own cS 9 w2 r (sortS (l.map (·.1))) ∧ Mod no w1 w2 ∧ ∀ k, r.ownBlock = some k → w1.heap.size ≤ k := by
  obtain ⟨D, hD, hp, hs⟩ := h.owns
  refine Calls.mono (callsIn_wide.1 (Tryz.maps_Keys_131 (some b) w)) ?_
  rintro _ _ ⟨rfl, rfl⟩
  refine ⟨_, rfl, mod_alloc, ?_⟩
  have hM : (2147483000 : Nat) ≤ maxLen := by unfold maxLen; omega
  refine Calls.mono (callsIn_wide.1 (Tryz.slices_Sorted_keys_123_131 b l.length D mR w hD (by omega) (by omega))) ?_
  rintro _ w' ⟨v, ss, rfl, h1, h2, _, h3⟩
  have e : ss.mergeSort (fun x y => decide (x ≤ y)) = sortS (l.map (·.1)) := mergeSort_of_perm (h1.trans hp)
  rw [e] at h2
  have hlen : ss.length = (sortS (l.map (·.1))).length := by rw [← e, List.length_mergeSort]
  rw [hlen] at h2
  obtain ⟨h4, h5⟩ := row_own (ss := sortS (l.map (·.1))) h2
  exact ⟨_, rfl, h4, bel_mod h3, h5⟩
end Go.Proofs.YtffjccofglikhaaGreat
