/-
  loessref6: First, Tag, Other.
-/
import Derived.Test.YtffjccofglikhaaGreatCRecs
namespace Go.Proofs.YtffjccofglikhaaGreat
open Go Go.RowKit

theorem ref6_First {w : World} {h : Int} (h0 : 0 ≤ h) : CallV P 52 [.int .u64 h] w fun v w' => v = iV (hFirst h) ∧ w' = w := by
  refine calls_of lay_is Tryz.func52 rfl (by kernel_rfl) ⟨?_, rfl⟩
  show iV (IntKind.i64.wrap (h.tmod 8)) = _
  have e : h.tmod 8 = hFirst h := by rw [Int.tmod_eq_emod_of_nonneg h0]; rfl
  rw [e, w64] <;> unfold hFirst <;> omega
theorem ref6_Tag {w : World} {h : Int} (h0 : 0 ≤ h) (h1 : h < 18446744073709551616) : CallV P 54 [.int .u64 h] w fun v w' => v = iV (hTag h) ∧ w' = w := by
  refine calls_of lay_is Tryz.func54 rfl (by kernel_rfl) ⟨?_, rfl⟩
  show iV (IntKind.i64.wrap ((IntKind.u64.wrap (h.tdiv 256)).tmod 32768)) = _
  have e1 : h.tdiv 256 = h / 256 := Int.tdiv_eq_ediv_of_nonneg h0
  have e : (IntKind.u64.wrap (h.tdiv 256)).tmod 32768 = hTag h := by
    rw [e1, wu64 (by omega) (by omega), Int.tmod_eq_emod_of_nonneg (by omega)]; rfl
  rw [e, w64] <;> unfold hTag <;> omega
theorem ref6_Other {w : World} {b t : Int} : CallV P 53 [iV b, iV t] w fun v w' => v = iV (hOther b t) ∧ w' = w := by
  refine calls_of lay_is Tryz.func53 rfl (by kernel_rfl) ?_
  unfold hOther
  by_cases h1 : b < 0
  · refine ⟨fun _ => ⟨fun _ => ⟨fun _ => condT rfl ⟨?_, rfl⟩, nofun⟩, nofun⟩, fun h => (of_decF h h1).elim⟩
    rw [if_pos (.inl h1)]; rfl
  refine ⟨fun h => (h1 (of_decT h)).elim, fun _ => ?_⟩
  by_cases h2 : 7 < b
  · refine ⟨fun _ => ⟨fun _ => condT rfl ⟨?_, rfl⟩, nofun⟩, fun h => (of_decF h h2).elim⟩
    rw [if_pos (by omega)]; rfl
  refine ⟨fun h => (h2 (of_decT h)).elim, fun _ => ?_⟩
  by_cases h3 : t < 0
  · refine ⟨fun _ => condT rfl ⟨?_, rfl⟩, fun h => (of_decF h h3).elim⟩
    rw [if_pos (.inr (.inr (.inl h3)))]; rfl
  refine ⟨fun h => (h3 (of_decT h)).elim, fun _ => ?_⟩
  by_cases h4 : 32767 < t
  · refine condT (decT h4) ⟨?_, rfl⟩
    rw [if_pos (by omega)]; rfl
  · refine condF (decF h4) ⟨?_, rfl⟩
    rw [if_neg (by omega)]
    have e : IntKind.i64.wrap (1 + t.tmod 7) = 1 + t % 7 := by
      rw [Int.tmod_eq_emod_of_nonneg (by omega), w64] <;> omega
    show iV (iXor .i64 b (IntKind.i64.wrap (1 + t.tmod 7))) = _
    rw [e]
end Go.Proofs.YtffjccofglikhaaGreat
