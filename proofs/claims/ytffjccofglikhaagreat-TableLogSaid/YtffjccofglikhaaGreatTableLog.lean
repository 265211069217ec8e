/-
  The statement: TableLog returns true, whatever records it is called with, and leaves what is there as it was. No condition.
-/
import Derived.Test.YtffjccofglikhaaGreatRows
import Derived.Test.YtffjccofglikhaaGreatCTabLog2
import Derived.Test.YtffjccofglikhaaGreatCArg
namespace Go.Proofs.YtffjccofglikhaaGreat.tableLog
open Go.ChangeShapes Go.WideShapes Go.ChangeAt Go.RowKit

theorem own : ownKnob Tryz.prog.godebug = none := by kernel_rfl
theorem walk {v : Value} {L : List Rec} (w : World) (hv : SlR cRec w v L) (hL : ∀ r ∈ L, RecIn r) : Calls Tryz.prog 5 #[v] w fun e w' => e = .returned (.bool true) ∧ Mod no w w' := walk_of (law20_TableLog hv hL)
set_option maxRecDepth 100000 in
theorem lifted (os : Os) (started : os.Started) (H : Type) (enc : TypeId × Value → H) :
    ReturnsInHanded {} Tryz.checked os 5 .any (Rows.tableLogSpec.pre6 enc Tryz.prog Tryz.f5 Rows.tableLogRow.domain false) (Rows.tableLogSpec.post enc Tryz.prog Tryz.f5 false true false false) := by
  refine returnsInHanded_of_change (C := Tryz.checked) own started (by kernel_rfl) Tryz.func5
    (ChangeSpec.witness6 (enc := enc) (C := Tryz.checked) false ⟨#[], #[.slice none 0 0], []⟩ 8 (by kernel_rfl) (by kernel_rfl) (by kernel_rfl) (by kernel_rfl)) ?_
  intro W base args ds gs before hval0 hW hcnd _
  have hval : ∀ (j : Nat) t v, Tryz.f5.params[j]? = some t → args[j]? = some v → Value.okWide Tryz.prog W .any base t v := hval0
  have hW' := hW
  have hlt := hW.lt
  obtain ⟨p, q, hA0, hV, rfl, hfz, hnd⟩ := hW
  have hA : DataW.TrodAll enc Tryz.prog W 0 (fun _ => true) true Tryz.f5.params.toList args.toList ds p := hA0
  rw [Tryz.params5] at hA hval
  obtain ⟨rfl, rfl⟩ := trodVars_none hV
  obtain ⟨v, d, rfl, rfl, h0⟩ := trodAll_one hA
  obtain ⟨L, hS, hG⟩ := slr_of (c := cRec) (t := 24) (e := 30) (by kernel_rfl) (by kernel_rfl) (fun _ _ _ h => rec_open h) (hval 0 _ v rfl rfl) h0
  clear hA0 hval0
  simp only [List.append_nil] at hW' hlt
  have hT : ∀ t ∈ Tryz.f5.params.toList, t < Tryz.prog.types.size := by
    rw [Tryz.params5]
    intro t ht
    rw [List.mem_singleton.1 ht]
    exact of_decide_eq_true (by kernel_rfl)
  rw [← Tryz.params5] at hA
  have hargs : ∀ W' : World, Mod no W W' → ∀ sp : Nat → Bool, (∀ x ∈ p, sp x.block = true) → DataW.TrodAll enc Tryz.prog W' 0 sp true Tryz.f5.params.toList #[v].toList [d] p := fun W' hg sp hs => trodAll_mod kids slPos hg hT hA hlt hs
  refine (walk W hS hG).mono fun e W' ⟨he, hg⟩ => ?_
  subst he
  exact ⟨_, rfl, post_of_mod (pa := p) (pv := []) hW' (fun _ _ _ => (trodAll_cons_mk (shut_bool Tryz.underlying4 _) trodAll_mk0)) (fun sp hs => hargs W' hg sp hs) (fun _ _ => rfl) (List.append_nil _).symm hg (ok_one (by kernel_rfl) rfl (okWide_bool_mk Tryz.underlying4 _))⟩
theorem over : Rows.tableLogRow.holds Tryz.pinned (OpenSpec.ofChange Rows.tableLogSpec) :=
  OpenClaim.holds_of_wide 5 Tryz.f5 rfl rfl rfl rfl rfl rfl rfl ⟨rfl, rfl, rfl, rfl, rfl⟩ rfl rfl rfl rfl rfl (by kernel_rfl) Tryz.func5 (by kernel_rfl)
    (of_decide_eq_true (by kernel_rfl)) (by unfold Func.isWrapper; first | (rw [if_pos (by decide +kernel)]; kernel_rfl) | (rw [if_neg (by decide +kernel)]; exact ⟨rfl, rfl⟩))
    (fun os started H enc _ => lifted os started H enc)
theorem proved : Rows.TableLogSaid := over
end Go.Proofs.YtffjccofglikhaaGreat.tableLog
