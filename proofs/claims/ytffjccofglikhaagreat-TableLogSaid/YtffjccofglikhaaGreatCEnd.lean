/-
  From a walk to the given statement: what was there is as it was.
-/
import Derived.Test.YtffjccofglikhaaGreatMem
import Derived.WalkKit
import Derived.ProofKit
import Derived.OpenShut
namespace Go.Proofs.YtffjccofglikhaaGreat
open Go Go.RowKit Go.ChangeShapes Go.WideShapes Go.ChangeAt

theorem Mod.kept {w w' : World} (h : Mod no w w') (may : MemPlace → Prop) : w.keptBut w' may := by
  refine ⟨h.1, h.2.2.1, fun i hi => ?_⟩
  rw [h.at hi fun f => f]
  have : (w.heap[i]?).isSome := by simp [hi]
  cases hb : w.heap[i]? with
  | none => rfl
  | some o =>
    cases o <;> first | exact ⟨rfl, rfl, rfl, fun _ _ => rfl⟩ | exact .inr ⟨rfl, rfl⟩ | rfl
theorem Mod.frozen {w w' : World} (h : Mod no w w') {a : Addr} (ha : a.block < w.heap.size) : w'.frozen? a = w.frozen? a := by
  unfold World.frozen?
  rw [h.at ha fun f => f]
section
variable {H : Type} {enc : TypeId × Value → H} {P : Program}
/-- The end of a law: true is told, the arguments read as they did, the rest of what was there is as it was. -/
theorem post_of_mod {f : Func} {s : ChangeSpec} {apart fresh handsOn again : Bool} {W W' : World} {args : Array Value} {v : Value} {ds gs : List (DataW H)} {before pa pv : List MemPlace}
    (hW : DataW.Whole enc P f.params.toList s.vars apart W args.toList ds gs before)
    (hres : ∀ (b : Nat) (sp : Nat → Bool) (hd : Bool), DataW.TrodAll enc P W' b sp hd f.resultTypes.toList (v.resultList f.resultTypes.size) (s.fn H (ds ++ gs)).results [])
    (hargs : ∀ sp : Nat → Bool, (∀ p ∈ before, sp p.block = true) → DataW.TrodAll enc P W' 0 sp true f.params.toList args.toList (s.fn H (ds ++ gs)).args pa)
    (hvars : ∀ sp : Nat → Bool, (∀ p ∈ before, sp p.block = true) → DataW.TrodVars enc P W' sp s.vars (s.fn H (ds ++ gs)).vars pv)
    (hps : before = pa ++ pv) (hm : Mod no W W')
    (hok : ∀ (j : Nat) (t : TypeId) (r : Value), f.resultTypes[j]? = some t → (v.resultList f.resultTypes.size)[j]? = some r → Value.okWide P W' .any 0 t r) :
    s.post enc P f apart fresh handsOn again W args v W' := by
  subst hps
  have hlt : ∀ p ∈ pa ++ pv, p.block < W.heap.size := fun p hp => hW.lt p hp
  have hsp : ∀ p ∈ pa ++ pv, (fun b => decide (b < W.heap.size)) p.block = true := fun p hp => decide_eq_true (hlt p hp)
  refine ⟨ds, gs, pa ++ pv, [], pa, pv, hW, hres _ _ _, hargs _ hsp, hvars _ hsp, Mod.kept hm _, fun _ => ⟨hok, _, _, ([] ++ pa) ++ pv, ⟨[] ++ pa, pv, trodAll_append (hargs _ fun _ _ => rfl) (hres _ _ _), hvars _ fun _ _ => rfl, rfl, ?_, ?_⟩, ?_⟩⟩
  · obtain ⟨_, _, _, _, _, hz, _⟩ := hW
    intro b o hp
    have hp : MemPlace.cell b o ∈ pa ++ pv := by simpa using hp
    have := hlt _ hp
    rw [hm.frozen (a := ⟨b, o, none⟩) this]
    exact hz b o hp
  · obtain ⟨_, _, _, _, _, _, hn⟩ := hW
    intro ha
    simpa using hn ha
  · intro p hp _
    simpa using hp
end
theorem walk_of {f : FuncId} {args : List Value} {w : World} {P : Program} (h : CallV P f args w fun r w' => r = .bool true ∧ Mod no w w') : Calls P f args.toArray w fun e w' => e = .returned (.bool true) ∧ Mod no w w' :=
  h.mono (by rintro _ _ ⟨_, rfl, rfl, h⟩; exact ⟨rfl, h⟩)
end Go.Proofs.YtffjccofglikhaaGreat
