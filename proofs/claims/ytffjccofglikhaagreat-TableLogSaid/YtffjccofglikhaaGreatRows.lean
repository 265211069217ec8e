/-
  No cell of these rows narrows 'for every input' (looked for: loops, veiled, ifaces, maps, wideKeys, modest, calm, conditions, laid).
  DERIVED. THE GIVEN ROWS OF THIS SEAT. 4 by the template 'for every input the law returns true; each argument reads behind the call as it read before'; 0 by the template 'total and deterministic' (their statements: YtffjccofglikhaaGreatTotals.lean).
  GIVEN WITH THE SEED: the statements are not yours to turn. If you find one false, say at which input.
  Laid BY PROGRAM, IN A SANDBOX (cutbox-rows.mjs): the forced cells as the released guide's own fill.sh prints them over the translation 509b60038acf8d57… (all of the seat's roots in one cut). By AI agents, Wed Nov 11 2026. No macro, syntax, notation, axiom, sorry.
-/
import Derived.Test.YtffjccofglikhaaGreatChecked
import GoSem.Claim
import GoSem.ClaimJoined
import GoSem.ClaimMapViews
import Derived.JoinedTies
import Derived.KernelRfl
namespace Go.Proofs.YtffjccofglikhaaGreat
/- THE CELL 'sum', in the pinned program and in every row, IS THE sha256 OF THE DUMP (.gsa) THAT YtffjccofglikhaaGreatProg.lean LOADS. Nothing in Lean hashes anything: it is a label: what it is worth is what the hold of that sum in a sandbox is worth. -/
noncomputable def Tryz.pinned : Pinned := { name := "ytffjccofglikhaagreat", sum := "509b60038acf8d579a71daa81a6c8f94cd6e54d6f3b64b8a8219ef38fad11385", checked := Tryz.checked }
namespace Rows
def none {H : Type} : Left H := { results := [], args := [] }

/-- 'loesslaw20.TableFull': WHATEVER THE INPUT: true; the input reads as it did. -/
def tableFullSpec : ChangeSpec := { name := "tableFull", fn := fun _ => fun
  | [d1, d2] => { results := [.lit (.bool true)], args := [d1, d2] }
  | _ => none }
def tableFullRow : OpenClaim := { program := "ytffjccofglikhaagreat", sum := "509b60038acf8d579a71daa81a6c8f94cd6e54d6f3b64b8a8219ef38fad11385", func := "loess/loesslaw20.TableFull", spec := "tableFull", unfollowed := true, recurses := true, apart := false }
def TableFullSaid : Prop := tableFullRow.holds Tryz.pinned (OpenSpec.ofChange tableFullSpec)

/-- ITS FALSE NEIGHBOUR: 'it returns false'. Refute it at one input. -/
def tableFullWrong : ChangeSpec := { name := "tableFull", fn := fun _ => fun
  | [d1, d2] => { results := [.lit (.bool false)], args := [d1, d2] }
  | _ => none }
def TableFullWrongFalsely : Prop := tableFullRow.holds Tryz.pinned (OpenSpec.ofChange tableFullWrong)

/-- 'loesslaw25.JobConvert': WHATEVER THE INPUT: true; the input reads as it did. -/
def jobConvertSpec : ChangeSpec := { name := "jobConvert", fn := fun _ => fun
  | [d1, d2, d3] => { results := [.lit (.bool true)], args := [d1, d2, d3] }
  | _ => none }
def jobConvertRow : OpenClaim := { program := "ytffjccofglikhaagreat", sum := "509b60038acf8d579a71daa81a6c8f94cd6e54d6f3b64b8a8219ef38fad11385", func := "loess/loesslaw25.JobConvert", spec := "jobConvert", unfollowed := true, recurses := true, apart := false }
def JobConvertSaid : Prop := jobConvertRow.holds Tryz.pinned (OpenSpec.ofChange jobConvertSpec)

/-- ITS FALSE NEIGHBOUR: 'it returns false'. Refute it at one input. -/
def jobConvertWrong : ChangeSpec := { name := "jobConvert", fn := fun _ => fun
  | [d1, d2, d3] => { results := [.lit (.bool false)], args := [d1, d2, d3] }
  | _ => none }
def JobConvertWrongFalsely : Prop := jobConvertRow.holds Tryz.pinned (OpenSpec.ofChange jobConvertWrong)

/-- 'loesslaw20.TableLog': WHATEVER THE INPUT: true; the input reads as it did. -/
def tableLogSpec : ChangeSpec := { name := "tableLog", fn := fun _ => fun
  | [d] => { results := [.lit (.bool true)], args := [d] }
  | _ => none }
def tableLogRow : OpenClaim := { program := "ytffjccofglikhaagreat", sum := "509b60038acf8d579a71daa81a6c8f94cd6e54d6f3b64b8a8219ef38fad11385", func := "loess/loesslaw20.TableLog", spec := "tableLog", unfollowed := true, recurses := true, apart := false }
def TableLogSaid : Prop := tableLogRow.holds Tryz.pinned (OpenSpec.ofChange tableLogSpec)

/-- ITS FALSE NEIGHBOUR: 'it returns false'. Refute it at one input. -/
def tableLogWrong : ChangeSpec := { name := "tableLog", fn := fun _ => fun
  | [d] => { results := [.lit (.bool false)], args := [d] }
  | _ => none }
def TableLogWrongFalsely : Prop := tableLogRow.holds Tryz.pinned (OpenSpec.ofChange tableLogWrong)

/-- 'loesslaw15.StoreAll': WHATEVER THE INPUT: true; the input reads as it did. -/
def storeAllSpec : ChangeSpec := { name := "storeAll", fn := fun _ => fun
  | [d1, d2] => { results := [.lit (.bool true)], args := [d1, d2] }
  | _ => none }
def storeAllRow : OpenClaim := { program := "ytffjccofglikhaagreat", sum := "509b60038acf8d579a71daa81a6c8f94cd6e54d6f3b64b8a8219ef38fad11385", func := "loess/loesslaw15.StoreAll", spec := "storeAll", inPlace := ["maps.clone"], unfollowed := true, recurses := true, apart := false }
def StoreAllSaid : Prop := storeAllRow.holds Tryz.pinned (OpenSpec.ofChange storeAllSpec)

/-- ITS FALSE NEIGHBOUR: 'it returns false'. Refute it at one input. -/
def storeAllWrong : ChangeSpec := { name := "storeAll", fn := fun _ => fun
  | [d1, d2] => { results := [.lit (.bool false)], args := [d1, d2] }
  | _ => none }
def StoreAllWrongFalsely : Prop := storeAllRow.holds Tryz.pinned (OpenSpec.ofChange storeAllWrong)

/- THE SECOND FORM. 'bulk': how many values and letters a reading holds, each counted each time it is reached (what is shared counts as often as it is met; a slice's spare places count too). A statement '..UptoSaid' is the law's where the arguments, and the package variables that the reading takes, are together of bulk at most 1048576: NARROWER than '..Said'. Prove '..Said' where nothing that the law and all that it calls make is longer than what came in: it says more and counts as full. Else prove '..UptoSaid'. A law counts once. -/
mutual
def uptoBulk {H : Type} : DataW H → Nat
  | .lit (.string bytes) => bytes.length + 1
  | .lit _ => 1
  | .nil => 1
  | .ptr d => uptoBulk d + 1
  | .slice elems spare => uptoBulkAll elems + uptoBulkAll spare + 1
  | .agg parts => uptoBulkAll parts + 1
  | .iface _ d => uptoBulk d + 1
  | .map entries => uptoBulkEntries entries + 1
  | .held _ => 1
def uptoBulkAll {H : Type} : List (DataW H) → Nat
  | [] => 0
  | d :: r => uptoBulk d + uptoBulkAll r
def uptoBulkEntries {H : Type} : List (Lit × DataW H) → Nat
  | [] => 0
  | x :: r => uptoBulkEntry x + uptoBulkEntries r
def uptoBulkEntry {H : Type} : Lit × DataW H → Nat
  | (.string bytes, d) => bytes.length + uptoBulk d + 1
  | (_, d) => uptoBulk d + 1
 end
def uptoSmall : (H : Type) → List (DataW H) → Bool := fun _ ds => decide (uptoBulkAll ds ≤ 1048576)
def OpenSpec.upto (s : _root_.Go.ChangeSpec) : _root_.Go.OpenSpec := { _root_.Go.OpenSpec.ofChange s with cond := some uptoSmall }

/-- 'loesslaw20.TableFull', WHERE WHAT IT READS IS OF BULK AT MOST 1048576: true; the input reads as it did. -/
def tableFullUptoRow : OpenClaim := { program := "ytffjccofglikhaagreat", sum := "509b60038acf8d579a71daa81a6c8f94cd6e54d6f3b64b8a8219ef38fad11385", func := "loess/loesslaw20.TableFull", spec := "tableFull", unfollowed := true, recurses := true, apart := false, narrowed := true }
def TableFullUptoSaid : Prop := tableFullUptoRow.holds Tryz.pinned (OpenSpec.upto tableFullSpec)

/-- 'loesslaw25.JobConvert', WHERE WHAT IT READS IS OF BULK AT MOST 1048576: true; the input reads as it did. -/
def jobConvertUptoRow : OpenClaim := { program := "ytffjccofglikhaagreat", sum := "509b60038acf8d579a71daa81a6c8f94cd6e54d6f3b64b8a8219ef38fad11385", func := "loess/loesslaw25.JobConvert", spec := "jobConvert", unfollowed := true, recurses := true, apart := false, narrowed := true }
def JobConvertUptoSaid : Prop := jobConvertUptoRow.holds Tryz.pinned (OpenSpec.upto jobConvertSpec)

/-- 'loesslaw20.TableLog', WHERE WHAT IT READS IS OF BULK AT MOST 1048576: true; the input reads as it did. -/
def tableLogUptoRow : OpenClaim := { program := "ytffjccofglikhaagreat", sum := "509b60038acf8d579a71daa81a6c8f94cd6e54d6f3b64b8a8219ef38fad11385", func := "loess/loesslaw20.TableLog", spec := "tableLog", unfollowed := true, recurses := true, apart := false, narrowed := true }
def TableLogUptoSaid : Prop := tableLogUptoRow.holds Tryz.pinned (OpenSpec.upto tableLogSpec)

/-- 'loesslaw15.StoreAll', WHERE WHAT IT READS IS OF BULK AT MOST 1048576: true; the input reads as it did. -/
def storeAllUptoRow : OpenClaim := { program := "ytffjccofglikhaagreat", sum := "509b60038acf8d579a71daa81a6c8f94cd6e54d6f3b64b8a8219ef38fad11385", func := "loess/loesslaw15.StoreAll", spec := "storeAll", inPlace := ["maps.clone"], unfollowed := true, recurses := true, apart := false, narrowed := true }
def StoreAllUptoSaid : Prop := storeAllUptoRow.holds Tryz.pinned (OpenSpec.upto storeAllSpec)

end Rows
end Go.Proofs.YtffjccofglikhaaGreat
