/-
  The program's plain data, and how they lie in memory.
-/
import Derived.Test.YtffjccofglikhaaGreatMem
import Derived.Test.YtffjccofglikhaaGreatTabs
import Derived.Laws.Strings
namespace Go.Proofs.YtffjccofglikhaaGreat
open Go Go.RowKit

noncomputable abbrev P : Program := Tryz.prog
abbrev Str := List UInt8
abbrev sV (s : Str) : Value := .string ⟨s.toArray⟩
abbrev iV (n : Int) : Value := .int .i64 n
abbrev bV (b : UInt8) : Value := .int .u8 b.toNat
structure Raw where
  kind : Int
  n : Int
  s : Str
  deriving DecidableEq
structure Rec where
  key : Str
  gone : Bool
  val : Raw
  deriving DecidableEq
structure Pair where
  key : Str
  val : Raw
  deriving DecidableEq
def Raw.zero : Raw := ⟨0, 0, []⟩
def Rec.zero : Rec := ⟨[], false, Raw.zero⟩
def rawC (r : Raw) : List Value := [iV r.kind, iV r.n, sV r.s]
def recC (r : Rec) : List Value := [sV r.key, .bool r.gone, iV r.val.kind, iV r.val.n, sV r.val.s]
def pairC (r : Pair) : List Value := [sV r.key, iV r.val.kind, iV r.val.n, sV r.val.s]
def rawV (r : Raw) : Value := .agg (rawC r).toArray
def recV (r : Rec) : Value := .agg (recC r).toArray
def pairV (r : Pair) : Value := .agg (pairC r).toArray
def cB : Codec UInt8 := ⟨1, fun b => [bV b], fun _ => rfl, by intro x v h; simp at h; subst h; rfl, by decide⟩
def cI : Codec Int := ⟨1, fun n => [iV n], fun _ => rfl, by intro x v h; simp at h; subst h; rfl, by decide⟩
def cS : Codec Str := ⟨1, fun s => [sV s], fun _ => rfl, by intro x v h; simp at h; subst h; rfl, by decide⟩
def cBool : Codec Bool := ⟨1, fun b => [.bool b], fun _ => rfl, by intro x v h; simp at h; subst h; rfl, by decide⟩
def cR : Codec Int := ⟨1, fun n => [.int .i32 n], fun _ => rfl, by intro x v h; simp at h; subst h; rfl, by decide⟩
def cRec : Codec Rec := ⟨5, recC, fun _ => rfl, by intro x v h; simp [recC] at h; rcases h with rfl | rfl | rfl | rfl | rfl <;> rfl, by decide⟩
def cPair : Codec Pair := ⟨4, pairC, fun _ => rfl, by intro x v h; simp [pairC] at h; rcases h with rfl | rfl | rfl | rfl <;> rfl, by decide⟩

/-! ### Small things -/
theorem w64 {x : Int} (h0 : -9223372036854775808 ≤ x) (h1 : x ≤ 9223372036854775807) : IntKind.i64.wrap x = x := by
  simp only [IntKind.wrap, IntKind.bits, IntKind.signed, Bool.true_and]
  split
  · rename_i h; have h := of_decide_eq_true h; omega
  · rename_i h; have h : ¬ _ := fun h' => h (decide_eq_true h'); omega
theorem wu64 {x : Int} (h0 : 0 ≤ x) (h1 : x < 18446744073709551616) : IntKind.u64.wrap x = x := by
  simp only [IntKind.wrap, IntKind.bits, IntKind.signed, Bool.false_and, Bool.false_eq_true, if_false]
  omega
theorem wu8 {x : Int} (h0 : 0 ≤ x) (h1 : x < 256) : IntKind.u8.wrap x = x := by
  simp only [IntKind.wrap, IntKind.bits, IntKind.signed, Bool.false_and, Bool.false_eq_true, if_false]
  omega
theorem w32 {x : Int} (h0 : -2147483648 ≤ x) (h1 : x ≤ 2147483647) : IntKind.i32.wrap x = x := by
  simp only [IntKind.wrap, IntKind.bits, IntKind.signed, Bool.true_and]
  split
  · rename_i h; have h := of_decide_eq_true h; omega
  · rename_i h; have h : ¬ _ := fun h' => h (decide_eq_true h'); omega
/-- A counter goes on. -/
theorem ctr {i : Nat} (h : i ≤ 2147483648) : iV (IntKind.i64.wrap ((i : Int) + 1)) = iV ((i + 1 : Nat) : Int) := by
  rw [w64 (by omega) (by omega)]; rfl
theorem getE {α : Type} {l : List α} {i : Nat} (h : i < l.length) : l[i]? = some l[i] := List.getElem?_eq_getElem h
theorem decT {p : Prop} [Decidable p] (h : p) : decide p = true := decide_eq_true h
theorem decF {p : Prop} [Decidable p] (h : ¬ p) : decide p = false := decide_eq_false h
theorem of_decT {p : Prop} [Decidable p] (h : decide p = true) : p := of_decide_eq_true h
theorem of_decF {p : Prop} [Decidable p] (h : decide p = false) : ¬ p := of_decide_eq_false h

theorem flat_cB (s : List UInt8) : flat cB s = s.map bV := by
  unfold flat cB
  induction s with
  | nil => rfl
  | cons a s ih => simp [ih]
theorem src_str (w : World) (s : Str) : Src P w (sV s) s.length cB.k (flat cB s) := by
  refine ⟨fun w' => rfl, fun w' _ => ?_⟩
  rw [flat_cB]
  simp [Builtin.firstCells]

section
variable {α : Type} {c : Codec α}
/-- A piece of a slice. -/
theorem SlR.sub {w : World} {b o n cp : Nat} {xs : List α} (h : SlR c w (.slice (some ⟨b, o, none⟩) n cp) xs) {l r : Nat} (hl : l ≤ r) (hr : r ≤ xs.length) : SlR c w (.slice (some ⟨b, if cp = l then o else o + l * c.k, none⟩) (r - l) (cp - l)) ((xs.drop l).take (r - l)) := by
  obtain ⟨a, n', cp', e, h1, h2, h3, h4⟩ := h
  cases e
  subst h1
  refine ⟨_, _, _, rfl, by rw [List.length_take, List.length_drop]; omega, by omega, by omega, ?_⟩
  by_cases he : (xs.drop l).take (r - l) = []
  · exact .inl he
  · rcases h4 with rfl | ⟨b', o', e, hb, hrd⟩
    · simp at he
    · cases e
      have hlt : l < xs.length := by
        refine Classical.byContradiction fun hn => he ?_
        rw [List.drop_of_length_le (by omega)]; simp
      refine .inr ⟨b, _, rfl, hb, ?_⟩
      rw [if_neg (by omega)]
      have := hrd.part (l * c.k) ((r - l) * c.k)
      have e : flat c ((xs.drop l).take (r - l)) = ((flat c xs).drop (l * c.k)).take ((r - l) * c.k) := by
        have e1 : flat c xs = flat c (xs.take l) ++ flat c (xs.drop l) := by rw [← flat_append, List.take_append_drop]
        have e2 : flat c (xs.drop l) = flat c ((xs.drop l).take (r - l)) ++ flat c ((xs.drop l).drop (r - l)) := by rw [← flat_append, List.take_append_drop]
        have l1 : (flat c (xs.take l)).length = l * c.k := by rw [flat_len, List.length_take]; congr 1; omega
        have l2 : (flat c ((xs.drop l).take (r - l))).length = (r - l) * c.k := by rw [flat_len, List.length_take, List.length_drop]; congr 1; omega
        rw [e1, ← l1, List.drop_left, e2, ← l2, List.take_left]
      rwa [e]
end
/-- Bytes as a string. -/
theorem conv_str {s d : Nat} {w : World} {v : Value} {bs : List UInt8} {K : Value → Prop} (hs : ∃ e, P.underlying s = some (.slice e) ∧ P.underlying e = some (.int .u8)) (hd : P.underlying d = some .string) (h : SlR cB w v bs) (hk : K (sV bs)) : ReadW P (convert s d v) w K := by
  obtain ⟨e, h1, h2⟩ := hs
  refine ⟨_, ?_, hk⟩
  obtain ⟨a, n, cp, rfl, rfl, _, _, h4⟩ := h
  have hc : (Conv.bytesToString (.slice a bs.length cp)).run P w = .ok (sV bs) w := by
    have hp : ∀ (l : List UInt8) (r : ByteArray), (l.map fun b => (b.toNat : Int)).foldl (fun r n => r.push (UInt8.ofNat n.toNat)) r = ⟨r.data ++ l.toArray⟩ := by
      intro l
      induction l with
      | nil => intro r; simp
      | cons b l ih =>
        intro r
        simp only [List.map_cons, List.foldl_cons, ih]
        have : (r.push (UInt8.ofNat (b.toNat : Int).toNat)).data = r.data.push b := by
          simp [ByteArray.push]
        have e : r.data.push b ++ l.toArray = r.data ++ (b :: l).toArray := by apply Array.ext'; simp
        rw [this, e]
    rcases h4 with rfl | ⟨b, o, rfl, hb, hr⟩
    · cases a with
      | none => simp only [Conv.bytesToString, Sem.run_pure]; rfl
      | some a =>
        have e : sV [] = .string ByteArray.empty := rfl
        rw [e]
        simp [Conv.bytesToString, loadCells, loadCellsFrom]
    · have hl := run_loadCells_list (P := P) w ⟨b, o, none⟩ (flat cB bs) fun j v hv => by rw [ad]; exact hr j v hv
      rw [flat_len] at hl
      have := run_bytesToString w ⟨b, o, none⟩ bs.length cp (bs.map fun b => (b.toNat : Int)) (by
        rw [show bs.length * cB.k = bs.length from Nat.mul_one _] at hl
        rw [hl, flat_cB, List.map_map]
        rfl)
      rw [this, hp]
      simp
  simp only [convert, Sem.run_bind, run_under h1, run_under hd, Result.andThen_ok]
  cases a <;> simp only [run_under h2, Result.andThen_ok, hc]
theorem bytesT : ∃ e, P.underlying 25 = some (.slice e) ∧ P.underlying e = some (.int .u8) := ⟨5, by kernel_rfl, by kernel_rfl⟩
theorem strT : P.underlying 9 = some .string := by kernel_rfl
end Go.Proofs.YtffjccofglikhaaGreat
