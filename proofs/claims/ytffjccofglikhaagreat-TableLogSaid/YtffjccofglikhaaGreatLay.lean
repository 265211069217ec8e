/-
  Tables of a program's types and functions, and a check of them that the kernel can carry out.
-/
import Derived.Test.YtffjccofglikhaaGreatCode
namespace Go.Proofs.YtffjccofglikhaaGreat
open Go

def lk {α : Type} : List (Nat × α) → Nat → Option α
  | [], _ => none
  | (i, v) :: e, t => bif Nat.beq i t then some v else lk e t
theorem lk_mem {α : Type} : ∀ {l : List (Nat × α)} {t : Nat} {v : α}, lk l t = some v → (t, v) ∈ l
  | (i, u) :: e, t, v, h => by
    simp only [lk] at h
    cases hb : Nat.beq i t with
    | true => rw [hb] at h; simp only [cond_true, Option.some.injEq] at h; rw [Nat.eq_of_beq_eq_true hb, h]; simp
    | false => rw [hb] at h; exact List.mem_cons_of_mem _ (lk_mem h)
structure Tabs where
  sh : List (Nat × Option Nat)
  fo : List (Nat × List (Nat × Nat))
  st : List (Nat × List (Nat × Nat))
  sl : List (Nat × Nat × Nat)
  ar : List (Nat × Nat × Nat × Nat)
  zr : List (Nat × List Value)
  kd : List (Nat × Kd)
  n : Nat
  noBody : List Nat
def mkLay (T : Tabs) : Lay where
  sh t := lk T.sh t
  fo t f := match lk T.fo t with
    | some l => l[f]?
    | none => none
  st t := lk T.st t
  sl t := lk T.sl t
  ar t := lk T.ar t
  zr t := lk T.zr t
  kd t := match lk T.kd t with
    | some k => k
    | none => .other
  fn f := Nat.blt f T.n && !memN f T.noBody
def leafEq : Value → Value → Bool
  | .bool a, .bool b => a == b
  | .int j a, .int k b => sameK j k && a == b
  | .string a, .string b => a.data.toList == b.data.toList
  | .pointer none, .pointer none => true
  | .slice none 0 0, .slice none 0 0 => true
  | .map none, .map none => true
  | .nilFunc, .nilFunc => true
  | .nilIface, .nilIface => true
  | _, _ => false
theorem leafEq_ok {a b : Value} (h : leafEq a b = true) : a = b := by
  unfold leafEq at h
  split at h <;> first | (cases h; done) | rfl | skip
  · rw [eq_of_beq h]
  · simp only [Bool.and_eq_true] at h; rw [sameK_eq h.1, eq_of_beq h.2]
  · rename_i a b
    have := eq_of_beq h
    obtain ⟨x⟩ := a
    obtain ⟨y⟩ := b
    simp only at this
    rw [show x = y from Array.ext' this]
def leavesEq : List Value → List Value → Bool
  | [], [] => true
  | a :: x, b :: y => leafEq a b && leavesEq x y
  | _, _ => false
theorem leavesEq_ok : ∀ {x y : List Value}, leavesEq x y = true → x = y
  | [], [], _ => rfl
  | a :: x, b :: y, h => by
    simp only [leavesEq, Bool.and_eq_true] at h
    rw [leafEq_ok h.1, leavesEq_ok h.2]
  | [], _ :: _, h => by cases h
  | _ :: _, [], h => by cases h
def prsEq : List (Nat × Nat) → List (Nat × Nat) → Bool
  | [], [] => true
  | (a, b) :: x, (c, d) :: y => Nat.beq a c && Nat.beq b d && prsEq x y
  | _, _ => false
theorem prsEq_ok : ∀ {x y : List (Nat × Nat)}, prsEq x y = true → x = y
  | [], [], _ => rfl
  | (a, b) :: x, (c, d) :: y, h => by
    simp only [prsEq, Bool.and_eq_true] at h
    rw [Nat.eq_of_beq_eq_true h.1.1, Nat.eq_of_beq_eq_true h.1.2, prsEq_ok h.2]
  | [], _ :: _, h => by cases h
  | _ :: _, [], h => by cases h
section
variable (P : Program)
def ckSh (p : Nat × Option Nat) : Bool := match P.underlying p.1, P.info? p.1 with
  | some d, some i => match p.2 with
    | none => !IsAggD d && Nat.beq i.size 1
    | some k => IsAggD d && Nat.beq i.size k
  | _, _ => false
def ckFo1 (fs : Array Field) : Nat → List (Nat × Nat) → Bool
  | _, [] => true
  | f, (o, u) :: r => (match fs[f]? with
    | some g => Nat.beq g.offset o && Nat.beq g.type u && (match P.info? u with | some i => !(Nat.beq i.size 0) | none => false)
    | none => false) && ckFo1 fs (f + 1) r
def ckFo (p : Nat × List (Nat × Nat)) : Bool := match P.underlying p.1 with
  | some (.struct fs) => ckFo1 P fs 0 p.2
  | _ => false
def ckSt (p : Nat × List (Nat × Nat)) : Bool := match P.underlying p.1 with
  | some (.struct fs) => match fs.toList.mapM fun g => (P.info? g.type).map fun i => (g.offset, i.size) with
    | some l => prsEq l p.2
    | none => false
  | some (.array n e) => match P.info? e with
    | some i => prsEq p.2 ((List.range n).map fun j => (j * i.size, i.size))
    | none => false
  | _ => false
def ckSl (p : Nat × Nat × Nat) : Bool := match P.underlying p.1 with
  | some (.slice e) => Nat.beq e p.2.1 && Nat.blt 0 p.2.2 && (match P.info? e with | some i => Nat.beq i.size p.2.2 && Nat.ble i.bytes 65536 && (match i.zero with | some z => Nat.beq z.cells.size p.2.2 | none => false) | none => false)
  | _ => false
def ckAr (p : Nat × Nat × Nat × Nat) : Bool := match P.underlying p.1 with
  | some (.array n e) => Nat.beq n p.2.1 && Nat.beq e p.2.2.1 && Nat.blt 1 n && (match P.info? e with | some i => Nat.beq i.size p.2.2.2 | none => false)
  | _ => false
def ckZr (p : Nat × List Value) : Bool := match P.info? p.1 with
  | some i => match i.zero with
    | some v => leavesEq v.cells.toList p.2 && Nat.beq i.size p.2.length
    | none => false
  | none => false
def ckKd (p : Nat × Kd) : Bool := match p.2, P.underlying p.1 with
  | .bool, some .bool => true
  | .str, some .string => true
  | .ptr, some (.pointer _) => true
  | .slice, some (.slice _) => true
  | .map, some (.map _ _) => true
  | .int k, some (.int j) => sameK j k
  | .other, _ => true
  | _, _ => false
def ckFn (T : Tabs) (f : Nat) : Bool := memN f T.noBody || match P.funcs[f]? with
  | some g => g.body.isSome && !(g.name == "runtime.NumGoroutine")
  | none => false
theorem ckFo1_ok {fs : Array Field} : ∀ {l : List (Nat × Nat)} {k : Nat}, ckFo1 P fs k l = true → ∀ f o u, l[f]? = some (o, u) → ∃ g i, fs[k + f]? = some g ∧ g.offset = o ∧ g.type = u ∧ P.info? u = some i ∧ i.size ≠ 0
  | [], k, _, f, o, u, hf => by simp at hf
  | (o', u') :: r, k, h, f, o, u, hf => by
    simp only [ckFo1, Bool.and_eq_true] at h
    cases f with
    | zero =>
      simp only [List.getElem?_cons_zero, Option.some.injEq, Prod.mk.injEq] at hf
      obtain ⟨rfl, rfl⟩ := hf
      have h := h.1
      split at h
      · rename_i g hg
        simp only [Bool.and_eq_true] at h
        obtain ⟨⟨h1, h2⟩, h3⟩ := h
        split at h3
        · rename_i i hi
          refine ⟨g, i, hg, Nat.eq_of_beq_eq_true h1, Nat.eq_of_beq_eq_true h2, hi, fun e => ?_⟩
          rw [e] at h3; cases h3
        · cases h3
      · cases h
    | succ f =>
      rw [List.getElem?_cons_succ] at hf
      have := ckFo1_ok h.2 f o u hf
      rwa [show k + (f + 1) = k + 1 + f by omega]
theorem lay_ok {T : Tabs} (hm : P.follows .mixedOrders = true) (h1 : T.sh.all (ckSh P) = true) (h2 : T.fo.all (ckFo P) = true) (h3 : T.st.all (ckSt P) = true) (h4 : T.sl.all (ckSl P) = true) (h5 : T.ar.all (ckAr P) = true) (h6 : T.zr.all (ckZr P) = true) (h7 : T.kd.all (ckKd P) = true) (h8 : (List.range T.n).all (ckFn P T) = true) : LayOk P (mkLay T) where
  sh1 t h := by
    have := List.all_eq_true.1 h1 _ (lk_mem h)
    simp only [ckSh] at this
    split at this
    · rename_i d i hd hi
      simp only [Bool.and_eq_true, Bool.not_eq_true'] at this
      exact ⟨d, i, hd, this.1, hi, Nat.eq_of_beq_eq_true this.2⟩
    · cases this
  shA t k h := by
    have := List.all_eq_true.1 h1 _ (lk_mem h)
    simp only [ckSh] at this
    split at this
    · rename_i d i hd hi
      simp only [Bool.and_eq_true] at this
      exact ⟨d, i, hd, this.1, hi, Nat.eq_of_beq_eq_true this.2⟩
    · cases this
  fo t f o u h := by
    simp only [mkLay] at h
    split at h
    · rename_i l hl
      have := List.all_eq_true.1 h2 _ (lk_mem hl)
      simp only [ckFo] at this
      split at this
      · rename_i fs hfs
        obtain ⟨g, i, a1, a2, a3, a4, a5⟩ := ckFo1_ok P this f o u h
        exact ⟨fs, g, i, hfs, by simpa using a1, a2, a3, a4, a5⟩
      · cases this
    · cases h
  st t ps h := by
    have := List.all_eq_true.1 h3 _ (lk_mem h)
    simp only [ckSt] at this
    split at this
    · rename_i fs hfs
      split at this
      · rename_i l hl
        refine .inl ⟨fs, hfs, ?_⟩
        rw [hl, prsEq_ok this]
      · cases this
    · rename_i n e hu
      split at this
      · rename_i i hi
        exact .inr ⟨n, e, i, hu, hi, prsEq_ok this⟩
      · cases this
    · cases this
  sl t e k h := by
    have := List.all_eq_true.1 h4 _ (lk_mem h)
    simp only [ckSl] at this
    split at this
    · rename_i e' hu
      simp only [Bool.and_eq_true] at this
      obtain ⟨⟨a1, a0⟩, a2⟩ := this
      have := Nat.eq_of_beq_eq_true a1
      subst this
      split at a2
      · rename_i i hi
        simp only [Bool.and_eq_true] at a2
        obtain ⟨⟨a2, a3⟩, a4⟩ := a2
        split at a4
        · rename_i z hz
          exact ⟨i, hu, hi, Nat.eq_of_beq_eq_true a2, by simpa using a0, by simpa using a3, z, hz, Nat.eq_of_beq_eq_true a4⟩
        · cases a4
      · cases a2
    · cases this
  ar t n e k h := by
    have := List.all_eq_true.1 h5 _ (lk_mem h)
    simp only [ckAr] at this
    split at this
    · rename_i n' e' hu
      simp only [Bool.and_eq_true] at this
      obtain ⟨⟨⟨a1, a2⟩, a3⟩, a4⟩ := this
      have e1 := Nat.eq_of_beq_eq_true a1
      have e2 := Nat.eq_of_beq_eq_true a2
      subst e1
      subst e2
      split at a4
      · rename_i i hi; exact ⟨i, hu, hi, Nat.eq_of_beq_eq_true a4, by simpa using a3⟩
      · cases a4
    · cases this
  zr t z h := by
    have := List.all_eq_true.1 h6 _ (lk_mem h)
    simp only [ckZr] at this
    split at this
    · rename_i i hi
      split at this
      · rename_i v hv
        simp only [Bool.and_eq_true] at this
        exact ⟨i, v, hi, hv, by rw [← leavesEq_ok this.1], Nat.eq_of_beq_eq_true this.2⟩
      · cases this
    · cases this
  kd t := by
    cases hk : (mkLay T).kd t with
    | other => trivial
    | _ =>
      simp only [mkLay] at hk
      split at hk
      · rename_i k hl
        subst hk
        have := List.all_eq_true.1 h7 _ (lk_mem hl)
        simp only [ckKd] at this
        split at this <;> first | (cases this; done) | skip
        all_goals rename_i hu _ <;> simp_all
        try (exact sameK_eq this)
      · cases hk
  fn f h := by
    simp only [mkLay, Bool.and_eq_true, Bool.not_eq_true'] at h
    have := List.all_eq_true.1 h8 f (List.mem_range.2 (by simpa using h.1))
    simp only [ckFn, h.2, Bool.false_or] at this
    split at this
    · rename_i g hg
      simp only [Bool.and_eq_true, Bool.not_eq_true'] at this
      obtain ⟨c, hc⟩ := Option.isSome_iff_exists.1 this.1
      exact ⟨g, c, hg, hc, this.2⟩
    · cases this
  mixed := hm
end
end Go.Proofs.YtffjccofglikhaaGreat
