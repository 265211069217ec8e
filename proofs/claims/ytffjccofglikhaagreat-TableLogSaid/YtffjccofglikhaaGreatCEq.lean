/-
  Struct equality.
-/
import Derived.Test.YtffjccofglikhaaGreatCHash
import Derived.Laws.StructEq
namespace Go.Proofs.YtffjccofglikhaaGreat
open Go Go.RowKit

/-! ### Equality of structs -/
def eqT (d : Nat) (xs ys : Array Value) : List (Bool × Nat × Nat) → Sem Bool
  | [] => pure true
  | (b, t, o) :: r => if b = true then do
      let x ← part t xs o
      let y ← part t ys o
      let q ← Op.equalIn d t x y
      if (!q) = true then pure false else eqT d xs ys r
    else eqT d xs ys r
theorem eqT_is (d : Nat) (xs ys : Array Value) : ∀ fs : List Field, Op.eqFields d xs ys fs = eqT d xs ys (fs.map fun f => (decide (f.name ≠ "_"), f.type, f.offset))
  | [] => rfl
  | f :: fs => by
    simp only [Op.eqFields, List.map_cons, eqT, eqT_is d xs ys fs, decide_eq_true_eq]
theorem run_eqT {d t : Nat} {xs ys : Array Value} {l : List (Bool × Nat × Nat)} (ht : P.underlying t = some (.struct (P.fieldsOf t))) (hp : P.stoodInHeld t = false) (hl : ((P.fieldsOf t).toList.map fun f => (decide (f.name ≠ "_"), f.type, f.offset)) = l) (w : World) :
    (Op.equalIn (d + 1) t (.agg xs) (.agg ys)).run P w = (eqT d xs ys l).run P w := by
  rw [run_equalIn_struct w d t xs ys ht hp, eqT_is, hl]
theorem eqT_cons {d t o : Nat} {xs ys : Array Value} {l : List (Bool × Nat × Nat)} {x y : Value} {b : Bool} {w : World} (hx : (part t xs o).run P w = .ok x w) (hy : (part t ys o).run P w = .ok y w) (hb : (Op.equalIn d t x y).run P w = .ok b w) :
    (eqT d xs ys ((true, t, o) :: l)).run P w = if b then (eqT d xs ys l).run P w else .ok false w := by
  simp only [eqT, if_true, Sem.run_bind, hx, hy, hb, Result.andThen_ok]
  cases b <;> simp
theorem beq_str (a b : Str) : ((⟨a.toArray⟩ : ByteArray).toList == (⟨b.toArray⟩ : ByteArray).toList) = decide (a = b) := by
  rw [ByteArray.toList_mk, ByteArray.toList_mk]
  by_cases h : a = b <;> simp [h]
theorem und_i64a : P.underlying 3 = some (.int .i64) := by kernel_rfl
theorem und_i64b : P.underlying 2 = some (.int .i64) := by kernel_rfl
theorem und_bool : P.underlying 4 = some .bool := by kernel_rfl
theorem raw_u : P.underlying 27 = some (.struct (P.fieldsOf 27)) := by kernel_rfl
theorem raw_h : P.stoodInHeld 27 = false := by kernel_rfl
theorem raw_f : ((P.fieldsOf 27).toList.map fun f => (decide (f.name ≠ "_"), f.type, f.offset)) = [(true, 3, 0), (true, 2, 1), (true, 9, 2)] := by kernel_rfl
theorem rec_u : P.underlying 30 = some (.struct (P.fieldsOf 30)) := by kernel_rfl
theorem rec_h : P.stoodInHeld 30 = false := by kernel_rfl
theorem rec_f : ((P.fieldsOf 30).toList.map fun f => (decide (f.name ≠ "_"), f.type, f.offset)) = [(true, 9, 0), (true, 4, 1), (true, 27, 2)] := by kernel_rfl
theorem raw_eq (d : Nat) (a b : Raw) (w : World) : (Op.equalIn (d + 2) 27 (rawV a) (rawV b)).run P w = .ok (decide (a = b)) w := by
  show (Op.equalIn (d + 1 + 1) 27 (.agg (rawC a).toArray) (.agg (rawC b).toArray)).run P w = _
  rw [run_eqT (l := [(true, 3, 0), (true, 2, 1), (true, 9, 2)]) raw_u raw_h raw_f]
  have p1 : ∀ r : Raw, (part 3 (rawC r).toArray 0).run P w = .ok (iV r.kind) w := fun r => part1_ok lay_is rfl rfl w
  have p2 : ∀ r : Raw, (part 2 (rawC r).toArray 1).run P w = .ok (iV r.n) w := fun r => part1_ok lay_is rfl rfl w
  have p3 : ∀ r : Raw, (part 9 (rawC r).toArray 2).run P w = .ok (sV r.s) w := fun r => part1_ok lay_is rfl rfl w
  rw [eqT_cons (p1 a) (p1 b) (run_equalIn_int w d _ _ _ _ _ und_i64a), eqT_cons (p2 a) (p2 b) (run_equalIn_int w d _ _ _ _ _ und_i64b), eqT_cons (p3 a) (p3 b) (run_equalIn_string w d _ _ _ strT)]
  rw [beq_str]
  obtain ⟨k1, n1, s1⟩ := a
  obtain ⟨k2, n2, s2⟩ := b
  simp only [eqT, Sem.run_pure, Raw.mk.injEq]
  by_cases h1 : k1 = k2 <;> by_cases h2 : n1 = n2 <;> by_cases h3 : s1 = s2 <;> simp [h1, h2, h3]
theorem rec_eq (d : Nat) (a b : Rec) (w : World) : (Op.equalIn (d + 3) 30 (recV a) (recV b)).run P w = .ok (decide (a = b)) w := by
  show (Op.equalIn (d + 2 + 1) 30 (.agg (recC a).toArray) (.agg (recC b).toArray)).run P w = _
  rw [run_eqT (l := [(true, 9, 0), (true, 4, 1), (true, 27, 2)]) rec_u rec_h rec_f]
  have p1 : ∀ r : Rec, (part 9 (recC r).toArray 0).run P w = .ok (sV r.key) w := fun r => part1_ok lay_is rfl rfl w
  have p2 : ∀ r : Rec, (part 4 (recC r).toArray 1).run P w = .ok (.bool r.gone) w := fun r => part1_ok lay_is rfl rfl w
  have p3 : ∀ r : Rec, (part 27 (recC r).toArray 2).run P w = .ok (rawV r.val) w := fun r => (partA_ok (u := 27) (k := 3) (cs := recC r) (o := 2) lay_is rfl w :)
  rw [eqT_cons (p1 a) (p1 b) (run_equalIn_string w (d + 1) _ _ _ strT), eqT_cons (p2 a) (p2 b) (run_equalIn_bool' w (d + 1) _ _ _ und_bool), eqT_cons (p3 a) (p3 b) (raw_eq d _ _ w)]
  rw [beq_str]
  obtain ⟨k1, n1, s1⟩ := a
  obtain ⟨k2, n2, s2⟩ := b
  simp only [eqT, Sem.run_pure, Rec.mk.injEq]
  by_cases h1 : k1 = k2 <;> by_cases h2 : n1 = n2 <;> by_cases h3 : s1 = s2 <;> simp [h1, h2, h3]
theorem max_is : ∃ d, Op.maxDepth = d + 5 := ⟨9995, rfl⟩
theorem eqB {t : Nat} {xs ys : Array Value} {b : Bool} {w : World} (he : (Op.equal t (.agg xs) (.agg ys)).run P w = .ok b w) : (binOp .eql t (.agg xs) (.agg ys)).run P w = .ok (.bool b) w ∧ (binOp .neq t (.agg xs) (.agg ys)).run P w = .ok (.bool (!b)) w := by
  constructor <;> simp only [binOp, Sem.run_bind, he, Result.andThen_ok, Sem.run_pure]
theorem raw_eql {a b : Raw} {w : World} {K : Value → Prop} (hk : K (.bool (decide (a = b)))) : BinW P .eql 27 (rawV a) (rawV b) w K := by
  obtain ⟨d, hd⟩ := max_is
  exact ⟨_, (eqB (by rw [Op.equal, hd]; exact raw_eq (d + 3) a b w)).1, fun ox oy => run_eqGuard_agg w _ _ ox oy _ _ (by kernel_rfl), hk⟩
theorem rec_eql {a b : Rec} {w : World} {K : Value → Prop} (hk : K (.bool (decide (a = b)))) : BinW P .eql 30 (recV a) (recV b) w K := by
  obtain ⟨d, hd⟩ := max_is
  exact ⟨_, (eqB (by rw [Op.equal, hd]; exact rec_eq (d + 2) a b w)).1, fun ox oy => run_eqGuard_agg w _ _ ox oy _ _ (by kernel_rfl), hk⟩
theorem rec_neq {a b : Rec} {w : World} {K : Value → Prop} (hk : K (.bool (!decide (a = b)))) : BinW P .neq 30 (recV a) (recV b) w K := by
  obtain ⟨d, hd⟩ := max_is
  exact ⟨_, (eqB (by rw [Op.equal, hd]; exact rec_eq (d + 2) a b w)).2, fun ox oy => run_eqGuard_agg w _ _ ox oy _ _ (by kernel_rfl), hk⟩

end Go.Proofs.YtffjccofglikhaaGreat
