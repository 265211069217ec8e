/-
  A region that draws its order: one plan (whatever neither makes nor turns memory as early as may be; what reads is read again behind whatever may have been ahead of it) serves every order.
-/
import Derived.Test.YtffjccofglikhaaGreatWp
namespace Go.Proofs.YtffjccofglikhaaGreat
open Go Go.RowKit

def predsO (o : Oper) : List Nat := (o.after.toList.filter (Region.binds .any)).map (·.on)
def memN (i : Nat) (l : List Nat) : Bool := l.any fun j => Nat.beq i j
theorem memN_iff {i : Nat} {l : List Nat} : memN i l = true ↔ i ∈ l := by
  simp only [memN, List.any_eq_true]
  constructor
  · rintro ⟨j, hj, h⟩; rw [Nat.eq_of_beq_eq_true h]; exact hj
  · intro h; exact ⟨i, h, Nat.beq_refl i⟩
/-- The ancestors, as the bits of a number. -/
def ancM (acc : List Nat) (ps : List Nat) : Nat := ps.foldr (fun p m => (m ||| 2 ^ p) ||| acc.getD p 0) 0
theorem ancM_ok {acc : List Nat} {k : Nat} : ∀ {ps : List Nat}, (ancM acc ps).testBit k = true → ∃ p ∈ ps, k = p ∨ (acc.getD p 0).testBit k = true
  | [], h => by simp [ancM] at h
  | p :: ps, h => by
    have h : ((ancM acc ps ||| 2 ^ p) ||| acc.getD p 0).testBit k = true := h
    rw [Nat.testBit_or, Nat.testBit_or] at h
    simp only [Bool.or_eq_true] at h
    rcases h with (h | h) | h
    · obtain ⟨q, hq, h⟩ := ancM_ok h
      exact ⟨q, by simp [hq], h⟩
    · rw [Nat.testBit_two_pow] at h
      exact ⟨p, by simp, .inl (of_decide_eq_true h).symm⟩
    · exact ⟨p, by simp, .inr h⟩
def ancL : List Oper → List Nat → List Nat
  | [], acc => acc
  | o :: r, acc => ancL r (acc ++ [ancM acc (predsO o)])
def Closed (ops : List Oper) (S : Nat → Prop) : Prop := ∀ i, S i → ∀ o, ops[i]? = some o → ∀ p ∈ predsO o, S p
def AncOk (ops : List Oper) (acc : List Nat) : Prop := ∀ (i : Nat) (l : Nat), acc[i]? = some l → ∃ o, ops[i]? = some o ∧ ∀ S, Closed ops S → (∀ p ∈ predsO o, S p) → ∀ k, l.testBit k = true → S k
theorem ancL_ok (ops : List Oper) : ∀ (r : List Oper) (acc : List Nat), (∀ k, r[k]? = ops[acc.length + k]?) → AncOk ops acc → AncOk ops (ancL r acc)
  | [], acc, _, h => h
  | o :: r, acc, hr, h => by
    refine ancL_ok ops r _ (fun k => ?_) ?_
    · have := hr (k + 1)
      simpa [Nat.add_assoc, Nat.add_comm 1 k] using this
    · intro i l hi
      rw [List.getElem?_append] at hi
      split at hi
      · exact h i l hi
      · rename_i hlt
        have hi0 : i = acc.length := by
          by_cases e : i - acc.length = 0
          · omega
          · have : ([ancM acc (predsO o)] : List Nat)[i - acc.length]? = none := by
              apply List.getElem?_eq_none; simp; omega
            rw [this] at hi; cases hi
        subst hi0
        simp only [Nat.sub_self, List.getElem?_cons_zero, Option.some.injEq] at hi
        subst hi
        refine ⟨o, by simpa using (hr 0).symm, fun S hS hp k hk => ?_⟩
        obtain ⟨p, hp1, rfl | hp2⟩ := ancM_ok hk
        · exact hp k hp1
        · cases hq : acc[p]? with
          | none => simp [List.getD, hq] at hp2
          | some l =>
            simp only [List.getD, hq, Option.getD_some] at hp2
            obtain ⟨op, ho, hS'⟩ := h p l hq
            exact hS' S hS (fun q hq' => hS p (hp p hp1) op ho q hq') k hp2
def anc (ops : List Oper) (i k : Nat) : Bool := ((ancL ops []).getD i 0).testBit k
theorem anc_mem {ops : List Oper} {i k : Nat} (h : anc ops i k = true) {S : Nat → Prop} (hS : Closed ops S) (hi : ∀ o, ops[i]? = some o → ∀ p ∈ predsO o, S p) : S k := by
  have hA := ancL_ok ops ops [] (by simp) (fun i l h => by simp at h)
  unfold anc at h
  cases hq : (ancL ops [])[i]? with
  | none => simp [List.getD, hq] at h
  | some l =>
    simp only [List.getD, hq, Option.getD_some] at h
    obtain ⟨o, ho, h'⟩ := hA i l hq
    exact h' S hS (hi o ho) k h

/-- What may make or turn memory, call, or write a slot that is read elsewhere. -/
def isE (L : Lay) (o : Op) : Bool :=
  match o with
  | .move _ | .pick .. | .build .. | .load .. | .nilCheck _ | .binOp .. | .unOp .. | .makeInterface .. | .makeFunc .. | .slice .. | .fieldAddr .. | .field .. | .indexAddr .. | .index .. | .lookup .. | .typeAssert .. | .extract .. => false
  | .convert s d _ => match L.kd s, L.kd d with
    | .int _, .int _ => false
    | _, .str => false
    | _, _ => true
  | .call c => match c.callee with
    | .builtin .len => false
    | .builtin .min => false
    | .builtin .max => false
    | .builtin .cap => false
    | _ => true
  | _ => true
/-- Of these: what may look into memory. -/
def isRd (L : Lay) (o : Op) : Bool :=
  match o with
  | .move _ | .pick .. | .build .. | .nilCheck _ | .unOp .. | .makeFunc .. | .fieldAddr .. | .field .. | .indexAddr .. | .extract .. => false
  | .binOp _ t .. => match L.kd t with | .other => true | _ => false
  | .convert s d _ => match L.kd s, L.kd d with
    | .int _, .int _ => false
    | _, _ => true
  | .makeInterface t _ => match L.kd t with | .other => true | _ => false
  | .call c => match c.callee with
    | .builtin .min => false
    | .builtin .max => false
    | .builtin .len => match c.argTypes.toList with
      | [t] => match L.kd t with | .slice => false | .str => false | _ => true
      | _ => true
    | _ => true
  | _ => true
def isLd : Op → Bool
  | .load .. => true
  | _ => false
def isAl : Op → Bool
  | .alloc _ | .box .. | .buildSlice .. | .makeMap .. => true
  | _ => false
def looks (ops : List Oper) (o : Oper) : List Nat :=
  (o.op.operands.toList.filterMap fun | .tmp t => some t | _ => none) ++
  (match o.guard with
   | some (g, _) => match ops[g]? with
     | some q => q.dst.toList
     | none => []
   | none => [])
def apartOk (L : Lay) (ops : List Oper) : Bool :=
  (List.range ops.length).all fun k => match ops[k]? with
    | some ok => (predsO ok).all (fun p => Nat.blt p k) && match ok.dst with
      | some d => (isE L ok.op || !(memN d (looks ops ok))) && (List.range ops.length).all fun i => Nat.beq i k || match ops[i]? with
        | some oi => !(memN d (looks ops oi) || memN d oi.dst.toList) || anc ops i k || (isE L ok.op && anc ops k i)
        | none => true
      | none => isE L ok.op
    | none => true
def planGo (L : Lay) (ops : List Oper) : List Nat → List (Nat × List Nat) → Bool
  | _, [] => true
  | done, (i, rc) :: r => match ops[i]? with
    | none => false
    | some o => (predsO o).all (memN · done) && !memN i done &&
      (done.all fun k => match ops[k]? with
        | none => false
        | some ok => bif isE L ok.op then anc ops i k else (!(isE L o.op) || !(isRd L ok.op) || (isAl o.op && isLd ok.op) || anc ops i k || memN k rc)) &&
      (isE L o.op || rc.isEmpty) && planGo L ops (i :: done) r
def planOk (L : Lay) (ops : List Oper) (pl : List (Nat × List Nat)) : Bool :=
  (List.range ops.length).all (fun i => memN i (pl.map (·.1))) && apartOk L ops && planGo L ops [] pl

section
variable {P : Program} {L : Lay}
/-- What 'owp' asks of an operation that makes and turns nothing: one value, in this world. -/
theorem ev1_mono {E : Env} {x : Operand} {K K' : Value → Prop} (h : ev1 E x K) (hk : ∀ v, K v → K' v) : ev1 E x K' := by
  unfold ev1 at *; split at h <;> first | exact hk _ h | exact h
def Val (P : Program) (L : Lay) (ty : TypeId) (o : Op) (E : Env) (w : World) (v : Value) : Prop := owp P L ty o E w fun v' w' => v' = v ∧ w' = w
theorem ev1_ex {E : Env} {x : Operand} {K : Value → Prop} (h : ev1 E x K) : ∃ v, ev E x = some v ∧ K v := by
  unfold ev1 at h; split at h
  · rename_i v hv; exact ⟨v, hv, h⟩
  · exact h.elim
theorem ev1_mk {E : Env} {x : Operand} {v : Value} {K : Value → Prop} (h : ev E x = some v) (hk : K v) : ev1 E x K := by
  unfold ev1; rw [h]; exact hk
theorem evL_ex {E : Env} : ∀ {xs : List Operand} {K : List Value → Prop}, evL E xs K → ∃ vs, K vs ∧ ∀ K' : List Value → Prop, K' vs → evL E xs K'
  | [], K, h => ⟨[], h, fun _ h => h⟩
  | x :: r, K, h => by
    obtain ⟨v, hv, h⟩ := ev1_ex h
    obtain ⟨vs, h1, h2⟩ := evL_ex h
    exact ⟨v :: vs, h1, fun K' hk => ev1_mk hv (h2 (fun vs => K' (v :: vs)) hk)⟩
theorem evP_ex {E : Env} : ∀ {xs : List (Nat × Operand)} {K : List (Nat × Value) → Prop}, evP E xs K → ∃ vs, K vs ∧ ∀ K' : List (Nat × Value) → Prop, K' vs → evP E xs K'
  | [], K, h => ⟨[], h, fun _ h => h⟩
  | (i, x) :: r, K, h => by
    obtain ⟨v, hv, h⟩ := ev1_ex h
    obtain ⟨vs, h1, h2⟩ := evP_ex h
    exact ⟨(i, v) :: vs, h1, fun K' hk => ev1_mk hv (h2 (fun vs => K' ((i, v) :: vs)) hk)⟩
theorem evO_ex {E : Env} {x : Option Operand} {K : Option Value → Prop} (h : evO E x K) : ∃ v, K v ∧ ∀ K' : Option Value → Prop, K' v → evO E x K' := by
  cases x with
  | none => exact ⟨none, h, fun _ h => h⟩
  | some x => obtain ⟨v, hv, h⟩ := ev1_ex h; exact ⟨some v, h, fun K' hk => ev1_mk hv hk⟩
theorem slice_ex {t : Nat} {x : Value} {lo hi mx : Option Value} {w : World} {K : Value → World → Prop} (h : sliceW P L t x lo hi mx w K) : ∃ v, K v w ∧ ∀ K' : Value → World → Prop, K' v w → sliceW P L t x lo hi mx w K' := by
  unfold sliceW at h ⊢
  split at h
  · split at h
    · obtain ⟨a, b, c, d⟩ := h.h; exact ⟨_, d, fun K' hk => ⟨a, b, c, hk⟩⟩
    · exact h.elim
  · split at h
    · split at h
      · obtain ⟨a, b, c, d⟩ := h.h; exact ⟨_, d, fun K' hk => ⟨a, b, c, hk⟩⟩
      · exact h.elim
    · obtain ⟨v, a, b⟩ := h.h; exact ⟨v, b, fun K' hk => ⟨v, a, hk⟩⟩
theorem owp_ex {ty : TypeId} {o : Op} (hE : isE L o = false) {E : Env} {w : World} {K : Value → World → Prop} (h : owp P L ty o E w K) : ∃ v, K v w ∧ ∀ K' : Value → World → Prop, K' v w → owp P L ty o E w K' := by
  cases o with
  | move x => obtain ⟨v, hv, h⟩ := ev1_ex h; exact ⟨v, h, fun K' hk => ev1_mk hv hk⟩
  | pick c x y =>
    obtain ⟨v, hv, h⟩ := ev1_ex h
    split at h
    · obtain ⟨u, hu, h⟩ := ev1_ex h; exact ⟨u, h, fun K' hk => ev1_mk hv (ev1_mk hu hk)⟩
    · obtain ⟨u, hu, h⟩ := ev1_ex h; exact ⟨u, h, fun K' hk => ev1_mk hv (ev1_mk hu hk)⟩
    · exact h.elim
  | build t ps =>
    simp only [owp] at h ⊢
    split at h
    · obtain ⟨vs, ⟨cs, h1, h2⟩, h3⟩ := evP_ex h; exact ⟨_, h2, fun K' hk => h3 _ ⟨cs, h1, hk⟩⟩
    · exact h.elim
  | load t x =>
    obtain ⟨v, hv, h⟩ := ev1_ex h
    cases v <;> first | exact h.elim | skip
    rename_i p
    cases p <;> first | exact h.elim | skip
    rename_i p
    simp only at h
    cases hs : L.sh t with
    | none => rw [hs] at h; exact h.elim
    | some s =>
      rw [hs] at h
      cases s with
      | none => obtain ⟨u, h1, h2⟩ := h.h; exact ⟨u, h2, fun K' hk => ev1_mk hv (by simp only [hs]; exact ⟨u, h1, hk⟩)⟩
      | some k => obtain ⟨cs, h0, h1, h2⟩ := h.h; exact ⟨_, h2, fun K' hk => ev1_mk hv (by simp only [hs]; exact ⟨cs, h0, h1, hk⟩)⟩
  | nilCheck x =>
    obtain ⟨v, hv, h⟩ := ev1_ex h
    split at h
    · exact ⟨_, h, fun K' hk => ev1_mk hv hk⟩
    · exact ⟨_, h, fun K' hk => ev1_mk hv hk⟩
    · exact h.elim
  | binOp op t x y u =>
    obtain ⟨a, ha, h⟩ := ev1_ex h
    obtain ⟨b, hb, h⟩ := ev1_ex h
    cases hv : binV (L.kd t) op a b with
    | none =>
      rw [hv] at h
      cases hk : L.kd t <;> simp only [hk] at h
      obtain ⟨v, h1, h2, h3⟩ := h.h
      refine ⟨v, h3, fun K' hk' => ev1_mk ha (ev1_mk hb ?_)⟩
      rw [hv]
      simp only [hk]
      exact ⟨v, h1, h2, hk'⟩
    | some v =>
      rw [hv] at h
      have hs : ∀ K', sideW op y b K' ↔ sideW op y b True ∧ K' := by
        intro K'
        unfold sideW
        cases op <;> simp only [true_and]
        all_goals
          cases b <;> simp only [false_and]
          cases y <;> simp only
          all_goals first
            | (cases h : isZ ‹Int› <;> simp; done)
            | (cases h : isNeg ‹Int› <;> simp; done)
            | exact ⟨fun h => ⟨⟨h.1, trivial⟩, h.2⟩, fun h => ⟨h.1.1, h.2⟩⟩
      have h' := (hs _).1 h
      exact ⟨v, h'.2, fun K' hk => ev1_mk ha (ev1_mk hb (by simp only [hv]; exact (hs _).2 ⟨h'.1, hk⟩))⟩
  | unOp op t x =>
    obtain ⟨a, ha, h⟩ := ev1_ex h
    cases hv : unV op a with
    | none => rw [hv] at h; exact h.elim
    | some v => rw [hv] at h; exact ⟨v, h, fun K' hk => ev1_mk ha (by simp only [hv]; exact hk)⟩
  | convert s d x =>
    obtain ⟨a, ha, h⟩ := ev1_ex h
    suffices ∃ v, K v w ∧ ∀ K' : Value → World → Prop, K' v w → convW P L s d a w K' by obtain ⟨v, h1, h2⟩ := this; exact ⟨v, h1, fun K' hk => ev1_mk ha (h2 K' hk)⟩
    simp only [isE] at hE
    cases hs : L.kd s <;> cases hd : L.kd d <;> simp only [convW, hs, hd] at h hE ⊢ <;> first
      | (cases hE; done)
      | (split at h <;> first | exact ⟨_, h, fun K' hk => hk⟩ | exact h.elim)
      | (obtain ⟨v, h3, h4⟩ := ReadW.h h; exact ⟨v, h4, fun K' hk => ⟨v, h3, hk⟩⟩)
  | makeInterface t x =>
    obtain ⟨a, ha, h⟩ := ev1_ex h
    cases kk : L.kd t <;> rw [kk] at h
    case other => obtain ⟨v, h1, h2⟩ := h.h; exact ⟨v, h2, fun K' hk => ev1_mk ha (by simp only [kk]; exact ⟨v, h1, hk⟩)⟩
    all_goals exact ⟨_, h, fun K' hk => ev1_mk ha (by simp only [kk]; exact hk)⟩
  | makeFunc f as cs =>
    obtain ⟨vs, h1, h2⟩ := evL_ex h
    obtain ⟨us, h3, h4⟩ := evL_ex h1
    exact ⟨_, h3, fun K' hk => h2 _ (h4 _ hk)⟩
  | slice t x lo hi mx =>
    obtain ⟨a, ha, h⟩ := ev1_ex h
    obtain ⟨b, h, hb⟩ := evO_ex h
    obtain ⟨c, h, hc⟩ := evO_ex h
    obtain ⟨d, h, hd⟩ := evO_ex h
    obtain ⟨v, h1, h2⟩ := slice_ex h
    exact ⟨v, h1, fun K' hk => ev1_mk ha (hb _ (hc _ (hd _ (h2 K' hk))))⟩
  | fieldAddr t x f =>
    obtain ⟨a, ha, h⟩ := ev1_ex h
    split at h
    · rename_i b o
      cases hf : L.fo t f with
      | none => rw [hf] at h; exact h.elim
      | some q => rw [hf] at h; exact ⟨_, h, fun K' hk => ev1_mk ha (by simp only [hf]; exact hk)⟩
    · exact h.elim
  | field t x f =>
    obtain ⟨a, ha, h⟩ := ev1_ex h
    split at h
    · rename_i cs
      unfold fieldV at h
      cases hf : L.fo t f with
      | none => rw [hf] at h; exact h.elim
      | some q =>
        obtain ⟨o, u⟩ := q
        rw [hf] at h
        simp only at h
        cases hs : L.sh u with
        | none => rw [hs] at h; exact h.elim
        | some s =>
          rw [hs] at h
          cases s with
          | none =>
            simp only at h
            cases hv : cs.toList[o]? with
            | none => rw [hv] at h; exact h.elim
            | some v => rw [hv] at h; exact ⟨v, h, fun K' hk => ev1_mk ha (by simp only [fieldV, hf, hs, hv]; exact hk)⟩
          | some k => exact ⟨_, h.2, fun K' hk => ev1_mk ha (by simp only [fieldV, hf, hs]; exact ⟨h.1, hk⟩)⟩
    · exact h.elim
  | indexAddr t x i =>
    obtain ⟨a, ha, h⟩ := ev1_ex h
    obtain ⟨b, hb, h⟩ := ev1_ex h
    split at h
    · rename_i k j
      unfold idxAddr at h
      split at h
      · rename_i e sz hs
        split at h
        · obtain ⟨h1, h2, h3⟩ := h.h; exact ⟨_, h3, fun K' hk => ev1_mk ha (ev1_mk hb (by simp only [idxAddr, hs]; exact ⟨h1, h2, hk⟩))⟩
        · exact h.elim
      · rename_i hs
        split at h
        · rename_i n e sz hr
          split at h
          · obtain ⟨h1, h2, h3⟩ := h.h; exact ⟨_, h3, fun K' hk => ev1_mk ha (ev1_mk hb (by simp only [idxAddr, hs, hr]; exact ⟨h1, h2, hk⟩))⟩
          · exact h.elim
        · exact h.elim
    · exact h.elim
  | index t x i =>
    obtain ⟨a, ha, h⟩ := ev1_ex h
    obtain ⟨b, hb, h⟩ := ev1_ex h
    suffices ∃ v, K v w ∧ ∀ K' : Value → World → Prop, K' v w → indexW P L t a b w K' by obtain ⟨v, h1, h2⟩ := this; exact ⟨v, h1, fun K' hk => ev1_mk ha (ev1_mk hb (h2 K' hk))⟩
    unfold indexW at h ⊢
    split at h
    · obtain ⟨h1, c, h2, h3⟩ := h.h; exact ⟨_, h3, fun K' hk => ⟨h1, c, h2, hk⟩⟩
    · obtain ⟨v, h1, h2⟩ := h.h; exact ⟨v, h2, fun K' hk => ⟨v, h1, hk⟩⟩
  | lookup t x i ok =>
    obtain ⟨a, ha, h⟩ := ev1_ex h
    obtain ⟨b, hb, h⟩ := ev1_ex h
    obtain ⟨v, h1, h2⟩ := h.h
    exact ⟨v, h2, fun K' hk => ev1_mk ha (ev1_mk hb ⟨v, h1, hk⟩)⟩
  | typeAssert x t u ok =>
    obtain ⟨a, ha, h⟩ := ev1_ex h
    obtain ⟨v, h1, h2⟩ := h.h
    exact ⟨v, h2, fun K' hk => ev1_mk ha ⟨v, h1, hk⟩⟩
  | extract x i =>
    obtain ⟨a, ha, h⟩ := ev1_ex h
    split at h
    · rename_i vs
      cases hv : vs.toList[i]? with
      | none => rw [hv] at h; exact h.elim
      | some v => rw [hv] at h; exact ⟨v, h, fun K' hk => ev1_mk ha (by simp only [hv]; exact hk)⟩
    · exact h.elim
  | call c =>
    obtain ⟨callee, args, ats⟩ := c
    cases callee with
    | builtin b =>
      obtain ⟨vs, h1, h2⟩ := evL_ex h
      cases b <;> first | (simp [isE] at hE; done) | skip
      case len =>
        suffices ∃ v, K v w ∧ ∀ K' : Value → World → Prop, K' v w → bltW P L .len ats.toList ty vs w K' by obtain ⟨v, h3, h4⟩ := this; exact ⟨v, h3, fun K' hk => h2 _ (h4 K' hk)⟩
        simp only [bltW] at h1 ⊢
        split at h1
        · split at h1
          · split at h1
            · exact ⟨_, h1, fun K' hk => hk⟩
            · exact h1.elim
          · split at h1
            · exact ⟨_, h1, fun K' hk => hk⟩
            · exact h1.elim
          · obtain ⟨v, h3, h4⟩ := h1.h; exact ⟨v, h4, fun K' hk => ⟨v, h3, hk⟩⟩
        · exact h1.elim
      case cap => obtain ⟨v, h3, h4⟩ := ReadW.h h1; exact ⟨v, h4, fun K' hk => h2 _ ⟨v, h3, hk⟩⟩
      case min =>
        suffices ∃ v, K v w ∧ ∀ K' : Value → World → Prop, K' v w → bltW P L .min ats.toList ty vs w K' by obtain ⟨v, h3, h4⟩ := this; exact ⟨v, h3, fun K' hk => h2 _ (h4 K' hk)⟩
        simp only [bltW] at h1 ⊢
        split at h1
        · split at h1
          · exact ⟨_, h1, fun K' hk => hk⟩
          · exact h1.elim
        · exact h1.elim
      case max =>
        suffices ∃ v, K v w ∧ ∀ K' : Value → World → Prop, K' v w → bltW P L .max ats.toList ty vs w K' by obtain ⟨v, h3, h4⟩ := this; exact ⟨v, h3, fun K' hk => h2 _ (h4 K' hk)⟩
        simp only [bltW] at h1 ⊢
        split at h1
        · split at h1
          · exact ⟨_, h1, fun K' hk => hk⟩
          · exact h1.elim
        · exact h1.elim
    | value f => simp [isE] at hE
    | invoke r m => simp [isE] at hE
  | _ => simp [isE] at hE

theorem ev1_eq {E E' : Env} {x : Operand} (h : ∀ t, x = .tmp t → get E t = get E' t) : ev1 E x = ev1 E' x := by
  funext K
  unfold ev1
  have : ev E x = ev E' x := by cases x <;> first | exact h _ rfl | rfl
  rw [this]
theorem evL_eq {E E' : Env} : ∀ {xs : List Operand}, (∀ t, .tmp t ∈ xs → get E t = get E' t) → evL E xs = evL E' xs
  | [], _ => rfl
  | x :: r, h => by
    funext K
    simp only [evL, ev1_eq (E := E) (E' := E') (x := x) (fun t ht => h t (by simp [ht])), evL_eq (E := E) (E' := E') (xs := r) (fun t ht => h t (by simp [ht]))]
theorem evP_eq {E E' : Env} : ∀ {xs : List (Nat × Operand)}, (∀ t i, (i, .tmp t) ∈ xs → get E t = get E' t) → evP E xs = evP E' xs
  | [], _ => rfl
  | (i, x) :: r, h => by
    funext K
    simp only [evP, ev1_eq (E := E) (E' := E') (x := x) (fun t ht => h t i (by simp [ht])), evP_eq (E := E) (E' := E') (xs := r) (fun t j ht => h t j (by simp [ht]))]
theorem evO_eq {E E' : Env} {x : Option Operand} (h : ∀ t, x = some (.tmp t) → get E t = get E' t) : evO E x = evO E' x := by
  funext K
  cases x with
  | none => rfl
  | some x => simp only [evO, ev1_eq (E := E) (E' := E') (x := x) (fun t ht => h t (by simp [ht]))]
theorem owp_eq {ty : TypeId} {o : Op} {E E' : Env} (h : ∀ t, Operand.tmp t ∈ o.operands.toList → get E t = get E' t) (w : World) (K : Value → World → Prop) : owp P L ty o E w K = owp P L ty o E' w K := by
  have hx : ∀ x, x ∈ o.operands.toList → ev1 E x = ev1 E' x := fun x hx => ev1_eq fun t ht => h t (ht ▸ hx)
  cases o with
  | build t ps =>
    have : evP E ps.toList = evP E' ps.toList := evP_eq fun t i ht => h t (by simpa [Op.operands] using ⟨i, by simpa using ht⟩)
    simp only [owp, this]
  | buildSlice t n ps =>
    have : evP E ps.toList = evP E' ps.toList := evP_eq fun t i ht => h t (by simpa [Op.operands] using ⟨i, by simpa using ht⟩)
    simp only [owp, this]
  | makeFunc f as cs =>
    have e1 : evL E as.toList = evL E' as.toList := evL_eq fun t ht => h t (by simp [Op.operands]; left; simpa using ht)
    have e2 : evL E cs.toList = evL E' cs.toList := evL_eq fun t ht => h t (by simp [Op.operands]; right; simpa using ht)
    simp only [owp, e1, e2]
  | slice t x lo hi mx =>
    have e0 := hx x (by simp [Op.operands])
    have e1 : evO E lo = evO E' lo := evO_eq fun t ht => h t (by simp [Op.operands, ht])
    have e2 : evO E hi = evO E' hi := evO_eq fun t ht => h t (by simp [Op.operands, ht])
    have e3 : evO E mx = evO E' mx := evO_eq fun t ht => h t (by simp [Op.operands, ht])
    simp only [owp, e0, e1, e2, e3]
  | call c =>
    obtain ⟨callee, args, ats⟩ := c
    have e1 : evL E args.toList = evL E' args.toList := evL_eq fun t ht => h t (by simp only [Op.operands, Call.operands, Array.toList_append]; exact List.mem_append_right _ ht)
    cases callee with
    | value f =>
      have e0 := hx f (by simp [Op.operands, Call.operands])
      simp only [owp, e0, e1]
    | builtin b => simp only [owp, e1]
    | invoke r m => rfl
  | move x | assign x | box t x | load t x | nilCheck x | unOp op t x | convert s d x | makeInterface t x | fieldAddr t x f | field t x f | range t x | next x s | typeAssert x t u ok | extract x i =>
    have e0 := hx x (by simp [Op.operands])
    simp only [owp, e0]
  | store t x y | binOp op t x y u | makeSlice t x y | indexAddr t x y | index t x y | lookup t x y ok =>
    have e0 := hx x (by simp [Op.operands])
    have e1 := hx y (by simp [Op.operands])
    simp only [owp, e0, e1]
  | pick c x y =>
    have e0 := hx c (by simp [Op.operands])
    have e1 := hx x (by simp [Op.operands])
    have e2 := hx y (by simp [Op.operands])
    simp only [owp, e0, e1, e2]
  | mapUpdate t c x y =>
    have e0 := hx c (by simp [Op.operands])
    have e1 := hx x (by simp [Op.operands])
    have e2 := hx y (by simp [Op.operands])
    simp only [owp, e0, e1, e2]
  | alloc t => rfl
  | makeMap t r => cases r <;> rfl
  | _ => rfl
/-- What looks not into memory has one value in every world. -/
theorem owp_any {ty : TypeId} {o : Op} (hE : isE L o = false) (hR : isRd L o = false) {E : Env} {K : Value → Prop} {w w2 : World} (h : owp P L ty o E w fun v _ => K v) : owp P L ty o E w2 fun v _ => K v := by
  cases o with
  | binOp op t x y u =>
    simp only [isRd] at hR
    simp only [owp] at h ⊢
    cases hk : L.kd t <;> simp only [hk] at h hR ⊢ <;> first | exact h | (cases hR; done)
  | convert s d x =>
    simp only [isRd] at hR
    simp only [owp, convW] at h ⊢
    cases hs : L.kd s <;> cases hd : L.kd d <;> simp only [hs, hd] at h hR ⊢ <;> first | exact h | (cases hR; done)
  | makeInterface t x =>
    simp only [isRd] at hR
    simp only [owp] at h ⊢
    cases hk : L.kd t <;> simp only [hk] at h hR ⊢ <;> first | exact h | (cases hR; done)
  | call c =>
    obtain ⟨callee, args, ats⟩ := c
    cases callee with
    | builtin b =>
      cases b <;> first | (simp [isE] at hE; done) | (simp [isRd] at hR; done) | skip
      case len =>
        simp only [isRd] at hR
        simp only [owp, bltW] at h ⊢
        split at hR
        · rename_i t he
          rw [he] at h ⊢
          obtain ⟨vs, h1, h2⟩ := evL_ex h
          refine h2 _ ?_
          split at h1
          · rename_i t' x ht
            simp only [List.cons.injEq, and_true] at ht
            subst ht
            cases hk : L.kd t <;> simp only [hk] at h1 hR ⊢ <;> first | exact h1 | (cases hR; done)
          · exact h1.elim
        · cases hR
      case min => exact h
      case max => exact h
    | value f => simp [isE] at hE
    | invoke r m => simp [isE] at hE
  | _ => first | exact h | (simp [isE] at hE; done) | (simp [isRd] at hR; done)
theorem Val.owp {ty : TypeId} {o : Op} (hE : isE L o = false) {E : Env} {w : World} {v : Value} (h : Val P L ty o E w v) {K : Value → World → Prop} (hk : K v w) : owp P L ty o E w K := by
  obtain ⟨u, ⟨rfl, _⟩, h2⟩ := owp_ex hE h
  exact h2 K hk
theorem Val.any {ty : TypeId} {o : Op} (hE : isE L o = false) (hR : isRd L o = false) {E : Env} {w : World} {v : Value} (h : Val P L ty o E w v) (w2 : World) : Val P L ty o E w2 v := by
  have h1 := owp_any hE hR (w2 := w2) (K := fun u => u = v) (h.owp hE rfl)
  obtain ⟨u, rfl, h2⟩ := owp_ex hE h1
  exact h2 _ ⟨rfl, rfl⟩
theorem Val.alloc {ty : TypeId} {o : Op} (hl : isLd o = true) {E : Env} {w : World} {v : Value} (h : Val P L ty o E w v) (ob : Obj) : Val P L ty o E (w.alloc ob) v := by
  cases o <;> first | (cases hl; done) | skip
  rename_i t x
  unfold Val at h ⊢
  have hcell : ∀ a v, w.cell? a = some v → (w.alloc ob).cell? a = some v := fun a v hv => by
    rw [World.cell?_of_block (w := w) (Below.heap_alloc w ob a.block (World.block_lt_of_cell? (w := w) (a := a) hv))]; exact hv
  obtain ⟨p, hp, h⟩ := ev1_ex h
  refine ev1_mk hp ?_
  cases p <;> first | exact h.elim | skip
  rename_i p
  cases p <;> first | exact h.elim | skip
  simp only at h ⊢
  cases hs : L.sh t with
  | none => rw [hs] at h; exact h.elim
  | some s =>
    rw [hs] at h
    cases s with
    | none => obtain ⟨u, h1, h2⟩ := h.h; exact ⟨u, hcell _ _ h1, h2.1, by simp⟩
    | some k => obtain ⟨cs, h0, h1, h2⟩ := h.h; exact ⟨cs, h0, fun j v hv => hcell _ _ (h1 j v hv), h2.1, by simp⟩
end
end Go.Proofs.YtffjccofglikhaaGreat
