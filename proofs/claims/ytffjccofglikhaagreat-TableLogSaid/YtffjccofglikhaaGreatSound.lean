/-
  What 'owp' asks of an operation suffices: the model's own operation comes to such a value, in such a world.
-/
import Derived.Test.YtffjccofglikhaaGreatCore
namespace Go.Proofs.YtffjccofglikhaaGreat
open Go

/-- What the slots that are named hold. -/
def Cv (S : Nat → Prop) (E : Env) (a : Act) : Prop := ∀ t v, S t → get E t = some v → a.tmps.getD t undef = v
def opT (x : Operand) (t : Nat) : Prop := x = .tmp t
theorem ev_ok {E : Env} {a : Act} {x : Operand} {v : Value} (hc : ∀ t, x = .tmp t → ∀ v, get E t = some v → a.tmps.getD t undef = v) (h : ev E x = some v) : a.eval x = v := by
  cases x with
  | tmp t => exact hc t rfl v h
  | const c => simpa [ev, Act.eval] using h
  | global g => simpa [ev, Act.eval] using h
  | func f => simpa [ev, Act.eval] using h
theorem ev1_ok {E : Env} {a : Act} {x : Operand} {K : Value → Prop} (hc : ∀ t, x = .tmp t → ∀ v, get E t = some v → a.tmps.getD t undef = v) (h : ev1 E x K) : K (a.eval x) := by
  unfold ev1 at h
  split at h
  · rename_i v hv; rw [ev_ok hc hv]; exact h
  · exact h.elim
theorem evL_ok {E : Env} {a : Act} : ∀ {xs : List Operand} {K : List Value → Prop}, (∀ t, .tmp t ∈ xs → ∀ v, get E t = some v → a.tmps.getD t undef = v) → evL E xs K → K (xs.map a.eval)
  | [], _, _, h => h
  | x :: r, K, hc, h => by
    have h1 : evL E r fun vs => K (a.eval x :: vs) := ev1_ok (x := x) (K := fun v => evL E r fun vs => K (v :: vs)) (fun t ht => hc t (by simp [ht])) h
    exact evL_ok (K := fun vs => K (a.eval x :: vs)) (fun t ht => hc t (by simp [ht])) h1
theorem evO_ok {E : Env} {a : Act} {x : Option Operand} {K : Option Value → Prop} (hc : ∀ t, x = some (.tmp t) → ∀ v, get E t = some v → a.tmps.getD t undef = v) (h : evO E x K) : K (x.map a.eval) := by
  cases x with
  | none => exact h
  | some x => exact ev1_ok (x := x) (K := fun v => K (some v)) (fun t ht => hc t (by simp [ht])) h
theorem evP_ok {E : Env} {a : Act} : ∀ {xs : List (Nat × Operand)} {K : List (Nat × Value) → Prop}, (∀ t i, (i, .tmp t) ∈ xs → ∀ v, get E t = some v → a.tmps.getD t undef = v) → evP E xs K → K (xs.map fun p => (p.1, a.eval p.2))
  | [], _, _, h => h
  | (i, x) :: r, K, hc, h => by
    have h1 : evP E r fun vs => K ((i, a.eval x) :: vs) := ev1_ok (x := x) (K := fun v => evP E r fun vs => K ((i, v) :: vs)) (fun t ht => hc t i (by simp [ht])) h
    exact evP_ok (K := fun vs => K ((i, a.eval x) :: vs)) (fun t j ht => hc t j (by simp [ht])) h1

/-- What the model's operation must come to. -/
def Upon (P : Program) (K : Value → World → Prop) : Result Next → Prop
  | .ok (.value v) w' => K v w'
  | .ok .skip w' => K undef w'
  | .ok (.enter f args) w' => Calls P f args w' fun e w'' => ∃ v, e = .returned v ∧ K v w''
  | _ => False
theorem Upon.mono {P : Program} {K K' : Value → World → Prop} (hk : ∀ v w, K v w → K' v w) : ∀ {r : Result Next}, Upon P K r → Upon P K' r := by
  intro r h
  cases r with
  | halt _ _ => exact h
  | ok n w' =>
    cases n <;> first | exact hk _ _ h | exact h.elim | exact Calls.mono h (fun e w'' ⟨v, he, hv⟩ => ⟨v, he, hk _ _ hv⟩)
theorem Upon.wp {P : Program} {o : Oper} {a : Act} {w : World} {next : Act → World → Prop} {Q : Exit → Act → World → Prop} (h : Upon P (fun v w' => next (a.put o.dst v) w') ((execOp a.eval o).run P w)) : o.wp P a w next Q := by
  unfold Oper.wp
  generalize (execOp a.eval o).run P w = r at *
  cases r with
  | halt _ _ => exact h.elim
  | ok n w' =>
    cases n <;> first | exact h | exact h.elim | exact Calls.mono h (fun e w'' ⟨v, he, hv⟩ => by subst he; exact hv)

section
variable {P : Program} {L : Lay}
theorem run_isAgg1 (hL : LayOk P L) {t : Nat} (h : L.sh t = some none) (w : World) : (isAgg t).run P w = .ok false w := by
  obtain ⟨d, i, h1, h2, _⟩ := hL.sh1 t h
  simp only [isAgg, underlying, Sem.run_bind, run_program, Result.andThen_ok, h1, Sem.run_pure]
  cases d <;> first | rfl | cases h2
theorem run_isAggA (hL : LayOk P L) {t k : Nat} (h : L.sh t = some (some k)) (w : World) : (isAgg t).run P w = .ok true w := by
  obtain ⟨d, i, h1, h2, _⟩ := hL.shA t k h
  simp only [isAgg, underlying, Sem.run_bind, run_program, Result.andThen_ok, h1, Sem.run_pure]
  cases d <;> first | rfl | cases h2
theorem run_sizeOf {t : Nat} {i : TypeInfo} (h : P.info? t = some i) (w : World) : (sizeOf t).run P w = .ok i.size w := by
  simp [sizeOf, typeInfo, h]
theorem run_under {t : Nat} {d : TypeDesc} (h : P.underlying t = some d) (w : World) : (underlying t).run P w = .ok d w := by
  simp [underlying, h]
theorem sh_size (hL : LayOk P L) {t : Nat} {s : Option Nat} (h : L.sh t = some s) : ∃ i, P.info? t = some i ∧ i.size = s.getD 1 := by
  cases s with
  | none => obtain ⟨_, i, _, _, h3, h4⟩ := hL.sh1 t h; exact ⟨i, h3, h4⟩
  | some k => obtain ⟨_, i, _, _, h3, h4⟩ := hL.shA t k h; exact ⟨i, h3, h4⟩

theorem load1_ok (hL : LayOk P L) {t : Nat} (hs : L.sh t = some none) {w : World} {a : Addr} {K : Value → Prop} (h : Load1 w a K) : ∃ v, (Instr.loadAt t (.pointer (some a))).run P w = .ok v w ∧ K v := by
  obtain ⟨v, h1, h2⟩ := h.h
  exact ⟨v, by simp [Instr.loadAt, Instr.sureAddr, loadVar, run_isAgg1 hL hs, h1], h2⟩
theorem loadN_ok (hL : LayOk P L) {t k : Nat} (hs : L.sh t = some (some k)) {w : World} {a : Addr} {K : Value → Prop} (h : LoadN w a k K) : ∃ v, (Instr.loadAt t (.pointer (some a))).run P w = .ok v w ∧ K v := by
  obtain ⟨cs, h0, h1, h2⟩ := h.h
  obtain ⟨_, i, _, _, hi, hk⟩ := hL.shA t k hs
  refine ⟨_, ?_, h2⟩
  have := run_loadCells_list (P := P) w a cs h1
  simp [Instr.loadAt, Instr.sureAddr, loadVar, run_isAggA hL hs, run_sizeOf hi, hk, ← h0, this]
theorem store_ok (hL : LayOk P L) {t : Nat} {s : Option Nat} (hs : L.sh t = some s) {w : World} {a : Addr} {v : Value} {K : World → Prop} (h : StoreW w a (s.getD 1) v.cells.toList K) : ∃ w', (Instr.storeAt t (.pointer (some a)) v).run P w = .ok () w' ∧ K w' := by
  obtain ⟨c, e, h0, h1, h2, h3, h4, h5⟩ := h.h
  obtain ⟨i, hi, hk⟩ := sh_size hL hs
  refine ⟨_, ?_, h5⟩
  obtain ⟨b, o, sp⟩ := a
  simp only at h1 h2 h3 h5
  subst h2
  have := run_storeCells_at (P := P) b o e v.cells.toList 0 c w h1 (by simpa using h3) h4
  have hz : v.cells.size = i.size := by rw [hk, ← h0]; simp
  simp only [Instr.storeAt, Instr.sureAddr, storeVar, Sem.run_bind, Sem.run_pure, Result.andThen_ok, run_sizeOf hi, hz, ne_eq, not_true, if_false]
  simpa [spl] using this
theorem run_zero (hL : LayOk P L) {t : Nat} {z : List Value} (h : L.zr t = some z) (w : World) : ∃ v, (zeroValue t).run P w = .ok v w ∧ v.cells = z.toArray := by
  obtain ⟨i, v, h1, h2, h3, _⟩ := hL.zr t z h
  exact ⟨v, by simp [zeroValue, typeInfo, h1, h2], h3⟩

/-! ### Parts laid into cells -/
theorem foldl_set (o : Nat) : ∀ (vs : List Value) (i : Nat) (cs : Array Value), o + i + vs.length ≤ cs.size → (vs.zipIdx i).foldl (fun cs (c, j) => cs.setIfInBounds (o + j) c) cs = (cs.toList.take (o + i) ++ vs ++ cs.toList.drop (o + i + vs.length)).toArray
  | [], i, cs, _ => by simp
  | v :: r, i, cs, h => by
    simp only [List.length_cons] at h
    have ih := foldl_set o r (i + 1) (cs.setIfInBounds (o + i) v) (by simp; omega)
    simp only [List.zipIdx_cons, List.foldl_cons]
    rw [ih]
    apply Array.ext'
    simp only [Array.toList_setIfInBounds]
    apply List.ext_getElem?
    intro j
    simp only [List.getElem?_append, List.length_append, List.length_take, List.length_set, Array.length_toList, List.length_cons]
    by_cases h1 : j < o + i
    · have e1 : j < min (o + (i + 1)) cs.size + r.length := by omega
      have e2 : j < min (o + (i + 1)) cs.size := by omega
      have e3 : j < min (o + i) cs.size + (r.length + 1) := by omega
      have e4 : j < min (o + i) cs.size := by omega
      simp only [e1, e2, e3, e4, if_true]
      rw [List.getElem?_take, List.getElem?_take, if_pos (by omega), if_pos (by omega), List.getElem?_set, if_neg (by omega)]
    · by_cases h2 : j = o + i
      · subst h2
        have e1 : o + i < min (o + (i + 1)) cs.size + r.length := by omega
        have e2 : o + i < min (o + (i + 1)) cs.size := by omega
        have e3 : o + i < min (o + i) cs.size + (r.length + 1) := by omega
        have e4 : ¬ o + i < min (o + i) cs.size := by omega
        simp only [e1, e2, e3, e4, if_true, if_false]
        rw [List.getElem?_take, if_pos (by omega), List.getElem?_set, if_pos rfl]
        have e6 : o + i - min (o + i) cs.size = 0 := by omega
        simp [e6]
        omega
      · by_cases h3 : j < o + i + (r.length + 1)
        · have e1 : j < min (o + (i + 1)) cs.size + r.length := by omega
          have e2 : ¬ j < min (o + (i + 1)) cs.size := by omega
          have e3 : j < min (o + i) cs.size + (r.length + 1) := by omega
          have e4 : ¬ j < min (o + i) cs.size := by omega
          simp only [e1, e2, e3, e4, if_true, if_false]
          have e5 : j - min (o + i) cs.size = (j - min (o + (i + 1)) cs.size) + 1 := by omega
          rw [e5, List.getElem?_cons_succ]
        · have e1 : ¬ j < min (o + (i + 1)) cs.size + r.length := by omega
          have e3 : ¬ j < min (o + i) cs.size + (r.length + 1) := by omega
          simp only [e1, e3, if_false]
          rw [List.getElem?_drop, List.getElem?_drop, List.getElem?_set, if_neg (by omega)]
          congr 1
          omega
theorem fill_ok (pl : List (Nat × Nat)) : ∀ (ps : List (Nat × Value)) (cs : List Value) (r : List Value), fillC pl cs ps = some r → ∀ place : Nat → Option (Nat × Nat), (∀ i q, pl[i]? = some q → place i = some q) → Instr.fill place cs.toArray ps = some r.toArray
  | [], cs, r, h, _, _ => by simp only [fillC, Option.some.injEq] at h; simp [Instr.fill, h]
  | (i, v) :: ps, cs, r, h, place, hp => by
    simp only [fillC] at h
    cases hq : pl[i]? with
    | none => simp [hq] at h
    | some q =>
      obtain ⟨o, n⟩ := q
      simp only [hq] at h
      split at h
      · rename_i hc
        simp only [Instr.fill, hp i _ hq]
        have hz : v.cells.size = n := by simpa using hc.1
        rw [if_neg (by simp [hz]; omega)]
        have hf := foldl_set o v.cells.toList 0 cs.toArray (by simp [hz]; omega)
        have e2 : Array.foldl (fun cs x => cs.setIfInBounds (o + x.snd) x.fst) cs.toArray v.cells.zipIdx = (cs.take o ++ v.cells.toList ++ cs.drop (o + n)).toArray := by
          rw [← Array.foldl_toList, Array.toList_zipIdx]
          simpa [hz] using hf
        rw [e2]
        exact fill_ok pl ps _ r h place hp
      · cases h

/-! ### The operations -/
theorem up_v {K : Value → World → Prop} {s : Sem Value} {w : World} (h : ∃ v w', s.run P w = .ok v w' ∧ K v w') : Upon P K ((do pure (Next.value (← s)) : Sem Next).run P w) := by
  obtain ⟨v, w', h1, h2⟩ := h
  simp only [Sem.run_bind, h1, Result.andThen_ok, Sem.run_pure]
  exact h2
theorem up_u {K : Value → World → Prop} {s : Sem Unit} {w : World} (h : ∃ w', s.run P w = .ok () w' ∧ K undef w') : Upon P K ((do s; pure Next.skip : Sem Next).run P w) := by
  obtain ⟨w', h1, h2⟩ := h
  simp only [Sem.run_bind, h1, Result.andThen_ok, Sem.run_pure]
  exact h2
theorem ad (b o d : Nat) : (⟨b, o, none⟩ : Addr).add d = ⟨b, o + d, none⟩ := by unfold Addr.add; split <;> simp_all
theorem nilQ_ok (hL : LayOk P L) {t : Nat} {x y : Value} {b : Bool} (h : nilQ (L.kd t) x y = some b) (w : World) : (Op.equal t x y).run P w = .ok b w := by
  have hk := hL.kd t
  unfold nilQ at h
  split at h <;> first | (cases h; done) | skip
  all_goals
    split at h <;> first | (cases h; done) | skip
    rename_i hkd
    rw [hkd] at hk
    simp only [Option.some.injEq] at h
    subst h
    obtain ⟨d, hd⟩ : ∃ d, Op.maxDepth = d + 1 := ⟨9999, rfl⟩
    simp only [Op.equal, hd]
    first
    | (obtain ⟨e, hk⟩ := hk; simp [Op.equalIn, run_under hk]; done)
    | (obtain ⟨k, e, hk⟩ := hk; simp [Op.equalIn, run_under hk]; done)
    | (simp [Op.equalIn, run_under hk]; done)
theorem run_intArith (op : BinOp) (k : IntKind) (a b : Int) (w : World) (v : Value) (h : intV op k a b = some v) (ho : op = .add ∨ op = .sub ∨ op = .mul) : (Op.intArith op k a b).run P w = .ok v w := by
  rcases ho with rfl | rfl | rfl <;> (simp only [intV, Option.some.injEq] at h; subst h; rfl)
theorem binV_run (hL : LayOk P L) {op : BinOp} {t : Nat} {x y : Value} {v : Value} {K : Prop} {yo : Operand} (h : binV (L.kd t) op x y = some v) (hs : sideW op yo y K) (w : World) : (binOp op t x y).run P w = .ok v w ∧ K := by
  unfold binV at h
  split at h
  · rename_i i a j b
    cases op <;> simp only [Bool.cond_eq_ite] at h
    case shl | shr =>
      simp only [Option.some.injEq] at h
      subst h
      have hnn : 0 ≤ b ∧ K := by
        simp only [sideW] at hs
        split at hs
        · simp only [Bool.cond_eq_ite] at hs
          split at hs
          · exact hs.elim
          · rename_i hn
            cases b with
            | ofNat n => exact ⟨Int.natCast_nonneg n, hs⟩
            | negSucc n => simp [isNeg] at hn
        · exact ⟨hs.nn, hs.h⟩
      refine ⟨?_, hnn.2⟩
      simp only [binOp, Op.shift]
      rw [if_neg (by omega)]
      rfl
    all_goals
      split at h
      · rename_i hk
        have hk := sameK_eq hk
        subst hk
        have hK : K := by
          first
          | exact hs
          | (simp only [sideW] at hs
             split at hs
             · simp only [Bool.cond_eq_ite] at hs
               split at hs
               · exact hs.elim
               · exact hs
             · exact hs.h)
        refine ⟨?_, hK⟩
        simp only [intV] at h
        first
        | (cases h; done)
        | (simp only [Option.some.injEq] at h
           subst h
           simp only [binOp, ne_eq, not_true, if_false]
           first
           | rfl
           | (have hb : b ≠ 0 := by
                simp only [sideW] at hs
                split at hs
                · simp only [Bool.cond_eq_ite] at hs
                  split at hs
                  · exact hs.elim
                  · rename_i hz
                    intro hb
                    subst hb
                    exact hz rfl
                · exact hs.nz
              simp only [Op.intDiv]
              rw [if_neg hb]
              rfl))
      · cases h
  · rename_i a b
    have hK : K := by
      cases op <;> first | exact hs | (simp only [strV] at h; cases h; done)
    refine ⟨?_, hK⟩
    cases op <;> simp only [strV] at h <;> first | (cases h; done) | (simp only [Option.some.injEq] at h; subst h; rfl)
  · rename_i x y hn1 hn2
    cases op <;> first | (cases h; done) | skip
    all_goals
      simp only [Option.map_eq_some_iff] at h
      obtain ⟨b, hq, rfl⟩ := h
      have hq' := nilQ_ok hL hq w
      refine ⟨?_, hs⟩
      unfold nilQ at hq
      split at hq <;> first | (cases hq; done) | (simp only [binOp, Sem.run_bind, hq', Result.andThen_ok, Sem.run_pure])
theorem guard_ok {op : BinOp} {t : Nat} {x y v : Value} {k : Kd} (h : binV k op x y = some v) (ox oy : Operand) (w : World) : (eqGuard op t ox oy x y).run P w = .ok () w := by
  unfold eqGuard
  cases op <;> simp
  all_goals
    unfold binV at h
    split at h
    · rfl
    · rfl
    · simp only [Option.map_eq_some_iff] at h
      obtain ⟨b, hq, rfl⟩ := h
      unfold nilQ at hq
      split at hq <;> first | (cases hq; done) | rfl

theorem read_run {K : Value → World → Prop} {s : Sem Value} {w : World} (h : ReadW P s w fun v => K v w) : ∃ v w', s.run P w = .ok v w' ∧ K v w' := by
  obtain ⟨v, h1, h2⟩ := h.h; exact ⟨v, w, h1, h2⟩
theorem callT_ok (hL : LayOk P L) {K : Value → World → Prop} {f : Value} {args : List Value} {w : World} (h : callT P L f args w K) :
    Upon P K ((do let d ← Deferred.ofValue f args.toArray; invoke d.target d.args : Sem Next).run P w) := by
  unfold callT at h
  split at h
  · rename_i g first captured
    have he : (first ++ args.toArray ++ captured) = (first.toList ++ args ++ captured.toList).toArray := by apply Array.ext'; simp
    simp only [Deferred.ofValue, Sem.run_bind, Sem.run_pure, Result.andThen_ok, invoke]
    rw [he]
    simp only [Bool.cond_eq_ite] at h
    split at h
    · rename_i hf
      obtain ⟨fn, c, h1, h2, h3⟩ := hL.fn g hf
      simp only [callFunc, Sem.run_bind, run_program, Result.andThen_ok, h1, h3, h2]
      exact h.h
    · obtain ⟨v, w', h1, h2⟩ := h.h
      simp only [Sem.run_bind] at h1
      generalize (callFunc g (first.toList ++ args ++ captured.toList).toArray).run P w = r at h1 ⊢
      cases r with
      | halt _ _ => cases h1
      | ok n w1 =>
        simp only [Result.andThen_ok] at h1
        cases n <;> simp only [Sem.run_pure, run_stuck, Result.ok.injEq] at h1 <;> first | (cases h1; done) | skip
        obtain ⟨rfl, rfl⟩ := h1
        exact h2
  · exact h.elim
theorem len_ok (hL : LayOk P L) {K : Value → World → Prop} {ats : List TypeId} {ty : TypeId} {args : List Value} {w : World} (h : bltW P L .len ats ty args w K) : ∃ v w', (Builtin.len_ ats.toArray ty args.toArray).run P w = .ok v w' ∧ K v w' := by
  simp only [bltW] at h
  split at h
  · rename_i t x
    have hk := hL.kd t
    split at h
    · rename_i hkd
      rw [hkd] at hk
      obtain ⟨e, hk⟩ := hk
      split at h
      · exact ⟨_, _, by simp [Builtin.len_, run_under hk, goInt], h⟩
      · exact h.elim
    · rename_i hkd
      rw [hkd] at hk
      split at h
      · exact ⟨_, _, by simp [Builtin.len_, run_under hk, goInt], h⟩
      · exact h.elim
    · exact read_run h
  · exact h.elim
theorem min_ok {x y v : Value} (h : minV x y = some v) (w : World) (a : Array TypeId) (t : TypeId) : (Builtin.min_ a t #[x, y]).run P w = .ok v w := by
  unfold minV at h
  split at h
  · simp only [Option.some.injEq] at h; subst h; simp [Builtin.min_, Builtin.min2]
  · cases h
theorem max_ok {x y v : Value} (h : maxV x y = some v) (w : World) (a : Array TypeId) (t : TypeId) : (Builtin.max_ a t #[x, y]).run P w = .ok v w := by
  unfold maxV at h
  split at h
  · simp only [Option.some.injEq] at h; subst h; simp [Builtin.max_, Builtin.max2]
  · cases h
theorem bltW_ok (hL : LayOk P L) {K : Value → World → Prop} {b : Builtin} {ats : List TypeId} {ty : TypeId} {args : List Value} {w : World} {cs : Array Bool} (h : bltW P L b ats ty args w K) :
    Upon P K ((builtin b ats.toArray ty cs args.toArray).run P w) := by
  cases b <;> simp only [builtin]
  case len => exact up_v (len_ok hL h)
  case append | clear | copy | delete => exact up_v (RunW.h h)
  case cap => exact up_v (read_run h)
  case max =>
    simp only [bltW] at h
    split at h
    · split at h
      · rename_i hv; exact up_v ⟨_, _, max_ok hv w _ _, h⟩
      · exact h.elim
    · exact h.elim
  case min =>
    simp only [bltW] at h
    split at h
    · split at h
      · rename_i hv; exact up_v ⟨_, _, min_ok hv w _ _, h⟩
      · exact h.elim
    · exact h.elim
  all_goals exact h.elim

theorem bound_ok {k : IntKind} {i : Int} {y : Nat} {code : BoundsCode} (w : World) (h : 0 ≤ i ∧ i ≤ y) : (Instr.sliceBound (.int k i) y code).run P w = .ok i.toNat w := by
  simp [Instr.sliceBound, asIntOf, h.1, h.2]
theorem bounds_ok {isS : Bool} {n c : Nat} {lo hi : Option Value} {l h : Int} (w : World) (hl : intO lo 0 = some l) (hh : intO hi n = some h) (h0 : 0 ≤ l) (h1 : l ≤ h) (h2 : h ≤ c) (hn : hi = none → n ≤ c) :
    (Instr.sliceBounds isS n c lo hi none).run P w = .ok (l.toNat, h.toNat, c) w := by
  have hh' : (match hi with | some v => Instr.sliceBound v c (if isS then .sliceAcap else .sliceAlen) | none => (pure n : Sem Nat)).run P w = .ok h.toNat w := by
    cases hi with
    | none => simp only [intO, Option.some.injEq] at hh; subst hh; simp
    | some v =>
      cases v <;> simp only [intO] at hh <;> first | (cases hh; done) | skip
      simp only [Option.some.injEq] at hh
      subst hh
      exact bound_ok w ⟨by omega, h2⟩
  cases lo with
  | none =>
    simp only [intO, Option.some.injEq] at hl
    subst hl
    cases hi <;> simp only [Instr.sliceBounds, Sem.run_bind, Sem.run_pure, Result.andThen_ok] at hh' ⊢ <;> simp_all
  | some v =>
    cases v <;> simp only [intO] at hl <;> first | (cases hl; done) | skip
    rename_i q i
    simp only [Option.some.injEq] at hl
    subst hl
    have hb : ∀ code, (Instr.sliceBound (.int q i) h.toNat code).run P w = .ok i.toNat w := fun code => bound_ok w ⟨h0, by omega⟩
    cases hi <;> simp only [Instr.sliceBounds, Sem.run_bind, Sem.run_pure, Result.andThen_ok] at hh' ⊢ <;> simp_all
theorem sliceW_ok (hL : LayOk P L) {t : Nat} {x : Value} {lo hi mx : Option Value} {w : World} {K : Value → World → Prop} (h : sliceW P L t x lo hi mx w K) : ∃ v w', (Instr.sliceAt t x lo hi mx).run P w = .ok v w' ∧ K v w' := by
  unfold sliceW at h
  split at h
  · rename_i e k b o n c hsl
    obtain ⟨i, h1, h2, h3, _⟩ := hL.sl t e k hsl
    split at h
    · rename_i l hh hl hhi
      obtain ⟨a1, a2, a3, a4⟩ := h.h
      refine ⟨_, w, ?_, a4⟩
      by_cases hn : hi = none → n ≤ c
      · have hb := bounds_ok (P := P) (isS := true) w hl hhi a1 a2 a3 hn
        simp only [Instr.sliceAt, Instr.slice, Sem.run_bind, run_under h1, Result.andThen_ok, hb, run_sizeOf h2, Sem.run_pure, h3]
        congr 2
        split <;> simp [ad]
      · simp only [Classical.not_imp] at hn
        obtain ⟨rfl, hn⟩ := hn
        simp only [intO, Option.some.injEq] at hhi
        omega
    · exact h.elim
  · split at h
    · rename_i s hkd _
      have hk := hL.kd t
      rw [hkd] at hk
      split at h
      · rename_i l hh hl hhi
        obtain ⟨a1, a2, a3, a4⟩ := h.h
        refine ⟨_, w, ?_, a4⟩
        have hb := bounds_ok (P := P) (isS := false) w hl hhi a1 a2 a3 (fun _ => Nat.le_refl _)
        simp [Instr.sliceAt, Instr.slice, run_under hk, hb]
      · exact h.elim
    · exact read_run h
theorem part1_ok (hL : LayOk P L) {u o : Nat} {cs : List Value} {v : Value} (hs : L.sh u = some none) (h : cs[o]? = some v) (w : World) : (part u cs.toArray o).run P w = .ok v w := by
  simp [part, run_isAgg1 hL hs, h]
theorem partA_ok (hL : LayOk P L) {u o k : Nat} {cs : List Value} (hs : L.sh u = some (some k)) (w : World) : (part u cs.toArray o).run P w = .ok (.agg ((cs.drop o).take k).toArray) w := by
  obtain ⟨i, hi, hk⟩ := sh_size hL hs
  simp only [part, Sem.run_bind, run_isAggA hL hs, Result.andThen_ok, if_true, run_sizeOf hi, Sem.run_pure, hk, Option.getD_some]
  congr 2
  apply Array.ext'
  simp [List.extract_eq_take_drop]
theorem fieldV_ok (hL : LayOk P L) {t f : Nat} {cs : Array Value} {K : Value → Prop} (h : fieldV L t f cs.toList K) (w : World) : ∃ v w', (Instr.field t (.agg cs) f).run P w = .ok v w' ∧ (w' = w ∧ K v) := by
  unfold fieldV at h
  split at h
  · rename_i o u hf
    obtain ⟨fs, g, i, h1, h2, h3, h4, h5, h6⟩ := hL.fo t f o u hf
    have hcs : cs = cs.toList.toArray := by simp
    split at h
    · rename_i hs
      split at h
      · rename_i v hv
        refine ⟨v, w, ?_, rfl, h⟩
        rw [hcs]
        simp only [Instr.field, Sem.run_bind, run_under h1, Result.andThen_ok, h2, asAgg, Sem.run_pure, h3, h4]
        exact part1_ok hL hs hv w
      · exact h.elim
    · rename_i k hs
      refine ⟨_, w, ?_, rfl, h.2⟩
      rw [hcs]
      simp only [Instr.field, Sem.run_bind, run_under h1, Result.andThen_ok, h2, asAgg, Sem.run_pure, h3, h4]
      exact partA_ok hL hs w
    · exact h.elim
  · exact h.elim
theorem idxAddr_ok (hL : LayOk P L) {t : Nat} {x : Value} {k : IntKind} {i : Int} {K : Value → Prop} (h : idxAddr L t x i K) (w : World) : ∃ v w', (Instr.indexAt t x (.int k i)).run P w = .ok v w' ∧ (w' = w ∧ K v) := by
  unfold idxAddr at h
  split at h
  · rename_i e k hsl
    obtain ⟨inf, h1, h2, h3, _⟩ := hL.sl t e k hsl
    split at h
    · obtain ⟨a1, a2, a3⟩ := h.h
      refine ⟨_, w, ?_, rfl, a3⟩
      simp [Instr.indexAt, asIntOf, run_under h1, a1, a2, run_sizeOf h2, h3, ad]
    · exact h.elim
  · split at h
    · rename_i n e k har
      obtain ⟨inf, h1, h2, h3, h4⟩ := hL.ar t n e k har
      split at h
      · obtain ⟨a1, a2, a3⟩ := h.h
        refine ⟨_, w, ?_, rfl, a3⟩
        simp [Instr.indexAt, asIntOf, run_under h1, Instr.sureAddr, a1, a2, run_sizeOf h2, h3, ad]
      · exact h.elim
    · exact h.elim
theorem indexW_ok (hL : LayOk P L) {t : Nat} {x i : Value} {w : World} {K : Value → World → Prop} (h : indexW P L t x i w K) : ∃ v w', (Instr.index t x i).run P w = .ok v w' ∧ K v w' := by
  unfold indexW at h
  split at h
  · rename_i s _ j hkd
    have hk := hL.kd t
    rw [hkd] at hk
    obtain ⟨a1, b, a2, a3⟩ := h.h
    refine ⟨_, w, ?_, a3⟩
    simp [Instr.index, asIntOf, run_under hk, a1, a2]
  · exact read_run h
theorem convW_ok (hL : LayOk P L) {s d : Nat} {x : Value} {w : World} {K : Value → World → Prop} (h : convW P L s d x w K) : ∃ v w', (convert s d x).run P w = .ok v w' ∧ K v w' := by
  unfold convW at h
  split at h
  · rename_i k0 k hks hkd
    have hk := hL.kd d
    rw [hkd] at hk
    have hu := hL.kd s
    rw [hks] at hu
    split at h
    · refine ⟨_, w, ?_, h⟩
      simp [convert, run_under hk, run_under hu, Conv.intToInt]
    · exact h.elim
  · exact read_run h
  · exact h.h

theorem run_pureV {K : Value → World → Prop} {v : Value} {w : World} (h : K v w) : Upon P K ((pure (Next.value v) : Sem Next).run P w) := h
theorem slots_at {n k j : Nat} {q : Nat × Nat} (h : ((List.range n).map fun j => (j * k, k))[j]? = some q) : some (j * k, k) = some q := by
  simp only [List.getElem?_map, Option.map_eq_some_iff] at h
  obtain ⟨a, ha, rfl⟩ := h
  obtain ⟨_, rfl⟩ := List.getElem?_eq_some_iff.1 ha
  simp
theorem zrep (z : List Value) : ∀ n : Nat, (List.range (n * z.length)).map (fun i => z.toArray[i % z.length]!) = (List.replicate n z).flatten
  | 0 => by simp
  | n + 1 => by
    have ih := zrep z n
    apply List.ext_getElem?
    intro j
    rw [List.replicate_succ, List.flatten_cons]
    simp only [List.getElem?_map]
    by_cases h : j < z.length
    · have h2 : j < (n + 1) * z.length := by rw [Nat.add_mul, Nat.one_mul]; omega
      rw [List.getElem?_range h2, List.getElem?_append_left h]
      simp [Nat.mod_eq_of_lt h, h]
    · rw [List.getElem?_append_right (by omega), ← ih]
      simp only [List.getElem?_map]
      by_cases h2 : j < (n + 1) * z.length
      · have h3 : j - z.length < n * z.length := by rw [Nat.add_mul, Nat.one_mul] at h2; omega
        rw [List.getElem?_range h2, List.getElem?_range h3]
        simp only [Option.map_some]
        have : j = (j - z.length) + z.length := by omega
        conv => lhs; rw [this, Nat.add_mod_right]
      · have h3 : ¬ j - z.length < n * z.length := by rw [Nat.add_mul, Nat.one_mul] at h2; omega
        rw [List.getElem?_eq_none (by simpa using h2), List.getElem?_eq_none (by simpa using h3)]
theorem build_ok (hL : LayOk P L) {t : Nat} {pl : List (Nat × Nat)} {z : List Value} {vs : List (Nat × Value)} {cs : List Value} (h1 : L.st t = some pl) (h2 : L.zr t = some z) (h3 : fillC pl z vs = some cs) (w : World) : (Instr.build t vs.toArray).run P w = .ok (.agg cs.toArray) w := by
  obtain ⟨zv, hz, hc⟩ := run_zero hL h2 w
  rcases hL.st t pl h1 with ⟨fs, hu, hm⟩ | ⟨n, e, i, hu, hi, rfl⟩
  · have hm' : ∀ l : List Field, ∀ ps, (l.mapM fun g => (P.info? g.type).map fun i => (g.offset, i.size)) = some ps → (l.mapM fun f => (do pure (f.offset, ← sizeOf f.type) : Sem (Nat × Nat))).run P w = .ok ps w := by
      intro l
      induction l with
      | nil => intro ps h; simp at h; subst h; rfl
      | cons g l ih =>
        intro ps h
        simp only [List.mapM_cons, Option.bind_eq_bind, Option.pure_def, Option.bind_eq_some_iff, Option.map_eq_some_iff, Option.some.injEq] at h
        obtain ⟨p, ⟨i, hi, rfl⟩, ps', hps, rfl⟩ := h
        simp only [List.mapM_cons, Sem.run_bind, run_sizeOf hi, Result.andThen_ok, Sem.run_pure, ih _ hps]
    have hplaces : (fs.mapM fun f => (do pure (f.offset, ← sizeOf f.type) : Sem (Nat × Nat))).run P w = .ok pl.toArray w := by
      have e : fs = fs.toList.toArray := by simp
      rw [e, List.mapM_toArray]
      simp only [Sem.run_map, hm' _ _ hm, Result.andThen_ok]
    have hf := fill_ok pl vs z cs h3 (fun i => pl[i]?) (fun i q hq => hq)
    simp only [Instr.build, Sem.run_bind, hz, Result.andThen_ok, run_under hu, hplaces, hc]
    have hf' : Instr.fill (fun x => pl.toArray[x]?) z.toArray vs = some cs.toArray := by simpa using hf
    simp only [hf', Sem.run_pure]
  · have hf := fill_ok _ vs z cs h3 (fun j => some (j * i.size, i.size)) (fun j q hq => slots_at hq)
    simp only [Instr.build, Sem.run_bind, hz, Result.andThen_ok, run_under hu, run_sizeOf hi, hc, hf, Sem.run_pure]
theorem buildS_ok (hL : LayOk P L) {t n e k : Nat} {z : List Value} {vs : List (Nat × Value)} {cs : List Value} {K : Value → World → Prop} {w : World} (h1 : L.sl t = some (e, k)) (h2 : L.zr e = some z) (h0 : n * k ≤ 16777216)
    (h3 : fillC ((List.range n).map fun j => (j * k, k)) (List.replicate n z).flatten vs = some cs) (h4 : AllocW w e cs.toArray fun a w' => K (.slice (some a) n n) w') : ∃ v w', (Instr.buildSlice t n vs.toArray).run P w = .ok v w' ∧ K v w' := by
  obtain ⟨zv, hz, hc⟩ := run_zero hL h2 w
  obtain ⟨i, hu, hi, hk, _⟩ := hL.sl t e k h1
  obtain ⟨i', v', hi', hv', hc', hl'⟩ := hL.zr e z h2
  rw [hi] at hi'
  simp only [Option.some.injEq] at hi'
  subst hi'
  have hf := fill_ok _ vs _ cs h3 (fun j => some (j * k, k)) (fun j q hq => slots_at hq)
  refine ⟨_, _, ?_, h4.h⟩
  have hzc : ((Array.range (n * k)).map fun x => zv.cells[x % zv.cells.size]!) = (List.replicate n z).flatten.toArray := by
    rw [hc, ← zrep z n, ← hl', hk]
    apply Array.ext'
    simp [← hl', hk]
  by_cases hnk : n * k = 0
  · have hf0 : (List.replicate n z).flatten = [] := by rw [← zrep z n, ← hl', hk, hnk]; rfl
    rw [hf0] at hf
    simp only [Instr.buildSlice, Sem.run_bind, run_under hu, Result.andThen_ok, run_sizeOf hi, hk, hnk]
    have e3 : (Array.map (fun _ => (default : Value)) (Array.range 0)) = #[] := by simp
    simp [newRow]
    rw [e3, hf]
    simp
  · simp only [Instr.buildSlice, Sem.run_bind, run_under hu, Result.andThen_ok, run_sizeOf hi, hk]
    rw [if_neg (by omega), if_neg hnk]
    simp only [Sem.run_bind, hz, Result.andThen_ok, Sem.run_pure, hzc, hf]
    simp [newRow]

theorem hc1 {E : Env} {a : Act} {xs : List Operand} {x : Operand} (hc : ∀ t, Operand.tmp t ∈ xs → ∀ v, get E t = some v → a.tmps.getD t undef = v) (hx : x ∈ xs) : ∀ t, x = .tmp t → ∀ v, get E t = some v → a.tmps.getD t undef = v :=
  fun t ht => hc t (ht ▸ hx)
set_option maxHeartbeats 1000000 in
/-- THE OPERATION, AS 'owp' TELLS IT. -/
theorem owp_ok (hL : LayOk P L) {o : Oper} {E : Env} {w : World} {K : Value → World → Prop} {a : Act} (hc : ∀ t, Operand.tmp t ∈ o.op.operands.toList → ∀ v, get E t = some v → a.tmps.getD t undef = v) (h : owp P L o.type o.op E w K) : Upon P K ((execOp a.eval o).run P w) := by
  obtain ⟨dst, op, ty, pos, aft, grd⟩ := o
  simp only at hc h
  cases op with
  | move x => exact run_pureV (ev1_ok (hc1 hc (by simp [Op.operands])) h)
  | assign x => exact run_pureV (ev1_ok (hc1 hc (by simp [Op.operands])) h)
  | pick c x y =>
    have h1 := ev1_ok (hc1 hc (x := c) (by simp [Op.operands])) h
    simp only [execOp, Sem.run_bind]
    split at h1
    · rename_i e; simp only [e, asBool, Sem.run_pure, Result.andThen_ok, if_true]; exact ev1_ok (hc1 hc (x := x) (by simp [Op.operands])) h1
    · rename_i e; simp only [e, asBool, Sem.run_pure, Result.andThen_ok]; exact ev1_ok (hc1 hc (x := y) (by simp [Op.operands])) h1
    · exact h1.elim
  | alloc t =>
    simp only [owp] at h
    split at h
    · rename_i z hz
      obtain ⟨v, h1, h2⟩ := run_zero hL hz w
      refine up_v ⟨_, _, ?_, h.h⟩
      simp [Instr.alloc, h1, newVar, newRow, h2]
    · exact h.elim
  | box t x =>
    have h1 := ev1_ok (hc1 hc (x := x) (by simp [Op.operands])) h
    refine up_v ⟨_, _, ?_, h1.h⟩
    simp [Instr.box, newVar, newRow]
  | build t ps =>
    simp only [owp] at h
    split at h
    · rename_i pl z h1 h2
      obtain ⟨cs, h3, h4⟩ := evP_ok (a := a) (fun t i ht => hc t (by simpa [Op.operands] using ⟨i, by simpa using ht⟩)) h
      have h5 := build_ok hL h1 h2 h3 w
      refine up_v ⟨_, _, ?_, h4⟩
      have e : (ps.map fun x => (x.1, a.eval x.2)) = (ps.toList.map fun x => (x.1, a.eval x.2)).toArray := by apply Array.ext'; simp
      rw [e]; exact h5
    · exact h.elim
  | buildSlice t n ps =>
    simp only [owp] at h
    split at h
    · rename_i e k h1
      split at h
      · rename_i z h2
        obtain ⟨h0, cs, h3, h4⟩ := evP_ok (a := a) (fun t i ht => hc t (by simpa [Op.operands] using ⟨i, by simpa using ht⟩)) h
        have h5 := buildS_ok hL h1 h2 h0 h3 h4
        have e : (ps.map fun x => (x.1, a.eval x.2)) = (ps.toList.map fun x => (x.1, a.eval x.2)).toArray := by apply Array.ext'; simp
        refine up_v ?_
        rw [e]; exact h5
      · exact h.elim
    · exact h.elim
  | load t x =>
    have h1 := ev1_ok (hc1 hc (x := x) (by simp [Op.operands])) h
    simp only [execOp]
    split at h1
    · rename_i ad e
      rw [e]
      split at h1
      · rename_i hs
        obtain ⟨v, h2, h3⟩ := load1_ok hL hs h1
        exact up_v ⟨v, w, h2, h3⟩
      · rename_i k hs
        obtain ⟨v, h2, h3⟩ := loadN_ok hL hs h1
        exact up_v ⟨v, w, h2, h3⟩
      · exact h1.elim
    · exact h1.elim
  | store t x y =>
    have h1 := ev1_ok (hc1 hc (x := y) (by simp [Op.operands])) (ev1_ok (hc1 hc (x := x) (by simp [Op.operands])) h)
    simp only [execOp]
    split at h1
    · rename_i ad e
      rw [e]
      split at h1
      · rename_i s hs
        obtain ⟨w', h2, h3⟩ := store_ok hL hs h1
        exact up_u ⟨w', h2, h3⟩
      · exact h1.elim
    · exact h1.elim
  | nilCheck x =>
    have h1 := ev1_ok (hc1 hc (x := x) (by simp [Op.operands])) h
    simp only [execOp]
    split at h1
    · rename_i e; simp only [e]; exact h1
    · rename_i e; simp only [e]; exact h1
    · exact h1.elim
  | binOp op t x y u =>
    have h1 := ev1_ok (hc1 hc (x := y) (by simp [Op.operands])) (ev1_ok (hc1 hc (x := x) (by simp [Op.operands])) h)
    refine up_v ?_
    split at h1
    · rename_i v hv
      obtain ⟨h2, h3⟩ := binV_run hL hv h1 w
      refine ⟨v, w, ?_, h3⟩
      simp only [Sem.run_bind, guard_ok hv, Result.andThen_ok, h2]
    · split at h1
      · obtain ⟨v, h2, h3, h4⟩ := h1.h
        refine ⟨v, w, ?_, h4⟩
        simp only [Sem.run_bind, h3, Result.andThen_ok, h2]
      · exact h1.elim
  | unOp op t x =>
    have h1 := ev1_ok (hc1 hc (x := x) (by simp [Op.operands])) h
    refine up_v ?_
    split at h1
    · rename_i v hv
      refine ⟨v, w, ?_, h1⟩
      unfold unV at hv
      split at hv <;> first | (cases hv; done) | (simp only [Option.some.injEq] at hv; subst hv; rename_i e1 e2 _ ; first | (rw [e2]; rfl) | skip)
      all_goals (simp_all [Op.unary, Op.intArith, Op.intBits, iNot])
    · exact h1.elim
  | convert s d x => exact up_v (convW_ok hL (ev1_ok (hc1 hc (x := x) (by simp [Op.operands])) h))
  | makeInterface t x =>
    have h1 := ev1_ok (hc1 hc (x := x) (by simp [Op.operands])) h
    refine up_v ?_
    have hk := hL.kd t
    split at h1
    · exact read_run h1
    · rename_i hn
      refine ⟨_, w, ?_, h1⟩
      have : ∃ d, P.underlying t = some d ∧ ∀ m, d ≠ .interface m := by
        cases hkd : L.kd t <;> rw [hkd] at hk <;> first
          | exact ⟨_, hk, by simp⟩
          | (obtain ⟨e, hk⟩ := hk; exact ⟨_, hk, by simp⟩)
          | (obtain ⟨k, e, hk⟩ := hk; exact ⟨_, hk, by simp⟩)
          | exact (hn hkd).elim
      obtain ⟨d, hd, hm⟩ := this
      simp only [Instr.makeInterface, Sem.run_bind, run_under hd, Result.andThen_ok]
      cases d <;> first | rfl | exact (hm _ rfl).elim
  | makeFunc f as cs =>
    have h1 := evL_ok (a := a) (fun t ht => hc t (by simp [Op.operands]; right; simpa using ht)) (evL_ok (a := a) (fun t ht => hc t (by simp [Op.operands]; left; simpa using ht)) h)
    refine up_v ⟨_, w, rfl, ?_⟩
    have e1 : as.map a.eval = (as.toList.map a.eval).toArray := by apply Array.ext'; simp
    have e2 : cs.map a.eval = (cs.toList.map a.eval).toArray := by apply Array.ext'; simp
    rw [e1, e2]; exact h1
  | makeMap t r =>
    cases r with
    | none =>
      refine up_v ⟨_, _, ?_, MapW.h h⟩
      simp [Instr.makeMap]
    | some _ => exact False.elim h
  | makeSlice t l c =>
    have h1 := ev1_ok (hc1 hc (x := c) (by simp [Op.operands])) (ev1_ok (hc1 hc (x := l) (by simp [Op.operands])) h)
    exact up_v h1.h
  | slice t x lo hi mx =>
    have h1 := evO_ok (a := a) (x := mx) (fun t ht => hc t (by simp [Op.operands, ht])) (evO_ok (a := a) (x := hi) (fun t ht => hc t (by simp [Op.operands, ht])) (evO_ok (a := a) (x := lo) (fun t ht => hc t (by simp [Op.operands, ht])) (ev1_ok (hc1 hc (x := x) (by simp [Op.operands])) h)))
    exact up_v (sliceW_ok hL h1)
  | fieldAddr t x f =>
    have h1 := ev1_ok (hc1 hc (x := x) (by simp [Op.operands])) h
    simp only [execOp]
    split at h1
    · rename_i b o e
      rw [e]
      split at h1
      · rename_i d u hf
        obtain ⟨fs, g, i, h2, h3, h4, h5, h6, h7⟩ := hL.fo t f d u hf
        refine up_v ⟨_, w, ?_, h1⟩
        simp [Instr.fieldAt, run_under h2, h3, Instr.sureAddr, fieldPlace, h5, run_sizeOf h6, h7, h4, Go.Proofs.YtffjccofglikhaaGreat.ad]
      · exact h1.elim
    · exact h1.elim
  | field t x f =>
    have h1 := ev1_ok (hc1 hc (x := x) (by simp [Op.operands])) h
    simp only [execOp]
    split at h1
    · rename_i cs e
      rw [e]
      obtain ⟨v, w', h2, rfl, h3⟩ := fieldV_ok hL h1 w
      exact up_v ⟨v, w', h2, h3⟩
    · exact h1.elim
  | indexAddr t x i =>
    have h1 := ev1_ok (hc1 hc (x := i) (by simp [Op.operands])) (ev1_ok (hc1 hc (x := x) (by simp [Op.operands])) h)
    simp only [execOp]
    split at h1
    · rename_i e
      rw [e]
      obtain ⟨v, w', h2, rfl, h3⟩ := idxAddr_ok hL h1 w
      exact up_v ⟨v, w', h2, h3⟩
    · exact h1.elim
  | index t x i => exact up_v (indexW_ok hL (ev1_ok (hc1 hc (x := i) (by simp [Op.operands])) (ev1_ok (hc1 hc (x := x) (by simp [Op.operands])) h)))
  | lookup t x i ok =>
    have h1 := ev1_ok (hc1 hc (x := i) (by simp [Op.operands])) (ev1_ok (hc1 hc (x := x) (by simp [Op.operands])) h)
    exact up_v (read_run h1)
  | mapUpdate t m k x =>
    have h1 := ev1_ok (hc1 hc (x := x) (by simp [Op.operands])) (ev1_ok (hc1 hc (x := k) (by simp [Op.operands])) (ev1_ok (hc1 hc (x := m) (by simp [Op.operands])) h))
    obtain ⟨v, w', h2, h3⟩ := h1.h
    simp only [Sem.run_bind] at h2
    refine up_u ?_
    generalize (Instr.mapUpdate t (a.eval m) (a.eval k) (a.eval x)).run P w = r at h2 ⊢
    cases r with
    | halt _ _ => cases h2
    | ok u w1 =>
      simp only [Result.andThen_ok, Sem.run_pure, Result.ok.injEq] at h2
      obtain ⟨rfl, rfl⟩ := h2
      exact ⟨w1, rfl, h3⟩
  | range t x =>
    have h1 := ev1_ok (hc1 hc (x := x) (by simp [Op.operands])) h
    exact up_v h1.h
  | next i s =>
    have h1 := ev1_ok (hc1 hc (x := i) (by simp [Op.operands])) h
    exact up_v h1.h
  | typeAssert x t u ok =>
    have h1 := ev1_ok (hc1 hc (x := x) (by simp [Op.operands])) h
    exact up_v (read_run h1)
  | extract x i =>
    have h1 := ev1_ok (hc1 hc (x := x) (by simp [Op.operands])) h
    simp only [execOp]
    split at h1
    · rename_i vs e
      rw [e]
      split at h1
      · rename_i v hv
        refine up_v ⟨v, w, ?_, h1⟩
        have : vs[i]? = some v := by simpa using hv
        simp [Instr.extract, this]
      · exact h1.elim
    · exact h1.elim
  | call c =>
    simp only [owp] at h
    obtain ⟨callee, args, ats⟩ := c
    have e1 : args.map a.eval = (args.toList.map a.eval).toArray := by apply Array.ext'; simp
    have hargs : ∀ t, Operand.tmp t ∈ args.toList → ∀ v, get E t = some v → a.tmps.getD t undef = v := fun t ht => hc t (by simp only [Op.operands, Call.operands, Array.toList_append]; exact List.mem_append_right _ ht)
    cases callee with
    | value f =>
      have h1 := evL_ok hargs (ev1_ok (hc1 hc (x := f) (by simp [Op.operands, Call.operands])) h)
      simp only [execOp, resolve, e1]
      exact callT_ok hL h1
    | builtin b =>
      have h1 := evL_ok hargs h
      simp only [execOp, resolve, e1, Sem.run_bind, Sem.run_pure, Result.andThen_ok, invoke]
      have h2 : ∀ cs, Upon P K ((builtin b ats ty cs (args.toList.map a.eval).toArray).run P w) := fun cs => by simpa using bltW_ok hL (cs := cs) h1
      exact h2 _
    | invoke r m => exact h.elim
  | _ => exact False.elim h
end
end Go.Proofs.YtffjccofglikhaaGreat
