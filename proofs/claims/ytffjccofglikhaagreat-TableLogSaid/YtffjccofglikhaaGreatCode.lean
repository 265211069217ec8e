/-
  Code, and a call: the whole calculus.
-/
import Derived.Test.YtffjccofglikhaaGreatPlanT
namespace Go.Proofs.YtffjccofglikhaaGreat
open Go Go.RowKit

inductive Ex where
  | normal
  | exit (i : Nat)
  | ret
structure DrawW (P : Program) (L : Lay) (ops : List Oper) (Q : Env → World → Prop) (E : Env) (w : World) : Prop where
  pl :: h : (∃ pl, planOk L ops pl = true ∧ pwp P L ops pl Q E w.drew) ∨ (∃ t, planOkT L ops t = true ∧ pwpT P L ops t Q E w.drew) ∨
    ∃ (σ : Type) (env : σ → Env) (I : σ → World → Prop) (t : PT), planOkT L ops t = true ∧ pwpT P L ops t (fun E w => ∃ s, Sub (env s) E ∧ I s w) E w.drew ∧ ∀ s w, I s w → Q (env s) w
theorem draw {P : Program} {L : Lay} {ops : List Oper} {Q : Env → World → Prop} {E : Env} {w : World} (pl : List (Nat × List Nat)) (h : planOk L ops pl = true) (k : pwp P L ops pl Q E w.drew) : DrawW P L ops Q E w := ⟨.inl ⟨pl, h, k⟩⟩
theorem drawT {P : Program} {L : Lay} {ops : List Oper} {Q : Env → World → Prop} {E : Env} {w : World} (t : PT) (h : planOkT L ops t = true) (k : pwpT P L ops t Q E w.drew) : DrawW P L ops Q E w := ⟨.inr (.inl ⟨t, h, k⟩)⟩
/-- A CUT behind a region: what the slots hold as a function of a state of ours. -/
theorem drawC {P : Program} {L : Lay} {ops : List Oper} {Q : Env → World → Prop} {E : Env} {w : World} {σ : Type} (env : σ → Env) (I : σ → World → Prop) (t : PT) (h : planOkT L ops t = true) (k : pwpT P L ops t (fun E w => ∃ s, Sub (env s) E ∧ I s w) E w.drew) (k2 : ∀ s w, I s w → Q (env s) w) : DrawW P L ops Q E w := ⟨.inr (.inr ⟨σ, env, I, t, h, k, k2⟩)⟩
def cutQ {σ : Type} (env : σ → Env) (I : σ → World → Prop) (Q : Ex → Env → World → Prop) : Ex → Env → World → Prop
  | .normal, E, w => ∃ s, Sub (env s) E ∧ I s w
  | .exit i, E, w => Q (.exit i) E w
  | .ret, E, w => Q .ret E w
structure CondB (b : Bool) (X Y : (Ex → Env → World → Prop) → Prop) (Q : Ex → Env → World → Prop) : Prop where
  h : ((b = true → X Q) ∧ (b = false → Y Q)) ∨ ∃ (σ : Type) (env : σ → Env) (I : σ → World → Prop), (b = true → X (cutQ env I Q)) ∧ (b = false → Y (cutQ env I Q)) ∧ ∀ s w, I s w → Q .normal (env s) w
section
variable {b : Bool} {X Y : (Ex → Env → World → Prop) → Prop} {Q : Ex → Env → World → Prop}
theorem cond2 (h : b = true → X Q) (k : b = false → Y Q) : CondB b X Y Q := ⟨.inl ⟨h, k⟩⟩
theorem condT (e : b = true) (h : X Q) : CondB b X Y Q := ⟨.inl ⟨fun _ => h, fun e' => (by rw [e] at e'; cases e')⟩⟩
theorem condF (e : b = false) (h : Y Q) : CondB b X Y Q := ⟨.inl ⟨fun e' => (by rw [e] at e'; cases e'), fun _ => h⟩⟩
/-- THE TWO WAYS MEET: what the slots hold behind them, as a function of a state of ours. -/
theorem condC {σ : Type} (env : σ → Env) (I : σ → World → Prop) (h : b = true → X (cutQ env I Q)) (k : b = false → Y (cutQ env I Q)) (k2 : ∀ s w, I s w → Q .normal (env s) w) : CondB b X Y Q := ⟨.inr ⟨σ, env, I, h, k, k2⟩⟩
end
structure LoopW (E : Env) (w : World) (body : (Ex → Env → World → Prop) → Env → World → Prop) (Q : Ex → Env → World → Prop) : Prop where
  h : ∃ (σ : Type) (env : σ → Env) (I : σ → World → Prop) (μ : σ → World → Nat) (s : σ), Sub (env s) E ∧ I s w ∧
      ∀ s w, I s w → body (fun e E' w' => match e with | .normal => ∃ s', Sub (env s') E' ∧ I s' w' ∧ μ s' w' < μ s w | .exit i => Q (.exit i) E' w' | .ret => Q .ret E' w') (env s) w
/-- A LOOP: what the slots hold as a function of a state of ours, what holds of the state and the world at each round's head, and what gets less. -/
theorem loop {σ : Type} {E : Env} {w : World} {body : (Ex → Env → World → Prop) → Env → World → Prop} {Q : Ex → Env → World → Prop} (env : σ → Env) (I : σ → World → Prop) (μ : σ → World → Nat) (s : σ) (h0 : Sub (env s) E) (h1 : I s w)
    (h2 : ∀ s w, I s w → body (fun e E' w' => match e with | .normal => ∃ s', Sub (env s') E' ∧ I s' w' ∧ μ s' w' < μ s w | .exit i => Q (.exit i) E' w' | .ret => Q .ret E' w') (env s) w) : LoopW E w body Q := ⟨σ, env, I, μ, s, h0, h1, h2⟩
noncomputable def cwp (P : Program) (L : Lay) (c : Code) (Q : Ex → Env → World → Prop) (E : Env) (w : World) : Prop :=
  @Code.rec (fun _ => (Ex → Env → World → Prop) → Env → World → Prop)
    (fun Q E w => Q .normal E w)
    (fun _ ops d Q E w => match d with
      | false => owps P L ops.toList 0 ops.toList (Q .normal) E w
      | true => DrawW P L ops.toList (Q .normal) E w)
    (fun _ _ iha ihb Q E w => iha (fun e E w => match e with | .normal => ihb Q E w | .exit i => Q (.exit i) E w | .ret => Q .ret E w) E w)
    (fun c _ _ ihx ihy Q E w => match ev E c with
      | some (.bool b) => CondB b (fun Q => ihx Q E w) (fun Q => ihy Q E w) Q
      | _ => False)
    (fun id _ ih Q E w => ih (fun e E w => match e with | .exit i => bif Nat.beq i id then Q .normal E w else Q (.exit i) E w | .normal => Q .normal E w | .ret => Q .ret E w) E w)
    (fun _ ih Q E w => LoopW E w (fun Q E w => ih Q E w) Q)
    (fun _ _ _ _ _ _ _ _ _ => False)
    (fun i Q E w => Q (.exit i) E w)
    (fun _ _ _ _ _ => False)
    (fun _ Q E w => Q .normal E w)
    (fun _ _ _ _ => False)
    (fun Q E w => Q .ret E w)
    (fun _ _ _ _ => False) c Q E w
theorem cwp_cond (P : Program) (L : Lay) (c : Operand) (x y : Code) (Q : Ex → Env → World → Prop) (E : Env) (w : World) : cwp P L (.cond c x y) Q E w = match ev E c with
    | some (.bool b) => CondB b (fun Q => cwp P L x Q E w) (fun Q => cwp P L y Q E w) Q
    | _ => False := rfl
def codeOk (n : Nat) : Code → Bool
  | .region _ ops _ => dstOk n ops.toList
  | .seq a b => codeOk n a && codeOk n b
  | .cond _ a b => codeOk n a && codeOk n b
  | .block _ c => codeOk n c
  | .loop c => codeOk n c
  | _ => true
section
variable {P : Program} {L : Lay}
def liftQ (n : Nat) (Q : Ex → Env → World → Prop) : Exit → Act → World → Prop
  | .normal, a, w => ∃ E, Cov n E a ∧ Q .normal E w
  | .exit i, a, w => ∃ E, Cov n E a ∧ Q (.exit i) E w
  | .ret, a, w => ∃ E, Cov n E a ∧ Q .ret E w
  | _, _, _ => False
theorem cwp_ok (hL : LayOk P L) {n : Nat} : ∀ (c : Code) {Q : Ex → Env → World → Prop} {E : Env} {a : Act} {w : World}, codeOk n c = true → Cov n E a → cwp P L c Q E w → c.wp P (liftQ n Q) a w
  | .skip, Q, E, a, w, _, hc, h => wp_skip ⟨E, hc, h⟩
  | .label _, Q, E, a, w, _, hc, h => wp_label ⟨E, hc, h⟩
  | .exit i, Q, E, a, w, _, hc, h => wp_exit ⟨E, hc, h⟩
  | .ret, Q, E, a, w, _, hc, h => wp_ret ⟨E, hc, h⟩
  | .region id ops d, Q, E, a, w, ho, hc, h => by
    cases d with
    | false => exact region_ok hL (Q := Q .normal) (fun E a w hc hq => ⟨E, hc, hq⟩) ho hc h
    | true =>
      rcases DrawW.h h with ⟨pl, h1, h2⟩ | ⟨t, h1, h2⟩ | ⟨σ, env, I, t, h1, h2, h3⟩
      · exact draw_ok hL (Q := Q .normal) (fun E a w hc hq => ⟨E, hc, hq⟩) h1 ho hc h2
      · exact drawT_ok hL (Q := Q .normal) (fun E a w hc hq => ⟨E, hc, hq⟩) h1 ho hc h2
      · exact drawT_ok hL (Q := fun E w => ∃ s, Sub (env s) E ∧ I s w) (fun E a w hc hq => by obtain ⟨s, hs, hI⟩ := hq; exact ⟨env s, hc.sub hs, h3 s w hI⟩) h1 ho hc h2
  | .seq x y, Q, E, a, w, ho, hc, h => by
    simp only [codeOk, Bool.and_eq_true] at ho
    refine wp_seq (wp_mono (cwp_ok hL x ho.1 hc h) ?_)
    intro e a' w' hq
    cases e <;> first | exact hq | skip
    obtain ⟨E', hc', hq⟩ := hq
    exact cwp_ok hL y ho.2 hc' hq
  | .cond c x y, Q, E, a, w, ho, hc, h => by
    simp only [codeOk, Bool.and_eq_true] at ho
    simp only [cwp_cond] at h
    split at h
    · rename_i b hb
      have he : a.eval c = .bool b := ev_ok (fun t _ v hg => hc.getD hg) hb
      rcases h.h with ⟨h1, h2⟩ | ⟨σ, env, I, h1, h2, h3⟩
      · exact wp_cond_split he (fun e => cwp_ok hL x ho.1 hc (h1 e)) (fun e => cwp_ok hL y ho.2 hc (h2 e))
      · have conv : ∀ e a w, liftQ n (cutQ env I Q) e a w → liftQ n Q e a w := by
          intro e a w hq
          cases e <;> first | exact hq | skip
          obtain ⟨E', hc', s, hs, hI⟩ := hq
          exact ⟨env s, hc'.sub hs, h3 s w hI⟩
        exact wp_cond_split he (fun e => wp_mono (cwp_ok hL x ho.1 hc (h1 e)) conv) (fun e => wp_mono (cwp_ok hL y ho.2 hc (h2 e)) conv)
    · exact h.elim
  | .block id c, Q, E, a, w, ho, hc, h => by
    refine wp_block (wp_mono (cwp_ok hL c ho hc h) ?_)
    intro e a' w' hq
    cases e <;> first | exact hq | skip
    rename_i i
    obtain ⟨E', hc', hq⟩ := hq
    simp only [Exit.inBlock]
    by_cases hi : i = id
    · subst hi
      simp only [Nat.beq_refl, cond_true] at hq
      rw [if_pos rfl]
      exact ⟨E', hc', hq⟩
    · have hb : Nat.beq i id = false := by cases hb : Nat.beq i id with | false => rfl | true => exact absurd (Nat.eq_of_beq_eq_true hb) hi
      simp only [hb, cond_false] at hq
      rw [if_neg hi]
      exact ⟨E', hc', hq⟩
  | .loop c, Q, E, a, w, ho, hc, h => by
    obtain ⟨σ, env, I, μ, s, h1, h2, h3⟩ := LoopW.h h
    intro b k cs
    have key : ∀ m s a w, μ s w = m → I s w → Cov n (env s) a →
        ∃ e a' w', liftQ n Q e a' w' ∧ Arrives P (lone (b.at a (.code c :: .inLoop c :: k)) cs w) b k cs e a' w' := by
      intro m
      induction m using Nat.strongRecOn with
      | _ m ih =>
        intro s a w hm hI hcs
        obtain ⟨e, a₁, w₁, hq, harr⟩ := cwp_ok hL c ho hcs (h3 s w hI) b (.inLoop c :: k) cs
        cases e with
        | normal =>
          obtain ⟨E', hc', s', hsub, hI', hlt⟩ := hq
          obtain ⟨e₂, a₂, w₂, hq₂, harr₂⟩ := ih (μ s' w₁) (hm ▸ hlt) s' a₁ w₁ rfl hI' (hc'.sub hsub)
          exact ⟨e₂, a₂, w₂, hq₂, .of_steps (Steps.trans harr (.one step_inLoop)) harr₂⟩
        | exit id => exact ⟨.exit id, a₁, w₁, hq, .pass (x := .inLoop c) rfl (fun _ _ => .inl (by simp)) harr⟩
        | goto l => exact hq.elim
        | ret => exact ⟨.ret, a₁, w₁, hq, .pass (x := .inLoop c) rfl (fun _ _ => .inl (by simp)) harr⟩
        | panic ch => exact hq.elim
        | outgrown => exact hq.elim
    obtain ⟨e, a', w', hq, harr⟩ := key _ s a w rfl h2 (hc.sub h1)
    exact ⟨e, a', w', hq, .of_steps (.one step_loop) harr⟩
  | .rangeFunc .., _, _, _, _, _, _, h => h.elim
  | .scope _, _, _, _, _, _, _, h => h.elim
  | .goto _, _, _, _, _, _, _, h => h.elim
  | .refuse _, _, _, _, _, _, _, h => h.elim

/-! ### A call -/
def resL (L : Lay) (w : World) : List ResultVar → Env → (List Value → Prop) → Prop
  | [], _, K => K []
  | .tmp t :: r, E, K => match get E t with
    | some v => resL L w r E fun vs => K (v :: vs)
    | none => False
  | .cell a ty :: r, E, K => match get E a with
    | some (.pointer (some ad)) => match L.sh ty with
      | some none => Load1 w ad fun v => resL L w r E fun vs => K (v :: vs)
      | some (some k) => LoadN w ad k fun v => resL L w r E fun vs => K (v :: vs)
      | none => False
    | _ => False
def one : List Value → Value
  | [v] => v
  | vs => .tuple vs.toArray
def endQ (L : Lay) (fn : Func) (R : Value → World → Prop) : Ex → Env → World → Prop
  | .exit _, _, _ => False
  | .normal, E, w => resL L w fn.results.toList E fun vs => R (one vs) w
  | .ret, E, w => resL L w fn.results.toList E fun vs => R (one vs) w
def enum : Nat → List Value → Env
  | _, [] => []
  | i, v :: r => (i, v) :: enum (i + 1) r
theorem get_enum : ∀ (vs : List Value) (i t : Nat) (v : Value), get (enum i vs) t = some v → i ≤ t ∧ vs[t - i]? = some v
  | [], i, t, v, h => by simp [enum, get] at h
  | u :: r, i, t, v, h => by
    simp only [enum, get_cons] at h
    split at h
    · rename_i e; subst e; simp only [Option.some.injEq] at h; subst h; simp
    · rename_i hne
      obtain ⟨h1, h2⟩ := get_enum r (i + 1) t v h
      refine ⟨by omega, ?_⟩
      rw [show t - i = (t - (i + 1)) + 1 by omega, List.getElem?_cons_succ]
      exact h2
def rvS (a : Act) : ResultVar → Sem Value
  | .tmp t => pure (a.tmps.getD t undef)
  | .cell c t => do loadVar t (← asAddr (a.tmps.getD c undef))
theorem res_ok (hL : LayOk P L) {n : Nat} {E : Env} {a : Act} (hc : Cov n E a) {w : World} : ∀ {rs : List ResultVar} {K : List Value → Prop}, resL L w rs E K →
    ∃ vs, (rs.mapM (rvS a)).run P w = .ok vs w ∧ K vs
  | [], K, h => ⟨[], rfl, h⟩
  | .tmp t :: r, K, h => by
    simp only [resL] at h
    split at h
    · rename_i v hv
      obtain ⟨vs, h1, h2⟩ := res_ok hL hc (K := fun vs => K (v :: vs)) h
      refine ⟨v :: vs, ?_, h2⟩
      simp only [List.mapM_cons, rvS, Sem.run_bind, Sem.run_pure, Result.andThen_ok, hc.getD hv, h1]
    · exact h.elim
  | .cell c t :: r, K, h => by
    simp only [resL] at h
    split at h
    · rename_i ad hv
      split at h
      · rename_i hs
        obtain ⟨v, h1, h2⟩ := load1_ok hL hs h
        obtain ⟨vs, h3, h4⟩ := res_ok hL hc (K := fun vs => K (v :: vs)) h2
        refine ⟨v :: vs, ?_, h4⟩
        have h5 : (loadVar t ad).run P w = .ok v w := by simpa [Instr.loadAt, Instr.sureAddr] using h1
        simp only [List.mapM_cons, rvS, Sem.run_bind, Sem.run_pure, Result.andThen_ok, hc.getD hv, asAddr, h5, h3]
      · rename_i k hs
        obtain ⟨v, h1, h2⟩ := loadN_ok hL hs h
        obtain ⟨vs, h3, h4⟩ := res_ok hL hc (K := fun vs => K (v :: vs)) h2
        refine ⟨v :: vs, ?_, h4⟩
        have h5 : (loadVar t ad).run P w = .ok v w := by simpa [Instr.loadAt, Instr.sureAddr] using h1
        simp only [List.mapM_cons, rvS, Sem.run_bind, Sem.run_pure, Result.andThen_ok, hc.getD hv, asAddr, h5, h3]
      · exact h.elim
    · exact h.elim
theorem results_ok (hL : LayOk P L) {n : Nat} {E : Env} {a : Act} (hc : Cov n E a) {fn : Func} {w : World} {R : Value → World → Prop} (h : resL L w fn.results.toList E fun vs => R (one vs) w) : ∃ v, (results fn a.tmps).run P w = .ok v w ∧ R v w := by
  obtain ⟨vs, h1, h2⟩ := res_ok hL hc h
  refine ⟨_, ?_, h2⟩
  have e : fn.results = fn.results.toList.toArray := by simp
  have e2 : results fn a.tmps = (do let vs ← fn.results.mapM (rvS a); pure (if h : vs.size = 1 then vs[0] else .tuple vs)) := rfl
  rw [e2, e, List.mapM_toArray]
  simp only [Sem.run_bind, Sem.run_map, h1]
  simp only [Result.andThen_ok, Sem.run_pure]
  congr 1
  match vs with
  | [] => rfl
  | [v] => rfl
  | u :: v :: r => rw [dif_neg (by simp)]; rfl
/-- What a call comes to. -/
def CallV (P : Program) (f : FuncId) (args : List Value) (w : World) (R : Value → World → Prop) : Prop := Calls P f args.toArray w fun e w' => ∃ v, e = .returned v ∧ R v w'
/-- A call that a contract tells. -/
theorem call {f : FuncId} {args : List Value} {w : World} {R K : Value → World → Prop} (h : CallV P f args w R) (k : ∀ v w', R v w' → K v w') : CallW P f args w K :=
  ⟨h.mono (by rintro _ _ ⟨v, rfl, h⟩; exact ⟨v, rfl, k v _ h⟩)⟩
theorem CallV.imp {f : FuncId} {args : List Value} {w : World} {R K : Value → World → Prop} (h : CallV P f args w R) (k : ∀ v w', R v w' → K v w') : CallV P f args w K :=
  h.mono (by rintro _ _ ⟨v, rfl, h⟩; exact ⟨v, rfl, k v _ h⟩)
/-- A FUNCTION's CONTRACT, BY ITS CODE. -/
theorem calls_of (hL : LayOk P L) {f : FuncId} {fn : Func} {c : Code} {args : List Value} {w : World} {R : Value → World → Prop} (hf : P.funcs[f]? = some fn) (hb : fn.body = some c) (ho : (Nat.ble args.length fn.ntmps && codeOk fn.ntmps c) = true)
    (h : cwp P L c (endQ L fn R) (enum 0 args) w) : CallV P f args w R := by
  simp only [Bool.and_eq_true] at ho
  have hn : args.length ≤ fn.ntmps := by simpa using ho.1
  refine calls_of_wp hf hb (wp_mono (cwp_ok hL (n := fn.ntmps) c ho.2 ?_ h) ?_)
  · refine ⟨by simp; omega, rfl, fun t v hv => ?_⟩
    obtain ⟨_, h2⟩ := get_enum args 0 t v hv
    simp only [Nat.sub_zero] at h2
    have hlt : t < args.length := (List.getElem?_eq_some_iff.1 h2).1
    rw [Array.getElem?_append_left (by simpa using hlt)]
    simpa using h2
  · intro e a' w' hq
    cases e <;> first | exact hq.elim | skip
    · obtain ⟨E', hc', hq⟩ := hq
      obtain ⟨v, h1, h2⟩ := results_ok hL hc' hq
      exact ⟨hc'.defers, v, h1, v, rfl, h2⟩
    · obtain ⟨E', hc', hq⟩ := hq
      exact hq.elim
    · obtain ⟨E', hc', hq⟩ := hq
      obtain ⟨v, h1, h2⟩ := results_ok hL hc' hq
      exact ⟨hc'.defers, v, h1, v, rfl, h2⟩
end
end Go.Proofs.YtffjccofglikhaaGreat
