/-
  A region that draws its order, by a tree of plans: where two effects wait for none of each other both orders are shown.
-/
import Derived.Test.YtffjccofglikhaaGreatPlan
namespace Go.Proofs.YtffjccofglikhaaGreat
open Go Go.RowKit

inductive PT where
  | nil
  | op (i : Nat) (rc : List Nat) (t : PT)
  | br (a b : PT)
noncomputable def pwpT (P : Program) (L : Lay) (ops : List Oper) (t : PT) (Q : Env → World → Prop) (E : Env) (w : World) : Prop :=
  @PT.rec (fun _ => (Env → World → Prop) → Env → World → Prop) (fun Q E w => Q E w)
    (fun i rc _ ih Q E w => match ops[i]? with
    | some o => gw ops o E (owp P L o.type o.op E w fun v w' => rchk P L ops E w' (bsp (isG ops i) v fun v => ih Q (putE o.dst v E) w') rc) (ih Q (putE o.dst undef E) w)
    | none => False)
    (fun _ _ iha ihb Q E w => iha Q E w ∧ ihb Q E w) t Q E w
theorem pwpT_op (P : Program) (L : Lay) (ops : List Oper) (i : Nat) (rc : List Nat) (r : PT) (Q : Env → World → Prop) (E : Env) (w : World) : pwpT P L ops (.op i rc r) Q E w = match ops[i]? with
    | some o => gw ops o E (owp P L o.type o.op E w fun v w' => rchk P L ops E w' (bsp (isG ops i) v fun v => pwpT P L ops r Q (putE o.dst v E) w') rc) (pwpT P L ops r Q (putE o.dst undef E) w)
    | none => False := rfl
def heads : PT → List Nat
  | .nil => []
  | .op i _ _ => [i]
  | .br a b => heads a ++ heads b
def effHead (L : Lay) (ops : List Oper) : PT → Bool
  | .nil => false
  | .op i _ _ => match ops[i]? with
    | some o => isE L o.op
    | none => false
  | .br a b => effHead L ops a && effHead L ops b
def headOk (ops : List Oper) (done hs : List Nat) : Bool := (List.range ops.length).all fun i => memN i done || memN i hs || hs.any fun h => anc ops i h
def planGoT (L : Lay) (ops : List Oper) (done : List Nat) (chk : Bool) : PT → Bool
  | .nil => (List.range ops.length).all fun i => memN i done
  | .op i rc r => match ops[i]? with
    | none => false
    | some o => (predsO o).all (memN · done) && !memN i done &&
      (done.all fun k => match ops[k]? with
        | none => false
        | some ok => bif isE L ok.op then true else (!(isE L o.op) || !(isRd L ok.op) || (isAl o.op && isLd ok.op) || anc ops i k || memN k rc)) &&
      (isE L o.op || rc.isEmpty) && (!(isE L o.op) || chk || headOk ops done [i]) && planGoT L ops (i :: done) false r
  | .br a b => effHead L ops a && effHead L ops b && (chk || headOk ops done (heads a ++ heads b)) && planGoT L ops done true a && planGoT L ops done true b
def planOkT (L : Lay) (ops : List Oper) (t : PT) : Bool := apartOk L ops && planGoT L ops [] false t

section
variable {P : Program} {L : Lay}
theorem goT_ok {ops : List Oper} {done : List Nat} {chk : Bool} {i : Nat} {rc : List Nat} {r : PT} (h : planGoT L ops done chk (.op i rc r) = true) :
    ∃ o, ops[i]? = some o ∧ (∀ p ∈ predsO o, p ∈ done) ∧ i ∉ done ∧
      (∀ k ∈ done, ∀ ok, ops[k]? = some ok → isE L ok.op = false → isE L o.op = true → isRd L ok.op = true → (isAl o.op = true ∧ isLd ok.op = true) ∨ anc ops i k = true ∨ k ∈ rc) ∧
      (isE L o.op = false → rc = []) ∧ (isE L o.op = true → chk = false → headOk ops done [i] = true) ∧ planGoT L ops (i :: done) false r = true := by
  unfold planGoT at h
  cases ho : ops[i]? with
  | none => rw [ho] at h; cases h
  | some o =>
    rw [ho] at h
    simp only [Bool.and_eq_true, Bool.not_eq_true'] at h
    obtain ⟨⟨⟨⟨⟨h1, h2⟩, h3⟩, h4⟩, h6⟩, h5⟩ := h
    refine ⟨o, rfl, fun p hp => memN_iff.1 (List.all_eq_true.1 h1 p hp), fun hm => ?_, fun k hk ok hok hE hEo hR => ?_, fun hE => ?_, fun hE hc => ?_, h5⟩
    · rw [memN_iff.2 hm] at h2; cases h2
    · have := List.all_eq_true.1 h3 k hk
      rw [hok] at this
      simp only [hE, hEo, hR, cond_false, Bool.not_true, Bool.false_or, Bool.or_eq_true, Bool.and_eq_true] at this
      rcases this with (h | h) | h
      · exact .inl h
      · exact .inr (.inl h)
      · exact .inr (.inr (memN_iff.1 h))
    · rw [hE] at h4
      simpa using h4
    · rw [hE, hc] at h6
      simpa using h6
/-- Each of the heads is an effect that is not done; what stands behind it. -/
theorem headsT {ops : List Oper} {done : List Nat} {Q : Env → World → Prop} {E : Env} {w : World} {i : Nat} : ∀ (t : PT) (chk : Bool), effHead L ops t = true → planGoT L ops done chk t = true → i ∈ heads t →
    (∃ o, ops[i]? = some o ∧ isE L o.op = true) ∧ i ∉ done ∧ (pwpT P L ops t Q E w → ∃ chk rc r, planGoT L ops done chk (.op i rc r) = true ∧ pwpT P L ops (.op i rc r) Q E w)
  | .nil, _, h, _, _ => by cases h
  | .op j rc r, chk, h, hg, hi => by
    simp only [heads, List.mem_singleton] at hi
    subst hi
    obtain ⟨o, ho, _, hn, _⟩ := goT_ok hg
    refine ⟨⟨o, ho, ?_⟩, hn, fun hp => ⟨chk, rc, r, hg, hp⟩⟩
    unfold effHead at h
    rw [ho] at h
    exact h
  | .br a b, chk, h, hg, hi => by
    unfold planGoT at hg
    simp only [Bool.and_eq_true] at hg
    obtain ⟨⟨⟨⟨ea, eb⟩, _⟩, ga⟩, gb⟩ := hg
    simp only [heads, List.mem_append] at hi
    rcases hi with hi | hi
    · obtain ⟨h1, h2, h3⟩ := headsT a true ea ga hi
      exact ⟨h1, h2, fun hp => h3 hp.1⟩
    · obtain ⟨h1, h2, h3⟩ := headsT b true eb gb hi
      exact ⟨h1, h2, fun hp => h3 hp.2⟩
theorem headOkT {ops : List Oper} {done : List Nat} : ∀ (t : PT), effHead L ops t = true → planGoT L ops done false t = true → headOk ops done (heads t) = true
  | .nil, h, _ => by cases h
  | .op i rc r, h, hg => by
    obtain ⟨o, ho, _, _, _, _, h6, _⟩ := goT_ok hg
    unfold effHead at h
    rw [ho] at h
    exact h6 h rfl
  | .br a b, h, hg => by
    unfold planGoT at hg
    simp only [Bool.and_eq_true, Bool.false_or] at hg
    exact hg.1.1.2
theorem headOk_use {ops : List Oper} {done hs : List Nat} (h : headOk ops done hs = true) {i : Nat} (hi : i < ops.length) : i ∈ done ∨ i ∈ hs ∨ ∃ k ∈ hs, anc ops i k = true := by
  have := List.all_eq_true.1 h i (List.mem_range.2 hi)
  simp only [Bool.or_eq_true, List.any_eq_true] at this
  rcases this with (h | h) | h
  · exact .inl (memN_iff.1 h)
  · exact .inr (.inl (memN_iff.1 h))
  · exact .inr (.inr h)
theorem heads_ne {ops : List Oper} : ∀ (t : PT), effHead L ops t = true → ∃ i, i ∈ heads t
  | .nil, h => by cases h
  | .op i _ _, _ => ⟨i, by simp [heads]⟩
  | .br a b, h => by
    unfold effHead at h
    simp only [Bool.and_eq_true] at h
    obtain ⟨i, hi⟩ := heads_ne a h.1
    exact ⟨i, by simp [heads, hi]⟩

structure InvT (P : Program) (L : Lay) (n : Nat) (ops : List Oper) (Q : Env → World → Prop) (done : List Nat) (rest : PT) (listed : Array Bool) (E : Env) (a : Act) (w : World) : Prop where
  size : listed.size = ops.length
  go : planGoT L ops done false rest = true
  form : pwpT P L ops rest Q E w
  sub : ∀ i, On listed i → i ∈ done
  eff : ∀ i ∈ done, ∀ o, ops[i]? = some o → isE L o.op = true → On listed i
  dcl : Closed ops (· ∈ done)
  lcl : Closed ops (On listed)
  sz : a.tmps.size = n
  df : a.defers = []
  cov : ∀ t v, get E t = some v → (∀ i ∈ done, ¬ On listed i → ∀ o, ops[i]? = some o → o.dst ≠ some t) → a.tmps[t]? = some v
  pend : ∀ i ∈ done, ¬ On listed i → ∀ o, ops[i]? = some o → ∃ d v, o.dst = some d ∧ get E d = some v ∧ gw ops o E (Val P L o.type o.op E w v) (v = undef)


/-- Whatever neither makes nor turns memory is looked at as soon as it may be. -/
theorem saturateT {n : Nat} {ops : List Oper} {Q : Env → World → Prop} (hA : apartOk L ops = true) {listed : Array Bool} {a : Act} {w : World} : ∀ (rest : PT) (done : List Nat) (E : Env), InvT P L n ops Q done rest listed E a w →
    ∃ done' rest' E', InvT P L n ops Q done' rest' listed E' a w ∧ (rest' = .nil ∨ effHead L ops rest' = true)
  | .nil, done, E, h => ⟨done, .nil, E, h, .inl rfl⟩
  | .br x y, done, E, h => ⟨done, .br x y, E, h, .inr (by
    have := h.go
    unfold planGoT at this
    simp only [Bool.and_eq_true] at this
    unfold effHead
    rw [this.1.1.1.1, this.1.1.1.2]; rfl)⟩
  | .op i rc r, done, E, h => by
    obtain ⟨o, ho, hpre, hnd, _, hrc, _, hgo⟩ := goT_ok h.go
    cases hE : isE L o.op with
    | true => exact ⟨done, _, E, h, .inr (by unfold effHead; rw [ho]; exact hE)⟩
    | false =>
      have hrc0 := hrc hE
      subst hrc0
      obtain ⟨hpl, hdst, hap⟩ := apart_ok hA ho
      obtain ⟨d, hd, hdl⟩ := hdst hE
      have hf := h.form
      simp only [pwpT_op, ho] at hf
      have hnl : ¬ On listed i := fun hl => hnd (h.sub i hl)
      have key : ∃ v, pwpT P L ops r Q (putE o.dst v E) w ∧ gw ops o E (Val P L o.type o.op E w v) (v = undef) := by
        rcases gw_ex hf with ⟨h1, h2⟩ | ⟨h1, h2⟩
        · obtain ⟨v, h3, h4⟩ := owp_ex hE h1
          exact ⟨v, bsp_ok (show bsp (isG ops i) v (fun v => pwpT P L ops r Q (putE o.dst v E) w) from h3), h2 _ _ (h4 _ ⟨rfl, rfl⟩)⟩
        · exact ⟨undef, h1, h2 _ _ rfl⟩
      obtain ⟨v, hform, hgv⟩ := key
      rw [hd] at hform
      simp only [putE] at hform
      have hsame : ∀ j ∈ done, ∀ oj, ops[j]? = some oj → ∀ t, (t ∈ looks ops oj ∨ oj.dst = some t) → t ≠ d := by
        intro j hj oj hoj t ht htd
        subst htd
        have hij : j ≠ i := fun e => hnd (e ▸ hj)
        rcases hap t hd j oj hij hoj ht with h1 | ⟨h1, _⟩
        · exact hnd (anc_mem h1 h.dcl fun o' ho' p hp => h.dcl j hj o' ho' p hp)
        · rw [hE] at h1; cases h1
      refine saturateT hA r (i :: done) ((d, v) :: E) ⟨h.size, hgo, hform, fun j hj => List.mem_cons_of_mem _ (h.sub j hj), ?_, ?_, h.lcl, h.sz, h.df, ?_, ?_⟩
      · intro j hj oj hoj hEj
        rcases List.mem_cons.1 hj with rfl | hj
        · rw [ho] at hoj; simp only [Option.some.injEq] at hoj; subst hoj; rw [hE] at hEj; cases hEj
        · exact h.eff j hj oj hoj hEj
      · intro j hj oj hoj p hp
        rcases List.mem_cons.1 hj with rfl | hj
        · rw [ho] at hoj; simp only [Option.some.injEq] at hoj; subst hoj; exact List.mem_cons_of_mem _ (hpre p hp)
        · exact List.mem_cons_of_mem _ (h.dcl j hj oj hoj p hp)
      · intro t u hu hp
        have hne : d ≠ t := fun e => hp i (by simp) hnl o ho (by rw [hd, e])
        rw [get_put_ne hne] at hu
        exact h.cov t u hu fun j hj hjl oj hoj => hp j (List.mem_cons_of_mem _ hj) hjl oj hoj
      · intro j hj hjl oj hoj
        rcases List.mem_cons.1 hj with rfl | hj
        · rw [ho] at hoj
          simp only [Option.some.injEq] at hoj
          subst hoj
          have he : ∀ t ∈ looks ops o, get E t = get ((d, v) :: E) t := fun t ht => (get_put_ne (fun (e : d = t) => hdl (by rw [e]; exact ht)) v E).symm
          refine ⟨d, v, hd, get_put_eq d v E, ?_⟩
          rw [← gw_eq he, ← Val_eq he]
          exact hgv
        · obtain ⟨d', v', h1, h2, h3⟩ := h.pend j hj hjl oj hoj
          have he : ∀ t ∈ looks ops oj, get E t = get ((d, v) :: E) t := fun t ht => (get_put_ne (fun e => hsame j hj oj hoj t (.inl ht) e.symm) v E).symm
          refine ⟨d', v', h1, ?_, ?_⟩
          · rw [get_put_ne (fun e => hsame j hj oj hoj d' (.inr h1) e.symm)]; exact h2
          · rw [← gw_eq he, ← Val_eq he]
            exact h3


/-- The frame, but for the slots of what is still to come. -/
theorem InvT.cov' {n : Nat} {ops : List Oper} {Q : Env → World → Prop} {done : List Nat} {rest : PT} {listed : Array Bool} {E : Env} {a : Act} {w : World} (h : InvT P L n ops Q done rest listed E a w) {T : List Nat} (hT : ∀ t ∈ T, ∀ i ∈ done, ¬ On listed i → ∀ o, ops[i]? = some o → o.dst ≠ some t) :
    ∃ E', Cov n E' a ∧ ∀ t ∈ T, get E t = get E' t := by
  refine ⟨E.filter fun q => memN q.1 T, ⟨h.sz, h.df, fun t v hv => ?_⟩, fun t ht => ?_⟩
  · rw [get_filter (fun t => memN t T)] at hv
    split at hv
    · rename_i hm; exact h.cov t v hv (hT t (memN_iff.1 hm))
    · cases hv
  · rw [get_filter (fun t => memN t T), if_pos (memN_iff.2 ht)]
/-- At the end. -/
theorem finT_ok {n : Nat} {ops : List Oper} {Q : Env → World → Prop} {R : Exit → Act → World → Prop} (hQ : ∀ E a w, Cov n E a → Q E w → R .normal a w) (hA : apartOk L ops = true) {done : List Nat} {rest : PT} {listed : Array Bool} {E : Env} {a : Act} {w : World} (h : InvT P L n ops Q done rest listed E a w) (hr : Region.ready .any ops.toArray listed = []) : R .normal a w := by
  have hall : ∀ i, i < ops.length → On listed i := by
    intro i
    induction i using Nat.strongRecOn with
    | _ i ih =>
      intro hi
      refine Classical.byContradiction fun hn => ?_
      have ho : ops[i]? = some ops[i] := List.getElem?_eq_getElem hi
      have : i ∈ Region.ready .any ops.toArray listed := (ready_iff h.size).2 ⟨hn, _, ho, fun p hp => ih p ((apart_ok hA ho).1 p hp) (Nat.lt_trans ((apart_ok hA ho).1 p hp) hi)⟩
      rw [hr] at this
      cases this
  have hrest : rest = .nil := by
    cases rest with
    | nil => rfl
    | op i rc r =>
      obtain ⟨o, ho, _, hnd, _⟩ := goT_ok h.go
      exact (hnd (h.sub i (hall i (List.getElem?_eq_some_iff.1 ho).1))).elim
    | br x y =>
      have he : effHead L ops (.br x y) = true := by
        have := h.go
        unfold planGoT at this
        simp only [Bool.and_eq_true] at this
        unfold effHead
        rw [this.1.1.1.1, this.1.1.1.2]; rfl
      obtain ⟨i, hi⟩ := heads_ne _ he
      obtain ⟨⟨o, ho, _⟩, hn, _⟩ := headsT (P := P) (Q := Q) (E := E) (w := w) _ false he h.go hi
      exact (hn (h.sub i (hall i (List.getElem?_eq_some_iff.1 ho).1))).elim
  subst hrest
  refine hQ E a w ⟨h.sz, h.df, fun t v hv => h.cov t v hv fun i _ hn o ho => (hn (hall i (List.getElem?_eq_some_iff.1 ho).1)).elim⟩ h.form

/-- One step of whatever order the machine takes. -/
theorem stepT_ok (hL : LayOk P L) {n : Nat} {ops : List Oper} {Q : Env → World → Prop} {R : Exit → Act → World → Prop} (hA : apartOk L ops = true) (hd : dstOk n ops = true) {done : List Nat} {rest : PT} {listed : Array Bool} {E : Env} {a : Act} {w : World}
    (h : InvT P L n ops Q done rest listed E a w) (hs : rest = .nil ∨ effHead L ops rest = true) {i : Nat} (hr : i ∈ Region.ready .any ops.toArray listed) {K : Act → World → Prop}
    (hK : ∀ done' rest' E' a' w', InvT P L n ops Q done' rest' (listed.setIfInBounds i true) E' a' w' → K a' w') : wpOp P ops.toArray R i K a w := by
  obtain ⟨hnl, o, ho, hpre⟩ := (ready_iff h.size).1 hr
  have hlt : i < listed.size := by rw [h.size]; exact (List.getElem?_eq_some_iff.1 ho).1
  have hanc : ∀ k, anc ops i k = true → On listed k := fun k hk => anc_mem hk h.lcl fun o' ho' p hp => by rw [ho] at ho'; simp only [Option.some.injEq] at ho'; subst ho'; exact hpre p hp
  have hdo : ∀ t, o.dst = some t → t < n := dst_lt hd (List.mem_of_getElem? ho)
  have hlook : ∀ t ∈ looks ops o, ∀ k ∈ done, ¬ On listed k → ∀ ok, ops[k]? = some ok → ok.dst ≠ some t := by
    intro t ht k hk hkl ok hok hkt
    by_cases hki : k = i
    · subst hki
      rw [ho] at hok
      simp only [Option.some.injEq] at hok
      subst hok
      cases hE : isE L o.op with
      | true => exact hkl (h.eff k hk o ho hE)
      | false =>
        obtain ⟨d, hd', hdl⟩ := (apart_ok hA ho).2.1 hE
        rw [hd'] at hkt
        simp only [Option.some.injEq] at hkt
        subst hkt
        exact hdl ht
    · rcases (apart_ok hA hok).2.2 t hkt i o (Ne.symm hki) ho (.inl ht) with h1 | ⟨h1, _⟩
      · exact hkl (hanc k h1)
      · exact hkl (h.eff k hk ok hok h1)
  obtain ⟨E0, hc0, he0⟩ := h.cov' hlook
  have hcl : Closed ops (On (listed.setIfInBounds i true)) := by
    intro j hj oj hoj p hp
    rcases (On_set hlt).1 hj with rfl | hj
    · rw [ho] at hoj; simp only [Option.some.injEq] at hoj; subst hoj; exact (On_set hlt).2 (.inr (hpre p hp))
    · exact (On_set hlt).2 (.inr (h.lcl j hj oj hoj p hp))
  have hop : ops.toArray[i]? = some o := by simpa using ho
  unfold wpOp
  rw [hop]
  simp only
  cases hE : isE L o.op with
  | false =>
    have hid : i ∈ done := by
      rcases hs with rfl | hs
      · have := h.go
        unfold planGoT at this
        exact memN_iff.1 (List.all_eq_true.1 this i (List.mem_range.2 (List.getElem?_eq_some_iff.1 ho).1))
      · rcases headOk_use (headOkT _ hs h.go) (List.getElem?_eq_some_iff.1 ho).1 with h1 | h1 | ⟨k, hk, h1⟩
        · exact h1
        · obtain ⟨⟨o', ho', hE'⟩, _⟩ := headsT (P := P) (Q := Q) (E := E) (w := w) _ false hs h.go h1
          rw [ho] at ho'; simp only [Option.some.injEq] at ho'; subst ho'; rw [hE] at hE'; cases hE'
        · obtain ⟨_, hn, _⟩ := headsT (P := P) (Q := Q) (E := E) (w := w) _ false hs h.go hk
          exact (hn (h.sub k (hanc k h1))).elim
    obtain ⟨d, v, hdst, hgv, hgw⟩ := h.pend i hid hnl o ho
    have hnew : InvT P L n ops Q done rest (listed.setIfInBounds i true) E (a.put o.dst v) w := by
      refine ⟨by simp [h.size], h.go, h.form, fun j hj => ?_, fun j hj oj hoj hEj => (On_set hlt).2 (.inr (h.eff j hj oj hoj hEj)), h.dcl, hcl, ?_, ?_, fun t u hu hp => ?_, fun j hj hjl oj hoj => h.pend j hj (fun hl => hjl ((On_set hlt).2 (.inr hl))) oj hoj⟩
      · rcases (On_set hlt).1 hj with rfl | hj
        · exact hid
        · exact h.sub j hj
      · rw [hdst]; simp [Act.put, h.sz]
      · rw [hdst]; simp [Act.put, h.df]
      · rw [hdst]
        simp only [Act.put, Array.getElem?_setIfInBounds]
        by_cases hdt : d = t
        · subst hdt
          rw [if_pos rfl, if_pos (by rw [h.sz]; exact hdo d hdst)]
          rw [hgv] at hu
          exact hu
        · rw [if_neg hdt]
          refine h.cov t u hu fun j hj hjl oj hoj => ?_
          by_cases hji : j = i
          · subst hji
            rw [ho] at hoj
            simp only [Option.some.injEq] at hoj
            subst hoj
            rw [hdst]
            simpa using hdt
          · exact hp j hj (fun hl => ((On_set hlt).1 hl).elim hji hjl) oj hoj
    rw [gw_eq he0, Val_eq he0] at hgw
    rcases gw_ok hc0 hgw with ⟨hw, hv⟩ | ⟨hw, hv⟩
    · simp only [hw, if_true]
      refine .inl (Upon.wp (Upon.mono ?_ (owp_ok hL (a := a) (fun t _ u hg => hc0.getD hg) hv)))
      rintro u w' ⟨rfl, rfl⟩
      exact hK _ _ _ _ _ hnew
    · simp only [hw, if_false, Bool.false_eq_true]
      subst hv
      exact hK _ _ _ _ _ hnew
  | true =>
    have hind : i ∉ done := fun hm => hnl (h.eff i hm o ho hE)
    have hs : effHead L ops rest = true := hs.resolve_left (by
      rintro rfl
      have := h.go
      unfold planGoT at this
      exact hind (memN_iff.1 (List.all_eq_true.1 this i (List.mem_range.2 (List.getElem?_eq_some_iff.1 ho).1))))
    have hih : i ∈ heads rest := by
      rcases headOk_use (headOkT _ hs h.go) (List.getElem?_eq_some_iff.1 ho).1 with h1 | h1 | ⟨k, hk, h1⟩
      · exact (hind h1).elim
      · exact h1
      · obtain ⟨_, hn, _⟩ := headsT (P := P) (Q := Q) (E := E) (w := w) _ false hs h.go hk
        exact (hn (h.sub k (hanc k h1))).elim
    obtain ⟨chk, rc, r, hgoi, hfi⟩ := (headsT (P := P) (Q := Q) (E := E) (w := w) _ false hs h.go hih).2.2 h.form
    obtain ⟨oe', hoe', hpree, hnde, hRd, _, _, hgo⟩ := goT_ok hgoi
    rw [ho] at hoe'
    simp only [Option.some.injEq] at hoe'
    subst hoe'
    obtain ⟨e, hei⟩ : ∃ e, e = i := ⟨i, rfl⟩
    subst hei
    have hsame : ∀ j ∈ done, ¬ On listed j → ∀ oj, ops[j]? = some oj → ∀ d, o.dst = some d → ∀ t, (t ∈ looks ops oj ∨ oj.dst = some t) → t ≠ d := by
      intro j hj hjl oj hoj d hdd t ht htd
      subst htd
      have hij : j ≠ e := fun e' => hind (e' ▸ hj)
      rcases (apart_ok hA ho).2.2 t hdd j oj hij hoj ht with h1 | ⟨_, h1⟩
      · exact hind (anc_mem h1 h.dcl fun o' ho' p hp => h.dcl j hj o' ho' p hp)
      · exact hjl (hanc j h1)
    have hnew : ∀ v w', pwpT P L ops r Q (putE o.dst v E) w' → (∀ j ∈ done, ¬ On listed j → ∀ oj, ops[j]? = some oj → ∀ d u, oj.dst = some d → get E d = some u → gw ops oj E (Val P L oj.type oj.op E w' u) (u = undef)) →
        InvT P L n ops Q (e :: done) r (listed.setIfInBounds e true) (putE o.dst v E) (a.put o.dst v) w' := by
      intro v w' hf hp'
      refine ⟨by simp [h.size], hgo, hf, fun j hj => ?_, fun j hj oj hoj hEj => ?_, ?_, hcl, ?_, ?_, fun t u hu hp => ?_, fun j hj hjl oj hoj => ?_⟩
      · rcases (On_set hlt).1 hj with rfl | hj
        · simp
        · exact List.mem_cons_of_mem _ (h.sub j hj)
      · rcases List.mem_cons.1 hj with rfl | hj
        · exact (On_set hlt).2 (.inl rfl)
        · exact (On_set hlt).2 (.inr (h.eff j hj oj hoj hEj))
      · intro j hj oj hoj p hp
        rcases List.mem_cons.1 hj with rfl | hj
        · rw [ho] at hoj; simp only [Option.some.injEq] at hoj; subst hoj; exact List.mem_cons_of_mem _ (hpree p hp)
        · exact List.mem_cons_of_mem _ (h.dcl j hj oj hoj p hp)
      · cases hdd : o.dst <;> simp [Act.put, h.sz]
      · cases hdd : o.dst <;> simp [Act.put, h.df]
      · have hpo : ∀ j ∈ done, ¬ On listed j → ∀ oj, ops[j]? = some oj → oj.dst ≠ some t := by
          intro j hj hjl oj hoj
          refine hp j (List.mem_cons_of_mem _ hj) (fun hl => ?_) oj hoj
          rcases (On_set hlt).1 hl with rfl | hl
          · exact hind hj
          · exact hjl hl
        cases hdd : o.dst with
        | none => rw [hdd] at hu; exact h.cov t u hu hpo
        | some d =>
          rw [hdd] at hu
          simp only [putE, get_cons] at hu
          simp only [Act.put, Array.getElem?_setIfInBounds]
          by_cases hdt : d = t
          · subst hdt
            rw [if_pos rfl] at hu ⊢
            rw [if_pos (by rw [h.sz]; exact hdo d hdd)]
            exact hu
          · rw [if_neg hdt] at hu ⊢
            exact h.cov t u hu hpo
      · rcases List.mem_cons.1 hj with rfl | hj
        · exact (hjl ((On_set hlt).2 (.inl rfl))).elim
        · have hjl' : ¬ On listed j := fun hl => hjl ((On_set hlt).2 (.inr hl))
          obtain ⟨d', u, h1, h2, _⟩ := h.pend j hj hjl' oj hoj
          have h3 := hp' j hj hjl' oj hoj d' u h1 h2
          have he : ∀ t, (t ∈ looks ops oj ∨ oj.dst = some t) → get E t = get (putE o.dst v E) t := by
            intro t ht
            cases hdd : o.dst with
            | none => rfl
            | some d => exact (get_put_ne (fun e' => hsame j hj hjl' oj hoj d hdd t ht e'.symm) v E).symm
          refine ⟨d', u, h1, by rw [← he d' (.inr h1)]; exact h2, ?_⟩
          rw [← gw_eq (fun t ht => he t (.inl ht)), ← Val_eq (fun t ht => he t (.inl ht))]
          exact h3
    have hf := hfi
    simp only [pwpT_op, ho] at hf
    have hf' : gw ops o E0 (owp P L o.type o.op E0 w fun v w' => rchk P L ops E w' (bsp (isG ops e) v fun v => pwpT P L ops r Q (putE o.dst v E) w') rc) (pwpT P L ops r Q (putE o.dst undef E) w) := by
      rw [← gw_eq he0, ← owp_eq (fun t ht => he0 t (looks_op ht))]
      exact hf
    rcases gw_ok hc0 hf' with ⟨hw, hv⟩ | ⟨hw, hv⟩
    · simp only [hw, if_true]
      refine .inl (Upon.wp ?_)
      cases hal : isAl o.op with
      | true =>
        -- a new block: what was loaded is there still
        have hal' : owp P L o.type o.op E0 w fun v w' => (∃ ob, w' = w.alloc ob) ∧ rchk P L ops E w' (bsp (isG ops e) v fun v => pwpT P L ops r Q (putE o.dst v E) w') rc := by
          exact owp_alloc hal hv
        refine Upon.mono ?_ (owp_ok hL (a := a) (fun t _ u hg => hc0.getD hg) hal')
        rintro v w' ⟨⟨ob, rfl⟩, hr'⟩
        obtain ⟨hk, hrc⟩ := rchk_ok hr'
        refine hK _ _ _ _ _ (hnew v _ (bsp_ok hk) ?_)
        intro j hj hjl oj hoj d u h1 h2
        obtain ⟨d0, u0, h1', h2', h3'⟩ := h.pend j hj hjl oj hoj
        rw [h1] at h1'
        simp only [Option.some.injEq] at h1'
        subst h1'
        rw [h2] at h2'
        simp only [Option.some.injEq] at h2'
        subst h2'
        have hEj : isE L oj.op = false := by cases hb : isE L oj.op with | false => rfl | true => exact (hjl (h.eff j hj oj hoj hb)).elim
        cases hRj : isRd L oj.op with
        | false =>
          rcases gw_ex h3' with ⟨h4, h5⟩ | ⟨h4, h5⟩
          · exact h5 _ _ (h4.any hEj hRj _)
          · exact h5 _ _ h4
        | true =>
          rcases hRd j hj oj hoj hEj hE hRj with ⟨_, h6⟩ | h6 | h6
          · rcases gw_ex h3' with ⟨h4, h5⟩ | ⟨h4, h5⟩
            · exact h5 _ _ (h4.alloc h6 ob)
            · exact h5 _ _ h4
          · exact (hjl (hanc j h6)).elim
          · rcases gw_ex h3' with ⟨_, h5⟩ | ⟨h4, h5⟩
            · have h7 := hrc j h6 oj hoj d u h1 h2
              rcases gw_ex h7 with ⟨h8, h9⟩ | ⟨h8, h9⟩
              · exact h9 _ _ h8
              · -- its guard says no: then it was nothing ahead, too
                have := h9 (Val P L oj.type oj.op E w u) (u = undef)
                rcases gw_ex h3' with ⟨h10, h11⟩ | ⟨h10, h11⟩
                · exact gw_swap h3' h7
                · exact h11 _ _ h10
            · exact h5 _ _ h4
      | false =>
        refine Upon.mono ?_ (owp_ok hL (a := a) (fun t _ u hg => hc0.getD hg) hv)
        intro v w' hr'
        obtain ⟨hk, hrc⟩ := rchk_ok hr'
        refine hK _ _ _ _ _ (hnew v _ (bsp_ok hk) ?_)
        intro j hj hjl oj hoj d u h1 h2
        obtain ⟨d0, u0, h1', h2', h3'⟩ := h.pend j hj hjl oj hoj
        rw [h1] at h1'
        simp only [Option.some.injEq] at h1'
        subst h1'
        rw [h2] at h2'
        simp only [Option.some.injEq] at h2'
        subst h2'
        have hEj : isE L oj.op = false := by cases hb : isE L oj.op with | false => rfl | true => exact (hjl (h.eff j hj oj hoj hb)).elim
        cases hRj : isRd L oj.op with
        | false =>
          rcases gw_ex h3' with ⟨h4, h5⟩ | ⟨h4, h5⟩
          · exact h5 _ _ (h4.any hEj hRj _)
          · exact h5 _ _ h4
        | true =>
          rcases hRd j hj oj hoj hEj hE hRj with ⟨h6, _⟩ | h6 | h6
          · rw [hal] at h6; cases h6
          · exact (hjl (hanc j h6)).elim
          · exact gw_swap h3' (hrc j h6 oj hoj d u h1 h2)
    · simp only [hw, if_false, Bool.false_eq_true]
      refine hK _ _ _ _ _ (hnew undef w hv ?_)
      intro j hj hjl oj hoj d u h1 h2
      obtain ⟨d0, u0, h1', h2', h3'⟩ := h.pend j hj hjl oj hoj
      rw [h1] at h1'
      simp only [Option.some.injEq] at h1'
      subst h1'
      rw [h2] at h2'
      simp only [Option.some.injEq] at h2'
      subst h2'
      exact h3'
theorem anyT_ok (hL : LayOk P L) {n : Nat} {ops : List Oper} {Q : Env → World → Prop} {R : Exit → Act → World → Prop} (hQ : ∀ E a w, Cov n E a → Q E w → R .normal a w) (hA : apartOk L ops = true) (hd : dstOk n ops = true) : ∀ (fuel : Nat) (done : List Nat) (rest : PT) (listed : Array Bool) (E : Env) (a : Act) (w : World),
    InvT P L n ops Q done rest listed E a w → listed.toList.count false ≤ fuel → wpAny P .any ops.toArray R fuel listed a w
  | 0, done, rest, listed, E, a, w, h, hc => by
    have hr : Region.ready .any ops.toArray listed = [] := by
      refine List.eq_nil_iff_forall_not_mem.2 fun i hi => ?_
      obtain ⟨hnl, o, ho, _⟩ := (ready_iff h.size).1 hi
      have := cnt_set (by rw [h.size]; exact (List.getElem?_eq_some_iff.1 ho).1) hnl
      omega
    exact ⟨hr, finT_ok hQ hA h hr⟩
  | fuel + 1, done, rest, listed, E, a, w, h, hc => by
    refine ⟨fun hr => finT_ok hQ hA h hr, fun i hi => ?_⟩
    obtain ⟨done', rest', E', h', hs⟩ := saturateT hA rest done E h
    refine stepT_ok hL hA hd h' hs hi fun d' r' E'' a' w' hn => ?_
    obtain ⟨hnl, o, ho, _⟩ := (ready_iff h.size).1 hi
    have := cnt_set (by rw [h.size]; exact (List.getElem?_eq_some_iff.1 ho).1) hnl
    exact anyT_ok hL hQ hA hd fuel d' r' _ E'' a' w' hn (by omega)
/-- THE REGION, by its plan. -/
theorem drawT_ok (hL : LayOk P L) {n id : Nat} {ops : Array Oper} {pl : PT} {Q : Env → World → Prop} {R : Exit → Act → World → Prop} (hQ : ∀ E a w, Cov n E a → Q E w → R .normal a w) (hp : planOkT L ops.toList pl = true) (hd : dstOk n ops.toList = true) {E : Env} {a : Act} {w : World} (hc : Cov n E a)
    (h : pwpT P L ops.toList pl Q E { w with drawn := w.drawn + 1 }) : (Code.region id ops true).wp P R a w := by
  simp only [planOkT, Bool.and_eq_true] at hp
  obtain ⟨h2, h3⟩ := hp
  refine wp_region_any hL.mixed ?_
  have hn : ∀ i, ¬ On (Array.replicate ops.size false) i := by
    intro i hi
    unfold On at hi
    rw [Array.getElem?_replicate] at hi
    split at hi <;> simp at hi
  have := anyT_ok hL (ops := ops.toList) hQ h2 hd ops.size [] pl (Array.replicate ops.size false) E a { w with drawn := w.drawn + 1 }
    ⟨by simp, h3, h, fun i hi => (hn i hi).elim, fun i hi => by simp at hi, fun i hi => by simp at hi, fun i hi => (hn i hi).elim, hc.size, hc.defers, fun t v hv _ => hc.get t v hv, fun i hi => by simp at hi⟩ (by simp)
  simpa using this
end
end Go.Proofs.YtffjccofglikhaaGreat
