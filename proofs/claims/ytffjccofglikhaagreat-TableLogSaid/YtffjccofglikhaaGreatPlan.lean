/-
  A region that draws its order, by one plan.
-/
import Derived.Test.YtffjccofglikhaaGreatDraw
namespace Go.Proofs.YtffjccofglikhaaGreat
open Go Go.RowKit

section
variable {P : Program} {L : Lay}
def On (listed : Array Bool) (i : Nat) : Prop := listed[i]? = some true
theorem looks_op {ops : List Oper} {o : Oper} {t : Nat} (h : Operand.tmp t ∈ o.op.operands.toList) : t ∈ looks ops o := by
  unfold looks
  refine List.mem_append_left _ ?_
  rw [List.mem_filterMap]
  exact ⟨_, h, rfl⟩
theorem yB_eq {ops : List Oper} {E E' : Env} {j : Nat} (h : ∀ o d, ops[j]? = some o → o.dst = some d → get E d = get E' d) : yB ops E j = yB ops E' j := by
  unfold yB
  cases ho : ops[j]? with
  | none => rfl
  | some o =>
    simp only
    cases hd : o.dst with
    | none => rfl
    | some d => simp only [h o d ho hd]
theorem gw_eq {ops : List Oper} {o : Oper} {E E' : Env} {y n : Prop} (h : ∀ t ∈ looks ops o, get E t = get E' t) : gw ops o E y n = gw ops o E' y n := by
  unfold gw
  cases hg : o.guard with
  | none => rfl
  | some q =>
    obtain ⟨j, want⟩ := q
    simp only
    rw [yB_eq (E := E) (E' := E') fun q d hq hd => h d (by unfold looks; refine List.mem_append_right _ ?_; simp [hg, hq, hd])]
theorem gw_ex {ops : List Oper} {o : Oper} {E : Env} {yes no : Prop} (h : gw ops o E yes no) : (yes ∧ ∀ y n : Prop, y → gw ops o E y n) ∨ (no ∧ ∀ y n : Prop, n → gw ops o E y n) := by
  unfold gw at *
  cases hg : o.guard with
  | none => rw [hg] at h; exact .inl ⟨h, fun y n hy => hy⟩
  | some q =>
    obtain ⟨j, want⟩ := q
    rw [hg] at h
    simp only at h ⊢
    cases hy : yB ops E j with
    | none => rw [hy] at h; exact h.elim
    | some b =>
      rw [hy] at h
      cases b with
      | none => exact .inr ⟨h, fun y n hy => hy⟩
      | some b =>
      cases b <;> cases want <;> simp only at h ⊢
      · exact .inl ⟨h, fun y n hy => hy⟩
      · exact .inr ⟨h, fun y n hy => hy⟩
      · exact .inr ⟨h, fun y n hy => hy⟩
      · exact .inl ⟨h, fun y n hy => hy⟩
theorem Val_eq {ops : List Oper} {o : Oper} {E E' : Env} {w : World} {v : Value} (h : ∀ t ∈ looks ops o, get E t = get E' t) : Val P L o.type o.op E w v = Val P L o.type o.op E' w v :=
  owp_eq (fun t ht => h t (looks_op ht)) w _
theorem apart_ok {ops : List Oper} (h : apartOk L ops = true) {k : Nat} {ok : Oper} (hk : ops[k]? = some ok) :
    (∀ p ∈ predsO ok, p < k) ∧ (isE L ok.op = false → ∃ d, ok.dst = some d ∧ d ∉ looks ops ok) ∧
    ∀ d, ok.dst = some d → ∀ i oi, i ≠ k → ops[i]? = some oi → (d ∈ looks ops oi ∨ oi.dst = some d) → anc ops i k = true ∨ (isE L ok.op = true ∧ anc ops k i = true) := by
  have hlt : k < ops.length := (List.getElem?_eq_some_iff.1 hk).1
  have h1 := List.all_eq_true.1 h k (List.mem_range.2 hlt)
  rw [hk] at h1
  simp only [Bool.and_eq_true] at h1
  obtain ⟨hp, h1⟩ := h1
  refine ⟨fun p hpm => by simpa using List.all_eq_true.1 hp p hpm, ?_, ?_⟩
  · intro hE
    cases hd : ok.dst with
    | none => rw [hd] at h1; simp only at h1; rw [hE] at h1; cases h1
    | some d =>
      rw [hd] at h1
      simp only [hE, Bool.false_or, Bool.and_eq_true, Bool.not_eq_true'] at h1
      refine ⟨d, rfl, fun hm => ?_⟩
      rw [memN_iff.2 hm] at h1
      cases h1.1
  · intro d hd i oi hik hi hc
    rw [hd] at h1
    simp only [Bool.and_eq_true] at h1
    have h2 := List.all_eq_true.1 h1.2 i (List.mem_range.2 (List.getElem?_eq_some_iff.1 hi).1)
    rw [hi] at h2
    have hb : Nat.beq i k = false := by cases hb : Nat.beq i k with | false => rfl | true => exact absurd (Nat.eq_of_beq_eq_true hb) hik
    have hm : (memN d (looks ops oi) || memN d oi.dst.toList) = true := by
      rcases hc with hc | hc
      · rw [memN_iff.2 hc]; rfl
      · rw [hc]; simp [memN]
    simp only [hb, hm, Bool.not_true, Bool.false_or, Bool.or_eq_true, Bool.and_eq_true] at h2
    exact h2
theorem go_ok {ops : List Oper} {done : List Nat} {i : Nat} {rc : List Nat} {r : List (Nat × List Nat)} (h : planGo L ops done ((i, rc) :: r) = true) :
    ∃ o, ops[i]? = some o ∧ (∀ p ∈ predsO o, p ∈ done) ∧ i ∉ done ∧ (∀ k ∈ done, ∀ ok, ops[k]? = some ok → isE L ok.op = true → anc ops i k = true) ∧
      (∀ k ∈ done, ∀ ok, ops[k]? = some ok → isE L ok.op = false → isE L o.op = true → isRd L ok.op = true → (isAl o.op = true ∧ isLd ok.op = true) ∨ anc ops i k = true ∨ k ∈ rc) ∧
      (isE L o.op = false → rc = []) ∧ planGo L ops (i :: done) r = true := by
  unfold planGo at h
  cases ho : ops[i]? with
  | none => rw [ho] at h; cases h
  | some o =>
    rw [ho] at h
    simp only [Bool.and_eq_true, Bool.not_eq_true'] at h
    obtain ⟨⟨⟨⟨h1, h2⟩, h3⟩, h4⟩, h5⟩ := h
    refine ⟨o, rfl, fun p hp => memN_iff.1 (List.all_eq_true.1 h1 p hp), fun hm => ?_, fun k hk ok hok hE => ?_, fun k hk ok hok hE hEo hR => ?_, fun hE => ?_, h5⟩
    · rw [memN_iff.2 hm] at h2; cases h2
    · have := List.all_eq_true.1 h3 k hk
      rw [hok] at this
      simpa [hE] using this
    · have := List.all_eq_true.1 h3 k hk
      rw [hok] at this
      simp only [hE, hEo, hR, cond_false, Bool.not_true, Bool.false_or, Bool.or_eq_true, Bool.and_eq_true] at this
      rcases this with (h | h) | h
      · exact .inl h
      · exact .inr (.inl h)
      · exact .inr (.inr (memN_iff.1 h))
    · rw [hE] at h4
      simpa using h4

structure Inv (P : Program) (L : Lay) (n : Nat) (ops : List Oper) (Q : Env → World → Prop) (done : List Nat) (rest : List (Nat × List Nat)) (listed : Array Bool) (E : Env) (a : Act) (w : World) : Prop where
  size : listed.size = ops.length
  go : planGo L ops done rest = true
  all : ∀ i, i < ops.length → i ∈ done ∨ i ∈ rest.map (·.1)
  form : pwp P L ops rest Q E w
  sub : ∀ i, On listed i → i ∈ done
  eff : ∀ i ∈ done, ∀ o, ops[i]? = some o → isE L o.op = true → On listed i
  dcl : Closed ops (· ∈ done)
  lcl : Closed ops (On listed)
  sz : a.tmps.size = n
  df : a.defers = []
  cov : ∀ t v, get E t = some v → (∀ i ∈ done, ¬ On listed i → ∀ o, ops[i]? = some o → o.dst ≠ some t) → a.tmps[t]? = some v
  pend : ∀ i ∈ done, ¬ On listed i → ∀ o, ops[i]? = some o → ∃ d v, o.dst = some d ∧ get E d = some v ∧ gw ops o E (Val P L o.type o.op E w v) (v = undef)

theorem get_put_ne {d t : Nat} (h : d ≠ t) (v : Value) (E : Env) : get ((d, v) :: E) t = get E t := by rw [get_cons, if_neg h]
theorem get_put_eq (d : Nat) (v : Value) (E : Env) : get ((d, v) :: E) d = some v := by rw [get_cons, if_pos rfl]

/-- Whatever neither makes nor turns memory is looked at as soon as it may be. -/
theorem saturate {n : Nat} {ops : List Oper} {Q : Env → World → Prop} (hA : apartOk L ops = true) {listed : Array Bool} {a : Act} {w : World} : ∀ (rest : List (Nat × List Nat)) (done : List Nat) (E : Env), Inv P L n ops Q done rest listed E a w →
    ∃ done' rest' E', Inv P L n ops Q done' rest' listed E' a w ∧ (rest' = [] ∨ ∃ i rc r o, rest' = (i, rc) :: r ∧ ops[i]? = some o ∧ isE L o.op = true)
  | [], done, E, h => ⟨done, [], E, h, .inl rfl⟩
  | (i, rc) :: r, done, E, h => by
    obtain ⟨o, ho, hpre, hnd, hE1, _, hrc, hgo⟩ := go_ok h.go
    cases hE : isE L o.op with
    | true => exact ⟨done, _, E, h, .inr ⟨i, rc, r, o, rfl, ho, hE⟩⟩
    | false =>
      have hrc0 := hrc hE
      subst hrc0
      obtain ⟨hpl, hdst, hap⟩ := apart_ok hA ho
      obtain ⟨d, hd, hdl⟩ := hdst hE
      have hf := h.form
      simp only [pwp_cons, ho] at hf
      have hnl : ¬ On listed i := fun hl => hnd (h.sub i hl)
      have key : ∃ v, pwp P L ops r Q (putE o.dst v E) w ∧ gw ops o E (Val P L o.type o.op E w v) (v = undef) := by
        rcases gw_ex hf with ⟨h1, h2⟩ | ⟨h1, h2⟩
        · obtain ⟨v, h3, h4⟩ := owp_ex hE h1
          exact ⟨v, bsp_ok (show bsp (isG ops i) v (fun v => pwp P L ops r Q (putE o.dst v E) w) from h3), h2 _ _ (h4 _ ⟨rfl, rfl⟩)⟩
        · exact ⟨undef, h1, h2 _ _ rfl⟩
      obtain ⟨v, hform, hgv⟩ := key
      rw [hd] at hform
      simp only [putE] at hform
      have hsame : ∀ j ∈ done, ∀ oj, ops[j]? = some oj → ∀ t, (t ∈ looks ops oj ∨ oj.dst = some t) → t ≠ d := by
        intro j hj oj hoj t ht htd
        subst htd
        have hij : j ≠ i := fun e => hnd (e ▸ hj)
        rcases hap t hd j oj hij hoj ht with h1 | ⟨h1, _⟩
        · exact hnd (anc_mem h1 h.dcl fun o' ho' p hp => h.dcl j hj o' ho' p hp)
        · rw [hE] at h1; cases h1
      refine saturate hA r (i :: done) ((d, v) :: E) ⟨h.size, hgo, ?_, hform, fun j hj => List.mem_cons_of_mem _ (h.sub j hj), ?_, ?_, h.lcl, h.sz, h.df, ?_, ?_⟩
      · intro j hj
        rcases h.all j hj with h1 | h1
        · exact .inl (List.mem_cons_of_mem _ h1)
        · simp only [List.map_cons, List.mem_cons] at h1
          rcases h1 with h1 | h1
          · exact .inl (by simp [h1])
          · exact .inr h1
      · intro j hj oj hoj hEj
        rcases List.mem_cons.1 hj with rfl | hj
        · rw [ho] at hoj; simp only [Option.some.injEq] at hoj; subst hoj; rw [hE] at hEj; cases hEj
        · exact h.eff j hj oj hoj hEj
      · intro j hj oj hoj p hp
        rcases List.mem_cons.1 hj with rfl | hj
        · rw [ho] at hoj; simp only [Option.some.injEq] at hoj; subst hoj; exact List.mem_cons_of_mem _ (hpre p hp)
        · exact List.mem_cons_of_mem _ (h.dcl j hj oj hoj p hp)
      · intro t u hu hp
        have hne : d ≠ t := fun e => hp i (by simp) hnl o ho (by rw [hd, e])
        rw [get_put_ne hne] at hu
        exact h.cov t u hu fun j hj hjl oj hoj => hp j (List.mem_cons_of_mem _ hj) hjl oj hoj
      · intro j hj hjl oj hoj
        rcases List.mem_cons.1 hj with rfl | hj
        · rw [ho] at hoj
          simp only [Option.some.injEq] at hoj
          subst hoj
          have he : ∀ t ∈ looks ops o, get E t = get ((d, v) :: E) t := fun t ht => (get_put_ne (fun (e : d = t) => hdl (by rw [e]; exact ht)) v E).symm
          refine ⟨d, v, hd, get_put_eq d v E, ?_⟩
          rw [← gw_eq he, ← Val_eq he]
          exact hgv
        · obtain ⟨d', v', h1, h2, h3⟩ := h.pend j hj hjl oj hoj
          have he : ∀ t ∈ looks ops oj, get E t = get ((d, v) :: E) t := fun t ht => (get_put_ne (fun e => hsame j hj oj hoj t (.inl ht) e.symm) v E).symm
          refine ⟨d', v', h1, ?_, ?_⟩
          · rw [get_put_ne (fun e => hsame j hj oj hoj d' (.inr h1) e.symm)]; exact h2
          · rw [← gw_eq he, ← Val_eq he]
            exact h3

theorem gw_swap {ops : List Oper} {o : Oper} {E : Env} {y1 n1 y2 : Prop} (h1 : gw ops o E y1 n1) (h2 : gw ops o E y2 True) : gw ops o E y2 n1 := by
  unfold gw at *
  cases hg : o.guard with
  | none => rw [hg] at h2; exact h2
  | some q =>
    obtain ⟨j, want⟩ := q
    rw [hg] at h1 h2
    simp only at h1 h2 ⊢
    cases hy : yB ops E j with
    | none => rw [hy] at h1; exact h1.elim
    | some b =>
      rw [hy] at h1 h2
      cases b with
      | none => exact h1
      | some b => cases b <;> cases want <;> simp only at h1 h2 ⊢ <;> first | exact h2 | exact h1
theorem rchk_ok {ops : List Oper} {E : Env} {w : World} {K : Prop} : ∀ {rc : List Nat}, rchk P L ops E w K rc → K ∧ ∀ j ∈ rc, ∀ o, ops[j]? = some o → ∀ d v, o.dst = some d → get E d = some v → gw ops o E (Val P L o.type o.op E w v) True
  | [], h => ⟨h, fun j hj => by simp at hj⟩
  | j :: r, h => by
    simp only [rchk_cons] at h
    cases ho : ops[j]? with
    | none => rw [ho] at h; exact h.elim
    | some o =>
      rw [ho] at h
      cases hd : o.dst with
      | none => simp only [hd] at h
      | some d =>
        simp only [hd] at h
        obtain ⟨h1, h2⟩ := h
        obtain ⟨hK, h3⟩ := rchk_ok h2
        refine ⟨hK, fun i hi oi hoi d' v' hd' hv' => ?_⟩
        rcases List.mem_cons.1 hi with rfl | hi
        · rw [ho] at hoi
          simp only [Option.some.injEq] at hoi
          subst hoi
          rw [hd] at hd'
          simp only [Option.some.injEq] at hd'
          subst hd'
          have e : (fun (v : Value) (w' : World) => get E d = some v ∧ w' = w) = fun v w' => v = v' ∧ w' = w := by
            funext u w'
            rw [hv']
            simp [eq_comm]
          rw [e] at h1
          exact h1
        · exact h3 i hi oi hoi d' v' hd' hv'
theorem get_filter (p : Nat → Bool) : ∀ (E : Env) (t : Nat), get (E.filter fun q => p q.1) t = if p t then get E t else none
  | [], t => by simp [get]
  | (i, v) :: E, t => by
    have ih := get_filter p E t
    rw [List.filter_cons]
    by_cases hi : i = t
    · subst hi
      cases hp : p i with
      | true => simp [get_cons]
      | false => simp [hp, ih]
    · cases hp : p i with
      | true => simp [get_cons, hi, ih]
      | false => simp [get_cons, hi, ih]
/-- The frame, but for the slots of what is still to come. -/
theorem Inv.cov' {n : Nat} {ops : List Oper} {Q : Env → World → Prop} {done : List Nat} {rest : List (Nat × List Nat)} {listed : Array Bool} {E : Env} {a : Act} {w : World} (h : Inv P L n ops Q done rest listed E a w) {T : List Nat} (hT : ∀ t ∈ T, ∀ i ∈ done, ¬ On listed i → ∀ o, ops[i]? = some o → o.dst ≠ some t) :
    ∃ E', Cov n E' a ∧ ∀ t ∈ T, get E t = get E' t := by
  refine ⟨E.filter fun q => memN q.1 T, ⟨h.sz, h.df, fun t v hv => ?_⟩, fun t ht => ?_⟩
  · rw [get_filter (fun t => memN t T)] at hv
    split at hv
    · rename_i hm; exact h.cov t v hv (hT t (memN_iff.1 hm))
    · cases hv
  · rw [get_filter (fun t => memN t T), if_pos (memN_iff.2 ht)]
theorem ready_iff {ops : List Oper} {listed : Array Bool} (hs : listed.size = ops.length) {i : Nat} : i ∈ Region.ready .any ops.toArray listed ↔ ¬ On listed i ∧ ∃ o, ops[i]? = some o ∧ ∀ p ∈ predsO o, On listed p := by
  rw [mem_ready]
  simp only [List.getElem?_toArray]
  constructor
  · rintro ⟨h1, o, ho, h2⟩
    refine ⟨fun h => ?_, o, ho, fun p hp => ?_⟩
    · unfold On at h; simp [Array.getD_eq_getD_getElem?, h] at h1
    · obtain ⟨e, he, rfl⟩ := List.mem_map.1 hp
      obtain ⟨he1, he2⟩ := List.mem_filter.1 he
      have := h2 e (by simpa using he1) he2
      unfold On
      simp only [Array.getD_eq_getD_getElem?] at this
      cases hq : listed[e.on]? with
      | none => rw [hq] at this; cases this
      | some b => rw [hq] at this; simp only [Option.getD_some] at this; rw [this]
  · rintro ⟨h1, o, ho, h2⟩
    have hlt : i < listed.size := by rw [hs]; exact (List.getElem?_eq_some_iff.1 ho).1
    refine ⟨?_, o, ho, fun e he hb => ?_⟩
    · cases hq : listed[i] with
      | true => exact (h1 (by unfold On; rw [Array.getElem?_eq_getElem hlt, hq])).elim
      | false => simp [Array.getD_eq_getD_getElem?, hlt, hq]
    · have := h2 e.on (List.mem_map.2 ⟨e, List.mem_filter.2 ⟨by simpa using he, hb⟩, rfl⟩)
      unfold On at this
      simp [Array.getD_eq_getD_getElem?, this]
theorem On_set {listed : Array Bool} {i j : Nat} (hi : i < listed.size) : On (listed.setIfInBounds i true) j ↔ j = i ∨ On listed j := by
  unfold On
  rw [Array.getElem?_setIfInBounds]
  by_cases h : i = j
  · subst h; simp [hi]
  · simp [h, Ne.symm h]
theorem cnt_set {listed : Array Bool} {i : Nat} (hi : i < listed.size) (h : ¬ On listed i) : (listed.setIfInBounds i true).toList.count false + 1 = listed.toList.count false := by
  have hl : i < listed.toList.length := by simpa using hi
  have hv : listed.toList[i] = false := by
    cases hb : listed.toList[i] with
    | false => rfl
    | true => exact (h (by unfold On; rw [Array.getElem?_eq_getElem hi]; simpa using hb)).elim
  rw [Array.toList_setIfInBounds, List.count_set hl]
  have : 0 < listed.toList.count false := List.count_pos_iff.2 (by rw [← hv]; exact List.getElem_mem hl)
  rw [hv]
  have e1 : (if (false == false) = true then 1 else 0) = 1 := rfl
  have e2 : (if (true == false) = true then 1 else 0) = 0 := rfl
  rw [e1, e2]
  omega
/-- At the end. -/
theorem fin_ok {n : Nat} {ops : List Oper} {Q : Env → World → Prop} {R : Exit → Act → World → Prop} (hQ : ∀ E a w, Cov n E a → Q E w → R .normal a w) (hA : apartOk L ops = true) {done : List Nat} {rest : List (Nat × List Nat)} {listed : Array Bool} {E : Env} {a : Act} {w : World} (h : Inv P L n ops Q done rest listed E a w) (hr : Region.ready .any ops.toArray listed = []) : R .normal a w := by
  have hall : ∀ i, i < ops.length → On listed i := by
    intro i
    induction i using Nat.strongRecOn with
    | _ i ih =>
      intro hi
      refine Classical.byContradiction fun hn => ?_
      have ho : ops[i]? = some ops[i] := List.getElem?_eq_getElem hi
      have : i ∈ Region.ready .any ops.toArray listed := (ready_iff h.size).2 ⟨hn, _, ho, fun p hp => ih p ((apart_ok hA ho).1 p hp) (Nat.lt_trans ((apart_ok hA ho).1 p hp) hi)⟩
      rw [hr] at this
      cases this
  have hrest : rest = [] := by
    cases rest with
    | nil => rfl
    | cons q r =>
      obtain ⟨i, rc⟩ := q
      obtain ⟨o, ho, _, hnd, _⟩ := go_ok h.go
      exact (hnd (h.sub i (hall i (List.getElem?_eq_some_iff.1 ho).1))).elim
  subst hrest
  refine hQ E a w ⟨h.sz, h.df, fun t v hv => h.cov t v hv fun i _ hn o ho => (hn (hall i (List.getElem?_eq_some_iff.1 ho).1)).elim⟩ h.form

theorem owp_alloc {ty : TypeId} {o : Op} {E : Env} {w : World} {K : Value → World → Prop} (hal : isAl o = true) (hv : owp P L ty o E w K) : owp P L ty o E w fun v w' => (∃ ob, w' = w.alloc ob) ∧ K v w' := by
  cases o <;> first | (cases hal; done) | skip
  case alloc t =>
    simp only [owp] at hv ⊢
    cases hz : L.zr t <;> rw [hz] at hv <;> simp only at hv ⊢
    exact ⟨⟨_, rfl⟩, hv.h⟩
  case box t x =>
    obtain ⟨u, hu, hv⟩ := ev1_ex hv
    exact ev1_mk hu ⟨⟨_, rfl⟩, hv.h⟩
  case buildSlice t m ps =>
    simp only [owp] at hv ⊢
    cases hz : L.sl t <;> rw [hz] at hv <;> simp only at hv ⊢
    rename_i q
    obtain ⟨e', k⟩ := q
    simp only at hv ⊢
    cases hz2 : L.zr e' <;> rw [hz2] at hv <;> simp only at hv ⊢
    obtain ⟨vs, ⟨h0, cs, h1, h2⟩, h3⟩ := evP_ex hv
    exact h3 _ ⟨h0, cs, h1, ⟨⟨_, rfl⟩, h2.h⟩⟩
  case makeMap t q =>
    cases q with
    | none => exact ⟨⟨_, rfl⟩, MapW.h hv⟩
    | some _ => exact False.elim hv
/-- One step of whatever order the machine takes. -/
theorem step_ok (hL : LayOk P L) {n : Nat} {ops : List Oper} {Q : Env → World → Prop} {R : Exit → Act → World → Prop} (hA : apartOk L ops = true) (hd : dstOk n ops = true) {done : List Nat} {rest : List (Nat × List Nat)} {listed : Array Bool} {E : Env} {a : Act} {w : World}
    (h : Inv P L n ops Q done rest listed E a w) (hs : rest = [] ∨ ∃ i rc r o, rest = (i, rc) :: r ∧ ops[i]? = some o ∧ isE L o.op = true) {i : Nat} (hr : i ∈ Region.ready .any ops.toArray listed) {K : Act → World → Prop}
    (hK : ∀ done' rest' E' a' w', Inv P L n ops Q done' rest' (listed.setIfInBounds i true) E' a' w' → K a' w') : wpOp P ops.toArray R i K a w := by
  obtain ⟨hnl, o, ho, hpre⟩ := (ready_iff h.size).1 hr
  have hlt : i < listed.size := by rw [h.size]; exact (List.getElem?_eq_some_iff.1 ho).1
  have hanc : ∀ k, anc ops i k = true → On listed k := fun k hk => anc_mem hk h.lcl fun o' ho' p hp => by rw [ho] at ho'; simp only [Option.some.injEq] at ho'; subst ho'; exact hpre p hp
  have hdo : ∀ t, o.dst = some t → t < n := dst_lt hd (List.mem_of_getElem? ho)
  have hlook : ∀ t ∈ looks ops o, ∀ k ∈ done, ¬ On listed k → ∀ ok, ops[k]? = some ok → ok.dst ≠ some t := by
    intro t ht k hk hkl ok hok hkt
    by_cases hki : k = i
    · subst hki
      rw [ho] at hok
      simp only [Option.some.injEq] at hok
      subst hok
      cases hE : isE L o.op with
      | true => exact hkl (h.eff k hk o ho hE)
      | false =>
        obtain ⟨d, hd', hdl⟩ := (apart_ok hA ho).2.1 hE
        rw [hd'] at hkt
        simp only [Option.some.injEq] at hkt
        subst hkt
        exact hdl ht
    · rcases (apart_ok hA hok).2.2 t hkt i o (Ne.symm hki) ho (.inl ht) with h1 | ⟨h1, _⟩
      · exact hkl (hanc k h1)
      · exact hkl (h.eff k hk ok hok h1)
  obtain ⟨E0, hc0, he0⟩ := h.cov' hlook
  have hcl : Closed ops (On (listed.setIfInBounds i true)) := by
    intro j hj oj hoj p hp
    rcases (On_set hlt).1 hj with rfl | hj
    · rw [ho] at hoj; simp only [Option.some.injEq] at hoj; subst hoj; exact (On_set hlt).2 (.inr (hpre p hp))
    · exact (On_set hlt).2 (.inr (h.lcl j hj oj hoj p hp))
  have hop : ops.toArray[i]? = some o := by simpa using ho
  unfold wpOp
  rw [hop]
  simp only
  cases hE : isE L o.op with
  | false =>
    have hid : i ∈ done := by
      rcases h.all i (List.getElem?_eq_some_iff.1 ho).1 with h1 | h1
      · exact h1
      · -- the next one is an effect that this one does not wait for: it cannot be
        exfalso
        rcases hs with rfl | ⟨e, rc, r, oe, rfl, hoe, hEe⟩
        · simp at h1
        · obtain ⟨_, _, _, hnd, _⟩ := go_ok h.go
          have key : ∀ (r : List (Nat × List Nat)) (done : List Nat), e ∈ done → planGo L ops done r = true → i ∈ r.map (·.1) → anc ops i e = true := by
            intro r
            induction r with
            | nil => intro _ _ _ hm; simp at hm
            | cons q r ih =>
              intro done hed hg hm
              obtain ⟨j, rcj⟩ := q
              obtain ⟨oj, hoj, _, _, h3, _, _, h5⟩ := go_ok hg
              simp only [List.map_cons, List.mem_cons] at hm
              rcases hm with rfl | hm
              · exact h3 e hed oe hoe hEe
              · exact ih (j :: done) (List.mem_cons_of_mem _ hed) h5 hm
          obtain ⟨_, _, _, _, _, _, _, h5⟩ := go_ok h.go
          simp only [List.map_cons, List.mem_cons] at h1
          rcases h1 with rfl | h1
          · rw [ho] at hoe; simp only [Option.some.injEq] at hoe; subst hoe; rw [hE] at hEe; cases hEe
          · exact hnd (h.sub e (hanc e (key r (e :: done) (by simp) h5 h1)))
    obtain ⟨d, v, hdst, hgv, hgw⟩ := h.pend i hid hnl o ho
    have hnew : Inv P L n ops Q done rest (listed.setIfInBounds i true) E (a.put o.dst v) w := by
      refine ⟨by simp [h.size], h.go, h.all, h.form, fun j hj => ?_, fun j hj oj hoj hEj => (On_set hlt).2 (.inr (h.eff j hj oj hoj hEj)), h.dcl, hcl, ?_, ?_, fun t u hu hp => ?_, fun j hj hjl oj hoj => h.pend j hj (fun hl => hjl ((On_set hlt).2 (.inr hl))) oj hoj⟩
      · rcases (On_set hlt).1 hj with rfl | hj
        · exact hid
        · exact h.sub j hj
      · rw [hdst]; simp [Act.put, h.sz]
      · rw [hdst]; simp [Act.put, h.df]
      · rw [hdst]
        simp only [Act.put, Array.getElem?_setIfInBounds]
        by_cases hdt : d = t
        · subst hdt
          rw [if_pos rfl, if_pos (by rw [h.sz]; exact hdo d hdst)]
          rw [hgv] at hu
          exact hu
        · rw [if_neg hdt]
          refine h.cov t u hu fun j hj hjl oj hoj => ?_
          by_cases hji : j = i
          · subst hji
            rw [ho] at hoj
            simp only [Option.some.injEq] at hoj
            subst hoj
            rw [hdst]
            simpa using hdt
          · exact hp j hj (fun hl => ((On_set hlt).1 hl).elim hji hjl) oj hoj
    rw [gw_eq he0, Val_eq he0] at hgw
    rcases gw_ok hc0 hgw with ⟨hw, hv⟩ | ⟨hw, hv⟩
    · simp only [hw, if_true]
      refine .inl (Upon.wp (Upon.mono ?_ (owp_ok hL (a := a) (fun t _ u hg => hc0.getD hg) hv)))
      rintro u w' ⟨rfl, rfl⟩
      exact hK _ _ _ _ _ hnew
    · simp only [hw, if_false, Bool.false_eq_true]
      subst hv
      exact hK _ _ _ _ _ hnew
  | true =>
    have hind : i ∉ done := fun hm => hnl (h.eff i hm o ho hE)
    obtain ⟨e, rc, r, oe, rfl, hoe, hEe⟩ := hs.resolve_left (by
      rintro rfl
      rcases h.all i (List.getElem?_eq_some_iff.1 ho).1 with h1 | h1
      · exact hind h1
      · simp at h1)
    obtain ⟨oe', hoe', hpree, hnde, hEd, hRd, _, hgo⟩ := go_ok h.go
    rw [hoe] at hoe'
    simp only [Option.some.injEq] at hoe'
    subst hoe'
    have hei : e = i := by
      refine Classical.byContradiction fun hne => ?_
      have hm : i ∈ r.map (·.1) := by
        rcases h.all i (List.getElem?_eq_some_iff.1 ho).1 with h1 | h1
        · exact (hind h1).elim
        · simp only [List.map_cons, List.mem_cons] at h1
          rcases h1 with h1 | h1
          · exact (hne h1.symm).elim
          · exact h1
      have key : ∀ (r : List (Nat × List Nat)) (done : List Nat), e ∈ done → planGo L ops done r = true → i ∈ r.map (·.1) → anc ops i e = true := by
        intro r
        induction r with
        | nil => intro _ _ _ hm; simp at hm
        | cons q r ih =>
          intro done hed hg hm
          obtain ⟨j, rcj⟩ := q
          obtain ⟨oj, hoj, _, _, h3, _, _, h5⟩ := go_ok hg
          simp only [List.map_cons, List.mem_cons] at hm
          rcases hm with rfl | hm
          · exact h3 e hed oe hoe hEe
          · exact ih (j :: done) (List.mem_cons_of_mem _ hed) h5 hm
      exact hnde (h.sub e (hanc e (key r (e :: done) (by simp) hgo hm)))
    subst hei
    rw [ho] at hoe
    simp only [Option.some.injEq] at hoe
    subst hoe
    have hsame : ∀ j ∈ done, ¬ On listed j → ∀ oj, ops[j]? = some oj → ∀ d, o.dst = some d → ∀ t, (t ∈ looks ops oj ∨ oj.dst = some t) → t ≠ d := by
      intro j hj hjl oj hoj d hdd t ht htd
      subst htd
      have hij : j ≠ e := fun e' => hind (e' ▸ hj)
      rcases (apart_ok hA ho).2.2 t hdd j oj hij hoj ht with h1 | ⟨_, h1⟩
      · exact hind (anc_mem h1 h.dcl fun o' ho' p hp => h.dcl j hj o' ho' p hp)
      · exact hjl (hanc j h1)
    have hnew : ∀ v w', pwp P L ops r Q (putE o.dst v E) w' → (∀ j ∈ done, ¬ On listed j → ∀ oj, ops[j]? = some oj → ∀ d u, oj.dst = some d → get E d = some u → gw ops oj E (Val P L oj.type oj.op E w' u) (u = undef)) →
        Inv P L n ops Q (e :: done) r (listed.setIfInBounds e true) (putE o.dst v E) (a.put o.dst v) w' := by
      intro v w' hf hp'
      refine ⟨by simp [h.size], hgo, fun j hj => ?_, hf, fun j hj => ?_, fun j hj oj hoj hEj => ?_, ?_, hcl, ?_, ?_, fun t u hu hp => ?_, fun j hj hjl oj hoj => ?_⟩
      · rcases h.all j hj with h1 | h1
        · exact .inl (List.mem_cons_of_mem _ h1)
        · simp only [List.map_cons, List.mem_cons] at h1
          rcases h1 with h1 | h1
          · exact .inl (by simp [h1])
          · exact .inr h1
      · rcases (On_set hlt).1 hj with rfl | hj
        · simp
        · exact List.mem_cons_of_mem _ (h.sub j hj)
      · rcases List.mem_cons.1 hj with rfl | hj
        · exact (On_set hlt).2 (.inl rfl)
        · exact (On_set hlt).2 (.inr (h.eff j hj oj hoj hEj))
      · intro j hj oj hoj p hp
        rcases List.mem_cons.1 hj with rfl | hj
        · rw [ho] at hoj; simp only [Option.some.injEq] at hoj; subst hoj; exact List.mem_cons_of_mem _ (hpree p hp)
        · exact List.mem_cons_of_mem _ (h.dcl j hj oj hoj p hp)
      · cases hdd : o.dst <;> simp [Act.put, h.sz]
      · cases hdd : o.dst <;> simp [Act.put, h.df]
      · have hpo : ∀ j ∈ done, ¬ On listed j → ∀ oj, ops[j]? = some oj → oj.dst ≠ some t := by
          intro j hj hjl oj hoj
          refine hp j (List.mem_cons_of_mem _ hj) (fun hl => ?_) oj hoj
          rcases (On_set hlt).1 hl with rfl | hl
          · exact hind hj
          · exact hjl hl
        cases hdd : o.dst with
        | none => rw [hdd] at hu; exact h.cov t u hu hpo
        | some d =>
          rw [hdd] at hu
          simp only [putE, get_cons] at hu
          simp only [Act.put, Array.getElem?_setIfInBounds]
          by_cases hdt : d = t
          · subst hdt
            rw [if_pos rfl] at hu ⊢
            rw [if_pos (by rw [h.sz]; exact hdo d hdd)]
            exact hu
          · rw [if_neg hdt] at hu ⊢
            exact h.cov t u hu hpo
      · rcases List.mem_cons.1 hj with rfl | hj
        · exact (hjl ((On_set hlt).2 (.inl rfl))).elim
        · have hjl' : ¬ On listed j := fun hl => hjl ((On_set hlt).2 (.inr hl))
          obtain ⟨d', u, h1, h2, _⟩ := h.pend j hj hjl' oj hoj
          have h3 := hp' j hj hjl' oj hoj d' u h1 h2
          have he : ∀ t, (t ∈ looks ops oj ∨ oj.dst = some t) → get E t = get (putE o.dst v E) t := by
            intro t ht
            cases hdd : o.dst with
            | none => rfl
            | some d => exact (get_put_ne (fun e' => hsame j hj hjl' oj hoj d hdd t ht e'.symm) v E).symm
          refine ⟨d', u, h1, by rw [← he d' (.inr h1)]; exact h2, ?_⟩
          rw [← gw_eq (fun t ht => he t (.inl ht)), ← Val_eq (fun t ht => he t (.inl ht))]
          exact h3
    have hf := h.form
    simp only [pwp_cons, ho] at hf
    have hf' : gw ops o E0 (owp P L o.type o.op E0 w fun v w' => rchk P L ops E w' (bsp (isG ops e) v fun v => pwp P L ops r Q (putE o.dst v E) w') rc) (pwp P L ops r Q (putE o.dst undef E) w) := by
      rw [← gw_eq he0, ← owp_eq (fun t ht => he0 t (looks_op ht))]
      exact hf
    rcases gw_ok hc0 hf' with ⟨hw, hv⟩ | ⟨hw, hv⟩
    · simp only [hw, if_true]
      refine .inl (Upon.wp ?_)
      cases hal : isAl o.op with
      | true =>
        -- a new block: what was loaded is there still
        have hal' : owp P L o.type o.op E0 w fun v w' => (∃ ob, w' = w.alloc ob) ∧ rchk P L ops E w' (bsp (isG ops e) v fun v => pwp P L ops r Q (putE o.dst v E) w') rc := by
          exact owp_alloc hal hv
        refine Upon.mono ?_ (owp_ok hL (a := a) (fun t _ u hg => hc0.getD hg) hal')
        rintro v w' ⟨⟨ob, rfl⟩, hr'⟩
        obtain ⟨hk, hrc⟩ := rchk_ok hr'
        refine hK _ _ _ _ _ (hnew v _ (bsp_ok hk) ?_)
        intro j hj hjl oj hoj d u h1 h2
        obtain ⟨d0, u0, h1', h2', h3'⟩ := h.pend j hj hjl oj hoj
        rw [h1] at h1'
        simp only [Option.some.injEq] at h1'
        subst h1'
        rw [h2] at h2'
        simp only [Option.some.injEq] at h2'
        subst h2'
        have hEj : isE L oj.op = false := by cases hb : isE L oj.op with | false => rfl | true => exact (hjl (h.eff j hj oj hoj hb)).elim
        cases hRj : isRd L oj.op with
        | false =>
          rcases gw_ex h3' with ⟨h4, h5⟩ | ⟨h4, h5⟩
          · exact h5 _ _ (h4.any hEj hRj _)
          · exact h5 _ _ h4
        | true =>
          rcases hRd j hj oj hoj hEj hE hRj with ⟨_, h6⟩ | h6 | h6
          · rcases gw_ex h3' with ⟨h4, h5⟩ | ⟨h4, h5⟩
            · exact h5 _ _ (h4.alloc h6 ob)
            · exact h5 _ _ h4
          · exact (hjl (hanc j h6)).elim
          · rcases gw_ex h3' with ⟨_, h5⟩ | ⟨h4, h5⟩
            · have h7 := hrc j h6 oj hoj d u h1 h2
              rcases gw_ex h7 with ⟨h8, h9⟩ | ⟨h8, h9⟩
              · exact h9 _ _ h8
              · -- its guard says no: then it was nothing ahead, too
                have := h9 (Val P L oj.type oj.op E w u) (u = undef)
                rcases gw_ex h3' with ⟨h10, h11⟩ | ⟨h10, h11⟩
                · exact gw_swap h3' h7
                · exact h11 _ _ h10
            · exact h5 _ _ h4
      | false =>
        refine Upon.mono ?_ (owp_ok hL (a := a) (fun t _ u hg => hc0.getD hg) hv)
        intro v w' hr'
        obtain ⟨hk, hrc⟩ := rchk_ok hr'
        refine hK _ _ _ _ _ (hnew v _ (bsp_ok hk) ?_)
        intro j hj hjl oj hoj d u h1 h2
        obtain ⟨d0, u0, h1', h2', h3'⟩ := h.pend j hj hjl oj hoj
        rw [h1] at h1'
        simp only [Option.some.injEq] at h1'
        subst h1'
        rw [h2] at h2'
        simp only [Option.some.injEq] at h2'
        subst h2'
        have hEj : isE L oj.op = false := by cases hb : isE L oj.op with | false => rfl | true => exact (hjl (h.eff j hj oj hoj hb)).elim
        cases hRj : isRd L oj.op with
        | false =>
          rcases gw_ex h3' with ⟨h4, h5⟩ | ⟨h4, h5⟩
          · exact h5 _ _ (h4.any hEj hRj _)
          · exact h5 _ _ h4
        | true =>
          rcases hRd j hj oj hoj hEj hE hRj with ⟨h6, _⟩ | h6 | h6
          · rw [hal] at h6; cases h6
          · exact (hjl (hanc j h6)).elim
          · exact gw_swap h3' (hrc j h6 oj hoj d u h1 h2)
    · simp only [hw, if_false, Bool.false_eq_true]
      refine hK _ _ _ _ _ (hnew undef w hv ?_)
      intro j hj hjl oj hoj d u h1 h2
      obtain ⟨d0, u0, h1', h2', h3'⟩ := h.pend j hj hjl oj hoj
      rw [h1] at h1'
      simp only [Option.some.injEq] at h1'
      subst h1'
      rw [h2] at h2'
      simp only [Option.some.injEq] at h2'
      subst h2'
      exact h3'
theorem any_ok (hL : LayOk P L) {n : Nat} {ops : List Oper} {Q : Env → World → Prop} {R : Exit → Act → World → Prop} (hQ : ∀ E a w, Cov n E a → Q E w → R .normal a w) (hA : apartOk L ops = true) (hd : dstOk n ops = true) : ∀ (fuel : Nat) (done : List Nat) (rest : List (Nat × List Nat)) (listed : Array Bool) (E : Env) (a : Act) (w : World),
    Inv P L n ops Q done rest listed E a w → listed.toList.count false ≤ fuel → wpAny P .any ops.toArray R fuel listed a w
  | 0, done, rest, listed, E, a, w, h, hc => by
    have hr : Region.ready .any ops.toArray listed = [] := by
      refine List.eq_nil_iff_forall_not_mem.2 fun i hi => ?_
      obtain ⟨hnl, o, ho, _⟩ := (ready_iff h.size).1 hi
      have := cnt_set (by rw [h.size]; exact (List.getElem?_eq_some_iff.1 ho).1) hnl
      omega
    exact ⟨hr, fin_ok hQ hA h hr⟩
  | fuel + 1, done, rest, listed, E, a, w, h, hc => by
    refine ⟨fun hr => fin_ok hQ hA h hr, fun i hi => ?_⟩
    obtain ⟨done', rest', E', h', hs⟩ := saturate hA rest done E h
    refine step_ok hL hA hd h' hs hi fun d' r' E'' a' w' hn => ?_
    obtain ⟨hnl, o, ho, _⟩ := (ready_iff h.size).1 hi
    have := cnt_set (by rw [h.size]; exact (List.getElem?_eq_some_iff.1 ho).1) hnl
    exact any_ok hL hQ hA hd fuel d' r' _ E'' a' w' hn (by omega)
/-- THE REGION, by its plan. -/
theorem draw_ok (hL : LayOk P L) {n id : Nat} {ops : Array Oper} {pl : List (Nat × List Nat)} {Q : Env → World → Prop} {R : Exit → Act → World → Prop} (hQ : ∀ E a w, Cov n E a → Q E w → R .normal a w) (hp : planOk L ops.toList pl = true) (hd : dstOk n ops.toList = true) {E : Env} {a : Act} {w : World} (hc : Cov n E a)
    (h : pwp P L ops.toList pl Q E { w with drawn := w.drawn + 1 }) : (Code.region id ops true).wp P R a w := by
  simp only [planOk, Bool.and_eq_true] at hp
  obtain ⟨⟨h1, h2⟩, h3⟩ := hp
  refine wp_region_any hL.mixed ?_
  have hn : ∀ i, ¬ On (Array.replicate ops.size false) i := by
    intro i hi
    unfold On at hi
    rw [Array.getElem?_replicate] at hi
    split at hi <;> simp at hi
  have := any_ok hL (ops := ops.toList) hQ h2 hd ops.size [] pl (Array.replicate ops.size false) E a { w with drawn := w.drawn + 1 }
    ⟨by simp, h3, fun i hi => .inr (memN_iff.1 (List.all_eq_true.1 h1 i (List.mem_range.2 hi))), h, fun i hi => (hn i hi).elim, fun i hi => by simp at hi, fun i hi => by simp at hi, fun i hi => (hn i hi).elim, hc.size, hc.defers, fun t v hv _ => hc.get t v hv, fun i hi => by simp at hi⟩ (by simp)
  simpa using this
end
end Go.Proofs.YtffjccofglikhaaGreat
