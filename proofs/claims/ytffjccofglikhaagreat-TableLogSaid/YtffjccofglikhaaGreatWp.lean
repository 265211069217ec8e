/-
  Regions and code: what 'owps', 'pwp', 'cwp' ask suffices.
-/
import Derived.Test.YtffjccofglikhaaGreatSound
namespace Go.Proofs.YtffjccofglikhaaGreat
open Go

/-- The frame holds what the list says, is so long, and has deferred nothing. -/
structure Cov (n : Nat) (E : Env) (a : Act) : Prop where
  size : a.tmps.size = n
  defers : a.defers = []
  get : ∀ t v, get E t = some v → a.tmps[t]? = some v
theorem Cov.getD {n : Nat} {E : Env} {a : Act} (h : Cov n E a) {t : Nat} {v : Value} (hg : Go.Proofs.YtffjccofglikhaaGreat.get E t = some v) : a.tmps.getD t undef = v := by
  have := h.get t v hg
  simp [Array.getD_eq_getD_getElem?, this]
theorem get_cons (d : Nat) (v : Value) (E : Env) (t : Nat) : get ((d, v) :: E) t = if d = t then some v else get E t := by
  simp only [get]
  by_cases h : d = t
  · simp [h]
  · have : Nat.beq d t = false := by cases hb : Nat.beq d t with | false => rfl | true => exact absurd (Nat.eq_of_beq_eq_true hb) h
    simp [h, this]
theorem Cov.put {n : Nat} {E : Env} {a : Act} (h : Cov n E a) (d : Option Nat) (hd : ∀ t, d = some t → t < n) (v : Value) : Cov n (putE d v E) (a.put d v) := by
  cases d with
  | none => exact h
  | some d =>
    refine ⟨by simp [Act.put, h.size], by simp [Act.put, h.defers], fun t u hu => ?_⟩
    simp only [putE, get_cons] at hu
    simp only [Act.put, Array.getElem?_setIfInBounds]
    by_cases hdt : d = t
    · simp only [hdt, if_true, Option.some.injEq] at hu ⊢
      subst hdt
      rw [if_pos (by rw [h.size]; exact hd d rfl), hu]
    · simp only [hdt, if_false] at hu ⊢
      exact h.get t u hu
theorem Cov.sub {n : Nat} {E : Env} {a : Act} (h : Cov n E a) : ∀ {A : Env}, Sub A E → Cov n A a
  | [], _ => ⟨h.size, h.defers, fun t v hv => by simp [Go.Proofs.YtffjccofglikhaaGreat.get] at hv⟩
  | (d, u) :: A, hs => by
    have ih := Cov.sub h hs.2
    refine ⟨h.size, h.defers, fun t v hv => ?_⟩
    rw [get_cons] at hv
    split at hv
    · rename_i hdt; subst hdt; simp only [Option.some.injEq] at hv; subst hv; exact h.get _ _ hs.1
    · exact ih.get t v hv

section
variable {P : Program} {L : Lay}
theorem yB_ok {n : Nat} {ops : List Oper} {E : Env} {a : Act} (hc : Cov n E a) {j : Nat} {b : Option Bool} (h : yB ops E j = some b) : yielded ops.toArray a.tmps j = b := by
  unfold yB at h
  split at h
  · rename_i o ho
    split at h
    · rename_i d hd
      split at h
      · rename_i c hg
        have := hc.get d _ hg
        split at h <;> simp only [Option.some.injEq] at h <;> subst h
        · simp [yielded, ho, hd, this]
        · rename_i hne
          cases c <;> first | exact absurd rfl (hne _) | simp [yielded, ho, hd, this]
      · cases h
    · cases h
  · cases h
theorem gw_ok {n : Nat} {ops : List Oper} {o : Oper} {E : Env} {a : Act} (hc : Cov n E a) {yes no : Prop} (h : gw ops o E yes no) :
    (Region.wanted o (yielded ops.toArray a.tmps) = true ∧ yes) ∨ (Region.wanted o (yielded ops.toArray a.tmps) = false ∧ no) := by
  unfold gw at h
  unfold Region.wanted
  split at h
  · rename_i hg; rw [hg]; exact .inl ⟨rfl, h⟩
  · rename_i j want hg
    rw [hg]
    split at h
    · rename_i b hb
      have hy := yB_ok hc hb
      cases b <;> cases want <;> simp [hy] <;> exact h
    · rename_i hb
      have hy := yB_ok hc hb
      refine .inr ⟨?_, h⟩
      simp [hy]
    · exact h.elim
/-- A list of operations stores into slots that there are. -/
def dstOk (n : Nat) (ops : List Oper) : Bool := ops.all fun o => match o.dst with | some d => Nat.blt d n | none => true
theorem dst_lt {n : Nat} {ops : List Oper} (h : dstOk n ops = true) {o : Oper} (ho : o ∈ ops) : ∀ t, o.dst = some t → t < n := by
  intro t ht
  have := List.all_eq_true.1 h o ho
  rw [ht] at this
  simpa using this
theorem bsp_ok {b : Bool} {v : Value} {K : Value → Prop} (h : bsp b v K) : K v := by
  cases b with
  | false => exact h
  | true =>
    cases v with
    | bool c => cases c <;> first | exact h.2 rfl | exact h.1 rfl
    | _ => exact False.elim h
theorem owps_ok (hL : LayOk P L) {n : Nat} {ops : List Oper} {Q : Env → World → Prop} {R : Exit → Act → World → Prop} (hQ : ∀ E a w, Cov n E a → Q E w → R .normal a w) : ∀ (r : List Oper) (i : Nat) (E : Env) (a : Act) (w : World), (∀ k, r[k]? = ops[i + k]?) → dstOk n r = true → Cov n E a → owps P L ops i r Q E w →
    wpOps P ops.toArray R (List.range' i r.length) a w
  | [], i, E, a, w, _, _, hc, h => by
    simp only [List.length_nil, List.range'_zero, wpOps]
    exact hQ E a w hc h
  | o :: r, i, E, a, w, hr, hd, hc, h => by
    have ho : ops.toArray[i]? = some o := by simpa using (hr 0).symm
    have hr' : ∀ k, r[k]? = ops[i + 1 + k]? := fun k => by have := hr (k + 1); simpa [Nat.add_assoc, Nat.add_comm 1 k] using this
    have hdo : ∀ t, o.dst = some t → t < n := dst_lt hd (by simp)
    have hd' : dstOk n r = true := by simp only [dstOk, List.all_cons, Bool.and_eq_true] at hd; exact hd.2
    simp only [List.length_cons, List.range'_succ, wpOps, ho]
    simp only [owps_cons] at h
    rcases gw_ok hc h with ⟨hw, h⟩ | ⟨hw, h⟩
    · simp only [hw, if_true]
      refine .inl (Upon.wp ?_)
      refine Upon.mono ?_ (owp_ok hL (a := a) (fun t _ v hg => hc.getD hg) h)
      intro v w' h'
      exact owps_ok hL hQ r (i + 1) _ _ w' hr' hd' (hc.put _ hdo v) (bsp_ok h')
    · simp only [hw, if_false, Bool.false_eq_true]
      exact owps_ok hL hQ r (i + 1) _ _ w hr' hd' (hc.put _ hdo undef) h
theorem region_ok (hL : LayOk P L) {n id : Nat} {ops : Array Oper} {Q : Env → World → Prop} {R : Exit → Act → World → Prop} (hQ : ∀ E a w, Cov n E a → Q E w → R .normal a w) {E : Env} {a : Act} {w : World} (hd : dstOk n ops.toList = true) (hc : Cov n E a) (h : owps P L ops.toList 0 ops.toList Q E w) :
    (Code.region id ops false).wp P R a w := by
  refine wp_region ?_
  have := owps_ok hL hQ ops.toList 0 E a w (fun k => by simp) hd hc h
  simpa [List.range_eq_range'] using this
end
end Go.Proofs.YtffjccofglikhaaGreat
