/-
  loessref10.Set.
-/
import Derived.Test.YtffjccofglikhaaGreatCOf
namespace Go.Proofs.YtffjccofglikhaaGreat
open Go Go.RowKit

def strLt (a b : Str) : Bool := Op.bytesLess a b
theorem lt_str (a b : Str) : Op.bytesLess (⟨a.toArray⟩ : ByteArray).toList (⟨b.toArray⟩ : ByteArray).toList = strLt a b := by
  rw [ByteArray.toList_mk, ByteArray.toList_mk]; rfl
def setStep (r x : Rec) (s : List Rec × Bool) : List Rec × Bool :=
  let c := !s.2 && !(strLt x.key r.key)
  let out := if c = true then s.1 ++ [r] else s.1
  (if x.key = r.key then out else out ++ [x], s.2 || c)
def refSet (L : List Rec) (r : Rec) : List Rec :=
  let p := L.foldl (fun s x => setStep r x s) ([], false)
  if p.2 = true then p.1 else p.1 ++ [r]
theorem setStep_len (r x : Rec) (s : List Rec × Bool) : (setStep r x s).1.length + (if (setStep r x s).2 = true then 0 else 1) ≤ s.1.length + (if s.2 = true then 0 else 1) + 1 := by
  obtain ⟨o, d⟩ := s
  unfold setStep
  dsimp only
  cases d <;> cases strLt x.key r.key <;> by_cases h : x.key = r.key <;> simp [h] <;> omega
/-- One more of a list of records. -/
theorem more {w : World} {v : Value} {X : List Rec} {r : Rec} (hO : Own cRec 30 w v X) (hX : X.length ≤ 1000000) {b : Nat} {w1 : World} (m : Mod no w w1) (hb : Own cRec 30 w1 (.slice (some ⟨b, 0, none⟩) 1 1) [r]) {ty : Nat} {K : Value → World → Prop}
    (hk : ∀ v' w', Own cRec 30 w' v' (X ++ [r]) → Mod (fun k => v.ownBlock = some k) w w' → (∀ b, v'.ownBlock = some b → v.ownBlock = some b ∨ w.heap.size ≤ b) → K v' w') : RunW P (Builtin.append_ #[24, 24] ty #[v, .slice (some ⟨b, 0, none⟩) 1 1]) w1 K :=
  app lay_is rfl (hO.grow m) hb.slr (by show _ + 1 ≤ _; omega) fun v' w' ho m' f' => hk v' w' ho ((m.mono fun _ _ h => h.elim).tr m' fun _ _ h => h) fun k hk => (f' k hk).imp id fun h => by have := m.size; omega
theorem ref10_Set {w : World} {v : Value} {L : List Rec} {r : Rec} (hv : SlR cRec w v L) (hl : L.length ≤ 500000) : CallV P 73 [v, recV r] w fun u w' => Own cRec 30 w' u (refSet L r) ∧ Mod no w w' ∧ ∀ k, u.ownBlock = some k → w.heap.size ≤ k := by
  obtain ⟨a, cp, rfl⟩ := hv.len
  refine calls_of lay_is Tryz.func73 rfl (by kernel_rfl) (al fun b1 w1 e1 m1 s1 hb1 => ?_)
  have hb1 : Blk w1 b1 30 (recC r) := hb1
  refine loop (σ := Nat × Value × List Rec × Bool) (fun s => [(0, .slice a L.length cp), (3, ptr b1), (5, s.2.1), (6, .bool s.2.2.2), (7, iV s.1)]) (fun s w' => s.1 ≤ L.length ∧ Blk w' b1 30 (recC r) ∧ Own cRec 30 w' s.2.1 s.2.2.1 ∧ Mod no w w' ∧ (∀ k, s.2.1.ownBlock = some k → w.heap.size ≤ k) ∧ s.2.1.ownBlock ≠ some b1 ∧ s.2.2.1.length + (if s.2.2.2 = true then 0 else 1) ≤ s.1 + 1 ∧ (L.drop s.1).foldl (fun s x => setStep r x s) s.2.2 = L.foldl (fun s x => setStep r x s) ([], false)) (fun s _ => L.length - s.1) (0, .slice none 0 0, [], false) ⟨rfl, rfl, rfl, rfl, rfl, trivial⟩ ⟨by omega, hb1, Own.nil _ _, m1, nofun, nofun, by simp, rfl⟩ ?_
  have hb1n : w.heap.size ≤ b1 := by omega
  clear hb1
  rintro ⟨i, u, X, d⟩ w2 ⟨hi, hb1, hO, hM, hF, hu, hn, hG⟩
  dsimp only at *
  refine cond2 (fun h1 => ?_) (fun h1 => ?_)
  · have h1 : (i : Int) < L.length := of_decT h1
    have hlt : i < L.length := by omega
    have hr := getE hlt
    have hS := hv.grow hM
    rw [List.drop_eq_getElem_cons hlt, List.foldl_cons] at hG
    generalize L[i] = x at *
    have hsl := setStep_len r x (X, d)
    obtain ⟨gb, go, gc, e, hgb, hgr⟩ := hS.at hr
    cases e
    have hXl : X.length ≤ 500001 := by omega
    refine draw [(0, []), (1, []), (2, []), (3, []), (4, []), (5, []), (6, []), (7, []), (8, []), (9, []), (10, []), (11, [])] (by kernel_rfl) ⟨fun h2 => ⟨by omega, by omega, ld1r (w := w2.drew) (j := 0) hgr rfl (ld1 (w := w2.drew) hb1 rfl (cond2 (fun h3 => ?_) (fun h3 => ?_)))⟩, fun h2 => condF rfl ?_⟩
    · have h2 : d = false := by cases d with | false => rfl | true => cases h2
      subst h2
      rw [lt_str] at h3
      have h3 : strLt x.key r.key = false := by cases h : strLt x.key r.key with | false => rfl | true => rw [h] at h3; cases h3
      have hst : setStep r x (X, false) = (if x.key = r.key then X ++ [r] else X ++ [r] ++ [x], true) := by unfold setStep; dsimp only; rw [h3]; rfl
      refine ldB (w := w2.drew) hb1 rfl ⟨by decide, _, rfl, al fun b6 w6 e6 m6 s6 hb6 => ?_⟩
      have m6 : Mod no w2 w6 := m6
      refine more hO (by omega) m6 (Own.mk hb6 rfl rfl (by exact (by decide : 1 ≤ maxLen))) fun u3 w3 hO3 m3 f3 => ?_
      have hb13 := hb1.mod m3 hu
      have hM3 := hM.own m3 hF
      have hF3 := ge_grow f3 hM.size hF
      have hu3 := ne_grow f3 hb1.lt hu
      have hX3 : (X ++ [r]).length ≤ 500002 := by rw [List.length_append]; show _ + 1 ≤ _; omega
      clear hgr hgb hS
      have hS3 := hv.grow hM3
      obtain ⟨gb', go', gc', e', hgb', hgr'⟩ := hS3.at hr
      cases e'
      rw [hst] at hG hsl
      refine draw [(0, []), (1, []), (2, []), (3, []), (4, []), (5, []), (6, []), (7, [])] (by kernel_rfl) ⟨by omega, by omega, ld1r (w := w3.drew) (j := 0) hgr' rfl (ld1 (w := w3.drew) hb13 rfl (cond2 (fun h5 => ?_) (fun h5 => ?_)))⟩
      · have h5 : ¬ x.key = r.key := fun e => by
          rw [beq_str, decT e] at h5; cases h5
        rw [if_neg h5] at hG hsl
        refine ⟨by omega, by omega, ldN (w := w3.drew) (cs := recC x) hgr' rfl ⟨by decide, _, rfl, al fun b4 w4 e4 m4 s4 hb4 => ?_⟩⟩
        have m4 : Mod no w3 w4 := m4
        refine more hO3 (by omega) m4 (Own.mk hb4 rfl rfl (by exact (by decide : 1 ≤ maxLen))) fun v5 w5 ho5 m5 f5 => ?_
        exact ⟨(i + 1, v5, (X ++ [r]) ++ [x], true), ⟨rfl, rfl, rfl, rfl, congrArg some (ctr (by omega)), trivial⟩, ⟨by omega, hb13.mod m5 hu3, ho5, hM3.own m5 hF3, ge_grow f5 hM3.size hF3, ne_grow f5 hb13.lt hu3, by dsimp only at hsl ⊢; omega, hG⟩, by show L.length - (i + 1) < L.length - i; omega⟩
      · have h5 : x.key = r.key := Classical.byContradiction fun e => by rw [beq_str, decF e] at h5; cases h5
        rw [if_pos h5] at hG hsl
        exact ⟨(i + 1, u3, (X ++ [r]), true), ⟨rfl, rfl, rfl, rfl, congrArg some (ctr (by omega)), trivial⟩, ⟨by omega, hb13, hO3, hM3, hF3, hu3, by dsimp only at hsl ⊢; omega, hG⟩, by show L.length - (i + 1) < L.length - i; omega⟩
    · have h2 : d = false := by cases d with | false => rfl | true => cases h2
      subst h2
      rw [lt_str] at h3
      have h3 : strLt x.key r.key = true := by cases h : strLt x.key r.key with | true => rfl | false => rw [h] at h3; cases h3
      have hst : setStep r x (X, false) = (if x.key = r.key then X else X ++ [x], false) := by unfold setStep; dsimp only; rw [h3]; rfl
      have hb13 := hb1
      have hO3 := hO
      have hM3 := hM
      have hF3 := hF
      have hu3 := hu
      have hS3 := hv.grow hM3
      obtain ⟨gb', go', gc', e', hgb', hgr'⟩ := hS3.at hr
      cases e'
      rw [hst] at hG hsl
      refine draw [(0, []), (1, []), (2, []), (3, []), (4, []), (5, []), (6, []), (7, [])] (by kernel_rfl) ⟨by omega, by omega, ld1r (w := w2.drew.drew) (j := 0) hgr' rfl (ld1 (w := w2.drew.drew) hb13 rfl (cond2 (fun h5 => ?_) (fun h5 => ?_)))⟩
      · have h5 : ¬ x.key = r.key := fun e => by
          rw [beq_str, decT e] at h5; cases h5
        rw [if_neg h5] at hG hsl
        refine ⟨by omega, by omega, ldN (w := w2.drew.drew) (cs := recC x) hgr' rfl ⟨by decide, _, rfl, al fun b4 w4 e4 m4 s4 hb4 => ?_⟩⟩
        have m4 : Mod no w2 w4 := m4
        refine more hO3 (by omega) m4 (Own.mk hb4 rfl rfl (by exact (by decide : 1 ≤ maxLen))) fun v5 w5 ho5 m5 f5 => ?_
        exact ⟨(i + 1, v5, X ++ [x], false), ⟨rfl, rfl, rfl, rfl, congrArg some (ctr (by omega)), trivial⟩, ⟨by omega, hb13.mod m5 hu3, ho5, hM3.own m5 hF3, ge_grow f5 hM3.size hF3, ne_grow f5 hb13.lt hu3, by dsimp only at hsl ⊢; omega, hG⟩, by show L.length - (i + 1) < L.length - i; omega⟩
      · have h5 : x.key = r.key := Classical.byContradiction fun e => by rw [beq_str, decF e] at h5; cases h5
        rw [if_pos h5] at hG hsl
        exact ⟨(i + 1, u, X, false), ⟨rfl, rfl, rfl, rfl, congrArg some (ctr (by omega)), trivial⟩, ⟨by omega, hb13, hO3, hM3, hF3, hu3, by dsimp only at hsl ⊢; omega, hG⟩, by show L.length - (i + 1) < L.length - i; omega⟩
    · have h2 : d = true := by cases d with | true => rfl | false => cases h2
      subst h2
      have hst : setStep r x (X, true) = (if x.key = r.key then X else X ++ [x], true) := by unfold setStep; rfl
      have hb13 := hb1
      have hO3 := hO
      have hM3 := hM
      have hF3 := hF
      have hu3 := hu
      have hS3 := hv.grow hM3
      obtain ⟨gb', go', gc', e', hgb', hgr'⟩ := hS3.at hr
      cases e'
      rw [hst] at hG hsl
      refine draw [(0, []), (1, []), (2, []), (3, []), (4, []), (5, []), (6, []), (7, [])] (by kernel_rfl) ⟨by omega, by omega, ld1r (w := w2.drew.drew) (j := 0) hgr' rfl (ld1 (w := w2.drew.drew) hb13 rfl (cond2 (fun h5 => ?_) (fun h5 => ?_)))⟩
      · have h5 : ¬ x.key = r.key := fun e => by
          rw [beq_str, decT e] at h5; cases h5
        rw [if_neg h5] at hG hsl
        refine ⟨by omega, by omega, ldN (w := w2.drew.drew) (cs := recC x) hgr' rfl ⟨by decide, _, rfl, al fun b4 w4 e4 m4 s4 hb4 => ?_⟩⟩
        have m4 : Mod no w2 w4 := m4
        refine more hO3 (by omega) m4 (Own.mk hb4 rfl rfl (by exact (by decide : 1 ≤ maxLen))) fun v5 w5 ho5 m5 f5 => ?_
        exact ⟨(i + 1, v5, X ++ [x], true), ⟨rfl, rfl, rfl, rfl, congrArg some (ctr (by omega)), trivial⟩, ⟨by omega, hb13.mod m5 hu3, ho5, hM3.own m5 hF3, ge_grow f5 hM3.size hF3, ne_grow f5 hb13.lt hu3, by dsimp only at hsl ⊢; omega, hG⟩, by show L.length - (i + 1) < L.length - i; omega⟩
      · have h5 : x.key = r.key := Classical.byContradiction fun e => by rw [beq_str, decF e] at h5; cases h5
        rw [if_pos h5] at hG hsl
        exact ⟨(i + 1, u, X, true), ⟨rfl, rfl, rfl, rfl, congrArg some (ctr (by omega)), trivial⟩, ⟨by omega, hb13, hO3, hM3, hF3, hu3, by dsimp only at hsl ⊢; omega, hG⟩, by show L.length - (i + 1) < L.length - i; omega⟩
  · have hin : i = L.length := by have := of_decF h1; omega
    subst hin
    rw [List.drop_length, List.foldl_nil] at hG
    unfold refSet
    rw [← hG]
    dsimp only
    refine cond2 (fun h2 => ?_) (fun h2 => ?_)
    · have h2 : d = false := by cases d with | false => rfl | true => cases h2
      subst h2
      rw [if_neg (by decide)]
      refine ldB hb1 rfl ⟨by decide, _, rfl, al fun b4 w4 e4 m4 s4 hb4 => ?_⟩
      refine more hO (by omega) m4 (Own.mk hb4 rfl rfl (by exact (by decide : 1 ≤ maxLen))) fun v5 w5 ho5 m5 f5 => ?_
      exact ⟨ho5, hM.own m5 hF, fun k hk => by
        rcases f5 k hk with h | h
        · exact hF k h
        · have := hM.size; omega⟩
    · have h2 : d = true := by cases d with | true => rfl | false => cases h2
      subst h2
      rw [if_pos rfl]
      exact ⟨hO, hM, hF⟩
end Go.Proofs.YtffjccofglikhaaGreat
