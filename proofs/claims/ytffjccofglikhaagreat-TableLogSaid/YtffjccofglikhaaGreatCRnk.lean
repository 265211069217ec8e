/-
  rank.
-/
import Derived.Test.YtffjccofglikhaaGreatCRank
namespace Go.Proofs.YtffjccofglikhaaGreat
open Go Go.RowKit

def ones (l : List Bool) (i : Nat) : Nat := ((List.range i).filter fun j : Nat => bitsAt l (j : Int)).length
def ranks (l : List Bool) (n : Nat) : List Int := (List.range (n + 1)).map fun i => (ones l i : Int)
theorem ranks_len (l : List Bool) (n : Nat) : (ranks l n).length = n + 1 := by simp [ranks]
theorem ones_succ (l : List Bool) (i : Nat) : ones l (i + 1) = ones l i + (if bitsAt l i = true then 1 else 0) := by
  unfold ones
  rw [List.range_succ, List.filter_append, List.length_append]
  congr 1
  by_cases h : bitsAt l i = true <;> simp [h]
theorem ones_le (l : List Bool) (i : Nat) : ones l i ≤ i := by
  have := List.length_filter_le (fun j : Nat => bitsAt l j) (List.range i)
  rw [List.length_range] at this
  exact this
theorem ranks_at (l : List Bool) {n i : Nat} (h : i ≤ n) : (ranks l n)[i]? = some (ones l i : Int) := by
  unfold ranks
  rw [List.getElem?_map, List.getElem?_range (by omega)]
  rfl
theorem ranks_succ (l : List Bool) (n : Nat) : ranks l (n + 1) = ranks l n ++ [(ones l (n + 1) : Int)] := by
  unfold ranks
  rw [List.range_succ (n := n + 1), List.map_append]
  rfl
/-- A Rank. -/
structure RankR (w : World) (p : Nat) (v : Value) (l : List Bool) : Prop where
  blk : Blk w p 186 [v]
  own : Own cI 3 w v (ranks l l.length)
  ne : v.ownBlock ≠ some p
theorem RankR.mod {S : Nat → Prop} {w w' : World} {p : Nat} {v : Value} {l : List Bool} (h : RankR w p v l) (m : Mod S w w') (hp : ¬ S p) (hv : ∀ k, v.ownBlock = some k → ¬ S k) : RankR w' p v l :=
  ⟨h.blk.mod m hp, h.own.mod m hv, h.ne⟩
theorem RankR.drew {w : World} {p : Nat} {v : Value} {l : List Bool} (h : RankR w p v l) : RankR w.drew p v l := ⟨h.blk, h.own, h.ne⟩
theorem rank_Len {w : World} {p : Nat} {v : Value} {l : List Bool} (h : RankR w p v l) (hl : l.length ≤ 1000000) : CallV P 180 [ptr p] w fun r w' => r = iV l.length ∧ w' = w := by
  obtain ⟨a, cp, e⟩ := h.own.slr.len
  have hb := h.blk
  rw [e, ranks_len] at hb
  refine calls_of lay_is Tryz.func180 rfl (by kernel_rfl) (condF rfl (ld1 hb rfl ⟨?_, rfl⟩))
  have e1 : IntKind.i64.wrap ((l.length + 1 : Nat) - 1 : Int) = l.length := by rw [w64 (by omega) (by omega)]; omega
  show one [iV (if 0 < IntKind.i64.wrap (((l.length + 1 : Nat) : Int) - 1) then IntKind.i64.wrap (((l.length + 1 : Nat) : Int) - 1) else 0)] = _
  rw [e1]
  show iV _ = iV _
  congr 1
  split <;> omega
theorem rank_Ones {w : World} {p : Nat} {v : Value} {l : List Bool} {i : Int} (h : RankR w p v l) (hl : l.length ≤ 1000000) : CallV P 127 [ptr p, iV i] w fun r w' => r = iV (ones l (min (max i 0) l.length).toNat) ∧ Mod no w w' := by
  have hj : (min (max i 0) (l.length : Int)).toNat ≤ l.length := by omega
  have hx := ranks_at l hj
  obtain ⟨g, o, cp, e, hg, hr⟩ := h.own.slr.at hx
  have hb := h.blk
  rw [e, ranks_len] at hb
  refine calls_of lay_is Tryz.func127 rfl (by kernel_rfl) ⟨nofun, fun _ => ld1 hb rfl (condF ?_ (draw [(0, []), (1, []), (2, []), (3, []), (4, []), (5, []), (6, []), (7, [3]), (8, []), (9, []), (10, []), (11, [])] (by kernel_rfl) (ld1 hb rfl (call (rank_Len h.drew hl) ?_))))⟩
  · show (((l.length + 1 : Nat) : Int) == 0) = false
    cases hq : (((l.length + 1 : Nat) : Int) == 0) with
    | false => rfl
    | true => have := beqT hq; omega
  · rintro _ _ ⟨rfl, rfl⟩
    have em : (if (l.length : Int) < (if i < 0 then 0 else i) then (l.length : Int) else (if i < 0 then 0 else i)) = min (max i 0) l.length := by
      by_cases h1 : i < 0 <;> simp only [h1, if_true, if_false] <;> split <;> omega
    refine ⟨ld1 hb rfl ⟨rfl, rfl⟩, ?_⟩
    refine ⟨by rw [em]; omega, by rw [em]; omega, ?_⟩
    rw [em]
    exact ld1r (j := 0) hr rfl ⟨rfl, Mod.refl _ _⟩
theorem rank_New {w : World} {q : Nat} {u : Value} {l : List Bool} (h : BitsR w q u l) (hl : l.length ≤ 1000000) : CallV P 59 [ptr q] w fun r w' => ∃ p v, r = ptr p ∧ RankR w' p v l ∧ Mod no w w' ∧ w.heap.size ≤ p ∧ ∀ k, v.ownBlock = some k → w.heap.size ≤ k := by
  refine calls_of lay_is Tryz.func59 rfl (by kernel_rfl) ⟨by decide, _, rfl, al fun b1 w1 e1 m1 s1 hb1 => ⟨_, rfl, al fun p w2 e2 m2 s2 hb2 => ?_⟩⟩
  have hb1 : Own cI 3 w1 (.slice (some ⟨b1, 0, none⟩) 1 1) [0] := Own.mk hb1 rfl rfl (by decide)
  have hB2 := h.mod (m1.trn m2) (fun h => h) (fun _ _ h => h)
  refine call (bits_Len hB2) ?_
  rintro _ _ ⟨rfl, rfl⟩
  refine loop (σ := Nat × Value) (fun s => [(0, ptr q), (3, ptr p), (10, iV l.length), (11, iV s.1)]) (fun s w' => s.1 ≤ l.length ∧ Blk w' p 186 [s.2] ∧ Own cI 3 w' s.2 (ranks l s.1) ∧ s.2.ownBlock ≠ some p ∧ Mod no w w' ∧ (∀ k, s.2.ownBlock = some k → w.heap.size ≤ k)) (fun s _ => l.length - s.1) (0, .slice (some ⟨b1, 0, none⟩) 1 1) ⟨rfl, rfl, rfl, rfl, trivial⟩ ⟨by omega, hb2, hb1.grow m2, fun e => by have : b1 = p := Option.some.inj e; omega, m1.trn m2, fun k hk => by have : b1 = k := Option.some.inj hk; omega⟩ ?_
  rintro ⟨i, v⟩ w3 ⟨hi, hB, hO, hv, hM, hF⟩
  dsimp only at *
  refine cond2 (fun h3 => ?_) (fun h3 => ?_)
  · have h3 : (i : Int) < l.length := of_decT h3
    have hx := ranks_at l (Nat.le_refl i)
    obtain ⟨g, o, cp, e, hg, hr⟩ := hO.slr.at hx
    subst e
    have hQ := h.mod hM (fun h => h) (fun _ _ h => h)
    refine ld1 hB rfl ⟨by omega, by rw [ranks_len]; omega, ld1r (j := 0) hr rfl (call (bits_At (i := i) hQ hl) ?_)⟩
    rintro _ _ ⟨rfl, rfl⟩
    have on := ones_succ l i
    have ol := ones_le l i
    have fin : ∀ (w7 : World) (v2 : Value), Blk w7 p 186 [v2] → Own cI 3 w7 v2 (ranks l i ++ [(ones l (i + 1) : Int)]) → v2.ownBlock ≠ some p → Mod no w w7 → (∀ k, v2.ownBlock = some k → w.heap.size ≤ k) →
        i + 1 ≤ l.length ∧ Blk w7 p 186 [v2] ∧ Own cI 3 w7 v2 (ranks l (i + 1)) ∧ v2.ownBlock ≠ some p ∧ Mod no w w7 ∧ (∀ k, v2.ownBlock = some k → w.heap.size ≤ k) := by
      intro w7 v2 h1 h2 h3' h4 h5
      rw [← ranks_succ] at h2
      exact ⟨by omega, h1, h2, h3', h4, h5⟩
    refine cond2 (fun h4 => ?_) (fun h4 => ?_)
    · have hn : IntKind.i64.wrap ((ones l i : Int) + 1) = ones l (i + 1) := by rw [w64 (by omega) (by omega), on, if_pos h4]; rfl
      refine ld1 hB rfl ⟨by decide, _, rfl, al fun b4 w4 e4 m4 s4 hb4 => ?_⟩
      have hx2 : Own cI 3 w4 (.slice (some ⟨b4, 0, none⟩) 1 1) [IntKind.i64.wrap ((ones l i : Int) + 1)] := Own.mk hb4 rfl rfl (by exact (by decide : 1 ≤ maxLen))
      rw [hn] at hx2
      refine app lay_is rfl (hO.grow m4) hx2.slr (by rw [ranks_len]; simp; omega) fun v2 w5 ho m5 f5 => ?_
      obtain ⟨a2, n2, c2, e2⟩ := ho.form
      subst e2
      have hgp : g ≠ p := fun e => hv (e ▸ rfl)
      have hB5 : Blk w5 p 186 _ := (hB.mod m4 fun h => h).mod m5 fun e => hv e
      refine st1 hB5 (by exact (by decide : 0 < 1)) rfl fun w6 m6 s6 hB6 => ?_
      generalize Value.slice a2 n2 c2 = v2 at *
      have h2 : ∀ k, v2.ownBlock = some k → w.heap.size ≤ k := fun k hk => by
        rcases f5 k hk with h | h
        · exact hF k h
        · have := m4.size; have := hM.size; omega
      have hv2 : v2.ownBlock ≠ some p := fun e => by
        rcases f5 p e with h | h
        · exact hv h
        · have := hB.lt; have := m4.size; omega
      exact ⟨(i + 1, v2), ⟨rfl, rfl, rfl, congrArg some (ctr (i := i) (by omega)), trivial⟩, fin w6 v2 hB6 (ho.mod m6 fun k hk e => hv2 (e ▸ hk)) hv2 ((((hM.trn m4).tr m5 fun k hk e => by have := hF k e; omega)).new m6 (by omega)) h2, by show l.length - (i + 1) < l.length - i; omega⟩
    · have hn : (ones l i : Int) = ones l (i + 1) := by rw [on, if_neg (by rw [h4]; exact Bool.false_ne_true)]; rfl
      refine ld1 hB rfl ⟨by decide, _, rfl, al fun b4 w4 e4 m4 s4 hb4 => ?_⟩
      have hx2 : Own cI 3 w4 (.slice (some ⟨b4, 0, none⟩) 1 1) [(ones l i : Int)] := Own.mk hb4 rfl rfl (by exact (by decide : 1 ≤ maxLen))
      rw [hn] at hx2
      refine app lay_is rfl (hO.grow m4) hx2.slr (by rw [ranks_len]; simp; omega) fun v2 w5 ho m5 f5 => ?_
      obtain ⟨a2, n2, c2, e2⟩ := ho.form
      subst e2
      have hgp : g ≠ p := fun e => hv (e ▸ rfl)
      have hB5 : Blk w5 p 186 _ := (hB.mod m4 fun h => h).mod m5 fun e => hv e
      refine st1 hB5 (by exact (by decide : 0 < 1)) rfl fun w6 m6 s6 hB6 => ?_
      generalize Value.slice a2 n2 c2 = v2 at *
      have h2 : ∀ k, v2.ownBlock = some k → w.heap.size ≤ k := fun k hk => by
        rcases f5 k hk with h | h
        · exact hF k h
        · have := m4.size; have := hM.size; omega
      have hv2 : v2.ownBlock ≠ some p := fun e => by
        rcases f5 p e with h | h
        · exact hv h
        · have := hB.lt; have := m4.size; omega
      exact ⟨(i + 1, v2), ⟨rfl, rfl, rfl, congrArg some (ctr (i := i) (by omega)), trivial⟩, fin w6 v2 hB6 (ho.mod m6 fun k hk e => hv2 (e ▸ hk)) hv2 ((((hM.trn m4).tr m5 fun k hk e => by have := hF k e; omega)).new m6 (by omega)) h2, by show l.length - (i + 1) < l.length - i; omega⟩
  · have hin : i = l.length := by have := of_decF h3; omega
    subst hin
    exact ⟨p, v, rfl, ⟨hB, hO, hv⟩, hM, by omega, hF⟩
end Go.Proofs.YtffjccofglikhaaGreat
