/-
  loessref10.Records.
-/
import Derived.Test.YtffjccofglikhaaGreatCSet
namespace Go.Proofs.YtffjccofglikhaaGreat
open Go Go.RowKit

theorem setFold_len (r : Rec) : ∀ (L : List Rec) (s : List Rec × Bool), (L.foldl (fun s x => setStep r x s) s).1.length + (if (L.foldl (fun s x => setStep r x s) s).2 = true then 0 else 1) ≤ s.1.length + (if s.2 = true then 0 else 1) + L.length
  | [], s => Nat.le_refl _
  | x :: L, s => by
    have h1 := setStep_len r x s
    have h2 := setFold_len r L (setStep r x s)
    rw [List.foldl_cons, List.length_cons]
    omega
theorem refSet_len (L : List Rec) (r : Rec) : (refSet L r).length ≤ L.length + 1 := by
  have h := setFold_len r L ([], false)
  unfold refSet
  dsimp only at h ⊢
  by_cases hd : (L.foldl (fun s x => setStep r x s) ([], false)).2 = true
  · rw [if_pos hd] at h ⊢
    simp at h
    omega
  · rw [if_neg hd] at h ⊢
    rw [List.length_append]
    simp at h ⊢
    omega
def recsStep (l : List Rec) (s : Slot) : List Rec := if s.has = true then refSet l s.rec_ else l
def refRecs (t : List Slot) : List Rec := t.foldl recsStep []
theorem ref10_Records {w : World} {t : List Slot} (hl : t.length = 32) : CallV P 27 [tabV t] w fun u w' => Own cRec 30 w' u (refRecs t) ∧ Mod no w w' ∧ ∀ k, u.ownBlock = some k → w.heap.size ≤ k := by
  refine calls_of lay_is Tryz.func27 rfl (by kernel_rfl) (al fun b1 w1 e1 m1 s1 hb1 => ?_)
  have hb1 : Blk w1 b1 35 (flat cSlot t) := hb1
  refine loop (σ := Nat × Value × List Rec) (fun s => [(1, ptr b1), (3, s.2.1), (4, iV s.1)]) (fun s w' => s.1 ≤ 32 ∧ Blk w' b1 35 (flat cSlot t) ∧ Own cRec 30 w' s.2.1 s.2.2 ∧ s.2.2.length ≤ s.1 ∧ Mod no w w' ∧ (∀ k, s.2.1.ownBlock = some k → w.heap.size ≤ k) ∧ (t.drop s.1).foldl recsStep s.2.2 = refRecs t) (fun s _ => 32 - s.1) (0, .slice none 0 0, []) ⟨rfl, rfl, rfl, trivial⟩ ⟨by omega, hb1, Own.nil _ _, Nat.le_refl 0, m1, nofun, rfl⟩ ?_
  clear hb1
  rintro ⟨i, v, X⟩ w2 ⟨hi, hb1, hO, hX, hM, hF, hG⟩
  dsimp only at *
  refine cond2 (fun h1 => ?_) (fun h1 => ?_)
  · have h1 : (i : Int) < 32 := of_decT h1
    have hlt : i < t.length := by omega
    have hs := getE hlt
    rw [List.drop_eq_getElem_cons hlt, List.foldl_cons] at hG
    have eq_ : IntKind.i64.wrap ((i : Int).tdiv 4) = ((i / 4 : Nat) : Int) := by rw [Int.tdiv_eq_ediv_of_nonneg (by omega), w64 (by omega) (by omega)]; omega
    have er_ : (i : Int).tmod 4 = ((i % 4 : Nat) : Int) := by rw [Int.tmod_eq_emod_of_nonneg (by omega)]; omega
    have q0 : 0 ≤ IntKind.i64.wrap ((i : Int).tdiv 4) := by rw [eq_]; omega
    have q1 : IntKind.i64.wrap ((i : Int).tdiv 4) < (8 : Nat) := by rw [eq_]; omega
    have r0 : 0 ≤ (i : Int).tmod 4 := by rw [er_]; omega
    have r1 : (i : Int).tmod 4 < (4 : Nat) := by rw [er_]; omega
    have eo : 0 + (IntKind.i64.wrap ((i : Int).tdiv 4)).toNat * 24 + ((i : Int).tmod 4).toNat * 6 = i * 6 := by rw [eq_, er_, Int.toNat_natCast, Int.toNat_natCast]; omega
    have hat : Rd w2 b1 (0 + (IntKind.i64.wrap ((i : Int).tdiv 4)).toNat * 24 + ((i : Int).tmod 4).toNat * 6) (slotC t[i]) := by
      rw [eo]
      have := hb1.rd (i * cSlot.k) cSlot.k
      rwa [flat_at cSlot t i _ hs] at this
    have hrd := hat.part 1 5
    generalize t[i] = s at *
    have hrd : Rd w2 b1 (0 + (IntKind.i64.wrap ((i : Int).tdiv 4)).toNat * 24 + ((i : Int).tmod 4).toNat * 6 + 1) (recC s.rec_) := hrd
    refine ⟨q0, q1, r0, r1, ld1r (j := 0) hat rfl (cond2 (fun h2 => ?_) (fun h2 => ?_))⟩
    · have h2 : s.has = true := h2
      have hst : recsStep X s = refSet X s.rec_ := by unfold recsStep; rw [if_pos h2]
      rw [hst] at hG
      have hsl := refSet_len X s.rec_
      refine ⟨q0, q1, r0, r1, ldN (cs := recC s.rec_) hrd rfl (call (ref10_Set hO.slr (by omega)) ?_)⟩
      rintro u w3 ⟨hO3, m3, hF3⟩
      exact ⟨(i + 1, u, refSet X s.rec_), ⟨rfl, rfl, congrArg some (ctr (by omega)), trivial⟩, ⟨by omega, hb1.mod m3 fun h => h, hO3, by show (refSet X s.rec_).length ≤ i + 1; omega, hM.trn m3, fun k hk => by have := hF3 k hk; have := hM.size; omega, hG⟩, by show 32 - (i + 1) < 32 - i; omega⟩
    · have h2 : s.has = false := h2
      have hst : recsStep X s = X := by unfold recsStep; rw [if_neg (by rw [h2]; decide)]
      rw [hst] at hG
      exact ⟨(i + 1, v, X), ⟨rfl, rfl, congrArg some (ctr (by omega)), trivial⟩, ⟨by omega, hb1, hO, by show X.length ≤ i + 1; omega, hM, hF, hG⟩, by show 32 - (i + 1) < 32 - i; omega⟩
  · have hi32 : i = 32 := by have := of_decF h1; omega
    subst hi32
    rw [List.drop_of_length_le (by omega), List.foldl_nil] at hG
    rw [← hG]
    exact ⟨hO, hM, hF⟩
end Go.Proofs.YtffjccofglikhaaGreat
