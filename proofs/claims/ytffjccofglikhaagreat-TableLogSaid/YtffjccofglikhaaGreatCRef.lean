/-
  What the laws cut, loessref10's lists.
-/
import Derived.Test.YtffjccofglikhaaGreatCOpen
namespace Go.Proofs.YtffjccofglikhaaGreat
open Go Go.RowKit

theorem extract_str (s : Str) (n : Nat) : ((⟨s.toArray⟩ : ByteArray).extract 0 n) = ⟨(s.take n).toArray⟩ := by
  apply ByteArray.ext
  simp [ByteArray.data_extract]
theorem law3_Cut {w : World} {s : Str} {n : Nat} : CallV P 84 [sV s, iV n] w fun r w' => r = sV (s.take n) ∧ w' = w := by
  refine calls_of lay_is Tryz.func84 rfl (by kernel_rfl) (cond2 (fun h => ?_) (fun h => ?_))
  · have h : (n : Int) < s.length := of_decT h
    refine ⟨by omega, by omega, ?_, ?_⟩
    · show (n : Int) ≤ (s.length : Nat); omega
    · refine ⟨?_, rfl⟩
      show Value.string ((⟨s.toArray⟩ : ByteArray).extract 0 n) = _
      rw [extract_str]
  · have h : ¬ (n : Int) < s.length := of_decF h
    rw [List.take_of_length_le (by omega)]
    exact ⟨rfl, rfl⟩
def rawCut (r : Raw) : Raw := ⟨r.kind, r.n, r.s.take 30⟩
def recCut (r : Rec) : Rec := ⟨r.key.take 20, r.gone, rawCut r.val⟩
theorem law4_Cut {w : World} {r : Raw} : CallV P 103 [rawV r] w fun v w' => v = rawV (rawCut r) ∧ Mod no w w' := by
  refine calls_of lay_is Tryz.func103 rfl (by kernel_rfl) (al fun b1 w1 e1 m1 s1 hb1 => al fun b2 w2 e2 m2 s2 hb2 => ?_)
  have hb1 : Blk w2 b1 27 (rawC r) := Blk.mod hb1 m2 fun h => h
  have hm : Mod no w w2 := m1.trn m2
  refine ld1 hb1 rfl (call (law3_Cut (n := 30)) ?_)
  rintro _ _ ⟨rfl, rfl⟩
  refine st1 hb1 (by exact (by decide : 2 < 3)) rfl fun w3 m3 s3 hb3 => ?_
  have hb3 : Blk w3 b1 27 (rawC (rawCut r)) := hb3
  refine ldB hb3 rfl (st (hb2.mod m3 (by omega)) rfl (by decide) (rawC_one _) fun w4 m4 s4 hb4 => ldB hb4 rfl ⟨rfl, (hm.new m3 (by omega)).new m4 (by omega)⟩)
theorem law10_Cut {w : World} {r : Rec} : CallV P 48 [recV r] w fun v w' => v = recV (recCut r) ∧ Mod no w w' := by
  refine calls_of lay_is Tryz.func48 rfl (by kernel_rfl) (al fun b1 w1 e1 m1 s1 hb1 => al fun b2 w2 e2 m2 s2 hb2 => ?_)
  have hb1 : Blk w2 b1 30 (recC r) := Blk.mod hb1 m2 fun h => h
  have hm : Mod no w w2 := m1.trn m2
  have rdr : ∀ w', Blk w' b1 30 (recC r) → Rd w' b1 2 (rawC r.val) := fun w' hb => hb.rd 2 3
  refine draw [(0, []), (1, []), (3, []), (4, []), (2, [4]), (6, []), (5, []), (7, []), (8, []), (9, [])] (by kernel_rfl) (ld1 hb1 rfl (ldN (w := w2.drew) (cs := rawC r.val) (rdr _ hb1) rfl (call (law3_Cut (n := 20)) ?_)))
  rintro _ w3 ⟨rfl, rfl⟩
  have hb1' : Blk w2.drew b1 30 (recC r) := hb1
  refine ⟨ldN (cs := rawC r.val) (rdr _ hb1') rfl ⟨rfl, rfl⟩, call law4_Cut ?_⟩
  rintro _ w4 ⟨rfl, m4⟩
  have m4 : Mod no w2 w4 := m4
  have hb14 : Blk w4 b1 30 (recC r) := hb1.mod m4 fun h => h
  have hb24 := hb2.mod m4 fun h => h
  refine st1 hb14 (by exact (by decide : 0 < 5)) rfl fun w5 m5 s5 hb5 => ?_
  refine st hb5 rfl (by exact (by decide : 5 ≤ 5)) (rawC_one _) fun w6 m6 s6 hb6 => ?_
  have hb6 : Blk w6 b1 30 (recC (recCut r)) := hb6
  have hM6 : Mod no w w6 := ((hm.trn m4).new m5 (by omega)).new m6 (by omega)
  exact ldB hb6 rfl (st ((hb24.mod m5 (by omega)).mod m6 (by omega)) rfl (by decide) (recC_one _) fun w7 m7 s7 hb7 => ldB hb7 rfl ⟨rfl, hM6.new m7 (by omega)⟩)
theorem ref10_Find {w : World} {v : Value} {L : List Rec} {k : Str} (hv : SlR cRec w v L) (hl : L.length ≤ 2147483000) : CallV P 49 [v, sV k] w fun r w' => r = .tuple #[recV (recFind k L).1, .bool (recFind k L).2] ∧ Mod no w w' := by
  obtain ⟨a, cp, rfl⟩ := hv.len
  refine calls_of lay_is Tryz.func49 rfl (by kernel_rfl) (al fun b1 w1 e1 m1 s1 hb1 => ?_)
  have hb1 : Blk w1 b1 30 (recC Rec.zero) := hb1
  refine loop (σ := Nat) (fun s => [(0, .slice a L.length cp), (1, sV k), (4, ptr b1), (6, iV s)]) (fun s w' => w' = w1 ∧ s ≤ L.length ∧ recFind k (L.drop s) = recFind k L) (fun s _ => L.length - s) 0 ⟨rfl, rfl, rfl, rfl, trivial⟩ ⟨rfl, by omega, rfl⟩ ?_
  rintro i w3 ⟨rfl, hi, hG⟩
  have hS := hv.grow m1
  refine cond2 (fun h1 => ?_) (fun h1 => ?_)
  · have h1 : (i : Int) < L.length := of_decT h1
    have hlt : i < L.length := by omega
    have hr := getE hlt
    rw [List.drop_eq_getElem_cons hlt, recFind] at hG
    generalize L[i] = r at *
    obtain ⟨gb, go, gc, e, hgb, hgr⟩ := hS.at hr
    cases e
    refine ⟨by omega, by omega, ld1r (j := 0) hgr rfl (cond2 (fun h2 => ?_) (fun h2 => ?_))⟩
    · rw [beq_str] at h2
      rw [if_pos (of_decT h2)] at hG
      rw [← hG]
      refine ⟨by omega, by omega, ldN (cs := recC r) hgr rfl (st hb1 rfl (by decide) (recC_one _) fun w6 m6 s6 hb6 => ldB hb6 rfl ⟨rfl, m1.new m6 (by omega)⟩)⟩
    · rw [beq_str] at h2
      rw [if_neg (of_decF h2)] at hG
      exact ⟨i + 1, ⟨rfl, rfl, rfl, congrArg some (ctr (by omega)), trivial⟩, ⟨rfl, by omega, hG⟩, by omega⟩
  · have hin : i = L.length := by have := of_decF h1; omega
    subst hin
    rw [List.drop_length] at hG
    rw [← hG]
    exact ⟨_, rfl, st hb1 rfl (by decide) (by decide) fun w6 m6 s6 hb6 => ldB hb6 rfl ⟨rfl, m1.new m6 (by omega)⟩⟩
theorem ref1_MayKey {w : World} {s : Str} : CallV P 104 [sV s] w fun r w' => r = .bool (keyMay s) ∧ w' = w := by
  have hk : keyMay s = (decide (1 ≤ (s.length : Int)) && decide ((s.length : Int) ≤ 16)) := by
    unfold keyMay
    congr 1
    · exact decide_eq_decide.2 ⟨fun h => by have := List.length_pos_iff.2 h; omega, fun h => by rintro rfl; simp at h⟩
    · exact decide_eq_decide.2 ⟨fun h => by omega, fun h => by omega⟩
  refine calls_of lay_is Tryz.func104 rfl (by kernel_rfl) ⟨fun h => ⟨?_, rfl⟩, fun h => ⟨?_, rfl⟩⟩
  · rw [hk]
    have h : decide (1 ≤ (s.length : Int)) = true := h
    rw [h]; rfl
  · rw [hk]
    have h : decide (1 ≤ (s.length : Int)) = false := h
    rw [h]; rfl
theorem ref1_EqVal {w : World} {a b : Raw} : CallV P 72 [rawV a, rawV b] w fun r w' => r = .bool (decide (a = b)) ∧ Mod no w w' := by
  have hd : decide (a = b) = (decide (a.kind = b.kind) && decide (a.n = b.n) && decide (a.s = b.s)) := by
    obtain ⟨k1, n1, s1⟩ := a
    obtain ⟨k2, n2, s2⟩ := b
    by_cases h1 : k1 = k2 <;> by_cases h2 : n1 = n2 <;> by_cases h3 : s1 = s2 <;> simp [h1, h2, h3]
  refine calls_of lay_is Tryz.func72 rfl (by kernel_rfl) (al fun b1 w1 e1 m1 s1 hb1 => al fun b2 w2 e2 m2 s2 hb2 => ?_)
  have hb1 : Blk w2 b1 27 (rawC a) := Blk.mod hb1 m2 fun h => h
  have hb2 : Blk w2 b2 27 (rawC b) := hb2
  have hm : Mod no w w2 := m1.trn m2
  refine ld1 hb1 rfl (ld1 hb2 rfl ⟨fun h1 => ld1 hb1 rfl (ld1 hb2 rfl ⟨fun h2 => ld1 hb1 rfl (ld1 hb2 rfl ⟨?_, hm⟩), fun h2 => ⟨?_, hm⟩⟩), fun h1 => ⟨nofun, fun _ => ⟨?_, hm⟩⟩⟩)
  · rw [hd, decT (beqT h1), decT (beqT h2)]
    show Value.bool (_ == _) = _
    rw [beq_str]; rfl
  · rw [hd, decF (beqF h2), Bool.and_false, Bool.false_and]; rfl
  · rw [hd, decF (beqF h1), Bool.false_and, Bool.false_and]; rfl
theorem ref10_Eq {w : World} {a b : Rec} : CallV P 24 [recV a, recV b] w fun r w' => r = .bool (decide (a = b)) ∧ Mod no w w' := by
  have hd : decide (a = b) = (decide (a.key = b.key) && (a.gone == b.gone) && decide (a.val = b.val)) := by
    obtain ⟨k1, n1, s1⟩ := a
    obtain ⟨k2, n2, s2⟩ := b
    by_cases h1 : k1 = k2 <;> by_cases h2 : n1 = n2 <;> by_cases h3 : s1 = s2 <;> simp [h1, h2, h3]
  refine calls_of lay_is Tryz.func24 rfl (by kernel_rfl) (al fun b1 w1 e1 m1 s1 hb1 => al fun b2 w2 e2 m2 s2 hb2 => ?_)
  have hb1 : Blk w2 b1 30 (recC a) := Blk.mod hb1 m2 fun h => h
  have hb2 : Blk w2 b2 30 (recC b) := hb2
  have hm : Mod no w w2 := m1.trn m2
  refine ld1 hb1 rfl (ld1 hb2 rfl ⟨fun h1 => ld1 hb1 rfl (ld1 hb2 rfl ⟨fun h2 => ldN (cs := rawC a.val) (hb1.rd 2 3) rfl (ldN (cs := rawC b.val) (hb2.rd 2 3) rfl (call ref1_EqVal ?_)), fun h2 => ⟨?_, hm⟩⟩), fun h1 => ⟨nofun, fun _ => ⟨?_, hm⟩⟩⟩)
  · rintro _ w3 ⟨rfl, m3⟩
    rw [beq_str] at h1
    have h2 : (a.gone == b.gone) = true := h2
    rw [hd, h1, h2]
    exact ⟨rfl, hm.trn m3⟩
  · have h2 : (a.gone == b.gone) = false := h2
    rw [hd, h2, Bool.and_false, Bool.false_and]; rfl
  · rw [beq_str] at h1
    rw [hd, h1, Bool.false_and, Bool.false_and]; rfl
end Go.Proofs.YtffjccofglikhaaGreat
