/-
  value.Get, record.Get.
-/
import Derived.Test.YtffjccofglikhaaGreatCRec
namespace Go.Proofs.YtffjccofglikhaaGreat
open Go Go.RowKit

/-- What is left of a slice. -/
theorem SlR.from {w : World} {v : Value} {bs : List UInt8} (h : SlR cB w v bs) {at_ : Int} (h0 : 0 < at_) (h1 : at_ ≤ bs.length) : ∃ b o cp, v = .slice (some ⟨b, o, none⟩) bs.length cp ∧ bs.length ≤ cp ∧ SlR cB w (.slice (some ⟨b, if cp = at_.toNat then o else o + at_.toNat * 1, none⟩) ((bs.length : Int).toNat - at_.toNat) (cp - at_.toNat)) (bs.drop at_.toNat) := by
  have hne : bs ≠ [] := by rintro rfl; simp at h1; omega
  obtain ⟨b, o, cp, rfl, hb, hr⟩ := h.ne hne
  have hcp : bs.length ≤ cp := by obtain ⟨_, _, _, e, h5, h6, _⟩ := h; cases e; omega
  refine ⟨b, o, cp, rfl, hcp, ?_⟩
  have := h.sub (l := at_.toNat) (r := bs.length) (by omega) (by omega)
  rwa [List.take_of_length_le (by simp)] at this
def valMid (bs : List UInt8) (k : Int) : Raw × Int × Int :=
  if k = 1 then (⟨1, (numGet bs).1, []⟩, (numGet bs).2.1, (numGet bs).2.2)
  else if k = 2 then (⟨2, 0, (numGetText bs).1⟩, (numGetText bs).2.1, (numGetText bs).2.2) else (⟨k, 0, []⟩, 0, 1)
def valGet (bs : List UInt8) : Raw × Int × Int :=
  if (numGet bs).2.2 ≠ 0 then (Raw.zero, 0, (numGet bs).2.2) else
  let p := valMid (bs.drop (numGet bs).2.1.toNat) (numGet bs).1
  let e : Int := if p.2.2 = 0 then (if rawOk p.1 then 0 else 1) else p.2.2
  if e ≠ 0 then (Raw.zero, 0, e) else (p.1, IntKind.i64.wrap ((numGet bs).2.1 + p.2.1), 0)
theorem beqT {a b : Int} (h : (a == b) = true) : a = b := eq_of_beq h
theorem beqF {a b : Int} (h : (a == b) = false) : a ≠ b := fun e => by rw [beq_iff_eq.2 e] at h; cases h
theorem bneT {a b : Int} (h : (!(a == b)) = true) : a ≠ b := fun e => by rw [beq_iff_eq.2 e] at h; cases h
theorem bneF {a b : Int} (h : (!(a == b)) = false) : a = b := by cases hb : a == b with | true => exact eq_of_beq hb | false => rw [hb] at h; cases h
theorem numGetText_len (bs : List UInt8) : (numGetText bs).1.length ≤ bs.length := by
  unfold numGetText
  split
  · simp
  · split
    · simp
    · split
      · simp
      · simp only [List.length_take, List.length_drop]; omega
theorem rawC_one (r : Raw) : ∀ v ∈ rawC r, v.oneCell' = true := by
  intro v hv
  simp only [rawC, List.mem_cons, List.not_mem_nil, or_false] at hv
  rcases hv with rfl | rfl | rfl <;> rfl
theorem recC_one (r : Rec) : ∀ v ∈ recC r, v.oneCell' = true := by
  intro v hv
  simp only [recC, List.mem_cons, List.not_mem_nil, or_false] at hv
  rcases hv with rfl | rfl | rfl | rfl | rfl <;> rfl
theorem value_Get {w : World} {v : Value} {bs : List UInt8} (hv : SlR cB w v bs) (hl : bs.length ≤ 2147483000) : CallV P 196 [v] w fun r w' => r = .tuple #[rawV (valGet bs).1, iV (valGet bs).2.1, iV (valGet bs).2.2] ∧ Mod no w w' := by
  refine calls_of lay_is Tryz.func196 rfl (by kernel_rfl) (al fun b1 w1 e1 m1 s1 hb1 => ?_)
  refine call (num_Get (hv.grow m1) (by omega)) ?_
  rintro _ _ ⟨rfl, rfl⟩
  have hok := @numGet_ok bs
  unfold valGet
  generalize numGet bs = g at *
  obtain ⟨k, a, e⟩ := g
  dsimp only at *
  refine cond2 (fun h => ?_) (fun h => ?_)
  · rw [if_pos (bneT h)]
    refine ⟨_, rfl, st hb1 rfl (by decide) (by decide) fun w4 m4 s4 hb4 => ldB hb4 rfl ⟨rfl, m1.new m4 (by omega)⟩⟩
  · have h := bneF h
    subst h
    rw [if_neg (by simp)]
    obtain ⟨ha0, ha1⟩ := hok rfl
    obtain ⟨b, o, cp, rfl, hcp, hs⟩ := hv.from ha0 ha1
    refine ⟨_, rfl, al fun b2 w2 e2 m2 s2 hb2 => ?_⟩
    refine st (vs := rawC ⟨k, 0, []⟩) hb2 rfl (by decide) (rawC_one _) fun w3 m3 s3 hb3 => ?_
    have hb3 : Blk w3 b2 27 (rawC ⟨k, 0, []⟩) := hb3
    have m03 : Mod no w w3 := (m1.trn m2).new m3 (by omega)
    have hb13 : Blk w3 b1 27 (rawC Raw.zero) := (hb1.mod m2 fun h => h).mod m3 (by omega)
    have hs3 := hs.grow m03
    generalize hbs : bs.drop a.toNat = bs' at *
    have hl' : bs'.length ≤ 2147483000 := by rw [← hbs, List.length_drop]; omega
    have hlt := numGetText_len bs'
    refine cond2 (fun h1 => ?_) (fun h1 => cond2 (fun h2 => ?_) (fun h2 => ?_))
    · have e1 : k = 1 := beqT h1
      subst e1
      refine ⟨Int.le_of_lt ha0, by omega, by omega, ?_⟩
      refine call (num_Get hs3 (by omega)) ?_
      rintro _ _ ⟨rfl, rfl⟩
      refine st1 hb3 (by decide) rfl fun w4 m4 s4 hb4 => ?_
      have m04 : Mod no w w4 := m03.new m4 (by omega)
      have hb14 := hb13.mod m4 (by omega)
      have hv : valMid bs' 1 = (⟨1, (numGet bs').1, []⟩, (numGet bs').2.1, (numGet bs').2.2) := rfl
      have hb4 : Blk w4 b2 27 (rawC ⟨1, (numGet bs').1, []⟩) := hb4
      have hpl : (⟨1, (numGet bs').1, []⟩ : Raw).s.length ≤ 2147483000 := by simp
      rw [hv]
      dsimp only
      refine cond2 (fun h5 => ?_) (fun h5 => ?_)
      · have h5 : (numGet bs').2.2 = 0 := beqT h5
        rw [h5, if_pos rfl]
        refine ldB hb4 rfl (call (value_Of hpl) ?_)
        rintro _ w5 ⟨⟨c, hc, rfl⟩, m5⟩
        have m05 : Mod no w w5 := m04.trn m5
        have hb15 := hb14.mod m5 fun h => h
        have hb5 := hb4.mod m5 fun h => h
        refine cond2 (fun h6 => ?_) (fun h6 => ?_)
        · have h6 := bneT h6
          rw [if_pos h6]
          exact ⟨_, rfl, st hb15 rfl (by decide) (by decide) fun w6 m6 s6 hb6 => ldB hb6 rfl ⟨rfl, m05.new m6 (by omega)⟩⟩
        · have h6 := bneF h6
          rw [if_neg (by rw [h6]; decide)]
          exact ldB hb5 rfl (st hb15 rfl (by decide) (rawC_one _) fun w6 m6 s6 hb6 => ldB hb6 rfl ⟨rfl, m05.new m6 (by omega)⟩)
      · have h5 : (numGet bs').2.2 ≠ 0 := beqF h5
        rw [if_neg h5, if_pos h5]
        refine condT (by show (!((numGet bs').2.2 == 0)) = true; cases hq : ((numGet bs').2.2 == 0) with | true => exact absurd (beqT hq) h5 | false => rfl) ?_
        exact ⟨_, rfl, st hb14 rfl (by decide) (by decide) fun w6 m6 s6 hb6 => ldB hb6 rfl ⟨rfl, m04.new m6 (by omega)⟩⟩
    · have e1 : k ≠ 1 := beqF h1
      have e2 : k = 2 := beqT h2
      subst e2
      refine ⟨Int.le_of_lt ha0, by omega, by omega, ?_⟩
      refine call (num_GetText hs3 (by omega)) ?_
      rintro _ _ ⟨rfl, rfl⟩
      refine st1 hb3 (by decide) rfl fun w4 m4 s4 hb4 => ?_
      have m04 : Mod no w w4 := m03.new m4 (by omega)
      have hb14 := hb13.mod m4 (by omega)
      have hv : valMid bs' 2 = (⟨2, 0, (numGetText bs').1⟩, (numGetText bs').2.1, (numGetText bs').2.2) := rfl
      have hb4 : Blk w4 b2 27 (rawC ⟨2, 0, (numGetText bs').1⟩) := hb4
      have hpl : (⟨2, 0, (numGetText bs').1⟩ : Raw).s.length ≤ 2147483000 := by show (numGetText bs').1.length ≤ _; omega
      rw [hv]
      dsimp only
      refine cond2 (fun h5 => ?_) (fun h5 => ?_)
      · have h5 : (numGetText bs').2.2 = 0 := beqT h5
        rw [h5, if_pos rfl]
        refine ldB hb4 rfl (call (value_Of hpl) ?_)
        rintro _ w5 ⟨⟨c, hc, rfl⟩, m5⟩
        have m05 : Mod no w w5 := m04.trn m5
        have hb15 := hb14.mod m5 fun h => h
        have hb5 := hb4.mod m5 fun h => h
        refine cond2 (fun h6 => ?_) (fun h6 => ?_)
        · have h6 := bneT h6
          rw [if_pos h6]
          exact ⟨_, rfl, st hb15 rfl (by decide) (by decide) fun w6 m6 s6 hb6 => ldB hb6 rfl ⟨rfl, m05.new m6 (by omega)⟩⟩
        · have h6 := bneF h6
          rw [if_neg (by rw [h6]; decide)]
          exact ldB hb5 rfl (st hb15 rfl (by decide) (rawC_one _) fun w6 m6 s6 hb6 => ldB hb6 rfl ⟨rfl, m05.new m6 (by omega)⟩)
      · have h5 : (numGetText bs').2.2 ≠ 0 := beqF h5
        rw [if_neg h5, if_pos h5]
        refine condT (by show (!((numGetText bs').2.2 == 0)) = true; cases hq : ((numGetText bs').2.2 == 0) with | true => exact absurd (beqT hq) h5 | false => rfl) ?_
        exact ⟨_, rfl, st hb14 rfl (by decide) (by decide) fun w6 m6 s6 hb6 => ldB hb6 rfl ⟨rfl, m04.new m6 (by omega)⟩⟩
    · have e1 : k ≠ 1 := beqF h1
      have e2 : k ≠ 2 := beqF h2
      have hv : valMid bs' k = (⟨k, 0, []⟩, 0, 1) := by unfold valMid; rw [if_neg e1, if_neg e2]
      rw [hv]
      exact condF rfl (condT rfl ⟨_, rfl, st hb13 rfl (by decide) (by decide) fun w6 m6 s6 hb6 => ldB hb6 rfl ⟨rfl, m03.new m6 (by omega)⟩⟩)
theorem valGet_err (bs : List UInt8) : (valGet bs).2.2 = 0 → 0 < (numGet bs).2.1 := by
  unfold valGet
  split
  · intro h; contradiction
  · rename_i h; intro _; exact (numGet_ok (by omega)).1
theorem numGetText_ok {bs : List UInt8} (h : (numGetText bs).2.2 = 0) : 0 < (numGetText bs).2.1 ∧ (numGetText bs).2.1 ≤ bs.length := by
  have hok := @numGet_ok bs
  unfold numGetText at h ⊢
  generalize numGet bs = g at *
  obtain ⟨k, a, e⟩ := g
  dsimp only at *
  by_cases h1 : e = 0
  · have := hok h1
    rw [if_neg (by simp [h1])] at h ⊢
    by_cases h2 : k < 0 ∨ 65536 < k
    · rw [if_pos h2] at h; cases h
    · rw [if_neg h2] at h ⊢
      by_cases h3 : (bs.length : Int) - a < k
      · rw [if_pos h3] at h; cases h
      · rw [if_neg h3]; dsimp only; omega
  · rw [if_pos h1] at h; exact absurd h h1
def recMid (s : Str) (bs : List UInt8) : Rec × Int × Int :=
  if (numGet bs).2.2 ≠ 0 then (⟨s, false, Raw.zero⟩, (numGet bs).2.1, (numGet bs).2.2)
  else if (numGet bs).1 = 0 then (⟨s, true, Raw.zero⟩, (numGet bs).2.1, 0) else (⟨s, false, (valGet bs).1⟩, (valGet bs).2.1, (valGet bs).2.2)
def recGet (bs : List UInt8) : Rec × Int × Int :=
  let g := numGetText bs
  let e : Int := if g.2.2 = 0 ∧ keyMay g.1 = false then 1 else g.2.2
  if e ≠ 0 then (Rec.zero, 0, e) else
  let p := recMid g.1 (bs.drop g.2.1.toNat)
  if p.2.2 ≠ 0 then (Rec.zero, 0, p.2.2) else (p.1, IntKind.i64.wrap (g.2.1 + p.2.1), 0)
theorem record_Get {w : World} {v : Value} {bs : List UInt8} (hv : SlR cB w v bs) (hl : bs.length ≤ 2147483000) : CallV P 157 [v] w fun r w' => r = .tuple #[recV (recGet bs).1, iV (recGet bs).2.1, iV (recGet bs).2.2] ∧ Mod no w w' := by
  refine calls_of lay_is Tryz.func157 rfl (by kernel_rfl) (al fun b1 w1 e1 m1 s1 hb1 => ?_)
  refine call (num_GetText (hv.grow m1) (by omega)) ?_
  rintro _ _ ⟨rfl, rfl⟩
  have hok := @numGetText_ok bs
  unfold recGet
  generalize numGetText bs = g at *
  obtain ⟨k, a, e⟩ := g
  dsimp only at *
  have bad : ∀ {e : Int}, e ≠ 0 → (!(e == 0)) = true := fun {e} h => by cases hq : (e == 0) with | true => exact absurd (beqT hq) h | false => rfl
  refine ⟨fun h => call key_May ?_, fun h => condF rfl (condT ?_ ?_)⟩
  · have h : e = 0 := beqT h
    subst h
    rintro _ _ ⟨rfl, rfl⟩
    refine cond2 (fun h => ?_) (fun h => condF rfl ?_)
    · have hk : keyMay k = false := by cases hk : keyMay k with | false => rfl | true => rw [hk] at h; cases h
      have he : (if (0 : Int) = 0 ∧ keyMay k = false then (1 : Int) else 0) = 1 := if_pos ⟨rfl, hk⟩
      rw [he, if_pos (by decide)]
      exact condT rfl ⟨_, rfl, st hb1 rfl (by decide) (by decide) fun w6 m6 s6 hb6 => ldB hb6 rfl ⟨rfl, m1.new m6 (by omega)⟩⟩
    · have hk : keyMay k = true := by cases hk : keyMay k with | true => rfl | false => rw [hk] at h; cases h
      have he : (if (0 : Int) = 0 ∧ keyMay k = false then (1 : Int) else 0) = 0 := if_neg (by simp [hk])
      rw [he, if_neg (fun h => h rfl)]
      obtain ⟨ha0, ha1⟩ := hok rfl
      obtain ⟨b, o, cp, rfl, hcp, hs⟩ := hv.from ha0 ha1
      refine ⟨_, rfl, al fun b2 w2 e2 m2 s2 hb2 => ?_⟩
      refine st (vs := recC ⟨k, false, Raw.zero⟩) hb2 rfl (by decide) (recC_one _) fun w3 m3 s3 hb3 => ?_
      have hb3 : Blk w3 b2 30 (recC ⟨k, false, Raw.zero⟩) := hb3
      have m03 : Mod no w w3 := (m1.trn m2).new m3 (by omega)
      have hb13 : Blk w3 b1 30 (recC Rec.zero) := (hb1.mod m2 fun h => h).mod m3 (by omega)
      have hs3 := hs.grow m03
      generalize hbs : bs.drop a.toNat = bs' at *
      have hl' : bs'.length ≤ 2147483000 := by rw [← hbs, List.length_drop]; omega
      refine ⟨Int.le_of_lt ha0, by omega, by omega, ?_⟩
      refine call (num_Get hs3 (by omega)) ?_
      rintro _ _ ⟨rfl, rfl⟩
      refine cond2 (fun h1 => ?_) (fun h1 => cond2 (fun h2 => ?_) (fun h2 => ?_))
      · have h1 := bneT h1
        have hv : recMid k bs' = (⟨k, false, Raw.zero⟩, (numGet bs').2.1, (numGet bs').2.2) := by unfold recMid; rw [if_pos h1]
        rw [hv]
        dsimp only
        rw [if_pos h1]
        exact condT (bad h1) ⟨_, rfl, st hb13 rfl (by decide) (by decide) fun w6 m6 s6 hb6 => ldB hb6 rfl ⟨rfl, m03.new m6 (by omega)⟩⟩
      · have h1 := bneF h1
        have h2 := beqT h2
        have hv : recMid k bs' = (⟨k, true, Raw.zero⟩, (numGet bs').2.1, 0) := by unfold recMid; rw [if_neg (by simp [h1]), if_pos h2]
        rw [hv]
        dsimp only
        rw [if_neg (fun h => h rfl)]
        refine st1 hb3 (by exact (by decide : 1 < 5)) rfl fun w4 m4 s4 hb4 => ?_
        have hb4 : Blk w4 b2 30 (recC ⟨k, true, Raw.zero⟩) := hb4
        refine condF (by show (!((numGet bs').2.2 == 0)) = false; rw [h1]; rfl) ?_
        exact ldB hb4 rfl (st (hb13.mod m4 (by omega)) rfl (by decide) (recC_one _) fun w6 m6 s6 hb6 => ldB hb6 rfl ⟨rfl, (m03.new m4 (by omega)).new m6 (by omega)⟩)
      · have h1 := bneF h1
        have h2 := beqF h2
        have hv : recMid k bs' = (⟨k, false, (valGet bs').1⟩, (valGet bs').2.1, (valGet bs').2.2) := by unfold recMid; rw [if_neg (by simp [h1]), if_neg h2]
        rw [hv]
        dsimp only
        refine ⟨Int.le_of_lt ha0, by omega, by omega, ?_⟩
        refine call (value_Get hs3 (by omega)) ?_
        rintro _ w4 ⟨rfl, m4⟩
        refine st (hb3.mod m4 fun h => h) rfl (by exact (by decide : 5 ≤ 5)) (rawC_one _) fun w5 m5 s5 hb5 => ?_
        have hb5 : Blk w5 b2 30 (recC ⟨k, false, (valGet bs').1⟩) := hb5
        have hb15 := (hb13.mod m4 fun h => h).mod m5 (by omega)
        have m05 : Mod no w w5 := (m03.trn m4).new m5 (by omega)
        refine cond2 (fun h3 => ?_) (fun h3 => ?_)
        · rw [if_pos (bneT h3)]
          exact ⟨_, rfl, st hb15 rfl (by decide) (by decide) fun w6 m6 s6 hb6 => ldB hb6 rfl ⟨rfl, m05.new m6 (by omega)⟩⟩
        · rw [if_neg (by rw [bneF h3]; decide)]
          exact ldB hb5 rfl (st hb15 rfl (by decide) (recC_one _) fun w6 m6 s6 hb6 => ldB hb6 rfl ⟨rfl, m05.new m6 (by omega)⟩)
  · exact bad (beqF h)
  · have h : e ≠ 0 := beqF h
    have he : (if e = 0 ∧ keyMay k = false then (1 : Int) else e) = e := if_neg fun h' => h h'.1
    rw [he, if_pos h]
    exact ⟨_, rfl, st hb1 rfl (by decide) (by decide) fun w6 m6 s6 hb6 => ldB hb6 rfl ⟨rfl, m1.new m6 (by omega)⟩⟩
end Go.Proofs.YtffjccofglikhaaGreat
