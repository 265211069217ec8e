/-
  order.Decode.
-/
import Derived.Test.YtffjccofglikhaaGreatCEnc
namespace Go.Proofs.YtffjccofglikhaaGreat
open Go Go.RowKit

theorem valMid_ok {bs : List UInt8} {k : Int} (h : (valMid bs k).2.2 = 0) : 0 < (valMid bs k).2.1 ∧ (valMid bs k).2.1 ≤ bs.length := by
  unfold valMid at h ⊢
  by_cases h1 : k = 1
  · rw [if_pos h1] at h ⊢; exact numGet_ok h
  · rw [if_neg h1] at h ⊢
    by_cases h2 : k = 2
    · rw [if_pos h2] at h ⊢; exact numGetText_ok h
    · rw [if_neg h2] at h; cases h
theorem valGet_ok {bs : List UInt8} (hl : bs.length ≤ 2147483000) (h : (valGet bs).2.2 = 0) : 0 < (valGet bs).2.1 ∧ (valGet bs).2.1 ≤ bs.length := by
  have hok := @numGet_ok bs
  unfold valGet at h ⊢
  by_cases h1 : (numGet bs).2.2 ≠ 0
  · rw [if_pos h1] at h; exact absurd h h1
  · rw [if_neg h1] at h ⊢
    have h1 : (numGet bs).2.2 = 0 := by omega
    obtain ⟨a0, a1⟩ := hok h1
    have hm := @valMid_ok (bs.drop (numGet bs).2.1.toNat) (numGet bs).1
    rw [List.length_drop] at hm
    generalize valMid (bs.drop (numGet bs).2.1.toNat) (numGet bs).1 = p at *
    dsimp only at *
    by_cases h2 : p.2.2 = 0
    · rw [if_pos h2] at h ⊢
      obtain ⟨b0, b1⟩ := hm h2
      by_cases h3 : rawOk p.1 = true
      · rw [if_pos h3, if_neg (fun h => h rfl)]
        dsimp only
        rw [w64 (by omega) (by omega)]
        omega
      · rw [if_neg h3, if_pos (by decide)] at h; cases h
    · rw [if_neg h2, if_pos h2] at h; exact absurd h h2
theorem recMid_ok {s : Str} {bs : List UInt8} (hl : bs.length ≤ 2147483000) (h : (recMid s bs).2.2 = 0) : 0 < (recMid s bs).2.1 ∧ (recMid s bs).2.1 ≤ bs.length := by
  unfold recMid at h ⊢
  by_cases h1 : (numGet bs).2.2 ≠ 0
  · rw [if_pos h1] at h; exact absurd h h1
  · rw [if_neg h1] at h ⊢
    by_cases h2 : (numGet bs).1 = 0
    · rw [if_pos h2]; exact numGet_ok (by omega)
    · rw [if_neg h2] at h ⊢; exact valGet_ok hl h
theorem recGet_ok {bs : List UInt8} (hl : bs.length ≤ 2147483000) (h : (recGet bs).2.2 = 0) : 0 < (recGet bs).2.1 ∧ (recGet bs).2.1 ≤ bs.length := by
  have hok := @numGetText_ok bs
  unfold recGet at h ⊢
  generalize numGetText bs = g at *
  dsimp only at *
  by_cases h1 : (if g.2.2 = 0 ∧ keyMay g.1 = false then (1 : Int) else g.2.2) ≠ 0
  · rw [if_pos h1] at h; exact absurd h h1
  · rw [if_neg h1] at h ⊢
    have h2 : g.2.2 = 0 := by
      refine Classical.byContradiction fun hn => h1 ?_
      rw [if_neg (fun h => hn h.1)]; exact hn
    obtain ⟨a0, a1⟩ := hok h2
    have hm := @recMid_ok g.1 (bs.drop g.2.1.toNat) (by rw [List.length_drop]; omega)
    rw [List.length_drop] at hm
    generalize recMid g.1 (bs.drop g.2.1.toNat) = p at *
    by_cases h3 : p.2.2 ≠ 0
    · rw [if_pos h3] at h; exact absurd h h3
    · rw [if_neg h3]
      obtain ⟨b0, b1⟩ := hm (by omega)
      dsimp only
      rw [w64 (by omega) (by omega)]
      omega
theorem ite_Q {α : Type} {p : Prop} [Decidable p] {a b : α} (Q : α → Prop) (ha : p → Q a) (hb : ¬ p → Q b) : Q (if p then a else b) := by
  by_cases h : p
  · rw [if_pos h]; exact ha h
  · rw [if_neg h]; exact hb h
theorem raw0_fit : RawFit Raw.zero := ⟨⟨by decide, by decide⟩, ⟨by decide, by decide⟩, by decide⟩
theorem r0 : i64R 0 := ⟨by decide, by decide⟩
theorem r1 : i64R 1 := ⟨by decide, by decide⟩
theorem r2 : i64R 2 := ⟨by decide, by decide⟩
theorem valMid_fit {bs : List UInt8} {k : Int} (hl : bs.length ≤ 400000000) (hk : i64R k) : RawFit (valMid bs k).1 := by
  have hg := numGetText_len bs
  refine ite_Q (fun x : Raw × Int × Int => RawFit x.1) (fun _ => ⟨r1, numGet_rng bs, by exact (by decide : 0 ≤ 500000000)⟩) fun _ => ite_Q (fun x : Raw × Int × Int => RawFit x.1) (fun _ => ⟨r2, r0, ?_⟩) fun _ => ⟨hk, r0, by exact (by decide : 0 ≤ 500000000)⟩
  show (numGetText bs).1.length ≤ _
  omega
theorem valGet_fit {bs : List UInt8} (hl : bs.length ≤ 400000000) : RawFit (valGet bs).1 :=
  ite_Q (fun x : Raw × Int × Int => RawFit x.1) (fun _ => raw0_fit) fun _ => ite_Q (fun x : Raw × Int × Int => RawFit x.1) (fun _ => raw0_fit) fun _ => valMid_fit (bs := bs.drop (numGet bs).2.1.toNat) (by rw [List.length_drop]; omega) (numGet_rng bs)
theorem recMid_fit {s : Str} {bs : List UInt8} (hl : bs.length ≤ 400000000) (hs : s.length ≤ 500000000) : RecFit (recMid s bs).1 :=
  ite_Q (fun x : Rec × Int × Int => RecFit x.1) (fun _ => ⟨raw0_fit, hs⟩) fun _ => ite_Q (fun x : Rec × Int × Int => RecFit x.1) (fun _ => ⟨raw0_fit, hs⟩) fun _ => ⟨valGet_fit hl, hs⟩
theorem recGet_fit {bs : List UInt8} (hl : bs.length ≤ 400000000) : RecFit (recGet bs).1 :=
  ite_Q (fun x : Rec × Int × Int => RecFit x.1) (fun _ => ⟨raw0_fit, by exact (by decide : 0 ≤ 500000000)⟩) fun _ => ite_Q (fun x : Rec × Int × Int => RecFit x.1) (fun _ => ⟨raw0_fit, by exact (by decide : 0 ≤ 500000000)⟩) fun _ => recMid_fit (s := (numGetText bs).1) (bs := bs.drop (numGetText bs).2.1.toNat) (by rw [List.length_drop]; omega) (by have := numGetText_len bs; omega)
def bitO : Option (List Bool) → Int → Bool
  | none, _ => false
  | some l, i => bitsAt l i
def decGo (bs : List UInt8) (o : Option (List Bool)) : Nat → Nat → List Slot → Nat → Option (List Slot)
  | 0, _, t, _ => some t
  | n + 1, i, t, at_ => if bitO o i = false then decGo bs o n (i + 1) t at_ else
    if bs.length < at_ + 2 then none else
    if (recGet (bs.drop (at_ + 2))).2.2 ≠ 0 then none else decGo bs o n (i + 1) (t.set i ⟨true, (recGet (bs.drop (at_ + 2))).1⟩) (at_ + 2 + (recGet (bs.drop (at_ + 2))).2.1.toNat)
def tab0 : List Slot := List.replicate 32 Slot.zero
def ordDec (bs : List UInt8) : List Slot × Int :=
  if bs.length < 4 then (tab0, 8) else
  match decGo bs (bitsOf (bs.take 4) 32) 32 0 tab0 4 with
  | none => (tab0, 8)
  | some t => if ordMay t = true ∧ ordEnc t = bs then (t, 0) else (tab0, 8)
theorem tab0_fit : TabFit tab0 := ⟨rfl, fun s hs => by
  rw [List.eq_of_mem_replicate hs]
  exact ⟨⟨⟨by decide, by decide⟩, ⟨by decide, by decide⟩, by decide⟩, by decide⟩⟩
theorem TabFit.set {t : List Slot} (h : TabFit t) (i : Nat) {s : Slot} (hs : RecFit s.rec_) : TabFit (t.set i s) :=
  ⟨by rw [List.length_set]; exact h.len, fun x hx => by
    rcases List.mem_or_eq_of_mem_set hx with hx | rfl
    · exact h.fit x hx
    · exact hs⟩
theorem ordMay_enc_ne {t : List Slot} (ht : TabFit t) (h : ordMay t = true) : ordEnc t ≠ [] := by
  have hp := pack_len (t.map (·.has))
  rw [List.length_map, ht.len] at hp
  unfold ordEnc
  rw [if_pos h]
  intro e
  have := congrArg List.length e
  rw [List.length_append] at this
  simp only [List.length_nil] at this
  omega
set_option maxRecDepth 20000 in
theorem order_Decode {w : World} {v : Value} {bs : List UInt8} (hv : SlR cB w v bs) (hl : bs.length ≤ 400000000) : CallV P 100 [v] w fun r w' => r = .tuple #[tabV (ordDec bs).1, iV (ordDec bs).2] ∧ Mod no w w' := by
  obtain ⟨a, cp, rfl⟩ := hv.len
  unfold ordDec
  refine calls_of lay_is Tryz.func100 rfl (by kernel_rfl) (al fun b1 w1 e1 m1 s1 hb1 => ?_)
  have hb1 : Blk w1 b1 44 (flat cSlot tab0) := hb1
  have h192 : (flat cSlot tab0).length = 192 := rfl
  have h0 : fillC [] (flat cSlot tab0) [] = some (flat cSlot tab0) := rfl
  refine cond2 (fun h => ?_) (fun h => ?_)
  · have h : (bs.length : Int) < 4 := of_decT h
    rw [if_pos (by omega)]
    refine ⟨flat cSlot tab0, rfl, st hb1 rfl (by decide) (flat_one _ _) fun w2 m2 s2 hb2 => ?_⟩
    refine ldB hb2 rfl ⟨rfl, m1.new m2 (by omega)⟩
  · have h : ¬ (bs.length : Int) < 4 := of_decF h
    rw [if_neg (by omega)]
    have hne : bs ≠ [] := by rintro rfl; simp at h
    obtain ⟨g, o, cp', e, hg, hr⟩ := hv.ne hne
    cases e
    have hcp : bs.length ≤ cp := by obtain ⟨_, _, _, e, h5, h6, _⟩ := hv; cases e; omega
    refine ⟨by omega, by omega, by omega, ?_⟩
    have h4 : SlR cB w1 (.slice (some ⟨g, if cp = (0 : Int).toNat then o else o + (0 : Int).toNat * 1, none⟩) ((4 : Int).toNat - (0 : Int).toNat) (cp - (0 : Int).toNat)) (bs.take 4) := (hv.sub (l := 0) (r := 4) (by omega) (by omega)).grow m1
    refine call (bits_Of h4 (by rw [List.length_take]; omega)) ?_
    intro r w2 hbo
    obtain ⟨m2, hbo⟩ := hbo
    obtain ⟨hasV, okV, er, hat⟩ : ∃ hasV okV, r = .tuple #[hasV, okV] ∧ ∀ w' (i : Int), Mod (fun k => w2.heap.size ≤ k) w2 w' → CallV P 111 [hasV, iV i] w' fun r w'' => r = .bool (bitO (bitsOf (bs.take 4) 32) i) ∧ w'' = w' := by
      cases hq : bitsOf (bs.take 4) 32 with
      | none =>
        rw [hq] at hbo
        exact ⟨_, _, hbo, fun w' i _ => bits_AtNil⟩
      | some l =>
        rw [hq] at hbo
        obtain ⟨p, v, er, hB, hp, hF⟩ := hbo
        have hll : l.length ≤ 1000000 := by
          unfold bitsOf at hq
          split at hq
          · cases hq
          · split at hq
            · cases hq; simp [unpack]
            · cases hq
        exact ⟨_, _, er, fun w' i m => bits_At (hB.mod m (by have := hB.blk.lt; omega) fun k hk => by have := hB.own.lt k hk; omega) hll⟩
    subst er
    refine al fun b3 w3 e3 m3 s3 hb3 => ?_
    have hb3 : Blk w3 b3 44 (flat cSlot tab0) := hb3
    generalize bitsOf (bs.take 4) 32 = O at *
    have hb13 : Blk w3 b1 44 (flat cSlot tab0) := (hb1.mod m2 fun h => h).mod m3 fun h => h
    have hM3 : Mod no w w3 := (m1.trn m2).trn m3
    have hb1s : b1 < w2.heap.size := by have := hb1.lt; have := m2.size; omega
    refine loop (σ := Nat × List Slot × Nat) (fun s => [(0, .slice (some ⟨g, o, none⟩) bs.length cp), (2, ptr b1), (4, hasV), (6, ptr b3), (7, iV s.2.2), (23, iV s.1)]) (fun s w' => s.1 ≤ 32 ∧ TabFit s.2.1 ∧ 4 ≤ s.2.2 ∧ s.2.2 ≤ bs.length ∧ Blk w' b3 44 (flat cSlot s.2.1) ∧ Blk w' b1 44 (flat cSlot tab0) ∧ Mod no w w' ∧ Mod (fun k => w2.heap.size ≤ k) w2 w' ∧ decGo bs O (32 - s.1) s.1 s.2.1 s.2.2 = decGo bs O 32 0 tab0 4) (fun s _ => 32 - s.1) (0, tab0, 4) ⟨rfl, rfl, rfl, rfl, rfl, rfl, trivial⟩ ⟨by omega, tab0_fit, Nat.le_refl 4, by show 4 ≤ bs.length; omega, hb3, hb13, hM3, m3.mono fun _ _ h => h.elim, rfl⟩ ?_
    clear hb3 hb13 hM3
    rintro ⟨i, t, at_⟩ w4 ⟨hi, ht, ha0, ha1, hb3, hb13, hM, hM2, hG⟩
    dsimp only at *
    have hb1n : w.heap.size ≤ b1 := by omega
    have hb3n : w2.heap.size ≤ b3 := by omega
    have hw2 : w.heap.size ≤ w2.heap.size := by have := m1.size; have := m2.size; omega
    have hb31 : b3 ≠ b1 := by omega
    have hlt3 : b3 < w4.heap.size := hb3.lt
    refine cond2 (fun h1 => ?_) (fun h1 => ?_)
    · have h1 : (i : Int) < 32 := of_decT h1
      rw [show 32 - i = (31 - i) + 1 by omega, decGo] at hG
      refine call (hat w4 i hM2) ?_
      rintro _ w4 ⟨rfl, rfl⟩
      refine cond2 (fun h2 => ?_) (fun h2 => ?_)
      · have h2 : bitO O i = false := by cases hq : bitO O i with | false => rfl | true => rw [hq] at h2; cases h2
        rw [if_pos h2] at hG
        exact ⟨(i + 1, t, at_), ⟨rfl, rfl, rfl, rfl, rfl, congrArg some (ctr (by omega)), trivial⟩, ⟨by omega, ht, ha0, ha1, hb3, hb13, hM, hM2, by show decGo bs O (32 - (i + 1)) (i + 1) t at_ = _; rw [show 32 - (i + 1) = 31 - i by omega]; exact hG⟩, by show 32 - (i + 1) < 32 - i; omega⟩
      · have h2 : bitO O i = true := by cases hq : bitO O i with | true => rfl | false => rw [hq] at h2; cases h2
        rw [if_neg (by rw [h2]; decide)] at hG
        refine cond2 (fun h3 => ?_) (fun h3 => ?_)
        · have h3 : IntKind.i64.wrap ((bs.length : Int) - at_) < 2 := of_decT h3
          rw [w64 (by omega) (by omega)] at h3
          rw [if_pos (by omega)] at hG
          rw [← hG]
          exact ⟨flat cSlot tab0, rfl, st hb13 rfl (by decide) (flat_one _ _) fun w6 m6 s6 hb6 => ldB hb6 rfl ⟨rfl, hM.new m6 hb1n⟩⟩
        · have h3 : ¬ IntKind.i64.wrap ((bs.length : Int) - at_) < 2 := of_decF h3
          rw [w64 (by omega) (by omega)] at h3
          rw [if_neg (by omega)] at hG
          have e2 : IntKind.i64.wrap ((at_ : Int) + 2) = ((at_ + 2 : Nat) : Int) := by rw [w64 (by omega) (by omega)]; rfl
          refine ⟨by rw [e2]; omega, by rw [e2]; omega, by omega, ?_⟩
          rw [e2, Int.toNat_natCast]
          have hsub : SlR cB w4 (.slice (some ⟨g, if cp = at_ + 2 then o else o + (at_ + 2) * 1, none⟩) (((bs.length : Nat) : Int).toNat - (at_ + 2)) (cp - (at_ + 2))) (bs.drop (at_ + 2)) := by
            have := (hv.sub (l := at_ + 2) (r := bs.length) (by omega) (by omega)).grow hM
            rwa [List.take_of_length_le (by rw [List.length_drop]; omega)] at this
          have hdl : (bs.drop (at_ + 2)).length = bs.length - (at_ + 2) := List.length_drop
          refine call (record_Get hsub (by omega)) ?_
          rintro _ w5 ⟨rfl, m5⟩
          have hok := @recGet_ok (bs.drop (at_ + 2)) (by omega)
          have hfit := @recGet_fit (bs.drop (at_ + 2)) (by omega)
          generalize recGet (bs.drop (at_ + 2)) = q at *
          obtain ⟨rc, n, er⟩ := q
          dsimp only at *
          refine al fun b6 w6 e6 m6 s6 hb6 => ?_
          refine st (vs := recC rc) hb6 rfl (by decide) (recC_one _) fun w7 m7 s7 hb7 => ?_
          have hb7 : Blk w7 b6 30 (recC rc) := hb7
          have hM7 : Mod no w w7 := ((hM.trn m5).trn m6).new m7 (by have := hM.size; have := m5.size; omega)
          have hM27 : Mod (fun k => w2.heap.size ≤ k) w2 w7 := ((hM2.trn m5).trn m6).tr m7 fun k hk e => by have := m5.size; have := hM2.size; omega
          have h6n : b6 ≠ b1 ∧ b6 ≠ b3 := by have := m5.size; have := hb13.lt; omega
          have hb37 := ((hb3.mod m5 fun h => h).mod m6 fun h => h).mod m7 (fun e => h6n.2 e.symm)
          have hb17 := ((hb13.mod m5 fun h => h).mod m6 fun h => h).mod m7 (fun e => h6n.1 e.symm)
          refine cond2 (fun h4 => ?_) (fun h4 => ?_)
          · rw [if_pos (bneT h4)] at hG
            rw [← hG]
            exact ⟨flat cSlot tab0, rfl, st hb17 rfl (by decide) (flat_one _ _) fun w8 m8 s8 hb8 => ldB hb8 rfl ⟨rfl, hM7.new m8 hb1n⟩⟩
          · have h4 := bneF h4
            subst h4
            rw [if_neg (fun h => h rfl)] at hG
            obtain ⟨n0, n1⟩ := hok rfl
            have eq_ : IntKind.i64.wrap ((i : Int).tdiv 4) = ((i / 4 : Nat) : Int) := by rw [Int.tdiv_eq_ediv_of_nonneg (by omega), w64 (by omega) (by omega)]; omega
            have er_ : (i : Int).tmod 4 = ((i % 4 : Nat) : Int) := by rw [Int.tmod_eq_emod_of_nonneg (by omega)]; omega
            refine draw [(0, []), (1, []), (2, []), (3, []), (4, []), (5, []), (6, []), (7, []), (8, [])] (by kernel_rfl) (ldB hb7 rfl ⟨_, rfl, ?_⟩)
            refine ⟨by rw [eq_]; omega, by rw [eq_]; omega, by rw [er_]; omega, by rw [er_]; omega, ?_⟩
            have eo : 0 + (IntKind.i64.wrap ((i : Int).tdiv 4)).toNat * 24 + ((i : Int).tmod 4).toNat * 6 = i * 6 := by rw [eq_, er_, Int.toNat_natCast, Int.toNat_natCast]; omega
            have htl : (flat cSlot t).length = 192 := by rw [flat_len, ht.len]; rfl
            show StoreW w7.drew ⟨b3, 0 + (IntKind.i64.wrap ((i : Int).tdiv 4)).toNat * 24 + ((i : Int).tmod 4).toNat * 6, none⟩ 6 (slotC ⟨true, rc⟩) _
            rw [eo]
            refine st (w := w7.drew) hb37 rfl (by rw [htl]; omega) (cSlot.one _) fun w8 m8 s8 hb8 => ?_
            have m8 : Mod (· = b3) w7 w8 := m8
            have hb8 : Blk w8 b3 44 (flat cSlot (t.set i ⟨true, rc⟩)) := by
              rw [flat_set cSlot ⟨true, rc⟩ t i (by rw [ht.len]; omega)]
              exact hb8
            have hM8 : Mod no w w8 := hM7.new m8 (by omega)
            have hM28 : Mod (fun k => w2.heap.size ≤ k) w2 w8 := hM27.tr m8 fun k hk e => by omega
            have e3 : IntKind.i64.wrap ((at_ : Int) + IntKind.i64.wrap (2 + n)) = ((at_ + 2 + n.toNat : Nat) : Int) := by
              rw [w64 (x := 2 + n) (by omega) (by omega), w64 (by omega) (by omega)]; omega
            exact ⟨(i + 1, t.set i ⟨true, rc⟩, at_ + 2 + n.toNat), ⟨rfl, rfl, rfl, rfl, congrArg (fun x => some (iV x)) e3, congrArg some (ctr (by omega)), trivial⟩, ⟨by omega, ht.set i hfit, by show 4 ≤ at_ + 2 + n.toNat; omega, by show at_ + 2 + n.toNat ≤ bs.length; omega, hb8, hb17.mod m8 (fun e => hb31 e.symm), hM8, hM28, by show decGo bs O (32 - (i + 1)) (i + 1) _ _ = _; rw [show 32 - (i + 1) = 31 - i by omega]; exact hG⟩, by show 32 - (i + 1) < 32 - i; omega⟩
    · have hi32 : i = 32 := by have := of_decF h1; omega
      subst hi32
      have hG : some t = decGo bs O 32 0 tab0 4 := hG
      rw [← hG]
      dsimp only
      have htl : (flat cSlot t).length = 192 := by rw [flat_len, ht.len]; rfl
      refine ldB hb3 htl (call (order_Encode ht) ?_)
      rintro r5 w5 ⟨hO5, m5, hF5, hN5⟩
      have hM5 := hM.trn m5
      have hb15 := hb13.mod m5 fun h => h
      have hb35 := hb3.mod m5 fun h => h
      by_cases hmay : ordMay t = true
      · obtain ⟨g5, o5, c5, e5⟩ := hO5.ne (ordMay_enc_ne ht hmay)
        subst e5
        refine ⟨nofun, fun _ => call (bytes_Equal hO5.slr (hv.grow hM5)) ?_⟩
        rintro _ w5 ⟨rfl, rfl⟩
        refine cond2 (fun h2 => ?_) (fun h2 => ?_)
        · have h2 : ¬ ordEnc t = bs := fun e => by rw [decT e] at h2; cases h2
          rw [if_neg (fun h => h2 h.2)]
          exact ⟨flat cSlot tab0, rfl, st hb15 rfl (by decide) (flat_one _ _) fun w8 m8 s8 hb8 => ldB hb8 rfl ⟨rfl, hM5.new m8 hb1n⟩⟩
        · have h2 : ordEnc t = bs := Classical.byContradiction fun e => by rw [decF e] at h2; cases h2
          rw [if_pos ⟨hmay, h2⟩]
          refine ldB hb35 htl (st hb15 htl (by decide) (flat_one _ _) fun w8 m8 s8 hb8 => ?_)
          have hb8 : Blk w8 b1 44 (flat cSlot t) := by
            have e : List.take 0 (flat cSlot tab0) ++ flat cSlot t ++ List.drop (0 + 192) (flat cSlot tab0) = flat cSlot t := by
              rw [List.take_zero, List.nil_append, List.drop_of_length_le (by rw [h192]; exact Nat.le_refl _), List.append_nil]
            rw [← e]
            exact hb8
          exact ldB hb8 htl ⟨rfl, hM5.new m8 hb1n⟩
      · have hr := hN5 (by cases hq : ordMay t with | false => rfl | true => exact absurd hq hmay)
        subst hr
        rw [if_neg (fun h => hmay h.1)]
        exact ⟨fun _ => condT rfl ⟨flat cSlot tab0, rfl, st hb15 rfl (by decide) (flat_one _ _) fun w8 m8 s8 hb8 => ldB hb8 rfl ⟨rfl, hM5.new m8 hb1n⟩⟩, nofun⟩
end Go.Proofs.YtffjccofglikhaaGreat
