/-
  loesslaw19.begun, loesslaw20.begun: one record.
-/
import Derived.Test.YtffjccofglikhaaGreatCFact
namespace Go.Proofs.YtffjccofglikhaaGreat
open Go Go.RowKit

theorem law19_begun {w : World} : CallV P 102 [] w fun r w' => r = .bool true ∧ Mod no w w' := by
  obtain ⟨t, hA⟩ := tabA
  obtain ⟨tb, htb, hbf, hbm⟩ := tabBad
  obtain ⟨td, htd, hdl⟩ := dec000
  have hl := hA.fit.len
  refine calls_of lay_is Tryz.func102 rfl (by kernel_rfl) ⟨_, rfl, by decide, _, rfl, al fun b0 w0 e0 m0 s0 hb0 => call (law19_Lay (L := [rA]) (turn := []) (Own.mk (c := cRec) (xs := [rA]) hb0 rfl rfl (one_max _)).slr (SlR.nil _)) ?_⟩
  rintro _ w1 ⟨rfl, m1⟩
  rw [hA.is_]
  refine call (law19_Of (t := t) hl) ?_
  rintro _ w2 ⟨rfl, m2⟩
  refine al fun b1 w3 e3 m3 s3 hb3 => stT (c := tab0) hb3 rfl hl fun w4 m4 s4 hb4 => ?_
  have hM4 : Mod no w w4 := (((m0.trn m1).trn m2).trn m3).new m4 (by have := m0.size; have := m1.size; have := m2.size; omega)
  clear m0 m1 m2 m3 m4 hb3 hb0
  refine ldB hb4 (flat192 hl) (call (order_Encode hA.fit) ?_)
  rintro b2 w5 ⟨hO5, m5, hF5, _⟩
  have hb5 := hb4.mod m5 fun h => h
  have hM5 := hM4.trn m5
  clear hb4 hM4 m5
  refine call (order_Decode hO5.slr (by rw [hA.enc]; omega)) ?_
  rintro _ w6 ⟨rfl, m6⟩
  rw [hA.dec]
  have hb6 := hb5.mod m6 fun h => h
  have hM6 := hM5.trn m6
  have hO6 := hO5.grow m6
  clear hb5 hM5 hO5 m6
  refine al fun b3 w7 e7 m7 s7 hb7 => stT (c := tab0) hb7 rfl hl fun w8 m8 s8 hb8 => ?_
  have hlO := hO6.lt
  have l6 := hb6.lt
  have hM8 : Mod no w w8 := (hM6.trn m7).new m8 (by have := hM6.size; omega)
  have hO8 := (hO6.grow m7).mod m8 fun k hk e => by have := hlO k hk; omega
  have hb18 := (hb6.mod m7 fun h => h).mod m8 (by omega)
  clear hb6 hM6 hO6 m7 m8 hlO hb7
  refine ⟨by decide, _, rfl, al fun b4 w9 e9 m9 s9 hb9 => call (order_Decode (bs := [0, 0, 0]) (Own.mk (c := cB) (xs := [0, 0, 0]) hb9 rfl rfl (by show 3 ≤ maxLen; unfold maxLen; omega)).slr (by decide)) ?_⟩
  rintro _ w10 ⟨rfl, m10⟩
  have hb3a := (hb8.mod m9 fun h => h).mod m10 fun h => h
  have hb1a := (hb18.mod m9 fun h => h).mod m10 fun h => h
  have hOa := (hO8.grow m9).grow m10
  have hMa := (hM8.trn m9).trn m10
  clear hb8 hb18 hO8 hM8 hb9 m9 m10
  rw [htd]
  refine al fun b5 w11 e11 m11 s11 hb11 => stT (c := tab0) hb11 rfl hdl fun w12 m12 s12 hb12 => ?_
  have l1 := hb1a.lt
  have l3 := hb3a.lt
  have lO := hOa.lt
  have hMb : Mod no w w12 := (hMa.trn m11).new m12 (by have := hMa.size; omega)
  have hb1b := (hb1a.mod m11 fun h => h).mod m12 (by omega)
  have hb3b := (hb3a.mod m11 fun h => h).mod m12 (by omega)
  have hOb := (hOa.grow m11).mod m12 fun k hk e => by have := lO k hk; omega
  clear hb1a hb3a hOa hMa hb12 hb11 m11 m12 l1 l3 lO
  refine al fun b7 w13 e13 m13 s13 hb13 => ?_
  have hb13 : Blk w13 b7 44 (flat cSlot tab0) := hb13
  refine ⟨by decide, by decide, by decide, by decide, st1 hb13 (by rw [flat192 (t := tab0) rfl]; decide) rfl fun w14 m14 s14 hb14 => ?_⟩
  have hb14 : Blk w14 b7 44 ((flat cSlot tab0).set 0 (.bool true)) := hb14
  rw [htb] at hb14
  have l1 := hb1b.lt
  have l3 := hb3b.lt
  have lO := hOb.lt
  have hMc : Mod no w w14 := (hMb.trn m13).new m14 (by have := hMb.size; omega)
  have hb1c := (hb1b.mod m13 fun h => h).mod m14 (by omega)
  have hb3c := (hb3b.mod m13 fun h => h).mod m14 (by omega)
  have hOc := (hOb.grow m13).mod m14 fun k hk e => by have := lO k hk; omega
  clear hb1b hb3b hOb hMb hb13 m13 m14 l1 l3 lO
  refine ldB hb1c (flat192 hl) (call (order_List hl fun s hs => by have := (hA.fit.fit s hs).key; omega) ?_)
  rintro l w15 ⟨hL, m15, _⟩
  rw [hA.new_] at hL
  obtain ⟨la, lc, rfl⟩ := hL.slr.len
  have hb1d := hb1c.mod m15 fun h => h
  have hb3d := hb3c.mod m15 fun h => h
  have hb7d := hb14.mod m15 fun h => h
  have hOd := hOc.grow m15
  have hMd := hMc.trn m15
  clear hb1c hb3c hb14 hOc hMc m15
  obtain ⟨ba, bc, rfl⟩ := hOd.slr.len
  have gd : w15.drew.heap.size = w15.heap.size := rfl
  refine draw [(0, []), (1, []), (2, []), (3, []), (4, []), (5, []), (6, []), (7, []), (8, []), (9, []), (10, []), (11, []), (12, []), (13, []), (14, []), (15, []), (16, []), (17, []), (19, []), (18, [19]), (20, []), (21, []), (22, []), (23, []), (24, []), (25, []), (26, []), (27, []), (28, []), (29, []), (30, []), (31, []), (32, []), (33, []), (34, []), (35, []), (36, []), (37, []), (38, []), (39, []), (40, []), (41, []), (42, []), (43, []), (44, []), (45, [])] (by kernel_rfl) (ldB (w := w15.drew) hb1d (flat192 hl) (call (order_May hA.fit) ?_))
  rintro _ w16 ⟨rfl, m16⟩
  have m16 : Mod no w15 w16 := m16
  refine ptT hA.may (ldB (hb7d.mod m16 fun h => h) (flat192 hbf.len) (call (order_May hbf) ?_))
  rintro _ w17 ⟨rfl, m17⟩
  rw [hbm]
  refine ptT rfl ?_
  have m17 := m16.trn m17
  have e9 : ((((ordEnc t).length : Nat) : Int) == 9) = true := by rw [hA.enc]; rfl
  refine ptT e9 (ptT rfl ?_)
  refine ldB (hb3d.mod m17 fun h => h) (flat192 hl) (ldB (hb1d.mod m17 fun h => h) (flat192 hl) (call (law19_Back hl) ?_))
  rintro _ w18 ⟨rfl, m18⟩
  have m18 := m17.trn m18
  refine ⟨ldB (hb1d.mod m18 fun h => h) (flat192 hl) ⟨rfl, rfl⟩, call (law19_Back hl) ?_⟩
  rintro _ w19 ⟨rfl, m19⟩
  have m19 := m18.trn m19
  refine call (law19_eq hl hl) ?_
  rintro _ w20 ⟨rfl, m20⟩
  have m20 := m19.trn m20
  refine ptT (decT rfl) (ptT rfl (ptT rfl ?_))
  obtain ⟨gb, go, gc, e, hgb, hgr⟩ := (hL.slr.grow m20).at (i := 0) (x := rA) rfl
  cases e
  refine ⟨by decide, by decide, ld1r (j := 0) hgr rfl (ptT (by kernel_rfl) ⟨flat cSlot tab0, by kernel_rfl, call (order_Encode tab0_fit) ?_⟩)⟩
  rintro c w21 ⟨hOc, m21, _⟩
  obtain ⟨ca, cc, rfl⟩ := hOc.slr.len
  refine ⟨?_, hMd.trn (m20.trn m21)⟩
  show Value.bool ((((ordEnc tab0).length : Nat) : Int) == 4) = _
  rw [t0_enc]; rfl
theorem law19_Begun {w : World} : CallV P 47 [] w fun r w' => r = .bool true ∧ Mod no w w' := by
  refine calls_of lay_is Tryz.func47 rfl (by kernel_rfl) (call law19_begun ?_)
  rintro _ w1 ⟨rfl, m1⟩
  exact ⟨rfl, m1⟩
theorem law20_begun {w : World} : CallV P 7 [] w fun r w' => r = .bool true ∧ Mod no w w' := by
  obtain ⟨t, hA⟩ := tabA
  have hl := hA.fit.len
  refine calls_of lay_is Tryz.func7 rfl (by kernel_rfl) ⟨_, rfl, by decide, _, rfl, al fun b0 w0 e0 m0 s0 hb0 => call (law19_Lay (L := [rA]) (turn := []) (Own.mk (c := cRec) (xs := [rA]) hb0 rfl rfl (one_max _)).slr (SlR.nil _)) ?_⟩
  rintro _ w1 ⟨rfl, m1⟩
  rw [hA.is_]
  refine call (law19_Of (t := t) hl) ?_
  rintro _ w2 ⟨rfl, m2⟩
  refine al fun b1 w3 e3 m3 s3 hb3 => stT (c := tab0) hb3 rfl hl fun w4 m4 s4 hb4 => ?_
  have hM4 : Mod no w w4 := (((m0.trn m1).trn m2).trn m3).new m4 (by have := m0.size; have := m1.size; have := m2.size; omega)
  clear m0 m1 m2 m3 m4 hb3 hb0
  refine ldB hb4 (flat192 hl) (call (store_New hA.fit) ?_)
  rintro _ w5 ⟨m5, hs⟩
  rw [if_pos hA.may] at hs
  obtain ⟨p, rfl, hS5, _⟩ := hs
  have hM5 := hM4.trn m5
  clear hb4 hM4 m5
  refine ptF rfl (condF rfl ?_)
  refine call (store_Get hS5 (k := [97]) (by decide)) ?_
  rintro _ w6 ⟨rfl, m6⟩
  rw [hA.get]
  refine al fun b4 w7 e7 m7 s7 hb7 => st hb7 rfl (by decide) (recC_one _) fun w8 m8 s8 hb8 => ?_
  have hb8 : Blk w8 b4 30 (recC rA) := hb8
  have m58 : Mod no w5 w8 := (m6.trn m7).new m8 (by have := m6.size; omega)
  have hS8 := hS5.grow m58
  have hM8 := hM5.trn m58
  clear hS5 hM5 m58 hb7 m6 m7 m8
  refine call (store_Get hS8 (k := [98]) (by decide)) ?_
  rintro _ w9 ⟨rfl, m9⟩
  refine al fun b6 w10 e10 m10 s10 hb10 => st hb10 rfl (by decide) (recC_one _) fun w11 m11 s11 hb11 => ?_
  have m8b : Mod no w8 w11 := (m9.trn m10).new m11 (by have := m9.size; omega)
  have hSb := hS8.grow m8b
  have hMb := hM8.trn m8b
  have hb4b := hb8.mod m8b fun h => h
  clear hS8 hM8 hb8 hb10 hb11 m9 m10 m11 m8b
  rw [hA.no]
  refine call (store_Bytes hSb) ?_
  rintro bs w12 ⟨hO, m12, _⟩
  refine call (store_Open hO.slr (by rw [hA.enc]; omega)) ?_
  rintro _ w13 ⟨m13, hs⟩
  rw [hA.dec, if_pos rfl] at hs
  obtain ⟨p2, rfl, hS2, _⟩ := hs
  have m13 := m12.trn m13
  have hSc := hSb.grow m13
  have hMc := hMb.trn m13
  have hb4c := hb4b.mod m13 fun h => h
  clear hSb hMb hb4b m12 hO m13
  refine call (store_Open (bs := []) (SlR.nil _) (by decide)) ?_
  rintro _ w14 ⟨m14, hs⟩
  rw [dNil, if_neg (by decide)] at hs
  subst hs
  have hSd := hSc.grow m14
  have hS2d := hS2.grow m14
  have hMd := hMc.trn m14
  have hb4d := hb4c.mod m14 fun h => h
  clear hSc hS2 hMc hb4c m14
  refine call law19_Begun ?_
  rintro _ w15 ⟨rfl, m15⟩
  have hSe := hSd.grow m15
  have hS2e := hS2d.grow m15
  have hMe := hMd.trn m15
  have hb4e := hb4d.mod m15 fun h => h
  clear hSd hS2d hMd hb4d m15
  refine ptT rfl (ptT rfl (ld1 hb4e rfl (ptT rfl (ptT rfl (call (store_Reads hSe (k := [97]) (by decide)) ?_)))))
  rintro _ w16 ⟨rfl, m16⟩
  rw [hA.like]
  refine ptT rfl (call (store_Len (hSe.grow m16)) ?_)
  rintro _ _ ⟨rfl, rfl⟩
  rw [hA.recs]
  refine ptT rfl (ptT rfl (call (store_Len (hS2e.grow m16)) ?_))
  rintro _ _ ⟨rfl, rfl⟩
  rw [hA.recs]
  exact ptT rfl ⟨rfl, hMe.trn m16⟩
end Go.Proofs.YtffjccofglikhaaGreat
