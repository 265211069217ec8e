/-
  order.Encode.
-/
import Derived.Test.YtffjccofglikhaaGreatCOrd
namespace Go.Proofs.YtffjccofglikhaaGreat
open Go Go.RowKit

def byteOf (x : Int) : UInt8 := UInt8.ofNat (x % 256).toNat
theorem byteOf_is (x : Int) : IntKind.u8.wrap x = ((byteOf x).toNat : Int) := by
  have h0 := Int.emod_nonneg x (b := 256) (by omega)
  have h1 := Int.emod_lt_of_pos x (b := 256) (by omega)
  have e : IntKind.u8.wrap x = x % 256 := by simp [IntKind.wrap, IntKind.bits, IntKind.signed]
  rw [e]
  unfold byteOf
  rw [UInt8.toNat_ofNat', Nat.mod_eq_of_lt (by omega)]
  omega
def tagBytes (g : Int) : List UInt8 := [byteOf (g / 256), byteOf g]
def ordBody (s : Slot) : List UInt8 := if s.has = true then tagBytes (hTag (hashOf s.rec_.key)) ++ recPut s.rec_ else []
def ordEnc (t : List Slot) : List UInt8 := if ordMay t = true then pack (t.map (·.has)) ++ t.flatMap ordBody else []
theorem ordMayGo_rec : ∀ (t : List Slot) (p : Nat) (ks : List Str), ordMayGo t p ks = true → ∀ s ∈ t, s.has = true → recMay s.rec_ = true
  | [], _, _, _ => by simp
  | s :: r, p, ks, h => by
    unfold ordMayGo at h
    intro x hx hh
    rcases List.mem_cons.1 hx with rfl | hx
    · rw [if_neg (by rw [hh]; decide)] at h
      simp only [Bool.and_eq_true] at h
      exact h.1.1.1
    · by_cases hs : s.has = false
      · rw [if_pos hs, Bool.and_eq_true] at h
        exact ordMayGo_rec r _ _ h.2 x hx hh
      · rw [if_neg hs, Bool.and_eq_true] at h
        exact ordMayGo_rec r _ _ h.2 x hx hh
theorem keyMay_len {k : Str} (h : keyMay k = true) : k.length ≤ 64 := by
  unfold keyMay at h
  simp at h
  omega
theorem recPut_len {r : Rec} (hf : RecFit r) (h : recMay r = true) : (recPut r).length ≤ 200 := by
  unfold recMay at h
  rw [Bool.and_eq_true] at h
  have hk := keyMay_len h.1
  have h1 := numPut_len (n := r.key.length) (by omega) (by omega)
  unfold recPut
  by_cases hg : r.gone = true
  · have h2 := numPut_len (n := 0) (by omega) (by omega)
    rw [if_pos hg]
    simp only [List.length_append]
    omega
  · rw [if_neg hg] at h
    rw [if_neg hg]
    have h2 := numPut_len hf.val.kind.1 hf.val.kind.2
    have h3 := numPut_len hf.val.n.1 hf.val.n.2
    have hs := hf.val.s
    have h4 := numPut_len (n := r.val.s.length) (by omega) (by omega)
    unfold valPut
    by_cases hk1 : r.val.kind = 1
    · rw [if_pos hk1]
      simp only [List.length_append]
      omega
    · rw [if_neg hk1]
      have h5 : r.val.s.length ≤ 24 := by
        have := h.2
        unfold rawOk at this
        simp [hk1] at this
        omega
      simp only [List.length_append]
      omega
theorem ordBody_len {t : List Slot} (ht : TabFit t) (hm : ordMay t = true) : ∀ s ∈ t, (ordBody s).length ≤ 202 := by
  intro s hs
  unfold ordBody
  by_cases h : s.has = true
  · rw [if_pos h, List.length_append]
    have := recPut_len (ht.fit s hs) (ordMayGo_rec t 0 [] hm s hs h)
    show 2 + _ ≤ _
    omega
  · rw [if_neg h]; simp
theorem iShr8 (x : Int) : iShr .i64 x 8 = x / 256 := by
  have e : iShr .i64 x 8 = x.fdiv 256 := rfl
  rw [e, Int.fdiv_eq_ediv_of_nonneg _ (by omega)]
theorem order_Encode {w : World} {t : List Slot} (ht : TabFit t) : CallV P 101 [tabV t] w fun r w' => Own cB 5 w' r (ordEnc t) ∧ Mod no w w' ∧ (∀ k, r.ownBlock = some k → w.heap.size ≤ k) ∧ (ordMay t = false → r = .slice none 0 0) := by
  have hl := ht.len
  refine calls_of lay_is Tryz.func101 rfl (by kernel_rfl) (al fun b1 w1 e1 m1 s1 hb1 => ?_)
  have hb1 : Blk w1 b1 44 (flat cSlot t) := hb1
  have h192 : (flat cSlot t).length = 192 := by rw [flat_len, hl]; rfl
  refine ldB hb1 h192 (call (order_May ht) ?_)
  rintro _ w2 ⟨rfl, m2⟩
  have hb2 := hb1.mod m2 fun h => h
  unfold ordEnc
  refine cond2 (fun h => ?_) (fun h => ?_)
  · have h : ordMay t = false := by cases hq : ordMay t with | false => rfl | true => rw [hq] at h; cases h
    rw [if_neg (by rw [h]; decide)]
    exact ⟨Own.nil _ _, m1.trn m2, nofun, fun _ => rfl⟩
  · have h : ordMay t = true := by cases hq : ordMay t with | true => rfl | false => rw [hq] at h; cases h
    rw [if_pos h]
    have hbl := ordBody_len ht h
    refine ⟨_, rfl, al fun p w3 e3 m3 s3 hb3 => ?_⟩
    have hb3 : BitsR w3 p (.slice none 0 0) [] := ⟨hb3, Own.nil _ _, nofun⟩
    refine ldB (hb2.mod m3 fun h => h) h192 ?_
    have hm3 := (m1.trn m2).trn m3
    refine loop (σ := Nat × Value × Value) (fun s => [(3, ptr p), (4, s.2.2), (15, tabV t), (16, iV s.1)]) (fun s w' => s.1 ≤ 8 ∧ BitsR w' p s.2.1 ((t.take (s.1 * 4)).map (·.has)) ∧ Own cB 5 w' s.2.2 ((t.take (s.1 * 4)).flatMap ordBody) ∧ s.2.2.ownBlock ≠ some p ∧ (∀ k, s.2.1.ownBlock = some k → s.2.2.ownBlock ≠ some k) ∧ (∀ k, s.2.1.ownBlock = some k → w.heap.size ≤ k) ∧ (∀ k, s.2.2.ownBlock = some k → w.heap.size ≤ k) ∧ Mod no w w') (fun s _ => 8 - s.1) (0, .slice none 0 0, .slice none 0 0) ⟨rfl, rfl, rfl, rfl, trivial⟩ ⟨by omega, hb3, Own.nil _ _, nofun, nofun, nofun, nofun, hm3⟩ ?_
    rintro ⟨i, v1, v2⟩ w4 ⟨hi, hB, hO, hp2, hd, hF1, hF2, hM⟩
    dsimp only at *
    refine cond2 (fun h1 => ?_) (fun h1 => ?_)
    · have h1 : (i : Int) < 8 := of_decT h1
      refine idx_bkt (by omega) (al fun b5 w5 e5 m5 s5 hb5 => ?_)
      have hbk : (flat cSlot (bkt t i)).length = 24 := by rw [flat_len, bkt_len hl (by omega)]; rfl
      refine st (vs := flat cSlot (bkt t i)) hb5 hbk (by decide) (flat_one _ _) fun w6 m6 s6 hb6 => ?_
      have hM6 : Mod no w w6 := (hM.trn m5).new m6 (by have := hM.size; omega)
      have hb6 : Blk w6 b5 42 (flat cSlot (bkt t i)) := by
        have e : (List.take 0 (lay.zr 42).get!) ++ flat cSlot (bkt t i) ++ List.drop (0 + 24) (lay.zr 42).get! = flat cSlot (bkt t i) := by
          rw [List.take_zero, List.nil_append, List.drop_of_length_le (by decide), List.append_nil]
        rw [← e]
        exact hb6
      refine ldB hb6 hbk ?_
      have hB6 : BitsR w6 p v1 ((t.take (i * 4)).map (·.has)) := (hB.mod m5 (fun h => h) fun _ _ h => h).mod m6 (by have := hB.blk.lt; omega) fun k hk e => by have := hB.own.lt k hk; omega
      have hO6 : Own cB 5 w6 v2 ((t.take (i * 4)).flatMap ordBody) := (hO.grow m5).mod m6 fun k hk e => by have := hO.lt k hk; omega
      refine loop (σ := Nat × Value × Value) (fun s => [(3, ptr p), (4, s.2.2), (15, tabV t), (16, iV i), (19, tabV (bkt t i)), (20, iV s.1)]) (fun s w' => s.1 ≤ 4 ∧ BitsR w' p s.2.1 ((t.take (i * 4 + s.1)).map (·.has)) ∧ Own cB 5 w' s.2.2 ((t.take (i * 4 + s.1)).flatMap ordBody) ∧ s.2.2.ownBlock ≠ some p ∧ (∀ k, s.2.1.ownBlock = some k → s.2.2.ownBlock ≠ some k) ∧ (∀ k, s.2.1.ownBlock = some k → w.heap.size ≤ k) ∧ (∀ k, s.2.2.ownBlock = some k → w.heap.size ≤ k) ∧ Mod no w w') (fun s _ => 4 - s.1) (0, v1, v2) ⟨rfl, rfl, rfl, rfl, rfl, rfl, trivial⟩ ⟨by omega, hB6, hO6, hp2, hd, hF1, hF2, hM6⟩ ?_
      have hwp : w.heap.size ≤ p := by have := hm3.size; have := (m1.trn m2).size; omega
      clear hB6 hO6 hp2 hd hF1 hF2 hM6 hb6 hb5 m5 m6 s5 s6 e5 hB hO hM
      rintro ⟨j, v1, v2⟩ w7 ⟨hj, hB, hO, hp2, hd, hF1, hF2, hM⟩
      dsimp only at *
      refine cond2 (fun h2 => ?_) (fun h2 => ?_)
      · have h2 : (j : Int) < 4 := of_decT h2
        have hp : i * 4 + j < t.length := by omega
        have hs : (bkt t i)[j]? = some t[i * 4 + j] := by rw [bkt_at (by omega)]; exact getE hp
        have hfit := ht.fit _ (List.getElem_mem hp)
        have hmay := ordMayGo_rec t 0 [] h _ (List.getElem_mem hp)
        have etk : t.take (i * 4 + (j + 1)) = t.take (i * 4 + j) ++ [t[i * 4 + j]] := by rw [← Nat.add_assoc, List.take_succ_eq_append_getElem hp]
        have hxl : ((t.take (i * 4 + j)).flatMap ordBody).length ≤ 6464 := by
          have hle : ∀ (l : List Slot), (∀ s ∈ l, (ordBody s).length ≤ 202) → (l.flatMap ordBody).length ≤ l.length * 202 := by
            intro l
            induction l with
            | nil => intro _; simp
            | cons a l ih =>
              intro hq
              rw [List.flatMap_cons, List.length_append, List.length_cons]
              have := ih fun s hs => hq s (List.mem_cons_of_mem _ hs)
              have := hq a List.mem_cons_self
              omega
          have := hle (t.take (i * 4 + j)) fun s hs => hbl s (List.mem_of_mem_take hs)
          rw [List.length_take] at this
          omega
        have fin : ∀ {w' : World} {v1 v2 : Value}, BitsR w' p v1 ((t.take (i * 4 + j)).map (·.has) ++ [t[i * 4 + j].has]) → Own cB 5 w' v2 ((t.take (i * 4 + j)).flatMap ordBody ++ ordBody t[i * 4 + j]) → BitsR w' p v1 ((t.take (i * 4 + (j + 1))).map (·.has)) ∧ Own cB 5 w' v2 ((t.take (i * 4 + (j + 1))).flatMap ordBody) := by
          intro w' v1 v2 ha hb
          rw [etk, List.map_append, List.flatMap_append]
          simp only [List.map_cons, List.map_nil, List.flatMap_cons, List.flatMap_nil, List.append_nil]
          exact ⟨ha, hb⟩
        clear etk
        generalize t[i * 4 + j] = s at *
        generalize hL : (t.take (i * 4 + j)).map (·.has) = L at *
        generalize hX : (t.take (i * 4 + j)).flatMap ordBody = X at *
        have hLl : L.length ≤ 1000000 := by rw [← hL, List.length_map, List.length_take]; omega
        refine idx_slot hs (by omega) (al fun b8 w8 e8 m8 s8 hb8 => ?_)
        refine st (vs := slotC s) hb8 rfl (by decide) (cSlot.one s) fun w9 m9 s9 hb9 => ?_
        have hb9 : Blk w9 b8 41 (slotC s) := hb9
        have hM9 : Mod no w w9 := (hM.trn m8).new m9 (by have := hM.size; omega)
        have hO9 : Own cB 5 w9 v2 X := (hO.grow m8).mod m9 fun k hk e => by have := hO.lt k hk; omega
        have hB9 : BitsR w9 p v1 L := (hB.mod m8 (fun h => h) fun _ _ h => h).mod m9 (by have := hB.blk.lt; omega) fun k hk e => by have := hB.own.lt k hk; omega
        have hp8 : p ≠ b8 := by have := hB.blk.lt; omega
        have hv8 : ∀ k, v1.ownBlock = some k → k < b8 := fun k hk => by have := hB.own.lt k hk; omega
        have hv28 : ∀ k, v2.ownBlock = some k → k < b8 := fun k hk => by have := hO.lt k hk; omega
        have hb8s : b8 < w9.heap.size := hb9.lt
        refine ld1 hb9 rfl (call (bits_Put hB9 hLl) ?_)
        rintro _ w10 ⟨u1, hB10, m10, f10⟩
        have hb10 : Blk w10 b8 41 (slotC s) := hb9.mod m10 fun e => by
          rcases e with e | e
          · exact hp8 e.symm
          · have := hv8 _ e; omega
        have hM10 : Mod no w w10 := hM9.tr m10 fun k hk e => by
          rcases e with e | e
          · omega
          · have := hF1 k e; omega
        have hO10 : Own cB 5 w10 v2 X := hO9.mod m10 fun k hk e => by
          rcases e with e | e
          · exact hp2 (e ▸ hk)
          · exact hd k e hk
        have hd10 : ∀ k, u1.ownBlock = some k → v2.ownBlock ≠ some k := fun k hk e => by
          rcases f10 k hk with h | h
          · exact hd k h e
          · have := hv28 k e; omega
        have hF10 : ∀ k, u1.ownBlock = some k → w.heap.size ≤ k := fun k hk => by
          rcases f10 k hk with h | h
          · exact hF1 k h
          · have := hM9.size; omega
        refine ld1 hb10 rfl (cond2 (fun h3 => ?_) (fun h3 => ?_))
        · have h3 : s.has = true := h3
          have hOb : ordBody s = tagBytes (hTag (hashOf s.rec_.key)) ++ recPut s.rec_ := by unfold ordBody; rw [if_pos h3]
          refine ld1 hb10 rfl (call (hash_Of (by have := hfit.key; omega)) ?_)
          rintro _ w11 ⟨rfl, m11⟩
          refine call (hash_Tag (hashOf_rng _).1) ?_
          rintro _ w11 ⟨rfl, rfl⟩
          have hb11 := hb10.mod m11 fun h => h
          have rdr : ∀ w', Blk w' b8 41 (slotC s) → Rd w' b8 1 (recC s.rec_) := fun w' hb => hb.rd 1 5
          refine draw [(0, []), (1, []), (2, []), (3, []), (4, []), (5, []), (8, []), (9, []), (6, []), (7, [9]), (10, []), (11, [])] (by kernel_rfl) (ldN (w := w11.drew) (cs := recC s.rec_) (rdr _ hb11) rfl ⟨by decide, _, rfl, al fun b12 w12 e12 m12 s12 hb12 => ?_⟩)
          have m12 : Mod no w11 w12 := m12
          have hb12' : Own cB 5 w12 (.slice (some ⟨b12, 0, none⟩) 2 2) (tagBytes (hTag (hashOf s.rec_.key))) := by
            refine Own.mk hb12 ?_ rfl (by exact (by decide : 2 ≤ maxLen))
            show [Value.int .u8 (IntKind.u8.wrap (iShr .i64 (hTag (hashOf s.rec_.key)) 8)), Value.int .u8 (IntKind.u8.wrap (hTag (hashOf s.rec_.key)))] = _
            rw [byteOf_is, byteOf_is, iShr8]
            rfl
          refine app lay_is rfl ((hO10.grow m11).grow m12) hb12'.slr (by show X.length + 2 ≤ _; omega) fun v3 w13 ho13 m13 f13 => ?_
          have hb12b : Blk w12 b8 41 (slotC s) := hb11.mod m12 fun h => h
          have hb13 : Blk w13 b8 41 (slotC s) := hb12b.mod m13 fun e => by have := hv28 _ e; omega
          refine ⟨ldN (cs := recC s.rec_) (rdr _ hb13) rfl ⟨rfl, rfl⟩, ?_⟩
          refine call (record_Put ho13 hfit (by rw [List.length_append]; show X.length + 2 ≤ _; omega)) ?_
          intro v4 w14 g14
          have hM12 : Mod no w w12 := (hM10.trn m11).trn m12
          have hM13 : Mod no w w13 := hM12.tr m13 fun k hk e => by have := hF2 k e; omega
          have hF3 : ∀ k, v3.ownBlock = some k → w.heap.size ≤ k := fun k hk => by
            rcases f13 k hk with h | h
            · exact hF2 k h
            · have := hM12.size; omega
          have hd3 : ∀ k, k < w12.heap.size → v2.ownBlock ≠ some k → v3.ownBlock ≠ some k := fun k hk hn e => by
            rcases f13 k e with h | h
            · exact hn h
            · omega
          have hd4 : ∀ k, k < w12.heap.size → v2.ownBlock ≠ some k → v4.ownBlock ≠ some k := fun k hk hn e => by
            rcases g14.fresh k e with h | h
            · exact hd3 k hk hn h
            · have := m13.size; omega
          have hu12 : ∀ k, u1.ownBlock = some k → k < w12.heap.size := fun k hk => by have := hB10.own.lt k hk; have := m11.size; have := m12.size; omega
          have hp12 : p < w12.heap.size := by have := hB10.blk.lt; have := m11.size; have := m12.size; omega
          have hB12 : BitsR w12 p u1 (L ++ [s.has]) := (hB10.mod m11 (fun h => h) fun _ _ h => h).mod m12 (fun h => h) fun _ _ h => h
          have hB13 := hB12.mod m13 hp2 fun k hk => hd10 k hk
          have hB14 := hB13.mod g14.mod (hd3 p hp12 hp2) fun k hk => hd3 k (hu12 k hk) (hd10 k hk)
          obtain ⟨q1, q2⟩ := fin hB14 (by rw [hOb, ← List.append_assoc]; exact g14.own)
          exact ⟨(j + 1, u1, v4), ⟨rfl, rfl, rfl, rfl, rfl, congrArg some (ctr (by omega)), trivial⟩, ⟨by omega, q1, q2, hd4 p hp12 hp2, fun k hk => hd4 k (hu12 k hk) (hd10 k hk), hF10, fun k hk => by
            rcases g14.fresh k hk with h | h
            · exact hF3 k h
            · have := hM13.size; omega, hM13.tr g14.mod fun k hk e => by have := hF3 k e; omega⟩, by show 4 - (j + 1) < 4 - j; omega⟩
        · have hOb : ordBody s = [] := by unfold ordBody; rw [if_neg (by rw [show s.has = false from h3]; decide)]
          rw [hOb, List.append_nil] at fin
          obtain ⟨g1, g2⟩ := fin hB10 hO10
          exact ⟨(j + 1, u1, v2), ⟨rfl, rfl, rfl, rfl, rfl, congrArg some (ctr (by omega)), trivial⟩, ⟨by omega, g1, g2, hp2, hd10, hF10, hF2, hM10⟩, by show 4 - (j + 1) < 4 - j; omega⟩
      · have hj4 : j = 4 := by have := of_decF h2; omega
        subst hj4
        have e4 : i * 4 + 4 = (i + 1) * 4 := by omega
        rw [e4] at hB hO
        exact ⟨(i + 1, v1, v2), ⟨rfl, rfl, rfl, congrArg some (ctr (by omega)), trivial⟩, ⟨by omega, hB, hO, hp2, hd, hF1, hF2, hM⟩, by omega⟩
    · have hi8 : i = 8 := by have := of_decF h1; omega
      subst hi8
      rw [List.take_of_length_le (by omega)] at hB hO
      have hml : (t.map (·.has)).length = 32 := by rw [List.length_map, hl]
      refine call (bits_Bytes hB (by omega)) ?_
      rintro v5 w5 ⟨hO5, m5, hF5⟩
      have hxl : (t.flatMap ordBody).length ≤ 6464 := by
        have hle : ∀ (l : List Slot), (∀ s ∈ l, (ordBody s).length ≤ 202) → (l.flatMap ordBody).length ≤ l.length * 202 := by
          intro l
          induction l with
          | nil => intro _; simp
          | cons a l ih =>
            intro hq
            rw [List.flatMap_cons, List.length_append, List.length_cons]
            have := ih fun s hs => hq s (List.mem_cons_of_mem _ hs)
            have := hq a List.mem_cons_self
            omega
        have := hle t hbl
        omega
      have hpl := pack_len (t.map (·.has))
      refine app lay_is rfl hO5 (hO.grow m5).slr (by omega) fun v6 w6 ho6 m6 f6 => ?_
      refine ⟨ho6, (hM.trn m5).tr m6 fun k hk e => by have := hF5 k e; have := hM.size; omega, fun k hk => ?_, fun hn => by rw [h] at hn; cases hn⟩
      rcases f6 k hk with h' | h'
      · have := hF5 k h'; have := hM.size; omega
      · have := m5.size; have := hM.size; omega
end Go.Proofs.YtffjccofglikhaaGreat
