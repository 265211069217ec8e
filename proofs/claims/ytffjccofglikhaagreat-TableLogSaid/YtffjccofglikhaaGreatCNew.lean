/-
  hashstore.New.
-/
import Derived.Test.YtffjccofglikhaaGreatCGets
namespace Go.Proofs.YtffjccofglikhaaGreat
open Go Go.RowKit

theorem ap_grow {v v' u : Value} {N : Nat} (hf : ∀ k, v'.ownBlock = some k → v.ownBlock = some k ∨ N ≤ k) (hu : ∀ k, u.ownBlock = some k → k < N) (h : ∀ k, v.ownBlock = some k → u.ownBlock ≠ some k) : ∀ k, v'.ownBlock = some k → u.ownBlock ≠ some k := fun k hk e => by
  rcases hf k hk with h' | h'
  · exact h k h' e
  · have := hu k e; omega
theorem ne_grow {v v' : Value} {p N : Nat} (hf : ∀ k, v'.ownBlock = some k → v.ownBlock = some k ∨ N ≤ k) (hp : p < N) (h : v.ownBlock ≠ some p) : v'.ownBlock ≠ some p := fun e => by
  rcases hf p e with h' | h'
  · exact h h'
  · omega
theorem ge_grow {v v' : Value} {M N : Nat} (hf : ∀ k, v'.ownBlock = some k → v.ownBlock = some k ∨ N ≤ k) (hM : M ≤ N) (h : ∀ k, v.ownBlock = some k → M ≤ k) : ∀ k, v'.ownBlock = some k → M ≤ k := fun k hk => by
  rcases hf k hk with h' | h'
  · exact h k h'
  · omega
structure NewI (w : World) (p pb : Nat) (t l : List Slot) (w' : World) (v1 v2 v3 : Value) : Prop where
  blk : Blk w' p 100 (flat cSlot t ++ [.pointer none, v2, v3])
  bits : BitsR w' pb v1 (l.map (·.has))
  recs : Own cRec 30 w' v2 (recsOf l)
  tags : Own cI 3 w' v3 (tagsOf l)
  p1 : v1.ownBlock ≠ some p
  p2 : v2.ownBlock ≠ some p
  p3 : v3.ownBlock ≠ some p
  b2 : v2.ownBlock ≠ some pb
  b3 : v3.ownBlock ≠ some pb
  a12 : ∀ k, v1.ownBlock = some k → v2.ownBlock ≠ some k
  a13 : ∀ k, v1.ownBlock = some k → v3.ownBlock ≠ some k
  a23 : ∀ k, v2.ownBlock = some k → v3.ownBlock ≠ some k
  f1 : ∀ k, v1.ownBlock = some k → w.heap.size ≤ k
  f2 : ∀ k, v2.ownBlock = some k → w.heap.size ≤ k
  f3 : ∀ k, v3.ownBlock = some k → w.heap.size ≤ k
  mod : Mod no w w'
/-- What is written to none of its blocks leaves it. -/
theorem NewI.keep {w : World} {p pb : Nat} {t l : List Slot} {w' w'' : World} {v1 v2 v3 : Value} (h : NewI w p pb t l w' v1 v2 v3) {S : Nat → Prop} (m : Mod S w' w'') (hS : ∀ k, S k → w'.heap.size ≤ k) : NewI w p pb t l w'' v1 v2 v3 where
  blk := h.blk.mod m fun hs => by have := hS _ hs; have := h.blk.lt; omega
  bits := h.bits.mod m (fun hs => by have := hS _ hs; have := h.bits.blk.lt; omega) fun k hk hs => by have := hS _ hs; have := h.bits.own.lt k hk; omega
  recs := h.recs.mod m fun k hk hs => by have := hS _ hs; have := h.recs.lt k hk; omega
  tags := h.tags.mod m fun k hk hs => by have := hS _ hs; have := h.tags.lt k hk; omega
  p1 := h.p1
  p2 := h.p2
  p3 := h.p3
  b2 := h.b2
  b3 := h.b3
  a12 := h.a12
  a13 := h.a13
  a23 := h.a23
  f1 := h.f1
  f2 := h.f2
  f3 := h.f3
  mod := h.mod.tr m fun k hk hs => by have := hS _ hs; have := h.mod.size; omega
theorem recsOf_snoc (l : List Slot) (s : Slot) : recsOf (l ++ [s]) = recsOf l ++ if s.has = true then [s.rec_] else [] := by
  unfold recsOf
  rw [List.filter_append, List.map_append]
  congr 1
  by_cases h : s.has = true <;> simp [h]
theorem tagsOf_snoc (l : List Slot) (s : Slot) : tagsOf (l ++ [s]) = tagsOf l ++ if s.has = true then [hTag (hashOf s.rec_.key)] else [] := by
  unfold tagsOf
  rw [recsOf_snoc, List.map_append]
  congr 1
  by_cases h : s.has = true <;> simp [h]
theorem hs_set {t : List Slot} (ht : t.length = 32) (l : List Value) (j : Nat) (v : Value) : (flat cSlot t ++ l).set (192 + j) v = flat cSlot t ++ l.set j v := by
  have h : (flat cSlot t).length = 192 := by rw [flat_len, ht]; rfl
  rw [List.set_append_right _ _ (by omega), h, show 192 + j - 192 = j by omega]
theorem fill1 {pl : List (Nat × Nat)} {cs : List Value} {i o n : Nat} {v : Value} (h : pl[i]? = some (o, n)) (hv : v.cells.toList.length = n) (hc : o + n ≤ cs.length) : fillC pl cs [(i, v)] = some (cs.take o ++ v.cells.toList ++ cs.drop (o + n)) := by
  simp only [fillC, h]
  rw [if_pos ⟨hv, hc⟩]
set_option maxRecDepth 20000 in
theorem store_New {w : World} {t : List Slot} (ht : TabFit t) : CallV P 10 [tabV t] w fun r w' => Mod no w w' ∧ if ordMay t = true then ∃ p, r = .tuple #[ptr p, iV 0] ∧ StoreR w' p t ∧ w.heap.size ≤ p else r = .tuple #[.pointer none, iV 1] := by
  have hl := ht.len
  have h192 : (flat cSlot t).length = 192 := by rw [flat_len, hl]; rfl
  refine calls_of lay_is Tryz.func10 rfl (by kernel_rfl) (al fun b1 w1 e1 m1 s1 hb1 => ?_)
  have hb1 : Blk w1 b1 44 (flat cSlot t) := hb1
  refine ldB hb1 h192 (call (order_May ht) ?_)
  rintro _ w2 ⟨rfl, m2⟩
  have hb2 := hb1.mod m2 fun h => h
  refine cond2 (fun h => ?_) (fun h => ?_)
  · have h : ordMay t = false := by cases hq : ordMay t with | false => rfl | true => rw [hq] at h; cases h
    exact ⟨m1.trn m2, by rw [if_neg (by rw [h]; decide)]; rfl⟩
  · have h : ordMay t = true := by cases hq : ordMay t with | true => rfl | false => rw [hq] at h; cases h
    refine ldB hb2 h192 ⟨_, fill1 (o := 0) (n := 192) rfl h192 (by decide), al fun p w3 e3 m3 s3 hb3 => ⟨_, rfl, al fun pb w4 e4 m4 s4 hb4 => ?_⟩⟩
    have hb3 : Blk w3 p 100 (flat cSlot t ++ [.pointer none, .slice none 0 0, .slice none 0 0]) := hb3
    have hI0 : NewI w p pb t [] w4 (.slice none 0 0) (.slice none 0 0) (.slice none 0 0) := ⟨hb3.mod m4 fun h => h, ⟨hb4, Own.nil _ _, nofun⟩, Own.nil _ _, Own.nil _ _, nofun, nofun, nofun, nofun, nofun, nofun, nofun, nofun, nofun, nofun, nofun, ((m1.trn m2).trn m3).trn m4⟩
    have hppb : p < pb := by omega
    have hwp : w.heap.size ≤ p := by have := m2.size; omega
    refine ldB ((hb2.mod m3 fun h => h).mod m4 fun h => h) h192 ?_
    refine loop (σ := Nat × Value × Value × Value) (fun s => [(4, ptr p), (5, ptr pb), (18, tabV t), (19, iV s.1)]) (fun s w' => s.1 ≤ 8 ∧ NewI w p pb t (t.take (s.1 * 4)) w' s.2.1 s.2.2.1 s.2.2.2) (fun s _ => 8 - s.1) (0, .slice none 0 0, .slice none 0 0, .slice none 0 0) ⟨rfl, rfl, rfl, rfl, trivial⟩ ⟨by omega, hI0⟩ ?_
    clear hI0 hb4 hb3 m4 m3 s3 s4
    rintro ⟨i, v1, v2, v3⟩ w5 ⟨hi, hI⟩
    dsimp only at *
    refine cond2 (fun h1 => ?_) (fun h1 => ?_)
    · have h1 : (i : Int) < 8 := of_decT h1
      refine idx_bkt (by omega) (al fun b6 w6 e6 m6 s6 hb6 => ?_)
      have hbk : (flat cSlot (bkt t i)).length = 24 := by rw [flat_len, bkt_len hl (by omega)]; rfl
      refine st (vs := flat cSlot (bkt t i)) hb6 hbk (by decide) (flat_one _ _) fun w7 m7 s7 hb7 => ?_
      have hb7 : Blk w7 b6 42 (flat cSlot (bkt t i)) := by
        have e : (List.take 0 (lay.zr 42).get!) ++ flat cSlot (bkt t i) ++ List.drop (0 + 24) (lay.zr 42).get! = flat cSlot (bkt t i) := by
          rw [List.take_zero, List.nil_append, List.drop_of_length_le (by decide), List.append_nil]
        rw [← e]
        exact hb7
      refine ldB hb7 hbk ?_
      have hI7 := hI.keep (m6.new m7 (by omega)) fun _ h => h.elim
      refine loop (σ := Nat × Value × Value × Value) (fun s => [(4, ptr p), (5, ptr pb), (18, tabV t), (19, iV i), (22, tabV (bkt t i)), (23, iV s.1)]) (fun s w' => s.1 ≤ 4 ∧ NewI w p pb t (t.take (i * 4 + s.1)) w' s.2.1 s.2.2.1 s.2.2.2) (fun s _ => 4 - s.1) (0, v1, v2, v3) ⟨rfl, rfl, rfl, rfl, rfl, rfl, trivial⟩ ⟨by omega, hI7⟩ ?_
      clear hI7 hI hb7 hb6 m6 m7 s6 s7 e6
      rintro ⟨j, v1, v2, v3⟩ w8 ⟨hj, hI⟩
      dsimp only at *
      refine cond2 (fun h2 => ?_) (fun h2 => ?_)
      · have h2 : (j : Int) < 4 := of_decT h2
        have hp : i * 4 + j < t.length := by omega
        have hs : (bkt t i)[j]? = some t[i * 4 + j] := by rw [bkt_at (by omega)]; exact getE hp
        have hfit := ht.fit _ (List.getElem_mem hp)
        have etk : t.take (i * 4 + (j + 1)) = t.take (i * 4 + j) ++ [t[i * 4 + j]] := by rw [← Nat.add_assoc, List.take_succ_eq_append_getElem hp]
        have hL : (t.take (i * 4 + j)).length ≤ 32 := by rw [List.length_take]; omega
        have fin : ∀ {w' : World} {v1 v2 v3 : Value}, NewI w p pb t (t.take (i * 4 + j) ++ [t[i * 4 + j]]) w' v1 v2 v3 → NewI w p pb t (t.take (i * 4 + (j + 1))) w' v1 v2 v3 := fun h => by rw [etk]; exact h
        clear etk
        generalize t[i * 4 + j] = s at *
        generalize t.take (i * 4 + j) = L at *
        have hrL := recsOf_le L
        have htL : (tagsOf L).length = (recsOf L).length := by unfold tagsOf; rw [List.length_map]
        have hrs := recsOf_snoc L s
        have hts := tagsOf_snoc L s
        refine idx_slot hs (by omega) (al fun b9 w9 e9 m9 s9 hb9 => ?_)
        refine st (vs := slotC s) hb9 rfl (by decide) (cSlot.one s) fun w10 m10 s10 hb10 => ?_
        have hb10 : Blk w10 b9 41 (slotC s) := hb10
        have hI10 := hI.keep (m9.new m10 (by omega)) fun _ h => h.elim
        have hb9p : b9 ≠ p := by have := hI.blk.lt; omega
        have hb9b : b9 ≠ pb := by have := hI.bits.blk.lt; omega
        have hv1 : v1.ownBlock ≠ some b9 := fun e => by have := hI.bits.own.lt _ e; omega
        have hv2 : v2.ownBlock ≠ some b9 := fun e => by have := hI.recs.lt _ e; omega
        have hv3 : v3.ownBlock ≠ some b9 := fun e => by have := hI.tags.lt _ e; omega
        refine ld1 hb10 rfl (call (bits_Put hI10.bits (by rw [List.length_map]; omega)) ?_)
        rintro _ w11 ⟨u1, hB11, m11, f11⟩
        have hb11 : Blk w11 b9 41 (slotC s) := hb10.mod m11 fun e => e.elim hb9b hv1
        have hM11 : Mod no w w11 := hI10.mod.tr m11 fun k hk e => by
          rcases e with e | e
          · omega
          · have := hI.f1 k e; omega
        have hP11 : Blk w11 p 100 (flat cSlot t ++ [.pointer none, v2, v3]) := hI10.blk.mod m11 fun e => by
          rcases e with e | e
          · omega
          · exact hI.p1 e
        have hR11 := hI10.recs.mod m11 fun k hk e => by
          rcases e with e | e
          · exact hI.b2 (e ▸ hk)
          · exact hI.a12 k e hk
        have hT11 := hI10.tags.mod m11 fun k hk e => by
          rcases e with e | e
          · exact hI.b3 (e ▸ hk)
          · exact hI.a13 k e hk
        have hI11 : NewI w p pb t L w11 v1 v2 v3 → True := fun _ => trivial
        have p1' : u1.ownBlock ≠ some p := ne_grow f11 hI10.blk.lt hI.p1
        have a12' := ap_grow f11 (fun k hk => hI10.recs.lt k hk) hI.a12
        have a13' := ap_grow f11 (fun k hk => hI10.tags.lt k hk) hI.a13
        have f1' := ge_grow f11 hI10.mod.size hI.f1
        refine ld1 hb11 rfl (cond2 (fun h3 => ?_) (fun h3 => ?_))
        · have h3 : s.has = true := h3
          rw [if_pos h3] at hrs hts
          have rdr : ∀ w', Blk w' b9 41 (slotC s) → Rd w' b9 1 (recC s.rec_) := fun w' hb => hb.rd 1 5
          refine draw [(0, []), (1, []), (2, []), (3, []), (4, []), (5, []), (6, []), (7, []), (8, []), (9, []), (10, []), (11, [])] (by kernel_rfl) (ld1 hP11 (hs_at hl _ 1) (ldN (w := w11.drew) (cs := recC s.rec_) (rdr _ hb11) rfl ⟨by decide, _, rfl, al fun b12 w12 e12 m12 s12 hb12 => ?_⟩))
          have m12 : Mod no w11 w12 := m12
          have e12 : b12 = w11.heap.size := e12
          have hx : Own cRec 30 w12 (.slice (some ⟨b12, 0, none⟩) 1 1) [s.rec_] := Own.mk hb12 rfl rfl (by exact (by decide : 1 ≤ maxLen))
          refine app lay_is rfl (hR11.grow m12) hx.slr (by show _ + 1 ≤ _; omega) fun u2 w13 ho13 m13 f13 => ?_
          obtain ⟨a2, n2, c2, eu2⟩ := ho13.form
          subst eu2
          have hP13 := (hP11.mod m12 fun h => h).mod m13 fun e => hI.p2 e
          refine st1 hP13 (by rw [List.length_append, h192]; exact (by decide : 193 < 195)) rfl fun w14 m14 s14 hP14 => ?_
          generalize Value.slice a2 n2 c2 = u2 at *
          have hP14 : Blk w14 p 100 (flat cSlot t ++ [.pointer none, u2, v3]) := by
            rw [show flat cSlot t ++ [.pointer none, u2, v3] = (flat cSlot t ++ [.pointer none, v2, v3]).set (0 + 193) u2 from (hs_set hl [.pointer none, v2, v3] 1 u2).symm]
            exact hP14
          have hz12 : w11.heap.size ≤ w12.heap.size := m12.size
          have hz13 : w12.heap.size ≤ w13.heap.size := m13.size
          have p2' : u2.ownBlock ≠ some p := ne_grow f13 (by have := hP11.lt; omega) hI.p2
          have b2' : u2.ownBlock ≠ some pb := ne_grow f13 (by have := hB11.blk.lt; omega) hI.b2
          have a23' := ap_grow f13 (fun k hk => by have := hT11.lt k hk; omega) hI.a23
          have a12'' : ∀ k, u1.ownBlock = some k → u2.ownBlock ≠ some k := fun k hk e => ap_grow f13 (fun k hk => by have := hB11.own.lt k hk; omega) (fun k h1 h2 => a12' k h2 h1) k e hk
          have f2' := ge_grow f13 (by have := hM11.size; omega) hI.f2
          have hM14 : Mod no w w14 := (((hM11.trn m12).tr m13 fun k hk e => by have := hI.f2 k e; omega)).new m14 hwp
          have hB14 : BitsR w14 pb u1 (L.map (·.has) ++ [s.has]) := ((hB11.mod m12 (fun h => h) fun _ _ h => h).mod m13 (fun e => hI.b2 e) fun k hk => a12' k hk).mod m14 (by omega) fun k hk e => p1' (e ▸ hk)
          have hT14 : Own cI 3 w14 v3 (tagsOf L) := ((hT11.grow m12).mod m13 fun k hk e => hI.a23 k e hk).mod m14 fun k hk e => hI.p3 (e ▸ hk)
          have hR14 : Own cRec 30 w14 u2 (recsOf (L ++ [s])) := by rw [hrs]; exact ho13.mod m14 fun k hk e => p2' (e ▸ hk)
          have hb14 : Blk w14 b9 41 (slotC s) := ((hb11.mod m12 fun h => h).mod m13 fun e => hv2 e).mod m14 fun e => hb9p e
          refine draw [(0, []), (1, []), (2, []), (3, []), (4, []), (5, []), (6, []), (7, []), (8, [4]), (9, [4]), (10, []), (11, []), (12, []), (13, []), (14, [])] (by kernel_rfl) (ld1 hP14 (hs_at hl _ 2) (ld1 (w := w14.drew) hb14 rfl (call (hash_Of (by have := hfit.key; omega)) ?_)))
          rintro _ w15 ⟨rfl, m15⟩
          have m15 : Mod no w14 w15 := m15
          have hP15 := hP14.mod m15 fun h => h
          refine ⟨ld1 hP15 (hs_at hl _ 2) ⟨rfl, rfl⟩, call (hash_Tag (hashOf_rng _).1) ?_⟩
          rintro _ w15 ⟨rfl, rfl⟩
          refine ⟨ld1 hP15 (hs_at hl _ 2) ⟨rfl, rfl⟩, ⟨by decide, _, rfl, al fun b16 w16 e16 m16 s16 hb16 => ?_⟩⟩
          have hx : Own cI 3 w16 (.slice (some ⟨b16, 0, none⟩) 1 1) [hTag (hashOf s.rec_.key)] := Own.mk hb16 rfl rfl (by exact (by decide : 1 ≤ maxLen))
          refine app lay_is rfl ((hT14.grow m15).grow m16) hx.slr (by show _ + 1 ≤ _; omega) fun u3 w17 ho17 m17 f17 => ?_
          obtain ⟨a3, n3, c3, eu3⟩ := ho17.form
          subst eu3
          have hP17 := (hP15.mod m16 fun h => h).mod m17 fun e => hI.p3 e
          refine st1 hP17 (by rw [List.length_append, h192]; exact (by decide : 194 < 195)) rfl fun w18 m18 s18 hP18 => ?_
          generalize Value.slice a3 n3 c3 = u3 at *
          have hP18 : Blk w18 p 100 (flat cSlot t ++ [.pointer none, u2, u3]) := by
            rw [show flat cSlot t ++ [.pointer none, u2, u3] = (flat cSlot t ++ [.pointer none, u2, v3]).set (0 + 194) u3 from (hs_set hl [.pointer none, u2, v3] 2 u3).symm]
            exact hP18
          have hz15 : w14.heap.size ≤ w15.heap.size := m15.size
          have hz16 : w15.heap.size ≤ w16.heap.size := m16.size
          have p3' : u3.ownBlock ≠ some p := ne_grow f17 (by have := hP14.lt; omega) hI.p3
          have b3' : u3.ownBlock ≠ some pb := ne_grow f17 (by have := hB14.blk.lt; omega) hI.b3
          have a23'' : ∀ k, u2.ownBlock = some k → u3.ownBlock ≠ some k := fun k hk e => ap_grow f17 (fun k hk => by have := hR14.lt k hk; omega) (fun k h1 h2 => a23' k h2 h1) k e hk
          have a13'' : ∀ k, u1.ownBlock = some k → u3.ownBlock ≠ some k := fun k hk e => ap_grow f17 (fun k hk => by have := hB14.own.lt k hk; omega) (fun k h1 h2 => a13' k h2 h1) k e hk
          have f3' := ge_grow f17 (by have := hM14.size; omega) hI.f3
          have hM18 : Mod no w w18 := ((((hM14.trn m15).trn m16).tr m17 fun k hk e => by have := hI.f3 k e; omega)).new m18 hwp
          have hB18 := ((((hB14.mod m15 (fun h => h) fun _ _ h => h).mod m16 (fun h => h) fun _ _ h => h).mod m17 (fun e => hI.b3 e) fun k hk => a13' k hk)).mod m18 (by omega) fun k hk e => p1' (e ▸ hk)
          have hR18 : Own cRec 30 w18 u2 (recsOf (L ++ [s])) := (((hR14.grow m15).grow m16).mod m17 fun k hk e => a23' k hk e).mod m18 fun k hk e => p2' (e ▸ hk)
          have hT18 : Own cI 3 w18 u3 (tagsOf (L ++ [s])) := by rw [hts]; exact ho17.mod m18 fun k hk e => p3' (e ▸ hk)
          exact ⟨(j + 1, u1, u2, u3), ⟨rfl, rfl, rfl, rfl, rfl, congrArg some (ctr (by omega)), trivial⟩, ⟨by omega, fin ⟨hP18, by rw [List.map_append]; exact hB18, hR18, hT18, p1', p2', p3', b2', b3', a12'', a13'', a23'', f1', f2', f3', hM18⟩⟩, by show 4 - (j + 1) < 4 - j; omega⟩
        · have h3 : s.has = false := h3
          rw [if_neg (by rw [h3]; decide), List.append_nil] at hrs hts
          refine ⟨(j + 1, u1, v2, v3), ⟨rfl, rfl, rfl, rfl, rfl, congrArg some (ctr (by omega)), trivial⟩, ⟨by omega, fin ⟨hP11, ?_, ?_, ?_, p1', hI.p2, hI.p3, hI.b2, hI.b3, a12', a13', hI.a23, f1', hI.f2, hI.f3, hM11⟩⟩, by show 4 - (j + 1) < 4 - j; omega⟩
          · rw [List.map_append]; exact hB11
          · rw [hrs]; exact hR11
          · rw [hts]; exact hT11
      · have hj4 : j = 4 := by have := of_decF h2; omega
        subst hj4
        have e4 : i * 4 + 4 = (i + 1) * 4 := by omega
        rw [e4] at hI
        exact ⟨(i + 1, v1, v2, v3), ⟨rfl, rfl, rfl, congrArg some (ctr (by omega)), trivial⟩, ⟨by omega, hI⟩, by omega⟩
    · have hi8 : i = 8 := by have := of_decF h1; omega
      subst hi8
      rw [List.take_of_length_le (by omega)] at hI
      refine call (rank_New hI.bits (by rw [List.length_map, hl]; omega)) ?_
      rintro _ w6 ⟨q, rv, rfl, hR, m6, hq, hrv⟩
      have hI6 := hI.keep m6 fun _ h => h.elim
      have hpl := hI.blk.lt
      refine st1 hI6.blk (by rw [List.length_append, h192]; exact (by decide : 192 < 195)) rfl fun w7 m7 s7 hb7 => ?_
      have hb7 : Blk w7 p 100 (flat cSlot t ++ [ptr q, v2, v3]) := by
        have := hs_set hl [.pointer none, v2, v3] 0 (ptr q)
        rw [show flat cSlot t ++ [ptr q, v2, v3] = (flat cSlot t ++ [.pointer none, v2, v3]).set (0 + 192) (ptr q) from this.symm]
        exact hb7
      refine ⟨hI6.mod.new m7 hwp, ?_⟩
      rw [if_pos h]
      refine ⟨p, rfl, ⟨ht, q, rv, v2, v3, hb7, hR.mod m7 (by omega) fun k hk e => by have := hrv k hk; omega, hI6.recs.slr.mod m7 fun k hk e => hI.p2 (e ▸ hk), hI6.tags.slr.mod m7 fun k hk e => hI.p3 (e ▸ hk)⟩, hwp⟩
end Go.Proofs.YtffjccofglikhaaGreat
