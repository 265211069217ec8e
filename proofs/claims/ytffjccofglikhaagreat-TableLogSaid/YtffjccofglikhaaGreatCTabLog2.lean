/-
  loesslaw20.TableLog: the walk.
-/
import Derived.Test.YtffjccofglikhaaGreatCTabLog
namespace Go.Proofs.YtffjccofglikhaaGreat
open Go Go.RowKit

theorem store_List {w : World} {p : Nat} {t : List Slot} (h : StoreR w p t) : CallV P 28 [ptr p] w fun r w' => Own cRec 30 w' r (newest (recsOf t)) ∧ Mod no w w' ∧ ∀ k, r.ownBlock = some k → w.heap.size ≤ k := by
  obtain ⟨q, rv, ra, ta, hS1, hS2, hS3, hS4⟩ := h.ex
  have htl : (flat cSlot t).length = 192 := by rw [flat_len, h.fit.len]; rfl
  refine calls_of lay_is Tryz.func28 rfl (by kernel_rfl) (condF rfl (ldN (cs := flat cSlot t) hS1.pre htl (call (order_List h.fit.len fun s hs => by have := (h.fit.fit s hs).key; omega) fun r w1 h => h)))
theorem logAll_succ {R : List Rec} {i : Nat} (h : i < R.length) : logAll (R.take (i + 1)) = (logPut (logAll (R.take i)) R[i]).1 := by
  unfold logAll
  rw [← List.take_append_getElem h, List.foldl_append]; rfl
theorem logTab_at (s : LogS) {i : Nat} (h : i < 32) : (logTab s)[i]? = some ⟨(logSlot s.l s.es i).2, (logSlot s.l s.es i).1⟩ := by
  unfold logTab
  rw [List.getElem?_map, List.getElem?_range h]; rfl
theorem logTab_fit {s : LogS} (hf : ∀ r ∈ s.l, RecFit r) : TabFit (logTab s) := by
  refine ⟨logTab_len s, fun x hx => ?_⟩
  unfold logTab at hx
  obtain ⟨i, _, rfl⟩ := List.mem_map.1 hx
  show RecFit (logSlot s.l s.es i).1
  unfold logSlot
  split
  · by_cases hl : (s.es.getD i Ent.zero).id.toNat < s.l.length
    · show RecFit (s.l.getD _ _)
      rw [List.getD_eq_getElem?_getD, getE hl]
      exact hf _ (List.getElem_mem hl)
    · show RecFit (s.l.getD _ _)
      rw [List.getD_eq_getElem?_getD, List.getElem?_eq_none (by omega)]
      exact ⟨rawZ, by decide⟩
  · exact ⟨rawZ, by decide⟩
set_option maxRecDepth 20000 in
theorem law20_TableLog {w : World} {v : Value} {L : List Rec} (hv : SlR cRec w v L) (hL : ∀ r ∈ L, RecIn r) : CallV P 5 [v] w fun r w' => r = .bool true ∧ Mod no w w' := by
  refine calls_of lay_is Tryz.func5 rfl (by kernel_rfl) (call law20_begun ?_)
  rintro _ w1 ⟨rfl, m1⟩
  refine condF rfl (call (law10_Recs (n := 40) (hv.grow m1) (by omega)) ?_)
  rintro u w2 ⟨hO, m2, hF⟩
  have hM2 := m1.trn m2
  have hRl : ((L.take 40).map recCut).length ≤ 40 := by rw [List.length_map, List.length_take]; omega
  have hRf : ∀ r ∈ (L.take 40).map recCut, RecFit r := fun r hr => by
    obtain ⟨x, hx, rfl⟩ := List.mem_map.1 hr
    exact recCut_fit (hL x (List.mem_of_mem_take hx))
  have hRk : ∀ r ∈ (L.take 40).map recCut, r.key.length ≤ 20 := fun r hr => by
    obtain ⟨x, hx, rfl⟩ := List.mem_map.1 hr
    show (x.key.take 20).length ≤ 20; rw [List.length_take]; omega
  have hS2 := hO.slr
  generalize (L.take 40).map recCut = R at *
  obtain ⟨a, cp, rfl⟩ := hS2.len
  refine call log_New ?_
  rintro _ w3 ⟨q, p, rfl, hLog, m3, hq, hp⟩
  clear hO
  have hno : ∀ {v : Value} {a b : World}, Mod (LFoot q p v) a b → (∀ k, v.ownBlock = some k → w2.heap.size ≤ k) → Mod no w2 a → Mod no w2 b := fun m hv h => h.tr m fun i hi hh => by
    rcases hh with hh | hh | hh
    · omega
    · omega
    · have := hv i hh; omega
  refine loop (σ := Nat × Value) (fun s => [(0, .slice a R.length cp), (4, ptr q), (5, iV s.1)]) (fun s w' => s.1 ≤ R.length ∧ LogR w' q p s.2 (logAll (R.take s.1)).l (logAll (R.take s.1)).es ∧ (logAll (R.take s.1)).l.length ≤ s.1 ∧ Mod no w2 w' ∧ (∀ k, s.2.ownBlock = some k → w2.heap.size ≤ k)) (fun s _ => R.length - s.1) (0, .slice none 0 0) ⟨rfl, rfl, rfl, trivial⟩ ⟨Nat.zero_le _, hLog, Nat.le_refl 0, m3, nofun⟩ ?_
  clear hLog m3
  rintro ⟨i, lv⟩ w4 ⟨hi, hLg, hll, hM, hFl⟩
  dsimp only at *
  have hS := hS2.grow hM
  refine cond2 (fun h1 => ?_) (fun h1 => ?_)
  · have h1 : (i : Int) < R.length := of_decT h1
    have hlt : i < R.length := by omega
    have hr := getE hlt
    have hf := hRf _ (List.getElem_mem hlt)
    have hsucc := logAll_succ hlt
    generalize R[i] = r at *
    obtain ⟨gb, go, gc, e, hgb, hgr⟩ := hS.at hr
    cases e
    refine ⟨by omega, by omega, ldN (cs := recC r) hgr rfl (call (log_Put hLg hf (by omega)) ?_)⟩
    rintro _ w5 ⟨rfl, lv', hLg', m5, hf5⟩
    have hpl := logPut_len (logAll (R.take i)) r
    refine ⟨(i + 1, lv'), ⟨rfl, rfl, congrArg some (ctr (by omega)), trivial⟩, ⟨by show i + 1 ≤ _; omega, ?_, ?_, hno m5 hFl hM, ge_grow hf5 hM.size hFl⟩, by show R.length - (i + 1) < R.length - i; omega⟩
    · show LogR w5 q p lv' (logAll (R.take (i + 1))).l (logAll (R.take (i + 1))).es
      rw [hsucc]; exact hLg'
    · show (logAll (R.take (i + 1))).l.length ≤ i + 1
      rw [hsucc]; omega
  · have h1 : ¬ (i : Int) < R.length := of_decF h1
    have hin : i = R.length := by omega
    subst hin
    rw [List.take_length] at hLg hll
    have hok := logAll_ok R
    have hfit := logTab_fit (s := logAll R) hLg.fit
    have hmay := logTab_may hok
    have hrec := logTab_recs hok
    have hget := logGet_is hok
    have hrd := logTab_reads hok
    have hat := fun i h => logTab_at (logAll R) (i := i) h
    have hnd := hok.nd
    generalize hT : logTab (logAll R) = T at *
    clear hT hok
    generalize logAll R = LS at *
    obtain ⟨sl, ses⟩ := LS
    dsimp only at *
    refine al fun b6 w5 e5 m5 s5 hb5 => ?_
    have hb5 : Blk w5 b6 44 (flat cSlot tab0) := hb5
    have hM5 := hM.trn m5
    have hL5 := hLg.grow m5
    have g6 : w2.heap.size ≤ b6 := by have := hM.size; omega
    have lq := hLg.blk.lt
    have lp := hLg.dir.blk.lt
    have lv' := hLg.own.lt
    have d6 : q ≠ b6 ∧ p ≠ b6 ∧ lv.ownBlock ≠ some b6 := ⟨by omega, by omega, fun e => by have := lv' _ e; omega⟩
    refine loop (σ := Nat × List Slot) (fun s => [(0, .slice a R.length cp), (4, ptr q), (6, ptr b6), (7, iV s.1)]) (fun s w' => s.1 ≤ 32 ∧ s.2.length = 32 ∧ (∀ j, s.2[j]? = if j < s.1 then T[j]? else tab0[j]?) ∧ Blk w' b6 44 (flat cSlot s.2) ∧ LogR w' q p lv sl ses ∧ Mod no w2 w') (fun s _ => 32 - s.1) (0, tab0) ⟨rfl, rfl, rfl, rfl, trivial⟩ ⟨Nat.zero_le _, rfl, fun j => by rw [if_neg (Nat.not_lt_zero _)], hb5, hL5, hM5⟩ ?_
    clear hb5 hL5 hM5 m5 hM hLg hS
    rintro ⟨i, U⟩ w6 ⟨hi, hU, hE, hb, hLg, hM⟩
    dsimp only at *
    refine cond2 (fun h2 => ?_) (fun h2 => ?_)
    · have h2 : (i : Int) < 32 := of_decT h2
      have e1 := tdiv4 (i := i) (by omega)
      have e2 := tmod4 (i := i)
      have hsl := log_Slot hLg (b := i / 4) (s := i % 4) (by omega) (by omega)
      rw [← e1, ← e2, show i / 4 * 4 + i % 4 = i by omega] at hsl
      refine call hsl ?_
      rintro _ w7 ⟨rfl, m7⟩
      have hTi := hat i (by omega)
      generalize hls : logSlot sl ses i = ls at *
      refine al fun b8 w8 e8 m8 s8 hb8 => st hb8 rfl (by decide) (recC_one _) fun w9 m9 s9 hb9 => ?_
      have hb9 : Blk w9 b8 30 (recC ls.1) := hb9
      have m69 : Mod no w6 w9 := (m7.trn m8).new m9 (by have := m7.size; omega)
      have hb6' := hb.mod m69 fun h => h
      have hLg9 := hLg.grow m69
      have hM9 := hM.trn m69
      refine cond2 (fun h3 => ?_) (fun h3 => ?_)
      · have h3 : ls.2 = true := h3
        obtain ⟨q0, q1, r0, r1, eo⟩ := q4 (i := i) (by omega)
        refine draw [(0, []), (1, []), (2, []), (3, []), (4, []), (5, []), (6, []), (7, []), (8, [])] (by kernel_rfl) (ldB (w := w9.drew) hb9 rfl ⟨_, rfl, q0, q1, r0, r1, ?_⟩)
        show StoreW w9.drew ⟨b6, 0 + (IntKind.i64.wrap ((i : Int).tdiv 4)).toNat * 24 + ((i : Int).tmod 4).toNat * 6, none⟩ 6 (slotC ⟨true, ls.1⟩) _
        rw [eo]
        refine st (w := w9.drew) hb6' rfl (by rw [flat_len, hU]; show i * 6 + 6 ≤ 192; omega) (cSlot.one _) fun w10 m10 s10 hb10 => ?_
        have m10 : Mod (· = b6) w9 w10 := m10
        have hb10 : Blk w10 b6 44 (flat cSlot (U.set i ⟨true, ls.1⟩)) := by
          rw [flat_set cSlot _ U i (by omega)]
          exact hb10
        refine ⟨(i + 1, U.set i ⟨true, ls.1⟩), ⟨rfl, rfl, rfl, congrArg some (ctr (by omega)), trivial⟩, ⟨by show i + 1 ≤ 32; omega, by show (U.set i _).length = 32; rw [List.length_set]; exact hU, fun j => ?_, hb10, hLg9.mod m10 d6.1 d6.2.1 (fun k hk e => d6.2.2 (by rw [hk, e])), hM9.new m10 g6⟩, by show 32 - (i + 1) < 32 - i; omega⟩
        show (U.set i ⟨true, ls.1⟩)[j]? = if j < i + 1 then T[j]? else tab0[j]?
        by_cases hj : i = j
        · subst hj
          rw [List.getElem?_set_self (by omega), if_pos (by omega), hTi, h3]
        · rw [List.getElem?_set_ne hj, hE j]
          by_cases hji : j < i
          · rw [if_pos hji, if_pos (by omega)]
          · rw [if_neg hji, if_neg (by omega)]
      · have h3 : ls.2 = false := h3
        refine ⟨(i + 1, U), ⟨rfl, rfl, rfl, congrArg some (ctr (by omega)), trivial⟩, ⟨by show i + 1 ≤ 32; omega, hU, fun j => ?_, hb6', hLg9, hM9⟩, by show 32 - (i + 1) < 32 - i; omega⟩
        show U[j]? = if j < i + 1 then T[j]? else tab0[j]?
        rw [hE j]
        by_cases hj : j < i
        · rw [if_pos hj, if_pos (by omega)]
        · rw [if_neg hj]
          by_cases hj2 : j = i
          · subst hj2
            rw [if_pos (by omega), hTi, h3]
            have hz : ls.1 = Rec.zero := by
              rw [← hls] at h3 ⊢
              unfold logSlot at h3 ⊢
              split at h3
              · cases h3
              · rename_i hc; rw [if_neg hc]
            rw [hz]
            have : tab0[j]? = some Slot.zero := by unfold tab0; rw [List.getElem?_replicate, if_pos (by omega)]
            rw [this]; rfl
          · rw [if_neg (by omega)]
    · have hi : i = 32 := by have := of_decF h2; omega
      subst hi
      have hTl := hfit.len
      have hUT : U = T := by
        apply List.ext_getElem?
        intro j
        rw [hE j]
        by_cases hj : j < 32
        · rw [if_pos hj]
        · rw [if_neg hj, List.getElem?_eq_none (by show 32 ≤ j; omega), List.getElem?_eq_none (by omega)]
      rw [hUT] at hb
      clear hE hUT hU hat
      have hnT : ((recsOf T).map (·.key)).Nodup := hmay.nd
      have hfind : ∀ k, hsGet T k = recFind k sl := fun k => by rw [hsGet_is hTl hmay, recFind_perm hrec hnT]
      have hnew : newest (recsOf T) = newest sl := newest_perm hrec hnT
      have hom := (ordMay_iff T).2 hmay
      refine ldB hb (flat192 hTl) (call (store_New hfit) ?_)
      rintro _ w7 ⟨m7, hs⟩
      rw [if_pos hom] at hs
      obtain ⟨p2, rfl, hSt, _⟩ := hs
      have hLg7 := hLg.grow m7
      have hM7 := hM.trn m7
      clear hLg hM hb m7
      refine ptF rfl (call (store_List hSt) ?_)
      rintro l1 w8 ⟨hO1, m8, _⟩
      refine call (log_List (hLg7.grow m8)) ?_
      rintro l2 w9 ⟨hO2, m9, _⟩
      rw [hnew] at hO1
      have hnl : (newest sl).length ≤ 1000000 := by
        unfold newest
        rw [List.length_map, sortS_len, List.length_map]
        have := newMap_len sl
        omega
      refine call (ref10_EqRecs (hO1.grow m9).slr hO2.slr hnl) ?_
      rintro _ w10 ⟨rfl, m10⟩
      refine condF (by show (!decide (newest sl = newest sl)) = false; rw [decT rfl]; rfl) ?_
      have m7a := (m8.trn m9).trn m10
      have hSa := hSt.grow m7a
      have hLa := hLg7.grow m7a
      have hMa := hM7.trn m7a
      clear hO1 hO2 m8 m9 m10 hSt hLg7 hM7 m7a
      refine loop (σ := Nat) (fun i => [(0, .slice a R.length cp), (4, ptr q), (10, ptr p2), (12, iV i)]) (fun i w' => i ≤ R.length ∧ StoreR w' p2 T ∧ LogR w' q p lv sl ses ∧ Mod no w2 w') (fun i _ => R.length - i) 0 ⟨rfl, rfl, rfl, rfl, trivial⟩ ⟨Nat.zero_le _, hSa, hLa, hMa⟩ ?_
      clear hSa hLa hMa
      rintro i w11 ⟨hi, hSt, hLg, hM⟩
      have hS := hS2.grow hM
      refine cond2 (fun h3 => ?_) (fun h3 => ?_)
      · have h3 : (i : Int) < R.length := of_decT h3
        have hlt : i < R.length := by omega
        have hr := getE hlt
        have hkl := hRk _ (List.getElem_mem hlt)
        generalize R[i] = r at *
        obtain ⟨gb, go, gc, e, hgb, hgr⟩ := hS.at hr
        cases e
        refine ⟨by omega, by omega, ld1r (j := 0) hgr rfl (call (store_Get hSt (k := r.key) (by omega)) ?_)⟩
        rintro _ w12 ⟨rfl, m12⟩
        rw [hfind]
        have hg := hget r.key
        have hrk := hrd r.key
        refine al fun b13 w13 e13 m13 s13 hb13 => st hb13 rfl (by decide) (recC_one _) fun w14 m14 s14 hb14 => ?_
        have m114 : Mod no w11 w14 := (m12.trn m13).new m14 (by have := m12.size; omega)
        have hgr14 := hgr.mod m114 hgb fun h => h
        refine ⟨by omega, by omega, ld1r (j := 0) hgr14 rfl (call (log_Get (hLg.grow m114) (k := r.key) (by omega)) ?_)⟩
        rintro _ w15 ⟨rfl, m15⟩
        have hpair : (if logFind sl ses r.key < 0 then Value.tuple #[recV Rec.zero, .bool false] else .tuple #[recV (sl.getD (logFind sl ses r.key).toNat Rec.zero), .bool true]) = .tuple #[recV (recFind r.key sl).1, .bool (recFind r.key sl).2] := by
          rw [← hg]
          split <;> rfl
        rw [hpair]
        clear hpair hg
        generalize recFind r.key sl = G at *
        have hb14 : Blk w14 b13 30 (recC G.1) := hb14
        refine al fun b15 w16 e16 m16 s16 hb16 => st hb16 rfl (by decide) (recC_one _) fun w17 m17 s17 hb17 => ?_
        have hb17 : Blk w17 b15 30 (recC G.1) := hb17
        have m1417 : Mod no w14 w17 := (m15.trn m16).new m17 (by have := m15.size; omega)
        have hb1417 := hb14.mod m1417 fun h => h
        have m1117 := m114.trn m1417
        have hgr17 := hgr14.mod m1417 (by have := m114.size; omega) fun h => h
        refine draw [(0, []), (1, []), (2, []), (3, []), (4, []), (5, []), (6, []), (7, []), (8, []), (9, []), (10, []), (11, []), (12, []), (13, []), (14, []), (15, []), (17, []), (18, []), (19, []), (20, []), (21, []), (22, []), (16, [22]), (23, []), (24, []), (25, [])] (by kernel_rfl) (ptF (by show (!(G.2 == G.2)) = false; simp) (ldB (w := w17.drew) hb1417 rfl (ldB (w := w17.drew) hb17 rfl (call ref10_Eq ?_))))
        rintro _ w18 ⟨rfl, m18⟩
        have m18 : Mod no w17 w18 := m18
        have hgr18 := hgr17.mod m18 (by have := m1117.size; omega) fun h => h
        have m1118 := m1117.trn m18
        refine ptF (by show (!decide (G.1 = G.1)) = false; rw [decT rfl]; rfl) ⟨by omega, by omega, ld1r (j := 0) hgr18 rfl ⟨by omega, by omega, ld1r (j := 0) hgr18 rfl (call (store_Reads (hSt.grow m1118) (k := r.key) (by omega)) ?_)⟩⟩
        rintro _ w19 ⟨rfl, m19⟩
        refine ⟨ld1r (j := 0) (hgr18.mod m19 (by have := m1118.size; omega) fun h => h) rfl ⟨rfl, rfl⟩, call (log_Reads ((hLg.grow m1118).grow m19) (k := r.key) (by omega)) ?_⟩
        rintro _ w20 ⟨rfl, m20⟩
        have m1120 := (m1118.trn m19).trn m20
        refine condF (by show (!((((hsLike T r.key).length : Nat) : Int) == (((logIds ses r.key).length : Nat) : Int))) = false; rw [hrk]; simp) ?_
        exact ⟨i + 1, ⟨rfl, rfl, rfl, congrArg some (ctr (by omega)), trivial⟩, ⟨by omega, hSt.grow m1120, hLg.grow m1120, hM.trn m1120⟩, by omega⟩
      · exact ⟨rfl, (hM2.trn hM)⟩
end Go.Proofs.YtffjccofglikhaaGreat
