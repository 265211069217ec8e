/-
  loesslaw19: eq, Lay.
-/
import Derived.Test.YtffjccofglikhaaGreatCDecode
namespace Go.Proofs.YtffjccofglikhaaGreat
open Go Go.RowKit

theorem q4 {i : Nat} (h : i < 32) : 0 ≤ IntKind.i64.wrap ((i : Int).tdiv 4) ∧ IntKind.i64.wrap ((i : Int).tdiv 4) < (8 : Nat) ∧ 0 ≤ (i : Int).tmod 4 ∧ (i : Int).tmod 4 < (4 : Nat) ∧ 0 + (IntKind.i64.wrap ((i : Int).tdiv 4)).toNat * 24 + ((i : Int).tmod 4).toNat * 6 = i * 6 := by
  have eq_ : IntKind.i64.wrap ((i : Int).tdiv 4) = ((i / 4 : Nat) : Int) := by rw [Int.tdiv_eq_ediv_of_nonneg (by omega), w64 (by omega) (by omega)]; omega
  have er_ : (i : Int).tmod 4 = ((i % 4 : Nat) : Int) := by rw [Int.tmod_eq_emod_of_nonneg (by omega)]; omega
  rw [eq_, er_, Int.toNat_natCast, Int.toNat_natCast]
  omega
theorem rd_slot {w : World} {b : Nat} {e : TypeId} {t : List Slot} (h : Blk w b e (flat cSlot t)) {i : Nat} (hi : i < t.length) {o : Nat} (ho : o = i * 6) : Rd w b o (slotC t[i]) := by
  subst ho
  have := h.rd (i * cSlot.k) cSlot.k
  rwa [flat_at cSlot t i _ (getE hi)] at this
theorem all_eq {α : Type} {a b : List α} (hl : a.length = b.length) (h : ∀ j, j < a.length → a[j]? = b[j]?) : a = b := by
  apply List.ext_getElem?
  intro j
  by_cases hj : j < a.length
  · exact h j hj
  · rw [List.getElem?_eq_none (by omega), List.getElem?_eq_none (by omega)]
set_option maxRecDepth 20000 in
theorem law19_eq {w : World} {a b : List Slot} (ha : a.length = 32) (hb : b.length = 32) : CallV P 161 [tabV a, tabV b] w fun r w' => r = .bool (decide (a = b)) ∧ Mod no w w' := by
  refine calls_of lay_is Tryz.func161 rfl (by kernel_rfl) (al fun b1 w1 e1 m1 s1 hb1 => al fun b2 w2 e2 m2 s2 hb2 => ?_)
  have hb1 : Blk w2 b1 35 (flat cSlot a) := Blk.mod hb1 m2 fun h => h
  have hb2 : Blk w2 b2 35 (flat cSlot b) := hb2
  refine loop (σ := Nat) (fun i => [(2, ptr b1), (3, ptr b2), (5, iV i)]) (fun i w' => i ≤ 32 ∧ (∀ j, j < i → a[j]? = b[j]?) ∧ Blk w' b1 35 (flat cSlot a) ∧ Blk w' b2 35 (flat cSlot b) ∧ Mod no w w') (fun i _ => 32 - i) 0 ⟨rfl, rfl, rfl, trivial⟩ ⟨by omega, fun j hj => by omega, hb1, hb2, m1.trn m2⟩ ?_
  clear hb1 hb2
  rintro i w3 ⟨hi, hE, hb1, hb2, hM⟩
  refine cond2 (fun h1 => ?_) (fun h1 => ?_)
  · have h1 : (i : Int) < 32 := of_decT h1
    obtain ⟨q0, q1, r0, r1, eo⟩ := q4 (i := i) (by omega)
    have hla : i < a.length := by omega
    have hlb : i < b.length := by omega
    have hea := getE hla
    have heb := getE hlb
    have hata := rd_slot hb1 hla eo
    have hatb := rd_slot hb2 hlb eo
    have hne : a[i] ≠ b[i] → decide (a = b) = false := fun h => decF fun e => h (by subst e; rfl)
    generalize a[i] = x at *
    generalize b[i] = y at *
    have l1 := hb1.lt
    have l2 := hb2.lt
    refine drawC (σ := Nat × Nat) (fun s => [(2, ptr b1), (3, ptr b2), (5, iV i), (6, ptr s.1), (7, ptr s.2)]) (fun s w' => Blk w' s.1 32 (slotC x) ∧ Blk w' s.2 32 (slotC y) ∧ Mod no w3 w') (.op 0 [] (.op 1 [] (.op 2 [] (.op 3 [] (.op 4 [] (.op 5 [] (.op 6 [] (.op 7 [] (.op 8 [] (.op 9 [] (.op 10 [] (.op 11 [] (.op 12 [] (.op 13 [] (.br (.op 14 [] (.op 15 [] (.op 16 [13] (.op 17 [] .nil)))) (.op 15 [] (.op 14 [] (.op 16 [13] (.op 17 [] .nil))))))))))))))))))) (by kernel_rfl)
      ⟨q0, q1, r0, r1, ldN (w := w3.drew) (cs := slotC x) hata rfl ⟨q0, q1, r0, r1, ldN (w := w3.drew) (cs := slotC y) hatb rfl ⟨al fun b6 w6 e6 m6 s6 hb6 => al fun b7 w7 e7 m7 s7 hb7 => ?_, al fun b7 w7 e7 m7 s7 hb7 => al fun b6 w6 e6 m6 s6 hb6 => ?_⟩⟩⟩ ?_
    · have hb67 := Blk.mod hb6 m7 fun h => h
      have hM7 : Mod no w3 w7 := m6.trn m7
      refine st hb67 rfl (by decide) (cSlot.one x) fun w8 m8 s8 hb8 => ?_
      have s3 : w3.drew.heap.size = w3.heap.size := rfl
      have hM8 : Mod no w3 w8 := hM7.new m8 (by omega)
      have hat8 : Rd w8 b2 (0 + (IntKind.i64.wrap ((i : Int).tdiv 4)).toNat * 24 + ((i : Int).tmod 4).toNat * 6) (slotC y) := hatb.mod hM8 l2 fun h => h
      refine ⟨ldN (cs := slotC y) hat8 rfl ⟨rfl, rfl⟩, ?_⟩
      have hb78 := hb7.mod m8 (by omega)
      refine st hb78 rfl (by decide) (cSlot.one y) fun w9 m9 s9 hb9 => ?_
      exact ⟨(b6, b7), ⟨rfl, rfl, rfl, rfl, rfl, trivial⟩, hb8.mod m9 (by omega), hb9, hM8.new m9 (by omega)⟩
    · have hM7 : Mod no w3 w6 := m7.trn m6
      refine st hb6 rfl (by decide) (cSlot.one x) fun w8 m8 s8 hb8 => ?_
      have s3 : w3.drew.heap.size = w3.heap.size := rfl
      have hM8 : Mod no w3 w8 := hM7.new m8 (by omega)
      have hat8 : Rd w8 b2 (0 + (IntKind.i64.wrap ((i : Int).tdiv 4)).toNat * 24 + ((i : Int).tmod 4).toNat * 6) (slotC y) := hatb.mod hM8 l2 fun h => h
      refine ⟨ldN (cs := slotC y) hat8 rfl ⟨rfl, rfl⟩, ?_⟩
      have hb78 := (Blk.mod hb7 m6 fun h => h).mod m8 (by omega)
      refine st hb78 rfl (by decide) (cSlot.one y) fun w9 m9 s9 hb9 => ?_
      exact ⟨(b6, b7), ⟨rfl, rfl, rfl, rfl, rfl, trivial⟩, hb8.mod m9 (by omega), hb9, hM8.new m9 (by omega)⟩
    · rintro ⟨b6, b7⟩ w4 ⟨hb6, hb7, hM4⟩
      dsimp only at *
      have hxy : x = y ↔ x.has = y.has ∧ x.rec_ = y.rec_ := ⟨fun h => by subst h; exact ⟨rfl, rfl⟩, fun h => by cases x; cases y; simp only [Slot.mk.injEq]; exact h⟩
      refine ld1 hb6 rfl (ld1 hb7 rfl ⟨fun h2 => condT rfl ?_, fun h2 => ldN (cs := recC x.rec_) (hb6.rd 1 5) rfl (ldN (cs := recC y.rec_) (hb7.rd 1 5) rfl (call ref10_Eq ?_))⟩)
      · have h2 : (!(x.has == y.has)) = true := h2
        have : x ≠ y := fun e => by rw [e] at h2; simp at h2
        rw [hne this]
        exact ⟨rfl, hM.trn hM4⟩
      · rintro _ w5 ⟨rfl, m5⟩
        have h2 : (!(x.has == y.has)) = false := h2
        have h2 : x.has = y.has := by simpa using h2
        refine cond2 (fun h3 => ?_) (fun h3 => ?_)
        · have h3 : (!decide (x.rec_ = y.rec_)) = true := h3
          have h3 : ¬ x.rec_ = y.rec_ := by simpa using h3
          rw [hne fun e => h3 (by rw [e])]
          exact ⟨rfl, (hM.trn hM4).trn m5⟩
        · have h3 : (!decide (x.rec_ = y.rec_)) = false := h3
          have h3 : x.rec_ = y.rec_ := by simpa using h3
          have hx : x = y := hxy.2 ⟨h2, h3⟩
          have hm := hM4.trn m5
          refine ⟨i + 1, ⟨rfl, rfl, congrArg some (ctr (by omega)), trivial⟩, ⟨by omega, fun j hj => ?_, hb1.mod hm fun h => h, hb2.mod hm fun h => h, hM.trn hm⟩, by omega⟩
          by_cases hji : j = i
          · rw [hji, hea, heb, hx]
          · exact hE j (by omega)
  · have hi : i = 32 := by have := of_decF h1; omega
    subst hi
    have : a = b := all_eq (by omega) fun j hj => hE j (by omega)
    rw [decT this]
    exact ⟨rfl, hM⟩

/-! ### Lay -/
def layGo (b i : Nat) (r : Rec) : Nat → Nat → List Slot → List Slot
  | 0, _, t => t
  | n + 1, s, t => if (t.getD (b * 4 + (s + i) % 4) Slot.zero).has = true then layGo b i r n (s + 1) t else t.set (b * 4 + (s + i) % 4) ⟨true, r⟩
def layStep (turn : List Bool) (i : Nat) (r0 : Rec) (t : List Slot) : List Slot :=
  if (recFind (recCut r0).key (refRecs t)).2 = true then t else if recMay (recCut r0) = true then
    layGo (if turn.getD i false = true then hOther (hFirst (hashOf (recCut r0).key)) (hTag (hashOf (recCut r0).key)) else hFirst (hashOf (recCut r0).key)).toNat i (recCut r0) 4 0 t
  else t
def layAll (turn : List Bool) : List Rec → Nat → List Slot → List Slot
  | [], _, t => t
  | r :: L, i, t => layAll turn L (i + 1) (layStep turn i r t)
def lay_ (L : List Rec) (turn : List Bool) : List Slot := layAll turn (L.take 40) 0 tab0
theorem layGo_len (b i : Nat) (r : Rec) : ∀ (n s : Nat) (t : List Slot), (layGo b i r n s t).length = t.length
  | 0, _, _ => rfl
  | n + 1, s, t => by
    unfold layGo
    split
    · exact layGo_len b i r n (s + 1) t
    · rw [List.length_set]
theorem layGo_all (b i : Nat) (r : Rec) (Q : Slot → Prop) (hr : Q ⟨true, r⟩) : ∀ (n s : Nat) (t : List Slot), (∀ x ∈ t, Q x) → ∀ x ∈ layGo b i r n s t, Q x
  | 0, _, _, h => h
  | n + 1, s, t, h => by
    unfold layGo
    split
    · exact layGo_all b i r Q hr n (s + 1) t h
    · intro x hx
      rcases List.mem_or_eq_of_mem_set hx with hx | rfl
      · exact h x hx
      · exact hr
theorem layStep_len (turn : List Bool) (i : Nat) (r0 : Rec) (t : List Slot) : (layStep turn i r0 t).length = t.length := by
  unfold layStep
  split
  · rfl
  · split
    · exact layGo_len _ _ _ _ _ _
    · rfl
theorem layStep_all (turn : List Bool) (i : Nat) (r0 : Rec) (Q : Slot → Prop) (hr : recMay (recCut r0) = true → Q ⟨true, recCut r0⟩) (t : List Slot) (h : ∀ x ∈ t, Q x) : ∀ x ∈ layStep turn i r0 t, Q x := by
  unfold layStep
  split
  · exact h
  · split
    · rename_i h2; exact layGo_all _ _ _ Q (hr h2) _ _ _ h
    · exact h
def xorAll : Bool := (List.range 8).all fun b => (List.range 7).all fun x => decide (0 ≤ iXor .i64 (b : Nat) (1 + (x : Nat)) ∧ iXor .i64 (b : Nat) (1 + (x : Nat)) < 8)
theorem xorAll_is : xorAll = true := by kernel_rfl
theorem hOther_rng {b t : Int} (h0 : 0 ≤ b) (h1 : b < 8) (h2 : 0 ≤ t) (h3 : t < 32768) : 0 ≤ hOther b t ∧ hOther b t < 8 := by
  have := List.all_eq_true.1 (List.all_eq_true.1 xorAll_is b.toNat (List.mem_range.2 (by omega))) (t % 7).toNat (List.mem_range.2 (by omega))
  have e1 : ((b.toNat : Nat) : Int) = b := by omega
  have e2 : (((t % 7).toNat : Nat) : Int) = t % 7 := by omega
  rw [e1, e2] at this
  unfold hOther
  rw [if_neg (by omega)]
  exact of_decide_eq_true this
theorem hFirst_rng (s : Str) : 0 ≤ hFirst (hashOf s) ∧ hFirst (hashOf s) < 8 := by unfold hFirst; omega
theorem hTag_rng (s : Str) : 0 ≤ hTag (hashOf s) ∧ hTag (hashOf s) < 32768 := by unfold hTag; omega
theorem recsStep_len (t : List Slot) (l : List Rec) : (t.foldl recsStep l).length ≤ l.length + t.length := by
  induction t generalizing l with
  | nil => exact Nat.le_refl _
  | cons s t ih =>
    rw [List.foldl_cons, List.length_cons]
    have h1 := ih (recsStep l s)
    have h2 : (recsStep l s).length ≤ l.length + 1 := by
      unfold recsStep
      split
      · exact refSet_len _ _
      · omega
    omega
theorem refRecs_len (t : List Slot) : (refRecs t).length ≤ t.length := by
  have := recsStep_len t []
  simpa [refRecs] using this
theorem i4 {s i : Nat} (hs : s ≤ 4) (hi : i ≤ 40) : (IntKind.i64.wrap ((s : Int) + (i : Int))).tmod 4 = (((s + i) % 4 : Nat) : Int) := by
  rw [w64 (by omega) (by omega), Int.tmod_eq_emod_of_nonneg (by omega)]; omega
set_option maxRecDepth 20000 in
theorem law19_Lay {w : World} {v u : Value} {L : List Rec} {turn : List Bool} (hv : SlR cRec w v L) (hu : SlR cBool w u turn) : CallV P 9 [v, u] w fun r w' => r = tabV (lay_ L turn) ∧ Mod no w w' := by
  obtain ⟨a, cp, rfl⟩ := hv.len
  obtain ⟨ua, ucp, rfl⟩ := hu.len
  refine calls_of lay_is Tryz.func9 rfl (by kernel_rfl) (al fun b4 w4 e4 m4 s4 hb4 => al fun b5 w5 e5 m5 s5 hb5 => ?_)
  have hb4 : Blk w5 b4 35 (flat cSlot tab0) := Blk.mod hb4 m5 fun h => h
  have hb5 : Blk w5 b5 35 (flat cSlot tab0) := hb5
  refine loop (σ := Nat × List Slot) (fun s => [(0, .slice a L.length cp), (1, .slice ua turn.length ucp), (4, ptr b4), (5, ptr b5), (6, iV s.1)]) (fun s w' => s.1 ≤ 40 ∧ s.2.length = 32 ∧ layAll turn ((L.take 40).drop s.1) s.1 s.2 = lay_ L turn ∧ Blk w' b4 35 (flat cSlot tab0) ∧ Blk w' b5 35 (flat cSlot s.2) ∧ Mod no w w') (fun s _ => 40 - s.1) (0, tab0) ⟨rfl, rfl, rfl, rfl, rfl, trivial⟩ ⟨by show 0 ≤ 40; omega, rfl, rfl, hb4, hb5, m4.trn m5⟩ ?_
  clear hb4 hb5
  rintro ⟨i, t⟩ w1 ⟨hi, hl, hG, hb4, hb5, hM⟩
  dsimp only at *
  have h192 : (flat cSlot t).length = 192 := by rw [flat_len, hl]; rfl
  have hS := hv.grow hM
  have hU := hu.grow hM
  have l4 := hb4.lt
  have l5 := hb5.lt
  refine ⟨fun h1 => cond2 (fun h2 => ?_) (fun h2 => ?_), fun h1 => condF rfl ?_⟩
  · have h1 : (i : Int) < L.length := of_decT h1
    have h2 : (i : Int) < 40 := of_decT h2
    have hlt : i < L.length := by omega
    have hr := getE hlt
    have hdr : (L.take 40).drop i = L[i] :: (L.take 40).drop (i + 1) := by
      have : i < (L.take 40).length := by rw [List.length_take]; omega
      rw [List.drop_eq_getElem_cons this]
      congr 1
      simp
    rw [hdr, layAll] at hG
    generalize L[i] = r0 at *
    obtain ⟨gb, go, gc, e, hgb, hgr⟩ := hS.at hr
    cases e
    refine ⟨by omega, by omega, ldN (cs := recC r0) hgr rfl (call law10_Cut ?_)⟩
    rintro _ w6 ⟨rfl, m6⟩
    have hstep : layStep turn i r0 t = if (recFind (recCut r0).key (refRecs t)).2 = true then t else if recMay (recCut r0) = true then
      layGo (if turn.getD i false = true then hOther (hFirst (hashOf (recCut r0).key)) (hTag (hashOf (recCut r0).key)) else hFirst (hashOf (recCut r0).key)).toNat i (recCut r0) 4 0 t else t := rfl
    have hrk : (recCut r0).key.length ≤ 20 := by show (r0.key.take 20).length ≤ 20; rw [List.length_take]; omega
    have hrv : (recCut r0).val.s.length ≤ 30 := by show (r0.val.s.take 30).length ≤ 30; rw [List.length_take]; omega
    generalize recCut r0 = r at *
    refine al fun b7 w7 e7 m7 s7 hb7 => st hb7 rfl (by decide) (recC_one r) fun w8 m8 s8 hb8 => ?_
    have hb8 : Blk w8 b7 30 (recC r) := hb8
    have hM8 : Mod no w1 w8 := (m6.trn m7).new m8 (by have := m6.size; omega)
    have hb48 := hb4.mod hM8 fun h => h
    have hb58 := hb5.mod hM8 fun h => h
    have hMM : Mod no w w8 := hM.trn hM8
    have hU8 := hU.grow hM8
    have sd : w8.drew.heap.size = w8.heap.size := rfl
    have hk : w8.heap.size ≤ 140737488355328 → True := fun _ => trivial
    have l8 := hb8.lt
    have hrr := refRecs_len t
    clear hb4 hb5 hS hU m6 m7 m8 hM8 hM
    refine drawC (σ := Unit) (fun _ => [(0, .slice (some ⟨gb, go, none⟩) L.length cp), (1, .slice ua turn.length ucp), (4, ptr b4), (5, ptr b5), (6, iV i), (7, ptr b7), (9, .bool (recFind r.key (refRecs t)).2)]) (fun _ w' => Mod no w8 w') (.op 0 [] (.op 2 [] (.op 3 [] (.br (.op 1 [3] (.br (.op 4 [] (.op 5 [] (.op 6 [] (.op 7 [] (.op 8 [] (.op 9 [] (.op 10 [] .nil))))))) (.op 8 [] (.op 4 [] (.op 5 [] (.op 6 [] (.op 7 [] (.op 9 [] (.op 10 [] .nil))))))))) (.op 8 [] (.op 1 [3] (.op 4 [] (.op 5 [] (.op 6 [] (.op 7 [] (.op 9 [] (.op 10 [] .nil)))))))))))) (by kernel_rfl)
      (ldB (w := w8.drew) hb58 h192 (ld1 (w := w8.drew) hb8 rfl ⟨call (ref10_Records hl) ?_, al fun b9 w9 e9 m9 s9 hb9 => call (ref10_Records hl) ?_⟩)) ?_
    · rintro v1 w9 ⟨hO, m9, hF⟩
      have m9 : Mod no w8 w9 := m9
      refine ⟨ld1 (hb8.mod m9 fun h => h) rfl ⟨rfl, rfl⟩, ⟨call (ref10_Find hO.slr (by omega)) ?_, al fun b10 w10 e10 m10 s10 hb10 => call (ref10_Find (hO.grow m10).slr (by omega)) ?_⟩⟩
      · rintro _ w10 ⟨rfl, m10⟩
        exact al fun b11 w11 e11 m11 s11 hb11 => st hb11 rfl (by decide) (recC_one _) fun w12 m12 s12 hb12 => ⟨(), ⟨rfl, rfl, rfl, rfl, rfl, rfl, rfl, trivial⟩, ((m9.trn m10).trn m11).new m12 (by have := m9.size; have := m10.size; omega)⟩
      · rintro _ w11 ⟨rfl, m11⟩
        exact st (Blk.mod hb10 m11 fun h => h) rfl (by decide) (recC_one _) fun w12 m12 s12 hb12 => ⟨(), ⟨rfl, rfl, rfl, rfl, rfl, rfl, rfl, trivial⟩, ((m9.trn m10).trn m11).new m12 (by have := m9.size; omega)⟩
    · rintro v1 w10 ⟨hO, m10, hF⟩
      have m9 : Mod no w8 w9 := m9
      refine ⟨ld1 ((hb8.mod m9 fun h => h).mod m10 fun h => h) rfl ⟨rfl, rfl⟩, call (ref10_Find hO.slr (by omega)) ?_⟩
      rintro _ w11 ⟨rfl, m11⟩
      exact st ((Blk.mod hb9 m10 fun h => h).mod m11 fun h => h) rfl (by decide) (recC_one _) fun w12 m12 s12 hb12 => ⟨(), ⟨rfl, rfl, rfl, rfl, rfl, rfl, rfl, trivial⟩, ((m9.trn m10).trn m11).new m12 (by omega)⟩
    · rintro _ w9 m9
      have hb49 := hb48.mod m9 fun h => h
      have hb59 := hb58.mod m9 fun h => h
      have hb79 := hb8.mod m9 fun h => h
      have hU9 := hU8.grow m9
      have hM9 := hMM.trn m9
      clear hb48 hb58 hb8 hU8 hMM m9
      refine ⟨fun h3 => condT rfl ?_, fun h3 => ldB hb79 rfl (call (ref10_May (by omega)) ?_)⟩
      · rw [hstep, if_pos h3] at hG
        exact ⟨(i + 1, t), ⟨rfl, rfl, rfl, rfl, congrArg some (ctr (by omega)), trivial⟩, ⟨by show i + 1 ≤ 40; omega, hl, hG, hb49, hb59, hM9⟩, by show 40 - (i + 1) < 40 - i; omega⟩
      · rintro _ w10 ⟨rfl, m10⟩
        rw [hstep, if_neg (by rw [h3]; decide)] at hG
        have hb4a := hb49.mod m10 fun h => h
        have hb5a := hb59.mod m10 fun h => h
        have hb7a := hb79.mod m10 fun h => h
        have hUa := hU9.grow m10
        have hMa := hM9.trn m10
        clear hb49 hb59 hb79 hU9 hM9 m10
        refine cond2 (fun h4 => ?_) (fun h4 => ?_)
        · have h4 : (!recMay r) = true := h4
          have h4 : recMay r = false := by simpa using h4
          rw [h4, if_neg (by decide)] at hG
          exact ⟨(i + 1, t), ⟨rfl, rfl, rfl, rfl, congrArg some (ctr (by omega)), trivial⟩, ⟨by show i + 1 ≤ 40; omega, hl, hG, hb4a, hb5a, hMa⟩, by show 40 - (i + 1) < 40 - i; omega⟩
        · have h4 : (!recMay r) = false := h4
          have h4 : recMay r = true := by simpa using h4
          rw [if_pos h4] at hG
          refine ld1 hb7a rfl (call (ref6_Hash (by omega)) ?_)
          rintro _ w11 ⟨rfl, m11⟩
          have hb4b := hb4a.mod m11 fun h => h
          have hb5b := hb5a.mod m11 fun h => h
          have hb7b := hb7a.mod m11 fun h => h
          have hUb := hUa.grow m11
          have hMb := hMa.trn m11
          clear hb4a hb5a hb7a hUa hMa m11
          obtain ⟨hh0, hh1⟩ := hashOf_rng r.key
          obtain ⟨hf0, hf1⟩ := hFirst_rng r.key
          obtain ⟨ht0, ht1⟩ := hTag_rng r.key
          obtain ⟨ho0, ho1⟩ := hOther_rng hf0 hf1 ht0 ht1
          refine call (ref6_First hh0) ?_
          rintro _ w12 ⟨rfl, rfl⟩
          generalize hbs : (if turn.getD i false = true then hOther (hFirst (hashOf r.key)) (hTag (hashOf r.key)) else hFirst (hashOf r.key)) = bs at hG
          refine (fun k2 => ⟨fun h5 => ?hA, fun h5 => condC (σ := Unit) (fun _ => [(0, .slice (some ⟨gb, go, none⟩) L.length cp), (1, .slice ua turn.length ucp), (4, ptr b4), (5, ptr b5), (6, iV i), (7, ptr b7), (11, iV bs)]) (fun _ w' => w' = w12) nofun (fun _ => ⟨(), ⟨rfl, rfl, rfl, rfl, rfl, rfl, congrArg (fun x => some (iV x)) ?hC, trivial⟩, rfl⟩) k2⟩) ?hK
          case hA =>
            have h5 : (i : Int) < turn.length := of_decT h5
            have hlu : i < turn.length := by omega
            have hgd : turn.getD i false = turn[i] := by rw [List.getD_eq_getElem?_getD, getE hlu]; rfl
            obtain ⟨gb2, go2, gc2, e2, hgb2, hgr2⟩ := hUb.at (getE hlu)
            cases e2
            refine ⟨by omega, by omega, ld1r (j := 0) hgr2 rfl (condC (σ := Unit) (fun _ => [(0, .slice (some ⟨gb, go, none⟩) L.length cp), (1, .slice (some ⟨gb2, go2, none⟩) turn.length ucp), (4, ptr b4), (5, ptr b5), (6, iV i), (7, ptr b7), (11, iV bs)]) (fun _ w' => w' = w12) (fun h6 => ?_) (fun h6 => ?_) k2)⟩
            · have h6 : turn[i] = true := h6
              rw [hgd, if_pos h6] at hbs
              refine call (ref6_Tag hh0 hh1) ?_
              rintro _ _ ⟨rfl, rfl⟩
              refine call ref6_Other ?_
              rintro _ _ ⟨rfl, rfl⟩
              rw [hbs]
              exact ⟨(), ⟨rfl, rfl, rfl, rfl, rfl, rfl, rfl, trivial⟩, rfl⟩
            · have h6 : turn[i] = false := h6
              rw [hgd, h6, if_neg (by decide)] at hbs
              rw [hbs]
              exact ⟨(), ⟨rfl, rfl, rfl, rfl, rfl, rfl, rfl, trivial⟩, rfl⟩
          case hC =>
            have h5 : ¬ (i : Int) < turn.length := of_decF h5
            rw [List.getD_eq_getElem?_getD, List.getElem?_eq_none (by omega)] at hbs
            rw [← hbs]; rfl
          case hK =>
            have hb0 : 0 ≤ bs := by rw [← hbs]; split <;> omega
            have hb8' : bs < 8 := by rw [← hbs]; split <;> omega
            rintro _ w13 rfl
            refine loop (σ := Nat) (fun s => [(0, .slice (some ⟨gb, go, none⟩) L.length cp), (1, .slice ua turn.length ucp), (4, ptr b4), (5, ptr b5), (6, iV i), (7, ptr b7), (11, iV bs), (12, iV s)]) (fun s w' => w' = w13 ∧ s ≤ 4 ∧ layGo bs.toNat i r (4 - s) s t = layGo bs.toNat i r 4 0 t) (fun s _ => 4 - s) 0 ⟨rfl, rfl, rfl, rfl, rfl, rfl, rfl, rfl, trivial⟩ ⟨rfl, by omega, rfl⟩ ?_
            rintro s w14 ⟨rfl, hs, hL⟩
            refine cond2 (fun h6 => ?_) (fun h6 => ?_)
            · have h6 : (s : Int) < 4 := of_decT h6
              have e4 := i4 (s := s) (i := i) (by omega) (by omega)
              have r0' : 0 ≤ (IntKind.i64.wrap ((s : Int) + (i : Int))).tmod 4 := by rw [e4]; omega
              have r1' : (IntKind.i64.wrap ((s : Int) + (i : Int))).tmod 4 < (4 : Nat) := by rw [e4]; omega
              have eo' : 0 + bs.toNat * 24 + ((IntKind.i64.wrap ((s : Int) + (i : Int))).tmod 4).toNat * 6 = (bs.toNat * 4 + (s + i) % 4) * 6 := by rw [e4, Int.toNat_natCast]; omega
              have hkl : bs.toNat * 4 + (s + i) % 4 < t.length := by omega
              have hat := rd_slot hb5b hkl eo'
              have hgd : t.getD (bs.toNat * 4 + (s + i) % 4) Slot.zero = t[bs.toNat * 4 + (s + i) % 4] := by rw [List.getD_eq_getElem?_getD, getE hkl]; rfl
              rw [show 4 - s = (4 - (s + 1)) + 1 by omega, layGo, hgd] at hL
              generalize bs.toNat * 4 + (s + i) % 4 = k at *
              generalize t[k] = x at *
              refine ⟨hb0, hb8', r0', r1', ld1r (j := 0) hat rfl (cond2 (fun h7 => ?_) (fun h7 => ?_))⟩
              · have h7 : (!x.has) = true := h7
                have h7 : x.has = false := by simpa using h7
                rw [h7, if_neg (by decide)] at hL
                rw [← hL] at hG
                refine draw [(0, []), (1, []), (2, []), (3, []), (4, []), (5, []), (6, [])] (by kernel_rfl) (ldB (w := w14.drew) hb7b rfl ⟨_, rfl, hb0, hb8', r0', r1', ?_⟩)
                show StoreW w14.drew ⟨b5, 0 + bs.toNat * 24 + ((IntKind.i64.wrap ((s : Int) + (i : Int))).tmod 4).toNat * 6, none⟩ 6 (slotC ⟨true, r⟩) _
                rw [eo']
                refine st (w := w14.drew) hb5b rfl (by rw [flat_len, hl]; show k * 6 + 6 ≤ 192; omega) (cSlot.one _) fun w15 m15 s15 hb15 => ?_
                have m15 : Mod (· = b5) w14 w15 := m15
                have hb15 : Blk w15 b5 35 (flat cSlot (t.set k ⟨true, r⟩)) := by
                  rw [flat_set cSlot _ t k hkl]
                  exact hb15
                exact ⟨(i + 1, t.set k ⟨true, r⟩), ⟨rfl, rfl, rfl, rfl, congrArg some (ctr (by omega)), trivial⟩, ⟨by show i + 1 ≤ 40; omega, by show (t.set k _).length = 32; rw [List.length_set]; exact hl, hG, hb4b.mod m15 (by omega), hb15, hMb.new m15 (by omega)⟩, by show 40 - (i + 1) < 40 - i; omega⟩
              · have h7 : (!x.has) = false := h7
                have h7 : x.has = true := by simpa using h7
                rw [if_pos h7] at hL
                exact ⟨s + 1, ⟨rfl, rfl, rfl, rfl, rfl, rfl, rfl, congrArg some (ctr (by omega)), trivial⟩, ⟨rfl, by omega, hL⟩, by omega⟩
            · have h6 : ¬ (s : Int) < 4 := of_decF h6
              have : s = 4 := by omega
              subst this
              rw [layGo] at hL
              rw [← hL] at hG
              exact ⟨(i + 1, t), ⟨rfl, rfl, rfl, rfl, congrArg some (ctr (by omega)), trivial⟩, ⟨by show i + 1 ≤ 40; omega, hl, hG, hb4b, hb5b, hMb⟩, by show 40 - (i + 1) < 40 - i; omega⟩
  all_goals
    have hend : (L.take 40).drop i = [] := by
      first
      | (have := of_decF h2; rw [List.drop_eq_nil_iff, List.length_take]; omega)
      | (have := of_decF h1; rw [List.drop_eq_nil_iff, List.length_take]; omega)
    rw [hend, layAll] at hG
    rw [← hG]
    refine ldB hb5 h192 (st hb4 h192 (by decide) (flat_one _ _) fun w6 m6 s6 hb6 => ?_)
    have hb6 : Blk w6 b4 35 (flat cSlot t) := by
      have e : List.take 0 (flat cSlot tab0) ++ flat cSlot t ++ List.drop (0 + 192) (flat cSlot tab0) = flat cSlot t := by
        rw [List.take_zero, List.nil_append, List.drop_of_length_le (by exact (by decide : (flat cSlot tab0).length ≤ 192)), List.append_nil]
      rw [← e]
      exact hb6
    exact ldB hb6 h192 ⟨rfl, hM.new m6 (by omega)⟩
end Go.Proofs.YtffjccofglikhaaGreat
