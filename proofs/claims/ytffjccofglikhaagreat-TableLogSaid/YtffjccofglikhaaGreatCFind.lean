/-
  slices.Sort of numbers; cuckoo's Find.
-/
import Derived.Test.YtffjccofglikhaaGreatCCuck
namespace Go.Proofs.YtffjccofglikhaaGreat
open Go Go.RowKit

def sortI (l : List Int) : List Int := l.mergeSort fun x y => decide (x ≤ y)
theorem flat_cI (s : List Int) : flat cI s = s.map iV := by
  unfold flat cI
  induction s with
  | nil => rfl
  | cons a s ih => simp [ih]
theorem sort_ints {e : TypeId} {w : World} {v : Value} {xs : List Int} (h : Own cI e w v xs) (hl : xs.length ≤ 1000000) : CallV P 130 [v] w fun r w' => r = .tuple #[] ∧ Own cI e w' v (sortI xs) ∧ Mod (fun k => v.ownBlock = some k) w w' := by
  by_cases hx : xs = []
  · subst hx
    obtain ⟨a, cp, rfl⟩ := h.slr.len
    refine Calls.mono (AnyM.slices_Sort_int_none Tryz.sortI a cp w) ?_
    rintro _ _ ⟨rfl, rfl⟩
    have e0 : sortI [] = [] := List.mergeSort_nil
    rw [e0]
    exact ⟨_, rfl, rfl, h, Mod.refl _ _⟩
  · rcases h with ⟨_, h⟩ | ⟨g, o, cap, cur, rfl, hb, h3, h4, h5, h6⟩
    · exact (hx h).elim
    · have h5 : o + cap * 1 ≤ cur.length := h5
      have h6 : (cur.drop o).take (xs.length * 1) = flat cI xs := h6
      rw [flat_cI, Nat.mul_one] at h6
      have hc : ∀ j, j < xs.length → cur[o + j]? = some (iV xs[j]!) := by
        intro j hj
        have e1 : ((cur.drop o).take xs.length)[j]? = cur[o + j]? := by rw [List.getElem?_take, if_pos hj, List.getElem?_drop]
        rw [← e1, h6, List.getElem?_map, getE hj]
        simp [getElem!_def, getE hj]
      refine Calls.mono (AnyM.slices_Sort_int Tryz.sortI g o cap xs w ?_ hb.lt (by omega)) ?_
      · intro j hj
        have hj : j < xs.length := by simpa using hj
        refine ⟨?_, ?_⟩
        · rw [hb.cell, hc j hj]
          congr 2
          simp [getElem!_def]
        · unfold Blk at hb
          simp [World.frozen?, hb]
      · rintro _ w' ⟨rfl, k, os, rfl⟩
        have hsz : (sortI xs).length = xs.length := List.length_mergeSort _
        have hsd : (xs.mergeSort fun x y => decide (x ≤ y)) = sortI xs := rfl
        rw [hsd]
        have hheap : (Sort.grow (Sort.putRow (Value.int .i64) (Sort.ahead w k) g o (sortI xs).toArray) os).heap = (w.heap.modify g (Sort.onCells (Sort.putCells (Value.int .i64) o (sortI xs).toArray))) ++ os := rfl
        have hat : ∀ i, i < w.heap.size → (Sort.grow (Sort.putRow (Value.int .i64) (Sort.ahead w k) g o (sortI xs).toArray) os).heap[i]? = if g = i then (w.heap[i]?).map (Sort.onCells (Sort.putCells (Value.int .i64) o (sortI xs).toArray)) else w.heap[i]? := by
          intro i hi
          rw [hheap, Array.getElem?_append_left (by simpa using hi), Array.getElem?_modify]
        refine ⟨_, rfl, rfl, .inr ⟨g, o, cap, (Sort.putCells (Value.int .i64) o (sortI xs).toArray cur.toArray).toList, by rw [hsz], ?_, by omega, h4, ?_, ?_⟩, ⟨rfl, rfl, rfl, ?_, fun i hi hn => ?_⟩⟩
        · unfold Blk
          rw [hat g hb.lt, if_pos rfl]
          unfold Blk at hb
          rw [hb]
          simp [Sort.onCells]
        · show o + cap * 1 ≤ _
          simpa [Sort.putCells] using h5
        · rw [flat_cI, hsz]
          show List.take (xs.length * 1) _ = _
          rw [Nat.mul_one]
          apply List.ext_getElem?
          intro j
          by_cases hj : j < xs.length
          · rw [List.getElem?_take, if_pos hj, List.getElem?_drop, List.getElem?_map, getE (show j < (sortI xs).length by omega)]
            have hoj : o + j < cur.length := by omega
            simp [Sort.putCells, hoj, hj, hsz]
          · rw [List.getElem?_take, if_neg hj, List.getElem?_eq_none (by rw [List.length_map]; omega)]
        · rw [hheap]; simp
        · rw [hat i hi, if_neg (fun e => hn (by subst e; rfl))]
theorem find_1 {w : World} {p o b5 : Nat} {e : Ent} {v : Value} {xs : List Int} (hr : Rd w p o (entC e)) (_hp : p < w.heap.size) (hb : Blk w b5 49 [v]) (hO : Own cI 3 w v xs) (hn : v.ownBlock ≠ some b5) (hl : xs.length ≤ 1000) : CallV P 129 [.pointer (some ⟨p, o, none⟩), ptr b5] w fun r w' => r = .bool true ∧ ∃ v', Blk w' b5 49 [v'] ∧ Own cI 3 w' v' (xs ++ [e.id]) ∧ Mod (fun k => k = b5 ∨ v.ownBlock = some k) w w' ∧ ∀ k, v'.ownBlock = some k → v.ownBlock = some k ∨ w.heap.size ≤ k := by
  refine calls_of lay_is Tryz.func129 rfl (by kernel_rfl) (draw [(0, []), (1, []), (2, []), (3, []), (4, []), (5, []), (6, []), (7, [])] (by kernel_rfl) (ld1 (w := w.drew) hb rfl (ld1r (w := w.drew) (j := 1) hr rfl ⟨by decide, _, rfl, al fun b1 w1 e1 m1 s1 hb1 => app lay_is rfl (Own.grow (w := w.drew) hO m1) (Own.mk (c := cI) (xs := [e.id]) hb1 rfl rfl (one_max _)).slr (by show _ + 1 ≤ _; omega) fun v' w2 hO2 m2 hf2 => ?_⟩)))
  have m1 : Mod no w w1 := m1
  have e1 : b1 = w.heap.size := e1
  have hlt := hb.lt
  have hb2 : Blk w2 b5 49 [v] := (Blk.mod hb m1 fun h => h).mod m2 hn
  have hl2 := hO.lt
  have hne : v'.ownBlock ≠ some b5 := fun e => by
    rcases hf2 b5 e with h | h
    · exact hn h
    · have := m1.size; omega
  obtain ⟨va, vn, vc, rfl⟩ := hO2.form
  refine st1 hb2 (by exact (by decide : 0 < 1)) rfl fun w3 m3 s3 hb3 => ⟨rfl, _, hb3, hO2.mod m3 (fun k hk e => hne (by rw [hk, e])), ?_, ?_⟩
  · exact ((Mod.mono (T := fun k => k = b5 ∨ v.ownBlock = some k) m1 fun i _ h => h.elim).tr m2 fun i hi h => .inr h).tr m3 fun i hi h => .inl h
  · intro k hk
    rcases hf2 k hk with h | h
    · exact .inl h
    · have := m1.size; exact .inr (by omega)
def idsB (es : List Ent) (h : Int) (b j : Nat) : List Int := (((bktE es b).take j).filter fun e => e.has && decide (e.tag = hTag h)).map (·.id)
def hB2 (h : Int) : List Int := [hFirst h, hOther (hFirst h) (hTag h)]
def dirIds (es : List Ent) (h : Int) : List Int := (hB2 h).flatMap fun b => idsB es h b.toNat 4
theorem idsB_len (es : List Ent) (h : Int) (b j : Nat) : (idsB es h b j).length ≤ 4 := by
  unfold idsB bktE
  rw [List.length_map]
  refine Nat.le_trans (List.length_filter_le _ _) ?_
  rw [List.length_take, List.length_take]; omega
theorem hB2_rng {h : Int} (_h0 : 0 ≤ h) : ∀ b ∈ hB2 h, 0 ≤ b ∧ b < 8 := by
  have f0 : 0 ≤ hFirst h ∧ hFirst h < 8 := by unfold hFirst; omega
  have t0 : 0 ≤ hTag h ∧ hTag h < 32768 := by unfold hTag; omega
  intro b hb
  unfold hB2 at hb
  rcases List.mem_cons.1 hb with rfl | hb
  · exact f0
  · rcases List.mem_cons.1 hb with rfl | hb
    · exact hOther_rng f0.1 f0.2 t0.1 t0.2
    · cases hb
theorem idsB_succ {es : List Ent} {h : Int} {b j : Nat} {e : Ent} (he : (bktE es b)[j]? = some e) : idsB es h b (j + 1) = idsB es h b j ++ if (e.has && decide (e.tag = hTag h)) = true then [e.id] else [] := by
  unfold idsB
  rw [List.take_add_one, he, List.filter_append, List.map_append]
  congr 1
  show (List.filter _ [e]).map _ = _
  rw [List.filter_cons]
  split <;> rfl
theorem dir_each {w : World} {p b5 : Nat} {es : List Ent} {n h : Int} (hd : DirR w p es n) (h0 : 0 ≤ h) (hb : Blk w b5 49 [.slice none 0 0]) (hp : b5 ≠ p) : CallV P 128 [ptr p, .int .u64 h, .func (.func 129) #[] #[ptr b5]] w fun r w' => r = .tuple #[] ∧ ∃ v, Blk w' b5 49 [v] ∧ Own cI 3 w' v (dirIds es h) ∧ Mod (· = b5) w w' ∧ (∀ k, v.ownBlock = some k → w.heap.size ≤ k) := by
  have hB := hB2_rng h0
  have hb2 : ∀ i, (hB2 h)[i]? = if i = 0 then some (hFirst h) else if i = 1 then some (hOther (hFirst h) (hTag h)) else none := by
    intro i
    match i with
    | 0 => rfl
    | 1 => rfl
    | i + 2 => rfl
  have lp := hd.blk.lt
  have l5 := hb.lt
  refine calls_of lay_is Tryz.func128 rfl (by kernel_rfl) (condF rfl (call (cuckoo_both h0) ?_))
  rintro _ w1 ⟨rfl, m1⟩
  refine loop (σ := Nat × Value × List Int) (fun s => [(0, ptr p), (1, .int .u64 h), (2, .func (.func 129) #[] #[ptr b5]), (13, bothV h), (14, iV s.1)]) (fun s w' => s.1 ≤ 2 ∧ s.2.2 = ((hB2 h).take s.1).flatMap (fun b => idsB es h b.toNat 4) ∧ s.2.2.length ≤ s.1 * 4 ∧ Blk w' b5 49 [s.2.1] ∧ Own cI 3 w' s.2.1 s.2.2 ∧ Mod (· = b5) w w' ∧ ∀ k, s.2.1.ownBlock = some k → w.heap.size ≤ k) (fun s _ => 2 - s.1) (0, .slice none 0 0, []) ⟨rfl, rfl, rfl, rfl, rfl, trivial⟩ ⟨by show 0 ≤ 2; omega, rfl, Nat.le_refl 0, Blk.mod hb m1 fun h => h, Own.nil _ _, Mod.mono m1 fun _ _ h => h.elim, nofun⟩ ?_
  rintro ⟨i, v, xs⟩ w2 ⟨hi, hX, hXl, hb5, hO, hM, hF⟩
  dsimp only at *
  refine cond2 (fun h1 => ?_) (fun h1 => ?_)
  · have h1 : (i : Int) < 2 := of_decT h1
    have hi2 : i < (hB2 h).length := by show i < 2; omega
    have hbe := getE hi2
    have hbr := hB _ (List.getElem_mem hi2)
    have htk : ((hB2 h).take (i + 1)).flatMap (fun b => idsB es h b.toNat 4) = xs ++ idsB es h (hB2 h)[i].toNat 4 := by
      rw [← List.take_append_getElem hi2, List.flatMap_append, ← hX]; simp
    have hval : ([iV (hFirst h), iV (hOther (hFirst h) (hTag h))] : List Value)[i]? = some (iV (hB2 h)[i]) := by
      have : ([iV (hFirst h), iV (hOther (hFirst h) (hTag h))] : List Value) = (hB2 h).map iV := rfl
      rw [this, List.getElem?_map, hbe]; rfl
    generalize (hB2 h)[i] = b at *
    refine idx1 (t := 220) (cs := [iV (hFirst h), iV (hOther (hFirst h) (hTag h))]) rfl rfl rfl (by omega) (by omega) (by rw [Int.toNat_natCast]; exact hval) ?_
    refine loop (σ := Nat × Value × List Int) (fun s => [(0, ptr p), (1, .int .u64 h), (2, .func (.func 129) #[] #[ptr b5]), (13, bothV h), (14, iV i), (7, iV b), (17, iV s.1)]) (fun s w' => s.1 ≤ 4 ∧ s.2.2 = xs ++ idsB es h b.toNat s.1 ∧ Blk w' b5 49 [s.2.1] ∧ Own cI 3 w' s.2.1 s.2.2 ∧ Mod (· = b5) w w' ∧ ∀ k, s.2.1.ownBlock = some k → w.heap.size ≤ k) (fun s _ => 4 - s.1) (0, v, xs) ⟨rfl, rfl, rfl, rfl, rfl, rfl, rfl, trivial⟩ ⟨by show 0 ≤ 4; omega, by show xs = xs ++ idsB es h b.toNat 0; simp [idsB], hb5, hO, hM, hF⟩ ?_
    clear hb5 hO hM hF
    rintro ⟨j, u, ys⟩ w3 ⟨hj, hY, hb5, hO, hM, hF⟩
    dsimp only at *
    have hyl : ys.length ≤ 12 := by have := idsB_len es h b.toNat j; rw [hY, List.length_append]; omega
    refine cond2 (fun h2 => ?_) (fun h2 => ?_)
    · have h2 : (j : Int) < 4 := of_decT h2
      have hk : b.toNat * 4 + j < es.length := by rw [hd.len]; omega
      have he : (bktE es b.toNat)[j]? = some es[b.toNat * 4 + j] := by rw [bktE_at (by omega)]; exact getE hk
      have hs := idsB_succ (h := h) he
      have hd3 := hd.mod hM (fun e => hp e.symm)
      have hr : Rd w3 p (0 + 0 + b.toNat * 12 + (j : Int).toNat * 3) (entC es[b.toNat * 4 + j]) := hd3.rd hk (by rw [Int.toNat_natCast]; omega)
      generalize es[b.toNat * 4 + j] = e at *
      have hnx : ∀ (v' : Value) (zs : List Int) (w4 : World), zs = ys ++ (if (e.has && decide (e.tag = hTag h)) = true then [e.id] else []) → Blk w4 b5 49 [v'] → Own cI 3 w4 v' zs → Mod (· = b5) w w4 → (∀ k, v'.ownBlock = some k → w.heap.size ≤ k) → j + 1 ≤ 4 ∧ zs = xs ++ idsB es h b.toNat (j + 1) ∧ Blk w4 b5 49 [v'] ∧ Own cI 3 w4 v' zs ∧ Mod (· = b5) w w4 ∧ ∀ k, v'.ownBlock = some k → w.heap.size ≤ k := by
        intro v' zs w4 hz a1 a2 a3 a4
        exact ⟨by omega, by rw [hz, hY, hs, List.append_assoc], a1, a2, a3, a4⟩
      refine ⟨hbr.1, hbr.2, by omega, by omega, ?_⟩
      have hMd : Mod (· = b5) w w3.drew := hM
      have hno : ∀ (c : Bool), c = false → (e.has && decide (e.tag = hTag h)) = c → ys = ys ++ (if (e.has && decide (e.tag = hTag h)) = true then [e.id] else []) := by
        intro c hc hcc
        rw [hcc, hc, if_neg (by decide), List.append_nil]
      refine draw [(0, []), (1, []), (2, []), (3, []), (4, []), (5, []), (6, []), (7, []), (8, []), (9, []), (10, [8]), (11, []), (12, []), (13, []), (14, []), (15, []), (16, []), (17, []), (18, [])] (by kernel_rfl) (ld1r (w := w3.drew) (j := 0) hr rfl ⟨fun h3 => ld1r (w := w3.drew) (j := 2) hr rfl (call (hash_Tag h0) ?_), fun h3 => ⟨nofun, fun _ => condF rfl ?_⟩⟩)
      · rintro _ w4 ⟨rfl, rfl⟩
        refine ⟨ld1r (w := w3.drew) (j := 2) hr rfl ⟨rfl, rfl⟩, fun h4 => call (find_1 (w := w3.drew) hr hd3.blk.lt hb5 hO (fun e => by have := hF _ e; omega) (by omega)) ?_, fun h4 => condF rfl ?_⟩
        · rintro _ w5 ⟨rfl, v', hb', hO', m', hf'⟩
          have h3 : e.has = true := h3
          have h4 : e.tag = hTag h := beqT h4
          refine condF rfl ⟨(j + 1, v', ys ++ [e.id]), ⟨rfl, rfl, rfl, rfl, rfl, rfl, congrArg some (ctr (by omega)), trivial⟩, hnx v' _ w5 (by rw [h3, decT h4]; rfl) hb' hO' (hM.tr m' fun k hk hh => ?_) ?_, by show 4 - (j + 1) < 4 - j; omega⟩
          · rcases hh with hh | hh
            · exact hh
            · have := hF k hh; omega
          · intro k hk
            have hsz : w3.drew.heap.size = w3.heap.size := rfl
            rcases hf' k hk with hh | hh
            · exact hF k hh
            · have := hM.size; omega
        · have h4 : e.tag ≠ hTag h := beqF h4
          exact ⟨(j + 1, u, ys), ⟨rfl, rfl, rfl, rfl, rfl, rfl, congrArg some (ctr (by omega)), trivial⟩, hnx u ys _ (hno false rfl (by rw [decF h4, Bool.and_false])) hb5 hO hM hF, by show 4 - (j + 1) < 4 - j; omega⟩
      · have h3 : e.has = false := h3
        exact ⟨(j + 1, u, ys), ⟨rfl, rfl, rfl, rfl, rfl, rfl, congrArg some (ctr (by omega)), trivial⟩, hnx u ys _ (hno false rfl (by rw [h3, Bool.false_and])) hb5 hO hM hF, by show 4 - (j + 1) < 4 - j; omega⟩
    · have hj4 : j = 4 := by have := of_decF h2; omega
      subst hj4
      exact ⟨(i + 1, u, ys), ⟨rfl, rfl, rfl, rfl, congrArg some (ctr (by omega)), trivial⟩, ⟨by show i + 1 ≤ 2; omega, by show ys = _; rw [hY]; exact htk.symm, by show ys.length ≤ (i + 1) * 4; rw [hY, List.length_append]; have := idsB_len es h b.toNat 4; omega, hb5, hO, hM, hF⟩, by show 2 - (i + 1) < 2 - i; omega⟩
  · have hi2 : i = 2 := by have := of_decF h1; omega
    subst hi2
    have hX : xs = dirIds es h := hX
    rw [← hX]
    exact ⟨rfl, v, hb5, hO, hM, hF⟩
theorem dir_Find {w : World} {p : Nat} {es : List Ent} {n h : Int} (hd : DirR w p es n) (h0 : 0 ≤ h) : CallV P 76 [ptr p, .int .u64 h] w fun r w' => Own cI 3 w' r (sortI (dirIds es h)) ∧ Mod no w w' ∧ ∀ k, r.ownBlock = some k → w.heap.size ≤ k := by
  have lp := hd.blk.lt
  refine calls_of lay_is Tryz.func76 rfl (by kernel_rfl) (al fun b5 w1 e1 m1 s1 hb1 => call (dir_each (hd.mod m1 fun h => h) h0 (b5 := b5) hb1 (by omega)) ?_)
  rintro _ w2 ⟨rfl, v, hb, hO, hM, hF⟩
  have hlen : (dirIds es h).length ≤ 8 := by
    unfold dirIds hB2
    simp only [List.flatMap_cons, List.flatMap_nil, List.append_nil, List.length_append]
    have := idsB_len es h (hFirst h).toNat 4
    have := idsB_len es h (hOther (hFirst h) (hTag h)).toNat 4
    omega
  refine ld1 hb rfl (call (sort_ints hO (by omega)) ?_)
  rintro _ w3 ⟨rfl, hO3, m3⟩
  refine ld1 (hb.mod m3 fun e => ?_) rfl ⟨hO3, ?_, fun k hk => by have := hF k hk; have := m1.size; omega⟩
  · have := hF _ e
    omega
  · exact ((m1.new hM (by omega))).own m3 fun k hk => by have := hF k hk; have := m1.size; omega
end Go.Proofs.YtffjccofglikhaaGreat
