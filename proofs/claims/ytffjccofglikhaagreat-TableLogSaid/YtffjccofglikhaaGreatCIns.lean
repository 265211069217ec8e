/-
  cuckoo: way, Insert.
-/
import Derived.Test.YtffjccofglikhaaGreatCWay
namespace Go.Proofs.YtffjccofglikhaaGreat
open Go Go.RowKit

/-- A slice of one's own, but for its first. -/
theorem Own.tail {α : Type} {c : Codec α} {e : TypeId} {w : World} {g o n cap : Nat} {x : α} {xs : List α} (h : Own c e w (.slice (some ⟨g, o, none⟩) n cap) (x :: xs)) : Own c e w (.slice (some ⟨g, if cap = 1 then o else o + 1 * c.k, none⟩) (n - 1) (cap - 1)) xs ∧ 1 ≤ cap ∧ n = xs.length + 1 ∧ n ≤ cap := by
  rcases h with ⟨h, _⟩ | ⟨g', o', cap', cur, he, hb, h3, h4, h5, h6⟩
  · cases h
  · simp only [Value.slice.injEq, Option.some.injEq, Addr.mk.injEq] at he
    obtain ⟨⟨rfl, rfl, _⟩, rfl, rfl⟩ := he
    rw [List.length_cons] at h3 h6
    have hk := c.pos
    refine ⟨.inr ⟨g, _, cap - 1, cur, by rw [List.length_cons, Nat.add_sub_cancel], hb, by omega, by omega, ?_, ?_⟩, by omega, rfl, by rw [List.length_cons]; exact h3⟩
    · have e1 : cap * c.k = (cap - 1) * c.k + c.k := by
        conv => lhs; rw [show cap = (cap - 1) + 1 by omega]
        rw [Nat.add_mul, Nat.one_mul]
      split <;> omega
    · have e1 : (xs.length + 1) * c.k = c.k + xs.length * c.k := by rw [Nat.add_mul, Nat.one_mul, Nat.add_comm]
      rw [e1] at h6
      have hfl : flat c (x :: xs) = c.cells x ++ flat c xs := by unfold flat; rw [List.flatMap_cons]
      rw [hfl] at h6
      have h7 : (((cur.drop o).take (c.k + xs.length * c.k)).drop c.k) = flat c xs := by rw [h6, List.drop_left' (c.len x)]
      rw [List.drop_take, Nat.add_sub_cancel_left, List.drop_drop] at h7
      split
      · rename_i hc
        have : xs.length = 0 := by omega
        have : xs = [] := List.length_eq_zero_iff.1 this
        subst this
        simp [flat]
      · rw [Nat.one_mul]; exact h7
structure WI (w : World) (b6 b7 m : Nat) (es : List Ent) (w' : World) (v : Value) (sw : WSt) (k : Nat) : Prop where
  h6 : Blk w' b6 210 [.map (some m)]
  h7 : Blk w' b7 49 [v]
  mp : MapR kcI stpV w' m sw.1
  own : Own cI 3 w' v sw.2
  ge : ∀ k, v.ownBlock = some k → w.heap.size ≤ k
  ne : v.ownBlock ≠ some b6 ∧ v.ownBlock ≠ some b7
  ok : WayOk es sw k
  le : k ≤ sw.1.length
  md : Mod no w w'
theorem WI.len {w : World} {b6 b7 m : Nat} {es : List Ent} {w' : World} {v : Value} {sw : WSt} {k : Nat} (h : WI w b6 b7 m es w' v sw k) : sw.1.length ≤ 8 ∧ sw.2.length ≤ 8 := by
  have h1 := nodup_8 h.ok.ok.nd h.ok.ok.rng
  rw [List.length_map] at h1
  refine ⟨h1, ?_⟩
  rw [h.ok.todo, List.length_drop, List.length_map]; omega
theorem WI.grow {w : World} {b6 b7 m : Nat} {es : List Ent} {w' w'' : World} {v : Value} {sw : WSt} {k : Nat} (h : WI w b6 b7 m es w' v sw k) (hm : Mod no w' w'') : WI w b6 b7 m es w'' v sw k :=
  ⟨h.h6.mod hm fun h => h, h.h7.mod hm fun h => h, h.mp.mod hm fun h => h, h.own.grow hm, h.ge, h.ne, h.ok, h.le, h.md.trn hm⟩
theorem WI.step {w : World} {b6 b7 m : Nat} {es : List Ent} {w' : World} {v : Value} {sw : WSt} {k : Nat} (h : WI w b6 b7 m es w' v sw k) (hne : b6 ≠ b7) (h7 : w.heap.size ≤ b7) (hmm : w.heap.size ≤ m) {to : Int} {s : Stp} (ht : 0 ≤ to ∧ to < 8) (hs : s = (-1, 0) ∨ (0 ≤ s.1 ∧ s.1 < 8 ∧ 0 ≤ s.2 ∧ s.2 < 4 ∧ freeOf es s.1.toNat < 0 ∧ to = hOther s.1 (es.getD (s.1.toNat * 4 + s.2.toNat) Ent.zero).tag ∧ s.1 ∈ sw.1.map (·.1))) :
    CallV P 173 [iV to, stpV s, ptr b6, ptr b7] w' fun r w'' => r = .tuple #[] ∧ ∃ v', WI w b6 b7 m es w'' v' (reach sw to s) k ∧ ∀ x ∈ sw.1.map (·.1), x ∈ (reach sw to s).1.map (·.1) := by
  have hl := h.len
  have l6 := h.h6.lt
  have l7 := h.h7.lt
  refine (way_1 h.h6 h.h7 h.mp h.own h.ne hne ⟨by omega, by omega⟩ ⟨by omega, by omega⟩).imp ?_
  rintro _ w'' ⟨rfl, v', a1, a2, a3, a4, a5, a6⟩
  obtain ⟨r1, r, r2⟩ := reach_ok h.ok h.le ht hs
  refine ⟨rfl, v', ⟨a1, a2, a3, a4, fun k hk => ?_, ⟨fun e => ?_, fun e => ?_⟩, r1, by rw [r2, List.length_append]; have := h.le; omega, ?_⟩, fun x hx => by rw [r2, List.map_append]; exact List.mem_append_left _ hx⟩
  · rcases a6 k hk with h' | h'
    · exact h.ge k h'
    · have := h.md.size; omega
  · rcases a6 _ e with h' | h'
    · exact h.ne.1 h'
    · omega
  · rcases a6 _ e with h' | h'
    · exact h.ne.2 h'
    · omega
  · refine h.md.tr a5 fun i hi hh => ?_
    rcases hh with hh | hh | hh
    · omega
    · omega
    · have := h.ge i hh; omega
theorem rd_bkt {w : World} {p : Nat} {es : List Ent} {n : Int} (h : DirR w p es n) {b : Nat} {o : Nat} (ho : o = b * 12) : Rd w p o (flat cEnt (bktE es b)) := by
  subst ho
  have hb0 : Rd w p 0 (flat cEnt es) := h.blk.pre
  have := hb0.part (b * 12) 12
  have e1 : ((flat cEnt es).drop (b * 12)).take 12 = flat cEnt (bktE es b) := by
    unfold bktE
    rw [← flat_take, ← flat_drop]
    show _ = List.take (4 * 3) (List.drop (b * 4 * 3) _)
    rw [show b * 4 * 3 = b * 12 by omega]
  rw [e1, Nat.zero_add] at this
  exact this
theorem idx_entv {l : List Ent} {j : Nat} {e : Ent} (he : l[j]? = some e) (hj : j < 4) {w : World} {K : Value → Prop} (hk : K (entV e)) : ReadW P (Instr.index 202 (.agg (flat cEnt l).toArray) (iV j)) w K := by
  refine idxA (n := 4) (e := 201) (k := 3) (by kernel_rfl) (by kernel_rfl) (by omega) (by omega) ?_
  have e' : ((flat cEnt l).drop ((j : Int).toNat * 3)).take 3 = entC e := flat_at cEnt l j e he
  rw [e']
  exact hk
theorem dir_way {w : World} {p : Nat} {es : List Ent} {n h : Int} (hd : DirR w p es n) (htag : TagOk es) (h0 : 0 ≤ h) : CallV P 121 [ptr p, .int .u64 h] w fun r w' => Mod no w w' ∧ ((∃ f m, (dirWay es h).2 = some f ∧ r = .tuple #[iV (dirWay es h).1, .map (some m)] ∧ MapR kcI stpV w' m f ∧ FromOk es f ∧ (dirWay es h).1 ∈ f.map (·.1) ∧ 0 ≤ freeOf es (dirWay es h).1.toNat ∧ w.heap.size ≤ m) ∨ ((dirWay es h).2 = none ∧ (dirWay es h).1 = -1 ∧ r = .tuple #[iV (-1), .map none])) := by
  have hB := hB2_rng h0
  have lp := hd.blk.lt
  refine calls_of lay_is Tryz.func121 rfl (by kernel_rfl) (mmap (q := kcI) (c := stpV) fun m w1 e1 m1 s1 hm1 => al fun b6 w2 e2 m2 s2 hb2 => st1 hb2 (by exact (by decide : 0 < 1)) rfl fun w3 m3 s3 hb3 => al fun b7 w4 e4 m4 s4 hb4 => ?_)
  have hM4 : Mod no w w4 := ((m1.trn m2).new m3 (by omega)).trn m4
  have hb64 : Blk w4 b6 210 [.map (some m)] := Blk.mod hb3 m4 fun h => h
  have hm4 := ((hm1.mod m2 fun h => h).mod m3 (by omega)).mod m4 fun h => h
  have hne : b6 ≠ b7 := by omega
  have g7 : w.heap.size ≤ b7 := by omega
  have gm : w.heap.size ≤ m := by omega
  have hW0 : WI w b6 b7 m es w4 (.slice none 0 0) ([], []) 0 := ⟨hb64, hb4, hm4, Own.nil _ _, nofun, ⟨nofun, nofun⟩, ⟨⟨List.nodup_nil, nofun, fun j k s hj => by simp at hj⟩, rfl⟩, Nat.le_refl 0, hM4⟩
  clear hm4 hb64 hM4 hb4 hb3 hb2 hm1
  refine call (cuckoo_both h0) ?_
  rintro _ w5 ⟨rfl, m5⟩
  have hW5 := hW0.grow m5
  refine loop (σ := Nat × Value × WSt) (fun s => [(0, ptr p), (1, .int .u64 h), (6, ptr b6), (7, ptr b7), (8, .func (.func 173) #[] #[ptr b6, ptr b7]), (17, bothV h), (18, iV s.1)]) (fun s w' => s.1 ≤ 2 ∧ ((hB2 h).drop s.1).foldl (fun sw b => reach sw b (-1, 0)) s.2.2 = way0 h ∧ WI w b6 b7 m es w' s.2.1 s.2.2 0) (fun s _ => 2 - s.1) (0, .slice none 0 0, ([], [])) ⟨rfl, rfl, rfl, rfl, rfl, rfl, rfl, trivial⟩ ⟨by show 0 ≤ 2; omega, rfl, hW5⟩ ?_
  rintro ⟨i, v, sw⟩ w6 ⟨hi, hG, hW⟩
  dsimp only at *
  refine cond2 (fun h1 => ?_) (fun h1 => ?_)
  · have h1 : (i : Int) < 2 := of_decT h1
    have hi2 : i < (hB2 h).length := by show i < 2; omega
    have hbe := getE hi2
    have hbr := hB _ (List.getElem_mem hi2)
    rw [List.drop_eq_getElem_cons hi2, List.foldl_cons] at hG
    have hval : ([iV (hFirst h), iV (hOther (hFirst h) (hTag h))] : List Value)[i]? = some (iV (hB2 h)[i]) := by
      have : ([iV (hFirst h), iV (hOther (hFirst h) (hTag h))] : List Value) = (hB2 h).map iV := rfl
      rw [this, List.getElem?_map, hbe]; rfl
    generalize (hB2 h)[i] = b at *
    refine idx1 (t := 220) (cs := [iV (hFirst h), iV (hOther (hFirst h) (hTag h))]) rfl rfl rfl (by omega) (by omega) (by rw [Int.toNat_natCast]; exact hval) ⟨[iV (-1), iV 0], rfl, call (hW.step hne g7 gm hbr (s := (-1, 0)) (.inl rfl)) ?_⟩
    rintro _ w7 ⟨rfl, v', hW', _⟩
    exact ⟨(i + 1, v', reach sw b (-1, 0)), ⟨rfl, rfl, rfl, rfl, rfl, rfl, congrArg some (ctr (by omega)), trivial⟩, ⟨by show i + 1 ≤ 2; omega, hG, hW'⟩, by show 2 - (i + 1) < 2 - i; omega⟩
  · have hi2 : i = 2 := by have := of_decF h1; omega
    subst hi2
    have hG : sw = way0 h := hG
    subst hG
    have hdef : dirWay es h = wayGo es (9 - 0) (way0 h) := rfl
    refine loop (σ := Value × WSt × Nat) (fun s => [(0, ptr p), (1, .int .u64 h), (6, ptr b6), (7, ptr b7), (8, .func (.func 173) #[] #[ptr b6, ptr b7])]) (fun s w' => s.2.2 ≤ 8 ∧ wayGo es (9 - s.2.2) s.2.1 = dirWay es h ∧ WI w b6 b7 m es w' s.1 s.2.1 s.2.2) (fun s _ => 9 - s.2.2) (v, way0 h, 0) ⟨rfl, rfl, rfl, rfl, rfl, trivial⟩ ⟨by show 0 ≤ 8; omega, rfl, hW⟩ ?_
    clear hW hW0 hW5 m5
    rintro ⟨v, ⟨f, todo⟩, k⟩ w7 ⟨hk, hG, hW⟩
    dsimp only at *
    have hlen := hW.len
    dsimp only at hlen
    cases todo with
    | nil =>
      obtain ⟨a, cp, rfl⟩ := hW.own.slr.len
      refine ld1 hW.h7 rfl (condF rfl ?_)
      have : wayGo es (9 - k) (f, []) = (-1, none) := by rw [show 9 - k = (8 - k) + 1 by omega]; rfl
      rw [this] at hG
      rw [← hG]
      exact ⟨hW.md, .inr ⟨rfl, rfl, rfl⟩⟩
    | cons b rest =>
      obtain ⟨g, o, cap, rfl⟩ := hW.own.ne (by simp)
      have hof : b ∈ f.map (·.1) := by
        have : b ∈ (f.map (·.1)).drop k := by rw [← hW.ok.todo]; simp
        exact List.mem_of_mem_drop this
      have hbr := hW.ok.ok.rng b hof
      have hkl : k < f.length := by
        have h1 := congrArg List.length hW.ok.todo
        rw [List.length_drop, List.length_map] at h1
        simp at h1
        omega
      obtain ⟨hT, hc1, hn1, hnc⟩ := hW.own.tail
      dsimp only at hT hn1 hnc
      obtain ⟨g2, o2, c2, e2', hg2, hr2⟩ := hW.own.slr.at (i := 0) (x := b) rfl
      cases e2'
      refine ld1 hW.h7 rfl (condT (decT (by show (0 : Int) < ((b :: rest).length : Nat); rw [List.length_cons]; omega)) ?_)
      refine ld1 hW.h7 rfl ⟨by omega, by show (0 : Int) < ((b :: rest).length : Nat); rw [List.length_cons]; omega, ld1r (j := 0) hr2 rfl ?_⟩
      refine ld1 hW.h7 rfl ⟨by omega, by show (1 : Int) ≤ ((b :: rest).length : Nat); rw [List.length_cons]; omega, by show (((b :: rest).length : Nat) : Int) ≤ (cap : Nat); omega, ?_⟩
      have lb7 := hW.h7.lt
      have lg := hW.own.lt
      refine st1 hW.h7 (by exact (by decide : 0 < 1)) rfl fun w8 m8 s8 hb8 => ?_
      have hM8 : Mod no w w8 := hW.md.new m8 g7
      have hm7 : m ≠ b7 := fun e => by subst e; obtain ⟨_, es', cl, hh, _⟩ := hW.mp; have := hW.h7; unfold Blk at this; rw [this] at hh; cases hh
      have hW8 : WI w b6 b7 m es w8 (.slice (some ⟨g, if cap = 1 then o else o + 1 * cI.k, none⟩) ((b :: rest).length - 1) (cap - 1)) (f, rest) (k + 1) := by
        refine ⟨hW.h6.mod m8 hne, hb8, hW.mp.mod m8 hm7, hT.mod m8 (fun k' hk' e => hW.ne.2 (by rw [← e]; exact hk')), hW.ge, hW.ne, ⟨hW.ok.ok, ?_⟩, hkl, hM8⟩
        have h1 := hW.ok.todo
        dsimp only at h1 ⊢
        rw [← List.drop_drop, ← h1]; rfl
      have hd8 := hd.mod hM8 fun h => h
      have hb8e : b = ((b.toNat : Nat) : Int) := by omega
      have hfree : CallV P 122 [ptr p, iV b] w8 fun r w' => r = iV (freeOf es b.toNat) ∧ Mod no w8 w' := by
        have := dir_free hd8 (b := b.toNat) (by omega)
        rwa [← hb8e] at this
      refine call hfree ?_
      rintro _ w9 ⟨rfl, m9⟩
      have hW9 := hW8.grow m9
      rw [show 9 - k = (8 - k) + 1 by omega, wayGo] at hG
      refine cond2 (fun h2 => ?_) (fun h2 => ?_)
      · have h2 : 0 ≤ freeOf es b.toNat := of_decT h2
        rw [if_pos h2] at hG
        rw [← hG]
        exact draw [(0, []), (1, []), (2, [1]), (3, [])] (by kernel_rfl) (ld1 (w := w9.drew) hW9.h6 rfl ⟨ld1 (w := w9.drew) hW9.h6 rfl ⟨rfl, rfl⟩, hW9.md, .inl ⟨f, m, rfl, rfl, hW9.mp, hW9.ok.ok, hof, h2, gm⟩⟩)
      · have h2 : ¬ 0 ≤ freeOf es b.toNat := of_decF h2
        rw [if_neg h2] at hG
        have hd9 := hd8.mod m9 fun h => h
        refine ⟨hbr.1, hbr.2, ldN (cs := flat cEnt (bktE es b.toNat)) (rd_bkt hd9 (by omega)) (by rw [flat_len, bktE_len hd.len (by omega)]; rfl) ?_⟩
        refine loop (σ := Nat × Value × WSt) (fun s => [(0, ptr p), (1, .int .u64 h), (6, ptr b6), (7, ptr b7), (8, .func (.func 173) #[] #[ptr b6, ptr b7]), (11, iV b), (45, .agg (flat cEnt (bktE es b.toNat)).toArray), (46, iV s.1)]) (fun s w' => s.1 ≤ 4 ∧ expandGo b ((bktE es b.toNat).drop s.1) s.1 s.2.2 = expandGo b (bktE es b.toNat) 0 (f, rest) ∧ b ∈ s.2.2.1.map (·.1) ∧ WI w b6 b7 m es w' s.2.1 s.2.2 (k + 1)) (fun s _ => 4 - s.1) (0, .slice (some ⟨g, if cap = 1 then o else o + 1 * cI.k, none⟩) ((b :: rest).length - 1) (cap - 1), (f, rest)) ⟨rfl, rfl, rfl, rfl, rfl, rfl, rfl, rfl, trivial⟩ ⟨by show 0 ≤ 4; omega, rfl, hof, hW9⟩ ?_
        clear hW9 hW8 m9
        rintro ⟨s, u, sw⟩ w10 ⟨hs, hE, hbm, hW⟩
        dsimp only at *
        refine cond2 (fun h3 => ?_) (fun h3 => ?_)
        · have h3 : (s : Int) < 4 := of_decT h3
          have hbl := bktE_len hd.len (b := b.toNat) (by omega)
          have hsl : s < (bktE es b.toNat).length := by omega
          have hesl : b.toNat * 4 + s < es.length := by rw [hd.len]; omega
          have he : (bktE es b.toNat)[s]? = some es[b.toNat * 4 + s] := by rw [bktE_at (by omega)]; exact getE hesl
          have heq : (bktE es b.toNat)[s] = es[b.toNat * 4 + s] := by
            have := getE hsl
            rw [he] at this
            exact (Option.some.inj this).symm
          have hgd := getD_at hesl
          have htg := htag _ (List.getElem_mem hesl)
          rw [List.drop_eq_getElem_cons hsl, expandGo, heq] at hE
          generalize es[b.toNat * 4 + s] = e at *
          refine idx_entv he (by omega) (al fun b13 w11 e11 m11 s11 hb11 => st hb11 rfl (by decide) (cEnt.one e) fun w12 m12 s12 hb12 => ?_)
          have hb12 : Blk w12 b13 201 (entC e) := hb12
          have m112 : Mod no w10 w12 := m11.new m12 (by omega)
          have hW12 := hW.grow m112
          refine ld1 hb12 rfl (call hash_Other ?_)
          rintro _ w13 ⟨rfl, rfl⟩
          refine ⟨[iV b, iV s], rfl, call (hW12.step hne g7 gm (hOther_rng hbr.1 hbr.2 htg.1 htg.2) (s := (b, (s : Int))) (.inr ⟨hbr.1, hbr.2, by show (0 : Int) ≤ s; omega, h3, by show freeOf es b.toNat < 0; omega, ?_, hbm⟩)) ?_⟩
          · show hOther b e.tag = hOther b (es.getD (b.toNat * 4 + (s : Int).toNat) Ent.zero).tag
            rw [Int.toNat_natCast, hgd]
          · rintro _ w14 ⟨rfl, v', hW', hsub⟩
            exact ⟨(s + 1, v', reach sw (hOther b e.tag) (b, (s : Int))), ⟨rfl, rfl, rfl, rfl, rfl, rfl, rfl, congrArg some (ctr (by omega)), trivial⟩, ⟨by show s + 1 ≤ 4; omega, hE, hsub b hbm, hW'⟩, by show 4 - (s + 1) < 4 - s; omega⟩
        · have hs4 : s = 4 := by have := of_decF h3; omega
          subst hs4
          rw [List.drop_of_length_le (by rw [bktE_len hd.len (by omega)]; omega), expandGo] at hE
          have hlen' := hW.len
          have hkl' := hW.le
          refine ⟨(u, sw, k + 1), ⟨rfl, rfl, rfl, rfl, rfl, trivial⟩, ⟨by show k + 1 ≤ 8; omega, ?_, hW⟩, by show 9 - (k + 1) < 9 - k; omega⟩
          show wayGo es (9 - (k + 1)) sw = _
          rw [show 9 - (k + 1) = 8 - k by omega, hE]
          exact hG
/-! ### Insert -/
def insGo (f : List (Int × Stp)) : Nat → List Ent → Int → Int → List Ent × Int × Int
  | 0, es, b, s => (es, b, s)
  | n + 1, es, b, s => match mget f b with
    | some x => if 0 ≤ x.1 then insGo f n (es.set (b.toNat * 4 + s.toNat) (es.getD (x.1.toNat * 4 + x.2.toNat) Ent.zero)) x.1 x.2 else (es, b, s)
    | none => (es, b, s)
def dirIns (es : List Ent) (h id : Int) : Option (List Ent) :=
  match (dirWay es h).2 with
  | some f => let r := insGo f f.length es (dirWay es h).1 (freeOf es (dirWay es h).1.toNat)
    some (r.1.set (r.2.1.toNat * 4 + r.2.2.toNat) ⟨true, id, hTag h⟩)
  | none => none
theorem DirR.put {w : World} {p : Nat} {es : List Ent} {n : Int} (h : DirR w p es n) {i : Nat} (hi : i < 32) (e : Ent) {o : Nat} (ho : o = i * 3) {K : World → Prop} (hk : ∀ w', Mod (· = p) w w' → w'.heap.size = w.heap.size → DirR w' p (es.set i e) n → K w') : StoreW w ⟨p, o, none⟩ 3 (entC e) K := by
  subst ho
  have h96 := flat96 h.len
  refine st h.blk rfl (by rw [List.length_append, h96]; simp; omega) (cEnt.one e) fun w' m s hb => hk w' m s ⟨by rw [List.length_set]; exact h.len, ?_⟩
  have e1 : flat cEnt (es.set i e) ++ [iV n] = List.take (i * 3) (flat cEnt es ++ [iV n]) ++ entC e ++ List.drop (i * 3 + 3) (flat cEnt es ++ [iV n]) := by
    rw [flat_set cEnt e es i (by rw [h.len]; exact hi)]
    show List.take (i * 3) (flat cEnt es) ++ entC e ++ List.drop (i * 3 + 3) (flat cEnt es) ++ [iV n] = _
    rw [List.take_append_of_le_length (by omega), List.drop_append_of_le_length (by omega), List.append_assoc]
  rw [e1]
  exact hb
theorem mget_at {f : List (Int × Stp)} (hn : (f.map (·.1)).Nodup) {j : Nat} {b : Int} (hj : (f.map (·.1))[j]? = some b) : ∃ s, f[j]? = some (b, s) ∧ mget f b = some s := by
  rw [List.getElem?_map] at hj
  cases hf : f[j]? with
  | none => rw [hf] at hj; cases hj
  | some x =>
    rw [hf] at hj
    simp only [Option.map_some, Option.some.injEq] at hj
    subst hj
    exact ⟨x.2, rfl, find_some hn hf⟩
theorem dir_Insert {w : World} {p : Nat} {es : List Ent} {n h id : Int} (hd : DirR w p es n) (htag : TagOk es) (h0 : 0 ≤ h) (hn : 0 ≤ n ∧ n ≤ 1000) (hid : cMay id = true) : CallV P 69 [ptr p, .int .u64 h, iV id] w fun r w' => (∃ es', dirIns es h id = some es' ∧ r = .bool true ∧ DirR w' p es' (n + 1) ∧ Mod (· = p) w w') ∨ (dirIns es h id = none ∧ r = .bool false ∧ Mod no w w') := by
  have lp := hd.blk.lt
  have hu : P.underlying 210 = some (.map kcI.t 214) := by kernel_rfl
  refine calls_of lay_is Tryz.func69 rfl (by kernel_rfl) (ptF rfl (call cuckoo_may ?_))
  rintro _ w1 ⟨rfl, rfl⟩
  rw [hid]
  refine condF rfl (call (dir_way hd htag h0) ?_)
  rintro _ w2 ⟨m2, ⟨f, m, hf, rfl, hR, hF, hb, hfr, hm⟩ | ⟨hf, hb, rfl⟩⟩
  · have hdi : dirIns es h id = some ((insGo f f.length es (dirWay es h).1 (freeOf es (dirWay es h).1.toNat)).1.set ((insGo f f.length es (dirWay es h).1 (freeOf es (dirWay es h).1.toNat)).2.1.toNat * 4 + (insGo f f.length es (dirWay es h).1 (freeOf es (dirWay es h).1.toNat)).2.2.toNat) ⟨true, id, hTag h⟩) := by unfold dirIns; rw [hf]
    generalize (dirWay es h).1 = b at *
    have hbr := hF.rng b hb
    have hd2 := hd.mod m2 fun h => h
    have hbe : b = ((b.toNat : Nat) : Int) := by omega
    have hfree : CallV P 122 [ptr p, iV b] w2 fun r w' => r = iV (freeOf es b.toNat) ∧ Mod no w2 w' := by
      have := dir_free hd2 (b := b.toNat) (by omega)
      rwa [← hbe] at this
    refine condF (decF (by omega)) (call hfree ?_)
    rintro _ w3 ⟨rfl, m3⟩
    have hs := freeOf_rng hd.len (b := b.toNat) (by omega)
    have hs2 : freeOf es b.toNat < 4 := by omega
    generalize hG : insGo f f.length es b (freeOf es b.toNat) = G at *
    generalize freeOf es b.toNat = s at *
    have hmp : m ≠ p := fun e => by subst e; obtain ⟨_, es', cl, hh, _⟩ := hR; have := hd2.blk; unfold Blk at this; rw [this] at hh; cases hh
    obtain ⟨j, hj⟩ := List.getElem?_of_mem hb
    have hjl := (List.getElem?_eq_some_iff.1 hj).1
    rw [List.length_map] at hjl
    have hM3 := m2.trn m3
    refine loop (σ := List Ent × Int × Int × Nat × Nat) (fun st => [(0, ptr p), (1, .int .u64 h), (2, iV id), (7, iV st.2.1), (8, .map (some m)), (9, iV st.2.2.1)]) (fun st w' => DirR w' p st.1 n ∧ (f.map (·.1))[st.2.2.2.1]? = some st.2.1 ∧ st.2.2.2.1 < st.2.2.2.2 ∧ insGo f st.2.2.2.2 st.1 st.2.1 st.2.2.1 = G ∧ 0 ≤ st.2.2.1 ∧ st.2.2.1 < 4 ∧ MapR kcI stpV w' m f ∧ Mod (· = p) w1 w') (fun st _ => st.2.2.2.2) (es, b, s, j, f.length) ⟨rfl, rfl, rfl, rfl, rfl, rfl, trivial⟩ ⟨hd2.mod m3 (fun h => h), hj, hjl, hG, hfr, hs2, hR.mod m3 (fun h => h), hM3.mono fun _ _ h => h.elim⟩ ?_
    clear hG hR hd2 hfree hj hjl hfr hs2 hs hM3 m3
    rintro ⟨es1, b1, s1, j1, fu⟩ w4 ⟨hd4, hj, hjf, hG, hs0, hs4, hR, hM⟩
    dsimp only at *
    obtain ⟨x, hx, hg⟩ := mget_at hF.nd hj
    have hb1 := hF.rng b1 (List.mem_of_getElem? hj)
    have hok : i64R b1 := ⟨by omega, by omega⟩
    obtain ⟨fu', rfl⟩ : ∃ k, fu = k + 1 := ⟨fu - 1, by omega⟩
    rw [insGo, hg] at hG
    dsimp only at hG
    refine mlook hu hR hok hg (ok := false) (cond2 (fun h1 => ?_) (fun h1 => ?_))
    · have h1 : 0 ≤ x.1 := of_decT h1
      rw [if_pos h1] at hG
      obtain ⟨h2, h3, h4, h5, _, _, i, hi, hi2⟩ := (hF.src j1 b1 x hx).resolve_left (fun e => by rw [e] at h1; omega)
      have hlp := hd4.blk.lt
      refine mlook hu hR hok hg (ok := false) (al fun b10 w5 e5 m5 s5 hb5 => st hb5 rfl (by decide) (flat_one cI [x.1, x.2]) fun w6 m6 s6 hb6 => ?_)
      have hb6 : Blk w6 b10 214 [iV x.1, iV x.2] := hb6
      have m46 : Mod no w4 w6 := m5.new m6 (by omega)
      have hd6 := hd4.mod m46 fun h => h
      have hk : x.1.toNat * 4 + x.2.toNat < es1.length := by rw [hd4.len]; omega
      have hr : Rd w6 p (0 + 0 + x.1.toNat * 12 + x.2.toNat * 3) (entC es1[x.1.toNat * 4 + x.2.toNat]) := hd6.rd hk (by omega)
      rw [getD_at hk] at hG
      generalize es1[x.1.toNat * 4 + x.2.toNat] = e at *
      refine draw [(0, []), (1, []), (2, []), (3, []), (4, []), (5, []), (6, []), (7, []), (8, []), (9, []), (10, []), (11, []), (12, []), (13, []), (14, []), (15, []), (16, []), (17, [])] (by kernel_rfl) (ld1 (w := w6.drew) hb6 rfl (ld1 (w := w6.drew) hb6 rfl ⟨h2, h3, h4, h5, ldN (w := w6.drew) (cs := entC e) hr rfl ⟨hb1.1, hb1.2, hs0, hs4, ?_⟩⟩))
      refine hd6.drew.put (i := b1.toNat * 4 + s1.toNat) (by omega) e (by omega) fun w7 m7 s7 hd7 => ?_
      have hb7 := hb6.mod m7 (fun e => by have := m46.size; omega)
      refine draw [(0, []), (1, []), (2, []), (3, []), (4, [3]), (5, [])] (by kernel_rfl) (ld1 (w := w7.drew) hb7 rfl (ld1 (w := w7.drew) hb7 rfl ⟨ld1 (w := w7.drew) hb7 rfl ⟨rfl, rfl⟩, ?_⟩))
      have m7 : Mod (· = p) w6 w7 := m7
      exact ⟨(es1.set (b1.toNat * 4 + s1.toNat) e, x.1, x.2, i, fu'), ⟨rfl, rfl, rfl, rfl, rfl, rfl, trivial⟩, ⟨hd7.drew, hi2, by show i < fu'; omega, hG, h4, h5, (hR.mod m46 fun h => h).mod m7 hmp, (hM.trn m46).tr m7 fun _ _ h => h⟩, by show fu' < fu' + 1; omega⟩
    · have h1 : ¬ 0 ≤ x.1 := of_decF h1
      rw [if_neg h1] at hG
      rw [← hG] at hdi
      have hlp := hd4.blk.lt
      refine draw [(0, []), (1, []), (2, []), (3, []), (4, []), (7, []), (8, []), (9, []), (5, []), (6, []), (10, []), (11, [])] (by kernel_rfl) ⟨hb1.1, hb1.2, call (hash_Tag (w := w4.drew) h0) ?_⟩
      rintro _ w5 ⟨rfl, rfl⟩
      refine ⟨[.bool true, iV id, iV (hTag h)], rfl, hs0, hs4, ?_⟩
      refine hd4.drew.put (i := b1.toNat * 4 + s1.toNat) (by omega) ⟨true, id, hTag h⟩ (by omega) fun w7 m7 s7 hd7 => ?_
      have m7 : Mod (· = p) w4 w7 := m7
      have hb7 := hd7.blk
      have h96 := flat96 hd7.len
      refine ld1 (o := 96) (v := iV n) hb7 (by rw [List.getElem?_append_right (by omega), h96]; rfl) (st1 (o := 96) hb7 (by rw [List.length_append, h96]; exact (by decide : 96 < 96 + 1)) rfl fun w8 m8 s8 hb8 => ?_)
      have hn1 : IntKind.i64.wrap (n + 1) = n + 1 := w64 (by omega) (by omega)
      refine .inl ⟨_, hdi, rfl, ⟨hd7.len, ?_⟩, (hM.tr m7 fun _ _ h => h).tr m8 fun _ _ h => h⟩
      have e1 : (flat cEnt (es1.set (b1.toNat * 4 + s1.toNat) ⟨true, id, hTag h⟩) ++ [iV n]).set 96 (iV (IntKind.i64.wrap (n + 1))) = flat cEnt (es1.set (b1.toNat * 4 + s1.toNat) ⟨true, id, hTag h⟩) ++ [iV (n + 1)] := by
        rw [List.set_append_right _ _ (by omega), h96, hn1]; rfl
      rw [← e1]
      exact hb8
  · refine condT rfl (.inr ⟨?_, rfl, m2⟩)
    unfold dirIns
    rw [hf]
end Go.Proofs.YtffjccofglikhaaGreat
