/-
  Plain laws of logs: each record lies in one slot of its buckets, and is found.
-/
import Derived.Test.YtffjccofglikhaaGreatLTab
namespace Go.Proofs.YtffjccofglikhaaGreat
open Go Go.RowKit

/-! ### The way -/
def Own0 (h : Int) (f : List (Int × Stp)) : Prop := ∀ p ∈ f, p.2 = (-1, 0) → p.1 ∈ hB2 h
theorem reach_own {h : Int} {sw : WSt} {to : Int} {s : Stp} (ho : Own0 h sw.1) (hs : s = (-1, 0) → to ∈ hB2 h) : Own0 h (reach sw to s).1 := by
  unfold reach
  split
  · exact ho
  · rename_i hn
    have hn : mget sw.1 to = none := by cases hm : mget sw.1 to with | none => rfl | some x => rw [hm] at hn; exact absurd rfl hn
    rw [mput_new hn]
    intro p hp
    rcases List.mem_append.1 hp with hp | hp
    · exact ho p hp
    · rw [List.mem_singleton] at hp; subst hp; exact hs
theorem expand_ok {es : List Ent} (hl : es.length = 32) (ht : TagOk es) {h b : Int} (hb : 0 ≤ b ∧ b < 8) (hf : freeOf es b.toNat < 0) : ∀ (n s : Nat), s + n = 4 → ∀ (sw : WSt) (k : Nat), WayOk es sw k → k ≤ sw.1.length → Own0 h sw.1 → b ∈ sw.1.map (·.1) →
    WayOk es (expandGo b ((bktE es b.toNat).drop s) s sw) k ∧ k ≤ (expandGo b ((bktE es b.toNat).drop s) s sw).1.length ∧ Own0 h (expandGo b ((bktE es b.toNat).drop s) s sw).1 ∧ ∀ x ∈ sw.1.map (·.1), x ∈ (expandGo b ((bktE es b.toNat).drop s) s sw).1.map (·.1) := by
  have hbl := bktE_len hl (b := b.toNat) (by omega)
  intro n
  induction n with
  | zero =>
    intro s hs sw k h1 h2 h3 _
    rw [List.drop_of_length_le (by omega), expandGo]
    exact ⟨h1, h2, h3, fun x hx => hx⟩
  | succ n ih =>
    intro s hs sw k h1 h2 h3 h4
    have hsl : s < (bktE es b.toNat).length := by omega
    have hk : b.toNat * 4 + s < es.length := by omega
    have he : (bktE es b.toNat)[s]? = some es[b.toNat * 4 + s] := by rw [bktE_at (by omega)]; exact getE hk
    have heq : (bktE es b.toNat)[s] = es[b.toNat * 4 + s] := by
      have := getE hsl
      rw [he] at this
      exact (Option.some.inj this).symm
    have htg := ht _ (List.getElem_mem hk)
    rw [List.drop_eq_getElem_cons hsl, expandGo, heq]
    obtain ⟨r1, r, r2⟩ := reach_ok h1 h2 (hOther_rng hb.1 hb.2 htg.1 htg.2) (s := (b, (s : Int))) (.inr ⟨hb.1, hb.2, by show (0 : Int) ≤ s; omega, by show (s : Int) < 4; omega, hf, by show _ = hOther b (es.getD (b.toNat * 4 + (s : Int).toNat) Ent.zero).tag; rw [Int.toNat_natCast, getD_at hk], h4⟩)
    have hsub : ∀ x ∈ sw.1.map (·.1), x ∈ (reach sw (hOther b es[b.toNat * 4 + s].tag) (b, (s : Int))).1.map (·.1) := fun x hx => by rw [r2, List.map_append]; exact List.mem_append_left _ hx
    have hle : k ≤ (reach sw (hOther b es[b.toNat * 4 + s].tag) (b, (s : Int))).1.length := by rw [r2, List.length_append]; omega
    obtain ⟨i1, i2, i3, i4⟩ := ih (s + 1) (by omega) _ k r1 hle (reach_own h3 fun e => by have := congrArg Prod.fst e; dsimp only at this; omega) (hsub b h4)
    exact ⟨i1, i2, i3, fun x hx => i4 x (hsub x hx)⟩
theorem wayGo_ok {es : List Ent} (hl : es.length = 32) (ht : TagOk es) {h : Int} : ∀ (n : Nat) (sw : WSt) (k : Nat), WayOk es sw k → k ≤ sw.1.length → Own0 h sw.1 → ∀ f, (wayGo es n sw).2 = some f → FromOk es f ∧ (wayGo es n sw).1 ∈ f.map (·.1) ∧ 0 ≤ freeOf es (wayGo es n sw).1.toNat ∧ Own0 h f := by
  intro n
  induction n with
  | zero => intro sw k _ _ _ f hf; cases hf
  | succ n ih =>
    rintro ⟨g, todo⟩ k h1 h2 h3 f hf
    cases todo with
    | nil => cases hf
    | cons b rest =>
      have h1t := h1.todo
      dsimp only at h1t h2 h3
      have hbm : b ∈ g.map (·.1) := by
        have : b ∈ (g.map (·.1)).drop k := by rw [← h1t]; simp
        exact List.mem_of_mem_drop this
      have hbr := h1.ok.rng b hbm
      unfold wayGo at hf ⊢
      by_cases hfr : 0 ≤ freeOf es b.toNat
      · rw [if_pos hfr] at hf ⊢
        dsimp only at hf ⊢
        simp only [Option.some.injEq] at hf
        subst hf
        exact ⟨h1.ok, hbm, hfr, h3⟩
      · rw [if_neg hfr] at hf ⊢
        have hkl : k < g.length := by
          have h5 := congrArg List.length h1t
          rw [List.length_drop, List.length_map] at h5
          simp at h5
          omega
        have hw : WayOk es (g, rest) (k + 1) := ⟨h1.ok, by show rest = _; rw [← List.drop_drop, ← h1t]; rfl⟩
        obtain ⟨i1, i2, i3, _⟩ := expand_ok hl ht (h := h) hbr (by omega) 4 0 rfl (g, rest) (k + 1) hw hkl h3 hbm
        rw [List.drop_zero] at i1 i2 i3
        exact ih _ _ i1 i2 i3 f hf
theorem dirWay_ok {es : List Ent} (hl : es.length = 32) (ht : TagOk es) {h : Int} (h0 : 0 ≤ h) {f : List (Int × Stp)} (hf : (dirWay es h).2 = some f) : FromOk es f ∧ (dirWay es h).1 ∈ f.map (·.1) ∧ 0 ≤ freeOf es (dirWay es h).1.toNat ∧ Own0 h f := by
  have hB := hB2_rng h0
  have w0 : WayOk es ([], []) 0 := ⟨⟨List.nodup_nil, nofun, fun j k s hj => by simp at hj⟩, rfl⟩
  obtain ⟨r1, _, e1⟩ := reach_ok w0 (Nat.le_refl 0) (to := hFirst h) (hB _ (by simp [hB2])) (s := (-1, 0)) (.inl rfl)
  obtain ⟨r2, _, e2⟩ := reach_ok r1 (Nat.zero_le _) (to := hOther (hFirst h) (hTag h)) (hB _ (by simp [hB2])) (s := (-1, 0)) (.inl rfl)
  exact wayGo_ok hl ht 9 (way0 h) 0 r2 (Nat.zero_le _) (reach_own (reach_own (fun p hp => by cases hp) fun _ => by simp [hB2]) fun _ => by simp [hB2]) f hf
/-! ### The moves -/
theorem set_swap {l : List Ent} {i j : Nat} (hij : i ≠ j) (hi : i < l.length) (hj : j < l.length) (a b : Ent) : ((l.set i a).set j b).Perm ((l.set i b).set j a) := by
  rw [List.perm_iff_count]
  intro x
  have e1 : (l.set i a)[j]'(by rw [List.length_set]; exact hj) = l[j] := by rw [List.getElem_set, if_neg hij]
  have e2 : (l.set i b)[j]'(by rw [List.length_set]; exact hj) = l[j] := by rw [List.getElem_set, if_neg hij]
  have k1 := List.count_set (a := b) (b := x) (l := l.set i a) (i := j) (by rw [List.length_set]; exact hj)
  have k2 := List.count_set (a := a) (b := x) (l := l.set i b) (i := j) (by rw [List.length_set]; exact hj)
  rw [e1] at k1
  rw [e2] at k2
  rw [k1, k2, List.count_set hi, List.count_set hi]
  have c1 : (if (l[i] == x) = true then 1 else 0) ≤ l.count x := by
    split
    · rename_i h; exact List.count_pos_iff.2 (by rw [← beq_iff_eq.1 h]; exact List.getElem_mem hi)
    · omega
  have c2 : (if (l[i] == x) = true then 1 else 0) + (if (l[j] == x) = true then 1 else 0) ≤ l.count x := by
    obtain ⟨y, hne⟩ : ∃ y : Ent, (y == x) = false := by
      by_cases hx : x = Ent.zero
      · exact ⟨⟨true, 0, 0⟩, by rw [hx]; decide⟩
      · exact ⟨Ent.zero, by rw [beq_eq_false_iff_ne]; exact fun e => hx e.symm⟩
    have h3 := List.count_set (a := y) (b := x) hi
    rw [hne] at h3
    have h4 : (if (l[j] == x) = true then 1 else 0) ≤ (l.set i y).count x := by
      split
      · rename_i h
        refine List.count_pos_iff.2 (List.mem_of_getElem? (i := j) ?_)
        rw [List.getElem?_set_ne hij, getE hj, beq_iff_eq.1 h]
      · omega
    simp only [Bool.false_eq_true, if_false, Nat.add_zero] at h3
    omega
  omega
def hasIds (es : List Ent) : List Int := (es.filter (·.has)).map (·.id)
theorem hasIds_perm {a b : List Ent} (h : a.Perm b) : (hasIds a).Perm (hasIds b) := (h.filter _).map _
structure Qb (Q : Ent → Int → Prop) : Prop where
  other : ∀ e b, 0 ≤ b → b < 8 → e.has = true → Q e b → Q e (hOther b e.tag)
theorem insGo_ok {Q : Ent → Int → Prop} (hQ : Qb Q) {es0 : List Ent} {f : List (Int × Stp)} (hF : FromOk es0 f) (hl0 : es0.length = 32) {ids : List Int} : ∀ (n : Nat) (es : List Ent) (b s : Int) (j : Nat), es.length = 32 → (f.map (·.1))[j]? = some b → j < n → 0 ≤ s ∧ s < 4 →
    (∀ i k, i < j → (f.map (·.1))[i]? = some k → ∀ x, x < 4 → es[k.toNat * 4 + x]? = es0[k.toNat * 4 + x]?) → (∀ i e, es[i]? = some e → e.has = true → i ≠ b.toNat * 4 + s.toNat → Q e ((i / 4 : Nat) : Int)) → (hasIds (es.set (b.toNat * 4 + s.toNat) Ent.zero)).Perm ids →
    ∃ es' b' s', insGo f n es b s = (es', b', s') ∧ es'.length = 32 ∧ (b', ((-1 : Int), (0 : Int))) ∈ f ∧ 0 ≤ s' ∧ s' < 4 ∧ 0 ≤ b' ∧ b' < 8 ∧ (∀ i e, es'[i]? = some e → e.has = true → i ≠ b'.toNat * 4 + s'.toNat → Q e ((i / 4 : Nat) : Int)) ∧ (hasIds (es'.set (b'.toNat * 4 + s'.toNat) Ent.zero)).Perm ids := by
  intro n
  induction n with
  | zero => intro es b s j _ _ h; omega
  | succ n ih =>
    intro es b s j hl hj hjn hs hold hq hp
    obtain ⟨x, hx, hg⟩ := mget_at hF.nd hj
    have hb := hF.rng b (List.mem_of_getElem? hj)
    unfold insGo
    rw [hg]
    dsimp only
    by_cases h1 : 0 ≤ x.1
    · rw [if_pos h1]
      obtain ⟨h2, h3, h4, h5, h6, h7, i, hi, hi2⟩ := (hF.src j b x hx).resolve_left (fun e => by rw [e] at h1; exact absurd h1 (by decide))
      have hk : x.1.toNat * 4 + x.2.toNat < es.length := by omega
      have hk0 : x.1.toNat * 4 + x.2.toNat < es0.length := by omega
      have hsame := hold i x.1 hi hi2 x.2.toNat (by omega)
      rw [getE hk, getE hk0] at hsame
      have hsame := Option.some.inj hsame
      rw [getD_at hk]
      rw [getD_at hk0, ← hsame] at h7
      have hhas : es[x.1.toNat * 4 + x.2.toNat].has = true := by
        rw [hsame]
        have hm : es0[x.1.toNat * 4 + x.2.toNat] ∈ bktE es0 x.1.toNat := by
          refine List.mem_of_getElem? (i := x.2.toNat) ?_
          rw [bktE_at (by omega)]; exact getE hk0
        have := findIx_none (fun e : Ent => !e.has) (bktE es0 x.1.toNat) 0 h6 _ hm
        simpa using this
      have hxb : x.1 ≠ b := fun e => by
        have h8 : (f.map (·.1))[i]? = (f.map (·.1))[j]? := by rw [hi2, hj, e]
        have := (List.getElem?_inj (List.getElem?_eq_some_iff.1 hi2).1 hF.nd).1 h8
        omega
      have hne : b.toNat * 4 + s.toNat ≠ x.1.toNat * 4 + x.2.toNat := by omega
      have hQe : Q es[x.1.toNat * 4 + x.2.toNat] x.1 := by
        have := hq _ _ (getE hk) hhas (fun e => hne e.symm)
        rwa [show (((x.1.toNat * 4 + x.2.toNat) / 4 : Nat) : Int) = x.1 by omega] at this
      have hQb := hQ.other _ _ h2 h3 hhas hQe
      rw [← h7] at hQb
      have hee := getE hk
      generalize es[x.1.toNat * 4 + x.2.toNat] = e at *
      refine ih _ x.1 x.2 i (by rw [List.length_set]; exact hl) hi2 (by omega) ⟨h4, h5⟩ (fun i' k hi' hk' y hy => ?_) (fun m e' hm hm2 hm3 => ?_) ?_
      · rw [List.getElem?_set_ne]
        · exact hold i' k (by omega) hk' y hy
        · have hkr := hF.rng k (List.mem_of_getElem? hk')
          have hkb : k ≠ b := fun e => by
            have h8 : (f.map (·.1))[i']? = (f.map (·.1))[j]? := by rw [hk', hj, e]
            have := (List.getElem?_inj (List.getElem?_eq_some_iff.1 hk').1 hF.nd).1 h8
            omega
          omega
      · rw [List.getElem?_set] at hm
        split at hm
        · rename_i hmi
          rw [if_pos (by omega)] at hm
          simp only [Option.some.injEq] at hm
          subst hm
          rw [← hmi, show (((b.toNat * 4 + s.toNat) / 4 : Nat) : Int) = b by omega]
          exact hQb
        · exact hq m e' hm hm2 (fun e => by omega)
      · refine List.Perm.trans (hasIds_perm ?_) hp
        have hse : es.set (b.toNat * 4 + s.toNat) Ent.zero = (es.set (b.toNat * 4 + s.toNat) Ent.zero).set (x.1.toNat * 4 + x.2.toNat) e := by
          apply List.ext_getElem?
          intro y
          by_cases hy : x.1.toNat * 4 + x.2.toNat = y
          · subst hy
            rw [List.getElem?_set_self (by rw [List.length_set]; omega), List.getElem?_set_ne hne]
            exact hee
          · rw [List.getElem?_set_ne hy]
        rw [hse]
        exact set_swap hne (by omega) (by omega) _ _
    · rw [if_neg h1]
      have hxs : x = (-1, 0) := (hF.src j b x hx).resolve_right fun h => h1 h.1
      refine ⟨es, b, s, rfl, hl, ?_, hs.1, hs.2, hb.1, hb.2, hq, hp⟩
      rw [← hxs]
      exact List.mem_of_getElem? hx
theorem hasIds_set0 {e0 : Ent} (hh : e0.has = false) : ∀ {es : List Ent} {k : Nat}, es[k]? = some e0 → hasIds (es.set k Ent.zero) = hasIds es
  | [], _, h => by simp at h
  | a :: es, 0, h => by
    simp only [List.getElem?_cons_zero, Option.some.injEq] at h
    subst h
    unfold hasIds
    rw [List.set_cons_zero, List.filter_cons_of_neg (by simp [Ent.zero]), List.filter_cons_of_neg (by simp [hh])]
  | a :: es, k + 1, h => by
    rw [List.getElem?_cons_succ] at h
    have ih := hasIds_set0 hh h
    unfold hasIds at ih ⊢
    rw [List.set_cons_succ, List.filter_cons, List.filter_cons]
    split
    · rw [List.map_cons, List.map_cons, ih]
    · exact ih
/-- What an entry's insertion leaves: all that was there and the new one, each in a bucket of its own. -/
theorem dirIns_ok {Q : Ent → Int → Prop} (hQ : Qb Q) {es es' : List Ent} (hl : es.length = 32) (ht : TagOk es) {h id : Int} (h0 : 0 ≤ h) (hi : dirIns es h id = some es') (hq : ∀ i e, es[i]? = some e → e.has = true → Q e ((i / 4 : Nat) : Int)) (hn : ∀ b ∈ hB2 h, Q ⟨true, id, hTag h⟩ b) :
    es'.length = 32 ∧ (∀ i e, es'[i]? = some e → e.has = true → Q e ((i / 4 : Nat) : Int)) ∧ (hasIds es').Perm (id :: hasIds es) := by
  unfold dirIns at hi
  split at hi
  · rename_i f hf
    obtain ⟨hF, hb, hfr, hO⟩ := dirWay_ok hl ht h0 hf
    simp only [Option.some.injEq] at hi
    generalize (dirWay es h).1 = b at *
    have hbr := hF.rng b hb
    have hs := (freeOf_rng hl (b := b.toNat) (by omega)).resolve_left (by omega)
    obtain ⟨e0, he0, hh0⟩ := findIx_some (fun e : Ent => !e.has) (bktE es b.toNat) 0 hfr
    rw [Nat.sub_zero] at he0
    have he0 : (bktE es b.toNat)[(freeOf es b.toNat).toNat]? = some e0 := he0
    rw [bktE_at (by omega)] at he0
    have hh0 : e0.has = false := by simpa using hh0
    obtain ⟨j, hj⟩ := List.getElem?_of_mem hb
    have hjl := (List.getElem?_eq_some_iff.1 hj).1
    rw [List.length_map] at hjl
    generalize freeOf es b.toNat = s at *
    have hp0 : (hasIds (es.set (b.toNat * 4 + s.toNat) Ent.zero)).Perm (hasIds es) := by
      rw [hasIds_set0 hh0 he0]
    obtain ⟨es1, b1, s1, hG, g1, g2, g3, g4, g5, g6, g7, g8⟩ := insGo_ok hQ hF hl (ids := hasIds es) f.length es b s j hl hj hjl ⟨hs.1, hs.2⟩ (fun _ _ _ _ _ _ => rfl) (fun i e a1 a2 _ => hq i e a1 a2) hp0
    rw [hG] at hi
    dsimp only at hi
    subst hi
    have hbm := hO _ g2 rfl
    have hk : b1.toNat * 4 + s1.toNat < es1.length := by omega
    refine ⟨by rw [List.length_set]; exact g1, fun i e h1 h2 => ?_, ?_⟩
    · rw [List.getElem?_set] at h1
      split at h1
      · rename_i hi
        have h1 := Option.some.inj h1
        subst h1
        rw [← hi, show (((b1.toNat * 4 + s1.toNat) / 4 : Nat) : Int) = b1 by omega]
        exact hn b1 hbm
      · exact g7 i e h1 h2 fun e => by omega
    · refine List.Perm.trans ?_ (g8.cons id)
      have : ∀ (l : List Ent) (k : Nat), k < l.length → (hasIds (l.set k ⟨true, id, hTag h⟩)).Perm (id :: hasIds (l.set k Ent.zero)) := by
        intro l
        induction l with
        | nil => intro k hk; simp at hk
        | cons a l ih =>
          intro k hk
          cases k with
          | zero =>
            unfold hasIds
            rw [List.set_cons_zero, List.set_cons_zero, List.filter_cons_of_pos rfl, List.filter_cons_of_neg (by simp [Ent.zero])]
            exact List.Perm.refl _
          | succ k =>
            have := ih k (by simpa using hk)
            unfold hasIds at this ⊢
            rw [List.set_cons_succ, List.set_cons_succ, List.filter_cons, List.filter_cons]
            split
            · rw [List.map_cons, List.map_cons]
              exact (this.cons _).trans (List.Perm.swap _ _ _)
            · exact this
      exact this es1 _ hk
  · cases hi
/-! ### The log -/
def inB (k : Str) (b : Int) : Prop := b ∈ hsB k
structure LogOk (s : LogS) : Prop where
  len : s.es.length = 32
  ent : ∀ i e, s.es[i]? = some e → e.has = true → ∃ r, 0 ≤ e.id ∧ s.l[e.id.toNat]? = some r ∧ e.tag = hTag (hashOf r.key) ∧ ((i / 4 : Nat) : Int) ∈ hsB r.key
  perm : (hasIds s.es).Perm ((List.range s.l.length).map fun i : Nat => (i : Int))
  nd : (s.l.map (·.key)).Nodup
  may : ∀ r ∈ s.l, recMay r = true
  tag : TagOk s.es
theorem log0_ok : LogOk ⟨[], ent0⟩ := by
  refine ⟨rfl, fun i e h hh => ?_, ?_, List.nodup_nil, nofun, fun e he => ?_⟩
  · have := List.mem_of_getElem? h
    rw [(List.mem_replicate.1 this).2] at hh
    cases hh
  · have : hasIds ent0 = [] := by
      unfold hasIds
      rw [List.filter_eq_nil_iff.2 fun e he => by rw [(List.mem_replicate.1 he).2]; decide]
      rfl
    show (hasIds ent0).Perm []
    rw [this]
  · rw [(List.mem_replicate.1 he).2]; exact ⟨Int.le_refl 0, by decide⟩
theorem idsB_mem {es : List Ent} {h : Int} {b i : Nat} {e : Ent} (he : es[i]? = some e) (hb : i / 4 = b) (h1 : e.has = true) (h2 : e.tag = hTag h) : e.id ∈ idsB es h b 4 := by
  unfold idsB
  refine List.mem_map.2 ⟨e, List.mem_filter.2 ⟨?_, by rw [h1, decT h2]; rfl⟩, rfl⟩
  refine List.mem_of_getElem? (i := i % 4) ?_
  rw [List.getElem?_take, if_pos (by omega), bktE_at (by omega), show b * 4 + i % 4 = i by omega]
  exact he
theorem dirIds_has {es : List Ent} {h : Int} {i : Nat} {e : Ent} (he : es[i]? = some e) (hb : ((i / 4 : Nat) : Int) ∈ hB2 h) (h1 : e.has = true) (h2 : e.tag = hTag h) : e.id ∈ dirIds es h := by
  unfold dirIds
  exact List.mem_flatMap.2 ⟨_, hb, idsB_mem he (by rw [Int.toNat_natCast]) h1 h2⟩
theorem hsB_is (k : Str) : hsB k = hB2 (hashOf k) := rfl
theorem LogOk.at {s : LogS} (h : LogOk s) {i : Nat} {r : Rec} (hr : s.l[i]? = some r) : ∃ j e, s.es[j]? = some e ∧ e.has = true ∧ e.id = ((i : Nat) : Int) ∧ e.tag = hTag (hashOf r.key) ∧ ((j / 4 : Nat) : Int) ∈ hsB r.key := by
  have hm : (i : Int) ∈ hasIds s.es := h.perm.mem_iff.2 (List.mem_map.2 ⟨i, List.mem_range.2 (List.getElem?_eq_some_iff.1 hr).1, rfl⟩)
  unfold hasIds at hm
  obtain ⟨e, he, hid⟩ := List.mem_map.1 hm
  obtain ⟨he1, he2⟩ := List.mem_filter.1 he
  obtain ⟨j, hj⟩ := List.getElem?_of_mem he1
  obtain ⟨r', h1, h2, h3, h4⟩ := h.ent j e hj he2
  rw [hid, Int.toNat_natCast, hr] at h2
  have h2 := Option.some.inj h2
  subst h2
  exact ⟨j, e, hj, he2, hid, h3, h4⟩
theorem logFindGo_some {l : List Rec} {k : Str} : ∀ {is : List Int} {i : Int}, i ∈ is → (l.getD i.toNat Rec.zero).key = k → logFindGo l k is ∈ is ∧ (l.getD (logFindGo l k is).toNat Rec.zero).key = k
  | [], _, h, _ => by cases h
  | j :: is, i, h, hk => by
    unfold logFindGo
    by_cases hj : (l.getD j.toNat Rec.zero).key = k
    · rw [if_pos hj]; exact ⟨by simp, hj⟩
    · rw [if_neg hj]
      have h : i ∈ is := (List.mem_cons.1 h).resolve_left fun e => hj (by rw [← e]; exact hk)
      have := logFindGo_some h hk
      exact ⟨by simp [this.1], this.2⟩
theorem logFind_some {s : LogS} (h : LogOk s) {i : Nat} {r : Rec} (hr : s.l[i]? = some r) : logFind s.l s.es r.key = i := by
  obtain ⟨j, e, h1, h2, h3, h4, h5⟩ := h.at hr
  have hm : (i : Int) ∈ logIds s.es r.key := by
    rw [← h3]
    exact List.mem_mergeSort.2 (dirIds_has h1 (by rw [← hsB_is]; exact h5) h2 h4)
  have hgd : s.l.getD i Rec.zero = r := by rw [List.getD_eq_getElem?_getD, hr]; rfl
  obtain ⟨a, b⟩ := logFindGo_some (l := s.l) (k := r.key) hm (by rw [Int.toNat_natCast, hgd])
  obtain ⟨e', he', hh', _, hid'⟩ := logIds_mem a
  obtain ⟨j', hj'⟩ := List.getElem?_of_mem he'
  obtain ⟨r', c1, c2, _, _⟩ := h.ent j' e' hj' hh'
  unfold logFind
  generalize logFindGo s.l r.key (logIds s.es r.key) = x at *
  rw [hid'] at c1 c2
  rw [List.getD_eq_getElem?_getD, c2] at b
  have b : r'.key = r.key := b
  have hx : (s.l.map (·.key))[x.toNat]? = (s.l.map (·.key))[i]? := by rw [List.getElem?_map, List.getElem?_map, c2, hr]; simp [b]
  have := (List.getElem?_inj (by rw [List.length_map]; exact (List.getElem?_eq_some_iff.1 c2).1) h.nd).1 hx
  omega
theorem logFind_none {s : LogS} (h : LogOk s) {k : Str} (hk : ∀ r ∈ s.l, r.key ≠ k) : logFind s.l s.es k = -1 := by
  unfold logFind
  rcases logFindGo_mem s.l k (logIds s.es k) with h1 | ⟨h1, h2⟩
  · exact h1
  · obtain ⟨e', he', hh', _, hid'⟩ := logIds_mem h1
    obtain ⟨j', hj'⟩ := List.getElem?_of_mem he'
    obtain ⟨r', c1, c2, _, _⟩ := h.ent j' e' hj' hh'
    rw [hid'] at c1 c2
    rw [List.getD_eq_getElem?_getD, c2] at h2
    exact absurd h2 (hk r' (List.mem_of_getElem? c2))
theorem logGet_is {s : LogS} (h : LogOk s) (k : Str) : (if logFind s.l s.es k < 0 then (Rec.zero, false) else (s.l.getD (logFind s.l s.es k).toNat Rec.zero, true)) = recFind k s.l := by
  by_cases hk : ∃ r ∈ s.l, r.key = k
  · obtain ⟨r, hr, rfl⟩ := hk
    obtain ⟨i, hi⟩ := List.getElem?_of_mem hr
    rw [logFind_some h hi, if_neg (by omega), recFind_some rfl h.nd hr, Int.toNat_natCast, List.getD_eq_getElem?_getD, hi]; rfl
  · have hk : ∀ r ∈ s.l, r.key ≠ k := fun r hr e => hk ⟨r, hr, e⟩
    rw [logFind_none h hk, if_pos (by decide), recFind_none hk]
theorem logPut_ok {s : LogS} (h : LogOk s) (r : Rec) : LogOk (logPut s r).1 := by
  by_cases hm : recMay r = false
  · rw [logPut_no hm]; exact h
  · have hm : recMay r = true := by simpa using hm
    by_cases hf : 0 ≤ logFind s.l s.es r.key
    · rw [logPut_old hm hf]
      have hex : ∃ x ∈ s.l, x.key = r.key := Classical.byContradiction fun hn => by
        rw [logFind_none h fun x hx e => hn ⟨x, hx, e⟩] at hf; omega
      obtain ⟨x, hx, hxk⟩ := hex
      obtain ⟨i, hi⟩ := List.getElem?_of_mem hx
      have hfi := logFind_some h hi
      rw [hxk] at hfi
      rw [hfi, Int.toNat_natCast]
      have hil := (List.getElem?_eq_some_iff.1 hi).1
      have hkeys : (s.l.set i r).map (·.key) = s.l.map (·.key) := by
        rw [List.map_set]
        apply List.ext_getElem?
        intro j
        by_cases hj : i = j
        · subst hj
          rw [List.getElem?_set_self (by rw [List.length_map]; exact hil), List.getElem?_map, hi, ← hxk]; rfl
        · rw [List.getElem?_set_ne hj]
      refine ⟨h.len, fun j e he hh => ?_, ?_, by show ((s.l.set i r).map _).Nodup; rw [hkeys]; exact h.nd, fun y hy => ?_, h.tag⟩
      · obtain ⟨r', a1, a2, a3, a4⟩ := h.ent j e he hh
        by_cases hej : i = e.id.toNat
        · refine ⟨r, a1, ?_, ?_, ?_⟩
          · show (s.l.set i r)[e.id.toNat]? = _
            rw [← hej, List.getElem?_set_self hil]
          · rw [← hej, hi] at a2
            have := Option.some.inj a2
            rw [a3, ← this, hxk]
          · rw [← hej, hi] at a2
            have := Option.some.inj a2
            rw [← hxk, this]; exact a4
        · refine ⟨r', a1, ?_, a3, a4⟩
          show (s.l.set i r)[e.id.toNat]? = _
          rw [List.getElem?_set_ne hej]; exact a2
      · show (hasIds s.es).Perm ((List.range (s.l.set i r).length).map _)
        rw [List.length_set]; exact h.perm
      · rcases List.mem_or_eq_of_mem_set hy with hy | rfl
        · exact h.may y hy
        · exact hm
    · have hnk : ∀ x ∈ s.l, x.key ≠ r.key := fun x hx e => by
        obtain ⟨i, hi⟩ := List.getElem?_of_mem hx
        have := logFind_some h hi
        rw [e] at this
        omega
      cases hd : dirIns s.es (hashOf r.key) s.l.length with
      | none => rw [logPut_full hm hf hd]; exact h
      | some es' =>
        rw [logPut_new hm hf hd]
        have h0 := hashOf_rng r.key
        have hQ : Qb fun e b => ∃ x, 0 ≤ e.id ∧ (s.l ++ [r])[e.id.toNat]? = some x ∧ e.tag = hTag (hashOf x.key) ∧ b ∈ hsB x.key := ⟨fun e b hb0 hb1 hh ⟨x, a1, a2, a3, a4⟩ => by
          refine ⟨x, a1, a2, a3, ?_⟩
          have hx := hFirst_rng x.key
          have tx := hTag_rng x.key
          have ix := hOther_inv hx.1 hx.2 tx.1 tx.2
          rw [a3]
          unfold hsB at a4 ⊢
          rcases List.mem_cons.1 a4 with a4 | a4
          · rw [a4]; simp
          · rw [List.mem_singleton] at a4
            rw [a4, ix.1]; simp⟩
        obtain ⟨g1, g2, g3⟩ := dirIns_ok hQ h.len h.tag h0.1 hd (fun i e he hh => by
          obtain ⟨x, a1, a2, a3, a4⟩ := h.ent i e he hh
          exact ⟨x, a1, by rw [List.getElem?_append_left (List.getElem?_eq_some_iff.1 a2).1]; exact a2, a3, a4⟩) (fun b hb => ⟨r, by show (0 : Int) ≤ (s.l.length : Nat); omega, by show (s.l ++ [r])[((s.l.length : Nat) : Int).toNat]? = some r; rw [Int.toNat_natCast, List.getElem?_append_right (Nat.le_refl _), Nat.sub_self]; rfl, rfl, hb⟩)
        refine ⟨g1, g2, ?_, ?_, fun y hy => ?_, dirIns_all (fun e => 0 ≤ e.tag ∧ e.tag < 32768) ⟨Int.le_refl 0, by decide⟩ hd (hTag_rng r.key) h.tag⟩
        · refine g3.trans ?_
          show (_ :: hasIds s.es).Perm ((List.range (s.l ++ [r]).length).map _)
          rw [List.length_append, show s.l.length + [r].length = s.l.length + 1 from rfl, List.range_succ, List.map_append]
          exact (h.perm.cons _).trans (List.perm_append_singleton _ _).symm
        · show ((s.l ++ [r]).map (·.key)).Nodup
          rw [List.map_append, List.nodup_append]
          refine ⟨h.nd, by simp, fun a ha b hb e => ?_⟩
          obtain ⟨x, hx, rfl⟩ := List.mem_map.1 ha
          simp at hb
          subst hb
          exact hnk x hx e
        · rcases List.mem_append.1 hy with hy | hy
          · exact h.may y hy
          · rw [List.mem_singleton] at hy; subst hy; exact hm
end Go.Proofs.YtffjccofglikhaaGreat
