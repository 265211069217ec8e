/-
  cuckoo: way, Insert.
-/
import Derived.Test.YtffjccofglikhaaGreatCFind
namespace Go.Proofs.YtffjccofglikhaaGreat
open Go Go.RowKit

abbrev Stp := Int × Int
def stpV (s : Stp) : Value := .agg #[iV s.1, iV s.2]
theorem i64_wf {n : Int} (h : i64R n) : (Lit.int .i64 n).wf = true := by
  obtain ⟨h0, h1⟩ := h
  simp [Lit.wf, IntKind.min, IntKind.max, IntKind.signed, IntKind.bits]
  omega
def kcI : KC Int := ⟨3, iV, i64R, Maps.int_keyed (q := .i64) (by kernel_rfl), fun k h => ⟨_, Maps.keyOf_int_mk (q := .i64) (by kernel_rfl) (i64_wf h)⟩, fun a b h => by injection h⟩
abbrev WSt := List (Int × Stp) × List Int
def reach (s : WSt) (to : Int) (by_ : Stp) : WSt := if (mget s.1 to).isSome = true then s else (mput s.1 to by_, s.2 ++ [to])
def expandGo (b : Int) : List Ent → Nat → WSt → WSt
  | [], _, sw => sw
  | e :: r, s, sw => expandGo b r (s + 1) (reach sw (hOther b e.tag) (b, (s : Int)))
def wayGo (es : List Ent) : Nat → WSt → Int × Option (List (Int × Stp))
  | 0, _ => (-1, none)
  | _ + 1, (_, []) => (-1, none)
  | n + 1, (f, b :: todo) => if 0 ≤ freeOf es b.toNat then (b, some f) else wayGo es n (expandGo b (bktE es b.toNat) 0 (f, todo))
def way0 (h : Int) : WSt := reach (reach ([], []) (hFirst h) (-1, 0)) (hOther (hFirst h) (hTag h)) (-1, 0)
def dirWay (es : List Ent) (h : Int) : Int × Option (List (Int × Stp)) := wayGo es 9 (way0 h)
theorem mput_new {κ α : Type} [DecidableEq κ] {l : List (κ × α)} {k : κ} (h : mget l k = none) (v : α) : mput l k v = l ++ [(k, v)] := by
  unfold mput
  rw [if_neg]
  intro ha
  rw [List.any_eq_true] at ha
  obtain ⟨p, hp, hk⟩ := ha
  obtain ⟨x, hx⟩ := mget_mem (l := l) (k := k) (List.mem_map.2 ⟨p, hp, of_decT hk⟩)
  rw [hx] at h; cases h
theorem mget_none {κ α : Type} [DecidableEq κ] {l : List (κ × α)} {k : κ} (h : mget l k = none) : k ∉ l.map (·.1) := fun hk => by
  obtain ⟨x, hx⟩ := mget_mem hk
  rw [hx] at h; cases h
/-- How the buckets were reached: each but the hash's own by an entry of a full one that was reached before. -/
structure FromOk (es : List Ent) (f : List (Int × Stp)) : Prop where
  nd : (f.map (·.1)).Nodup
  rng : ∀ k ∈ f.map (·.1), 0 ≤ k ∧ k < 8
  src : ∀ (j : Nat) (k : Int) (s : Stp), f[j]? = some (k, s) → s = (-1, 0) ∨ (0 ≤ s.1 ∧ s.1 < 8 ∧ 0 ≤ s.2 ∧ s.2 < 4 ∧ freeOf es s.1.toNat < 0 ∧ k = hOther s.1 (es.getD (s.1.toNat * 4 + s.2.toNat) Ent.zero).tag ∧ ∃ i, i < j ∧ (f.map (·.1))[i]? = some s.1)
theorem nodup_in (n : Nat) : ∀ (l : List Nat), l.Nodup → (∀ x ∈ l, x < n) → l.length ≤ n := by
  induction n with
  | zero =>
    intro l _ h
    cases l with
    | nil => simp
    | cons a l => exact absurd (h a (by simp)) (by omega)
  | succ n ih =>
    intro l hn h
    have h1 := ih (l.filter fun x => !decide (x = n)) (hn.filter _) fun x hx => by
      obtain ⟨a, b⟩ := List.mem_filter.1 hx
      have := h x a
      simp at b
      omega
    have h2 : l.length ≤ (l.filter fun x => !decide (x = n)).length + 1 := by
      clear h ih h1
      induction l with
      | nil => simp
      | cons a l ih2 =>
        rw [List.nodup_cons] at hn
        by_cases ha : a = n
        · subst ha
          rw [List.filter_cons_of_neg (by simp), List.filter_eq_self.2 fun x hx => by simp; intro e; subst e; exact hn.1 hx]
          simp
        · rw [List.filter_cons_of_pos (by simpa using ha)]
          have := ih2 hn.2
          simp only [List.length_cons]
          omega
    omega
theorem nodup_8 {l : List Int} (hn : l.Nodup) (hr : ∀ k ∈ l, 0 ≤ k ∧ k < 8) : l.length ≤ 8 := by
  have := nodup_in 8 (l.map Int.toNat) (List.pairwise_map.2 (hn.imp_of_mem fun {a b} ha hb hne e => hne (by have := hr a ha; have := hr b hb; omega))) fun x hx => by
    obtain ⟨a, ha, rfl⟩ := List.mem_map.1 hx
    have := hr a ha
    omega
  simpa using this
structure WayOk (es : List Ent) (sw : WSt) (k : Nat) : Prop where
  ok : FromOk es sw.1
  todo : sw.2 = (sw.1.map (·.1)).drop k
theorem reach_ok {es : List Ent} {sw : WSt} {k : Nat} (h : WayOk es sw k) (hk : k ≤ sw.1.length) {to : Int} {s : Stp} (ht : 0 ≤ to ∧ to < 8) (hs : s = (-1, 0) ∨ (0 ≤ s.1 ∧ s.1 < 8 ∧ 0 ≤ s.2 ∧ s.2 < 4 ∧ freeOf es s.1.toNat < 0 ∧ to = hOther s.1 (es.getD (s.1.toNat * 4 + s.2.toNat) Ent.zero).tag ∧ s.1 ∈ sw.1.map (·.1))) :
    WayOk es (reach sw to s) k ∧ ∃ r, (reach sw to s).1 = sw.1 ++ r := by
  unfold reach
  split
  · exact ⟨h, [], (List.append_nil _).symm⟩
  · rename_i hn
    have hn : mget sw.1 to = none := by cases hm : mget sw.1 to with | none => rfl | some x => rw [hm] at hn; exact absurd rfl hn
    have hni := mget_none hn
    rw [mput_new hn]
    refine ⟨⟨⟨?_, ?_, ?_⟩, ?_⟩, _, rfl⟩
    · show ((sw.1 ++ [(to, s)]).map (·.1)).Nodup
      rw [List.map_append, List.nodup_append]
      refine ⟨h.ok.nd, by simp, fun a ha b hb e => ?_⟩
      simp at hb
      subst hb
      exact hni (by rw [← e]; exact ha)
    · intro x hx
      rw [List.map_append] at hx
      rcases List.mem_append.1 hx with hx | hx
      · exact h.ok.rng x hx
      · simp at hx; subst hx; exact ht
    · intro j x q hj
      rw [List.getElem?_append] at hj
      split at hj
      · rcases h.ok.src j x q hj with h1 | ⟨a1, a2, a3, a4, a5, a6, i, hi, hi2⟩
        · exact .inl h1
        · refine .inr ⟨a1, a2, a3, a4, a5, a6, i, hi, ?_⟩
          rw [List.map_append, List.getElem?_append_left (by rw [List.length_map]; omega)]
          exact hi2
      · rename_i hlt
        have hj0 : j = sw.1.length := by
          by_cases e : j - sw.1.length = 0
          · omega
          · rw [List.getElem?_eq_none (by simp; omega)] at hj; cases hj
        subst hj0
        simp only [Nat.sub_self, List.getElem?_cons_zero, Option.some.injEq, Prod.mk.injEq] at hj
        obtain ⟨rfl, rfl⟩ := hj
        rcases hs with hs | ⟨a1, a2, a3, a4, a5, a6, a7⟩
        · exact .inl hs
        · obtain ⟨i, hi⟩ := List.getElem?_of_mem a7
          have hil := (List.getElem?_eq_some_iff.1 hi).1
          rw [List.length_map] at hil
          refine .inr ⟨a1, a2, a3, a4, a5, a6, i, hil, ?_⟩
          rw [List.map_append, List.getElem?_append_left (by rw [List.length_map]; exact hil)]
          exact hi
    · show sw.2 ++ [to] = ((sw.1 ++ [(to, s)]).map (·.1)).drop k
      rw [List.map_append, List.drop_append_of_le_length (by rw [List.length_map]; exact hk), h.todo]; rfl
/-- The tags that entries have. -/
def TagOk (es : List Ent) : Prop := ∀ e ∈ es, 0 ≤ e.tag ∧ e.tag < 32768
theorem getD_at {es : List Ent} {k : Nat} (h : k < es.length) : es.getD k Ent.zero = es[k] := by rw [List.getD_eq_getElem?_getD, getE h]; rfl
theorem way_1 {w : World} {b6 b7 m : Nat} {sw : WSt} {v : Value} {to : Int} {s : Stp} (hb6 : Blk w b6 210 [.map (some m)]) (hb7 : Blk w b7 49 [v]) (hM : MapR kcI stpV w m sw.1) (hO : Own cI 3 w v sw.2) (hn : v.ownBlock ≠ some b6 ∧ v.ownBlock ≠ some b7) (hne : b6 ≠ b7) (hl : sw.1.length ≤ 1000 ∧ sw.2.length ≤ 1000) (hto : i64R to) :
    CallV P 173 [iV to, stpV s, ptr b6, ptr b7] w fun r w' => r = .tuple #[] ∧ ∃ v', Blk w' b6 210 [.map (some m)] ∧ Blk w' b7 49 [v'] ∧ MapR kcI stpV w' m (reach sw to s).1 ∧ Own cI 3 w' v' (reach sw to s).2 ∧ Mod (fun k => k = b7 ∨ k = m ∨ v.ownBlock = some k) w w' ∧ ∀ k, v'.ownBlock = some k → v.ownBlock = some k ∨ w.heap.size ≤ k := by
  have l6 := hb6.lt
  have l7 := hb7.lt
  have lm := hM.lt
  have lv := hO.lt
  have hm6 : m ≠ b6 := fun e => by subst e; obtain ⟨_, es, cl, h, _⟩ := hM; unfold Blk at hb6; rw [hb6] at h; cases h
  have hm7 : m ≠ b7 := fun e => by subst e; obtain ⟨_, es, cl, h, _⟩ := hM; unfold Blk at hb7; rw [hb7] at h; cases h
  have hmv : v.ownBlock ≠ some m := fun e => by
    rcases hO with ⟨rfl, _⟩ | ⟨g, o, cap, cur, rfl, hg, _⟩
    · cases e
    · cases e; obtain ⟨_, es, cl, h, _⟩ := hM; unfold Blk at hg; rw [hg] at h; cases h
  have hMM : (1000 : Nat) < maxLen := by unfold maxLen; omega
  have hu : P.underlying 210 = some (.map kcI.t 214) := by kernel_rfl
  refine calls_of lay_is Tryz.func173 rfl (by kernel_rfl) (al fun b5 w1 e1 m1 s1 hb5 => ?_)
  have hb61 := hb6.mod m1 fun h => h
  have hb71 := hb7.mod m1 fun h => h
  have hM1 := hM.mod m1 fun h => h
  have hO1 := hO.grow m1
  refine ld1 hb61 rfl ?_
  cases hg : mget sw.1 to with
  | some x =>
    have hr : reach sw to s = sw := by unfold reach; rw [hg]; rfl
    rw [hr]
    refine mlook hu hM1 hto hg (ok := true) ?_
    refine al fun b8 w2 e2 m2 s2 hb2 => st hb2 rfl (by decide) (flat_one cI [x.1, x.2]) fun w3 m3 s3 hb3 => condF rfl ?_
    have m13 : Mod no w w3 := (m1.trn m2).new m3 (by omega)
    exact ⟨rfl, v, hb6.mod m13 fun h => h, hb7.mod m13 fun h => h, hM.mod m13 fun h => h, hO.grow m13, m13.mono fun _ _ h => h.elim, fun k hk => .inl hk⟩
  | none =>
    have hr : reach sw to s = (mput sw.1 to s, sw.2 ++ [to]) := by unfold reach; rw [hg]; rfl
    rw [hr]
    refine mlook0 hu hM1 hto hg (z := stpV (0, 0)) (by kernel_rfl) (ok := true) ?_
    refine al fun b8 w2 e2 m2 s2 hb2 => st hb2 rfl (by decide) (flat_one cI [0, 0]) fun w3 m3 s3 hb3 => condT rfl ?_
    have m23 : Mod no w1 w3 := m2.new m3 (by omega)
    have hb63 := hb61.mod m23 fun h => h
    have hb73 := hb71.mod m23 fun h => h
    have hM3 := hM1.mod m23 fun h => h
    have hO3 := hO1.grow m23
    have hb53 := Blk.mod hb5 m23 fun h => h
    have s13 := m23.size
    refine ld1 hb63 rfl (ldB (cs := [iV s.1, iV s.2]) hb53 rfl (mupd hu hM3 (by omega) hto (v := s) rfl fun w4 m4 s4 hM4 => ?_))
    have hb64 := hb63.mod m4 (fun e => hm6 e.symm)
    have hb74 := hb73.mod m4 (fun e => hm7 e.symm)
    have hO4 := hO3.mod m4 (fun k hk e => hmv (by rw [hk, e]))
    refine ld1 hb74 rfl ⟨by decide, _, rfl, al fun b9 w5 e5 m5 s5 hb95 => app lay_is rfl (hO4.grow m5) (Own.mk (c := cI) (xs := [to]) hb95 rfl rfl (one_max _)).slr (by show _ + 1 ≤ _; omega) fun v' w6 hO6 m6 hf6 => ?_⟩
    have hb66 := (hb64.mod m5 fun h => h).mod m6 hn.1
    have hb76 := (hb74.mod m5 fun h => h).mod m6 hn.2
    have hM6 := (hM4.mod m5 fun h => h).mod m6 hmv
    have hlt6 : ∀ k, v'.ownBlock = some k → v.ownBlock = some k ∨ w.heap.size ≤ k := fun k hk => by
      rcases hf6 k hk with h | h
      · exact .inl h
      · exact .inr (by have := m1.size; have := m5.size; omega)
    have hn6 : ∀ k, k < w.heap.size → v.ownBlock ≠ some k → v'.ownBlock ≠ some k := fun k hk hv e => by
      rcases hlt6 k e with h | h
      · exact hv h
      · omega
    obtain ⟨va, vn, vc, rfl⟩ := hO6.form
    refine st1 hb76 (by exact (by decide : 0 < 1)) rfl fun w7 m7 s7 hb7' => ⟨rfl, _, hb66.mod m7 (fun e => hne e), hb7', hM6.mod m7 (fun e => hm7 e), hO6.mod m7 (fun k hk e => hn6 b7 l7 hn.2 (by rw [hk, e])), ?_, hlt6⟩
    have a1 : Mod (fun k => k = b7 ∨ k = m ∨ v.ownBlock = some k) w w3 := (m1.trn m23).mono fun _ _ h => h.elim
    have a2 := a1.tr m4 fun i _ h => .inr (.inl h)
    have a3 := (a2.trn m5).tr m6 fun i _ h => .inr (.inr h)
    exact a3.tr m7 fun i _ h => .inl h
end Go.Proofs.YtffjccofglikhaaGreat
