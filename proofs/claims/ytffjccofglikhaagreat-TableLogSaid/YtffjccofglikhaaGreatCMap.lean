/-
  Maps whose keys are strings.
-/
import Derived.Test.YtffjccofglikhaaGreatCRef6
import Derived.WideKeyElems
import Derived.WideKeyArgs2
import Derived.Maps.Own
import Derived.Sort.KeysCollected
namespace Go.Proofs.YtffjccofglikhaaGreat
open Go Go.RowKit

theorem run_und' {t : Nat} {d : TypeDesc} (h : P.underlying t = some d) (w : World) : (underlying t).run P w = .ok d w := run_under h w
def mR (_ : Value) : Option (DataW Unit × List MemPlace) := some (.lit (.bool true), [])
structure KC (κ : Type) where
  t : TypeId
  v : κ → Value
  ok : κ → Prop
  kd : Maps.Keyed P t
  key : ∀ k, ok k → ∃ l, keyOf P t (v k) = some l
  inj : ∀ a b, v a = v b → a = b
theorem sV_inj {a b : Str} (h : sV a = sV b) : a = b := by
  simp only [sV, Value.string.injEq, ByteArray.mk.injEq] at h
  exact congrArg Array.toList h
theorem key_sV {k : Str} (h : k.length ≤ maxLen) : keyOf P 9 (sV k) = some (.string k) := by
  have hu : P.underlying 9 = some .string := by kernel_rfl
  have hs : (⟨k.toArray⟩ : ByteArray).size ≤ maxLen := by show k.toArray.size ≤ maxLen; simpa using h
  have := WideMaps.keyOf_string_mk hu hs
  simpa using this
def kcS : KC Str := ⟨9, sV, fun k => k.length ≤ maxLen, Maps.string_keyed (by kernel_rfl), fun k h => ⟨_, key_sV h⟩, fun _ _ => sV_inj⟩
section
variable {κ : Type} (q : KC κ) {α : Type} (c : α → Value)
/-- A block is a map that holds just these, in the order in which they came. -/
def MapR (w : World) (b : Nat) (l : List (κ × α)) : Prop := (∀ p ∈ l, q.ok p.1) ∧ ∃ es clock, w.heap[b]? = some (.map es clock) ∧ WideElems.Fit P q.t mR es clock ∧ (es.toList.map fun e => (e.key, e.val)) = l.map fun p => (q.v p.1, c p.2)
variable {q c}
theorem MapR.lt {w : World} {b : Nat} {l : List (κ × α)} (h : MapR q c w b l) : b < w.heap.size := by
  obtain ⟨_, es, cl, h, _⟩ := h
  exact (Array.getElem?_eq_some_iff.1 h).1
theorem MapR.mod {S : Nat → Prop} {w w' : World} {b : Nat} {l : List (κ × α)} (h : MapR q c w b l) (m : Mod S w w') (hn : ¬ S b) : MapR q c w' b l := by
  have hl := h.lt
  obtain ⟨ho, es, cl, h, r⟩ := h
  exact ⟨ho, es, cl, (m.at hl hn).trans h, r⟩
theorem MapR.drew {w : World} {b : Nat} {l : List (κ × α)} (h : MapR q c w b l) : MapR q c w.drew b l := h
theorem MapR.keys {w : World} {b : Nat} {l : List (κ × α)} (h : MapR q c w b l) : (l.map (·.1)).Nodup ∧ (∀ p ∈ l, q.ok p.1) ∧ l.length ≤ maxLen := by
  obtain ⟨ho, es, cl, _, F, he⟩ := h
  have hk : es.toList.map (·.key) = l.map fun p => q.v p.1 := by
    have := congrArg (List.map Prod.fst) he
    simpa [List.map_map, Function.comp_def] using this
  have hn := F.stamped.2.2
  rw [hk] at hn
  refine ⟨?_, ho, ?_⟩
  · have : (l.map fun p => q.v p.1) = (l.map (·.1)).map q.v := by simp [List.map_map, Function.comp_def]
    rw [this] at hn
    exact (List.Pairwise.of_map q.v (fun a b h e => h (by rw [e])) hn)
  · have := congrArg List.length hk
    simp only [List.length_map] at this
    have h2 := F.size
    have h3 : es.toList.length = es.size := Array.length_toList
    omega
/-- What is found under a key. -/
theorem MapR.find {w : World} {es : Array MapEntry} {cl : Nat} {l : List (κ × α)} (F : WideElems.Fit P q.t mR es cl) (he : (es.toList.map fun e => (e.key, e.val)) = l.map fun p => (q.v p.1, c p.2)) {k : κ} (hk : q.ok k) :
    ((Instr.findKey q.t (q.v k) es.toList).run P w = .ok none w ∧ (∀ p ∈ l, p.1 ≠ k) ∧ (∀ e ∈ es.toList, e.key ≠ q.v k)) ∨
    ∃ j v e, (Instr.findKey q.t (q.v k) es.toList).run P w = .ok (some (j, c v)) w ∧ l[j]? = some (k, v) ∧ es.toList[j]? = some e ∧ e.key = q.v k ∧ e.val = c v := by
  obtain ⟨kl, hkl⟩ := q.key k hk
  rcases q.kd.find w hkl es.toList F.keys with ⟨h1, h2⟩ | ⟨j, e0, h1, h2, h3⟩
  · refine .inl ⟨h1, fun p hp hpk => ?_, h2⟩
    have : (q.v p.1, c p.2) ∈ es.toList.map fun e => (e.key, e.val) := by rw [he]; exact List.mem_map.2 ⟨p, hp, rfl⟩
    obtain ⟨e, he1, he2⟩ := List.mem_map.1 this
    refine h2 e he1 ?_
    have := congrArg Prod.fst he2
    rw [hpk] at this
    exact this
  · have hj : (es.toList.map fun e => (e.key, e.val))[j]? = some (e0.key, e0.val) := by rw [List.getElem?_map, h2]; rfl
    rw [he, List.getElem?_map] at hj
    cases hl : l[j]? with
    | none => rw [hl] at hj; cases hj
    | some p =>
      rw [hl] at hj
      simp only [Option.map_some, Option.some.injEq, Prod.mk.injEq] at hj
      rw [h3] at hj
      have : p.1 = k := q.inj _ _ hj.1
      refine .inr ⟨j, p.2, e0, by rw [hj.2]; exact h1, by rw [hl, ← this], h2, h3, hj.2.symm⟩
theorem mmap {w : World} {K : Value → World → Prop} (hk : ∀ b w', b = w.heap.size → Mod no w w' → w'.heap.size = w.heap.size + 1 → MapR q c w' b [] → K (.map (some b)) w') : MapW w K := by
  refine ⟨hk _ _ rfl mod_alloc (by simp) ⟨nofun, #[], 0, ?_, ⟨Nat.zero_le _, ⟨by simp, by simp, by simp⟩, by simp⟩, rfl⟩⟩
  show (w.heap.push _)[w.heap.size]? = _
  simp
theorem mlen {t e ty : Nat} (ht : P.underlying t = some (.map q.t e)) {w : World} {b : Nat} {l : List (κ × α)} (h : MapR q c w b l) {K : Value → Prop} (hK : K (iV l.length)) : ReadW P (Builtin.len_ #[t] ty #[.map (some b)]) w K := by
  obtain ⟨ho, es, cl, hb, F, he⟩ := h
  have hlen : es.size = l.length := by
    have := congrArg List.length he
    simpa using this
  refine ⟨_, ?_, hK⟩
  simp [Builtin.len_, run_underlying ht, MapKept.run_getObj_map hb, Result.andThen, hlen, goInt]
variable [DecidableEq κ]
def mput (l : List (κ × α)) (k : κ) (v : α) : List (κ × α) := if l.any (fun p => decide (p.1 = k)) = true then l.map fun p => if p.1 = k then (k, v) else p else l ++ [(k, v)]
def mget (l : List (κ × α)) (k : κ) : Option α := (l.find? fun p => decide (p.1 = k)).map (·.2)
def mdel (l : List (κ × α)) (k : κ) : List (κ × α) := l.filter fun p => !decide (p.1 = k)
theorem mput_ok {l : List (κ × α)} {k : κ} {v : α} {f : κ → Prop} (h : ∀ p ∈ l, f p.1) (hk : f k) : ∀ p ∈ mput l k v, f p.1 := by
  intro p hp
  unfold mput at hp
  split at hp
  · obtain ⟨x, hx, rfl⟩ := List.mem_map.1 hp
    split
    · exact hk
    · exact h x hx
  · rcases List.mem_append.1 hp with hp | hp
    · exact h p hp
    · rw [List.mem_singleton] at hp; subst hp; exact hk
theorem find_none {l : List (κ × α)} {k : κ} (h : ∀ p ∈ l, p.1 ≠ k) : mget l k = none := by
  unfold mget
  rw [List.find?_eq_none.2 (fun p hp => by simpa using h p hp)]; rfl
theorem find_some {l : List (κ × α)} (hn : (l.map (·.1)).Nodup) {j : Nat} {k : κ} {v : α} (h : l[j]? = some (k, v)) : mget l k = some v := by
  unfold mget
  induction l generalizing j with
  | nil => simp at h
  | cons p l ih =>
    rw [List.map_cons, List.nodup_cons] at hn
    cases j with
    | zero =>
      simp only [List.getElem?_cons_zero, Option.some.injEq] at h
      subst h
      simp
    | succ j =>
      rw [List.getElem?_cons_succ] at h
      have hne : p.1 ≠ k := fun e => hn.1 (by rw [e]; exact List.mem_map.2 ⟨(k, v), List.mem_of_getElem? h, rfl⟩)
      rw [List.find?_cons_of_neg (by simpa using hne)]
      exact ih hn.2 h
theorem mod_setb {w : World} {b : Nat} {o : Obj} : Mod (· = b) w (ChangeMaps.setBlock w b o) := ⟨rfl, rfl, rfl, by simp [ChangeMaps.setBlock], fun k _ hk => by
  show (w.heap.setIfInBounds b o)[k]? = _
  rw [Array.getElem?_setIfInBounds, if_neg (fun e => hk e.symm)]⟩
theorem setb_at {w : World} {b : Nat} {o : Obj} (hb : b < w.heap.size) : (ChangeMaps.setBlock w b o).heap[b]? = some o := by
  show (w.heap.setIfInBounds b o)[b]? = _
  rw [Array.getElem?_setIfInBounds, if_pos rfl, if_pos hb]
theorem mupd {t e : Nat} (ht : P.underlying t = some (.map q.t e)) {w : World} {b : Nat} {l : List (κ × α)} (h : MapR q c w b l) (hr : l.length < maxLen) {k : κ} (hk : q.ok k) {v : α} {u : Value} (hu : u = c v) {K : Value → World → Prop}
    (hK : ∀ w', Mod (· = b) w w' → w'.heap.size = w.heap.size → MapR q c w' b (mput l k v) → K undef w') : RunW P (do Instr.mapUpdate t (.map (some b)) (q.v k) u; pure undef) w K := by
  obtain ⟨kl, hkl⟩ := q.key k hk
  subst hu
  have hlt := h.lt
  obtain ⟨ho, es, cl, hb, F, he⟩ := h
  have hlen : es.size = l.length := by
    have := congrArg List.length he
    simpa using this
  have hrd : ∀ e : MapEntry, e.key = q.v k → ∃ y, WideElems.rd P q.t mR e = some y := fun e h => ⟨_, by unfold WideElems.rd; rw [h, hkl]; rfl⟩
  rcases MapR.find (w := w) F he hk with ⟨h1, h2, h3⟩ | ⟨j, v0, e0, h1, h2, h3, h4, h5⟩
  · refine ⟨undef, ChangeMaps.setBlock w b (.map (es.push ⟨q.v k, c v, cl⟩) (cl + 1)), ?_, hK _ mod_setb (by simp [ChangeMaps.setBlock]) ⟨mput_ok ho hk, _, _, setb_at hlt, ⟨by simp; omega, MapKept.stamped_push F.stamped h3, ?_⟩, ?_⟩⟩
    · simp [Instr.mapUpdate, run_underlying ht, MapKept.run_getObj_map hb, q.kd.check w false hkl, h1, MapKept.run_setObj_map _ hb, Result.andThen, ChangeMaps.setBlock]
    · intro x hx
      simp only [Array.toList_push, List.mem_append, List.mem_singleton] at hx
      rcases hx with hx | rfl
      · exact F.reads x hx
      · exact hrd _ rfl
    · have hany : l.any (fun p => decide (p.1 = k)) = false := by
        rw [List.any_eq_false]
        intro p hp
        simpa using h2 p hp
      unfold mput
      rw [hany, if_neg (by decide), Array.toList_push, List.map_append, he, List.map_append]; rfl
  · have hj : es[j]? = some e0 := by simpa using h3
    refine ⟨undef, ChangeMaps.setBlock w b (.map (es.modify j fun e' => { e' with key := q.v k, val := c v }) cl), ?_, hK _ mod_setb (by simp [ChangeMaps.setBlock]) ⟨mput_ok ho hk, _, _, setb_at hlt, ⟨by simpa using F.size, MapKept.stamped_modify F.stamped _ _ (fun _ _ => rfl) (fun e' _ he' => by rw [hj] at he'; cases he'; exact h4.symm), ?_⟩, ?_⟩⟩
    · simp [Instr.mapUpdate, run_underlying ht, MapKept.run_getObj_map hb, q.kd.check w false hkl, h1, hj, h4, q.kd.stays w hkl, MapKept.run_setObj_map _ hb, Result.andThen, ChangeMaps.setBlock]
    · intro x hx
      rcases MapFrom.mem_modify hx with hx | ⟨e', _, rfl⟩
      · exact F.reads x hx
      · exact hrd _ rfl
    · have hn : (l.map (·.1)).Nodup := (MapR.keys ⟨ho, es, cl, hb, F, he⟩).1
      have hany : l.any (fun p => decide (p.1 = k)) = true := by
        rw [List.any_eq_true]
        exact ⟨(k, v0), List.mem_of_getElem? h2, by simp⟩
      unfold mput
      rw [hany, if_pos rfl, Array.toList_modify]
      apply List.ext_getElem?
      intro i
      have hei : (es.toList.map fun e => (e.key, e.val))[i]? = (l.map fun p => (q.v p.1, c p.2))[i]? := by rw [he]
      rw [List.getElem?_map, List.getElem?_map] at hei
      rw [List.getElem?_map, List.getElem?_map, List.getElem?_map, List.getElem?_modify]
      simp only [Option.map_eq_map]
      by_cases hij : j = i
      · subst hij
        rw [h3, h2]
        simp
      · simp only [if_neg hij]
        cases hl : l[i]? with
        | none => rw [hl] at hei; simpa using hei
        | some p =>
          have hne : p.1 ≠ k := by
            intro e
            have h6 : (l.map (·.1))[i]? = (l.map (·.1))[j]? := by rw [List.getElem?_map, List.getElem?_map, hl, h2]; simp [e]
            exact hij ((List.getElem?_inj (by rw [List.length_map]; exact (List.getElem?_eq_some_iff.1 hl).1) hn).1 h6).symm
          rw [hl] at hei
          simp only [Option.map_some] at hei ⊢
          rw [if_neg hne]
          simpa using hei
theorem mlook {t e : Nat} (ht : P.underlying t = some (.map q.t e)) {w : World} {b : Nat} {l : List (κ × α)} (h : MapR q c w b l) {k : κ} (hk : q.ok k) {v : α} (hv : mget l k = some v) {ok : Bool} {K : Value → Prop} (hK : K (if ok then .tuple #[c v, .bool true] else c v)) :
    ReadW P (Instr.lookup t (.map (some b)) (q.v k) ok) w K := by
  obtain ⟨kl, hkl⟩ := q.key k hk
  have hn := h.keys.1
  obtain ⟨ho, es, cl, hb, F, he⟩ := h
  rcases MapR.find (w := w) F he hk with ⟨h1, h2, h3⟩ | ⟨j, v0, e0, h1, h2, h3, h4, h5⟩
  · rw [find_none h2] at hv; cases hv
  · rw [find_some hn h2] at hv
    cases hv
    refine ⟨_, ?_, hK⟩
    simp [Instr.lookup, run_underlying ht, MapKept.run_getObj_map hb, q.kd.check w _ hkl, h1, Result.andThen]
theorem mlook0 {t e : Nat} (ht : P.underlying t = some (.map q.t e)) {w : World} {b : Nat} {l : List (κ × α)} (h : MapR q c w b l) {k : κ} (hk : q.ok k) (hv : mget l k = none) {z : Value} (hz : (zeroValue e).run P w = .ok z w) {ok : Bool} {K : Value → Prop} (hK : K (if ok then .tuple #[z, .bool false] else z)) :
    ReadW P (Instr.lookup t (.map (some b)) (q.v k) ok) w K := by
  obtain ⟨kl, hkl⟩ := q.key k hk
  have hn := h.keys.1
  obtain ⟨ho, es, cl, hb, F, he⟩ := h
  rcases MapR.find (w := w) F he hk with ⟨h1, h2, h3⟩ | ⟨j, v0, e0, h1, h2, h3, h4, h5⟩
  · refine ⟨_, ?_, hK⟩
    simp [Instr.lookup, run_underlying ht, MapKept.run_getObj_map hb, q.kd.check w _ hkl, h1, hz, Result.andThen]
  · rw [find_some hn h2] at hv; cases hv
theorem mdel_is {l : List (κ × α)} (hn : (l.map (·.1)).Nodup) {j : Nat} {k : κ} {v : α} (h : l[j]? = some (k, v)) : mdel l k = l.eraseIdx j := by
  unfold mdel
  induction l generalizing j with
  | nil => simp at h
  | cons p l ih =>
    rw [List.map_cons, List.nodup_cons] at hn
    cases j with
    | zero =>
      simp only [List.getElem?_cons_zero, Option.some.injEq] at h
      subst h
      rw [List.filter_cons_of_neg (by simp), List.eraseIdx_cons_zero]
      refine List.filter_eq_self.2 fun x hx => ?_
      simp only [Bool.not_eq_true', decide_eq_false_iff_not]
      intro e
      exact hn.1 (by rw [← e]; exact List.mem_map.2 ⟨x, hx, rfl⟩)
    | succ j =>
      rw [List.getElem?_cons_succ] at h
      have hne : p.1 ≠ k := fun e => hn.1 (by rw [e]; exact List.mem_map.2 ⟨(k, v), List.mem_of_getElem? h, rfl⟩)
      rw [List.filter_cons_of_pos (by simpa using hne), List.eraseIdx_cons_succ, ih hn.2 h]
theorem mdelete {t e ty : Nat} (ht : P.underlying t = some (.map q.t e)) {w : World} {b : Nat} {l : List (κ × α)} (h : MapR q c w b l) {k : κ} (hk : q.ok k) {K : Value → World → Prop}
    (hK : ∀ w', Mod (· = b) w w' → w'.heap.size = w.heap.size → MapR q c w' b (mdel l k) → K (.tuple #[]) w') : RunW P (Builtin.delete_ #[t, q.t] ty #[.map (some b), q.v k]) w K := by
  obtain ⟨kl, hkl⟩ := q.key k hk
  have hlt := h.lt
  have hn := h.keys.1
  obtain ⟨ho, es, cl, hb, F, he⟩ := h
  rcases MapR.find (w := w) F he hk with ⟨h1, h2, h3⟩ | ⟨j, v0, e0, h1, h2, h3, h4, h5⟩
  · refine ⟨.tuple #[], ChangeMaps.setBlock w b (.map es cl), ?_, hK _ mod_setb (by simp [ChangeMaps.setBlock]) ⟨fun p hp => ho p (List.mem_filter.1 hp).1, _, _, setb_at hlt, F, ?_⟩⟩
    · simp [Builtin.delete_, run_underlying ht, MapKept.run_getObj_map hb, q.kd.check w _ hkl, h1, MapKept.run_setObj_map _ hb, Result.andThen, ChangeMaps.setBlock]
    · unfold mdel
      rw [he, List.filter_eq_self.2 (fun p hp => by simpa using h2 p hp)]
  · have hjl : j < es.toList.length := (List.getElem?_eq_some_iff.1 h3).1
    have hjs : j < es.size := by simpa using hjl
    have hsub : (es.eraseIdxIfInBounds j).toList = es.toList.eraseIdx j := by
      unfold Array.eraseIdxIfInBounds
      rw [dif_pos hjs]
      simp
    refine ⟨.tuple #[], ChangeMaps.setBlock w b (.map (es.eraseIdxIfInBounds j) cl), ?_, hK _ mod_setb (by simp [ChangeMaps.setBlock]) ⟨fun p hp => ho p (List.mem_filter.1 hp).1, _, _, setb_at hlt, ⟨Nat.le_trans (MapFrom.size_erase es j) F.size, MapKept.stamped_erase F.stamped j, ?_⟩, ?_⟩⟩
    · simp [Builtin.delete_, run_underlying ht, MapKept.run_getObj_map hb, q.kd.check w _ hkl, h1, MapKept.run_setObj_map _ hb, Result.andThen, ChangeMaps.setBlock]
    · intro x hx
      rw [hsub] at hx
      exact F.reads x ((List.eraseIdx_sublist _ _).subset hx)
    · have hd := mdel_is hn h2
      rw [hsub, hd, ChangeMaps.map_eraseIdx, he, ChangeMaps.map_eraseIdx]
end
/-- As the kit's contracts ask it. -/
theorem MapR.owns {α : Type} {c : α → Value} {w : World} {b : Nat} {l : List (Str × α)} (h : MapR kcS c w b l) : ∃ D : DataW Unit, w.ownsMap P 9 mR b l.length D ∧ (strKeys D).Perm (l.map (·.1)) ∧ Maps.size D = l.length := by
  obtain ⟨ho, es, cl, hb, F, he⟩ := h
  have hlen : es.size = l.length := by
    have := congrArg List.length he
    simpa using this
  have hp := WideShapes.sorted_perm (es.toList.map (WideElems.rg P 9 mR))
  refine ⟨_, ⟨es, cl, hb, F, by omega, rfl⟩, ?_, ?_⟩
  · show ((es.toList.map (WideElems.rg P 9 mR)).foldr DataW.insert []).map (fun p => strOf p.1) |>.Perm _
    refine (hp.map _).trans ?_
    rw [List.map_map]
    refine List.Perm.of_eq ?_
    apply List.ext_getElem?
    intro i
    have hi : (es.toList.map fun e => (e.key, e.val))[i]? = (l.map fun p => (kcS.v p.1, c p.2))[i]? := by rw [he]
    rw [List.getElem?_map, List.getElem?_map] at hi ⊢
    cases hl : l[i]? with
    | none =>
      rw [hl] at hi
      cases hx : es.toList[i]? with
      | none => rfl
      | some e => rw [hx] at hi; cases hi
    | some p =>
      rw [hl] at hi
      cases hx : es.toList[i]? with
      | none => rw [hx] at hi; cases hi
      | some e =>
        rw [hx] at hi
        simp only [Option.map_some, Option.some.injEq, Prod.mk.injEq] at hi
        have hk : e.key = sV p.1 := hi.1
        have hkey := key_sV (ho p (List.mem_of_getElem? hl))
        simp only [Option.map_some, Function.comp_def, WideElems.rg, WideElems.rd, hk, hkey, mR, Option.bind_some, Option.map_some, Option.getD_some, strOf]
  · show ((es.toList.map (WideElems.rg P 9 mR)).foldr DataW.insert []).length = _
    rw [hp.length_eq, List.length_map, Array.length_toList, hlen]
end Go.Proofs.YtffjccofglikhaaGreat
