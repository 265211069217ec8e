/-
  A call's arguments as data: what a slice that came in reads as; that it reads so behind the call.
-/
import Derived.Test.YtffjccofglikhaaGreatCEnd
import Derived.Test.YtffjccofglikhaaGreatCRec
import Derived.Deep.Slices
import Derived.ChangeStays
import Derived.ChangeBears
namespace Go.Proofs.YtffjccofglikhaaGreat
open Go Go.RowKit Go.ChangeShapes Go.WideShapes Go.ChangeAt

section
variable {H : Type} {enc : TypeId × Value → H} {P : Program} {w : World} {base : Nat} {spare : Nat → Bool} {held : Bool}
theorem len3 {α : Type} {l : List α} (h : l.length = 3) : ∃ a b c, l = [a, b, c] := by
  match l, h with
  | [a, b, c], _ => exact ⟨a, b, c, rfl⟩
theorem len5 {α : Type} {l : List α} (h : l.length = 5) : ∃ a b c d e, l = [a, b, c, d, e] := by
  match l, h with
  | [a, b, c, d, e], _ => exact ⟨a, b, c, d, e, rfl⟩
theorem add_add (a : Addr) (i j : Nat) : (a.add i).add j = a.add (i + j) := by
  by_cases h1 : i = 0
  · subst h1; simp [Addr.add]
  · by_cases h2 : j = 0
    · subst h2; simp [Addr.add]
    · have h3 : ¬ i + j = 0 := by omega
      simp only [Addr.add, h1, h2, h3, if_false, Nat.add_assoc]
theorem slice_form {r : Reach} {b0 : Nat} {t e : TypeId} {v : Value} (ht : P.underlying t = some (.slice e)) (h : Value.okWide P w r b0 t v) : (v = .slice none 0 0) ∨ ∃ a n c, v = .slice (some a) n c := by
  unfold Value.okWide at h
  rw [ht] at h
  simp only at h
  unfold Cell.okWide Cell.ok at h
  rw [ht] at h
  cases v <;> simp only at h
  case slice a n c =>
    cases a with
    | none =>
      left
      split at h <;> first | contradiction | rfl | skip
      all_goals simp_all
    | some a => exact .inr ⟨a, n, c, rfl⟩
theorem slr_of {α : Type} {c : Codec α} {Good : α → Prop} {r : Reach} {b0 : Nat} {t e : TypeId} {v : Value} {d : DataW H} {ps : List MemPlace} (ht : P.underlying t = some (.slice e)) (hk : P.cellsOf e = c.k)
    (h1 : ∀ n cs x, DataW.trod enc P w base spare held n e cs = some x → ∃ a, cs = c.cells a ∧ Good a) (hv : Value.okWide P w r b0 t v) (h : DataW.Trod enc P w base spare held t v d ps) : ∃ L, SlR c w v L ∧ ∀ a ∈ L, Good a := by
  obtain ⟨fuel, h⟩ := h
  rcases slice_form ht hv with rfl | ⟨a, len, cap, rfl⟩
  · exact ⟨[], SlR.nil w, nofun⟩
  · rcases Go.Deep.open_slice ht h with ⟨h2, _⟩ | ⟨a', len', cap', m, n, D, Pl, h2, hb, hlc, hcm, hm, _, hat⟩
    · have h2 : [Value.slice (some a) len cap] = [.slice none 0 0] := h2
      simp at h2
    · have h2 : [Value.slice (some a) len cap] = [.slice (some a') len' cap'] := h2
      simp only [List.cons.injEq, Value.slice.injEq, Option.some.injEq, and_true] at h2
      obtain ⟨rfl, rfl, rfl⟩ := h2
      have hlm : len ≤ m := by rw [hm]; split <;> omega
      have hex : ∀ i, i < len → ∃ x : α, Good x ∧ ∀ j u, (c.cells x)[j]? = some u → w.cell? (a.add (i * c.k + j)) = some u := by
        intro i hi
        obtain ⟨cs, h3, h4⟩ := hat i (by omega)
        obtain ⟨x, rfl, hg⟩ := h1 _ _ _ h4
        refine ⟨x, hg, fun j u hu => ?_⟩
        rw [hk] at h3
        obtain ⟨_, h5, h6⟩ := World.cells?_some h3
        have hj := (List.getElem?_eq_some_iff.1 hu).1
        rw [h5] at hj
        have := h6 j hj
        rw [hu] at this
        have e1 : (a.add (i * c.k)).add j = a.add (i * c.k + j) := add_add a _ _
        rwa [e1] at this
      have hL : ∃ L : List α, L.length = len ∧ ∀ i x, L[i]? = some x → Good x ∧ ∀ j u, (c.cells x)[j]? = some u → w.cell? (a.add (i * c.k + j)) = some u := by
        clear hat hm hlc hcm h hb
        have : ∀ n, n ≤ len → ∃ L : List α, L.length = n ∧ ∀ i x, L[i]? = some x → Good x ∧ ∀ j u, (c.cells x)[j]? = some u → w.cell? (a.add (i * c.k + j)) = some u := by
          intro n
          induction n with
          | zero => intro _; exact ⟨[], rfl, fun i x h => by simp at h⟩
          | succ n ih =>
            intro hn
            obtain ⟨L, hl, hL⟩ := ih (by omega)
            obtain ⟨x, hx⟩ := hex n (by omega)
            refine ⟨L ++ [x], by simp [hl], fun i y hy => ?_⟩
            rw [List.getElem?_append] at hy
            split at hy
            · exact hL i y hy
            · rename_i hlt
              have hi : i = n := by
                by_cases e : i - L.length = 0
                · omega
                · rw [List.getElem?_eq_none (by simp; omega)] at hy; cases hy
              subst hi
              rw [hl, Nat.sub_self] at hy
              simp only [List.getElem?_cons_zero, Option.some.injEq] at hy
              subst hy
              exact hx
        exact this len (Nat.le_refl _)
      obtain ⟨L, hl, hL⟩ := hL
      refine ⟨L, ⟨some a, len, cap, rfl, hl.symm, hlc, hcm, ?_⟩, fun x hx => by obtain ⟨i, hi⟩ := List.getElem?_of_mem hx; exact (hL i x hi).1⟩
      by_cases hne : L = []
      · exact .inl hne
      · right
        have h0 : 0 < L.length := List.length_pos_iff.2 hne
        have hc0 : ∃ u, (c.cells L[0])[0]? = some u := ⟨_, getE (by rw [c.len]; exact c.pos)⟩
        obtain ⟨u, hu⟩ := hc0
        have hcell := (hL 0 _ (getE h0)).2 0 u hu
        obtain ⟨b, o, sp⟩ := a
        have hsp : sp = none := by
          cases sp with
          | none => rfl
          | some s =>
            unfold World.cell? at hcell
            split at hcell
            · simp [Addr.add] at hcell
            · cases hcell
        subst hsp
        have hblt : b < w.heap.size := by
          refine Classical.byContradiction fun hn => ?_
          unfold World.cell? at hcell
          have e : w.heap[b]? = none := by simp; omega
          simp [Addr.add, e] at hcell
        refine ⟨b, o, rfl, hblt, fun j x hx => ?_⟩
        -- the cell j of the row is the cell j % k of the element j / k
        have hkp := c.pos
        have hjl : j < L.length * c.k := by have := (List.getElem?_eq_some_iff.1 hx).1; rw [flat_len] at this; exact this
        have hdl : j / c.k < L.length := Nat.div_lt_of_lt_mul (by rw [Nat.mul_comm]; exact hjl)
        have hfa := flat_at c L (j / c.k) _ (getE hdl)
        have hml := Nat.mod_lt j hkp
        have hjj : j / c.k * c.k + j % c.k = j := by rw [Nat.mul_comm]; exact Nat.div_add_mod j c.k
        have hcx : (c.cells L[j / c.k])[j % c.k]? = some x := by
          rw [← hfa, List.getElem?_take, if_pos hml, List.getElem?_drop, hjj]; exact hx
        have := (hL _ _ (getE hdl)).2 (j % c.k) x hcx
        rw [hjj] at this
        rwa [ad] at this
/-- Fields, one by one. -/
theorem trod_parts {t : TypeId} {fs : Array Field} {n : Nat} {cs : List Value} {x : DataW H × List MemPlace} {l : List (Bool × Nat × Nat)} (ht : P.underlying t = some (.struct fs)) (hl : (fs.toList.map fun f => (decide (f.name ≠ "_"), f.type, f.offset)) = l) (h : DataW.trod enc P w base spare held n t cs = some x) :
    cs.length = P.cellsOf t ∧ ∃ m, ∀ (i : Nat) (b : Bool) (ty o : Nat), l[i]? = some (b, ty, o) → ∃ y, DataW.trod enc P w base spare held m ty ((cs.drop o).take (P.cellsOf ty)) = some y := by
  obtain ⟨xs, m, _, _, h1, h2, h3⟩ := DataW.trod_struct ht h
  refine ⟨h1, m, fun i b ty o hi => ?_⟩
  rw [← hl, List.getElem?_map] at hi
  cases hf : fs.toList[i]? with
  | none => rw [hf] at hi; cases hi
  | some f =>
    rw [hf] at hi
    simp only [Option.map_some, Option.some.injEq, Prod.mk.injEq] at hi
    obtain ⟨_, rfl, rfl⟩ := hi
    have hif : fs[i]? = some f := by simpa using hf
    rw [h3 i f hif]
    have hlt : i < xs.length := by rw [h2]; exact (Array.getElem?_eq_some_iff.1 hif).1
    exact ⟨_, getE hlt⟩
/-- What was read is read behind, whatever new blocks there are. -/
theorem trod_mod {w' : World} {sp' : Nat → Bool} (K : Kids P (· < P.types.size)) (hsz : ∀ {t e : TypeId}, t < P.types.size → P.underlying t = some (.slice e) → 0 < P.cellsOf e) (hm : Mod no w w') {t : TypeId} {v : Value} {d : DataW H} {ps : List MemPlace} (ht : t < P.types.size)
    (h : DataW.Trod enc P w base (fun _ => true) true t v d ps) (hlt : ∀ p ∈ ps, p.block < w.heap.size) (hs : ∀ p ∈ ps, sp' p.block = true) : DataW.Trod enc P w' base sp' true t v d ps := by
  obtain ⟨fuel, h⟩ := h
  refine ⟨fuel, DataW.trod_stays (T := (· < P.types.size)) K hsz (fun hh => by cases hh) ht h (fun p hp => ?_) hs⟩
  have hb := hm.at (hlt p hp) fun f => f
  cases p with
  | cell b o => exact World.cell?_of_block (w := w) (a := ⟨b, o, none⟩) hb
  | map b => exact hb
theorem trodAll_mod {w' : World} {sp' : Nat → Bool} (K : Kids P (· < P.types.size)) (hsz : ∀ {t e : TypeId}, t < P.types.size → P.underlying t = some (.slice e) → 0 < P.cellsOf e) (hm : Mod no w w') : ∀ {ts : List TypeId} {vs : List Value} {ds : List (DataW H)} {ps : List MemPlace}, (∀ t ∈ ts, t < P.types.size) →
    DataW.TrodAll enc P w base (fun _ => true) true ts vs ds ps → (∀ p ∈ ps, p.block < w.heap.size) → (∀ p ∈ ps, sp' p.block = true) → DataW.TrodAll enc P w' base sp' true ts vs ds ps
  | [], vs, ds, ps, _, h, _, _ => by
    cases vs <;> cases ds <;> first | exact h | exact h.elim
  | t :: ts, vs, ds, ps, ht, h, hlt, hs => by
    cases vs with
    | nil => exact h.elim
    | cons v vs => cases ds with
      | nil => exact h.elim
      | cons d ds =>
        obtain ⟨p, q, h1, h2, rfl⟩ := h
        exact ⟨p, q, trod_mod K hsz hm (ht t (by simp)) h1 (fun x hx => hlt x (by simp [hx])) (fun x hx => hs x (by simp [hx])), trodAll_mod K hsz hm (fun x hx => ht x (by simp [hx])) h2 (fun x hx => hlt x (by simp [hx])) (fun x hx => hs x (by simp [hx])), rfl⟩
end
noncomputable def slOk : Bool := (List.range P.types.size).all fun t => match P.underlying t with | some (.slice e) => Nat.blt 0 (P.cellsOf e) | _ => true
theorem slOk_is : slOk = true := by kernel_rfl
theorem slPos {t e : TypeId} (ht : t < P.types.size) (hu : P.underlying t = some (.slice e)) : 0 < P.cellsOf e := by
  have := List.all_eq_true.1 slOk_is t (List.mem_range.2 ht)
  rw [hu] at this
  simpa using this
theorem kids : Kids P (· < P.types.size) := kids_rows (by kernel_rfl) (by kernel_rfl)
section
variable {H : Type} {enc : TypeId × Value → H} {w : World} {base : Nat} {spare : Nat → Bool} {held : Bool}
theorem i64_rng {n : Int} (h : (Lit.int .i64 n).wf = true) : i64R n := by
  simp only [Lit.wf, Bool.and_eq_true, decide_eq_true_eq] at h
  exact h
theorem raw_open {n : Nat} {cs : List Value} {x : DataW H × List MemPlace} (h : DataW.trod enc P w base spare held n 27 cs = some x) : ∃ r : Raw, cs = rawC r ∧ i64R r.kind ∧ i64R r.n := by
  obtain ⟨hl, m, hp⟩ := trod_parts raw_u raw_f h
  have c3 : P.cellsOf 27 = 3 := by kernel_rfl
  have c1 : P.cellsOf 3 = 1 := by kernel_rfl
  have c2 : P.cellsOf 2 = 1 := by kernel_rfl
  have c4 : P.cellsOf 9 = 1 := by kernel_rfl
  rw [c3] at hl
  obtain ⟨y1, h1⟩ := hp 0 true 3 0 rfl
  obtain ⟨y2, h2⟩ := hp 1 true 2 1 rfl
  obtain ⟨y3, h3⟩ := hp 2 true 9 2 rfl
  rw [c1] at h1
  rw [c2] at h2
  rw [c4] at h3
  obtain ⟨k, e1, _, w1⟩ := DataW.trod_int und_i64a h1
  obtain ⟨n, e2, _, w2⟩ := DataW.trod_int und_i64b h2
  obtain ⟨s, e3, _, _⟩ := DataW.trod_string strT h3
  obtain ⟨a, b, c, rfl⟩ := len3 hl
  have e1 : [a] = [Value.int .i64 k] := e1
  have e2 : [b] = [Value.int .i64 n] := e2
  have e3 : [c] = [Value.string s] := e3
  cases e1
  cases e2
  cases e3
  exact ⟨⟨k, n, s.data.toList⟩, rfl, i64_rng w1, i64_rng w2⟩
theorem rec_open {n : Nat} {cs : List Value} {x : DataW H × List MemPlace} (h : DataW.trod enc P w base spare held n 30 cs = some x) : ∃ r : Rec, cs = recC r ∧ i64R r.val.kind ∧ i64R r.val.n := by
  obtain ⟨hl, m, hp⟩ := trod_parts rec_u rec_f h
  have c5 : P.cellsOf 30 = 5 := by kernel_rfl
  have c3 : P.cellsOf 27 = 3 := by kernel_rfl
  have c1 : P.cellsOf 4 = 1 := by kernel_rfl
  have c4 : P.cellsOf 9 = 1 := by kernel_rfl
  rw [c5] at hl
  obtain ⟨y1, h1⟩ := hp 0 true 9 0 rfl
  obtain ⟨y2, h2⟩ := hp 1 true 4 1 rfl
  obtain ⟨y3, h3⟩ := hp 2 true 27 2 rfl
  rw [c4] at h1
  rw [c1] at h2
  rw [c3] at h3
  obtain ⟨s, e1, _, _⟩ := DataW.trod_string strT h1
  obtain ⟨b, e2, _⟩ := DataW.trod_bool und_bool h2
  obtain ⟨r, e3, k1, k2⟩ := raw_open h3
  obtain ⟨a0, a1, a2, a3, a4, rfl⟩ := len5 hl
  have e1 : [a0] = [Value.string s] := e1
  have e2 : [a1] = [Value.bool b] := e2
  have e3 : [a2, a3, a4] = [iV r.kind, iV r.n, sV r.s] := e3
  cases e1
  cases e2
  cases e3
  exact ⟨⟨s.data.toList, b, r⟩, rfl, k1, k2⟩
end
end Go.Proofs.YtffjccofglikhaaGreat
