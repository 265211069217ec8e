/-
  Memory, as the walks speak of it.
-/
import Derived.Test.YtffjccofglikhaaGreatLay
import Derived.Laws.AppendOwnNone
namespace Go.Proofs.YtffjccofglikhaaGreat
open Go Go.RowKit

/-- But for the blocks of S the world is as it was, and may have grown. -/
def Mod (S : Nat → Prop) (w w' : World) : Prop := w'.os = w.os ∧ w'.tape = w.tape ∧ w'.output = w.output ∧ w.heap.size ≤ w'.heap.size ∧ ∀ k, k < w.heap.size → ¬ S k → w'.heap[k]? = w.heap[k]?
def no : Nat → Prop := fun _ => False
theorem Mod.refl (S : Nat → Prop) (w : World) : Mod S w w := ⟨rfl, rfl, rfl, Nat.le_refl _, fun _ _ _ => rfl⟩
theorem Mod.tr {S T : Nat → Prop} {a b c : World} (h : Mod S a b) (k : Mod T b c) (hT : ∀ i, i < a.heap.size → T i → S i) : Mod S a c :=
  ⟨k.1.trans h.1, k.2.1.trans h.2.1, k.2.2.1.trans h.2.2.1, Nat.le_trans h.2.2.2.1 k.2.2.2.1, fun i hi hn => (k.2.2.2.2 i (Nat.lt_of_lt_of_le hi h.2.2.2.1) (fun ht => hn (hT i hi ht))).trans (h.2.2.2.2 i hi hn)⟩
theorem Mod.trn {S : Nat → Prop} {a b c : World} (h : Mod S a b) (k : Mod no b c) : Mod S a c := h.tr k fun _ _ h => h.elim
theorem Mod.mono {S T : Nat → Prop} {a b : World} (h : Mod S a b) (hT : ∀ i, i < a.heap.size → S i → T i) : Mod T a b :=
  ⟨h.1, h.2.1, h.2.2.1, h.2.2.2.1, fun i hi hn => h.2.2.2.2 i hi fun hs => hn (hT i hi hs)⟩
theorem Mod.size {S : Nat → Prop} {a b : World} (h : Mod S a b) : a.heap.size ≤ b.heap.size := h.2.2.2.1
theorem Mod.at {S : Nat → Prop} {a b : World} (h : Mod S a b) {k : Nat} (hk : k < a.heap.size) (hn : ¬ S k) : b.heap[k]? = a.heap[k]? := h.2.2.2.2 k hk hn
/-- A store into a block that is newer than the beginning is nothing to the beginning. -/
theorem Mod.new {S : Nat → Prop} {a b c : World} {k : Nat} (h : Mod S a b) (k1 : Mod (· = k) b c) (hk : a.heap.size ≤ k) : Mod S a c := h.tr k1 fun i hi e => by omega
theorem Mod.own {S : Nat → Prop} {a b c : World} {v : Value} (h : Mod S a b) (k1 : Mod (fun k => v.ownBlock = some k) b c) (hk : ∀ k, v.ownBlock = some k → a.heap.size ≤ k) : Mod S a c := h.tr k1 fun i hi e => by have := hk i e; omega

/-- A block, whole. -/
def Blk (w : World) (b : Nat) (e : TypeId) (cs : List Value) : Prop := w.heap[b]? = some (.cells cs.toArray e (0, 0))
theorem Blk.lt {w : World} {b : Nat} {e : TypeId} {cs : List Value} (h : Blk w b e cs) : b < w.heap.size := (Array.getElem?_eq_some_iff.1 h).1
theorem Blk.mod {S : Nat → Prop} {w w' : World} {b : Nat} {e : TypeId} {cs : List Value} (h : Blk w b e cs) (m : Mod S w w') (hn : ¬ S b) : Blk w' b e cs := (m.at h.lt hn).trans h
theorem Blk.cell {w : World} {b : Nat} {e : TypeId} {cs : List Value} (h : Blk w b e cs) (j : Nat) : w.cell? ⟨b, j, none⟩ = cs[j]? := by
  unfold Blk at h
  simp [World.cell?, h]
/-- Cells in a row. -/
def Rd (w : World) (b o : Nat) (cs : List Value) : Prop := ∀ j v, cs[j]? = some v → w.cell? ⟨b, o + j, none⟩ = some v
theorem Blk.rd {w : World} {b : Nat} {e : TypeId} {cs : List Value} (h : Blk w b e cs) (o k : Nat) : Rd w b o ((cs.drop o).take k) := by
  intro j v hv
  rw [h.cell]
  rw [List.getElem?_take] at hv
  split at hv
  · rwa [List.getElem?_drop] at hv
  · cases hv
theorem Rd.mod {S : Nat → Prop} {w w' : World} {b o : Nat} {cs : List Value} (h : Rd w b o cs) (m : Mod S w w') (hb : b < w.heap.size) (hn : ¬ S b) : Rd w' b o cs := fun j v hv => by
  rw [World.cell?_of_block (w := w) (a := ⟨b, o + j, none⟩) (m.at hb hn)]; exact h j v hv
theorem Rd.part {w : World} {b o : Nat} {cs : List Value} (h : Rd w b o cs) (i k : Nat) : Rd w b (o + i) ((cs.drop i).take k) := by
  intro j v hv
  rw [List.getElem?_take] at hv
  split at hv
  · rw [List.getElem?_drop] at hv
    have := h (i + j) v hv
    rwa [show o + (i + j) = o + i + j by omega] at this
  · cases hv

/-! ### Steps -/
theorem ld1 {w : World} {b o : Nat} {e : TypeId} {cs : List Value} {v : Value} {K : Value → Prop} (hb : Blk w b e cs) (hv : cs[o]? = some v) (hk : K v) : Load1 w ⟨b, o, none⟩ K := ⟨v, by rw [hb.cell]; exact hv, hk⟩
theorem ld1r {w : World} {b o j : Nat} {cs : List Value} {v : Value} {K : Value → Prop} (hb : Rd w b o cs) (hv : cs[j]? = some v) (hk : K v) : Load1 w ⟨b, o + j, none⟩ K := ⟨v, hb j v hv, hk⟩
theorem ldN {w : World} {b o k : Nat} {cs : List Value} {K : Value → Prop} (hb : Rd w b o cs) (hl : cs.length = k) (hk : K (.agg cs.toArray)) : LoadN w ⟨b, o, none⟩ k K := ⟨cs, hl, fun j v hv => by rw [ad]; exact hb j v hv, hk⟩
theorem ldB {w : World} {b k : Nat} {e : TypeId} {cs : List Value} {K : Value → Prop} (hb : Blk w b e cs) (hl : cs.length = k) (hk : K (.agg cs.toArray)) : LoadN w ⟨b, 0, none⟩ k K := ⟨cs, hl, fun j v hv => by rw [ad, Nat.zero_add, hb.cell]; exact hv, hk⟩
theorem mod_row {w : World} {b : Nat} {cs : Array Value} : Mod (· = b) w (w.setRow b cs) := ⟨rfl, rfl, rfl, by simp [World.setRow], fun k _ hk => setRow_other w b k cs hk⟩
theorem st {w : World} {b o k : Nat} {e : TypeId} {cs vs : List Value} {K : World → Prop} (hb : Blk w b e cs) (hl : vs.length = k) (ho : o + k ≤ cs.length) (h1 : ∀ v ∈ vs, v.oneCell' = true)
    (hk : ∀ w', Mod (· = b) w w' → w'.heap.size = w.heap.size → Blk w' b e (cs.take o ++ vs ++ cs.drop (o + k)) → K w') : StoreW w ⟨b, o, none⟩ k vs K := by
  refine ⟨_, e, hl, hb, rfl, by simp [hl]; omega, h1, hk _ mod_row (by simp [World.setRow]) ?_⟩
  have := setRow_heap w b cs.toArray (spl cs.toArray o vs) e (0, 0) hb
  unfold Blk
  rw [this]
  simp [spl, hl]
theorem st1 {w : World} {b o : Nat} {e : TypeId} {cs : List Value} {v : Value} {K : World → Prop} (hb : Blk w b e cs) (ho : o < cs.length) (h1 : v.oneCell' = true)
    (hk : ∀ w', Mod (· = b) w w' → w'.heap.size = w.heap.size → Blk w' b e (cs.set o v) → K w') : StoreW w ⟨b, o, none⟩ 1 [v] K := by
  refine st hb rfl (by omega) (by simpa using h1) fun w' m hs hb' => hk w' m hs ?_
  have : cs.take o ++ [v] ++ cs.drop (o + 1) = cs.set o v := by
    rw [List.set_eq_take_append_cons_drop, if_pos ho]; simp
  rwa [this] at hb'
theorem mod_alloc {w : World} {o : Obj} : Mod no w (w.alloc o) := ⟨rfl, rfl, rfl, by simp, fun k hk _ => Below.heap_alloc w o k hk⟩
theorem al {w : World} {e : TypeId} {cs : Array Value} {K : Addr → World → Prop} (hk : ∀ b w', b = w.heap.size → Mod no w w' → w'.heap.size = w.heap.size + 1 → Blk w' b e cs.toList → K ⟨b, 0, none⟩ w') : AllocW w e cs K := by
  refine ⟨hk _ _ rfl mod_alloc (by simp) ?_⟩
  show (w.heap.push _)[w.heap.size]? = _
  simp
theorem mod_drew {w : World} : Mod no w w.drew := ⟨rfl, rfl, rfl, Nat.le_refl _, fun _ _ _ => rfl⟩

/-! ### Data without pointers, as cells -/
structure Codec (α : Type) where
  k : Nat
  cells : α → List Value
  len : ∀ x, (cells x).length = k
  one : ∀ x, ∀ v ∈ cells x, v.oneCell' = true
  pos : 0 < k
def flat {α : Type} (c : Codec α) (xs : List α) : List Value := xs.flatMap c.cells
section
variable {α : Type} (c : Codec α)
theorem flat_len (xs : List α) : (flat c xs).length = xs.length * c.k := by
  unfold flat
  induction xs with
  | nil => simp
  | cons x xs ih => rw [List.flatMap_cons, List.length_append, ih, c.len, List.length_cons, Nat.add_mul]; omega
theorem flat_one (xs : List α) : ∀ v ∈ flat c xs, v.oneCell' = true := by
  intro v hv
  obtain ⟨x, _, h⟩ := List.mem_flatMap.1 hv
  exact c.one x v h
theorem flat_append (xs ys : List α) : flat c (xs ++ ys) = flat c xs ++ flat c ys := List.flatMap_append
theorem flat_at (xs : List α) (i : Nat) (x : α) (h : xs[i]? = some x) : ((flat c xs).drop (i * c.k)).take c.k = c.cells x := by
  induction xs generalizing i with
  | nil => simp at h
  | cons y ys ih =>
    unfold flat at *
    rw [List.flatMap_cons]
    cases i with
    | zero =>
      simp only [List.getElem?_cons_zero, Option.some.injEq] at h
      subst h
      rw [Nat.zero_mul, List.drop_zero, List.take_append_of_le_length (by rw [c.len]; exact Nat.le_refl _), List.take_of_length_le (by rw [c.len]; exact Nat.le_refl _)]
    | succ i =>
      rw [List.getElem?_cons_succ] at h
      have e : (i + 1) * c.k = (c.cells y).length + i * c.k := by rw [c.len, Nat.add_mul]; omega
      rw [e, ← List.drop_drop, List.drop_left]
      exact ih i h
/-- A slice's value that reads as a list. -/
def SlR (w : World) (v : Value) (xs : List α) : Prop := ∃ a n cp, v = .slice a n cp ∧ n = xs.length ∧ n ≤ cp ∧ cp ≤ maxLen ∧ (xs = [] ∨ ∃ b o, a = some ⟨b, o, none⟩ ∧ b < w.heap.size ∧ Rd w b o (flat c xs))
variable {c}
theorem SlR.mod {S : Nat → Prop} {w w' : World} {v : Value} {xs : List α} (h : SlR c w v xs) (m : Mod S w w') (hn : ∀ b, v.ownBlock = some b → ¬ S b) : SlR c w' v xs := by
  obtain ⟨a, n, cp, rfl, h1, h2, h3, h4⟩ := h
  refine ⟨a, n, cp, rfl, h1, h2, h3, h4.imp id ?_⟩
  rintro ⟨b, o, rfl, hb, hr⟩
  exact ⟨b, o, rfl, Nat.lt_of_lt_of_le hb m.size, hr.mod m hb (hn b rfl)⟩
theorem SlR.below {S : Nat → Prop} {w w' : World} {v : Value} {xs : List α} (h : SlR c w v xs) (m : Mod S w w') (hS : ∀ k, S k → w.heap.size ≤ k) : SlR c w' v xs := by
  obtain ⟨a, n, cp, rfl, h1, h2, h3, h4⟩ := h
  refine ⟨a, n, cp, rfl, h1, h2, h3, h4.imp id ?_⟩
  rintro ⟨b, o, rfl, hb, hr⟩
  exact ⟨b, o, rfl, Nat.lt_of_lt_of_le hb m.size, hr.mod m hb (fun hs => by have := hS b hs; omega)⟩
theorem SlR.grow {w w' : World} {v : Value} {xs : List α} (h : SlR c w v xs) (m : Mod no w w') : SlR c w' v xs := h.mod m fun _ _ h => h
/-- A slice of one's own, which may be appended to. -/
def Own (c : Codec α) (e : TypeId) (w : World) (v : Value) (xs : List α) : Prop := (v = .slice none 0 0 ∧ xs = []) ∨ ∃ g o cap cur, v = .slice (some ⟨g, o, none⟩) xs.length cap ∧ Blk w g e cur ∧ xs.length ≤ cap ∧ cap ≤ maxLen ∧ o + cap * c.k ≤ cur.length ∧ (cur.drop o).take (xs.length * c.k) = flat c xs
theorem Own.nil (e : TypeId) (w : World) : Own c e w (.slice none 0 0) [] := .inl ⟨rfl, rfl⟩
theorem Own.lt {e : TypeId} {w : World} {v : Value} {xs : List α} (h : Own c e w v xs) : ∀ b, v.ownBlock = some b → b < w.heap.size := by
  intro b hb
  rcases h with ⟨rfl, _⟩ | ⟨g, o, cap, cur, rfl, h2, _⟩
  · cases hb
  · cases hb; exact h2.lt
theorem Own.mod {S : Nat → Prop} {e : TypeId} {w w' : World} {v : Value} {xs : List α} (h : Own c e w v xs) (m : Mod S w w') (hn : ∀ b, v.ownBlock = some b → ¬ S b) : Own c e w' v xs := by
  rcases h with h | ⟨g, o, cap, cur, rfl, h2, rest⟩
  · exact .inl h
  · exact .inr ⟨g, o, cap, cur, rfl, h2.mod m (hn g rfl), rest⟩
theorem Own.grow {e : TypeId} {w w' : World} {v : Value} {xs : List α} (h : Own c e w v xs) (m : Mod no w w') : Own c e w' v xs := h.mod m fun _ _ h => h
theorem Own.slr {e : TypeId} {w : World} {v : Value} {xs : List α} (h : Own c e w v xs) : SlR c w v xs := by
  rcases h with ⟨rfl, rfl⟩ | ⟨g, o, cap, cur, rfl, hb, h3, h4, h5, h6⟩
  · exact ⟨none, 0, 0, rfl, rfl, Nat.le_refl _, Nat.zero_le _, .inl rfl⟩
  · refine ⟨_, _, cap, rfl, rfl, h3, h4, .inr ⟨g, o, rfl, hb.lt, ?_⟩⟩
    have := hb.rd o (xs.length * c.k)
    rwa [h6] at this
theorem Own.ne {e : TypeId} {w : World} {v : Value} {xs : List α} (h : Own c e w v xs) (hx : xs ≠ []) : ∃ g o cap, v = .slice (some ⟨g, o, none⟩) xs.length cap := by
  rcases h with ⟨_, h⟩ | ⟨g, o, cap, _, h, _⟩
  · exact (hx h).elim
  · exact ⟨g, o, cap, h⟩
/-- A new block is a slice of one's own. -/
theorem Own.mk {e : TypeId} {w : World} {b n : Nat} {cs : List Value} {xs : List α} (hb : Blk w b e cs) (hc : cs = flat c xs) (hn : n = xs.length) (hl : xs.length ≤ maxLen) : Own c e w (.slice (some ⟨b, 0, none⟩) n n) xs := by
  subst hn
  refine .inr ⟨b, 0, _, cs, rfl, hb, Nat.le_refl _, hl, by rw [hc, flat_len]; omega, ?_⟩
  rw [List.drop_zero, hc, List.take_of_length_le (by rw [flat_len]; exact Nat.le_refl _)]
theorem SlR.nil (w : World) : SlR c w (.slice none 0 0) [] := ⟨none, 0, 0, rfl, rfl, Nat.le_refl _, Nat.zero_le _, .inl rfl⟩
theorem SlR.len {w : World} {v : Value} {xs : List α} (h : SlR c w v xs) : ∃ a cp, v = .slice a xs.length cp := by
  obtain ⟨a, n, cp, rfl, rfl, _⟩ := h; exact ⟨a, cp, rfl⟩
/-- An element's place. -/
theorem SlR.at {w : World} {v : Value} {xs : List α} (h : SlR c w v xs) {i : Nat} {x : α} (hx : xs[i]? = some x) : ∃ b o cp, v = .slice (some ⟨b, o, none⟩) xs.length cp ∧ b < w.heap.size ∧ Rd w b (o + i * c.k) (c.cells x) := by
  obtain ⟨a, n, cp, rfl, rfl, _, _, h4⟩ := h
  rcases h4 with rfl | ⟨b, o, rfl, hb, hr⟩
  · simp at hx
  · refine ⟨b, o, cp, rfl, hb, ?_⟩
    have := hr.part (i * c.k) c.k
    rwa [flat_at c xs i x hx] at this
/-- A slice of a list that is not empty. -/
theorem SlR.ne {w : World} {v : Value} {xs : List α} (h : SlR c w v xs) (hx : xs ≠ []) : ∃ b o cp, v = .slice (some ⟨b, o, none⟩) xs.length cp ∧ b < w.heap.size ∧ Rd w b o (flat c xs) := by
  obtain ⟨a, n, cp, rfl, rfl, _, _, h4⟩ := h
  rcases h4 with rfl | ⟨b, o, rfl, hb, hr⟩
  · exact (hx rfl).elim
  · exact ⟨b, o, cp, rfl, hb, hr⟩
section
variable {P : Program} {L : Lay}
/-- What is appended. -/
def Src (P : Program) (w : World) (x : Value) (n k : Nat) (cs : List Value) : Prop := (∀ w', (Builtin.lenOf x).run P w' = .ok n w') ∧ ∀ w', w'.heap = w.heap → (Builtin.firstCells k n x).run P w' = .ok cs.toArray w'
theorem SlR.src {w : World} {x : Value} {ys : List α} (h : SlR c w x ys) : Src P w x ys.length c.k (flat c ys) := by
  obtain ⟨a, n, cp, rfl, rfl, _, _, h4⟩ := h
  refine ⟨fun w' => by simp [Builtin.lenOf], fun w' hw => ?_⟩
  rcases h4 with rfl | ⟨b, o, rfl, hb, hr⟩
  · cases a <;> simp [Builtin.firstCells, flat, loadCells, loadCellsFrom]
  · exact run_firstCells_some (P := P) w' c.k ys.length ⟨b, o, none⟩ ys.length cp (flat c ys) (flat_len c ys) fun j v hv => by rw [ad, World.cell?_of_block (w := w) (by rw [hw])]; exact hr j v hv
/-- APPEND to a slice of one's own. -/
theorem app_src (hL : LayOk P L) {t u ty e : Nat} (hsl : L.sl t = some (e, c.k)) (hu : (∃ e', P.underlying u = some (.slice e')) ∨ P.underlying u = some .string) {w : World} {v x : Value} {xs ys : List α} (hv : Own c e w v xs) (hx : Src P w x ys.length c.k (flat c ys)) (hb : xs.length + ys.length ≤ 2147483648) {K : Value → World → Prop}
    (hk : ∀ v' w', Own c e w' v' (xs ++ ys) → Mod (fun k => v.ownBlock = some k) w w' → (∀ b, v'.ownBlock = some b → v.ownBlock = some b ∨ w.heap.size ≤ b) → K v' w') : RunW P (Builtin.append_ #[t, u] ty #[v, x]) w K := by
  obtain ⟨i, h1, h2, h3, h4, h5, z, h6, h7⟩ := hL.sl t e c.k hsl
  obtain ⟨hx1, hx2⟩ := hx
  have hM : (2147483648 : Nat) ≤ maxLen := by unfold maxLen; omega
  have hby : (xs.length + ys.length) * i.bytes ≤ 140737488355328 := Nat.le_trans (Nat.mul_le_mul hb h5) (by omega)
  have h63 : ¬ (9223372036854775807 < ((xs.length : Int) + (ys.length : Int))) := by omega
  have hone := flat_one c ys
  -- what stands in a new block
  have key : ∀ old, Own c e (w.drew.alloc (.cells ((flat c xs).toArray ++ (flat c ys).toArray ++ Builtin.zeroCells z.cells (grownCap w (xs.length + ys.length) old e - (xs.length + ys.length))) e)) (.slice (some ⟨w.heap.size, 0, none⟩) (xs.length + ys.length) (grownCap w (xs.length + ys.length) old e)) (xs ++ ys) := by
    intro old
    have hge := grownCap_ge w (xs.length + ys.length) old e
    have hcm : grownCap w (xs.length + ys.length) old e ≤ maxLen := grownCap_le_maxLen w (xs.length + ys.length) old e (by omega)
    refine .inr ⟨w.heap.size, 0, _, ((flat c xs).toArray ++ (flat c ys).toArray ++ Builtin.zeroCells z.cells (grownCap w (xs.length + ys.length) old e - (xs.length + ys.length))).toList, by rw [List.length_append], ?_, by rw [List.length_append]; exact hge, hcm, ?_, ?_⟩
    · unfold Blk
      rw [Array.toArray_toList]
      exact heap_alloc_new w.drew _
    · simp only [Array.length_toList, Array.size_append, List.size_toArray, size_zeroCells, h7, flat_len, ← Nat.add_mul, Nat.zero_add]
      exact Nat.le_of_eq (by congr 1; omega)
    · simp only [Array.toList_append, List.drop_zero]
      rw [← flat_append, List.take_append_of_le_length (by rw [flat_len]; exact Nat.le_refl _), List.take_of_length_le (by rw [flat_len]; exact Nat.le_refl _)]
  have grow : ∀ (old : Nat) (a : Option Addr), old < xs.length + ys.length → v = .slice a xs.length old → (Builtin.firstCells c.k xs.length v).run P w.drew = .ok (flat c xs).toArray w.drew → RunW P (Builtin.append_ #[t, u] ty #[v, x]) w K := by
    intro old a ho hva hvs
    have h48 : ¬ (281474976710656 < Builtin.nextslicecap (xs.length + ys.length) old * i.bytes) := by have := growslice_fits ho hby; omega
    refine ⟨_, _, ?_, hk _ _ (key old) ⟨rfl, rfl, rfl, by simp, fun k hk _ => heap_alloc_old w.drew _ k hk⟩ fun b hb => .inr (by simp [Value.ownBlock] at hb; omega)⟩
    have hn : ¬ (xs.length + ys.length ≤ old) := by omega
    have hx2' := hx2 w.drew rfl
    subst hva
    rcases hu with ⟨e', hu⟩ | hu <;> simp [Builtin.append_, run_under h1, run_under hu, sizeOf, typeInfo, zeroValue, h2, h3, h6, hx1, hn, h63, h48, Question.forced, hvs, hx2', newRow, grownCap] <;> simp [← Array.append_assoc]
  rcases hv with ⟨rfl, rfl⟩ | ⟨g, o, cap, cur, rfl, hb2, h8, h9, h10, h11⟩
  · by_cases hy : ys = []
    · subst hy
      refine ⟨.slice none 0 0, w, ?_, hk _ _ (Own.nil e w) (Mod.refl _ _) fun b hb => by simp [Value.ownBlock] at hb⟩
      have hx2' := hx2 w rfl
      rcases hu with ⟨e', hu⟩ | hu <;> simp [Builtin.append_, run_under h1, run_under hu, sizeOf, typeInfo, h2, h3, hx1, flat] at hx2' ⊢ <;> simp [hx2']
    · have hl : 0 < ys.length := List.length_pos_iff.2 hy
      exact grow 0 none (by simp; omega) rfl (by simp [Builtin.firstCells, flat])
  · by_cases hroom : xs.length + ys.length ≤ cap
    · have hfit : o + xs.length * c.k + (flat c ys).length ≤ cur.length := by
        rw [flat_len, Nat.add_assoc, ← Nat.add_mul]
        exact Nat.le_trans (Nat.add_le_add_left (Nat.mul_le_mul_right _ hroom) _) h10
      have hst := run_storeCells_at P g (o + xs.length * c.k) e (flat c ys) 0 cur.toArray w hb2 (by simpa using hfit) hone
      simp only [Nat.add_zero] at hst
      have hx2' := hx2 w rfl
      have hrun : (Builtin.append_ #[t, u] ty #[.slice (some ⟨g, o, none⟩) xs.length cap, x]).run P w = .ok (.slice (some ⟨g, o, none⟩) (xs.length + ys.length) cap) (w.setRow g (spl cur.toArray (o + xs.length * c.k) (flat c ys))) := by
        rcases hu with ⟨e', hu⟩ | hu <;> simp [Builtin.append_, run_under h1, run_under hu, sizeOf, typeInfo, h2, h3, hx1, hroom, hx2', ad, hst, spl]
      have hmod : Mod (fun k => (Value.slice (some ⟨g, o, none⟩) xs.length cap).ownBlock = some k) w (w.setRow g (spl cur.toArray (o + xs.length * c.k) (flat c ys))) := Mod.mono (S := (· = g)) mod_row fun i _ e => by subst e; rfl
      refine ⟨_, _, hrun, hk _ _ (.inr ⟨g, o, cap, cur.take (o + xs.length * c.k) ++ flat c ys ++ cur.drop (o + xs.length * c.k + (flat c ys).length), by rw [List.length_append], ?_, by rw [List.length_append]; exact hroom, h9, ?_, ?_⟩) hmod fun b hb => .inl hb⟩
      · have := setRow_heap w g cur.toArray (spl cur.toArray (o + xs.length * c.k) (flat c ys)) e (0, 0) hb2
        unfold Blk
        simpa [spl] using this
      · simp [flat_len] at hfit ⊢
        omega
      · have hl : (cur.take (o + xs.length * c.k)).length = o + xs.length * c.k := by rw [List.length_take]; omega
        rw [flat_append, List.length_append, Nat.add_mul]
        rw [List.append_assoc, List.drop_append_of_le_length (by rw [hl]; omega)]
        rw [← List.append_assoc, List.take_append_of_le_length, List.take_of_length_le]
        · rw [List.drop_take, show o + xs.length * c.k - o = xs.length * c.k by omega, h11]
        · simp [flat_len]; omega
        · simp [flat_len]; omega
    · refine grow cap _ (by omega) rfl (run_firstCells_some (P := P) w.drew c.k xs.length ⟨g, o, none⟩ xs.length cap (flat c xs) (flat_len c xs) fun j u hu => ?_)
      rw [ad, show w.drew.cell? ⟨g, o + j, none⟩ = w.cell? ⟨g, o + j, none⟩ from rfl, hb2.cell]
      rw [← h11, List.getElem?_take] at hu
      split at hu
      · rwa [List.getElem?_drop] at hu
      · cases hu
theorem app (hL : LayOk P L) {t ty e : Nat} (hsl : L.sl t = some (e, c.k)) {w : World} {v x : Value} {xs ys : List α} (hv : Own c e w v xs) (hx : SlR c w x ys) (hb : xs.length + ys.length ≤ 2147483648) {K : Value → World → Prop}
    (hk : ∀ v' w', Own c e w' v' (xs ++ ys) → Mod (fun k => v.ownBlock = some k) w w' → (∀ b, v'.ownBlock = some b → v.ownBlock = some b ∨ w.heap.size ≤ b) → K v' w') : RunW P (Builtin.append_ #[t, t] ty #[v, x]) w K := by
  obtain ⟨i, h1, _⟩ := hL.sl t e c.k hsl
  exact app_src hL hsl (.inl ⟨_, h1⟩) hv hx.src hb hk
end
end
end Go.Proofs.YtffjccofglikhaaGreat
