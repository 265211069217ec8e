/-
  cuckoo: entries, At, both, free, Find.
-/
import Derived.Test.YtffjccofglikhaaGreatCBeg
namespace Go.Proofs.YtffjccofglikhaaGreat
open Go Go.RowKit

structure Ent where
  has : Bool
  id : Int
  tag : Int
  deriving DecidableEq
def Ent.zero : Ent := ⟨false, 0, 0⟩
def entC (e : Ent) : List Value := [.bool e.has, iV e.id, iV e.tag]
def entV (e : Ent) : Value := .agg (entC e).toArray
def cEnt : Codec Ent := ⟨3, entC, fun _ => rfl, by intro x v h; simp [entC] at h; rcases h with rfl | rfl | rfl <;> rfl, by decide⟩
def ent0 : List Ent := List.replicate 32 Ent.zero
structure DirR (w : World) (p : Nat) (es : List Ent) (n : Int) : Prop where
  len : es.length = 32
  blk : Blk w p 205 (flat cEnt es ++ [iV n])
theorem DirR.mod {S : Nat → Prop} {w w' : World} {p : Nat} {es : List Ent} {n : Int} (h : DirR w p es n) (m : Mod S w w') (hp : ¬ S p) : DirR w' p es n := ⟨h.len, h.blk.mod m hp⟩
theorem DirR.drew {w : World} {p : Nat} {es : List Ent} {n : Int} (h : DirR w p es n) : DirR w.drew p es n := ⟨h.len, h.blk⟩
theorem flat96 {es : List Ent} (h : es.length = 32) : (flat cEnt es).length = 96 := by rw [flat_len, h]; rfl
theorem DirR.rd {w : World} {p : Nat} {es : List Ent} {n : Int} (h : DirR w p es n) {i : Nat} (hi : i < es.length) {o : Nat} (ho : o = i * 3) : Rd w p o (entC es[i]) := by
  subst ho
  have hb : Rd w p 0 (flat cEnt es) := h.blk.pre
  have := hb.part (i * cEnt.k) cEnt.k
  rw [flat_at cEnt es i _ (getE hi), Nat.zero_add] at this
  exact this
def bktE (es : List Ent) (b : Nat) : List Ent := (es.drop (b * 4)).take 4
theorem bktE_len {es : List Ent} (h : es.length = 32) {b : Nat} (hb : b < 8) : (bktE es b).length = 4 := by
  unfold bktE; rw [List.length_take, List.length_drop]; omega
theorem bktE_at {es : List Ent} {b j : Nat} (hj : j < 4) : (bktE es b)[j]? = es[b * 4 + j]? := by
  unfold bktE
  rw [List.getElem?_take, if_pos hj, List.getElem?_drop]
theorem cuckoo_New {w : World} : CallV P 66 [] w fun r w' => r = ptr w.heap.size ∧ DirR w' w.heap.size ent0 0 ∧ Mod no w w' := by
  refine calls_of lay_is Tryz.func66 rfl (by kernel_rfl) ⟨flat cEnt ent0 ++ [iV 0], by kernel_rfl, al fun b1 w1 e1 m1 s1 hb1 => ?_⟩
  subst e1
  exact ⟨rfl, ⟨rfl, hb1⟩, m1⟩
def cMay (id : Int) : Bool := decide (0 ≤ id) && decide (id ≤ 1099511627776)
theorem cuckoo_may {w : World} {id : Int} : CallV P 120 [iV id] w fun r w' => r = .bool (cMay id) ∧ w' = w := by
  refine calls_of lay_is Tryz.func120 rfl (by kernel_rfl) ⟨fun h => ⟨?_, rfl⟩, fun h => ⟨?_, rfl⟩⟩
  · have h : decide (0 ≤ id) = true := h
    unfold cMay; rw [h]; rfl
  · have h : decide (0 ≤ id) = false := h
    unfold cMay; rw [h]; rfl
def bothV (h : Int) : Value := .agg #[iV (hFirst h), iV (hOther (hFirst h) (hTag h))]
theorem cuckoo_both {w : World} {h : Int} (h0 : 0 ≤ h) : CallV P 174 [.int .u64 h] w fun r w' => r = bothV h ∧ Mod no w w' := by
  refine calls_of lay_is Tryz.func174 rfl (by kernel_rfl) (al fun b1 w1 e1 m1 s1 hb1 => call (hash_First h0) ?_)
  rintro _ _ ⟨rfl, rfl⟩
  refine call (hash_Tag h0) ?_
  rintro _ _ ⟨rfl, rfl⟩
  refine call hash_Other ?_
  rintro _ w2 ⟨rfl, rfl⟩
  refine ⟨[iV (hFirst h), iV (hOther (hFirst h) (hTag h))], rfl, st hb1 rfl (by decide) (flat_one cI [hFirst h, hOther (hFirst h) (hTag h)]) fun w3 m3 s3 hb3 => ldB hb3 rfl ⟨rfl, m1.new m3 (by omega)⟩⟩
def findIx {α : Type} (p : α → Bool) : List α → Nat → Int
  | [], _ => -1
  | x :: xs, i => if p x = true then (i : Int) else findIx p xs (i + 1)
theorem findIx_rng {α : Type} (p : α → Bool) : ∀ (xs : List α) (i : Nat), findIx p xs i = -1 ∨ ((i : Int) ≤ findIx p xs i ∧ findIx p xs i < i + xs.length)
  | [], i => .inl rfl
  | x :: xs, i => by
    unfold findIx
    split
    · refine .inr ⟨by omega, ?_⟩; rw [List.length_cons]; omega
    · rcases findIx_rng p xs (i + 1) with h | ⟨h1, h2⟩
      · exact .inl h
      · refine .inr ⟨by omega, ?_⟩; rw [List.length_cons]; omega
theorem findIx_some {α : Type} (p : α → Bool) : ∀ (xs : List α) (i : Nat), 0 ≤ findIx p xs i → ∃ x, xs[(findIx p xs i).toNat - i]? = some x ∧ p x = true
  | [], i, h => by unfold findIx at h; omega
  | x :: xs, i, h => by
    unfold findIx at h ⊢
    split
    · rename_i hp; exact ⟨x, by simp, hp⟩
    · rename_i hp
      rw [if_neg hp] at h
      obtain ⟨y, hy, hpy⟩ := findIx_some p xs (i + 1) h
      refine ⟨y, ?_, hpy⟩
      rcases findIx_rng p xs (i + 1) with hr | ⟨h1, h2⟩
      · omega
      · rw [show (findIx p xs (i + 1)).toNat - i = ((findIx p xs (i + 1)).toNat - (i + 1)) + 1 by omega, List.getElem?_cons_succ]
        exact hy
theorem findIx_none {α : Type} (p : α → Bool) : ∀ (xs : List α) (i : Nat), findIx p xs i < 0 → ∀ x ∈ xs, p x = false
  | [], i, _ => by simp
  | x :: xs, i, h => by
    unfold findIx at h
    split at h
    · omega
    · rename_i hp
      intro y hy
      rcases List.mem_cons.1 hy with rfl | hy
      · simpa using hp
      · exact findIx_none p xs (i + 1) h y hy
theorem free_1 {w : World} {e : Ent} : CallV P 176 [entV e] w fun r w' => r = .bool (!e.has) ∧ Mod no w w' := by
  refine calls_of lay_is Tryz.func176 rfl (by kernel_rfl) (al fun b1 w1 e1 m1 s1 hb1 => ?_)
  have hb1 : Blk w1 b1 201 (entC e) := hb1
  exact ld1 hb1 rfl ⟨rfl, m1⟩
theorem idx_ent {w : World} {v : Value} {xs : List Ent} (hv : SlR cEnt w v xs) (hl : xs.length ≤ 1000) : CallV P 175 [v, .func (.func 176) #[] #[]] w fun r w' => r = iV (findIx (fun e => !e.has) xs 0) ∧ Mod no w w' := by
  obtain ⟨a, cp, rfl⟩ := hv.len
  refine calls_of lay_is Tryz.func175 rfl (by kernel_rfl) ?_
  refine loop (σ := Nat) (fun i => [(0, .slice a xs.length cp), (1, .func (.func 176) #[] #[]), (7, iV xs.length), (8, iV i)]) (fun i w' => i ≤ xs.length ∧ findIx (fun e => !e.has) (xs.drop i) i = findIx (fun e => !e.has) xs 0 ∧ Mod no w w') (fun i _ => xs.length - i) 0 ⟨rfl, rfl, rfl, rfl, trivial⟩ ⟨by omega, rfl, Mod.refl _ _⟩ ?_
  rintro i w1 ⟨hi, hG, hM⟩
  refine cond2 (fun h1 => ?_) (fun h1 => ?_)
  · have h1 : (i : Int) < xs.length := of_decT h1
    have hlt : i < xs.length := by omega
    have hr := getE hlt
    rw [List.drop_eq_getElem_cons hlt, findIx] at hG
    generalize xs[i] = e at *
    obtain ⟨gb, go, gc, e', hgb, hgr⟩ := (hv.grow hM).at hr
    cases e'
    refine ⟨by omega, by omega, ldN (cs := entC e) hgr rfl (call free_1 ?_)⟩
    rintro _ w2 ⟨rfl, m2⟩
    refine cond2 (fun h2 => ?_) (fun h2 => ?_)
    · have h2 : (!e.has) = true := h2
      rw [if_pos h2] at hG
      rw [← hG]
      exact ⟨rfl, hM.trn m2⟩
    · have h2 : (!e.has) = false := h2
      rw [if_neg (by rw [h2]; decide)] at hG
      exact ⟨i + 1, ⟨rfl, rfl, rfl, congrArg some (ctr (by omega)), trivial⟩, ⟨by omega, hG, hM.trn m2⟩, by omega⟩
  · have h1 : ¬ (i : Int) < xs.length := of_decF h1
    rw [List.drop_of_length_le (by omega), findIx] at hG
    rw [← hG]
    exact ⟨rfl, hM⟩
def freeOf (es : List Ent) (b : Nat) : Int := findIx (fun e => !e.has) (bktE es b) 0
theorem freeOf_rng {es : List Ent} (h : es.length = 32) {b : Nat} (hb : b < 8) : freeOf es b = -1 ∨ (0 ≤ freeOf es b ∧ freeOf es b < 4) := by
  rcases findIx_rng (fun e => !e.has) (bktE es b) 0 with h1 | ⟨h1, h2⟩
  · exact .inl h1
  · rw [bktE_len h hb] at h2; exact .inr ⟨h1, by unfold freeOf; omega⟩
/-- A slice of a whole array behind a pointer. -/
theorem slcA {t n e k : Nat} (ha : lay.ar t = some (n, e, k)) {b o : Nat} {w : World} {K : Value → Prop} (hk : K (.slice (some ⟨b, o, none⟩) n n)) : ReadW P (Instr.sliceAt t (.pointer (some ⟨b, o, none⟩)) none none none) w K := by
  obtain ⟨i, h1, h2, h3, h4⟩ := lay_is.ar t n e k ha
  refine ⟨_, ?_, hk⟩
  simp [Instr.sliceAt, run_under h1, Instr.sureAddr, Instr.sliceBounds, sizeOf, typeInfo, h2, Addr.add]
theorem dir_free {w : World} {p : Nat} {es : List Ent} {n : Int} {b : Nat} (h : DirR w p es n) (hb : b < 8) : CallV P 122 [ptr p, iV b] w fun r w' => r = iV (freeOf es b) ∧ Mod no w w' := by
  refine calls_of lay_is Tryz.func122 rfl (by kernel_rfl) ⟨by omega, by omega, slcA rfl ?_⟩
  have hs : SlR cEnt w (.slice (some ⟨p, 0 + 0 + (b : Int).toNat * 12, none⟩) 4 4) (bktE es b) := by
    refine ⟨_, _, _, rfl, (bktE_len h.len hb).symm, Nat.le_refl _, by unfold maxLen; omega, .inr ⟨_, _, rfl, h.blk.lt, ?_⟩⟩
    have hb0 : Rd w p 0 (flat cEnt es) := h.blk.pre
    have := hb0.part (b * 12) 12
    have e1 : ((flat cEnt es).drop (b * 12)).take 12 = flat cEnt (bktE es b) := by
      unfold bktE
      rw [← flat_take, ← flat_drop]
      show _ = List.take (4 * 3) (List.drop (b * 4 * 3) _)
      rw [show b * 4 * 3 = b * 12 by omega]
    rw [e1] at this
    rw [show 0 + 0 + (b : Int).toNat * 12 = 0 + b * 12 by rw [Int.toNat_natCast]]
    exact this
  refine call (idx_ent hs (by rw [bktE_len h.len hb]; omega)) ?_
  rintro _ w1 ⟨rfl, m1⟩
  exact ⟨rfl, m1⟩
/-! ### At -/
theorem dir_At {w : World} {p : Nat} {es : List Ent} {n : Int} {b s : Nat} (h : DirR w p es n) (hb : b < 8) (hs : s < 4) : CallV P 70 [ptr p, iV b, iV s] w fun r w' => r = .tuple #[iV (es.getD (b * 4 + s) Ent.zero).id, iV (es.getD (b * 4 + s) Ent.zero).tag, .bool (es.getD (b * 4 + s) Ent.zero).has] ∧ Mod no w w' := by
  have hk : b * 4 + s < es.length := by rw [h.len]; omega
  have hg : es.getD (b * 4 + s) Ent.zero = es[b * 4 + s] := by rw [List.getD_eq_getElem?_getD, getE hk]; rfl
  have hr : Rd w p (0 + 0 + (b : Int).toNat * 12 + (s : Int).toNat * 3) (entC es[b * 4 + s]) := h.rd hk (by rw [Int.toNat_natCast, Int.toNat_natCast]; omega)
  rw [hg]
  generalize es[b * 4 + s] = e at *
  refine calls_of lay_is Tryz.func70 rfl (by kernel_rfl) (ptF rfl (ptF (decF (by omega)) (ptF (decF (by omega)) (ptF (decF (by omega)) (condF (decF (by omega)) ?_)))))
  refine ⟨by omega, by omega, by omega, by omega, ldN (cs := entC e) hr rfl (al fun b1 w1 e1 m1 s1 hb1 => st hb1 rfl (by decide) (cEnt.one e) fun w2 m2 s2 hb2 => ?_)⟩
  have hb2 : Blk w2 b1 201 (entC e) := hb2
  exact draw [(0, []), (1, []), (2, []), (3, []), (4, []), (5, []), (6, [3, 5]), (7, [5]), (8, [])] (by kernel_rfl) (ld1 (w := w2.drew) hb2 rfl (ld1 (w := w2.drew) hb2 rfl (ld1 (w := w2.drew) hb2 rfl ⟨ld1 (w := w2.drew) hb2 rfl ⟨rfl, rfl⟩, ld1 (w := w2.drew) hb2 rfl ⟨rfl, rfl⟩, ld1 (w := w2.drew) hb2 rfl ⟨rfl, rfl⟩, rfl, m1.new m2 (by omega)⟩)))
end Go.Proofs.YtffjccofglikhaaGreat
