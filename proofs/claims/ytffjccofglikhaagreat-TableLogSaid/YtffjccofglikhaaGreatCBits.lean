/-
  bits.
-/
import Derived.Test.YtffjccofglikhaaGreatCGet
namespace Go.Proofs.YtffjccofglikhaaGreat
open Go Go.RowKit

/-! ### Writing an element -/
theorem flat_set {α : Type} (c : Codec α) (x : α) : ∀ (xs : List α) (i : Nat), i < xs.length → flat c (xs.set i x) = (flat c xs).take (i * c.k) ++ c.cells x ++ (flat c xs).drop (i * c.k + c.k)
  | [], i, h => by simp at h
  | y :: ys, 0, _ => by
    simp only [List.set_cons_zero, flat, List.flatMap_cons, Nat.zero_mul, List.take_zero, List.nil_append, Nat.zero_add]
    rw [List.drop_append_of_le_length (by rw [c.len]; exact Nat.le_refl _), List.drop_of_length_le (by rw [c.len]; exact Nat.le_refl _), List.nil_append]
  | y :: ys, i + 1, h => by
    have ih := flat_set c x ys i (by simpa using h)
    have e : (i + 1) * c.k = (c.cells y).length + i * c.k := by rw [c.len, Nat.add_mul]; omega
    simp only [List.set_cons_succ]
    have e1 : ∀ zs, flat c (y :: zs) = c.cells y ++ flat c zs := fun zs => by simp [flat]
    rw [e1, e1, ih, e, List.take_length_add_append, Nat.add_assoc, List.drop_length_add_append]
    simp only [List.append_assoc]
theorem own_put {α : Type} {c : Codec α} {e : TypeId} {w : World} {g o n cap : Nat} {xs : List α} (h : Own c e w (.slice (some ⟨g, o, none⟩) n cap) xs) {i : Nat} (hi : i < xs.length) (x : α) {vs : List Value} (hv : vs = c.cells x) {K : World → Prop}
    (hk : ∀ w', Mod (· = g) w w' → w'.heap.size = w.heap.size → Own c e w' (.slice (some ⟨g, o, none⟩) n cap) (xs.set i x) → K w') : StoreW w ⟨g, o + i * c.k, none⟩ c.k vs K := by
  subst hv
  rcases h with ⟨h, _⟩ | ⟨g', o', cap', cur, h1, hb, h3, h4, h5, h6⟩
  · cases h
  cases h1
  have hlt : i * c.k + c.k ≤ xs.length * c.k := by
    have := Nat.mul_le_mul_right c.k (Nat.succ_le_of_lt hi)
    rw [Nat.succ_mul] at this; exact this
  have hle : xs.length * c.k ≤ cap * c.k := Nat.mul_le_mul_right c.k h3
  obtain ⟨A, D, hcur, hAl⟩ : ∃ A D, cur = A ++ D ∧ A.length = o := ⟨cur.take o, cur.drop o, (List.take_append_drop ..).symm, by rw [List.length_take]; omega⟩
  subst hcur
  subst hAl
  have hc := c.len x
  rw [List.length_append] at h5
  rw [List.drop_append_of_le_length (Nat.le_refl _), List.drop_of_length_le (Nat.le_refl _), List.nil_append] at h6
  refine st hb hc (by rw [List.length_append]; omega) (c.one x) fun w' m s hb' => hk w' m s (.inr ⟨g, A.length, cap, _, by rw [List.length_set], hb', by rw [List.length_set]; exact h3, h4, ?_, ?_⟩)
  · simp only [List.length_append, List.length_take, List.length_drop, hc]; omega
  · rw [List.length_set, flat_set c x xs i hi, ← h6]
    rw [List.take_length_add_append, Nat.add_assoc A.length, List.drop_length_add_append]
    rw [List.append_assoc, List.append_assoc, List.drop_append_of_le_length (Nat.le_refl _), List.drop_of_length_le (Nat.le_refl _), List.nil_append]
    rw [List.take_append, List.take_append, List.take_take, List.length_take, hc, Nat.min_eq_left (by omega : i * c.k ≤ D.length), Nat.min_eq_right (by omega : i * c.k ≤ xs.length * c.k), List.take_of_length_le (l := c.cells x) (by omega), List.drop_take, List.take_take, Nat.min_eq_left (by omega : i * c.k ≤ xs.length * c.k)]
    simp only [List.append_assoc]
    congr 3
    omega

theorem Own.form {α : Type} {c : Codec α} {e : TypeId} {w : World} {v : Value} {xs : List α} (h : Own c e w v xs) : ∃ a n cp, v = .slice a n cp := by
  rcases h with ⟨rfl, _⟩ | ⟨_, _, _, _, rfl, _⟩
  · exact ⟨_, _, _, rfl⟩
  · exact ⟨_, _, _, rfl⟩

/-! ### Bits of bytes -/
def orB (x : UInt8) (k : Nat) : UInt8 := UInt8.ofNat (x.toNat ||| 2 ^ k)
theorem orB_all : ((List.range 256).all fun x => (List.range 8).all fun k => decide (iOr .u8 ((x : Nat) : Int) (iShl .u8 1 ((k : Nat) : Int)) = (((UInt8.ofNat (x ||| 2 ^ k)).toNat : Nat) : Int))) = true := by kernel_rfl
theorem orB_is (x : UInt8) {k : Nat} (hk : k < 8) : iOr .u8 (x.toNat : Int) (iShl .u8 1 (k : Int)) = ((orB x k).toNat : Int) :=
  of_decide_eq_true (List.all_eq_true.1 (List.all_eq_true.1 orB_all x.toNat (List.mem_range.2 x.toNat_lt)) k (List.mem_range.2 hk))
def atB (x : UInt8) (k : Nat) : Bool := x.toNat.testBit k
theorem atB_all : ((List.range 256).all fun x => (List.range 8).all fun k => decide ((iAnd .u8 (iShr .u8 ((x : Nat) : Int) ((k : Nat) : Int)) 1 == 1) = x.testBit k)) = true := by kernel_rfl
theorem atB_is (x : UInt8) {k : Nat} (hk : k < 8) : (iAnd .u8 (iShr .u8 (x.toNat : Int) (k : Int)) 1 == 1) = atB x k :=
  of_decide_eq_true (List.all_eq_true.1 (List.all_eq_true.1 atB_all x.toNat (List.mem_range.2 x.toNat_lt)) k (List.mem_range.2 hk))
def bput (bs : List UInt8) (n : Nat) (b : Bool) : List UInt8 :=
  let bs := if n % 8 = 0 then bs ++ [0] else bs
  if b = true then bs.set (n / 8) (orB (bs.getD (n / 8) 0) (7 - n % 8)) else bs
def packS (s : List UInt8 × Nat) (l : List Bool) : List UInt8 × Nat := l.foldl (fun s b => (bput s.1 s.2 b, s.2 + 1)) s
def pack (l : List Bool) : List UInt8 := (packS ([], 0) l).1
theorem packS_ok : ∀ (l : List Bool) (s : List UInt8 × Nat), s.1.length = (s.2 + 7) / 8 → (packS s l).2 = s.2 + l.length ∧ (packS s l).1.length = ((packS s l).2 + 7) / 8
  | [], s, h => ⟨rfl, h⟩
  | b :: l, s, h => by
    have := packS_ok l (bput s.1 s.2 b, s.2 + 1) (by
      simp only [bput]
      by_cases h8 : s.2 % 8 = 0 <;> cases b <;> simp [h8] <;> omega)
    refine ⟨this.1.trans ?_, this.2⟩
    simp only [List.length_cons]; omega
theorem packS_len (l : List Bool) : (packS ([], 0) l).2 = l.length := by have := (packS_ok l ([], 0) rfl).1; simpa using this
theorem pack_len (l : List Bool) : (pack l).length = (l.length + 7) / 8 := by have := (packS_ok l ([], 0) rfl).2; rw [packS_len] at this; exact this
theorem pack_snoc (l : List Bool) (b : Bool) : pack (l ++ [b]) = bput (pack l) l.length b := by
  unfold pack
  rw [packS, List.foldl_append, ← packS]
  show bput (packS ([], 0) l).1 (packS ([], 0) l).2 b = _
  rw [packS_len]
def bget (bs : List UInt8) (i : Nat) : Bool := atB (bs.getD (i / 8) 0) (7 - i % 8)
def bitsAt (l : List Bool) (i : Int) : Bool := decide (0 ≤ i) && decide (i < l.length) && bget (pack l) i.toNat

/-- A Bits. -/
structure BitsR (w : World) (p : Nat) (v : Value) (l : List Bool) : Prop where
  blk : Blk w p 103 [v, iV l.length]
  own : Own cB 5 w v (pack l)
  ne : v.ownBlock ≠ some p
abbrev ptr (p : Nat) : Value := .pointer (some ⟨p, 0, none⟩)
theorem BitsR.mod {S : Nat → Prop} {w w' : World} {p : Nat} {v : Value} {l : List Bool} (h : BitsR w p v l) (m : Mod S w w') (hp : ¬ S p) (hv : ∀ k, v.ownBlock = some k → ¬ S k) : BitsR w' p v l :=
  ⟨h.blk.mod m hp, h.own.mod m hv, h.ne⟩
theorem tmod8 {n : Nat} : ((n : Int).tmod 8) = ((n % 8 : Nat) : Int) := by
  rw [Int.tmod_eq_emod_of_nonneg (by omega)]; omega
theorem tdiv8 {n : Nat} : ((n : Int).tdiv 8) = ((n / 8 : Nat) : Int) := by
  rw [Int.tdiv_eq_ediv_of_nonneg (by omega)]; omega
theorem bits_Put {w : World} {p : Nat} {v : Value} {l : List Bool} {b : Bool} (h : BitsR w p v l) (hl : l.length ≤ 1000000) :
    CallV P 56 [ptr p, .bool b] w fun _ w' => ∃ v', BitsR w' p v' (l ++ [b]) ∧ Mod (fun k => k = p ∨ v.ownBlock = some k) w w' ∧ ∀ k, v'.ownBlock = some k → v.ownBlock = some k ∨ w.heap.size ≤ k := by
  have hpl := pack_len l
  have e8 : IntKind.i64.wrap ((l.length : Int).tdiv 8) = ((l.length / 8 : Nat) : Int) := by rw [tdiv8, w64 (by omega) (by omega)]
  have e7 : IntKind.i64.wrap (7 - (l.length : Int).tmod 8) = ((7 - l.length % 8 : Nat) : Int) := by rw [tmod8, w64 (by omega) (by omega)]; omega
  refine calls_of lay_is Tryz.func56 rfl (by kernel_rfl) (condF rfl (ld1 h.blk rfl (cond2 (fun h1 => ?_) (fun h1 => ?_))))
  · have h8 : l.length % 8 = 0 := by have := beqT h1; rw [tmod8] at this; omega
    refine ld1 h.blk rfl ⟨by decide, _, rfl, al fun b1 w1 e1 m1 s1 hb1 => ?_⟩
    have hx : Own cB 5 w1 (.slice (some ⟨b1, 0, none⟩) 1 1) [0] := Own.mk hb1 rfl rfl (by decide)
    refine app lay_is rfl (h.own.grow m1) hx.slr (by simp; omega) fun v2 w2 ho m2 f2 => ?_
    have hpb : v.ownBlock ≠ some p := h.ne
    have hB : Blk w2 p 103 [v, iV l.length] := (h.blk.mod m1 fun h => h).mod m2 hpb
    obtain ⟨a2, n2, c2, e2⟩ := ho.form
    subst e2
    refine st1 hB (by exact (by decide : 0 < 2)) rfl fun w3 m3 s3 hB => ?_
    generalize Value.slice a2 n2 c2 = v2 at *
    have hv2 : v2.ownBlock ≠ some p := fun e => by
      rcases f2 p e with h' | h'
      · exact hpb h'
      · have := h.blk.lt; have := m1.size; omega
    have hO : Own cB 5 w3 v2 (pack l ++ [0]) := ho.mod m3 fun k hk e => hv2 (e ▸ hk)
    have hB : Blk w3 p 103 [v2, iV l.length] := hB
    have hM : Mod (fun k => k = p ∨ v.ownBlock = some k) w w3 := (((m1.mono fun _ _ h => h.elim).tr m2 fun i _ h => .inr h)).tr m3 fun i _ h => .inl h
    have hF : ∀ k, v2.ownBlock = some k → v.ownBlock = some k ∨ w.heap.size ≤ k := fun k hk => (f2 k hk).imp id fun h => by have := m1.size; omega
    have hP : pack (l ++ [b]) = if b = true then (pack l ++ [0]).set (l.length / 8) (orB ((pack l ++ [0]).getD (l.length / 8) 0) (7 - l.length % 8)) else pack l ++ [0] := by rw [pack_snoc]; simp only [bput, h8, if_true]
    have hL : l.length / 8 < (pack l ++ [0]).length := by simp; omega
    have hLn : (pack l ++ [0]).length ≤ 268435456 := by simp; omega
    generalize pack l ++ [0] = bs at *
    have hx : bs[l.length / 8]? = some (bs.getD (l.length / 8) 0) := by rw [List.getD_eq_getElem?_getD, List.getElem?_eq_getElem hL]; rfl
    have hge : bs.length ≤ 268435456 := by have := hLn; omega
    obtain ⟨g, o, cp, rfl, hg, hr⟩ := hO.slr.at hx
    refine cond2 (fun hb => ?_) (fun hb => ?_)
    · refine draw [(0, []), (1, []), (2, []), (3, []), (4, []), (5, []), (6, []), (7, []), (8, []), (9, []), (10, []), (11, []), (12, []), (13, []), (14, []), (15, []), (16, []), (17, []), (18, []), (19, []), (20, [])] (by kernel_rfl) (ld1 hB rfl (ld1 hB rfl ⟨by rw [e8]; omega, by rw [e8]; omega, ?_⟩))
      rw [e8, Int.toNat_natCast]
      refine ld1r (j := 0) hr rfl (ld1 hB rfl ⟨by rw [e7]; omega, by omega, by omega, ?_⟩)
      refine own_put (w := w3.drew) hO hL (orB (bs.getD (l.length / 8) 0) (7 - l.length % 8)) ?_ fun w4 m4 s4 ho4 => ?_
      · rw [e7, orB_is _ (by omega)]; rfl
      have hgp : p ≠ g := fun e => hv2 (e ▸ rfl)
      have hB4 := hB.mod m4 hgp
      refine ld1 hB4 rfl (st1 hB4 (by exact (by decide : 1 < 2)) rfl fun w5 m5 s5 hB5 => ?_)
      refine ⟨_, ⟨?_, ?_, hv2⟩, ?_, hF⟩
      · rw [List.length_append]
        have : Blk w5 p 103 [_, iV (IntKind.i64.wrap ((l.length : Int) + 1))] := hB5
        rwa [ctr (by omega)] at this
      · rw [hP, if_pos hb]
        exact ho4.mod m5 fun k hk e => hv2 (e ▸ hk)
      · refine (hM.tr m4 fun i hi e => ?_).tr m5 fun i _ e => .inl e
        rcases hF i (by rw [e]; rfl) with h' | h'
        · exact .inr h'
        · omega
    · refine ld1 hB rfl (st1 hB (by exact (by decide : 1 < 2)) rfl fun w5 m5 s5 hB5 => ?_)
      refine ⟨_, ⟨?_, ?_, hv2⟩, hM.tr m5 fun i _ e => .inl e, hF⟩
      · rw [List.length_append]
        have : Blk w5 p 103 [_, iV (IntKind.i64.wrap ((l.length : Int) + 1))] := hB5
        rwa [ctr (by omega)] at this
      · rw [hP, if_neg (by rw [hb]; exact Bool.false_ne_true)]
        exact hO.mod m5 fun k hk e => hv2 (e ▸ hk)
  · have h8 : ¬ l.length % 8 = 0 := by have := beqF h1; rw [tmod8] at this; omega
    have hO := h.own
    have hB := h.blk
    have hv2 := h.ne
    have hM : Mod (fun k => k = p ∨ v.ownBlock = some k) w w := Mod.refl _ _
    have hF : ∀ k, v.ownBlock = some k → v.ownBlock = some k ∨ w.heap.size ≤ k := fun k hk => .inl hk
    have hP : pack (l ++ [b]) = if b = true then (pack l).set (l.length / 8) (orB ((pack l).getD (l.length / 8) 0) (7 - l.length % 8)) else pack l := by rw [pack_snoc]; simp only [bput, h8, if_false]
    have hL : l.length / 8 < (pack l).length := by omega
    have hge : (pack l).length ≤ 268435456 := by omega
    generalize pack l = bs at *
    have hx : bs[l.length / 8]? = some (bs.getD (l.length / 8) 0) := by rw [List.getD_eq_getElem?_getD, List.getElem?_eq_getElem hL]; rfl
    obtain ⟨g, o, cp, rfl, hg, hr⟩ := hO.slr.at hx
    refine cond2 (fun hb => ?_) (fun hb => ?_)
    · refine draw [(0, []), (1, []), (2, []), (3, []), (4, []), (5, []), (6, []), (7, []), (8, []), (9, []), (10, []), (11, []), (12, []), (13, []), (14, []), (15, []), (16, []), (17, []), (18, []), (19, []), (20, [])] (by kernel_rfl) (ld1 hB rfl (ld1 hB rfl ⟨by rw [e8]; omega, by rw [e8]; omega, ?_⟩))
      rw [e8, Int.toNat_natCast]
      refine ld1r (j := 0) hr rfl (ld1 hB rfl ⟨by rw [e7]; omega, by omega, by omega, ?_⟩)
      refine own_put (w := w.drew) hO hL (orB (bs.getD (l.length / 8) 0) (7 - l.length % 8)) ?_ fun w4 m4 s4 ho4 => ?_
      · rw [e7, orB_is _ (by omega)]; rfl
      have hgp : p ≠ g := fun e => hv2 (e ▸ rfl)
      have hB4 := hB.mod m4 hgp
      refine ld1 hB4 rfl (st1 hB4 (by exact (by decide : 1 < 2)) rfl fun w5 m5 s5 hB5 => ?_)
      refine ⟨_, ⟨?_, ?_, hv2⟩, ?_, hF⟩
      · rw [List.length_append]
        have : Blk w5 p 103 [_, iV (IntKind.i64.wrap ((l.length : Int) + 1))] := hB5
        rwa [ctr (by omega)] at this
      · rw [hP, if_pos hb]
        exact ho4.mod m5 fun k hk e => hv2 (e ▸ hk)
      · refine (hM.tr m4 fun i hi e => ?_).tr m5 fun i _ e => .inl e
        rcases hF i (by rw [e]; rfl) with h' | h'
        · exact .inr h'
        · omega
    · refine ld1 hB rfl (st1 hB (by exact (by decide : 1 < 2)) rfl fun w5 m5 s5 hB5 => ?_)
      refine ⟨_, ⟨?_, ?_, hv2⟩, hM.tr m5 fun i _ e => .inl e, hF⟩
      · rw [List.length_append]
        have : Blk w5 p 103 [_, iV (IntKind.i64.wrap ((l.length : Int) + 1))] := hB5
        rwa [ctr (by omega)] at this
      · rw [hP, if_neg (by rw [hb]; exact Bool.false_ne_true)]
        exact hO.mod m5 fun k hk e => hv2 (e ▸ hk)
end Go.Proofs.YtffjccofglikhaaGreat
