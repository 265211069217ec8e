/-
  bits, bytes, rank.
-/
import Derived.Test.YtffjccofglikhaaGreatCBits
namespace Go.Proofs.YtffjccofglikhaaGreat
open Go Go.RowKit

theorem bits_Len {w : World} {p : Nat} {v : Value} {l : List Bool} (h : BitsR w p v l) : CallV P 110 [ptr p] w fun r w' => r = iV l.length ∧ w' = w := by
  refine calls_of lay_is Tryz.func110 rfl (by kernel_rfl) (condF rfl (ld1 h.blk rfl ⟨rfl, rfl⟩))
theorem bits_LenNil {w : World} : CallV P 110 [.pointer none] w fun r w' => r = iV 0 ∧ w' = w := by
  refine calls_of lay_is Tryz.func110 rfl (by kernel_rfl) (condT rfl ⟨rfl, rfl⟩)
theorem bits_At {w : World} {p : Nat} {v : Value} {l : List Bool} {i : Int} (h : BitsR w p v l) (hl : l.length ≤ 1000000) : CallV P 111 [ptr p, iV i] w fun r w' => r = .bool (bitsAt l i) ∧ w' = w := by
  have hpl := pack_len l
  unfold bitsAt
  refine calls_of lay_is Tryz.func111 rfl (by kernel_rfl) ⟨fun h1 => ?_, fun h1 => ⟨nofun, fun _ => ?_⟩⟩
  · have h1 := of_decT h1
    refine call (bits_Len h) ?_
    rintro _ _ ⟨rfl, rfl⟩
    refine ⟨fun h2 => ?_, fun h2 => ?_⟩
    · have h2 := of_decT h2
      obtain ⟨n, rfl⟩ := Int.eq_ofNat_of_zero_le h1
      have hn : n < l.length := by omega
      have hL : n / 8 < (pack l).length := by omega
      have e8 : IntKind.i64.wrap ((n : Int).tdiv 8) = ((n / 8 : Nat) : Int) := by rw [tdiv8, w64 (by omega) (by omega)]
      have e7 : IntKind.i64.wrap (7 - (n : Int).tmod 8) = ((7 - n % 8 : Nat) : Int) := by rw [tmod8, w64 (by omega) (by omega)]; omega
      have hx : (pack l)[n / 8]? = some ((pack l).getD (n / 8) 0) := by rw [List.getD_eq_getElem?_getD, List.getElem?_eq_getElem hL]; rfl
      obtain ⟨g, o, cp, rfl, hg, hr⟩ := h.own.slr.at hx
      refine ld1 h.blk rfl ⟨by rw [e8]; omega, by rw [e8]; omega, ?_⟩
      rw [e8, Int.toNat_natCast]
      refine ld1r (j := 0) hr rfl ⟨by rw [e7]; omega, ?_⟩
      refine ⟨?_, rfl⟩
      rw [e7, decT h1, decT h2]
      show Value.bool (iAnd .u8 (iShr .u8 (((pack l).getD (n / 8) 0).toNat : Int) ((7 - n % 8 : Nat) : Int)) 1 == 1) = _
      rw [atB_is _ (by omega)]
      rfl
    · rw [show decide (i < (l.length : Int)) = false from h2, Bool.and_false, Bool.false_and]
      exact ⟨rfl, rfl⟩
  · rw [show decide (0 ≤ i) = false from h1, Bool.false_and, Bool.false_and]
    exact ⟨rfl, rfl⟩
theorem bits_AtNil {w : World} {i : Int} : CallV P 111 [.pointer none, iV i] w fun r w' => r = .bool false ∧ w' = w := by
  refine calls_of lay_is Tryz.func111 rfl (by kernel_rfl) ⟨fun h1 => ?_, fun h1 => ⟨nofun, fun _ => ⟨rfl, rfl⟩⟩⟩
  refine call bits_LenNil ?_
  rintro _ _ ⟨rfl, rfl⟩
  have h1 := of_decT h1
  exact ⟨fun h2 => absurd (of_decT h2) (by omega), fun _ => ⟨rfl, rfl⟩⟩
theorem bytes_Equal {w : World} {a b : Value} {xs ys : List UInt8} (ha : SlR cB w a xs) (hb : SlR cB w b ys) : CallV P 158 [a, b] w fun r w' => r = .bool (decide (xs = ys)) ∧ w' = w := by
  refine calls_of lay_is Tryz.func158 rfl (by kernel_rfl) (conv_str bytesT strT ha (conv_str bytesT strT hb ⟨?_, rfl⟩))
  show Value.bool _ = _
  rw [beq_str]
theorem bytes_Clone {w : World} {a : Value} {xs : List UInt8} (ha : SlR cB w a xs) (hl : xs.length ≤ 2147483000) : CallV P 90 [a] w fun r w' => Own cB 5 w' r xs ∧ Mod no w w' ∧ ∀ k, r.ownBlock = some k → w.heap.size ≤ k := by
  obtain ⟨p, cp, rfl⟩ := ha.len
  refine calls_of lay_is Tryz.func90 rfl (by kernel_rfl) ?_
  cases p with
  | none =>
    refine condT rfl ?_
    have : xs = [] := by
      obtain ⟨_, _, _, e, e2, _, _, h⟩ := ha
      cases e
      rcases h with rfl | ⟨_, _, h, _⟩
      · rfl
      · cases h
    subst this
    exact ⟨Own.nil _ _, Mod.refl _ _, nofun⟩
  | some a =>
    refine condF rfl ⟨by decide, _, rfl, al fun b1 w1 e1 m1 s1 hb1 => ?_⟩
    have hx : Own cB 5 w1 (.slice (some ⟨b1, 0, none⟩) 0 0) [] := Own.mk hb1 rfl rfl (by decide)
    refine app lay_is rfl hx (ha.grow m1) (by simp; omega) fun v2 w2 ho m2 f2 => ?_
    refine ⟨ho, m1.new (k := b1) (m2.mono fun i _ h => (Option.some.inj h).symm) (by omega), fun k hk => ?_⟩
    rcases f2 k hk with h | h
    · have : b1 = k := Option.some.inj h
      omega
    · have := m1.size; omega
theorem bits_Bytes {w : World} {p : Nat} {v : Value} {l : List Bool} (h : BitsR w p v l) (hl : l.length ≤ 1000000) : CallV P 160 [ptr p] w fun r w' => Own cB 5 w' r (pack l) ∧ Mod no w w' ∧ ∀ k, r.ownBlock = some k → w.heap.size ≤ k := by
  have hpl := pack_len l
  refine calls_of lay_is Tryz.func160 rfl (by kernel_rfl) (condF rfl (ld1 h.blk rfl (call (bytes_Clone h.own.slr (by omega)) ?_)))
  intro r w1 h
  exact h
def unpack (bs : List UInt8) (n : Nat) : List Bool := (List.range n).map fun i => bget bs i
def bitsOf (bs : List UInt8) (n : Int) : Option (List Bool) :=
  if n < 0 ∨ 8 * (bs.length : Int) < n then none else if pack (unpack bs n.toNat) = bs then some (unpack bs n.toNat) else none
theorem bits_Of {w : World} {a : Value} {bs : List UInt8} {n : Int} (ha : SlR cB w a bs) (hl : bs.length ≤ 100000) : CallV P 156 [a, iV n] w fun r w' => Mod no w w' ∧
    match bitsOf bs n with
    | none => r = .tuple #[.pointer none, .bool false]
    | some l => ∃ p v, r = .tuple #[ptr p, .bool true] ∧ BitsR w' p v l ∧ w.heap.size ≤ p ∧ ∀ k, v.ownBlock = some k → w.heap.size ≤ k := by
  obtain ⟨q, cp, rfl⟩ := ha.len
  have e0 : IntKind.i64.wrap (8 * (bs.length : Int)) = 8 * (bs.length : Int) := w64 (by omega) (by omega)
  unfold bitsOf
  refine calls_of lay_is Tryz.func156 rfl (by kernel_rfl) ⟨fun h1 => condT rfl ?_, fun h1 => cond2 (fun h2 => ?_) (fun h2 => ?_)⟩
  · rw [if_pos (.inl (of_decT h1))]
    exact ⟨Mod.refl _ _, rfl⟩
  · have h2 : IntKind.i64.wrap (8 * (bs.length : Int)) < n := of_decT h2
    rw [if_pos (.inr (by omega))]
    exact ⟨Mod.refl _ _, rfl⟩
  · have h1 := of_decF h1
    have h2 : ¬ IntKind.i64.wrap (8 * (bs.length : Int)) < n := of_decF h2
    rw [if_neg (by omega)]
    obtain ⟨n, rfl⟩ := Int.eq_ofNat_of_zero_le (by omega : 0 ≤ n)
    rw [show ((n : Int)).toNat = n from rfl]
    refine ⟨_, rfl, al fun p w1 e1 m1 s1 hb1 => ?_⟩
    have hb1 : BitsR w1 p (.slice none 0 0) [] := ⟨hb1, Own.nil _ _, nofun⟩
    refine loop (σ := Nat × Value) (fun s => [(0, .slice q bs.length cp), (6, ptr p), (19, iV n), (20, iV s.1)]) (fun s w' => s.1 ≤ n ∧ BitsR w' p s.2 (unpack bs s.1) ∧ Mod no w w' ∧ ∀ k, s.2.ownBlock = some k → w.heap.size ≤ k) (fun s _ => n - s.1) (0, .slice none 0 0) ⟨rfl, rfl, rfl, rfl, trivial⟩ ⟨by omega, hb1, m1, nofun⟩ ?_
    rintro ⟨i, v⟩ w2 ⟨hi, hB, hM, hF⟩
    dsimp only at *
    refine cond2 (fun h3 => ?_) (fun h3 => ?_)
    · have h3 : (i : Int) < n := of_decT h3
      have h3' : i + 1 ≤ n := by omega
      have e8 : IntKind.i64.wrap ((i : Int).tdiv 8) = ((i / 8 : Nat) : Int) := by rw [tdiv8, w64 (by omega) (by omega)]
      have e7 : IntKind.i64.wrap (7 - (i : Int).tmod 8) = ((7 - i % 8 : Nat) : Int) := by rw [tmod8, w64 (by omega) (by omega)]; omega
      have hx : bs[i / 8]? = some (bs.getD (i / 8) 0) := by rw [List.getD_eq_getElem?_getD, List.getElem?_eq_getElem (by omega)]; rfl
      obtain ⟨g, o, cp', e, hg, hr⟩ := (ha.grow hM).at hx
      cases e
      refine ⟨by rw [e8]; omega, by rw [e8]; omega, ?_⟩
      rw [e8, Int.toNat_natCast]
      refine ld1r (j := 0) hr rfl ⟨by rw [e7]; omega, ?_⟩
      rw [e7]
      refine call (bits_Put hB (by simp [unpack]; omega)) ?_
      rintro _ w3 ⟨v', hB', m3, f3⟩
      have hp : p < w2.heap.size := hB.blk.lt
      rw [atB_is _ (by omega)] at hB'
      refine ⟨(i + 1, v'), ⟨rfl, rfl, rfl, congrArg some (ctr (i := i) (by omega)), trivial⟩, ⟨h3', ?_, hM.tr m3 fun k hk h => ?_, fun k hk => ?_⟩, by show n - (i + 1) < n - i; omega⟩
      · have : unpack bs (i + 1) = unpack bs i ++ [bget bs i] := by unfold unpack; rw [List.range_succ, List.map_append]; rfl
        show BitsR w3 p v' (unpack bs (i + 1))
        rw [this]
        exact hB'
      · rcases h with h | h
        · omega
        · have := hF k h; omega
      · rcases f3 k hk with h | h
        · exact hF k h
        · have := hM.size; omega
    · have hin : i = n := by have := of_decF h3; omega
      subst hin
      refine ld1 hB.blk rfl (call (bytes_Equal hB.own.slr (ha.grow hM)) ?_)
      rintro _ _ ⟨rfl, rfl⟩
      refine cond2 (fun h4 => ?_) (fun h4 => ?_)
      · rw [if_neg (fun e => by rw [decT e] at h4; cases h4)]
        exact ⟨hM, rfl⟩
      · have h4 : pack (unpack bs i) = bs := Classical.byContradiction fun e => by rw [decF e] at h4; cases h4
        rw [if_pos h4]
        exact ⟨hM, p, v, rfl, hB, by omega, hF⟩
end Go.Proofs.YtffjccofglikhaaGreat
