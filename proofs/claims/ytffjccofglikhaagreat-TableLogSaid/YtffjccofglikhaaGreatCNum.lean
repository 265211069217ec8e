/-
  num: numbers and texts as bytes.
-/
import Derived.Test.YtffjccofglikhaaGreatData
namespace Go.Proofs.YtffjccofglikhaaGreat
open Go Go.RowKit

/-- The bytes of a number's zigzag form (by a fuel, so that the kernel computes it). -/
def putG : Nat → Nat → List UInt8
  | 0, u => [UInt8.ofNat u]
  | n + 1, u => if u < 128 then [UInt8.ofNat u] else UInt8.ofNat (u % 128 + 128) :: putG n (u / 128)
def putU (u : Nat) : List UInt8 := putG u u
theorem putG_more : ∀ (n m u : Nat), u ≤ n → u ≤ m → putG n u = putG m u
  | 0, 0, u, _, _ => rfl
  | 0, m + 1, u, h, _ => by
    have : u = 0 := by omega
    subst this; rfl
  | n + 1, 0, u, _, h => by
    have : u = 0 := by omega
    subst this; rfl
  | n + 1, m + 1, u, h, h' => by
    unfold putG
    split
    · rfl
    · rw [putG_more n m (u / 128) (by omega) (by omega)]
def zig (n : Int) : Nat := (if n < 0 then -2 * n - 1 else 2 * n).toNat
def numPut (n : Int) : List UInt8 := putU (zig n)
theorem putU_def (u : Nat) : putU u = if u < 128 then [UInt8.ofNat u] else UInt8.ofNat (u % 128 + 128) :: putU (u / 128) := by
  unfold putU
  cases u with
  | zero => rfl
  | succ n =>
    conv => lhs; unfold putG
    split
    · rfl
    · rw [putG_more n ((n + 1) / 128) _ (by omega) (Nat.le_refl _)]
theorem putU_big {u : Nat} (h : ¬ u < 128) : putU u = UInt8.ofNat (u % 128 + 128) :: putU (u / 128) := by
  rw [putU_def, if_neg h]
theorem putU_small {u : Nat} (h : u < 128) : putU u = [UInt8.ofNat u] := by
  rw [putU_def, if_pos h]
theorem putU_len : ∀ (k u : Nat), u < 128 ^ k → 0 < k → (putU u).length ≤ k
  | 0, u, h, h0 => by omega
  | k + 1, u, h, _ => by
    rw [putU_def]
    split
    · simp
    · rename_i hu
      have hk : 0 < k := by
        rcases Nat.eq_zero_or_pos k with rfl | hk
        · simp at h; omega
        · exact hk
      have := putU_len k (u / 128) (by rw [Nat.pow_succ] at h; omega) hk
      simp only [List.length_cons]
      omega
theorem zig_lt {n : Int} (h0 : -9223372036854775808 ≤ n) (h1 : n ≤ 9223372036854775807) : zig n < 18446744073709551616 := by
  unfold zig; split <;> omega
theorem numPut_len {n : Int} (h0 : -9223372036854775808 ≤ n) (h1 : n ≤ 9223372036854775807) : (numPut n).length ≤ 10 :=
  putU_len 10 _ (by have := zig_lt h0 h1; omega) (by omega)

theorem wu64n (x : Int) : 0 ≤ IntKind.u64.wrap x ∧ IntKind.u64.wrap x < 18446744073709551616 := by
  simp only [IntKind.wrap, IntKind.bits, IntKind.signed, Bool.false_and, Bool.false_eq_true, if_false]
  omega
theorem iShl_1 (x : Int) : iShl .u64 x 1 = IntKind.u64.wrap (x * 2) := rfl
theorem shl1 {n : Int} (h0 : -9223372036854775808 ≤ n) (h1 : n ≤ 9223372036854775807) (h : ¬ n < 0) : iShl .u64 (IntKind.u64.wrap n) 1 = (zig n : Nat) := by
  have e1 : IntKind.u64.wrap n = n := wu64 (by omega) (by omega)
  rw [iShl_1, e1, wu64 (by omega) (by omega)]
  unfold zig
  rw [if_neg h]
  omega
theorem iNot_u64 {x : Int} (h0 : 0 ≤ x) (h1 : x < 18446744073709551616) : iNot .u64 x = 18446744073709551615 - x := by
  have e : iNot .u64 x = IntKind.u64.wrap (BitVec.ofInt 64 18446744073709551615 ^^^ BitVec.ofInt 64 x).toNat := rfl
  have e1 : BitVec.ofInt 64 18446744073709551615 = BitVec.allOnes 64 := by decide
  rw [e, e1, BitVec.allOnes_xor, BitVec.toNat_not, BitVec.toNat_ofInt]
  rw [wu64] <;> omega
theorem shl1n {n : Int} (h0 : -9223372036854775808 ≤ n) (h : n < 0) : iNot .u64 (iShl .u64 (IntKind.u64.wrap n) 1) = (zig n : Nat) := by
  rw [iShl_1, iNot_u64 (wu64n _).1 (wu64n _).2]
  unfold zig
  rw [if_pos h]
  simp only [IntKind.wrap, IntKind.bits, IntKind.signed, Bool.false_and, Bool.false_eq_true, if_false]
  omega
theorem or128 (u : Nat) : iOr .u8 (IntKind.u8.wrap (u : Int)) 128 = ((UInt8.ofNat (u % 128 + 128)).toNat : Int) := by
  have h : ∀ x : BitVec 8, (x ||| 128#8).toNat = x.toNat % 128 + 128 := by decide
  have e : iOr .u8 (IntKind.u8.wrap (u : Int)) 128 = IntKind.u8.wrap (BitVec.ofInt 8 (IntKind.u8.wrap (u : Int)) ||| 128#8).toNat := rfl
  rw [e, h, BitVec.toNat_ofInt]
  simp only [IntKind.wrap, IntKind.bits, IntKind.signed, Bool.false_and, Bool.false_eq_true, if_false, UInt8.toNat_ofNat']
  omega
theorem low8 {u : Nat} (h : u < 128) : IntKind.u8.wrap (u : Int) = ((UInt8.ofNat u).toNat : Int) := by
  rw [wu8 (by omega) (by omega), UInt8.toNat_ofNat']
  omega
theorem shr7 {u : Nat} : iShr .u64 (u : Int) 7 = ((u / 128 : Nat) : Int) := by
  have e : iShr .u64 (u : Int) 7 = (u : Int).fdiv 128 := rfl
  rw [e, Int.fdiv_eq_ediv_of_nonneg _ (by omega)]
  rfl

/-- A number behind what there is: the loop, and what stands behind it. -/
theorem num_Put {w : World} {b : Value} {xs : List UInt8} {n : Int} (hb : Own cB 5 w b xs) (h0 : -9223372036854775808 ≤ n) (h1 : n ≤ 9223372036854775807) (hl : xs.length ≤ 2147483000) :
    CallV P 136 [b, iV n] w fun v w' => Own cB 5 w' v (xs ++ numPut n) ∧ Mod (fun k => b.ownBlock = some k) w w' ∧ ∀ k, v.ownBlock = some k → b.ownBlock = some k ∨ w.heap.size ≤ k := by
  refine calls_of lay_is Tryz.func136 rfl (by kernel_rfl) ?_
  refine cond2 (fun h => ?_) (fun h => ?_)
  all_goals
    refine loop (σ := Value × List UInt8 × Nat) (fun s => [(0, s.1), (5, .int .u64 s.2.2)]) (fun s w' => Own cB 5 w' s.1 (xs ++ s.2.1) ∧ s.2.1 ++ putU s.2.2 = numPut n ∧ Mod (fun k => b.ownBlock = some k) w w' ∧ ∀ k, s.1.ownBlock = some k → b.ownBlock = some k ∨ w.heap.size ≤ k) (fun s _ => s.2.2) (b, [], zig n) ⟨rfl, ?_, trivial⟩ ⟨by rwa [List.append_nil], rfl, Mod.refl _ _, fun k hk => .inl hk⟩ ?_
    · first | exact congrArg (fun x => some (Value.int .u64 x)) (shl1n h0 (of_decT h)) | exact congrArg (fun x => some (Value.int .u64 x)) (shl1 h0 h1 (of_decF h))
    · rintro ⟨v, ys, u⟩ w1 ⟨ho, hy, hm, hf⟩
      dsimp only at *
      have hlen := numPut_len h0 h1
      have hlen' : ys.length + (putU u).length = (numPut n).length := by rw [← hy, List.length_append]
      have hpos : 0 < (putU u).length := by rw [putU_def]; split <;> simp
      refine cond2 (fun h => ?_) (fun h => ?_)
      · have h : (127 : Int) < u := of_decT h
        refine ⟨by decide, _, rfl, al fun b2 w2 e2 m2 s2 hb2 => ?_⟩
        refine app lay_is rfl (ho.grow m2) (Own.slr (xs := [UInt8.ofNat (u % 128 + 128)]) (Own.mk hb2 ?_ rfl (by unfold maxLen; simp))) (by simp; omega) fun v' w3 ho' hm' hf' => ?_
        · exact congrArg (fun x => [Value.int .u8 x]) (or128 u)
        · refine ⟨(v', ys ++ [UInt8.ofNat (u % 128 + 128)], u / 128), ⟨rfl, congrArg (fun x => some (Value.int .u64 x)) shr7, trivial⟩, ⟨by simpa using ho', ?_, ?_, ?_⟩, by show u / 128 < u; omega⟩
          · show (ys ++ [UInt8.ofNat (u % 128 + 128)]) ++ putU (u / 128) = _
            rw [← hy, putU_big (u := u) (by omega), List.append_assoc, List.singleton_append]
          · refine (hm.trn m2).tr hm' fun i hi hv => ?_
            rcases hf i hv with h | h
            · exact h
            · omega
          · intro k hk
            rcases hf' k hk with h | h
            · exact hf k h
            · right; have := hm.size; have := m2.size; omega
      · have h : ¬ (127 : Int) < u := of_decF h
        refine ⟨by decide, _, rfl, al fun b2 w2 e2 m2 s2 hb2 => ?_⟩
        refine app lay_is rfl (ho.grow m2) (Own.slr (xs := [UInt8.ofNat u]) (Own.mk hb2 ?_ rfl (by unfold maxLen; simp))) (by simp; omega) fun v' w3 ho' hm' hf' => ?_
        · exact congrArg (fun x => [Value.int .u8 x]) (low8 (u := u) (by omega))
        · refine ⟨?_, ?_, ?_⟩
          · have : numPut n = ys ++ [UInt8.ofNat u] := by rw [← hy, putU_small (u := u) (by omega)]
            show Own cB 5 w3 v' _
            rw [this]; simpa using ho'
          · refine (hm.trn m2).tr hm' fun i hi hv => ?_
            rcases hf i hv with h | h
            · exact h
            · omega
          · intro k hk
            rcases hf' k hk with h | h
            · exact hf k h
            · right; have := hm.size; have := m2.size; omega

/-! ### Get -/
/-- The number, how many bytes, the error. -/
abbrev Got := Int × Int × Int
def getFin (u : Int) (i : Nat) : Got := (if iAnd .u64 u 1 == 1 then iNot .i64 (IntKind.i64.wrap (iShr .u64 u 1)) else IntKind.i64.wrap (iShr .u64 u 1), i + 1, 0)
def getAcc (u : Int) (c : UInt8) (i : Nat) : Int := iOr .u64 u (iShl .u64 (IntKind.u64.wrap (iAnd .u8 c.toNat 127)) (IntKind.i64.wrap (7 * (i : Int))))
def getGo : List UInt8 → Nat → Int → Got
  | [], _, _ => (0, 0, 2)
  | c :: r, i, u => if i = 9 ∧ 1 < c.toNat then (0, 0, 1) else if 127 < c.toNat then getGo r (i + 1) (getAcc u c i) else if 0 < i ∧ c.toNat = 0 then (0, 0, 1) else getFin (getAcc u c i) i
def numGet (bs : List UInt8) : Got := getGo bs 0 0
def gotV (g : Got) : Value := .tuple #[iV g.1, iV g.2.1, iV g.2.2]
theorem num_Get {w : World} {v : Value} {bs : List UInt8} (hv : SlR cB w v bs) (hl : bs.length ≤ 2147483648) : CallV P 97 [v] w fun r w' => r = gotV (numGet bs) ∧ w' = w := by
  obtain ⟨a, cp, rfl⟩ := hv.len
  refine calls_of lay_is Tryz.func97 rfl (by kernel_rfl) ?_
  refine loop (σ := Nat × Int) (fun s => [(9, .slice a bs.length cp), (10, iV bs.length), (11, iV s.1), (5, .int .u64 s.2)]) (fun s w' => w' = w ∧ s.1 ≤ bs.length ∧ getGo (bs.drop s.1) s.1 s.2 = numGet bs) (fun s _ => bs.length - s.1) (0, 0) ⟨rfl, rfl, rfl, rfl, trivial⟩ ⟨rfl, Nat.zero_le _, rfl⟩ ?_
  rintro ⟨i, u⟩ w1 ⟨rfl, hi, hg⟩
  dsimp only at *
  refine cond2 (fun h => ?_) (fun h => ?_)
  · have h : (i : Int) < bs.length := of_decT h
    have hlt : i < bs.length := by omega
    obtain ⟨b, o, cp', e, hb, hr⟩ := hv.at (getE hlt)
    cases e
    have hd : bs.drop i = bs[i] :: bs.drop (i + 1) := List.drop_eq_getElem_cons hlt
    rw [hd] at hg
    generalize bs[i] = c at *
    have hc : c.toNat < 256 := c.toNat_lt
    unfold getGo at hg
    refine ⟨by omega, h, ld1r (j := 0) hr rfl ⟨fun h9 => cond2 (fun h1 => ?_) (fun h1 => ?_), fun h9 => condF rfl ?_⟩⟩
    · have h9 := eq_of_beq h9
      have h1 := of_decT h1
      rw [if_pos ⟨by omega, by omega⟩] at hg
      exact ⟨by rw [← hg]; rfl, rfl⟩
    all_goals
      have hne : ¬ (i = 9 ∧ 1 < c.toNat) := by
        rintro ⟨e1, e2⟩
        first
        | (have h1 := of_decF h1; omega)
        | (subst e1; cases h9)
      rw [if_neg hne] at hg
      refine ⟨by rw [w64] <;> omega, cond2 (fun h1 => ?_) (fun h1 => ?_)⟩
      · have h1 := of_decT h1
        rw [if_pos (by omega)] at hg
        exact ⟨(i + 1, getAcc u c i), ⟨rfl, rfl, congrArg some (ctr (by omega)), rfl, trivial⟩, ⟨rfl, hlt, hg⟩, by show bs.length - (i + 1) < bs.length - i; omega⟩
      · have h1 := of_decF h1
        rw [if_neg (by omega)] at hg
        refine ⟨fun h0 => cond2 (fun h2 => ?_) (fun h2 => ?_), fun h0 => condF rfl ?_⟩
        · have h0 := of_decT h0
          have h2 := eq_of_beq h2
          rw [if_pos ⟨by omega, by omega⟩] at hg
          exact ⟨by rw [← hg]; rfl, rfl⟩
        all_goals
          have hne : ¬ (0 < i ∧ c.toNat = 0) := by
            rintro ⟨e1, e2⟩
            first
            | (have h0 := of_decF h0; omega)
            | (rw [e2] at h2; cases h2)
          rw [if_neg hne] at hg
          refine cond2 (fun h2 => ?_) (fun h2 => ?_)
          all_goals
            refine ⟨?_, rfl⟩
            rw [← hg]
            unfold getFin
            have e1 : (iAnd .u64 (getAcc u c i) 1 == 1) = _ := h2
            have e2 : IntKind.i64.wrap ((i : Int) + 1) = i + 1 := w64 (by omega) (by omega)
            rw [e1, e2]
            rfl
  · have h : ¬ (i : Int) < bs.length := of_decF h
    have e : i = bs.length := by omega
    subst e
    rw [List.drop_length] at hg
    exact ⟨by rw [← hg]; rfl, rfl⟩

/-! ### Texts -/
theorem num_PutText {w : World} {b : Value} {xs : List UInt8} {s : Str} (hb : Own cB 5 w b xs) (hs : s.length ≤ 1000000000) (hl : xs.length ≤ 1000000000) :
    CallV P 191 [b, sV s] w fun v w' => Own cB 5 w' v (xs ++ (numPut s.length ++ s)) ∧ Mod (fun k => b.ownBlock = some k) w w' ∧ ∀ k, v.ownBlock = some k → b.ownBlock = some k ∨ w.heap.size ≤ k := by
  refine calls_of lay_is Tryz.func191 rfl (by kernel_rfl) ⟨(num_Put (n := s.length) hb (by omega) (by omega) (by omega)).mono ?_⟩
  rintro _ w1 ⟨v, rfl, ho, hm, hf⟩
  refine ⟨v, rfl, ?_⟩
  have hlen := numPut_len (n := s.length) (by omega) (by omega)
  refine app_src lay_is rfl (.inr strT) ho (ys := s) (src_str _ s) (by simp; omega) fun v' w2 ho' hm' hf' => ?_
  · refine ⟨by rwa [List.append_assoc] at ho', hm.tr hm' fun i hi hv => ?_, fun k hk => ?_⟩
    · rcases hf i hv with h | h
      · exact h
      · omega
    · rcases hf' k hk with h | h
      · exact hf k h
      · right; have := hm.size; omega

theorem wr64 (x : Int) : -9223372036854775808 ≤ IntKind.i64.wrap x ∧ IntKind.i64.wrap x ≤ 9223372036854775807 := by
  have h0 := Int.emod_nonneg x (b := 18446744073709551616) (by omega)
  have h1 := Int.emod_lt_of_pos x (b := 18446744073709551616) (by omega)
  have e : IntKind.i64.wrap x = if x % 18446744073709551616 ≥ 9223372036854775808 then x % 18446744073709551616 - 18446744073709551616 else x % 18446744073709551616 := by
    simp [IntKind.wrap, IntKind.bits, IntKind.signed]
  rw [e]
  split <;> omega
theorem wnot (x : Int) : -9223372036854775808 ≤ iNot .i64 x ∧ iNot .i64 x ≤ 9223372036854775807 := by
  exact wr64 _
theorem getGo_ok : ∀ (bs : List UInt8) (i : Nat) (u : Int), ((getGo bs i u).2.2 = 0 → (i : Int) < (getGo bs i u).2.1 ∧ (getGo bs i u).2.1 ≤ i + bs.length) ∧ (-9223372036854775808 ≤ (getGo bs i u).1 ∧ (getGo bs i u).1 ≤ 9223372036854775807) ∧ ((getGo bs i u).2.2 = 0 ∨ (getGo bs i u).2.2 = 1 ∨ (getGo bs i u).2.2 = 2)
  | [], i, u => by simp [getGo]
  | c :: r, i, u => by
    unfold getGo
    split
    · simp
    · split
      · obtain ⟨h1, h2, h3⟩ := getGo_ok r (i + 1) (getAcc u c i)
        refine ⟨fun h => ?_, h2, h3⟩
        have := h1 h
        simp only [List.length_cons]
        omega
      · split
        · simp
        · unfold getFin
          refine ⟨fun _ => by simp only [List.length_cons]; omega, ?_, .inl rfl⟩
          simp only
          split
          · exact wnot _
          · exact wr64 _
theorem numGet_ok {bs : List UInt8} (h : (numGet bs).2.2 = 0) : 0 < (numGet bs).2.1 ∧ (numGet bs).2.1 ≤ bs.length := by
  have := (getGo_ok bs 0 0).1 h
  unfold numGet
  omega
theorem numGet_rng (bs : List UInt8) : -9223372036854775808 ≤ (numGet bs).1 ∧ (numGet bs).1 ≤ 9223372036854775807 := (getGo_ok bs 0 0).2.1
def numGetText (bs : List UInt8) : Str × Int × Int :=
  if (numGet bs).2.2 ≠ 0 then ([], 0, (numGet bs).2.2) else if (numGet bs).1 < 0 ∨ 65536 < (numGet bs).1 then ([], 0, 1) else
  if (bs.length : Int) - (numGet bs).2.1 < (numGet bs).1 then ([], 0, 2) else ((bs.drop (numGet bs).2.1.toNat).take (numGet bs).1.toNat, (numGet bs).2.1 + (numGet bs).1, 0)
def gotTV (g : Str × Int × Int) : Value := .tuple #[sV g.1, iV g.2.1, iV g.2.2]
theorem num_GetText {w : World} {v : Value} {bs : List UInt8} (hv : SlR cB w v bs) (hl : bs.length ≤ 2147483648) : CallV P 195 [v] w fun r w' => r = gotTV (numGetText bs) ∧ w' = w := by
  refine calls_of lay_is Tryz.func195 rfl (by kernel_rfl) ⟨(num_Get hv hl).mono ?_⟩
  rintro _ _ ⟨_, rfl, rfl, rfl⟩
  refine ⟨_, rfl, ?_⟩
  have hok := @numGet_ok bs
  have hrg := numGet_rng bs
  unfold numGetText
  generalize numGet bs = g at *
  obtain ⟨n, k, e⟩ := g
  dsimp only at *
  refine cond2 (fun h => ?_) (fun h => ?_)
  · have h : e ≠ 0 := by simpa using h
    rw [if_pos h]
    exact ⟨rfl, rfl⟩
  · have h : e = 0 := by simpa using h
    subst h
    rw [if_neg (by simp)]
    obtain ⟨hk0, hk1⟩ := hok rfl
    refine ⟨fun h1 => condT rfl ?_, fun h1 => cond2 (fun h2 => ?_) (fun h2 => ?_)⟩
    · rw [if_pos (.inl (of_decT h1))]; exact ⟨rfl, rfl⟩
    · rw [if_pos (.inr (of_decT h2))]; exact ⟨rfl, rfl⟩
    · have h1 := of_decF h1
      have h2 := of_decF h2
      rw [if_neg (by omega)]
      have hne : bs ≠ [] := by rintro rfl; simp at hk1; omega
      obtain ⟨b, o, cp, rfl, hb, hr⟩ := hv.ne hne
      refine cond2 (fun h3 => ?_) (fun h3 => ?_)
      · have h3 : IntKind.i64.wrap ((bs.length : Int) - k) < n := of_decT h3
        rw [w64 (by omega) (by omega)] at h3
        rw [if_pos h3]; exact ⟨rfl, rfl⟩
      · have h3 : ¬ IntKind.i64.wrap ((bs.length : Int) - k) < n := of_decF h3
        rw [w64 (by omega) (by omega)] at h3
        rw [if_neg h3]
        have e1 : IntKind.i64.wrap (k + n) = k + n := w64 (by omega) (by omega)
        have hcp : bs.length ≤ cp := by obtain ⟨_, _, _, e, h5, h6, _⟩ := hv; cases e; omega
        refine ⟨Int.le_of_lt hk0, by rw [e1]; exact (by omega : k ≤ k + n), by rw [e1]; omega, ?_⟩
        refine conv_str bytesT strT (hv.sub (l := k.toNat) (r := (IntKind.i64.wrap (k + n)).toNat) (by rw [e1]; omega) (by rw [e1]; omega)) ?_
        refine ⟨?_, rfl⟩
        rw [e1, show (k + n).toNat - k.toNat = n.toNat by omega]
        rfl
end Go.Proofs.YtffjccofglikhaaGreat
