/-
  loessref1: Decode, Runes, Valid, MayVal; loessref6.Hash; loessref10.May.
-/
import Derived.Test.YtffjccofglikhaaGreatCNewest
namespace Go.Proofs.YtffjccofglikhaaGreat
open Go Go.RowKit

/-- The bytes that follow. -/
def rgo (s : Str) : Nat → Nat → Int → Option Int
  | 0, _, r => some r
  | k + 1, i, r => if (s.getD i 0).toNat < 128 ∨ 191 < (s.getD i 0).toNat then none else rgo s k (i + 1) (r * 64 + (s.getD i 0).toNat - 128)
abbrev Dec := Int × Int × Bool
def dbad : Dec := (65533, 1, false)
def dfin (n : Int) (low : Int) : Option Int → Dec
  | none => dbad
  | some r => if r < low ∨ 1114111 < r ∨ (55296 ≤ r ∧ r < 57344) then dbad else (r, n, true)
def dtry (s : Str) (n : Nat) (low r : Int) : Dec := if s.length < n then dbad else dfin n low (rgo s (n - 1) 1 r)
def refDec (s : Str) : Dec :=
  let c : Int := (s.getD 0 0).toNat
  if c < 128 then (c, 1, true) else
  if 192 ≤ c ∧ c < 224 then dtry s 2 128 (c - 192) else
  if 224 ≤ c ∧ c < 240 then dtry s 3 2048 (c - 224) else
  if 240 ≤ c ∧ c < 248 then dtry s 4 65536 (c - 240) else dbad
def decV (d : Dec) : Value := .tuple #[.int .i32 d.1, iV d.2.1, .bool d.2.2]
theorem bs_at {s : Str} {i : Nat} (h : i < s.length) : (⟨s.toArray⟩ : ByteArray)[i]? = some (s.getD i 0) := by
  have e : (⟨s.toArray⟩ : ByteArray)[i]? = s.toArray[i]? := rfl
  rw [e]
  simp [h]
theorem cc_and (a b : Bool) (h : (a && b) = true) : a = true ∧ b = true := by simpa using h
theorem ref1_Decode {w : World} {s : Str} (hs : s ≠ []) (hl : s.length ≤ 2147483000) : CallV P 163 [sV s] w fun r w' => r = decV (refDec s) ∧ w' = w := by
  have hpos : 0 < s.length := List.length_pos_iff.2 hs
  have hdef : refDec s = let c : Int := (s.getD 0 0).toNat
    if c < 128 then (c, 1, true) else
    if 192 ≤ c ∧ c < 224 then dtry s 2 128 (c - 192) else
    if 224 ≤ c ∧ c < 240 then dtry s 3 2048 (c - 224) else
    if 240 ≤ c ∧ c < 248 then dtry s 4 65536 (c - 240) else dbad := rfl
  dsimp only at hdef
  have hat := bs_at hpos
  generalize s.getD 0 0 = b0 at *
  have hc8 := b0.toNat_lt
  obtain ⟨c, hc⟩ : ∃ c : Int, c = (b0.toNat : Int) := ⟨_, rfl⟩
  rw [← hc] at hdef
  have hc0 : 0 ≤ c := by omega
  have hc1 : c < 256 := by omega
  have hstr : ∀ K : Value → Prop, K (.int .u8 c) → StrI ⟨s.toArray⟩ 0 K := fun K hk => ⟨by omega, b0, hat, by rw [← hc]; exact hk⟩
  clear hat hc8
  refine calls_of lay_is Tryz.func163 rfl (by kernel_rfl) (hstr _ ?_)
  refine cond2 (fun h1 => ?_) (fun h1 => ?_)
  · have h1 : c < 128 := of_decT h1
    rw [if_pos h1] at hdef
    refine ⟨?_, rfl⟩
    rw [hdef]
    show Value.tuple #[.int .i32 (IntKind.i32.wrap c), iV 1, .bool true] = _
    rw [w32 (by omega) (by omega)]; rfl
  · have h1 : ¬ c < 128 := of_decF h1
    rw [if_neg h1] at hdef
    have w1 : IntKind.i32.wrap c = c := w32 (by omega) (by omega)
    have bad : ¬ (192 ≤ c ∧ c < 224) → ¬ (224 ≤ c ∧ c < 240) → ¬ (240 ≤ c ∧ c < 248) → refDec s = dbad := fun a b d => by rw [hdef, if_neg a, if_neg b, if_neg d]
    refine ⟨fun h2 => cond2 (fun h3 => ?_) (fun h3 => ⟨fun h4 => cond2 (fun h5 => ?_) (fun h5 => ⟨fun h6 => cond2 (fun h7 => ?_) (fun h7 => ?_), fun h6 => condF rfl ?_⟩), fun h4 => condF rfl ⟨fun h6 => ?_, fun h6 => condF rfl ?_⟩⟩), fun h2 => condF rfl ⟨fun h4 => ?_, fun h4 => condF rfl ⟨fun h6 => ?_, fun h6 => condF rfl ?_⟩⟩⟩
    · have h2 : 192 ≤ c := of_decT h2
      have h3 : c < 224 := of_decT h3
      have hd : refDec s = dtry s 2 128 (c - 192) := by rw [hdef]; rw [if_pos ⟨h2, h3⟩]
      have hw : IntKind.i32.wrap (IntKind.i32.wrap c - 192) = c - 192 := by rw [w1, w32 (by omega) (by omega)]
      have hr0 : 0 ≤ c - 192 := by omega
      have hr1 : c - 192 < 32 := by omega
      clear hdef
      obtain ⟨r0, hr⟩ : ∃ r0, r0 = c - 192 := ⟨_, rfl⟩
      have hw : IntKind.i32.wrap (IntKind.i32.wrap c - 192) = r0 := by rw [hr]; exact hw
      rw [← hr] at hd hr0 hr1
      refine cond2 (fun h8 => ?_) (fun h8 => ?_)
      · have h8 : (s.length : Int) < 2 := of_decT h8
        rw [hd, dtry, if_pos (by omega)]
        exact ⟨rfl, rfl⟩
      · have h8 : ¬ (s.length : Int) < 2 := of_decF h8
        rw [dtry, if_neg (by omega)] at hd
        refine loop (σ := Nat × Int) (fun st => [(0, sV s), (6, iV 2), (7, .int .i32 128), (8, .int .i32 st.2), (9, iV st.1)]) (fun st w' => w' = w ∧ 1 ≤ st.1 ∧ st.1 ≤ 2 ∧ rgo s (2 - st.1) st.1 st.2 = rgo s (2 - 1) 1 r0 ∧ 0 ≤ st.2 ∧ (st.1 = 1 → st.2 < 32) ∧ (st.1 = 2 → st.2 < 2048) ∧ (st.1 = 3 → st.2 < 131072) ∧ (st.1 = 4 → st.2 < 8388608)) (fun st _ => 2 - st.1) (1, r0) ⟨rfl, rfl, rfl, congrArg (fun x => some (Value.int .i32 x)) hw, rfl, trivial⟩ ⟨rfl, by omega, by omega, rfl, hr0, by omega, by omega, by omega, by omega⟩ ?_
        rintro ⟨i, r⟩ w2 ⟨rfl, hi1, hi2, hG, g0, g1, g2, g3, g4⟩
        dsimp only at *
        refine cond2 (fun h9 => ?_) (fun h9 => ?_)
        · have h9 : (i : Int) < 2 := of_decT h9
          have hlt : i < s.length := by omega
          have hat := bs_at hlt
          rw [show 2 - i = (2 - (i + 1)) + 1 by omega, rgo] at hG
          generalize s.getD i 0 = b1 at *
          have hb8 := b1.toNat_lt
          have hS : ∀ K : Value → Prop, K (.int .u8 (b1.toNat : Nat)) → StrI ⟨s.toArray⟩ (i : Int) K := fun K hk => ⟨by omega, b1, hat, hk⟩
          clear hat
          refine hS _ ⟨fun h10 => condT rfl ?_, fun h10 => hS _ (cond2 (fun h11 => ?_) (fun h11 => ?_))⟩
          · have h10 : (b1.toNat : Int) < 128 := of_decT h10
            rw [if_pos (by omega)] at hG
            rw [hd, ← hG]
            exact ⟨rfl, rfl⟩
          · have h11 : (191 : Int) < b1.toNat := of_decT h11
            rw [if_pos (by omega)] at hG
            rw [hd, ← hG]
            exact ⟨rfl, rfl⟩
          · have h10 : ¬ (b1.toNat : Int) < 128 := of_decF h10
            have h11 : ¬ (191 : Int) < b1.toNat := of_decF h11
            rw [if_neg (by omega)] at hG
            refine hS _ ?_
            clear hS
            generalize b1.toNat = x at *
            have e1 : IntKind.i32.wrap (r * 64) = r * 64 := w32 (by omega) (by omega)
            have e2 : IntKind.i32.wrap (x : Int) = x := w32 (by omega) (by omega)
            have e3 : IntKind.i32.wrap (r * 64 + x) = r * 64 + x := w32 (by omega) (by omega)
            have e4 : IntKind.i32.wrap (r * 64 + x - 128) = r * 64 + x - 128 := w32 (by omega) (by omega)
            refine ⟨(i + 1, r * 64 + x - 128), ⟨rfl, rfl, rfl, ?_, congrArg some (ctr (by omega)), trivial⟩, ⟨rfl, by omega, by show i + 1 ≤ _; omega, hG, by show 0 ≤ r * 64 + (x : Int) - 128; omega, ?_, ?_, ?_, ?_⟩, by show 2 - (i + 1) < 2 - i; omega⟩
            · show some (Value.int .i32 (IntKind.i32.wrap (IntKind.i32.wrap (IntKind.i32.wrap (r * 64) + IntKind.i32.wrap (x : Int)) - 128))) = _
              rw [e1, e2, e3, e4]
            all_goals (show i + 1 = _ → r * 64 + (x : Int) - 128 < _; omega)
        · have h9 : ¬ (i : Int) < 2 := of_decF h9
          have hin : i = 2 := by omega
          subst hin
          rw [rgo] at hG
          rw [← hG, dfin] at hd
          refine ⟨fun h10 => ⟨fun _ => condT rfl ?_, nofun⟩, fun h10 => ⟨fun h11 => condT rfl ?_, fun h11 => ⟨fun h12 => cond2 (fun h13 => ?_) (fun h13 => ?_), fun h12 => condF rfl ?_⟩⟩⟩
          · have h10 : r < 128 := of_decT h10
            rw [hd, if_pos (by omega)]
            exact ⟨rfl, rfl⟩
          · have h11 : 1114111 < r := of_decT h11
            rw [hd, if_pos (by omega)]
            exact ⟨rfl, rfl⟩
          · have h12 : 55296 ≤ r := of_decT h12
            have h13 : r < 57344 := of_decT h13
            rw [hd, if_pos (by omega)]
            exact ⟨rfl, rfl⟩
          · have h10 : ¬ r < 128 := of_decF h10
            have h11 : ¬ 1114111 < r := of_decF h11
            have h13 : ¬ r < 57344 := of_decF h13
            rw [hd, if_neg (by omega)]
            exact ⟨rfl, rfl⟩
          · have h10 : ¬ r < 128 := of_decF h10
            have h11 : ¬ 1114111 < r := of_decF h11
            have h12 : ¬ 55296 ≤ r := of_decF h12
            rw [hd, if_neg (by omega)]
            exact ⟨rfl, rfl⟩
    · have h3 : ¬ c < 224 := of_decF h3
      have h4 : 224 ≤ c := of_decT h4
      have h5 : c < 240 := of_decT h5
      have hd : refDec s = dtry s 3 2048 (c - 224) := by rw [hdef]; rw [if_neg (by omega), if_pos ⟨h4, h5⟩]
      have hw : IntKind.i32.wrap (IntKind.i32.wrap c - 224) = c - 224 := by rw [w1, w32 (by omega) (by omega)]
      have hr0 : 0 ≤ c - 224 := by omega
      have hr1 : c - 224 < 32 := by omega
      clear hdef
      obtain ⟨r0, hr⟩ : ∃ r0, r0 = c - 224 := ⟨_, rfl⟩
      have hw : IntKind.i32.wrap (IntKind.i32.wrap c - 224) = r0 := by rw [hr]; exact hw
      rw [← hr] at hd hr0 hr1
      refine cond2 (fun h8 => ?_) (fun h8 => ?_)
      · have h8 : (s.length : Int) < 3 := of_decT h8
        rw [hd, dtry, if_pos (by omega)]
        exact ⟨rfl, rfl⟩
      · have h8 : ¬ (s.length : Int) < 3 := of_decF h8
        rw [dtry, if_neg (by omega)] at hd
        refine loop (σ := Nat × Int) (fun st => [(0, sV s), (6, iV 3), (7, .int .i32 2048), (8, .int .i32 st.2), (9, iV st.1)]) (fun st w' => w' = w ∧ 1 ≤ st.1 ∧ st.1 ≤ 3 ∧ rgo s (3 - st.1) st.1 st.2 = rgo s (3 - 1) 1 r0 ∧ 0 ≤ st.2 ∧ (st.1 = 1 → st.2 < 32) ∧ (st.1 = 2 → st.2 < 2048) ∧ (st.1 = 3 → st.2 < 131072) ∧ (st.1 = 4 → st.2 < 8388608)) (fun st _ => 3 - st.1) (1, r0) ⟨rfl, rfl, rfl, congrArg (fun x => some (Value.int .i32 x)) hw, rfl, trivial⟩ ⟨rfl, by omega, by omega, rfl, hr0, by omega, by omega, by omega, by omega⟩ ?_
        rintro ⟨i, r⟩ w2 ⟨rfl, hi1, hi2, hG, g0, g1, g2, g3, g4⟩
        dsimp only at *
        refine cond2 (fun h9 => ?_) (fun h9 => ?_)
        · have h9 : (i : Int) < 3 := of_decT h9
          have hlt : i < s.length := by omega
          have hat := bs_at hlt
          rw [show 3 - i = (3 - (i + 1)) + 1 by omega, rgo] at hG
          generalize s.getD i 0 = b1 at *
          have hb8 := b1.toNat_lt
          have hS : ∀ K : Value → Prop, K (.int .u8 (b1.toNat : Nat)) → StrI ⟨s.toArray⟩ (i : Int) K := fun K hk => ⟨by omega, b1, hat, hk⟩
          clear hat
          refine hS _ ⟨fun h10 => condT rfl ?_, fun h10 => hS _ (cond2 (fun h11 => ?_) (fun h11 => ?_))⟩
          · have h10 : (b1.toNat : Int) < 128 := of_decT h10
            rw [if_pos (by omega)] at hG
            rw [hd, ← hG]
            exact ⟨rfl, rfl⟩
          · have h11 : (191 : Int) < b1.toNat := of_decT h11
            rw [if_pos (by omega)] at hG
            rw [hd, ← hG]
            exact ⟨rfl, rfl⟩
          · have h10 : ¬ (b1.toNat : Int) < 128 := of_decF h10
            have h11 : ¬ (191 : Int) < b1.toNat := of_decF h11
            rw [if_neg (by omega)] at hG
            refine hS _ ?_
            clear hS
            generalize b1.toNat = x at *
            have e1 : IntKind.i32.wrap (r * 64) = r * 64 := w32 (by omega) (by omega)
            have e2 : IntKind.i32.wrap (x : Int) = x := w32 (by omega) (by omega)
            have e3 : IntKind.i32.wrap (r * 64 + x) = r * 64 + x := w32 (by omega) (by omega)
            have e4 : IntKind.i32.wrap (r * 64 + x - 128) = r * 64 + x - 128 := w32 (by omega) (by omega)
            refine ⟨(i + 1, r * 64 + x - 128), ⟨rfl, rfl, rfl, ?_, congrArg some (ctr (by omega)), trivial⟩, ⟨rfl, by omega, by show i + 1 ≤ _; omega, hG, by show 0 ≤ r * 64 + (x : Int) - 128; omega, ?_, ?_, ?_, ?_⟩, by show 3 - (i + 1) < 3 - i; omega⟩
            · show some (Value.int .i32 (IntKind.i32.wrap (IntKind.i32.wrap (IntKind.i32.wrap (r * 64) + IntKind.i32.wrap (x : Int)) - 128))) = _
              rw [e1, e2, e3, e4]
            all_goals (show i + 1 = _ → r * 64 + (x : Int) - 128 < _; omega)
        · have h9 : ¬ (i : Int) < 3 := of_decF h9
          have hin : i = 3 := by omega
          subst hin
          rw [rgo] at hG
          rw [← hG, dfin] at hd
          refine ⟨fun h10 => ⟨fun _ => condT rfl ?_, nofun⟩, fun h10 => ⟨fun h11 => condT rfl ?_, fun h11 => ⟨fun h12 => cond2 (fun h13 => ?_) (fun h13 => ?_), fun h12 => condF rfl ?_⟩⟩⟩
          · have h10 : r < 2048 := of_decT h10
            rw [hd, if_pos (by omega)]
            exact ⟨rfl, rfl⟩
          · have h11 : 1114111 < r := of_decT h11
            rw [hd, if_pos (by omega)]
            exact ⟨rfl, rfl⟩
          · have h12 : 55296 ≤ r := of_decT h12
            have h13 : r < 57344 := of_decT h13
            rw [hd, if_pos (by omega)]
            exact ⟨rfl, rfl⟩
          · have h10 : ¬ r < 2048 := of_decF h10
            have h11 : ¬ 1114111 < r := of_decF h11
            have h13 : ¬ r < 57344 := of_decF h13
            rw [hd, if_neg (by omega)]
            exact ⟨rfl, rfl⟩
          · have h10 : ¬ r < 2048 := of_decF h10
            have h11 : ¬ 1114111 < r := of_decF h11
            have h12 : ¬ 55296 ≤ r := of_decF h12
            rw [hd, if_neg (by omega)]
            exact ⟨rfl, rfl⟩
    · have h5 : ¬ c < 240 := of_decF h5
      have h6 : 240 ≤ c := of_decT h6
      have h7 : c < 248 := of_decT h7
      have hd : refDec s = dtry s 4 65536 (c - 240) := by rw [hdef]; rw [if_neg (by omega), if_neg (by omega), if_pos ⟨h6, h7⟩]
      have hw : IntKind.i32.wrap (IntKind.i32.wrap c - 240) = c - 240 := by rw [w1, w32 (by omega) (by omega)]
      have hr0 : 0 ≤ c - 240 := by omega
      have hr1 : c - 240 < 32 := by omega
      clear hdef
      obtain ⟨r0, hr⟩ : ∃ r0, r0 = c - 240 := ⟨_, rfl⟩
      have hw : IntKind.i32.wrap (IntKind.i32.wrap c - 240) = r0 := by rw [hr]; exact hw
      rw [← hr] at hd hr0 hr1
      refine cond2 (fun h8 => ?_) (fun h8 => ?_)
      · have h8 : (s.length : Int) < 4 := of_decT h8
        rw [hd, dtry, if_pos (by omega)]
        exact ⟨rfl, rfl⟩
      · have h8 : ¬ (s.length : Int) < 4 := of_decF h8
        rw [dtry, if_neg (by omega)] at hd
        refine loop (σ := Nat × Int) (fun st => [(0, sV s), (6, iV 4), (7, .int .i32 65536), (8, .int .i32 st.2), (9, iV st.1)]) (fun st w' => w' = w ∧ 1 ≤ st.1 ∧ st.1 ≤ 4 ∧ rgo s (4 - st.1) st.1 st.2 = rgo s (4 - 1) 1 r0 ∧ 0 ≤ st.2 ∧ (st.1 = 1 → st.2 < 32) ∧ (st.1 = 2 → st.2 < 2048) ∧ (st.1 = 3 → st.2 < 131072) ∧ (st.1 = 4 → st.2 < 8388608)) (fun st _ => 4 - st.1) (1, r0) ⟨rfl, rfl, rfl, congrArg (fun x => some (Value.int .i32 x)) hw, rfl, trivial⟩ ⟨rfl, by omega, by omega, rfl, hr0, by omega, by omega, by omega, by omega⟩ ?_
        rintro ⟨i, r⟩ w2 ⟨rfl, hi1, hi2, hG, g0, g1, g2, g3, g4⟩
        dsimp only at *
        refine cond2 (fun h9 => ?_) (fun h9 => ?_)
        · have h9 : (i : Int) < 4 := of_decT h9
          have hlt : i < s.length := by omega
          have hat := bs_at hlt
          rw [show 4 - i = (4 - (i + 1)) + 1 by omega, rgo] at hG
          generalize s.getD i 0 = b1 at *
          have hb8 := b1.toNat_lt
          have hS : ∀ K : Value → Prop, K (.int .u8 (b1.toNat : Nat)) → StrI ⟨s.toArray⟩ (i : Int) K := fun K hk => ⟨by omega, b1, hat, hk⟩
          clear hat
          refine hS _ ⟨fun h10 => condT rfl ?_, fun h10 => hS _ (cond2 (fun h11 => ?_) (fun h11 => ?_))⟩
          · have h10 : (b1.toNat : Int) < 128 := of_decT h10
            rw [if_pos (by omega)] at hG
            rw [hd, ← hG]
            exact ⟨rfl, rfl⟩
          · have h11 : (191 : Int) < b1.toNat := of_decT h11
            rw [if_pos (by omega)] at hG
            rw [hd, ← hG]
            exact ⟨rfl, rfl⟩
          · have h10 : ¬ (b1.toNat : Int) < 128 := of_decF h10
            have h11 : ¬ (191 : Int) < b1.toNat := of_decF h11
            rw [if_neg (by omega)] at hG
            refine hS _ ?_
            clear hS
            generalize b1.toNat = x at *
            have e1 : IntKind.i32.wrap (r * 64) = r * 64 := w32 (by omega) (by omega)
            have e2 : IntKind.i32.wrap (x : Int) = x := w32 (by omega) (by omega)
            have e3 : IntKind.i32.wrap (r * 64 + x) = r * 64 + x := w32 (by omega) (by omega)
            have e4 : IntKind.i32.wrap (r * 64 + x - 128) = r * 64 + x - 128 := w32 (by omega) (by omega)
            refine ⟨(i + 1, r * 64 + x - 128), ⟨rfl, rfl, rfl, ?_, congrArg some (ctr (by omega)), trivial⟩, ⟨rfl, by omega, by show i + 1 ≤ _; omega, hG, by show 0 ≤ r * 64 + (x : Int) - 128; omega, ?_, ?_, ?_, ?_⟩, by show 4 - (i + 1) < 4 - i; omega⟩
            · show some (Value.int .i32 (IntKind.i32.wrap (IntKind.i32.wrap (IntKind.i32.wrap (r * 64) + IntKind.i32.wrap (x : Int)) - 128))) = _
              rw [e1, e2, e3, e4]
            all_goals (show i + 1 = _ → r * 64 + (x : Int) - 128 < _; omega)
        · have h9 : ¬ (i : Int) < 4 := of_decF h9
          have hin : i = 4 := by omega
          subst hin
          rw [rgo] at hG
          rw [← hG, dfin] at hd
          refine ⟨fun h10 => ⟨fun _ => condT rfl ?_, nofun⟩, fun h10 => ⟨fun h11 => condT rfl ?_, fun h11 => ⟨fun h12 => cond2 (fun h13 => ?_) (fun h13 => ?_), fun h12 => condF rfl ?_⟩⟩⟩
          · have h10 : r < 65536 := of_decT h10
            rw [hd, if_pos (by omega)]
            exact ⟨rfl, rfl⟩
          · have h11 : 1114111 < r := of_decT h11
            rw [hd, if_pos (by omega)]
            exact ⟨rfl, rfl⟩
          · have h12 : 55296 ≤ r := of_decT h12
            have h13 : r < 57344 := of_decT h13
            rw [hd, if_pos (by omega)]
            exact ⟨rfl, rfl⟩
          · have h10 : ¬ r < 65536 := of_decF h10
            have h11 : ¬ 1114111 < r := of_decF h11
            have h13 : ¬ r < 57344 := of_decF h13
            rw [hd, if_neg (by omega)]
            exact ⟨rfl, rfl⟩
          · have h10 : ¬ r < 65536 := of_decF h10
            have h11 : ¬ 1114111 < r := of_decF h11
            have h12 : ¬ 55296 ≤ r := of_decF h12
            rw [hd, if_neg (by omega)]
            exact ⟨rfl, rfl⟩
    · have h7 : ¬ c < 248 := of_decF h7
      rw [bad (by omega) (by omega) (by omega)]
      exact ⟨rfl, rfl⟩
    · have h5 : ¬ c < 240 := of_decF h5
      have h6 : ¬ 240 ≤ c := of_decF h6
      exact absurd h5 (by omega)
    · have h3 : ¬ c < 224 := of_decF h3
      have h4 : ¬ 224 ≤ c := of_decF h4
      have h6 : 240 ≤ c := of_decT h6
      exact absurd h4 (by omega)
    · have h3 : ¬ c < 224 := of_decF h3
      have h4 : ¬ 224 ≤ c := of_decF h4
      exact absurd h4 (by omega)
    · have h2 : ¬ 192 ≤ c := of_decF h2
      have h4 : 224 ≤ c := of_decT h4
      exact absurd h2 (by omega)
    · have h2 : ¬ 192 ≤ c := of_decF h2
      have h6 : 240 ≤ c := of_decT h6
      exact absurd h2 (by omega)
    · have h2 : ¬ 192 ≤ c := of_decF h2
      rw [bad (by omega) (by omega) (by omega)]
      exact ⟨rfl, rfl⟩

/-- It is what the model's range over a string tells. -/
theorem bs_get (s : Str) (i : Nat) : (⟨s.toArray⟩ : ByteArray).get! i = s.getD i 0 := by
  show s.toArray[i]! = _
  rw [getElem!_def]
  simp only [List.getElem?_toArray, List.getD_eq_getElem?_getD]
  cases s[i]? <;> rfl
theorem dec_shift (s : Str) (i : Nat) : Utf8.decode ⟨(s.drop i).toArray⟩ 0 = Utf8.decode ⟨s.toArray⟩ i := by
  have h1 : ∀ k, (⟨(s.drop i).toArray⟩ : ByteArray).get! (0 + k) = (⟨s.toArray⟩ : ByteArray).get! (i + k) := by
    intro k
    rw [bs_get, bs_get, List.getD_eq_getElem?_getD, List.getD_eq_getElem?_getD, List.getElem?_drop, Nat.zero_add]
  have h2 : ∀ k, decide (0 + k < (⟨(s.drop i).toArray⟩ : ByteArray).size) = decide (i + k < (⟨s.toArray⟩ : ByteArray).size) := by
    intro k
    have e1 : (⟨(s.drop i).toArray⟩ : ByteArray).size = s.length - i := by show (s.drop i).length = _; rw [List.length_drop]
    have e2 : (⟨s.toArray⟩ : ByteArray).size = s.length := rfl
    rw [e1, e2]
    exact decide_eq_decide.2 ⟨fun h => by omega, fun h => by omega⟩
  unfold Utf8.decode
  simp only [h1, h2]
/-- The decoder on its four bytes and the length. -/
def dmod (l x0 x1 x2 x3 : Nat) : Nat × Nat :=
  if x0 < 128 then (x0, 1)
  else if x0 / 32 = 6 ∧ 1 < l ∧ x1 / 64 = 2 then
    if x0 % 32 * 64 + x1 % 64 ≥ 128 then (x0 % 32 * 64 + x1 % 64, 2) else (65533, 1)
  else if x0 / 16 = 14 ∧ 1 < l ∧ x1 / 64 = 2 ∧ 2 < l ∧ x2 / 64 = 2 then
    let c := x0 % 16 * 4096 + x1 % 64 * 64 + x2 % 64
    if c ≥ 2048 ∧ (c < 55296 ∨ 57344 ≤ c) then (c, 3) else (65533, 1)
  else if x0 / 8 = 30 ∧ 1 < l ∧ x1 / 64 = 2 ∧ 2 < l ∧ x2 / 64 = 2 ∧ 3 < l ∧ x3 / 64 = 2 then
    let c := x0 % 8 * 262144 + x1 % 64 * 4096 + x2 % 64 * 64 + x3 % 64
    if c ≥ 65536 ∧ c ≤ 1114111 then (c, 4) else (65533, 1)
  else (65533, 1)
theorem dmod_is (s : Str) : Utf8.decode ⟨s.toArray⟩ 0 = dmod s.length (s.getD 0 0).toNat (s.getD 1 0).toNat (s.getD 2 0).toNat (s.getD 3 0).toNat := by
  have hsz : (⟨s.toArray⟩ : ByteArray).size = s.length := rfl
  have c0 := (s.getD 0 0).toNat_lt
  have c1 := (s.getD 1 0).toNat_lt
  have c2 := (s.getD 2 0).toNat_lt
  have c3 := (s.getD 3 0).toNat_lt
  unfold Utf8.decode dmod
  simp only [bs_get, hsz, Nat.zero_add, Nat.add_zero, Utf8.runeError, Utf8.valid]
  generalize (s.getD 0 0).toNat = x0 at *
  generalize (s.getD 1 0).toNat = x1 at *
  generalize (s.getD 2 0).toNat = x2 at *
  generalize (s.getD 3 0).toNat = x3 at *
  generalize s.length = l at *
  simp only [Bool.and_eq_true, Bool.or_eq_true, decide_eq_true_eq, beq_iff_eq]
  by_cases h0 : x0 < 128
  · rw [if_pos h0, if_pos h0]
  · rw [if_neg h0, if_neg h0]
    by_cases h1 : x0 / 32 = 6 ∧ 1 < l ∧ x1 / 64 = 2
    · rw [if_pos h1, if_pos h1]
    · rw [if_neg h1, if_neg h1]
      by_cases h2 : x0 / 16 = 14 ∧ 1 < l ∧ x1 / 64 = 2 ∧ 2 < l ∧ x2 / 64 = 2
      · rw [if_pos (by omega), if_pos h2]
        generalize hc : x0 % 16 * 4096 + x1 % 64 * 64 + x2 % 64 = c
        have : c ≤ 1114111 := by omega
        by_cases h3 : c ≥ 2048 ∧ (c < 55296 ∨ 57344 ≤ c)
        · rw [if_pos h3, if_pos (by omega)]
        · rw [if_neg h3, if_neg (by omega)]
      · rw [if_neg (by omega), if_neg h2]
        by_cases h3 : x0 / 8 = 30 ∧ 1 < l ∧ x1 / 64 = 2 ∧ 2 < l ∧ x2 / 64 = 2 ∧ 3 < l ∧ x3 / 64 = 2
        · rw [if_pos (by omega), if_pos h3]
          generalize hc : x0 % 8 * 262144 + x1 % 64 * 4096 + x2 % 64 * 64 + x3 % 64 = c
          by_cases h4 : c ≥ 65536 ∧ c ≤ 1114111
          · rw [if_pos (by omega), if_pos h4]
          · rw [if_neg (by omega), if_neg h4]
        · rw [if_neg (by omega), if_neg h3]
theorem dec_is {s : Str} (hs : s ≠ []) : refDec s = (((Utf8.decode ⟨s.toArray⟩ 0).1 : Int), ((Utf8.decode ⟨s.toArray⟩ 0).2 : Int), decide (Utf8.decode ⟨s.toArray⟩ 0 ≠ (65533, 1))) := by
  rw [dmod_is s]
  have hpos : 0 < s.length := List.length_pos_iff.2 hs
  have c0 := (s.getD 0 0).toNat_lt
  have c1 := (s.getD 1 0).toNat_lt
  have c2 := (s.getD 2 0).toNat_lt
  have c3 := (s.getD 3 0).toNat_lt
  unfold refDec dtry
  simp only [rgo, Nat.reduceSub, Nat.reduceAdd]
  generalize (s.getD 0 0).toNat = x0 at *
  generalize (s.getD 1 0).toNat = x1 at *
  generalize (s.getD 2 0).toNat = x2 at *
  generalize (s.getD 3 0).toNat = x3 at *
  generalize s.length = l at *
  have ok : ∀ (a : Nat) (n : Nat), n ≠ 1 → decide ((a, n) ≠ ((65533 : Nat), (1 : Nat))) = true := fun a n h => by simp [h]
  have bad : ((((65533 : Nat), (1 : Nat)).1 : Int), (((65533 : Nat), (1 : Nat)).2 : Int), decide (((65533 : Nat), (1 : Nat)) ≠ ((65533 : Nat), (1 : Nat)))) = dbad := by simp [dbad]
  by_cases h0 : x0 < 128
  · have hm : dmod l x0 x1 x2 x3 = (x0, 1) := by unfold dmod; rw [if_pos h0]
    rw [hm, if_pos (by omega)]
    have : decide ((x0, 1) ≠ ((65533 : Nat), (1 : Nat))) = true := by simp; omega
    rw [this]; rfl
  · rw [if_neg (by omega)]
    by_cases h1 : x0 / 32 = 6
    · rw [if_pos (by omega)]
      by_cases hl : x0 / 32 = 6 ∧ 1 < l ∧ x1 / 64 = 2
      · have hm : dmod l x0 x1 x2 x3 = if x0 % 32 * 64 + x1 % 64 ≥ 128 then (x0 % 32 * 64 + x1 % 64, 2) else (65533, 1) := by unfold dmod; rw [if_neg h0, if_pos hl]
        rw [hm, if_neg (by omega), if_neg (by omega)]
        unfold dfin
        by_cases h3 : x0 % 32 * 64 + x1 % 64 ≥ 128
        · rw [if_pos h3, ok _ 2 (by omega)]
          dsimp only
          rw [if_neg (by omega)]
          simp only [Prod.mk.injEq, and_true]
          omega
        · rw [if_neg h3, bad]; dsimp only; rw [if_pos (by omega)]
      · have hm : dmod l x0 x1 x2 x3 = (65533, 1) := by unfold dmod; rw [if_neg h0, if_neg hl, if_neg (by omega), if_neg (by omega)]
        rw [hm, bad]
        by_cases h3 : l < 2
        · rw [if_pos h3]
        · rw [if_neg h3, if_pos (by omega)]; rfl
    · rw [if_neg (by omega)]
      by_cases h2 : x0 / 16 = 14
      · rw [if_pos (by omega)]
        by_cases hl : x0 / 16 = 14 ∧ 1 < l ∧ x1 / 64 = 2 ∧ 2 < l ∧ x2 / 64 = 2
        · have hm : dmod l x0 x1 x2 x3 = let c := x0 % 16 * 4096 + x1 % 64 * 64 + x2 % 64
            if c ≥ 2048 ∧ (c < 55296 ∨ 57344 ≤ c) then (c, 3) else (65533, 1) := by unfold dmod; rw [if_neg h0, if_neg (by omega), if_pos hl]
          rw [hm, if_neg (by omega), if_neg (by omega), if_neg (by omega)]
          unfold dfin
          dsimp only
          by_cases h3 : x0 % 16 * 4096 + x1 % 64 * 64 + x2 % 64 ≥ 2048 ∧ (x0 % 16 * 4096 + x1 % 64 * 64 + x2 % 64 < 55296 ∨ 57344 ≤ x0 % 16 * 4096 + x1 % 64 * 64 + x2 % 64)
          · rw [if_pos h3, ok _ 3 (by omega), if_neg (by omega)]
            simp only [Prod.mk.injEq, and_true]
            omega
          · rw [if_neg h3, bad, if_pos (by omega)]
        · have hm : dmod l x0 x1 x2 x3 = (65533, 1) := by unfold dmod; rw [if_neg h0, if_neg (by omega), if_neg hl, if_neg (by omega)]
          rw [hm, bad]
          by_cases h3 : l < 3
          · rw [if_pos h3]
          · rw [if_neg h3]
            by_cases h4 : x1 < 128 ∨ 191 < x1
            · rw [if_pos h4]; rfl
            · rw [if_neg h4, if_pos (by omega)]; rfl
      · rw [if_neg (by omega)]
        by_cases h3 : x0 / 8 = 30
        · rw [if_pos (by omega)]
          by_cases hl : x0 / 8 = 30 ∧ 1 < l ∧ x1 / 64 = 2 ∧ 2 < l ∧ x2 / 64 = 2 ∧ 3 < l ∧ x3 / 64 = 2
          · have hm : dmod l x0 x1 x2 x3 = let c := x0 % 8 * 262144 + x1 % 64 * 4096 + x2 % 64 * 64 + x3 % 64
              if c ≥ 65536 ∧ c ≤ 1114111 then (c, 4) else (65533, 1) := by unfold dmod; rw [if_neg h0, if_neg (by omega), if_neg (by omega), if_pos hl]
            rw [hm, if_neg (by omega), if_neg (by omega), if_neg (by omega), if_neg (by omega)]
            unfold dfin
            dsimp only
            by_cases h4 : x0 % 8 * 262144 + x1 % 64 * 4096 + x2 % 64 * 64 + x3 % 64 ≥ 65536 ∧ x0 % 8 * 262144 + x1 % 64 * 4096 + x2 % 64 * 64 + x3 % 64 ≤ 1114111
            · rw [if_pos h4, ok _ 4 (by omega), if_neg (by omega)]
              simp only [Prod.mk.injEq, and_true]
              omega
            · rw [if_neg h4, bad, if_pos (by omega)]
          · have hm : dmod l x0 x1 x2 x3 = (65533, 1) := by unfold dmod; rw [if_neg h0, if_neg (by omega), if_neg (by omega), if_neg hl]
            rw [hm, bad]
            by_cases h4 : l < 4
            · rw [if_pos h4]
            · rw [if_neg h4]
              by_cases h5 : x1 < 128 ∨ 191 < x1
              · rw [if_pos h5]; rfl
              · rw [if_neg h5]
                by_cases h6 : x2 < 128 ∨ 191 < x2
                · rw [if_pos h6]; rfl
                · rw [if_neg h6, if_pos (by omega)]; rfl
        · have hm : dmod l x0 x1 x2 x3 = (65533, 1) := by unfold dmod; rw [if_neg h0, if_neg (by omega), if_neg (by omega), if_neg (by omega)]
          rw [hm, bad, if_neg (by omega)]

/-- Is it whole runes? -/
def vb (s : ByteArray) (pos : Nat) : Bool := if _h : pos < s.size then decide (Utf8.decode s pos ≠ (65533, 1)) && vb s (pos + (Utf8.decode s pos).2) else true
termination_by s.size - pos
decreasing_by have := decode_pos s pos; omega
theorem vb_on {s : ByteArray} {pos : Nat} (h : pos < s.size) : vb s pos = (decide (Utf8.decode s pos ≠ (65533, 1)) && vb s (pos + (Utf8.decode s pos).2)) := by
  conv => lhs; unfold vb
  rw [dif_pos h]
theorem vb_end {s : ByteArray} {pos : Nat} (h : ¬ pos < s.size) : vb s pos = true := by
  unfold vb; rw [dif_neg h]
theorem decode_le {s : ByteArray} {pos : Nat} (h : pos < s.size) : pos + (Utf8.decode s pos).2 ≤ s.size := by
  unfold Utf8.decode
  simp only [Bool.and_eq_true, decide_eq_true_eq]
  repeat' split
  all_goals (dsimp only; omega)
theorem dmod_1 {l x0 x1 x2 x3 : Nat} (h : (dmod l x0 x1 x2 x3).1 = 65533) : (dmod l x0 x1 x2 x3).2 = 1 ∨ (dmod l x0 x1 x2 x3).2 = 3 := by
  unfold dmod at *
  by_cases h0 : x0 < 128
  · rw [if_pos h0]; exact .inl rfl
  · rw [if_neg h0] at h ⊢
    by_cases h1 : x0 / 32 = 6 ∧ 1 < l ∧ x1 / 64 = 2
    · rw [if_pos h1] at h ⊢
      by_cases h2 : x0 % 32 * 64 + x1 % 64 ≥ 128
      · rw [if_pos h2] at h; dsimp only at h; omega
      · rw [if_neg h2]; exact .inl rfl
    · rw [if_neg h1] at h ⊢
      by_cases h2 : x0 / 16 = 14 ∧ 1 < l ∧ x1 / 64 = 2 ∧ 2 < l ∧ x2 / 64 = 2
      · rw [if_pos h2]
        dsimp only
        split
        · exact .inr rfl
        · exact .inl rfl
      · rw [if_neg h2] at h ⊢
        by_cases h3 : x0 / 8 = 30 ∧ 1 < l ∧ x1 / 64 = 2 ∧ 2 < l ∧ x2 / 64 = 2 ∧ 3 < l ∧ x3 / 64 = 2
        · rw [if_pos h3] at h ⊢
          dsimp only at h ⊢
          split
          · rename_i h4; rw [if_pos h4] at h; dsimp only at h; omega
          · exact .inl rfl
        · rw [if_neg h3]; exact .inl rfl
theorem decode_1 {s : ByteArray} {pos : Nat} (h : (Utf8.decode s pos).1 = 65533) : (Utf8.decode s pos).2 = 1 ∨ (Utf8.decode s pos).2 = 3 := by
  rcases s with ⟨⟨t⟩⟩
  have e : Utf8.decode ⟨⟨t⟩⟩ pos = _ := ((dec_shift t pos).symm.trans (dmod_is (t.drop pos)))
  rw [e] at h ⊢
  exact dmod_1 h
theorem validGo_is (s : ByteArray) : ∀ (k pos : Nat), s.size - pos ≤ k → validGo (runesGo s pos) (-1) s.size = vb s pos ∧ ∀ last : Int, 0 ≤ last → ∀ w : Nat, last + w = pos → (w = 1 ∨ w = 3) → pos ≤ s.size → validGo (runesGo s pos) last s.size = (decide (w ≠ 1) && vb s pos) := by
  intro k
  induction k with
  | zero =>
    intro pos hk
    have hn : ¬ pos < s.size := by omega
    rw [runesGo_end hn, vb_end hn]
    refine ⟨rfl, fun last h0 w hw h1 hp => ?_⟩
    unfold validGo
    rcases h1 with rfl | rfl
    · rw [decF (by omega), decF (by omega)]; rfl
    · rw [decF (by omega), decT (by omega)]; rfl
  | succ k ih =>
    intro pos hk
    by_cases hp : pos < s.size
    · have hd := decode_pos s pos
      have hle := decode_le hp
      obtain ⟨ih1, ih2⟩ := ih (pos + (Utf8.decode s pos).2) (by omega)
      rw [runesGo_on hp, vb_on hp]
      have hA : validGo (runesGo s (pos + (Utf8.decode s pos).2)) (if ((Utf8.decode s pos).1 : Int) = 65533 then (pos : Int) else -1) s.size = (decide (Utf8.decode s pos ≠ (65533, 1)) && vb s (pos + (Utf8.decode s pos).2)) := by
        by_cases hr : (Utf8.decode s pos).1 = 65533
        · rw [if_pos (by omega), ih2 pos (by omega) (Utf8.decode s pos).2 (by omega) (decode_1 hr) hle]
          have hiff : (Utf8.decode s pos).2 = 1 ↔ Utf8.decode s pos = (65533, 1) := ⟨fun h => Prod.ext hr h, fun h => by rw [h]⟩
          by_cases hw1 : (Utf8.decode s pos).2 = 1
          · rw [decF (show ¬ (Utf8.decode s pos).2 ≠ 1 from fun h => h hw1), decF (show ¬ Utf8.decode s pos ≠ (65533, 1) from fun h => h (hiff.1 hw1))]
          · rw [decT (show (Utf8.decode s pos).2 ≠ 1 from hw1), decT (show Utf8.decode s pos ≠ (65533, 1) from fun h => hw1 (hiff.2 h))]
        · rw [if_neg (by omega), ih1, decT (show Utf8.decode s pos ≠ (65533, 1) from fun h => hr (by rw [h])), Bool.true_and]
      refine ⟨?_, fun last h0 w hw h1 hpl => ?_⟩
      · rw [validGo, if_neg (by omega)]; exact hA
      · rw [validGo]
        rcases h1 with rfl | rfl
        · rw [if_pos (by omega)]; rfl
        · rw [if_neg (by omega), hA]; rfl
    · rw [runesGo_end hp, vb_end hp]
      refine ⟨rfl, fun last h0 w hw h1 hpl => ?_⟩
      unfold validGo
      rcases h1 with rfl | rfl
      · rw [decF (by omega), decF (by omega)]; rfl
      · rw [decF (by omega), decT (by omega)]; rfl
theorem strValid_is (s : Str) : strValid s = vb ⟨s.toArray⟩ 0 := (validGo_is ⟨s.toArray⟩ _ 0 (Nat.le_refl _)).1
/-! ### The walks -/
theorem extract_from (s : Str) (i : Nat) : ((⟨s.toArray⟩ : ByteArray).extract i s.length) = ⟨(s.drop i).toArray⟩ := by
  apply ByteArray.ext
  simp [ByteArray.data_extract]
  exact List.take_of_length_le (by rw [List.length_drop]; exact Nat.le_refl _)
theorem drop_ne {s : Str} {i : Nat} (h : i < s.length) : s.drop i ≠ [] := fun e => by
  have := congrArg List.length e
  rw [List.length_drop] at this
  simp at this
  omega
theorem ref1_Valid {w : World} {s : Str} (hs : s.length ≤ 2147483000) : CallV P 162 [sV s] w fun r w' => r = .bool (strValid s) ∧ w' = w := by
  rw [strValid_is]
  refine calls_of lay_is Tryz.func162 rfl (by kernel_rfl) ?_
  refine loop (σ := Nat) (fun i => [(0, sV s), (3, iV i)]) (fun i w' => w' = w ∧ i ≤ s.length ∧ vb ⟨s.toArray⟩ i = vb ⟨s.toArray⟩ 0) (fun i _ => s.length - i) 0 ⟨rfl, rfl, trivial⟩ ⟨rfl, by omega, rfl⟩ ?_
  rintro i w2 ⟨rfl, hi, hG⟩
  refine cond2 (fun h1 => ?_) (fun h1 => ?_)
  · have h1 : (i : Int) < s.length := of_decT h1
    have hlt : i < s.length := by omega
    have hsz : i < (⟨s.toArray⟩ : ByteArray).size := hlt
    rw [vb_on hsz] at hG
    have hd := dec_is (drop_ne hlt)
    rw [dec_shift] at hd
    have hle : i + (Utf8.decode ⟨s.toArray⟩ i).2 ≤ s.length := decode_le hsz
    have hps := decode_pos ⟨s.toArray⟩ i
    have hsz' : (⟨s.toArray⟩ : ByteArray).size = s.length := rfl
    refine ⟨by omega, by show (i : Int) ≤ (s.length : Nat); omega, by show ((s.length : Nat) : Int) ≤ (s.length : Nat); omega, ?_⟩
    show CallW P _ [Value.string ((⟨s.toArray⟩ : ByteArray).extract i s.length)] _ _
    rw [extract_from]
    refine call (ref1_Decode (drop_ne hlt) (by rw [List.length_drop]; omega)) ?_
    rintro _ _ ⟨rfl, rfl⟩
    rw [hd]
    generalize Utf8.decode ⟨s.toArray⟩ i = d at *
    refine cond2 (fun h2 => ?_) (fun h2 => ?_)
    · have h2 : (!decide (d ≠ (65533, 1))) = true := h2
      rw [← hG]
      have h3 : decide (d ≠ (65533, 1)) = false := by simpa using h2
      rw [h3]
      exact ⟨rfl, rfl⟩
    · have h2 : (!decide (d ≠ (65533, 1))) = false := h2
      have h3 : decide (d ≠ (65533, 1)) = true := by simpa using h2
      rw [h3, Bool.true_and] at hG
      refine ⟨i + d.2, ⟨rfl, ?_, trivial⟩, ⟨rfl, by omega, hG⟩, by omega⟩
      show some (iV (IntKind.i64.wrap ((i : Int) + (d.2 : Int)))) = _
      rw [w64 (by omega) (by omega)]
      rfl
  · have h1 : ¬ (i : Int) < s.length := of_decF h1
    have hin : i = s.length := by omega
    subst hin
    have hn : ¬ s.length < (⟨s.toArray⟩ : ByteArray).size := by show ¬ s.length < s.length; omega
    rw [vb_end hn] at hG
    rw [← hG]
    exact ⟨rfl, rfl⟩
def runesAt (s : Str) : List Int := (runesP s).map fun p => (p.1 : Int)
theorem ref1_Runes {w : World} {s : Str} (hs : s.length ≤ 1000000000) : CallV P 106 [sV s] w fun r w' => ∃ u v, r = .tuple #[u, v] ∧ Own cR 21 w' u (runes s) ∧ Mod no w w' := by
  refine calls_of lay_is Tryz.func106 rfl (by kernel_rfl) ?_
  refine loop (σ := Value × List Int × Value × List Int × Nat) (fun st => [(0, sV s), (4, st.1), (5, st.2.2.1), (6, iV st.2.2.2.2)]) (fun st w' => Own cR 21 w' st.1 st.2.1 ∧ Own cI 3 w' st.2.2.1 st.2.2.2.1 ∧ st.2.2.2.1.length = st.2.1.length ∧ st.2.1.length ≤ st.2.2.2.2 ∧ st.2.2.2.2 ≤ s.length ∧ st.2.1 ++ (runesGo ⟨s.toArray⟩ st.2.2.2.2).map (·.2) = runes s ∧ Mod no w w' ∧ (∀ k, st.1.ownBlock = some k → w.heap.size ≤ k) ∧ (∀ k, st.2.2.1.ownBlock = some k → w.heap.size ≤ k) ∧ (∀ k, st.2.2.1.ownBlock = some k → st.1.ownBlock ≠ some k)) (fun st _ => s.length - st.2.2.2.2) (.slice none 0 0, [], .slice none 0 0, [], 0) ⟨rfl, rfl, rfl, rfl, trivial⟩ ⟨Own.nil _ _, Own.nil _ _, rfl, Nat.le_refl 0, by show 0 ≤ _; omega, rfl, Mod.refl _ _, nofun, nofun, nofun⟩ ?_
  rintro ⟨u, X, v, Y, i⟩ w2 ⟨hO, hO2, hY, hX, hi, hG, hM, hF, hF2, hne⟩
  dsimp only at *
  refine cond2 (fun h1 => ?_) (fun h1 => ?_)
  · have h1 : (i : Int) < s.length := of_decT h1
    have hlt : i < s.length := by omega
    have hsz : i < (⟨s.toArray⟩ : ByteArray).size := hlt
    rw [runesGo_on hsz] at hG
    have hd := dec_is (drop_ne hlt)
    rw [dec_shift] at hd
    have hle : i + (Utf8.decode ⟨s.toArray⟩ i).2 ≤ s.length := decode_le hsz
    have hps := decode_pos ⟨s.toArray⟩ i
    have hsz' : (⟨s.toArray⟩ : ByteArray).size = s.length := rfl
    refine ⟨by omega, by show (i : Int) ≤ (s.length : Nat); omega, by show ((s.length : Nat) : Int) ≤ (s.length : Nat); omega, ?_⟩
    show CallW P _ [Value.string ((⟨s.toArray⟩ : ByteArray).extract i s.length)] _ _
    rw [extract_from]
    refine call (ref1_Decode (drop_ne hlt) (by rw [List.length_drop]; omega)) ?_
    rintro _ _ ⟨rfl, rfl⟩
    rw [hd]
    generalize Utf8.decode ⟨s.toArray⟩ i = d at *
    refine ⟨by decide, _, rfl, al fun b3 w3 e3 m3 s3 hb3 => app lay_is rfl (hO.grow m3) (Own.mk (c := cR) (xs := [(d.1 : Int)]) hb3 rfl rfl (one_max _)).slr (by show _ + 1 ≤ _; omega) fun u' w4 hO4 m4 hf4 => ?_⟩
    have hO24 : Own cI 3 w4 v Y := (hO2.grow m3).mod m4 fun k hk => hne k hk
    have hl2 := hO2.lt
    have hF4 := ge_grow hf4 (by have := hM.size; have := m3.size; omega) hF
    have hM4 : Mod no w w4 := (hM.trn m3).own m4 hF
    refine ⟨by decide, _, rfl, al fun b5 w5 e5 m5 s5 hb5 => app lay_is rfl (hO24.grow m5) (Own.mk (c := cI) (xs := [(i : Int)]) hb5 rfl rfl (one_max _)).slr (by show _ + 1 ≤ _; omega) fun v' w6 hO6 m6 hf6 => ?_⟩
    have hl4 := hO4.lt
    refine ⟨(u', X ++ [(d.1 : Int)], v', Y ++ [(i : Int)], i + d.2), ⟨rfl, rfl, rfl, ?_, trivial⟩, ⟨(hO4.grow m5).mod m6 ?_, hO6, by simp [hY], by simp; omega, hle, by simpa using hG, (hM4.trn m5).own m6 hF2, hF4, ?_, ?_⟩, by show s.length - (i + d.2) < s.length - i; omega⟩
    · show some (iV (IntKind.i64.wrap ((i : Int) + (d.2 : Int)))) = _
      rw [w64 (by omega) (by omega)]
      rfl
    · intro k hk hk2
      rcases hf4 k hk with h | h
      · exact hne k hk2 h
      · have := hl2 k hk2; have := m3.size; omega
    · exact ge_grow hf6 (by have := hM4.size; have := m5.size; omega) hF2
    · intro k hk hk2
      rcases hf6 k hk with h | h
      · rcases hf4 k hk2 with h' | h'
        · exact hne k h h'
        · have := hl2 k h; have := m3.size; omega
      · have := hl4 k hk2; have := m5.size; omega
  · have hn : ¬ i < (⟨s.toArray⟩ : ByteArray).size := by have h1 : ¬ (i : Int) < s.length := of_decF h1; show ¬ i < s.length; omega
    rw [runesGo_end hn] at hG
    have hG : X = runes s := by simpa using hG
    subst hG
    exact ⟨_, _, rfl, hO, hM⟩
theorem ref6_Hash {w : World} {s : Str} (hs : s.length ≤ 1000000000) : CallV P 51 [sV s] w fun v w' => v = .int .u64 (hashOf s) ∧ Mod no w w' := by
  refine calls_of lay_is Tryz.func51 rfl (by kernel_rfl) (call (ref1_Runes hs) ?_)
  rintro _ w1 ⟨u, v, rfl, hO, m1⟩
  have hl := runes_len s
  have hsl := hO.slr
  obtain ⟨a, cp, rfl⟩ := hsl.len
  refine loop (σ := Nat × Int) (fun st => [(4, .slice a (runes s).length cp), (6, iV st.1), (3, .int .u64 st.2)]) (fun st w' => w' = w1 ∧ st.1 ≤ (runes s).length ∧ ((runes s).drop st.1).foldl hstep st.2 = (runes s).foldl hstep 14695981039346656037) (fun st _ => (runes s).length - st.1) (0, 14695981039346656037) ⟨rfl, rfl, rfl, trivial⟩ ⟨rfl, Nat.zero_le _, rfl⟩ ?_
  rintro ⟨i, h⟩ w2 ⟨rfl, hi, hh⟩
  dsimp only at *
  refine cond2 (fun hc => ?_) (fun hc => ?_)
  · have hc : (i : Int) < (runes s).length := of_decT hc
    have hlt : i < (runes s).length := by omega
    obtain ⟨b, o, cp', e, hb, hr⟩ := hsl.at (getE hlt)
    cases e
    rw [List.drop_eq_getElem_cons hlt, List.foldl_cons] at hh
    refine ⟨by omega, hc, ld1r (j := 0) hr rfl ?_⟩
    exact ⟨(i + 1, hstep h (runes s)[i]), ⟨rfl, congrArg some (ctr (by omega)), rfl, trivial⟩, ⟨rfl, hlt, hh⟩, by show _ - (i + 1) < _ - i; omega⟩
  · have hc : ¬ (i : Int) < (runes s).length := of_decF hc
    have e : i = (runes s).length := by omega
    subst e
    rw [List.drop_length] at hh
    have hh : h = (runes s).foldl hstep 14695981039346656037 := hh
    subst hh
    exact ⟨rfl, m1⟩
theorem ref1_MayVal {w : World} {r : Raw} (hs : r.s.length ≤ 2147483000) : CallV P 105 [rawV r] w fun v w' => v = .bool (rawOk r) ∧ Mod no w w' := by
  refine calls_of lay_is Tryz.func105 rfl (by kernel_rfl) (al fun b1 w1 e1 m1 s1 hb1 => ?_)
  have hb1 : Blk w1 b1 27 (rawC r) := hb1
  refine ld1 hb1 rfl (cond2 (fun h1 => ?_) (fun h1 => ?_))
  · have h1 : r.kind = 1 := beqT h1
    refine ld1 hb1 rfl ⟨?_, m1⟩
    have hr : rawOk r = decide (r.s = []) := by
      unfold rawOk
      rw [decT h1, decF (show ¬ r.kind = 2 by omega)]
      simp
    rw [beq_nil, hr]; rfl
  · have h1 : r.kind ≠ 1 := beqF h1
    refine cond2 (fun h2 => ?_) (fun h2 => ?_)
    · have h2 : r.kind = 2 := beqT h2
      have hr : rawOk r = (decide (r.n = 0) && decide (r.s.length ≤ 24) && strValid r.s) := by
        unfold rawOk
        rw [decF h1, decT h2]
        simp
      refine ld1 hb1 rfl ⟨fun h3 => ld1 hb1 rfl ⟨fun h4 => ld1 hb1 rfl (call (ref1_Valid hs) ?_), fun h4 => ⟨?_, m1⟩⟩, fun h3 => ⟨nofun, fun _ => ⟨?_, m1⟩⟩⟩
      · rintro _ _ ⟨rfl, rfl⟩
        have h4 : (r.s.length : Int) ≤ 24 := of_decT h4
        rw [hr, decT (beqT h3), decT (by omega)]
        exact ⟨rfl, m1⟩
      · have h4 : ¬ (r.s.length : Int) ≤ 24 := of_decF h4
        rw [hr, decF (show ¬ r.s.length ≤ 24 by omega), Bool.and_false, Bool.false_and]; rfl
      · rw [hr, decF (beqF h3), Bool.false_and, Bool.false_and]; rfl
    · have h2 : r.kind ≠ 2 := beqF h2
      refine ⟨?_, m1⟩
      unfold rawOk
      rw [decF h1, decF h2]; rfl
theorem ref10_May {w : World} {r : Rec} (hs : r.val.s.length ≤ 2147483000) : CallV P 50 [recV r] w fun v w' => v = .bool (recMay r) ∧ Mod no w w' := by
  have hd : decide (r.val = Raw.zero) = (decide (r.val.kind = 0) && decide (r.val.n = 0) && decide (r.val.s = [])) := by
    obtain ⟨k, g, ⟨kd, n, s⟩⟩ := r
    unfold Raw.zero
    by_cases h1 : kd = 0 <;> by_cases h2 : n = 0 <;> by_cases h3 : s = [] <;> simp [h1, h2, h3]
  refine calls_of lay_is Tryz.func50 rfl (by kernel_rfl) (al fun b1 w1 e1 m1 s1 hb1 => ?_)
  have hb1 : Blk w1 b1 30 (recC r) := hb1
  refine ld1 hb1 rfl (call ref1_MayKey ?_)
  rintro _ _ ⟨rfl, rfl⟩
  unfold recMay
  refine cond2 (fun h1 => ?_) (fun h1 => ?_)
  · have h1 : (!keyMay r.key) = true := h1
    have h1 : keyMay r.key = false := by simpa using h1
    rw [h1]
    exact ⟨rfl, m1⟩
  · have h1 : (!keyMay r.key) = false := h1
    have h1 : keyMay r.key = true := by simpa using h1
    rw [h1, Bool.true_and]
    refine ld1 hb1 rfl (cond2 (fun h2 => ?_) (fun h2 => ?_))
    · have h2 : r.gone = true := h2
      rw [if_pos h2, hd]
      refine ld1 hb1 rfl ⟨fun h3 => ld1 hb1 rfl ⟨fun h4 => ld1 hb1 rfl ⟨?_, m1⟩, fun h4 => ⟨?_, m1⟩⟩, fun h3 => ⟨nofun, fun _ => ⟨?_, m1⟩⟩⟩
      · rw [beq_nil, decT (beqT h3), decT (beqT h4)]; rfl
      · rw [decF (beqF h4), Bool.and_false, Bool.false_and]; rfl
      · rw [decF (beqF h3), Bool.false_and, Bool.false_and]; rfl
    · have h2 : r.gone = false := h2
      rw [h2, if_neg (by decide)]
      refine ldN (cs := rawC r.val) (hb1.rd 2 3) rfl (call (ref1_MayVal hs) ?_)
      rintro _ w2 ⟨rfl, m2⟩
      exact ⟨rfl, m1.trn m2⟩
end Go.Proofs.YtffjccofglikhaaGreat
