/-
  value, record.
-/
import Derived.Test.YtffjccofglikhaaGreatCEq
namespace Go.Proofs.YtffjccofglikhaaGreat
open Go Go.RowKit

/-! ### runes.Valid -/
def validGo : List (Nat × Int) → Int → Nat → Bool
  | [], last, n => decide (last < 0) || decide (last + 1 < n)
  | (i, r) :: l, last, n => if 0 ≤ last ∧ (i : Int) = last + 1 then false else validGo l (if r = 65533 then i else -1) n
def strValid (s : Str) : Bool := validGo (runesP s) (-1) s.length
theorem runes_Valid {w : World} {s : Str} (hs : s.length ≤ 2147483000) : CallV P 172 [sV s] w fun v w' => v = .bool (strValid s) ∧ Mod no w w' := by
  refine calls_of lay_is Tryz.func172 rfl (by kernel_rfl) (rng strT fun b w1 e1 m1 it1 s1 => ?_)
  refine loop (σ := Int × Nat) (fun st => [(0, sV s), (3, iV st.1), (7, .pointer (some ⟨b, 0, none⟩))]) (fun st w' => It w' b ⟨s.toArray⟩ st.2 ∧ (st.1 = -1 ∨ (0 ≤ st.1 ∧ st.1 < s.length)) ∧ validGo (runesGo ⟨s.toArray⟩ st.2) st.1 s.length = strValid s ∧ Mod no w w') (fun st _ => s.length - st.2) (-1, 0) ⟨rfl, rfl, rfl, trivial⟩ ⟨it1, .inl rfl, rfl, m1⟩ ?_
  rintro ⟨last, pos⟩ w2 ⟨hit, hla, hv, hm⟩
  dsimp only at *
  have hsz : (⟨s.toArray⟩ : ByteArray).size = s.length := rfl
  have hw : IntKind.i64.wrap (last + 1) = last + 1 := w64 (by omega) (by omega)
  by_cases hp : pos < (⟨s.toArray⟩ : ByteArray).size
  · rw [runesGo_on hp] at hv
    have hd := decode_pos ⟨s.toArray⟩ pos
    refine nxt1 hit hp fun w3 m3 it3 s3 => condT rfl ?_
    have hm3 : Mod no w w3 := hm.new m3 (by omega)
    unfold validGo at hv
    have fin : ∀ E : Env, ¬ (0 ≤ last ∧ (pos : Int) = last + 1) → True := fun _ _ => trivial
    refine ⟨fun h => cond2 (fun h1 => ?_) (fun h1 => ?_), fun h => condF rfl ?_⟩
    · rw [if_pos ⟨of_decT h, by rw [← hw]; exact eq_of_beq h1⟩] at hv
      exact ⟨by rw [← hv]; rfl, hm3⟩
    all_goals
      have hne : ¬ (0 ≤ last ∧ (pos : Int) = last + 1) := by
        rintro ⟨a1, a2⟩
        first
        | exact of_decF h a1
        | (rw [← hw] at a2; rw [show ((pos : Int) == IntKind.i64.wrap (last + 1)) = true from beq_iff_eq.2 a2] at h1; cases h1)
      rw [if_neg hne] at hv
      refine cond2 (fun h2 => ?_) (fun h2 => ?_)
      · have h2 := eq_of_beq h2
        rw [if_pos h2] at hv
        exact ⟨((pos : Int), pos + (Utf8.decode ⟨s.toArray⟩ pos).2), ⟨rfl, rfl, rfl, trivial⟩, ⟨it3, .inr ⟨by omega, by show (pos : Int) < _; omega⟩, hv, hm3⟩, by show s.length - (pos + (Utf8.decode ⟨s.toArray⟩ pos).2) < s.length - pos; omega⟩
      · have h2 : ¬ ((Utf8.decode ⟨s.toArray⟩ pos).1 : Int) = 65533 := fun e => by rw [show (((Utf8.decode ⟨s.toArray⟩ pos).1 : Int) == 65533) = true from beq_iff_eq.2 e] at h2; cases h2
        rw [if_neg h2] at hv
        exact ⟨(-1, pos + (Utf8.decode ⟨s.toArray⟩ pos).2), ⟨rfl, rfl, rfl, trivial⟩, ⟨it3, .inl rfl, hv, hm3⟩, by show s.length - (pos + (Utf8.decode ⟨s.toArray⟩ pos).2) < s.length - pos; omega⟩
  · rw [runesGo_end hp] at hv
    refine nxt0 hit hp (condF rfl ?_)
    rw [validGo] at hv
    refine ⟨fun h => ⟨?_, hm⟩, fun h => ⟨?_, hm⟩⟩
    · rw [← hv, h]; rfl
    · rw [← hv, h]
      show Value.bool (decide (IntKind.i64.wrap (last + 1) < s.length)) = _
      rw [hw]
      rfl

/-! ### Values -/
def rawOk (r : Raw) : Bool := (decide (r.kind = 1) && decide (r.s = [])) || (decide (r.kind = 2) && decide (r.n = 0) && decide (r.s.length ≤ 24) && strValid r.s)
theorem beq_nil (s : Str) : ((⟨s.toArray⟩ : ByteArray).toList == (⟨#[]⟩ : ByteArray).toList) = decide (s = []) := by
  have e : (⟨#[]⟩ : ByteArray).toList = [] := ByteArray.toList_mk []
  rw [ByteArray.toList_mk, e]
  cases s <;> rfl
theorem beq_int (a b : Int) : (a == b) = decide (a = b) := by by_cases h : a = b <;> simp [h]
theorem value_Of {w : World} {r : Raw} (hs : r.s.length ≤ 2147483000) : CallV P 119 [rawV r] w fun v w' => (∃ c, c.oneCell' = true ∧ v = .tuple #[.agg #[c], iV (if rawOk r then 0 else 1)]) ∧ Mod no w w' := by
  refine calls_of lay_is Tryz.func119 rfl (by kernel_rfl) (al fun b1 w1 e1 m1 s1 hb1 => al fun b2 w2 e2 m2 s2 hb2 => ?_)
  have hr : Blk w2 b1 27 (rawC r) := hb1.mod m2 fun h => h
  have hm : Mod no w w2 := m1.trn m2
  have hb : w.heap.size ≤ b2 := by omega
  have hro : rawOk r = ((decide (r.kind = 1) && decide (r.s = [])) || (decide (r.kind = 2) && decide (r.n = 0) && decide (r.s.length ≤ 24) && strValid r.s)) := rfl
  have yes : rawOk r = true → ∀ a : Value, a.oneCell' = true → ∃ c, c.oneCell' = true ∧ one [.agg #[a], iV 0] = .tuple #[.agg #[c], iV (if rawOk r then 0 else 1)] := fun h a ha => ⟨a, ha, by rw [h]; rfl⟩
  have nay : rawOk r = false → ∀ a : Value, a.oneCell' = true → ∃ c, c.oneCell' = true ∧ one [.agg #[a], iV 1] = .tuple #[.agg #[c], iV (if rawOk r then 0 else 1)] := fun h a ha => ⟨a, ha, by rw [h]; rfl⟩
  refine ld1 hr rfl ⟨fun h1 => ld1 hr rfl (cond2 (fun h2 => ?_) (fun h2 => ?_)), fun h1 => condF rfl ?_⟩
  · rw [beq_nil] at h2
    have ok : rawOk r = true := by rw [hro, h2]; simp [show r.kind = 1 from eq_of_beq h1]
    refine ld1 hr rfl ⟨_, rfl, ?_⟩
    refine st1 hb2 (by decide) rfl fun w4 m4 s4 hb4 => ldB hb4 rfl ⟨yes ok _ rfl, hm.new m4 hb⟩
  · rw [beq_nil] at h2
    have hk : r.kind = 1 := eq_of_beq h1
    have ko : rawOk r = false := by rw [hro, h2]; simp [hk]
    refine ld1 hr rfl ⟨fun h3 => ?_, fun h3 => ⟨nofun, fun _ => ⟨nofun, fun _ => condF rfl ?_⟩⟩⟩
    · rw [hk] at h3; cases h3
    · exact ⟨_, rfl, st1 hb2 (by decide) rfl fun w4 m4 s4 hb4 => ldB hb4 rfl ⟨nay ko _ rfl, hm.new m4 hb⟩⟩
  · have hk : ¬ r.kind = 1 := fun e => by rw [show (r.kind == 1) = true from beq_iff_eq.2 e] at h1; cases h1
    have hkk : ∀ {b : Bool}, (r.kind == 2) = b → decide (r.kind = 2) = b := fun h => by rw [← h, beq_int]
    have hnn : ∀ {b : Bool}, (r.n == 0) = b → decide (r.n = 0) = b := fun h => by rw [← h, beq_int]
    have hro : rawOk r = (decide (r.kind = 2) && decide (r.n = 0) && decide (r.s.length ≤ 24) && strValid r.s) := by rw [hro]; simp [hk]
    refine ld1 hr rfl ⟨fun h3 => ld1 hr rfl ⟨fun h4 => ld1 hr rfl ⟨fun h5 => ld1 hr rfl (call (runes_Valid hs) ?_), fun h5 => condF rfl ⟨_, rfl, st1 hb2 (by decide) rfl fun w4 m4 s4 hb4 => ldB hb4 rfl ⟨nay ?_ _ rfl, hm.new m4 hb⟩⟩⟩, fun h4 => ⟨nofun, fun _ => condF rfl ⟨_, rfl, st1 hb2 (by decide) rfl fun w4 m4 s4 hb4 => ldB hb4 rfl ⟨nay ?_ _ rfl, hm.new m4 hb⟩⟩⟩⟩, fun h3 => ⟨nofun, fun _ => ⟨nofun, fun _ => condF rfl ⟨_, rfl, st1 hb2 (by decide) rfl fun w4 m4 s4 hb4 => ldB hb4 rfl ⟨nay ?_ _ rfl, hm.new m4 hb⟩⟩⟩⟩⟩
    · rintro v w3 ⟨rfl, m3⟩
      have hr : Blk w3 b1 27 (rawC r) := hr.mod m3 fun h => h
      have hb2' := hb2.mod m3 fun h => h
      refine cond2 (fun h6 => ld1 hr rfl ⟨_, rfl, st1 hb2' (by decide) rfl fun w4 m4 s4 hb4 => ldB hb4 rfl ⟨yes ?_ _ rfl, (hm.trn m3).new m4 hb⟩⟩) (fun h6 => ⟨_, rfl, st1 hb2' (by decide) rfl fun w4 m4 s4 hb4 => ldB hb4 rfl ⟨nay ?_ _ rfl, (hm.trn m3).new m4 hb⟩⟩)
      · rw [hro, hkk h3, hnn h4, h6]; simp only [Bool.and_true, Bool.true_and]; exact decT (by have h5 : (r.s.length : Int) ≤ 24 := of_decT h5; omega)
      · rw [hro, h6, Bool.and_false]
    · rw [hro, show decide (r.s.length ≤ 24) = false from decF (by have h5 : ¬ (r.s.length : Int) ≤ 24 := of_decF h5; omega), Bool.and_false, Bool.false_and]
    · rw [hro, hnn h4, Bool.and_false, Bool.false_and, Bool.false_and]
    · rw [hro, hkk h3, Bool.false_and, Bool.false_and, Bool.false_and]

/-! ### What is appended to a slice of bytes -/
structure Grow (b : Value) (w w' : World) (v : Value) (ys : List UInt8) : Prop where
  own : Own cB 5 w' v ys
  mod : Mod (fun k => b.ownBlock = some k) w w'
  fresh : ∀ k, v.ownBlock = some k → b.ownBlock = some k ∨ w.heap.size ≤ k
theorem Grow.trans {b v v' : Value} {w w1 w2 : World} {ys zs : List UInt8} (h : Grow b w w1 v ys) (k : Grow v w1 w2 v' zs) : Grow b w w2 v' zs :=
  ⟨k.own, h.mod.tr k.mod fun i hi hv => (h.fresh i hv).elim id fun h => by omega, fun i hi => (k.fresh i hi).elim (h.fresh i) fun h' => .inr (by have := h.mod.size; omega)⟩
theorem Grow.after {b v : Value} {w w1 w2 : World} {ys : List UInt8} (m : Mod no w w1) (h : Grow b w1 w2 v ys) : Grow b w w2 v ys :=
  ⟨h.own, (m.mono fun _ _ h => h.elim).tr h.mod fun i _ hv => hv, fun i hi => (h.fresh i hi).imp id fun h' => by have := m.size; omega⟩
theorem Grow.keep {b v : Value} {w w' : World} {ys : List UInt8} (h : Grow b w w' v ys) {k : Nat} (hk : k < w.heap.size) (hb : b.ownBlock ≠ some k) : w'.heap[k]? = w.heap[k]? := h.mod.at hk hb
/-- What an int64 holds. -/
def i64R (n : Int) : Prop := -9223372036854775808 ≤ n ∧ n ≤ 9223372036854775807
structure RawFit (r : Raw) : Prop where
  kind : i64R r.kind
  n : i64R r.n
  s : r.s.length ≤ 500000000
structure RecFit (r : Rec) : Prop where
  val : RawFit r.val
  key : r.key.length ≤ 500000000
theorem num_PutG {w : World} {b : Value} {xs : List UInt8} {n : Int} (hb : Own cB 5 w b xs) (hn : i64R n) (hl : xs.length ≤ 2147483000) :
    CallV P 136 [b, iV n] w fun v w' => Grow b w w' v (xs ++ numPut n) := (num_Put hb hn.1 hn.2 hl).imp fun _ _ h => ⟨h.1, h.2.1, h.2.2⟩
theorem num_PutTextG {w : World} {b : Value} {xs : List UInt8} {s : Str} (hb : Own cB 5 w b xs) (hs : s.length ≤ 500000000) (hl : xs.length ≤ 1000000000) :
    CallV P 191 [b, sV s] w fun v w' => Grow b w w' v (xs ++ (numPut s.length ++ s)) := (num_PutText hb (by omega) hl).imp fun _ _ h => ⟨h.1, h.2.1, h.2.2⟩

/-! ### value.Put, record.Put, record.May -/
def valPut (r : Raw) : List UInt8 := numPut r.kind ++ (if r.kind = 1 then numPut r.n else numPut r.s.length ++ r.s)
def recPut (r : Rec) : List UInt8 := (numPut r.key.length ++ r.key) ++ (if r.gone = true then numPut 0 else valPut r.val)
theorem value_Put {w : World} {b : Value} {xs : List UInt8} {r : Raw} (hb : Own cB 5 w b xs) (hr : RawFit r) (hl : xs.length ≤ 999999000) :
    CallV P 197 [b, rawV r] w fun v w' => Grow b w w' v (xs ++ valPut r) := by
  refine calls_of lay_is Tryz.func197 rfl (by kernel_rfl) (al fun b1 w1 e1 m1 s1 hb1 => ?_)
  have hb1 : Blk w1 b1 27 (rawC r) := hb1
  have hbn : b.ownBlock ≠ some b1 := fun h => by have := hb.lt b1 h; omega
  have hlen := numPut_len hr.kind.1 hr.kind.2
  refine ld1 hb1 rfl (call (num_PutG (hb.grow m1) hr.kind (by omega)) ?_)
  intro v w2 g
  have hb2 : Blk w2 b1 27 (rawC r) := hb1.mod g.mod hbn
  refine ld1 hb2 rfl (cond2 (fun h => ?_) (fun h => ?_))
  · have hk : r.kind = 1 := eq_of_beq h
    refine ld1 hb2 rfl (call (num_PutG g.own hr.n (by rw [List.length_append]; omega)) ?_)
    intro v' w3 g'
    have := (g.trans g').after m1
    rw [List.append_assoc] at this
    unfold valPut
    rwa [if_pos hk]
  · have hk : ¬ r.kind = 1 := fun e => by rw [show (r.kind == 1) = true from beq_iff_eq.2 e] at h; cases h
    refine ld1 hb2 rfl (call (num_PutTextG g.own hr.s (by rw [List.length_append]; omega)) ?_)
    intro v' w3 g'
    have := (g.trans g').after m1
    rw [List.append_assoc] at this
    unfold valPut
    rwa [if_neg hk]
theorem record_Put {w : World} {b : Value} {xs : List UInt8} {r : Rec} (hb : Own cB 5 w b xs) (hr : RecFit r) (hl : xs.length ≤ 400000000) :
    CallV P 159 [b, recV r] w fun v w' => Grow b w w' v (xs ++ recPut r) := by
  refine calls_of lay_is Tryz.func159 rfl (by kernel_rfl) (al fun b1 w1 e1 m1 s1 hb1 => ?_)
  have hb1 : Blk w1 b1 30 (recC r) := hb1
  have hbn : b.ownBlock ≠ some b1 := fun h => by have := hb.lt b1 h; omega
  have hkl := hr.key
  have hlen := numPut_len (n := r.key.length) (by omega) (by omega)
  refine ld1 hb1 rfl (call (num_PutTextG (hb.grow m1) hr.key (by omega)) ?_)
  intro v w2 g
  have hb2 : Blk w2 b1 30 (recC r) := hb1.mod g.mod hbn
  refine ld1 hb2 rfl (cond2 (fun h => ?_) (fun h => ?_))
  · refine call (num_PutG g.own (n := 0) ⟨by omega, by omega⟩ (by simp only [List.length_append]; omega)) ?_
    intro v' w3 g'
    have := (g.trans g').after m1
    rw [List.append_assoc] at this
    unfold recPut
    rwa [if_pos h]
  · refine ldN (cs := rawC r.val) (hb2.rd 2 3) rfl (call (value_Put g.own hr.val (by simp only [List.length_append]; omega)) ?_)
    intro v' w3 g'
    have := (g.trans g').after m1
    rw [List.append_assoc] at this
    unfold recPut
    rwa [if_neg (by rw [h]; exact Bool.false_ne_true)]
def recMay (r : Rec) : Bool := keyMay r.key && (if r.gone = true then decide (r.val = Raw.zero) else rawOk r.val)
theorem record_May {w : World} {r : Rec} (hs : r.val.s.length ≤ 2147483000) : CallV P 67 [recV r] w fun v w' => v = .bool (recMay r) ∧ Mod no w w' := by
  refine calls_of lay_is Tryz.func67 rfl (by kernel_rfl) (al fun b1 w1 e1 m1 s1 hb1 => ?_)
  have hb1 : Blk w1 b1 30 (recC r) := hb1
  have rd : ∀ w2, Blk w2 b1 30 (recC r) → Rd w2 b1 2 (rawC r.val) := fun w2 hb => hb.rd 2 3
  unfold recMay
  refine ld1 hb1 rfl (call key_May ?_)
  rintro _ _ ⟨rfl, rfl⟩
  refine cond2 (fun h => ?_) (fun h => ?_)
  · have h : keyMay r.key = false := by cases hk : keyMay r.key with | false => rfl | true => rw [hk] at h; cases h
    rw [h]
    exact ⟨rfl, m1⟩
  · have h : keyMay r.key = true := by cases hk : keyMay r.key with | true => rfl | false => rw [hk] at h; cases h
    rw [h, Bool.true_and]
    refine ld1 hb1 rfl (cond2 (fun h2 => ?_) (fun h2 => ?_))
    · rw [if_pos h2]
      exact ldN (cs := rawC r.val) (rd _ hb1) rfl ⟨_, rfl, raw_eql (b := Raw.zero) ⟨rfl, m1⟩⟩
    · rw [if_neg (by rw [h2]; exact Bool.false_ne_true)]
      refine ldN (cs := rawC r.val) (rd _ hb1) rfl (call (value_Of hs) ?_)
      rintro _ w2 ⟨⟨c, hc, rfl⟩, m2⟩
      refine al fun b3 w3 e3 m3 s3 hb3 => st1 hb3 (by decide) hc fun w4 m4 s4 hb4 => ⟨?_, (m1.trn (m2.trn m3)).new m4 (by have := m1.size; have := m2.size; omega)⟩
      cases rawOk r.val <;> rfl
end Go.Proofs.YtffjccofglikhaaGreat
