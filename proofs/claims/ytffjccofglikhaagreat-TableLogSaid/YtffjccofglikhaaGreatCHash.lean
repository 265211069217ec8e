/-
  runes, hash, key.
-/
import Derived.Test.YtffjccofglikhaaGreatCNum
namespace Go.Proofs.YtffjccofglikhaaGreat
open Go Go.RowKit

/-! ### Range over a string -/
def It (w : World) (b : Nat) (s : ByteArray) (pos : Nat) : Prop := w.heap[b]? = some (.stringIter s pos)
theorem It.lt {w : World} {b pos : Nat} {s : ByteArray} (h : It w b s pos) : b < w.heap.size := (Array.getElem?_eq_some_iff.1 h).1
theorem It.mod {S : Nat → Prop} {w w' : World} {b pos : Nat} {s : ByteArray} (h : It w b s pos) (m : Mod S w w') (hn : ¬ S b) : It w' b s pos := (m.at h.lt hn).trans h
theorem rng {t : Nat} {w : World} {s : ByteArray} {K : Value → World → Prop} (ht : P.underlying t = some .string) (hk : ∀ b w', b = w.heap.size → Mod no w w' → It w' b s 0 → w'.heap.size = w.heap.size + 1 → K (.pointer (some ⟨b, 0, none⟩)) w') : RunW P (Instr.range t (.string s)) w K := by
  refine ⟨_, w.alloc (.stringIter s 0), ?_, hk _ _ rfl mod_alloc ?_ (by simp)⟩
  · simp [Instr.range, run_under ht]
  · show (w.heap.push _)[w.heap.size]? = _
    simp
theorem mod_set {w : World} {b : Nat} {o : Obj} : Mod (· = b) w { w with heap := w.heap.setIfInBounds b o } := ⟨rfl, rfl, rfl, by simp, fun k _ hk => by
  show (w.heap.setIfInBounds b o)[k]? = _
  rw [Array.getElem?_setIfInBounds_ne (Ne.symm hk)]⟩
theorem nxt1 {ty b pos : Nat} {w : World} {s : ByteArray} {K : Value → World → Prop} (h : It w b s pos) (hp : pos < s.size)
    (hk : ∀ w', Mod (· = b) w w' → It w' b s (pos + (Utf8.decode s pos).2) → w'.heap.size = w.heap.size → K (.tuple #[.bool true, iV pos, .int .i32 (Utf8.decode s pos).1]) w') : RunW P (Instr.next (.pointer (some ⟨b, 0, none⟩)) true ty) w K := by
  have hg : (getObj b).run P w = .ok (.stringIter s pos) w := by
    unfold It at h
    simp [getObj, Sem.run, h]
  have hs : ∀ o, (setObj b o).run P w = .ok () { w with heap := w.heap.setIfInBounds b o } := by
    intro o
    unfold It at h
    simp [setObj, Sem.run, h]
  refine ⟨_, _, ?_, hk { w with heap := w.heap.setIfInBounds b (.stringIter s (pos + (Utf8.decode s pos).2)) } mod_set ?_ (by simp)⟩
  · simp [Instr.next, hg, hp, hs, goInt]
  · unfold It
    have := h.lt
    simp [this]
theorem nxt0 {ty b pos : Nat} {w : World} {s : ByteArray} {K : Value → World → Prop} (h : It w b s pos) (hp : ¬ pos < s.size) (hk : K (.tuple #[.bool false]) w) : RunW P (Instr.next (.pointer (some ⟨b, 0, none⟩)) true ty) w K := by
  have hg : (getObj b).run P w = .ok (.stringIter s pos) w := by
    unfold It at h
    simp [getObj, Sem.run, h]
  exact ⟨_, w, by simp [Instr.next, hg, hp], hk⟩
theorem decode_pos (s : ByteArray) (i : Nat) : 0 < (Utf8.decode s i).2 := by
  unfold Utf8.decode
  simp only
  repeat' split
  all_goals simp
/-- The runes with their places (by a fuel, so that the kernel computes it). -/
def runesG (s : ByteArray) : Nat → Nat → List (Nat × Int)
  | 0, _ => []
  | n + 1, pos => if pos < s.size then (pos, ((Utf8.decode s pos).1 : Int)) :: runesG s n (pos + (Utf8.decode s pos).2) else []
theorem runesG_more (s : ByteArray) : ∀ (n m pos : Nat), s.size - pos ≤ n → s.size - pos ≤ m → runesG s n pos = runesG s m pos
  | 0, 0, pos, _, _ => rfl
  | 0, m + 1, pos, h, _ => by unfold runesG; rw [if_neg (by omega)]
  | n + 1, 0, pos, _, h => by unfold runesG; rw [if_neg (by omega)]
  | n + 1, m + 1, pos, h, h' => by
    unfold runesG
    split
    · have := decode_pos s pos
      rw [runesG_more s n m _ (by omega) (by omega)]
    · rfl
def runesGo (s : ByteArray) (pos : Nat) : List (Nat × Int) := runesG s (s.size - pos) pos
theorem runesGo_on {s : ByteArray} {pos : Nat} (h : pos < s.size) : runesGo s pos = (pos, ((Utf8.decode s pos).1 : Int)) :: runesGo s (pos + (Utf8.decode s pos).2) := by
  unfold runesGo
  rw [show s.size - pos = (s.size - pos - 1) + 1 by omega]
  conv => lhs; unfold runesG
  have := decode_pos s pos
  rw [if_pos h, runesG_more s (s.size - pos - 1) (s.size - (pos + (Utf8.decode s pos).2)) _ (by omega) (Nat.le_refl _)]
theorem runesGo_end {s : ByteArray} {pos : Nat} (h : ¬ pos < s.size) : runesGo s pos = [] := by
  unfold runesGo
  rw [show s.size - pos = 0 by omega]; rfl
def runesP (s : Str) : List (Nat × Int) := runesGo ⟨s.toArray⟩ 0
def runes (s : Str) : List Int := (runesP s).map (·.2)
theorem runesG_len (s : ByteArray) : ∀ n pos, (runesG s n pos).length ≤ n
  | 0, _ => Nat.le_refl _
  | n + 1, pos => by
    unfold runesG
    split
    · have := runesG_len s n (pos + (Utf8.decode s pos).2)
      simp only [List.length_cons]
      omega
    · simp
theorem runesGo_len (s : ByteArray) (pos : Nat) : (runesGo s pos).length ≤ s.size - pos := runesG_len s _ pos
theorem runes_len (s : Str) : (runes s).length ≤ s.length := by
  have := runesGo_len ⟨s.toArray⟩ 0
  unfold runes runesP
  rw [List.length_map]
  exact this
theorem runes_Of {w : World} {s : Str} (hs : s.length ≤ 2147483000) : CallV P 109 [sV s] w fun v w' => Own cR 21 w' v (runes s) ∧ Mod no w w' ∧ ∀ k, v.ownBlock = some k → w.heap.size ≤ k := by
  refine calls_of lay_is Tryz.func109 rfl (by kernel_rfl) (rng strT fun b w1 e1 m1 it1 s1 => ?_)
  refine loop (σ := Value × List Int × Nat) (fun s => [(3, s.1), (7, .pointer (some ⟨b, 0, none⟩))]) (fun st w' => Own cR 21 w' st.1 st.2.1 ∧ It w' b ⟨s.toArray⟩ st.2.2 ∧ st.2.1 ++ (runesGo ⟨s.toArray⟩ st.2.2).map (·.2) = runes s ∧ Mod no w w' ∧ ∀ k, st.1.ownBlock = some k → b < k) (fun st _ => s.length - st.2.2) (.slice none 0 0, [], 0) ⟨rfl, rfl, trivial⟩ ⟨Own.nil _ _, it1, rfl, m1, fun k hk => by cases hk⟩ ?_
  rintro ⟨v, rs, pos⟩ w2 ⟨ho, hit, hr, hm, hf⟩
  dsimp only at *
  have hsz : (⟨s.toArray⟩ : ByteArray).size = s.length := rfl
  by_cases hp : pos < (⟨s.toArray⟩ : ByteArray).size
  · rw [runesGo_on hp] at hr
    have hl : rs.length < s.length := by
      have := runes_len s
      rw [← hr] at this
      simp at this
      omega
    refine nxt1 hit hp fun w3 m3 it3 s3 => condT rfl ⟨by decide, _, rfl, al fun b2 w4 e4 m4 s4 hb4 => ?_⟩
    have ho3 : Own cR 21 w4 v rs := (ho.mod m3 (fun k hk e => by have := hf k hk; omega)).grow m4
    refine app lay_is rfl ho3 (Own.slr (xs := [((Utf8.decode ⟨s.toArray⟩ pos).1 : Int)]) (Own.mk hb4 rfl rfl (by unfold maxLen; simp))) (by simp; omega) fun v' w5 ho' hm' hf' => ?_
    have hb2 := hit.lt
    refine ⟨(v', rs ++ [((Utf8.decode ⟨s.toArray⟩ pos).1 : Int)], pos + (Utf8.decode ⟨s.toArray⟩ pos).2), ⟨rfl, rfl, trivial⟩, ⟨ho', ?_, ?_, ?_, ?_⟩, ?_⟩
    · refine (it3.mod m4 (fun h => h)).mod hm' fun hv => ?_
      have := hf b hv
      omega
    · rw [← hr]; simp
    · refine ((hm.new m3 (by omega)).trn m4).tr hm' fun i hi hv => ?_
      have := hf i hv
      omega
    · intro k hk
      rcases hf' k hk with h | h
      · exact hf k h
      · have := m3.size; have := m4.size; omega
    · have := decode_pos ⟨s.toArray⟩ pos
      show s.length - (pos + (Utf8.decode ⟨s.toArray⟩ pos).2) < s.length - pos
      omega
  · rw [runesGo_end hp] at hr
    refine nxt0 hit hp (condF rfl ?_)
    have hr : rs = runes s := by simpa using hr
    subst hr
    refine ⟨ho, hm, fun k hk => ?_⟩
    have := hf k hk
    omega

/-! ### Hashes -/
def hstep (h r : Int) : Int := IntKind.u64.wrap (iXor .u64 h (IntKind.u64.wrap r) * 1099511628211)
def hmix (h : Int) : Int := IntKind.u64.wrap (iXor .u64 h (iShr .u64 h 32) * 11400714819323198485)
def hfin (h : Int) : Int := iXor .u64 (hmix h) (iShr .u64 (hmix h) 29)
def hashOf (s : Str) : Int := hfin ((runes s).foldl hstep 14695981039346656037)
theorem hash_Of {w : World} {s : Str} (hs : s.length ≤ 2147483000) : CallV P 58 [sV s] w fun v w' => v = .int .u64 (hashOf s) ∧ Mod no w w' := by
  refine calls_of lay_is Tryz.func58 rfl (by kernel_rfl) ⟨(runes_Of hs).mono ?_⟩
  rintro _ w1 ⟨v, rfl, ho, m1, hf⟩
  refine ⟨v, rfl, ?_⟩
  have hl := runes_len s
  have hsl := ho.slr
  obtain ⟨a, cp, rfl⟩ := hsl.len
  refine loop (σ := Nat × Int) (fun st => [(7, .slice a (runes s).length cp), (8, iV (runes s).length), (9, iV st.1), (3, .int .u64 st.2)]) (fun st w' => w' = w1 ∧ st.1 ≤ (runes s).length ∧ ((runes s).drop st.1).foldl hstep st.2 = (runes s).foldl hstep 14695981039346656037) (fun st _ => (runes s).length - st.1) (0, 14695981039346656037) ⟨rfl, rfl, rfl, rfl, trivial⟩ ⟨rfl, Nat.zero_le _, rfl⟩ ?_
  rintro ⟨i, h⟩ w2 ⟨rfl, hi, hh⟩
  dsimp only at *
  refine cond2 (fun hc => ?_) (fun hc => ?_)
  · have hc : (i : Int) < (runes s).length := of_decT hc
    have hlt : i < (runes s).length := by omega
    obtain ⟨b, o, cp', e, hb, hr⟩ := hsl.at (getE hlt)
    cases e
    rw [List.drop_eq_getElem_cons hlt, List.foldl_cons] at hh
    refine ⟨by omega, hc, ld1r (j := 0) hr rfl ?_⟩
    exact ⟨(i + 1, hstep h (runes s)[i]), ⟨rfl, rfl, congrArg some (ctr (by omega)), rfl, trivial⟩, ⟨rfl, hlt, hh⟩, by show _ - (i + 1) < _ - i; omega⟩
  · have hc : ¬ (i : Int) < (runes s).length := of_decF hc
    have e : i = (runes s).length := by omega
    subst e
    rw [List.drop_length] at hh
    have hh : h = (runes s).foldl hstep 14695981039346656037 := hh
    subst hh
    exact ⟨rfl, m1⟩
theorem iXor_rng (a b : Int) : 0 ≤ iXor .u64 a b ∧ iXor .u64 a b < 18446744073709551616 := wu64n _
theorem hashOf_rng (s : Str) : 0 ≤ hashOf s ∧ hashOf s < 18446744073709551616 := iXor_rng _ _
def hFirst (h : Int) : Int := h % 8
def hTag (h : Int) : Int := h / 256 % 32768
def hOther (b t : Int) : Int := if b < 0 ∨ 8 ≤ b ∨ t < 0 ∨ 32768 ≤ t then -1 else iXor .i64 b (1 + t % 7)
theorem iShr_8 (x : Int) : iShr .u64 x 8 = x / 256 := by
  have e : iShr .u64 x 8 = x.fdiv 256 := rfl
  rw [e, Int.fdiv_eq_ediv_of_nonneg _ (by omega)]
theorem hash_Tag {w : World} {h : Int} (h0 : 0 ≤ h) : CallV P 57 [.int .u64 h] w fun v w' => v = iV (hTag h) ∧ w' = w := by
  refine calls_of lay_is Tryz.func57 rfl (by kernel_rfl) ⟨?_, rfl⟩
  show iV (IntKind.i64.wrap ((iShr .u64 h 8).tmod 32768)) = _
  have e : (iShr .u64 h 8).tmod 32768 = hTag h := by
    rw [iShr_8, Int.tmod_eq_emod_of_nonneg (by omega)]
    rfl
  rw [e, w64] <;> unfold hTag <;> omega
theorem hash_First {w : World} {h : Int} (h0 : 0 ≤ h) : CallV P 125 [.int .u64 h] w fun v w' => v = iV (hFirst h) ∧ w' = w := by
  refine calls_of lay_is Tryz.func125 rfl (by kernel_rfl) ⟨?_, rfl⟩
  show iV (IntKind.i64.wrap (h.tmod 8)) = _
  have e : h.tmod 8 = hFirst h := by rw [Int.tmod_eq_emod_of_nonneg h0]; rfl
  rw [e, w64] <;> unfold hFirst <;> omega
theorem hash_Other {w : World} {b t : Int} : CallV P 126 [iV b, iV t] w fun v w' => v = iV (hOther b t) ∧ w' = w := by
  refine calls_of lay_is Tryz.func126 rfl (by kernel_rfl) ?_
  unfold hOther
  by_cases h1 : b < 0
  · refine ⟨fun _ => ⟨fun _ => ⟨fun _ => condT rfl ⟨?_, rfl⟩, nofun⟩, nofun⟩, fun h => (of_decF h h1).elim⟩
    rw [if_pos (.inl h1)]; rfl
  refine ⟨fun h => (h1 (of_decT h)).elim, fun _ => ?_⟩
  by_cases h2 : 8 ≤ b
  · refine ⟨fun _ => ⟨fun _ => condT rfl ⟨?_, rfl⟩, nofun⟩, fun h => (of_decF h h2).elim⟩
    rw [if_pos (.inr (.inl h2))]; rfl
  refine ⟨fun h => (h2 (of_decT h)).elim, fun _ => ?_⟩
  by_cases h3 : t < 0
  · refine ⟨fun _ => condT rfl ⟨?_, rfl⟩, fun h => (of_decF h h3).elim⟩
    rw [if_pos (.inr (.inr (.inl h3)))]; rfl
  refine ⟨fun h => (h3 (of_decT h)).elim, fun _ => ?_⟩
  by_cases h4 : 32768 ≤ t
  · refine condT (decT h4) ⟨?_, rfl⟩
    rw [if_pos (.inr (.inr (.inr h4)))]; rfl
  · refine condF (decF h4) ⟨?_, rfl⟩
    rw [if_neg (by omega)]
    have e : IntKind.i64.wrap (1 + t.tmod 7) = 1 + t % 7 := by
      rw [Int.tmod_eq_emod_of_nonneg (by omega), w64] <;> omega
    show iV (iXor .i64 b (IntKind.i64.wrap (1 + t.tmod 7))) = _
    rw [e]

/-! ### Keys -/
def keyMay (s : Str) : Bool := s ≠ [] && s.length ≤ 16
theorem str_ne (s : Str) : (!((⟨s.toArray⟩ : ByteArray).toList == (⟨#[]⟩ : ByteArray).toList)) = decide (s ≠ []) := by
  have e : (⟨#[]⟩ : ByteArray).toList = [] := ByteArray.toList_mk []
  rw [ByteArray.toList_mk, e]
  cases s <;> rfl
theorem key_May {w : World} {s : Str} : CallV P 118 [sV s] w fun v w' => v = .bool (keyMay s) ∧ w' = w := by
  refine calls_of lay_is Tryz.func118 rfl (by kernel_rfl) ⟨fun h => ⟨?_, rfl⟩, fun h => ⟨?_, rfl⟩⟩
  all_goals
    rw [str_ne] at h
    unfold keyMay
    rw [h]
  · show Value.bool (decide ((s.length : Int) ≤ 16)) = _
    simp
    omega
  · rfl
end Go.Proofs.YtffjccofglikhaaGreat
