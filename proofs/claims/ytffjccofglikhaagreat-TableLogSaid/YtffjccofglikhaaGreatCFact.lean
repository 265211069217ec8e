/-
  The table of one record: what is to be computed of it.
-/
import Derived.Test.YtffjccofglikhaaGreatCLay
namespace Go.Proofs.YtffjccofglikhaaGreat
open Go Go.RowKit

theorem ptT {c : Bool} {A B : Prop} (e : c = true) (h : A) : (c = true → A) ∧ (c = false → B) := ⟨fun _ => h, fun h' => (by rw [e] at h'; cases h')⟩
theorem ptF {c : Bool} {A B : Prop} (e : c = false) (h : B) : (c = true → A) ∧ (c = false → B) := ⟨fun h' => (by rw [e] at h'; cases h'), fun _ => h⟩
def rA : Rec := ⟨[97], true, Raw.zero⟩
def tA : List Slot := lay_ [rA] []
def tB : List Slot := tab0.set 0 ⟨true, Rec.zero⟩
theorem tA_len : tA.length = 32 := by kernel_rfl
theorem tA_may : ordMay tA = true := by kernel_rfl
theorem tA_enc : (ordEnc tA).length = 9 := by kernel_rfl
theorem tA_dec : ordDec (ordEnc tA) = (tA, 0) := by kernel_rfl
theorem d000 : (ordDec [0, 0, 0]).2 = 8 := by kernel_rfl
theorem dNil : (ordDec []).2 = 8 := by kernel_rfl
theorem t0_enc : (ordEnc tab0).length = 4 := by kernel_rfl
theorem tB_may : ordMay tB = false := by kernel_rfl
theorem tB_flat : (flat cSlot tab0).set 0 (.bool true) = flat cSlot tB := by kernel_rfl
theorem tA_recs : recsOf tA = [rA] := by kernel_rfl
theorem tA_new : newest (recsOf tA) = [rA] := by
  rw [tA_recs]
  show (sortS [[97]]).map _ = _
  unfold sortS
  rw [List.mergeSort_singleton]
  rfl
theorem tA_get : hsGet tA [97] = (rA, true) := by kernel_rfl
theorem tA_no : (hsGet tA [98]).2 = false := by kernel_rfl
theorem tA_like : (hsLike tA [97]).length = 1 := by kernel_rfl
theorem rawZ : RawFit Raw.zero := raw0_fit
theorem lay_fit (turn : List Bool) : ∀ (L : List Rec) (i : Nat) (t : List Slot), (∀ r ∈ L, RecFit r) → t.length = 32 → (∀ s ∈ t, RecFit s.rec_) → (layAll turn L i t).length = 32 ∧ ∀ s ∈ layAll turn L i t, RecFit s.rec_ := by
  intro L
  induction L with
  | nil => intro i t _ h1 h2; exact ⟨h1, h2⟩
  | cons r L ih =>
    intro i t hL h1 h2
    unfold layAll
    refine ih _ _ (fun x hx => hL x (by simp [hx])) (by rw [layStep_len]; exact h1) (layStep_all turn i r (fun s => RecFit s.rec_) (fun _ => ?_) t h2)
    have hr := hL r (by simp)
    refine ⟨⟨hr.val.kind, hr.val.n, ?_⟩, ?_⟩
    · show (r.val.s.take 30).length ≤ _; rw [List.length_take]; omega
    · show (r.key.take 20).length ≤ _; rw [List.length_take]; omega
theorem lay_tab {L : List Rec} (hL : ∀ r ∈ L, RecFit r) (turn : List Bool) : TabFit (lay_ L turn) := by
  obtain ⟨h1, h2⟩ := lay_fit turn (L.take 40) 0 tab0 (fun r hr => hL r (List.mem_of_mem_take hr)) rfl tab0_fit.fit
  exact ⟨h1, h2⟩
theorem rA_fit : RecFit rA := ⟨rawZ, by decide⟩
theorem tA_fit : TabFit tA := lay_tab (by intro r hr; rw [List.mem_singleton] at hr; subst hr; exact rA_fit) []
theorem tB_fit : TabFit tB := tab0_fit.set 0 ⟨rawZ, by decide⟩
theorem flat192 {t : List Slot} (h : t.length = 32) : (flat cSlot t).length = 192 := by rw [flat_len, h]; rfl
/-- A store of a whole table. -/
theorem stT {w : World} {b : Nat} {e : TypeId} {c t : List Slot} {K : World → Prop} (hb : Blk w b e (flat cSlot c)) (hc : c.length = 32) (ht : t.length = 32) (hk : ∀ w', Mod (· = b) w w' → w'.heap.size = w.heap.size → Blk w' b e (flat cSlot t) → K w') : StoreW w ⟨b, 0, none⟩ 192 (flat cSlot t) K :=
  st hb (flat192 ht) (by rw [flat192 hc]; omega) (flat_one _ _) fun w' m s h => hk w' m s (by
    have h : Blk w' b e (List.take 0 (flat cSlot c) ++ flat cSlot t ++ List.drop (0 + 192) (flat cSlot c)) := h
    rw [List.take_zero, List.nil_append, List.drop_of_length_le (by rw [flat192 hc]; omega), List.append_nil] at h
    exact h)
structure TabA (t : List Slot) : Prop where
  is_ : lay_ [rA] [] = t
  fit : TabFit t
  may : ordMay t = true
  enc : (ordEnc t).length = 9
  dec : ordDec (ordEnc t) = (t, 0)
  recs : recsOf t = [rA]
  new_ : newest (recsOf t) = [rA]
  get : hsGet t [97] = (rA, true)
  no : (hsGet t [98]).2 = false
  like : (hsLike t [97]).length = 1
theorem tabA : ∃ t, TabA t := ⟨tA, rfl, tA_fit, tA_may, tA_enc, tA_dec, tA_recs, tA_new, tA_get, tA_no, tA_like⟩
theorem tabBad : ∃ t, (flat cSlot tab0).set 0 (.bool true) = flat cSlot t ∧ TabFit t ∧ ordMay t = false := ⟨tB, tB_flat, tB_fit, tB_may⟩
theorem dec000 : ∃ t, ordDec [0, 0, 0] = (t, 8) ∧ t.length = 32 := ⟨(ordDec [0, 0, 0]).1, Prod.ext rfl d000, (ordDec_ok (bs := [0, 0, 0]) (by decide)).1.len⟩
end Go.Proofs.YtffjccofglikhaaGreat
