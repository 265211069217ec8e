/-
  hashstore: Get, Reads, Len, Bytes.
-/
import Derived.Test.YtffjccofglikhaaGreatCLike
namespace Go.Proofs.YtffjccofglikhaaGreat
open Go Go.RowKit

theorem store_likeNil {w : World} {k : Str} : CallV P 75 [.pointer none, sV k] w fun r w' => Own cRec 30 w' r [] ∧ Mod no w w' ∧ ∀ k, r.ownBlock = some k → w.heap.size ≤ k := by
  refine calls_of lay_is Tryz.func75 rfl (by kernel_rfl) (condT rfl ⟨Own.nil _ _, Mod.refl _ _, nofun⟩)
def recFind (k : Str) : List Rec → Rec × Bool
  | [] => (Rec.zero, false)
  | r :: l => if r.key = k then (r, true) else recFind k l
theorem store_GetX {w : World} {sv : Value} {k : Str} {L : List Rec} (hL : L.length ≤ 2147483000) (hlike : ∀ w', Mod no w w' → CallV P 75 [sv, sV k] w' fun r w'' => Own cRec 30 w'' r L ∧ Mod no w' w'' ∧ ∀ k, r.ownBlock = some k → w'.heap.size ≤ k) :
    CallV P 29 [sv, sV k] w fun r w' => r = .tuple #[recV (recFind k L).1, .bool (recFind k L).2] ∧ Mod no w w' := by
  refine calls_of lay_is Tryz.func29 rfl (by kernel_rfl) (al fun b1 w1 e1 m1 s1 hb1 => ?_)
  have hb1 : Blk w1 b1 30 (recC Rec.zero) := hb1
  refine call (hlike w1 m1) ?_
  rintro v w2 ⟨hO, m2, hF⟩
  obtain ⟨a, cp, rfl⟩ := hO.slr.len
  have hb12 := hb1.mod m2 fun h => h
  refine loop (σ := Nat) (fun s => [(1, sV k), (4, ptr b1), (10, .slice a L.length cp), (11, iV L.length), (12, iV s)]) (fun s w' => s ≤ L.length ∧ Blk w' b1 30 (recC Rec.zero) ∧ SlR cRec w' (.slice a L.length cp) L ∧ Mod no w w' ∧ recFind k (L.drop s) = recFind k L) (fun s _ => L.length - s) 0 ⟨rfl, rfl, rfl, rfl, rfl, trivial⟩ ⟨by omega, hb12, hO.slr, m1.trn m2, rfl⟩ ?_
  have hb1n : w.heap.size ≤ b1 := by omega
  clear hb12 hO
  rintro i w3 ⟨hi, hb13, hS, hM, hG⟩
  refine cond2 (fun h1 => ?_) (fun h1 => ?_)
  · have h1 : (i : Int) < L.length := of_decT h1
    have hlt : i < L.length := by omega
    have hr := getE hlt
    rw [List.drop_eq_getElem_cons hlt, recFind] at hG
    generalize L[i] = r at *
    obtain ⟨gb, go, gc, e, hgb, hgr⟩ := hS.at hr
    cases e
    refine ⟨by omega, by omega, ldN (cs := recC r) hgr rfl (al fun b4 w4 e4 m4 s4 hb4 => ?_)⟩
    refine st (vs := recC r) hb4 rfl (by decide) (recC_one _) fun w5 m5 s5 hb5 => ?_
    have hb5 : Blk w5 b4 30 (recC r) := hb5
    have hM5 : Mod no w w5 := (hM.trn m4).new m5 (by have := hM.size; omega)
    have h14 : b1 ≠ b4 := by have := hb13.lt; omega
    have hb15 := (hb13.mod m4 fun h => h).mod m5 h14
    have hS5 := (hS.grow m4).mod m5 fun b hb e => by have : gb = b := Option.some.inj hb; omega
    refine ld1 hb5 rfl (cond2 (fun h2 => ?_) (fun h2 => ?_))
    · rw [beq_str] at h2
      rw [if_pos (of_decT h2)] at hG
      rw [← hG]
      exact ldB hb5 rfl (st hb15 rfl (by decide) (recC_one _) fun w6 m6 s6 hb6 => ldB hb6 rfl ⟨rfl, hM5.new m6 hb1n⟩)
    · rw [beq_str] at h2
      rw [if_neg (of_decF h2)] at hG
      exact ⟨i + 1, ⟨rfl, rfl, rfl, rfl, congrArg some (ctr (by omega)), trivial⟩, ⟨by omega, hb15, hS5, hM5, hG⟩, by omega⟩
  · have hin : i = L.length := by have := of_decF h1; omega
    subst hin
    rw [List.drop_length] at hG
    rw [← hG]
    exact ⟨_, rfl, st hb13 rfl (by decide) (by decide) fun w6 m6 s6 hb6 => ldB hb6 rfl ⟨rfl, hM.new m6 hb1n⟩⟩
theorem hsLike_len {t : List Slot} (ht : t.length = 32) (k : Str) : (hsLike t k).length ≤ 64 := by
  have hp : ∀ b, (hsPick t (hTag (hashOf k)) (hsLo t b) (hsHi t b - hsLo t b)).length ≤ 32 := by
    intro b
    unfold hsPick
    have := List.length_filter_le (fun r : Rec => decide (hTag (hashOf r.key) = hTag (hashOf k))) (((recsOf t).drop (hsLo t b)).take (hsHi t b - hsLo t b))
    rw [List.length_take, List.length_drop] at this
    have := recsOf_le t
    omega
  unfold hsLike hsB
  simp only [List.flatMap_cons, List.flatMap_nil, List.append_nil, List.length_append]
  have := hp (hFirst (hashOf k))
  have := hp (hOther (hFirst (hashOf k)) (hTag (hashOf k)))
  omega
def hsGet (t : List Slot) (k : Str) : Rec × Bool := recFind k (hsLike t k)
theorem store_Get {w : World} {p : Nat} {t : List Slot} {k : Str} (h : StoreR w p t) (hk : k.length ≤ 2147483000) : CallV P 29 [ptr p, sV k] w fun r w' => r = .tuple #[recV (hsGet t k).1, .bool (hsGet t k).2] ∧ Mod no w w' :=
  store_GetX (by have := hsLike_len h.fit.len k; omega) fun _ m => store_like (h.grow m) hk
theorem store_GetNil {w : World} {k : Str} : CallV P 29 [.pointer none, sV k] w fun r w' => r = .tuple #[recV Rec.zero, .bool false] ∧ Mod no w w' :=
  store_GetX (L := []) (by simp) fun _ _ => store_likeNil
theorem store_Reads {w : World} {p : Nat} {t : List Slot} {k : Str} (h : StoreR w p t) (hk : k.length ≤ 2147483000) : CallV P 31 [ptr p, sV k] w fun r w' => r = iV (hsLike t k).length ∧ Mod no w w' := by
  refine calls_of lay_is Tryz.func31 rfl (by kernel_rfl) (call (store_like h hk) ?_)
  rintro v w1 ⟨hO, m1, _⟩
  obtain ⟨a, cp, rfl⟩ := hO.slr.len
  exact ⟨rfl, m1⟩
theorem store_ReadsNil {w : World} {k : Str} : CallV P 31 [.pointer none, sV k] w fun r w' => r = iV 0 ∧ Mod no w w' := by
  refine calls_of lay_is Tryz.func31 rfl (by kernel_rfl) (call store_likeNil ?_)
  rintro v w1 ⟨hO, m1, _⟩
  obtain ⟨a, cp, rfl⟩ := hO.slr.len
  exact ⟨rfl, m1⟩
theorem store_Len {w : World} {p : Nat} {t : List Slot} (h : StoreR w p t) : CallV P 13 [ptr p] w fun r w' => r = iV (recsOf t).length ∧ w' = w := by
  obtain ⟨q, rv, ra, ta, hS1, hS2, hS3, hS4⟩ := h.ex
  obtain ⟨a, cp, rfl⟩ := hS3.len
  exact calls_of lay_is Tryz.func13 rfl (by kernel_rfl) (condF rfl (ld1 hS1 (hs_at h.fit.len _ 1) ⟨rfl, rfl⟩))
theorem store_LenNil {w : World} : CallV P 13 [.pointer none] w fun r w' => r = iV 0 ∧ w' = w :=
  calls_of lay_is Tryz.func13 rfl (by kernel_rfl) (condT rfl ⟨rfl, rfl⟩)
theorem Blk.pre {w : World} {b : Nat} {e : TypeId} {cs l : List Value} (h : Blk w b e (cs ++ l)) : Rd w b 0 cs := fun j v hv => by
  rw [Nat.zero_add, h.cell, List.getElem?_append_left (List.getElem?_eq_some_iff.1 hv).1]; exact hv
theorem store_Bytes {w : World} {p : Nat} {t : List Slot} (h : StoreR w p t) : CallV P 46 [ptr p] w fun r w' => Own cB 5 w' r (ordEnc t) ∧ Mod no w w' ∧ (∀ k, r.ownBlock = some k → w.heap.size ≤ k) ∧ (ordMay t = false → r = .slice none 0 0) := by
  obtain ⟨q, rv, ra, ta, hS1, hS2, hS3, hS4⟩ := h.ex
  have htl : (flat cSlot t).length = 192 := by rw [flat_len, h.fit.len]; rfl
  refine calls_of lay_is Tryz.func46 rfl (by kernel_rfl) (condF rfl (ldN (cs := flat cSlot t) hS1.pre htl (call (order_Encode h.fit) fun r w1 h => h)))
theorem store_BytesNil {w : World} : CallV P 46 [.pointer none] w fun r w' => r = .slice none 0 0 ∧ w' = w :=
  calls_of lay_is Tryz.func46 rfl (by kernel_rfl) (condT rfl ⟨rfl, rfl⟩)
theorem store_ListNil {w : World} : CallV P 28 [.pointer none] w fun r w' => r = .slice none 0 0 ∧ w' = w :=
  calls_of lay_is Tryz.func28 rfl (by kernel_rfl) (condT rfl ⟨rfl, rfl⟩)
end Go.Proofs.YtffjccofglikhaaGreat
