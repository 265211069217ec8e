/-
  logstore.Put.
-/
import Derived.Test.YtffjccofglikhaaGreatCLog
namespace Go.Proofs.YtffjccofglikhaaGreat
open Go Go.RowKit

theorem getD_mem (es : List Ent) (k : Nat) : es.getD k Ent.zero ∈ es ∨ es.getD k Ent.zero = Ent.zero := by
  by_cases hk : k < es.length
  · rw [getD_at hk]; exact .inl (List.getElem_mem hk)
  · rw [List.getD_eq_getElem?_getD, List.getElem?_eq_none (by omega)]; exact .inr rfl
theorem insGo_all (Q : Ent → Prop) (h0 : Q Ent.zero) (f : List (Int × Stp)) : ∀ (n : Nat) (es : List Ent) (b s : Int), (∀ e ∈ es, Q e) → ∀ e ∈ (insGo f n es b s).1, Q e
  | 0, _, _, _, h => h
  | n + 1, es, b, s, h => by
    unfold insGo
    split
    · split
      · refine insGo_all Q h0 f n _ _ _ fun e he => ?_
        rcases List.mem_or_eq_of_mem_set he with he | rfl
        · exact h e he
        · rcases getD_mem es _ with hm | hm
          · exact h _ hm
          · rw [hm]; exact h0
      · exact h
    · exact h
theorem dirIns_all (Q : Ent → Prop) (h0 : Q Ent.zero) {es es' : List Ent} {h id : Int} (hi : dirIns es h id = some es') (hn : Q ⟨true, id, hTag h⟩) (hQ : ∀ e ∈ es, Q e) : ∀ e ∈ es', Q e := by
  unfold dirIns at hi
  split at hi
  · rename_i f hf
    simp only [Option.some.injEq] at hi
    subst hi
    intro e he
    rcases List.mem_or_eq_of_mem_set he with he | rfl
    · exact insGo_all Q h0 f _ es _ _ hQ e he
    · exact hn
  · cases hi
structure LogS where
  l : List Rec
  es : List Ent
def logPut (s : LogS) (r : Rec) : LogS × Int :=
  if recMay r = false then (s, 1)
  else if 0 ≤ logFind s.l s.es r.key then (⟨s.l.set (logFind s.l s.es r.key).toNat r, s.es⟩, 0)
  else match dirIns s.es (hashOf r.key) s.l.length with
    | some es' => (⟨s.l ++ [r], es'⟩, 0)
    | none => (s, 5)
def LFoot (q p : Nat) (v : Value) : Nat → Prop := fun k => k = q ∨ k = p ∨ v.ownBlock = some k
theorem logPut_no {s : LogS} {r : Rec} (h : recMay r = false) : logPut s r = (s, 1) := by unfold logPut; rw [if_pos h]
theorem logPut_old {s : LogS} {r : Rec} (h : recMay r = true) (hi : 0 ≤ logFind s.l s.es r.key) : logPut s r = (⟨s.l.set (logFind s.l s.es r.key).toNat r, s.es⟩, 0) := by
  unfold logPut; rw [if_neg (by rw [h]; decide), if_pos hi]
theorem logPut_new {s : LogS} {r : Rec} (h : recMay r = true) (hi : ¬ 0 ≤ logFind s.l s.es r.key) {es' : List Ent} (hd : dirIns s.es (hashOf r.key) s.l.length = some es') : logPut s r = (⟨s.l ++ [r], es'⟩, 0) := by
  unfold logPut; rw [if_neg (by rw [h]; decide), if_neg hi, hd]
theorem logPut_full {s : LogS} {r : Rec} (h : recMay r = true) (hi : ¬ 0 ≤ logFind s.l s.es r.key) (hd : dirIns s.es (hashOf r.key) s.l.length = none) : logPut s r = (s, 5) := by
  unfold logPut; rw [if_neg (by rw [h]; decide), if_neg hi, hd]
theorem log_Put {w : World} {q p : Nat} {v : Value} {l : List Rec} {es : List Ent} {r : Rec} (h : LogR w q p v l es) (hr : RecFit r) (hl : l.length ≤ 900) : CallV P 17 [ptr q, recV r] w fun u w' => u = iV (logPut ⟨l, es⟩ r).2 ∧ ∃ v', LogR w' q p v' (logPut ⟨l, es⟩ r).1.l (logPut ⟨l, es⟩ r).1.es ∧ Mod (LFoot q p v) w w' ∧ ∀ k, v'.ownBlock = some k → v.ownBlock = some k ∨ w.heap.size ≤ k := by
  have hk := hr.key
  have hs := hr.val.s
  have h0 := hashOf_rng r.key
  have lq := h.blk.lt
  have lp := h.dir.blk.lt
  have lv := h.own.lt
  have hno : ∀ {w w' : World}, Mod no w w' → Mod (LFoot q p v) w w' := fun m => m.mono fun _ _ h => h.elim
  have p1 := @logPut_no ⟨l, es⟩ r
  have p2 := @logPut_old ⟨l, es⟩ r
  have p3 := @logPut_new ⟨l, es⟩ r
  have p4 := @logPut_full ⟨l, es⟩ r
  dsimp only at p2 p3 p4
  generalize logPut ⟨l, es⟩ r = S at *
  refine calls_of lay_is Tryz.func17 rfl (by kernel_rfl) (al fun b3 w1 e1 m1 s1 hb1 => ?_)
  have hb1 : Blk w1 b3 30 (recC r) := hb1
  have h1 := h.grow m1
  refine condF rfl (ldB hb1 rfl (call (record_May (by omega)) ?_))
  rintro _ w2 ⟨rfl, m2⟩
  have hb2 := hb1.mod m2 fun h => h
  have h2 := h1.grow m2
  have hM2 := m1.trn m2
  refine cond2 (fun h3 => ?_) (fun h3 => ?_)
  · have h3 : (!recMay r) = true := h3
    have h3 : recMay r = false := by simpa using h3
    rw [p1 h3]
    exact ⟨rfl, v, h2, hno hM2, fun k hk => .inl hk⟩
  · have h3 : (!recMay r) = false := h3
    have h3 : recMay r = true := by simpa using h3
    refine ld1 hb2 rfl (call (log_find h2 (by omega)) ?_)
    rintro _ w3 ⟨rfl, m3⟩
    have hb3 := hb2.mod m3 fun h => h
    have h3' := h2.grow m3
    have hM3 := hM2.trn m3
    have hrng := logFind_rng h r.key
    generalize logFind l es r.key = i at *
    refine cond2 (fun h4 => ?_) (fun h4 => ?_)
    · have h4 : 0 ≤ i := of_decT h4
      rw [p2 h3 h4]
      have hil : i.toNat < l.length := by omega
      obtain ⟨g, o, cap, rfl⟩ := h3'.own.ne (fun e => by rw [e] at hil; simp at hil)
      have hgq : g ≠ q := fun e => h.nq (by rw [e]; rfl)
      have hgp : g ≠ p := fun e => h.np (by rw [e]; rfl)
      have lg := lv g rfl
      refine draw [(0, []), (1, []), (2, []), (3, []), (4, []), (5, []), (6, []), (7, [])] (by kernel_rfl) (ld1 (w := w3.drew) h3'.blk rfl (ldB (w := w3.drew) hb3 rfl ⟨h4, by omega, own_put (w := w3.drew) (c := cRec) h3'.own hil r rfl fun w4 m4 s4 hO4 => ?_⟩))
      have m4 : Mod (· = g) w3 w4 := m4
      refine ⟨rfl, _, ⟨h3'.blk.mod m4 (fun e => hgq e.symm), hO4, ?_, h.nq, h.np, h.qp, h.tag, ?_, ?_, ?_⟩, (hno hM3).tr m4 fun k _ hk => .inr (.inr (by rw [hk]; rfl)), fun k hk => .inl hk⟩
      · have := h3'.dir.mod m4 (fun e => hgp e.symm)
        show DirR w4 p es (((l.set i.toNat r).length : Nat) : Int)
        rw [List.length_set]; exact this
      · show ∀ e ∈ es, e.has = true → 0 ≤ e.id ∧ e.id < (((l.set i.toNat r).length : Nat) : Int)
        rw [List.length_set]; exact h.ids
      · show (l.set i.toNat r).length ≤ 1000
        rw [List.length_set]; exact h.len
      · intro x hx
        rcases List.mem_or_eq_of_mem_set hx with hx | rfl
        · exact h.fit x hx
        · exact hr
    · have h4 : ¬ 0 ≤ i := of_decF h4
      obtain ⟨va, vc, hve⟩ := h3'.own.slr.len
      have hcm : cMay ((l.length : Nat) : Int) = true := by
        unfold cMay
        rw [decT (show (0 : Int) ≤ (l.length : Nat) by omega), decT (show ((l.length : Nat) : Int) ≤ 1099511627776 by omega)]; rfl
      subst hve
      have hb3d : Blk w3.drew b3 30 (recC r) := hb3
      refine draw [(0, []), (1, []), (2, []), (3, []), (4, []), (5, []), (7, []), (8, []), (9, []), (10, []), (11, []), (6, [3, 10]), (12, []), (13, [])] (by kernel_rfl) (ld1 (w := w3.drew) h3'.blk rfl (ld1 hb3d rfl (ld1 (w := w3.drew) h3'.blk rfl (call (hash_Of (by omega)) ?_))))
      rintro _ w4 ⟨rfl, m4⟩
      have m4 : Mod no w3 w4 := m4
      have h4' := h3'.grow m4
      have hb4 := hb3.mod m4 fun h => h
      have hM4 := hM3.trn m4
      refine ⟨ld1 h4'.blk rfl ⟨rfl, rfl⟩, ld1 h4'.blk rfl ⟨rfl, rfl⟩, call (dir_Insert h4'.dir h.tag h0.1 ⟨by omega, by omega⟩ hcm) ?_⟩
      rintro _ w5 (⟨es', hes, rfl, hD5, m5⟩ | ⟨hes, rfl, m5⟩)
      · rw [p3 h3 h4 hes]
        have hb5 := hb4.mod m5 (fun e => by have := m1.size; omega)
        have hbq5 := h4'.blk.mod m5 h.qp
        have hO5 := h4'.own.mod m5 (fun k hk e => h.np (by rw [hk, e]))
        refine condF rfl ?_
        refine draw [(0, []), (1, []), (2, []), (3, []), (4, []), (5, []), (6, []), (7, []), (8, []), (9, []), (10, [])] (by kernel_rfl) (ld1 (w := w5.drew) hbq5 rfl (ldB (w := w5.drew) hb5 rfl ⟨by decide, _, rfl, al fun b6 w6 e6 m6 s6 hb6 => app lay_is rfl (Own.grow (w := w5.drew) hO5 m6) (Own.mk (c := cRec) (xs := [r]) hb6 rfl rfl (one_max _)).slr (by show _ + 1 ≤ _; omega) fun v' w7 hO7 m7 hf7 => ?_⟩))
        have m6 : Mod no w5 w6 := m6
        have hbq7 := (hbq5.mod m6 fun h => h).mod m7 h.nq
        have hD7 := (hD5.mod m6 fun h => h).mod m7 h.np
        have hsz5 : w.heap.size ≤ w5.heap.size := by have := hM4.size; have := m5.size; omega
        have hf7' : ∀ k, v'.ownBlock = some k → (Value.slice va l.length vc).ownBlock = some k ∨ w.heap.size ≤ k := fun k hk => by
          rcases hf7 k hk with h' | h'
          · exact .inl h'
          · have := m6.size; exact .inr (by omega)
        have hnq : v'.ownBlock ≠ some q := fun e => by
          rcases hf7' q e with h' | h'
          · exact h.nq h'
          · omega
        have hnp : v'.ownBlock ≠ some p := fun e => by
          rcases hf7' p e with h' | h'
          · exact h.np h'
          · omega
        obtain ⟨wa, wn, wc, rfl⟩ := hO7.form
        refine st1 hbq7 (by exact (by decide : 0 < 2)) rfl fun w8 m8 s8 hb8 => ?_
        refine ⟨rfl, _, ⟨hb8, hO7.mod m8 (fun k hk e => hnq (by rw [hk, e])), ?_, hnq, hnp, h.qp, ?_, ?_, ?_, ?_⟩, ?_, hf7'⟩
        · have := hD7.mod m8 (fun e => h.qp e.symm)
          show DirR w8 p es' (((l ++ [r]).length : Nat) : Int)
          rw [List.length_append]; exact this
        · exact dirIns_all (fun e => 0 ≤ e.tag ∧ e.tag < 32768) ⟨Int.le_refl 0, by decide⟩ hes (hTag_rng r.key) h.tag
        · show ∀ e ∈ es', e.has = true → 0 ≤ e.id ∧ e.id < (((l ++ [r]).length : Nat) : Int)
          rw [List.length_append]
          refine dirIns_all (fun e => e.has = true → 0 ≤ e.id ∧ e.id < ((l.length + [r].length : Nat) : Int)) nofun hes (fun _ => ⟨by show (0 : Int) ≤ (l.length : Nat); omega, by show ((l.length : Nat) : Int) < ((l.length + 1 : Nat) : Int); omega⟩) fun e he hh => ?_
          have := h.ids e he hh
          exact ⟨this.1, by show e.id < ((l.length + 1 : Nat) : Int); omega⟩
        · show (l ++ [r]).length ≤ 1000
          rw [List.length_append]; show l.length + 1 ≤ 1000; omega
        · intro x hx
          rcases List.mem_append.1 hx with hx | hx
          · exact h.fit x hx
          · rw [List.mem_singleton] at hx; subst hx; exact hr
        · have a1 := ((hno hM4).tr m5 fun k _ hk => .inr (.inl hk)).trn m6
          exact (a1.tr m7 fun k _ hk => .inr (.inr hk)).tr m8 fun k _ hk => .inl hk
      · rw [p4 h3 h4 hes]
        refine condT rfl ⟨rfl, _, h4'.grow m5, hno (hM4.trn m5), fun k hk => .inl hk⟩
end Go.Proofs.YtffjccofglikhaaGreat
