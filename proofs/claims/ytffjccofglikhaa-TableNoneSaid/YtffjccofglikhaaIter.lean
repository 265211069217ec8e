/-
  The library's slices.Sorted(maps.Keys(m)) at this seat: the kit's contracts, laid by its own tools (tools/iter.py).
-/
import Derived.Shelf.SlIter.Nil
import Derived.Shelf.SortM.Plain
import Derived.Shelf.SortM.SortNone
import Derived.Ground.GgzProg
import Derived.Ground.SlgmProg
import Derived.Test.YtffjccofglikhaaProg
import Derived.Shelf.SlGeneric
namespace Go.Proofs
open Go.Shelf
def Try.keys87_ren : Go.Shelf.Ren := ⟨fun | 7 => 87 | 10 => 141 | n => n, fun | 23 => 131 | 26 => 9 | 3 => 41 | 28 => 156 | 0 => 0 | 27 => 155 | 33 => 115 | 4 => 4 | n => n, fun | n => n⟩
theorem Try.keys87 : Go.Proofs.SlLaysZ.n7 Try.prog Try.keys87_ren := {
  mixed := by kernel_rfl
  f7 := ⟨Try.f87.name, by decide, Try.func87.trans (congrArg some (by kernel_rfl))⟩
  f10 := ⟨Try.f141.name, by decide, Try.func141.trans (congrArg some (by kernel_rfl))⟩
  t0 := Try.underlying0
  a0 := Try.isAgg0
  z0 := Try.sizeOf0
  v0 := Try.zeroValue0
  t4 := Try.underlying4
  a4 := Try.isAgg4
  z4 := Try.sizeOf4
  v4 := Try.zeroValue4
  t23 := Try.underlying131
  a23 := Try.isAgg131
  z23 := Try.sizeOf131
  v23 := Try.zeroValue131
  t26 := Try.underlying9
  a26 := Try.isAgg9
  z26 := Try.sizeOf9
  v26 := Try.zeroValue9
  t27 := Try.underlying155
  a27 := Try.isAgg155
  z27 := Try.sizeOf155
  v27 := Try.zeroValue155
  t28 := Try.underlying156
  a28 := Try.isAgg156
  z28 := Try.sizeOf156
  v28 := Try.zeroValue156
  t33 := Try.underlying115
  a33 := Try.isAgg115
  z33 := Try.sizeOf115
  v33 := Try.zeroValue115 }
def Try.sorted86_ren : Go.Shelf.Ren := ⟨fun | 6 => 86 | 8 => 139 | 9 => 140 | 11 => 178 | 13 => 180 | 12 => 179 | 23 => 212 | 24 => 213 | 14 => 203 | 15 => 204 | 16 => 205 | 17 => 206 | 18 => 207 | 19 => 208 | 20 => 209 | 21 => 210 | 22 => 211 | 25 => 220 | 26 => 221 | 27 => 222 | 28 => 223 | 29 => 224 | 30 => 218 | 31 => 235 | n => n, fun | 26 => 9 | 28 => 156 | 24 => 66 | 0 => 0 | 3 => 3 | 37 => 172 | 48 => 222 | 50 => 94 | 4 => 4 | 40 => 302 | 39 => 301 | 45 => 306 | 5 => 5 | 9 => 9 | 51 => 315 | 55 => 319 | 57 => 326 | 58 => 327 | 33 => 115 | n => n, fun | n => n⟩
theorem Try.sorted86 : Go.Proofs.SlLaysZ.n6 Try.prog Try.sorted86_ren := {
  mixed := by kernel_rfl
  f6 := ⟨Try.f86.name, by decide, Try.func86.trans (congrArg some (by kernel_rfl))⟩
  f8 := ⟨Try.f139.name, by decide, Try.func139.trans (congrArg some (by kernel_rfl))⟩
  f11 := ⟨Try.f178.name, by decide, Try.func178.trans (congrArg some (by kernel_rfl))⟩
  t0 := Try.underlying0
  a0 := Try.isAgg0
  z0 := Try.sizeOf0
  v0 := Try.zeroValue0
  t24 := Try.underlying66
  a24 := Try.isAgg66
  z24 := Try.sizeOf66
  v24 := Try.zeroValue66
  t26 := Try.underlying9
  a26 := Try.isAgg9
  z26 := Try.sizeOf9
  v26 := Try.zeroValue9
  t28 := Try.underlying156
  a28 := Try.isAgg156
  z28 := Try.sizeOf156
  v28 := Try.zeroValue156
  i26 := by kernel_rfl }
def Try.sort140_ren : Go.Shelf.Ren := ⟨fun | 6 => 140 | 8 => 180 | 9 => 179 | 19 => 212 | 20 => 213 | 21 => 203 | 22 => 204 | 23 => 205 | 24 => 206 | 25 => 207 | 26 => 208 | 27 => 209 | 28 => 210 | 29 => 211 | 36 => 220 | 31 => 221 | 32 => 222 | 37 => 223 | 38 => 224 | 39 => 218 | 41 => 235 | n => n, fun | 27 => 66 | 29 => 9 | 3 => 3 | 32 => 172 | 26 => 66 | 0 => 0 | 44 => 222 | 46 => 94 | 4 => 4 | 36 => 302 | 35 => 301 | 41 => 306 | 5 => 5 | 9 => 9 | 53 => 315 | 57 => 319 | 63 => 326 | 64 => 327 | n => n, fun | n => n⟩
theorem Try.sort140 : Go.Proofs.SlLaysM.n6 Try.prog Try.sort140_ren := {
  mixed := by kernel_rfl
  f6 := ⟨Try.f140.name, by decide, Try.func140.trans (congrArg some (by kernel_rfl))⟩
  f8 := Try.func180.trans (congrArg some (by kernel_rfl))
  f9 := ⟨Try.f179.name, by decide, Try.func179.trans (congrArg some (by kernel_rfl))⟩
  f19 := Try.func212.trans (congrArg some (by kernel_rfl))
  f20 := Try.func213.trans (congrArg some (by kernel_rfl))
  f21 := ⟨Try.f203.name, by decide, Try.func203.trans (congrArg some (by kernel_rfl))⟩
  f22 := ⟨Try.f204.name, by decide, Try.func204.trans (congrArg some (by kernel_rfl))⟩
  f23 := ⟨Try.f205.name, by decide, Try.func205.trans (congrArg some (by kernel_rfl))⟩
  f24 := ⟨Try.f206.name, by decide, Try.func206.trans (congrArg some (by kernel_rfl))⟩
  f25 := ⟨Try.f207.name, by decide, Try.func207.trans (congrArg some (by kernel_rfl))⟩
  f26 := ⟨Try.f208.name, by decide, Try.func208.trans (congrArg some (by kernel_rfl))⟩
  f27 := ⟨Try.f209.name, by decide, Try.func209.trans (congrArg some (by kernel_rfl))⟩
  f28 := ⟨Try.f210.name, by decide, Try.func210.trans (congrArg some (by kernel_rfl))⟩
  f29 := ⟨Try.f211.name, by decide, Try.func211.trans (congrArg some (by kernel_rfl))⟩
  f31 := Try.func221.trans (congrArg some (by kernel_rfl))
  f32 := Try.func222.trans (congrArg some (by kernel_rfl))
  f36 := ⟨Try.f220.name, by decide, Try.func220.trans (congrArg some (by kernel_rfl))⟩
  f37 := ⟨Try.f223.name, by decide, Try.func223.trans (congrArg some (by kernel_rfl))⟩
  f38 := ⟨Try.f224.name, by decide, Try.func224.trans (congrArg some (by kernel_rfl))⟩
  f39 := ⟨Try.f218.name, by decide, Try.func218.trans (congrArg some (by kernel_rfl))⟩
  f41 := ⟨Try.f235.name, by decide, Try.func235.trans (congrArg some (by kernel_rfl))⟩
  t0 := Try.underlying0
  a0 := Try.isAgg0
  z0 := Try.sizeOf0
  v0 := Try.zeroValue0
  t3 := Try.underlying3
  a3 := Try.isAgg3
  z3 := Try.sizeOf3
  v3 := Try.zeroValue3
  t4 := Try.underlying4
  a4 := Try.isAgg4
  z4 := Try.sizeOf4
  v4 := Try.zeroValue4
  t5 := Try.underlying5
  a5 := Try.isAgg5
  z5 := Try.sizeOf5
  v5 := Try.zeroValue5
  t9 := Try.underlying9
  a9 := Try.isAgg9
  z9 := Try.sizeOf9
  v9 := Try.zeroValue9
  t26 := Try.underlying66
  a26 := Try.isAgg66
  z26 := Try.sizeOf66
  v26 := Try.zeroValue66
  t27 := Try.underlying66
  a27 := Try.isAgg66
  z27 := Try.sizeOf66
  v27 := Try.zeroValue66
  t29 := Try.underlying9
  a29 := Try.isAgg9
  z29 := Try.sizeOf9
  v29 := Try.zeroValue9
  t32 := Try.underlying172
  a32 := Try.isAgg172
  z32 := Try.sizeOf172
  v32 := Try.zeroValue172
  t35 := Try.underlying301
  a35 := Try.isAgg301
  z35 := Try.sizeOf301
  v35 := Try.zeroValue301
  t36 := Try.underlying302
  a36 := Try.isAgg302
  z36 := Try.sizeOf302
  v36 := Try.zeroValue302
  t41 := Try.underlying306
  a41 := Try.isAgg306
  z41 := Try.sizeOf306
  v41 := Try.zeroValue306
  t44 := Try.underlying222
  a44 := Try.isAgg222
  z44 := Try.sizeOf222
  v44 := Try.zeroValue222
  t46 := Try.underlying94
  a46 := Try.isAgg94
  z46 := Try.sizeOf94
  v46 := Try.zeroValue94
  t53 := Try.underlying315
  a53 := Try.isAgg315
  z53 := Try.sizeOf315
  v53 := Try.zeroValue315
  t57 := Try.underlying319
  a57 := Try.isAgg319
  z57 := Try.sizeOf319
  v57 := Try.zeroValue319
  t63 := Try.underlying326
  a63 := Try.isAgg326
  z63 := Try.sizeOf326
  v63 := Try.zeroValue326
  t64 := Try.underlying327
  a64 := Try.isAgg327
  z64 := Try.sizeOf327
  v64 := Try.zeroValue327 }
def Try.keys157_ren : Go.Shelf.Ren := ⟨fun | 7 => 157 | 10 => 187 | n => n, fun | 23 => 240 | 26 => 9 | 3 => 26 | 28 => 156 | 0 => 0 | 27 => 155 | 33 => 115 | 4 => 4 | n => n, fun | n => n⟩
theorem Try.keys157 : Go.Proofs.SlLaysZ.n7 Try.prog Try.keys157_ren := {
  mixed := by kernel_rfl
  f7 := ⟨Try.f157.name, by decide, Try.func157.trans (congrArg some (by kernel_rfl))⟩
  f10 := ⟨Try.f187.name, by decide, Try.func187.trans (congrArg some (by kernel_rfl))⟩
  t0 := Try.underlying0
  a0 := Try.isAgg0
  z0 := Try.sizeOf0
  v0 := Try.zeroValue0
  t4 := Try.underlying4
  a4 := Try.isAgg4
  z4 := Try.sizeOf4
  v4 := Try.zeroValue4
  t23 := Try.underlying240
  a23 := Try.isAgg240
  z23 := Try.sizeOf240
  v23 := Try.zeroValue240
  t26 := Try.underlying9
  a26 := Try.isAgg9
  z26 := Try.sizeOf9
  v26 := Try.zeroValue9
  t27 := Try.underlying155
  a27 := Try.isAgg155
  z27 := Try.sizeOf155
  v27 := Try.zeroValue155
  t28 := Try.underlying156
  a28 := Try.isAgg156
  z28 := Try.sizeOf156
  v28 := Try.zeroValue156
  t33 := Try.underlying115
  a33 := Try.isAgg115
  z33 := Try.sizeOf115
  v33 := Try.zeroValue115 }
open Go.RowKit Go.Maps Go.Sort Go.Shelf
theorem Try.sorts86 (m : Nat) : AnyZ.SortsIn Try.prog Try.sorted86_ren Fence.wide m :=
  ⟨fun blk off cap ss W hH hblk hsz => callsIn_wide.2 (AnyM.slices_Sort_string Try.sort140 blk off cap ss W hH hblk hsz),
   fun p cap W => callsIn_wide.2 (AnyM.slices_Sort_string_none Try.sort140 p cap W)⟩


theorem Try.maps_Keys_87 (mb : Option Nat) (W : World) : CallsIn Fence.wide 5 Try.prog 87 #[.map mb] W fun e w' => e = .returned (.func (.func 141) #[] #[.pointer (some ⟨W.heap.size, 0, none⟩)]) ∧ w' = W.alloc (.cells #[.map mb] 131) :=
  AnyZ.keys_in Try.keys87 Fence.wide 5 trivial rfl mb W


set_option maxHeartbeats 1000000 in
theorem Try.slices_Sorted_keys_86_87 {H : Type} (b nn : Nat) (D0 : DataW H) (R : Value → Option (DataW H × List MemPlace)) (w : World) (hown : w.ownsMap Try.prog 9 R b nn D0) (hmax : Maps.size D0 ≤ maxLen) (hbytes : Maps.size D0 * 16 ≤ 140737488355328) :
    CallsIn Fence.wide 5 Try.prog 86 #[.func (.func 141) #[] #[.pointer (some ⟨w.heap.size, 0, none⟩)]] (w.alloc (.cells #[.map (some b)] 131)) fun e w' => ∃ (v : Value) (ss : List (List UInt8)), e = .returned v ∧ ss.Perm (strKeys D0) ∧
      w'.ownsRow (w.alloc (.cells #[.map (some b)] 131)).heap.size 9 1 v ss.length ((ss.mergeSort (fun x y => decide (x ≤ y))).map encStr) ∧ (v = .slice none 0 0 ↔ ss = []) ∧ Below (w.alloc (.cells #[.map (some b)] 131)).heap.size (w.alloc (.cells #[.map (some b)] 131)) w' := by
  have hbl := hown.lt
  have hseq : SeqGives Fence.wide 2 Try.prog 141 #[.pointer (some ⟨w.heap.size, 0, none⟩)] encStr (fun ss => ss.Perm (strKeys D0)) (Maps.size D0) (w.alloc (.cells #[.map (some b)] 131)) :=
    AnyZ.keys_gives (ρ := Try.keys87_ren) { Try.keys87 with } Fence.wide _ trivial rfl (by omega) w.heap.size b nn D0 _ (by simp) (by simp) (by
      obtain ⟨es, clock, hb, Ft, hs, hD⟩ := hown
      exact ⟨es, clock, (Below.heap_alloc _ _ b hbl).trans hb, Ft, hs, hD⟩)
  exact AnyZ.sorted_in Try.sorted86 Fence.wide 5 trivial trivial trivial trivial rfl (by omega) (Try.sorts86 _) (enters_of Try.func140 (by kernel_rfl) rfl) 141 #[.pointer (some ⟨w.heap.size, 0, none⟩)] trivial (enters_of Try.func141 (by kernel_rfl) rfl) _ _ hmax hbytes _ hseq


set_option maxHeartbeats 1000000 in
theorem Try.slices_Sorted_keys_nil_86_87 (w : World) :
    CallsIn Fence.wide 5 Try.prog 86 #[.func (.func 141) #[] #[.pointer (some ⟨w.heap.size, 0, none⟩)]] (w.alloc (.cells #[.map none] 131)) fun e w' => ∃ (v : Value) (ss : List (List UInt8)), e = .returned v ∧ ss = [] ∧
      w'.ownsRow (w.alloc (.cells #[.map none] 131)).heap.size 9 1 v ss.length ((ss.mergeSort (fun x y => decide (x ≤ y))).map encStr) ∧ (v = .slice none 0 0 ↔ ss = []) ∧ Below (w.alloc (.cells #[.map none] 131)).heap.size (w.alloc (.cells #[.map none] 131)) w' := by
  have hseq : SeqGives Fence.wide 2 Try.prog 141 #[.pointer (some ⟨w.heap.size, 0, none⟩)] encStr (fun ss : List (List UInt8) => ss = []) 0 (w.alloc (.cells #[.map none] 131)) :=
    AnyZ.keys_gives_nil (ρ := Try.keys87_ren) { Try.keys87 with } Fence.wide _ trivial rfl w.heap.size _ (by simp) (by simp)
  exact AnyZ.sorted_in Try.sorted86 Fence.wide 5 trivial trivial trivial trivial rfl (by omega) (Try.sorts86 _) (enters_of Try.func140 (by kernel_rfl) rfl) 141 #[.pointer (some ⟨w.heap.size, 0, none⟩)] trivial (enters_of Try.func141 (by kernel_rfl) rfl) _ 0 (Nat.zero_le _) (by omega) _ hseq




theorem Try.maps_Keys_157 (mb : Option Nat) (W : World) : CallsIn Fence.wide 5 Try.prog 157 #[.map mb] W fun e w' => e = .returned (.func (.func 187) #[] #[.pointer (some ⟨W.heap.size, 0, none⟩)]) ∧ w' = W.alloc (.cells #[.map mb] 240) :=
  AnyZ.keys_in Try.keys157 Fence.wide 5 trivial rfl mb W


set_option maxHeartbeats 1000000 in
theorem Try.slices_Sorted_keys_86_157 {H : Type} (b nn : Nat) (D0 : DataW H) (R : Value → Option (DataW H × List MemPlace)) (w : World) (hown : w.ownsMap Try.prog 9 R b nn D0) (hmax : Maps.size D0 ≤ maxLen) (hbytes : Maps.size D0 * 16 ≤ 140737488355328) :
    CallsIn Fence.wide 5 Try.prog 86 #[.func (.func 187) #[] #[.pointer (some ⟨w.heap.size, 0, none⟩)]] (w.alloc (.cells #[.map (some b)] 240)) fun e w' => ∃ (v : Value) (ss : List (List UInt8)), e = .returned v ∧ ss.Perm (strKeys D0) ∧
      w'.ownsRow (w.alloc (.cells #[.map (some b)] 240)).heap.size 9 1 v ss.length ((ss.mergeSort (fun x y => decide (x ≤ y))).map encStr) ∧ (v = .slice none 0 0 ↔ ss = []) ∧ Below (w.alloc (.cells #[.map (some b)] 240)).heap.size (w.alloc (.cells #[.map (some b)] 240)) w' := by
  have hbl := hown.lt
  have hseq : SeqGives Fence.wide 2 Try.prog 187 #[.pointer (some ⟨w.heap.size, 0, none⟩)] encStr (fun ss => ss.Perm (strKeys D0)) (Maps.size D0) (w.alloc (.cells #[.map (some b)] 240)) :=
    AnyZ.keys_gives (ρ := Try.keys157_ren) { Try.keys157 with } Fence.wide _ trivial rfl (by omega) w.heap.size b nn D0 _ (by simp) (by simp) (by
      obtain ⟨es, clock, hb, Ft, hs, hD⟩ := hown
      exact ⟨es, clock, (Below.heap_alloc _ _ b hbl).trans hb, Ft, hs, hD⟩)
  exact AnyZ.sorted_in Try.sorted86 Fence.wide 5 trivial trivial trivial trivial rfl (by omega) (Try.sorts86 _) (enters_of Try.func140 (by kernel_rfl) rfl) 187 #[.pointer (some ⟨w.heap.size, 0, none⟩)] trivial (enters_of Try.func187 (by kernel_rfl) rfl) _ _ hmax hbytes _ hseq


set_option maxHeartbeats 1000000 in
theorem Try.slices_Sorted_keys_nil_86_157 (w : World) :
    CallsIn Fence.wide 5 Try.prog 86 #[.func (.func 187) #[] #[.pointer (some ⟨w.heap.size, 0, none⟩)]] (w.alloc (.cells #[.map none] 240)) fun e w' => ∃ (v : Value) (ss : List (List UInt8)), e = .returned v ∧ ss = [] ∧
      w'.ownsRow (w.alloc (.cells #[.map none] 240)).heap.size 9 1 v ss.length ((ss.mergeSort (fun x y => decide (x ≤ y))).map encStr) ∧ (v = .slice none 0 0 ↔ ss = []) ∧ Below (w.alloc (.cells #[.map none] 240)).heap.size (w.alloc (.cells #[.map none] 240)) w' := by
  have hseq : SeqGives Fence.wide 2 Try.prog 187 #[.pointer (some ⟨w.heap.size, 0, none⟩)] encStr (fun ss : List (List UInt8) => ss = []) 0 (w.alloc (.cells #[.map none] 240)) :=
    AnyZ.keys_gives_nil (ρ := Try.keys157_ren) { Try.keys157 with } Fence.wide _ trivial rfl w.heap.size _ (by simp) (by simp)
  exact AnyZ.sorted_in Try.sorted86 Fence.wide 5 trivial trivial trivial trivial rfl (by omega) (Try.sorts86 _) (enters_of Try.func140 (by kernel_rfl) rfl) 187 #[.pointer (some ⟨w.heap.size, 0, none⟩)] trivial (enters_of Try.func187 (by kernel_rfl) rfl) _ 0 (Nat.zero_le _) (by omega) _ hseq




end Go.Proofs
