/- The contracts of slices.Sorted(maps.Keys(m)) at this program, by the kit's lay-iter and lay-plain. -/
import Derived.Shelf.SlIter.Nil
import Derived.Shelf.SortM.Plain
import Derived.Shelf.SortM.SortNone
import Derived.Ground.GgzProg
import Derived.Ground.SlgmProg
import Derived.Test.YtgmmglmokkcgeaaGreatProg
import Derived.Test.YtgmmglmokkcgeaaGreatR3
namespace Go.Proofs
open Go.RowKit Go.Maps Go.Sort Go.Shelf
def YtgmmglmokkcgeaaGreat.keys46_ren : Go.Shelf.Ren := ⟨fun | 7 => 46 | 10 => 89 | n => n, fun | 23 => 32 | 26 => 9 | 3 => 24 | 28 => 102 | 0 => 0 | 27 => 101 | 33 => 126 | 4 => 4 | n => n, fun | n => n⟩
theorem YtgmmglmokkcgeaaGreat.keys46 : Go.Proofs.SlLaysZ.n7 Tryz.prog YtgmmglmokkcgeaaGreat.keys46_ren := {
  mixed := by kernel_rfl
  f7 := ⟨Tryz.f46.name, by decide, Tryz.func46.trans (congrArg some (by kernel_rfl))⟩
  f10 := ⟨Tryz.f89.name, by decide, Tryz.func89.trans (congrArg some (by kernel_rfl))⟩
  t0 := Tryz.underlying0
  a0 := Tryz.isAgg0
  z0 := Tryz.sizeOf0
  v0 := Tryz.zeroValue0
  t4 := Tryz.underlying4
  a4 := Tryz.isAgg4
  z4 := Tryz.sizeOf4
  v4 := Tryz.zeroValue4
  t23 := Tryz.underlying32
  a23 := Tryz.isAgg32
  z23 := Tryz.sizeOf32
  v23 := Tryz.zeroValue32
  t26 := Tryz.underlying9
  a26 := Tryz.isAgg9
  z26 := Tryz.sizeOf9
  v26 := Tryz.zeroValue9
  t27 := Tryz.underlying101
  a27 := Tryz.isAgg101
  z27 := Tryz.sizeOf101
  v27 := Tryz.zeroValue101
  t28 := Tryz.underlying102
  a28 := Tryz.isAgg102
  z28 := Tryz.sizeOf102
  v28 := Tryz.zeroValue102
  t33 := Tryz.underlying126
  a33 := Tryz.isAgg126
  z33 := Tryz.sizeOf126
  v33 := Tryz.zeroValue126 }
def YtgmmglmokkcgeaaGreat.keys48_ren : Go.Shelf.Ren := ⟨fun | 7 => 48 | 10 => 91 | n => n, fun | 23 => 34 | 26 => 9 | 3 => 82 | 28 => 102 | 0 => 0 | 27 => 101 | 33 => 126 | 4 => 4 | n => n, fun | n => n⟩
theorem YtgmmglmokkcgeaaGreat.keys48 : Go.Proofs.SlLaysZ.n7 Tryz.prog YtgmmglmokkcgeaaGreat.keys48_ren := {
  mixed := by kernel_rfl
  f7 := ⟨Tryz.f48.name, by decide, Tryz.func48.trans (congrArg some (by kernel_rfl))⟩
  f10 := ⟨Tryz.f91.name, by decide, Tryz.func91.trans (congrArg some (by kernel_rfl))⟩
  t0 := Tryz.underlying0
  a0 := Tryz.isAgg0
  z0 := Tryz.sizeOf0
  v0 := Tryz.zeroValue0
  t4 := Tryz.underlying4
  a4 := Tryz.isAgg4
  z4 := Tryz.sizeOf4
  v4 := Tryz.zeroValue4
  t23 := Tryz.underlying34
  a23 := Tryz.isAgg34
  z23 := Tryz.sizeOf34
  v23 := Tryz.zeroValue34
  t26 := Tryz.underlying9
  a26 := Tryz.isAgg9
  z26 := Tryz.sizeOf9
  v26 := Tryz.zeroValue9
  t27 := Tryz.underlying101
  a27 := Tryz.isAgg101
  z27 := Tryz.sizeOf101
  v27 := Tryz.zeroValue101
  t28 := Tryz.underlying102
  a28 := Tryz.isAgg102
  z28 := Tryz.sizeOf102
  v28 := Tryz.zeroValue102
  t33 := Tryz.underlying126
  a33 := Tryz.isAgg126
  z33 := Tryz.sizeOf126
  v33 := Tryz.zeroValue126 }
def YtgmmglmokkcgeaaGreat.keys50_ren : Go.Shelf.Ren := ⟨fun | 7 => 50 | 10 => 92 | n => n, fun | 23 => 33 | 26 => 9 | 3 => 41 | 28 => 102 | 0 => 0 | 27 => 101 | 33 => 126 | 4 => 4 | n => n, fun | n => n⟩
theorem YtgmmglmokkcgeaaGreat.keys50 : Go.Proofs.SlLaysZ.n7 Tryz.prog YtgmmglmokkcgeaaGreat.keys50_ren := {
  mixed := by kernel_rfl
  f7 := ⟨Tryz.f50.name, by decide, Tryz.func50.trans (congrArg some (by kernel_rfl))⟩
  f10 := ⟨Tryz.f92.name, by decide, Tryz.func92.trans (congrArg some (by kernel_rfl))⟩
  t0 := Tryz.underlying0
  a0 := Tryz.isAgg0
  z0 := Tryz.sizeOf0
  v0 := Tryz.zeroValue0
  t4 := Tryz.underlying4
  a4 := Tryz.isAgg4
  z4 := Tryz.sizeOf4
  v4 := Tryz.zeroValue4
  t23 := Tryz.underlying33
  a23 := Tryz.isAgg33
  z23 := Tryz.sizeOf33
  v23 := Tryz.zeroValue33
  t26 := Tryz.underlying9
  a26 := Tryz.isAgg9
  z26 := Tryz.sizeOf9
  v26 := Tryz.zeroValue9
  t27 := Tryz.underlying101
  a27 := Tryz.isAgg101
  z27 := Tryz.sizeOf101
  v27 := Tryz.zeroValue101
  t28 := Tryz.underlying102
  a28 := Tryz.isAgg102
  z28 := Tryz.sizeOf102
  v28 := Tryz.zeroValue102
  t33 := Tryz.underlying126
  a33 := Tryz.isAgg126
  z33 := Tryz.sizeOf126
  v33 := Tryz.zeroValue126 }
def YtgmmglmokkcgeaaGreat.sorted45_ren : Go.Shelf.Ren := ⟨fun | 6 => 45 | 8 => 87 | 9 => 88 | 11 => 116 | 13 => 115 | 12 => 117 | 23 => 127 | 24 => 128 | 14 => 129 | 15 => 130 | 16 => 131 | 17 => 132 | 18 => 133 | 19 => 134 | 20 => 135 | 21 => 136 | 22 => 137 | 25 => 143 | 26 => 139 | 27 => 140 | 28 => 144 | 29 => 145 | 30 => 146 | 31 => 148 | n => n, fun | 26 => 9 | 28 => 102 | 24 => 25 | 0 => 0 | 3 => 3 | 37 => 118 | 48 => 23 | 50 => 24 | 4 => 4 | 40 => 160 | 39 => 159 | 45 => 80 | 5 => 5 | 9 => 9 | 51 => 173 | 55 => 176 | 57 => 180 | 58 => 181 | 33 => 126 | n => n, fun | n => n⟩
theorem YtgmmglmokkcgeaaGreat.sorted45 : Go.Proofs.SlLaysZ.n6 Tryz.prog YtgmmglmokkcgeaaGreat.sorted45_ren := {
  mixed := by kernel_rfl
  f6 := ⟨Tryz.f45.name, by decide, Tryz.func45.trans (congrArg some (by kernel_rfl))⟩
  f8 := ⟨Tryz.f87.name, by decide, Tryz.func87.trans (congrArg some (by kernel_rfl))⟩
  f11 := ⟨Tryz.f116.name, by decide, Tryz.func116.trans (congrArg some (by kernel_rfl))⟩
  t0 := Tryz.underlying0
  a0 := Tryz.isAgg0
  z0 := Tryz.sizeOf0
  v0 := Tryz.zeroValue0
  t24 := Tryz.underlying25
  a24 := Tryz.isAgg25
  z24 := Tryz.sizeOf25
  v24 := Tryz.zeroValue25
  t26 := Tryz.underlying9
  a26 := Tryz.isAgg9
  z26 := Tryz.sizeOf9
  v26 := Tryz.zeroValue9
  t28 := Tryz.underlying102
  a28 := Tryz.isAgg102
  z28 := Tryz.sizeOf102
  v28 := Tryz.zeroValue102
  i26 := by kernel_rfl }
def YtgmmglmokkcgeaaGreat.sort88_ren : Go.Shelf.Ren := ⟨fun | 6 => 88 | 8 => 115 | 9 => 117 | 19 => 127 | 20 => 128 | 21 => 129 | 22 => 130 | 23 => 131 | 24 => 132 | 25 => 133 | 26 => 134 | 27 => 135 | 28 => 136 | 29 => 137 | 36 => 143 | 31 => 139 | 32 => 140 | 37 => 144 | 38 => 145 | 39 => 146 | 41 => 148 | n => n, fun | 27 => 25 | 29 => 9 | 3 => 3 | 32 => 118 | 26 => 25 | 0 => 0 | 44 => 23 | 46 => 24 | 4 => 4 | 36 => 160 | 35 => 159 | 41 => 80 | 5 => 5 | 9 => 9 | 53 => 173 | 57 => 176 | 63 => 180 | 64 => 181 | n => n, fun | n => n⟩
theorem YtgmmglmokkcgeaaGreat.sort88 : Go.Proofs.SlLaysM.n6 Tryz.prog YtgmmglmokkcgeaaGreat.sort88_ren := {
  mixed := by kernel_rfl
  f6 := ⟨Tryz.f88.name, by decide, Tryz.func88.trans (congrArg some (by kernel_rfl))⟩
  f8 := Tryz.func115.trans (congrArg some (by kernel_rfl))
  f9 := ⟨Tryz.f117.name, by decide, Tryz.func117.trans (congrArg some (by kernel_rfl))⟩
  f19 := Tryz.func127.trans (congrArg some (by kernel_rfl))
  f20 := Tryz.func128.trans (congrArg some (by kernel_rfl))
  f21 := ⟨Tryz.f129.name, by decide, Tryz.func129.trans (congrArg some (by kernel_rfl))⟩
  f22 := ⟨Tryz.f130.name, by decide, Tryz.func130.trans (congrArg some (by kernel_rfl))⟩
  f23 := ⟨Tryz.f131.name, by decide, Tryz.func131.trans (congrArg some (by kernel_rfl))⟩
  f24 := ⟨Tryz.f132.name, by decide, Tryz.func132.trans (congrArg some (by kernel_rfl))⟩
  f25 := ⟨Tryz.f133.name, by decide, Tryz.func133.trans (congrArg some (by kernel_rfl))⟩
  f26 := ⟨Tryz.f134.name, by decide, Tryz.func134.trans (congrArg some (by kernel_rfl))⟩
  f27 := ⟨Tryz.f135.name, by decide, Tryz.func135.trans (congrArg some (by kernel_rfl))⟩
  f28 := ⟨Tryz.f136.name, by decide, Tryz.func136.trans (congrArg some (by kernel_rfl))⟩
  f29 := ⟨Tryz.f137.name, by decide, Tryz.func137.trans (congrArg some (by kernel_rfl))⟩
  f31 := Tryz.func139.trans (congrArg some (by kernel_rfl))
  f32 := Tryz.func140.trans (congrArg some (by kernel_rfl))
  f36 := ⟨Tryz.f143.name, by decide, Tryz.func143.trans (congrArg some (by kernel_rfl))⟩
  f37 := ⟨Tryz.f144.name, by decide, Tryz.func144.trans (congrArg some (by kernel_rfl))⟩
  f38 := ⟨Tryz.f145.name, by decide, Tryz.func145.trans (congrArg some (by kernel_rfl))⟩
  f39 := ⟨Tryz.f146.name, by decide, Tryz.func146.trans (congrArg some (by kernel_rfl))⟩
  f41 := ⟨Tryz.f148.name, by decide, Tryz.func148.trans (congrArg some (by kernel_rfl))⟩
  t0 := Tryz.underlying0
  a0 := Tryz.isAgg0
  z0 := Tryz.sizeOf0
  v0 := Tryz.zeroValue0
  t3 := Tryz.underlying3
  a3 := Tryz.isAgg3
  z3 := Tryz.sizeOf3
  v3 := Tryz.zeroValue3
  t4 := Tryz.underlying4
  a4 := Tryz.isAgg4
  z4 := Tryz.sizeOf4
  v4 := Tryz.zeroValue4
  t5 := Tryz.underlying5
  a5 := Tryz.isAgg5
  z5 := Tryz.sizeOf5
  v5 := Tryz.zeroValue5
  t9 := Tryz.underlying9
  a9 := Tryz.isAgg9
  z9 := Tryz.sizeOf9
  v9 := Tryz.zeroValue9
  t26 := Tryz.underlying25
  a26 := Tryz.isAgg25
  z26 := Tryz.sizeOf25
  v26 := Tryz.zeroValue25
  t27 := Tryz.underlying25
  a27 := Tryz.isAgg25
  z27 := Tryz.sizeOf25
  v27 := Tryz.zeroValue25
  t29 := Tryz.underlying9
  a29 := Tryz.isAgg9
  z29 := Tryz.sizeOf9
  v29 := Tryz.zeroValue9
  t32 := Tryz.underlying118
  a32 := Tryz.isAgg118
  z32 := Tryz.sizeOf118
  v32 := Tryz.zeroValue118
  t35 := Tryz.underlying159
  a35 := Tryz.isAgg159
  z35 := Tryz.sizeOf159
  v35 := Tryz.zeroValue159
  t36 := Tryz.underlying160
  a36 := Tryz.isAgg160
  z36 := Tryz.sizeOf160
  v36 := Tryz.zeroValue160
  t41 := Tryz.underlying80
  a41 := Tryz.isAgg80
  z41 := Tryz.sizeOf80
  v41 := Tryz.zeroValue80
  t44 := Tryz.underlying23
  a44 := Tryz.isAgg23
  z44 := Tryz.sizeOf23
  v44 := Tryz.zeroValue23
  t46 := Tryz.underlying24
  a46 := Tryz.isAgg24
  z46 := Tryz.sizeOf24
  v46 := Tryz.zeroValue24
  t53 := Tryz.underlying173
  a53 := Tryz.isAgg173
  z53 := Tryz.sizeOf173
  v53 := Tryz.zeroValue173
  t57 := Tryz.underlying176
  a57 := Tryz.isAgg176
  z57 := Tryz.sizeOf176
  v57 := Tryz.zeroValue176
  t63 := Tryz.underlying180
  a63 := Tryz.isAgg180
  z63 := Tryz.sizeOf180
  v63 := Tryz.zeroValue180
  t64 := Tryz.underlying181
  a64 := Tryz.isAgg181
  z64 := Tryz.sizeOf181
  v64 := Tryz.zeroValue181 }
theorem YtgmmglmokkcgeaaGreat.sorts45 (m : Nat) : AnyZ.SortsIn Tryz.prog YtgmmglmokkcgeaaGreat.sorted45_ren Fence.wide m :=
  ⟨fun blk off cap ss W hH hblk hsz => callsIn_wide.2 (AnyM.slices_Sort_string YtgmmglmokkcgeaaGreat.sort88 blk off cap ss W hH hblk hsz),
   fun p cap W => callsIn_wide.2 (AnyM.slices_Sort_string_none YtgmmglmokkcgeaaGreat.sort88 p cap W)⟩
theorem YtgmmglmokkcgeaaGreat.maps_Keys_46 (mb : Option Nat) (W : World) : CallsIn Fence.wide 5 Tryz.prog 46 #[.map mb] W fun e w' => e = .returned (.func (.func 89) #[] #[.pointer (some ⟨W.heap.size, 0, none⟩)]) ∧ w' = W.alloc (.cells #[.map mb] 32) :=
  AnyZ.keys_in YtgmmglmokkcgeaaGreat.keys46 Fence.wide 5 trivial rfl mb W
set_option maxHeartbeats 1000000 in
theorem YtgmmglmokkcgeaaGreat.slices_Sorted_keys_45_46 {H : Type} (b nn : Nat) (D0 : DataW H) (R : Value → Option (DataW H × List MemPlace)) (w : World) (hown : w.ownsMap Tryz.prog 9 R b nn D0) (hmax : Maps.size D0 ≤ maxLen) (hbytes : Maps.size D0 * 16 ≤ 140737488355328) :
    CallsIn Fence.wide 5 Tryz.prog 45 #[.func (.func 89) #[] #[.pointer (some ⟨w.heap.size, 0, none⟩)]] (w.alloc (.cells #[.map (some b)] 32)) fun e w' => ∃ (v : Value) (ss : List (List UInt8)), e = .returned v ∧ ss.Perm (strKeys D0) ∧
      w'.ownsRow (w.alloc (.cells #[.map (some b)] 32)).heap.size 9 1 v ss.length ((ss.mergeSort (fun x y => decide (x ≤ y))).map encStr) ∧ (v = .slice none 0 0 ↔ ss = []) ∧ Below (w.alloc (.cells #[.map (some b)] 32)).heap.size (w.alloc (.cells #[.map (some b)] 32)) w' := by
  have hbl := hown.lt
  have hseq : SeqGives Fence.wide 2 Tryz.prog 89 #[.pointer (some ⟨w.heap.size, 0, none⟩)] encStr (fun ss => ss.Perm (strKeys D0)) (Maps.size D0) (w.alloc (.cells #[.map (some b)] 32)) :=
    AnyZ.keys_gives (ρ := YtgmmglmokkcgeaaGreat.keys46_ren) { YtgmmglmokkcgeaaGreat.keys46 with } Fence.wide _ trivial rfl (by omega) w.heap.size b nn D0 _ (by simp) (by simp) (by
      obtain ⟨es, clock, hb, Ft, hs, hD⟩ := hown
      exact ⟨es, clock, (Below.heap_alloc _ _ b hbl).trans hb, Ft, hs, hD⟩)
  exact AnyZ.sorted_in YtgmmglmokkcgeaaGreat.sorted45 Fence.wide 5 trivial trivial trivial trivial rfl (by omega) (YtgmmglmokkcgeaaGreat.sorts45 _) (enters_of Tryz.func88 (by kernel_rfl) rfl) 89 #[.pointer (some ⟨w.heap.size, 0, none⟩)] trivial (enters_of Tryz.func89 (by kernel_rfl) rfl) _ _ hmax hbytes _ hseq
theorem YtgmmglmokkcgeaaGreat.maps_Keys_48 (mb : Option Nat) (W : World) : CallsIn Fence.wide 5 Tryz.prog 48 #[.map mb] W fun e w' => e = .returned (.func (.func 91) #[] #[.pointer (some ⟨W.heap.size, 0, none⟩)]) ∧ w' = W.alloc (.cells #[.map mb] 34) :=
  AnyZ.keys_in YtgmmglmokkcgeaaGreat.keys48 Fence.wide 5 trivial rfl mb W
set_option maxHeartbeats 1000000 in
theorem YtgmmglmokkcgeaaGreat.slices_Sorted_keys_45_48 {H : Type} (b nn : Nat) (D0 : DataW H) (R : Value → Option (DataW H × List MemPlace)) (w : World) (hown : w.ownsMap Tryz.prog 9 R b nn D0) (hmax : Maps.size D0 ≤ maxLen) (hbytes : Maps.size D0 * 16 ≤ 140737488355328) :
    CallsIn Fence.wide 5 Tryz.prog 45 #[.func (.func 91) #[] #[.pointer (some ⟨w.heap.size, 0, none⟩)]] (w.alloc (.cells #[.map (some b)] 34)) fun e w' => ∃ (v : Value) (ss : List (List UInt8)), e = .returned v ∧ ss.Perm (strKeys D0) ∧
      w'.ownsRow (w.alloc (.cells #[.map (some b)] 34)).heap.size 9 1 v ss.length ((ss.mergeSort (fun x y => decide (x ≤ y))).map encStr) ∧ (v = .slice none 0 0 ↔ ss = []) ∧ Below (w.alloc (.cells #[.map (some b)] 34)).heap.size (w.alloc (.cells #[.map (some b)] 34)) w' := by
  have hbl := hown.lt
  have hseq : SeqGives Fence.wide 2 Tryz.prog 91 #[.pointer (some ⟨w.heap.size, 0, none⟩)] encStr (fun ss => ss.Perm (strKeys D0)) (Maps.size D0) (w.alloc (.cells #[.map (some b)] 34)) :=
    AnyZ.keys_gives (ρ := YtgmmglmokkcgeaaGreat.keys48_ren) { YtgmmglmokkcgeaaGreat.keys48 with } Fence.wide _ trivial rfl (by omega) w.heap.size b nn D0 _ (by simp) (by simp) (by
      obtain ⟨es, clock, hb, Ft, hs, hD⟩ := hown
      exact ⟨es, clock, (Below.heap_alloc _ _ b hbl).trans hb, Ft, hs, hD⟩)
  exact AnyZ.sorted_in YtgmmglmokkcgeaaGreat.sorted45 Fence.wide 5 trivial trivial trivial trivial rfl (by omega) (YtgmmglmokkcgeaaGreat.sorts45 _) (enters_of Tryz.func88 (by kernel_rfl) rfl) 91 #[.pointer (some ⟨w.heap.size, 0, none⟩)] trivial (enters_of Tryz.func91 (by kernel_rfl) rfl) _ _ hmax hbytes _ hseq
theorem YtgmmglmokkcgeaaGreat.maps_Keys_50 (mb : Option Nat) (W : World) : CallsIn Fence.wide 5 Tryz.prog 50 #[.map mb] W fun e w' => e = .returned (.func (.func 92) #[] #[.pointer (some ⟨W.heap.size, 0, none⟩)]) ∧ w' = W.alloc (.cells #[.map mb] 33) :=
  AnyZ.keys_in YtgmmglmokkcgeaaGreat.keys50 Fence.wide 5 trivial rfl mb W
set_option maxHeartbeats 1000000 in
theorem YtgmmglmokkcgeaaGreat.slices_Sorted_keys_45_50 {H : Type} (b nn : Nat) (D0 : DataW H) (R : Value → Option (DataW H × List MemPlace)) (w : World) (hown : w.ownsMap Tryz.prog 9 R b nn D0) (hmax : Maps.size D0 ≤ maxLen) (hbytes : Maps.size D0 * 16 ≤ 140737488355328) :
    CallsIn Fence.wide 5 Tryz.prog 45 #[.func (.func 92) #[] #[.pointer (some ⟨w.heap.size, 0, none⟩)]] (w.alloc (.cells #[.map (some b)] 33)) fun e w' => ∃ (v : Value) (ss : List (List UInt8)), e = .returned v ∧ ss.Perm (strKeys D0) ∧
      w'.ownsRow (w.alloc (.cells #[.map (some b)] 33)).heap.size 9 1 v ss.length ((ss.mergeSort (fun x y => decide (x ≤ y))).map encStr) ∧ (v = .slice none 0 0 ↔ ss = []) ∧ Below (w.alloc (.cells #[.map (some b)] 33)).heap.size (w.alloc (.cells #[.map (some b)] 33)) w' := by
  have hbl := hown.lt
  have hseq : SeqGives Fence.wide 2 Tryz.prog 92 #[.pointer (some ⟨w.heap.size, 0, none⟩)] encStr (fun ss => ss.Perm (strKeys D0)) (Maps.size D0) (w.alloc (.cells #[.map (some b)] 33)) :=
    AnyZ.keys_gives (ρ := YtgmmglmokkcgeaaGreat.keys50_ren) { YtgmmglmokkcgeaaGreat.keys50 with } Fence.wide _ trivial rfl (by omega) w.heap.size b nn D0 _ (by simp) (by simp) (by
      obtain ⟨es, clock, hb, Ft, hs, hD⟩ := hown
      exact ⟨es, clock, (Below.heap_alloc _ _ b hbl).trans hb, Ft, hs, hD⟩)
  exact AnyZ.sorted_in YtgmmglmokkcgeaaGreat.sorted45 Fence.wide 5 trivial trivial trivial trivial rfl (by omega) (YtgmmglmokkcgeaaGreat.sorts45 _) (enters_of Tryz.func88 (by kernel_rfl) rfl) 92 #[.pointer (some ⟨w.heap.size, 0, none⟩)] trivial (enters_of Tryz.func92 (by kernel_rfl) rfl) _ _ hmax hbytes _ hseq
end Go.Proofs
/- The keys of a map, sorted: plain, and of a map in memory. -/
namespace Go.Proofs.YtgmmglmokkcgeaaGreat
set_option linter.unusedVariables false
set_option linter.unusedSimpArgs false
set_option linter.unusedSectionVars false
open Go.RowKit Mk Go.Sort


def strs (ns : List ByteArray) : List Value := ns.map Value.string
/-- The slice v holds these names. -/
def NL (w : World) (v : Value) (ns : List ByteArray) : Prop := sl w 9 1 v ns.length (strs ns)
theorem NL.shape {w : World} {v : Value} {L : List ByteArray} (h : NL w v L) : ∃ o c, v = .slice o L.length c := by
  rcases h.2 with ⟨rfl, e⟩ | ⟨g, cap, cur, rfl, _⟩
  · exact ⟨_, _, by rw [e]⟩
  · exact ⟨_, _, rfl⟩
theorem NL.cell {w : World} {v : Value} {L : List ByteArray} (h : NL w v L) {i : Nat} {s : ByteArray} (hs : L[i]? = some s) : ∃ g cap, v = .slice (some ⟨g, 0, none⟩) L.length cap ∧ w.cell? ⟨g, i, none⟩ = some (.string s) :=
  sl.cell h (by unfold strs; rw [List.getElem?_map, hs]; rfl)
theorem NL.stay {w w' : World} {v : Value} {L : List ByteArray} (h : NL w v L) (k : Below w.heap.size w w') : NL w' v L := sl.stay h (fun _ hg => k.block _ (sl.lt h hg))

/-- The names, rising. -/
def sortN (ns : List ByteArray) : List ByteArray := ((ns.map (·.toList)).mergeSort fun x y => decide (x ≤ y)).map fun l => ⟨l.toArray⟩
theorem back_list (s : ByteArray) : (⟨s.toList.toArray⟩ : ByteArray) = s := by
  rw [ByteArray.toList_eq]
theorem sortN_len (ns : List ByteArray) : (sortN ns).length = ns.length := by
  unfold sortN; rw [List.length_map, List.length_mergeSort, List.length_map]
theorem sortN_perm (ns : List ByteArray) : (sortN ns).Perm ns := by
  unfold sortN
  have h := (List.mergeSort_perm (ns.map (·.toList)) fun x y => decide (x ≤ y)).map (fun l : List UInt8 => (⟨l.toArray⟩ : ByteArray))
  refine h.trans ?_
  rw [List.map_map]
  have : (fun l : List UInt8 => (⟨l.toArray⟩ : ByteArray)) ∘ (fun s : ByteArray => s.toList) = id := by
    funext s; exact back_list s
  rw [this, List.map_id]
/-- Names that rise are the sorted ones. -/
theorem sortN_eq {ns ms : List ByteArray} (hp : ms.Perm ns) (hs : ms.Pairwise (fun a b => lessB a b = true)) : sortN ns = ms := by
  have hs : ms.Pairwise (fun a b => a.toList < b.toList) := hs.imp (fun h => by rw [lessB_eq] at h; simpa using h)
  have h1 : ((ns.map (·.toList)).mergeSort fun x y => decide (x ≤ y)) = ms.map (·.toList) := by
    refine List.Perm.eq_of_pairwise (le := fun x y : List UInt8 => x ≤ y) ?_ ?_ ?_ ?_
    · intro a b _ _ h1 h2
      exact List.le_antisymm h1 h2
    · have := List.pairwise_mergeSort (le := fun x y : List UInt8 => decide (x ≤ y)) (fun a b c h1 h2 => by
        simp only [decide_eq_true_eq] at *; exact List.le_trans h1 h2) (fun a b => by
        have := List.le_total a b
        simp only [Bool.or_eq_true, decide_eq_true_eq]; exact this) (ns.map (·.toList))
      exact this.imp (fun h => by simpa using h)
    · rw [List.pairwise_map]
      exact hs.imp (fun h => List.le_of_lt h)
    · exact (List.mergeSort_perm _ _).trans (hp.map _).symm
  unfold sortN
  rw [h1, List.map_map]
  have : (fun l : List UInt8 => (⟨l.toArray⟩ : ByteArray)) ∘ (fun s : ByteArray => s.toList) = id := by
    funext s; exact back_list s
  rw [this, List.map_id]

/-- Any element reads as something. -/
def Ru (v : Value) : Option (DataW Unit × List MemPlace) := some (.lit (.bool true), [])
theorem insert_perm {H : Type} (x : Lit × DataW H) (l : List (Lit × DataW H)) : (DataW.insert x l).Perm (x :: l) := by
  induction l with
  | nil => exact List.Perm.refl _
  | cons y l ih =>
    unfold DataW.insert
    split
    · exact List.Perm.refl _
    · exact (ih.cons y).trans (List.Perm.swap x y l)
theorem sorted_perm {H : Type} (l : List (Lit × DataW H)) : (l.foldr DataW.insert []).Perm l := by
  induction l with
  | nil => exact List.Perm.refl _
  | cons x l ih => exact (insert_perm x _).trans (ih.cons x)
theorem own_of_map {w : World} {r : Nat} {L : List (ByteArray × Value)} (h : mapAt okS kvS w r L) (hl : L.length ≤ maxLen) :
    ∃ D : DataW Unit, w.ownsMap Tryz.prog 9 Ru r L.length D ∧ (strKeys D).Perm (L.map (fun p => p.1.toList)) ∧ Go.Maps.size D = L.length := by
  obtain ⟨es, ck, hb, E⟩ := h
  have hlen : es.toList.length = L.length := by have := congrArg List.length E.is; simpa using this
  have hrd : ∀ x ∈ es.toList, ∃ s : ByteArray, x.key = .string s ∧ Go.WideElems.rd Tryz.prog 9 Ru x = some (.string s.data.toList, .lit (.bool true)) := fun x hx => by
    obtain ⟨p, hp, e1, _⟩ := E.key hx
    refine ⟨p.1, e1, ?_⟩
    unfold Go.WideElems.rd
    rw [e1]
    show (keyOf Tryz.prog 9 (.string p.1)).bind _ = _
    rw [Go.WideMaps.keyOf_string_mk Tryz.underlying9 (E.ok p hp)]
    rfl
  have hkeys : (es.toList.map (Go.WideElems.rg Tryz.prog 9 Ru)).map (fun p => strOf p.1) = L.map (fun p => p.1.toList) := by
    have h1 : (es.toList.map (Go.WideElems.rg Tryz.prog 9 Ru)).map (fun p => strOf p.1) = (es.toList.map (fun e => (e.key, e.val))).map (fun p => match p.1 with | .string s => s.toList | _ => []) := by
      rw [List.map_map, List.map_map]
      refine List.map_congr_left fun x hx => ?_
      obtain ⟨s, e1, e2⟩ := hrd x hx
      simp only [Function.comp, Go.WideElems.rg, e2, e1, Option.getD_some, strOf, ByteArray.toList_eq]
    rw [h1, E.is, List.map_map]
    rfl
  refine ⟨_, ⟨es, ck, hb, ⟨?_, E.stamped, fun x hx => ?_⟩, ?_, rfl⟩, ?_, ?_⟩
  · have : es.size = L.length := by rw [← hlen]; simp
    omega
  · obtain ⟨s, _, e2⟩ := hrd x hx
    exact ⟨_, e2⟩
  · have : es.size = L.length := by rw [← hlen]; simp
    omega
  · show (List.map (fun p : Lit × DataW Unit => strOf p.1) _).Perm _
    refine ((sorted_perm _).map _).trans ?_
    rw [hkeys]
  · show List.length _ = _
    rw [(sorted_perm _).length_eq]
    simpa using hlen
/-- What the library says of the sorted keys, in the words of this text. -/
theorem NL.of_row {w' : World} {B : Nat} {v : Value} {ss : List (List UInt8)} {ns : List ByteArray} (hp : ss.Perm (ns.map (·.toList))) (h : w'.ownsRow B 9 1 v ss.length ((ss.mergeSort (fun x y => decide (x ≤ y))).map Go.Proofs.encStr)) :
    NL w' v (sortN ns) ∧ ∀ g, v.ownBlock = some g → B ≤ g := by
  have e1 : ss.mergeSort (fun x y => decide (x ≤ y)) = (ns.map (·.toList)).mergeSort (fun x y => decide (x ≤ y)) := mergeSort_of_perm hp
  have e2 : ss.length = (sortN ns).length := by rw [sortN_len, hp.length_eq, List.length_map]
  have e3 : (ss.mergeSort (fun x y => decide (x ≤ y))).map Go.Proofs.encStr = strs (sortN ns) := by
    rw [e1]
    unfold strs sortN
    rw [List.map_map]
    rfl
  rw [e3, e2] at h
  obtain ⟨h1, h2⟩ := h
  refine ⟨⟨h1, h2.imp id ?_⟩, fun g hg => ?_⟩
  · rintro ⟨g, cap, cur, rfl, hB, hg, h3, h4, h5, h6⟩
    exact ⟨g, cap, cur, rfl, hg, h3, h4, by rw [h5]; omega, h6⟩
  · rcases h2 with ⟨rfl, _⟩ | ⟨g', cap, cur, rfl, hB, _⟩
    · simp [Value.ownBlock] at hg
    · simp [Value.ownBlock] at hg; omega
section
variable {w : World} {r : Nat} {L : List (ByteArray × Value)}
theorem keys50_any (mb : Option Nat) (W : World) : Calls Tryz.prog 50 #[.map mb] W fun e w' => e = .returned (.func (.func 92) #[] #[.pointer (some ⟨W.heap.size, 0, none⟩)]) ∧ w' = W.alloc (.cells #[.map mb] 33) :=
  callsIn_wide.1 (maps_Keys_50 mb W)
theorem sorted50_any (h : mapAt okS kvS w r L) (hl : L.length ≤ 1099511627776) :
    Calls Tryz.prog 45 #[.func (.func 92) #[] #[.pointer (some ⟨w.heap.size, 0, none⟩)]] (w.alloc (.cells #[.map (some r)] 33)) fun e w' => ∃ o c, e = .returned (.slice o (sortN (L.map (·.1))).length c) ∧
      NL w' (.slice o (sortN (L.map (·.1))).length c) (sortN (L.map (·.1))) ∧ Chg (fun _ => False) w w' ∧ ∀ g, (Value.slice o (sortN (L.map (·.1))).length c).ownBlock = some g → w.heap.size ≤ g := by
  obtain ⟨D, hD, hk, hs⟩ := own_of_map h (by unfold maxLen; omega)
  refine (callsIn_wide.1 (slices_Sorted_keys_45_50 r L.length D Ru w hD (by rw [hs]; unfold maxLen; omega) (by rw [hs]; omega))).mono ?_
  rintro e w' ⟨v, ss, rfl, hS, hrow, hnil, hb⟩
  obtain ⟨h1, h2⟩ := NL.of_row (ns := L.map (·.1)) ((hS.trans hk).trans (by rw [List.map_map]; exact List.Perm.refl _)) hrow
  obtain ⟨o, c, rfl⟩ := h1.shape
  refine ⟨o, c, rfl, h1, ((Chg.refl (fun _ => False) w).alloc _).trans (chg_of_below hb), fun g hg => ?_⟩
  have := h2 g hg
  simp at this
  omega
end
end Go.Proofs.YtgmmglmokkcgeaaGreat
