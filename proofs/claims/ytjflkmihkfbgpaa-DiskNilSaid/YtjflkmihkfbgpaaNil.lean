/- Walks: a disk that is not there; DiskNil. -/
import Derived.Test.YtjflkmihkfbgpaaWa
namespace Go.Proofs.Ytjflkmihkfbgpaa
open Go.RowKit Mk Go.Sort

theorem nil_able (there : Bool) (v : Value) (w : World) : Calls Try.prog 28 #[.pointer none, .bool there, v] w fun e w' => e = .returned (.int .i64 1) ∧ w' = w := by
  go_enter Try.func28, Try.ntmps28
  go_wp2_with fail
  refine (not_nil _).mono ?_
  rintro e w' ⟨rfl, rfl⟩
  go_wp2
  go_ret
  exact ⟨rfl, rfl⟩
theorem nil_read (n : ByteArray) (w : World) : Calls Try.prog 13 #[.pointer none, .string n] w fun e w' => e = .returned (.tuple #[.string ⟨#[]⟩, .int .i64 1]) ∧ Below w.heap.size w w' := by
  go_enter Try.func13, Try.ntmps13
  go_wp2_with fail
  refine (nil_able _ _ _).mono ?_
  rintro e w' ⟨rfl, rfl⟩
  go_wp2
  go_ret2
  exact ⟨rfl, (Below.refl _ _).alloc (Nat.le_refl _) _⟩
theorem nil_append (n s : ByteArray) (w : World) : Calls Try.prog 11 #[.pointer none, .string n, .string s] w fun e w' => e = .returned (.int .i64 1) ∧ Below w.heap.size w w' := by
  have hB := below_of_chg (boxed w n).chg
  go_enter Try.func11, Try.ntmps11
  go_wp2_with fail
  refine (nil_able _ _ _).mono ?_
  rintro e w' ⟨rfl, rfl⟩
  go_wp2
  go_ret
  exact ⟨rfl, hB⟩
theorem nil_write (n s : ByteArray) (w : World) : Calls Try.prog 9 #[.pointer none, .string n, .string s] w fun e w' => e = .returned (.int .i64 1) ∧ Below w.heap.size w w' := by
  have hB := below_of_chg (boxed w n).chg
  go_enter Try.func9, Try.ntmps9
  go_wp2_with fail
  refine (nil_able _ _ _).mono ?_
  rintro e w' ⟨rfl, rfl⟩
  go_wp2
  go_ret
  exact ⟨rfl, hB⟩
theorem nil_remove (n : ByteArray) (w : World) : Calls Try.prog 26 #[.pointer none, .string n] w fun e w' => e = .returned (.int .i64 1) ∧ Below w.heap.size w w' := by
  have hB := below_of_chg (boxed w n).chg
  go_enter Try.func26, Try.ntmps26
  go_wp2_with fail
  refine (nil_able _ _ _).mono ?_
  rintro e w' ⟨rfl, rfl⟩
  go_wp2
  go_ret
  exact ⟨rfl, hB⟩
theorem nil_trunc (n : ByteArray) (k : Int) (w : World) : Calls Try.prog 24 #[.pointer none, .string n, .int .i64 k] w fun e w' => e = .returned (.int .i64 1) ∧ Below w.heap.size w w' := by
  have hB : Below w.heap.size w (((w.alloc (.cells #[.string n] 9)).alloc (.cells #[.int .i64 k] 3)).alloc (.cells #[.string n] 9)) := below_of_chg ((((Chg.refl _ w).alloc _).alloc _).alloc _)
  go_enter Try.func24, Try.ntmps24
  go_wp2_with fail
  refine (nil_able _ _ _).mono ?_
  rintro e w' ⟨rfl, rfl⟩
  go_wp2
  go_ret
  exact ⟨rfl, hB⟩
theorem nil_rename (n s : ByteArray) (w : World) : Calls Try.prog 25 #[.pointer none, .string n, .string s] w fun e w' => e = .returned (.int .i64 1) ∧ Below w.heap.size w w' := by
  have hB : Below w.heap.size w (((w.alloc (.cells #[.string n] 9)).alloc (.cells #[.string s] 9)).alloc (.cells #[.string n, .string s] 9)) := below_of_chg ((((Chg.refl _ w).alloc _).alloc _).alloc _)
  go_enter Try.func25, Try.ntmps25
  go_wp2_with fail
  refine (nil_able _ _ _).mono ?_
  rintro e w' ⟨rfl, rfl⟩
  go_wp2
  go_ret
  exact ⟨rfl, hB⟩
theorem nil_sync (w : World) : Calls Try.prog 10 #[.pointer none] w fun e w' => e = .returned (.int .i64 1) ∧ w' = w := by
  go_enter Try.func10, Try.ntmps10
  go_wp2_with fail
  refine (not_nil _).mono ?_
  rintro e w' ⟨rfl, rfl⟩
  go_wp2
  go_ret
  exact ⟨rfl, rfl⟩
theorem nil_crash (a b : Int) (w : World) : Calls Try.prog 12 #[.pointer none, .int .i64 a, .int .i64 b] w fun e w' => e = .returned (.int .i64 1) ∧ w' = w := by
  go_enter Try.func12, Try.ntmps12
  go_wp2_with fail
  refine (not_nil _).mono ?_
  rintro e w' ⟨rfl, rfl⟩
  go_wp2
  go_ret
  exact ⟨rfl, rfl⟩
theorem nil_names (w : World) : Calls Try.prog 27 #[.pointer none] w fun e w' => e = .returned (.slice none 0 0) ∧ w' = w := by
  go_enter Try.func27, Try.ntmps27
  go_wp2
  go_ret
  exact ⟨rfl, rfl⟩
theorem nil_used (w : World) : Calls Try.prog 16 #[.pointer none] w fun e w' => e = .returned (.int .i64 0) ∧ w' = w := by
  go_enter Try.func16, Try.ntmps16
  go_wp2
  go_ret
  exact ⟨rfl, rfl⟩
theorem nil_loose (w : World) : Calls Try.prog 18 #[.pointer none] w fun e w' => e = .returned (.int .i64 0) ∧ w' = w := by
  go_enter Try.func18, Try.ntmps18
  go_wp2
  go_ret
  exact ⟨rfl, rfl⟩
theorem nil_copy (w : World) : Calls Try.prog 20 #[.pointer none] w fun e w' => e = .returned (.pointer none) ∧ Below w.heap.size w w' := by
  go_enter Try.func20, Try.ntmps20
  go_wp2_with fail
  refine (not_nil _).mono ?_
  rintro e w' ⟨rfl, rfl⟩
  go_wp2
  go_ret
  exact ⟨rfl, Below.refl _ _⟩
theorem nil_same (w : World) : Calls Try.prog 22 #[.pointer none, .pointer none] w fun e w' => e = .returned (.bool false) ∧ Below w.heap.size w w' := by
  go_enter Try.func22, Try.ntmps22
  go_wp2_with fail
  go_quiet (exact (not_nil _).mono (fun e w' h => ⟨h.1, _, h.2⟩))
  go_wp2
  go_ret
  exact ⟨rfl, below_of_chg (Chg.drewN _ _)⟩

set_option maxRecDepth 100000 in
set_option maxHeartbeats 2000000 in
theorem walkDiskNil (a0 a1 : ByteArray) (a2 a3 : Int) (w0 : a0.size ≤ 140737488351232) (w1 : a1.size ≤ 140737488351232) (w2 : (Lit.int .i64 a2).wf = true) (w3 : (Lit.int .i64 a3).wf = true) (w : World) :
    Calls Try.prog 6 #[.string a0, .string a1, .int .i64 a2, .int .i64 a3] w fun e w' => e = .returned (.bool true) ∧ Below w.heap.size w w' := by
  clear w0 w1 w2 w3
  go_enter Try.func6, Try.ntmps6
  go_wp2_with fail
  refine (nil_read _ _).mono ?_
  rintro e w1 ⟨rfl, c1⟩
  have b1 := Lib.hid c1
  clear c1
  go_wp2_with fail
  refine (nil_append _ _ _).mono ?_
  rintro e w2 ⟨rfl, c2⟩
  have b2 := Lib.hid (b1.out.trans (c2.mono b1.out.size))
  clear c2 b1
  go_wp2_with fail
  refine (nil_write _ _ _).mono ?_
  rintro e w3 ⟨rfl, c3⟩
  have b3 := Lib.hid (b2.out.trans (c3.mono b2.out.size))
  clear c3 b2
  go_wp2_with fail
  refine (nil_trunc _ _ _).mono ?_
  rintro e w4 ⟨rfl, c4⟩
  have b4 := Lib.hid (b3.out.trans (c4.mono b3.out.size))
  clear c4 b3
  go_wp2_with fail
  refine (nil_rename _ _ _).mono ?_
  rintro e w5 ⟨rfl, c5⟩
  have b5 := Lib.hid (b4.out.trans (c5.mono b4.out.size))
  clear c5 b4
  go_wp2_with fail
  refine (nil_remove _ _).mono ?_
  rintro e w6 ⟨rfl, c6⟩
  have b6 := Lib.hid (b5.out.trans (c6.mono b5.out.size))
  clear c6 b5
  go_wp2_with fail
  refine (nil_sync _).mono ?_
  rintro e w' ⟨rfl, rfl⟩
  go_wp2_with fail
  refine (nil_crash _ _ _).mono ?_
  rintro e w' ⟨rfl, rfl⟩
  go_wp2_with fail
  refine (nil_names _).mono ?_
  rintro e w' ⟨rfl, rfl⟩
  go_wp2_with fail
  refine (nil_used _).mono ?_
  rintro e w' ⟨rfl, rfl⟩
  go_wp2_with fail
  refine (nil_loose _).mono ?_
  rintro e w' ⟨rfl, rfl⟩
  go_wp2_with fail
  refine (nil_copy _).mono ?_
  rintro e w7 ⟨rfl, c7⟩
  have b7 := Lib.hid (b6.out.trans (c7.mono b6.out.size))
  clear c7 b6
  go_wp2_with fail
  refine (nil_same _).mono ?_
  rintro e w8 ⟨rfl, c8⟩
  have b8 := Lib.hid (b7.out.trans (c8.mono b7.out.size))
  clear c8 b7
  go_wp2_with fail
  refine (alive_any _).mono ?_
  rintro e w9 ⟨rfl, c9⟩
  have b9 := Lib.hid (b8.out.trans (c9.mono b8.out.size))
  clear c9 b8
  go_wp2
  go_ret
  exact ⟨rfl, b9.out⟩
end Go.Proofs.Ytjflkmihkfbgpaa
