/- Walks: Int, ReadInt, of both. -/
import Derived.Test.YtlpianjighhelaaDoorC6
namespace Go.Proofs.YtlpianjighhelaaDoor
open Go.RowKit

def isI (x : Int) : Prop := -9223372036854775808 ≤ x ∧ x < 9223372036854775808
theorem up_lt {x : Int} (h : isI x) : Cod.up x < 18446744073709551616 := by unfold isI at h; unfold Cod.up; omega
theorem up_xor {x : Int} (h : isI x) : bits .xor .u64 (x % 18446744073709551616) 9223372036854775808 = ((Cod.up x : Nat) : Int) := by
  unfold isI at h
  have h1 : x % 18446744073709551616 = (((x % 18446744073709551616).toNat : Nat) : Int) := by omega
  rw [h1]
  have := u64_xor_nat (x % 18446744073709551616).toNat 9223372036854775808 (by omega) (by decide)
  rw [show ((9223372036854775808 : Nat) : Int) = 9223372036854775808 from rfl] at this
  rw [this, xor_63 _ (by omega)]
  unfold Cod.up
  omega

theorem int_any (x : Int) (h : isI x) (w : World) :
    Calls Tryd.prog 10 #[.int .i64 x] w fun e w' => e = .returned (.string (str (Cod.beL 8 (Cod.up x)))) ∧ Below w.heap.size w w' := by
  have F := Lib.hid (eight_any (Cod.up x) (up_lt h) w)
  have hu := up_xor h
  have hw : IntKind.u64.wrap x = x % 18446744073709551616 := by simp [IntKind.wrap, IntKind.bits, IntKind.signed]
  generalize str (Cod.beL 8 (Cod.up x)) = R at *
  go_enter Tryd.func10, Tryd.ntmps10
  go_wp2_with fail
  refine F.out.mono ?_
  rintro e w' ⟨rfl, hb⟩
  go_wp2
  go_ret
  exact ⟨rfl, hb⟩
theorem rint_any (x : Int) (h : isI x) (w : World) :
    Calls Tryd.prog 16 #[.int .i64 x] w fun e w' => e = .returned (.string (str (Cod.beL 8 (Cod.up x)))) ∧ Below w.heap.size w w' := by
  have F := Lib.hid (fixed_any (Cod.up x) 8 (up_lt h) (by decide) w)
  have hw : IntKind.u64.wrap x = x % 18446744073709551616 := by simp [IntKind.wrap, IntKind.bits, IntKind.signed]
  have hu : IntKind.u64.wrap (x % 18446744073709551616 + 9223372036854775808) = ((Cod.up x : Nat) : Int) := by
    unfold isI at h
    simp [IntKind.wrap, IntKind.bits, IntKind.signed, Cod.up]
    omega
  generalize str (Cod.beL 8 (Cod.up x)) = R at *
  go_enter Tryd.func16, Tryd.ntmps16
  go_wp2_with fail
  refine F.out.mono ?_
  rintro e w' ⟨rfl, hb⟩
  go_wp2
  go_ret
  exact ⟨rfl, hb⟩

def rintV (l : List UInt8) : Value := .tuple #[.int .i64 (Cod.rint l).1, .string (str (Cod.rint l).2.1), .int .i64 ((Cod.rint l).2.2 : Nat)]
theorem rint_short (s : ByteArray) (h : s.size < 8) : rintV s.data.toList = .tuple #[.int .i64 0, .string ⟨#[]⟩, .int .i64 20] := by
  unfold rintV Cod.rint
  rw [if_pos (by rw [len_list]; exact h)]
  rfl
theorem rint_ok (s : ByteArray) (h : ¬ s.size < 8) : rintV s.data.toList = .tuple #[.int .i64 ((Cod.big (s.extract 0 8).data.toList : Nat) - 9223372036854775808), .string (s.extract 8 s.size), .int .i64 0] := by
  have e1 : s.extract 0 8 = str (s.data.toList.take 8) := by rw [str_extract]; simp
  have e2 : s.extract 8 s.size = str (s.data.toList.drop 8) := by
    rw [str_extract, List.take_of_length_le (by rw [List.length_drop, len_list]; omega)]
  rw [e1, e2]
  unfold rintV Cod.rint
  rw [if_neg (by rw [len_list]; exact h)]
  simp
theorem down_xor (b : Nat) (h : b < 18446744073709551616) : IntKind.i64.wrap (bits .xor .u64 (b : Int) 9223372036854775808) = (b : Int) - 9223372036854775808 := by
  have := u64_xor_nat b 9223372036854775808 h (by decide)
  rw [show ((9223372036854775808 : Nat) : Int) = 9223372036854775808 from rfl] at this
  rw [this, xor_63 _ h]
  simp [IntKind.wrap, IntKind.bits, IntKind.signed]
  omega
theorem down_sub (b : Nat) (h : b < 18446744073709551616) : IntKind.i64.wrap (IntKind.u64.wrap ((b : Int) - 9223372036854775808)) = (b : Int) - 9223372036854775808 := by
  simp [IntKind.wrap, IntKind.bits, IntKind.signed]
  omega

set_option maxRecDepth 100000 in
set_option maxHeartbeats 1000000 in
theorem readInt_any (s : ByteArray) (hs : s.size ≤ maxLen) (w : World) :
    Calls Tryd.prog 21 #[.string s] w fun e w' => e = .returned (rintV s.data.toList) ∧ Below w.heap.size w w' := by
  unfold maxLen at hs
  by_cases h8 : s.size < 8
  · have q : decide (s.size < 8) = true := by simpa using h8
    rw [rint_short s h8]
    go_enter Tryd.func21, Tryd.ntmps21
    go_wp2
    go_ret3
    exact ⟨rfl, Below.refl _ _⟩
  · have q : decide (s.size < 8) = false := by simpa using h8
    have hb := Lib.hid (fun m => big_any (s.extract 0 8) (by rw [ByteArray.size_extract]; unfold maxLen; omega) (w.drewN m))
    have hl := Cod.big_lt (s.extract 0 8).data.toList
    rw [rint_ok s h8]
    generalize Cod.big (s.extract 0 8).data.toList = b at *
    have hd := down_xor b hl
    have H8 : 8 ≤ s.size := by omega
    clear h8
    go_enter Tryd.func21, Tryd.ntmps21
    go_wp2
    go_quiet (exact (hb.out _).mono (fun e w' h => ⟨h.1, _, h.2⟩))
    go_wp2
    go_ret3
    exact ⟨by rw [← hd]; rfl, below_drewN _ _⟩
set_option maxRecDepth 100000 in
set_option maxHeartbeats 1000000 in
theorem rreadInt_any (s : ByteArray) (hs : s.size ≤ maxLen) (w : World) :
    Calls Tryd.prog 27 #[.string s] w fun e w' => e = .returned (rintV s.data.toList) ∧ Below w.heap.size w w' := by
  unfold maxLen at hs
  by_cases h8 : s.size < 8
  · have q : decide (s.size < 8) = true := by simpa using h8
    rw [rint_short s h8]
    go_enter Tryd.func27, Tryd.ntmps27
    go_wp2
    go_ret3
    exact ⟨rfl, Below.refl _ _⟩
  · have q : decide (s.size < 8) = false := by simpa using h8
    have hb := Lib.hid (fun m => rbig_any (s.extract 0 8) (by rw [ByteArray.size_extract]; unfold maxLen; omega) (w.drewN m))
    have hl := Cod.big_lt (s.extract 0 8).data.toList
    rw [rint_ok s h8]
    generalize Cod.big (s.extract 0 8).data.toList = b at *
    have hd := down_sub b hl
    have H8 : 8 ≤ s.size := by omega
    clear h8
    go_enter Tryd.func27, Tryd.ntmps27
    go_wp2
    go_quiet (exact (hb.out _).mono (fun e w' h => ⟨h.1, _, h.2⟩))
    go_wp2
    go_ret3
    exact ⟨by rw [← hd]; rfl, below_drewN _ _⟩
end Go.Proofs.YtlpianjighhelaaDoor
