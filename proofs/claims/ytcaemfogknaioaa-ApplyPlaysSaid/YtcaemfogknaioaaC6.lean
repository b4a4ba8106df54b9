/- Walks: Command, ReadCommand, of both. -/
import Derived.Test.YtcaemfogknaioaaC5
namespace Go.Proofs.Ytcaemfogknaioaa
open Go.RowKit

/-- What Command says, as values. -/
def cmdV (c n : Nat) (d : List UInt8) : Value :=
  if c = 0 ∨ n = 0 then .tuple #[.string ⟨#[]⟩, .int .i64 2] else if 1048576 < (Cod.cmd c n d).length then .tuple #[.string ⟨#[]⟩, .int .i64 4] else .tuple #[.string (str (Cod.cmd c n d)), .int .i64 0]
theorem cmd_str (c n : Nat) (d : ByteArray) : str (Cod.num c) ++ str (Cod.num n) ++ str (Cod.text d.data.toList) = str (Cod.cmd c n d.data.toList) := by
  unfold Cod.cmd
  apply ByteArray.ext
  apply Array.ext'
  simp [str, ByteArray.data_append]
theorem text_size (d : ByteArray) : (str (Cod.text d.data.toList)).size ≤ 9 + d.size := by
  rw [← text_str, ByteArray.size_append]
  have := num_size d.size
  omega

set_option maxRecDepth 100000 in
set_option maxHeartbeats 1000000 in
theorem command_any (c n : Nat) (d : ByteArray) (hc : c < 18446744073709551616) (hn : n < 18446744073709551616) (hd : d.size ≤ 2097152) (w : World) :
    Calls Try.prog 9 #[.int .u64 c, .int .u64 n, .string d] w fun e w' => e = .returned (cmdV c n d.data.toList) ∧ Below w.heap.size w w' := by
  have N1 := Lib.hid (fun w => num_any c hc w)
  have N2 := Lib.hid (fun w => num_any n hn w)
  have N3 := Lib.hid (fun w => text_any d (by omega) w)
  have z1 := num_size c
  have z2 := num_size n
  have z3 := text_size d
  have hS := cmd_str c n d
  change Hid (∀ w, Calls Try.prog 29 #[.int .u64 c] w fun e w' => e = .returned (.string (str (Cod.num c))) ∧ Below w.heap.size w w') at N1
  change Hid (∀ w, Calls Try.prog 29 #[.int .u64 n] w fun e w' => e = .returned (.string (str (Cod.num n))) ∧ Below w.heap.size w w') at N2
  have hV : cmdV c n d.data.toList = if c = 0 ∨ n = 0 then .tuple #[.string ⟨#[]⟩, .int .i64 2] else if 1048576 < (str (Cod.cmd c n d.data.toList)).size then .tuple #[.string ⟨#[]⟩, .int .i64 4] else .tuple #[.string (str (Cod.cmd c n d.data.toList)), .int .i64 0] := rfl
  rw [hV]
  clear hV
  generalize str (Cod.num c) = X at *
  generalize str (Cod.num n) = Y at *
  generalize str (Cod.text d.data.toList) = Z at *
  generalize str (Cod.cmd c n d.data.toList) = s at *
  have k1 : X.size + Y.size ≤ 9223372036854775807 := by omega
  have k2 : (X ++ Y).size + Z.size ≤ 9223372036854775807 := by rw [ByteArray.size_append]; omega
  have k3 : ¬ 9223372036854775807 < X.size + Y.size := by omega
  have k4 : ¬ 9223372036854775807 < X.size + Y.size + Z.size := by omega
  clear z1 z2 z3 hd
  by_cases h0 : c = 0 ∨ n = 0
  · rw [if_pos h0]
    by_cases hc0 : c = 0
    · have q1 : ((c : Int) == 0) = true := by simp; omega
      clear h0
      go_enter Try.func9, Try.ntmps9
      go_wp2
      go_ret2
      exact ⟨rfl, Below.refl _ _⟩
    · have q1 : ((c : Int) == 0) = false := by simp; omega
      have q2 : ((n : Int) == 0) = true := by simp; omega
      clear h0
      go_enter Try.func9, Try.ntmps9
      go_wp2
      go_ret2
      exact ⟨rfl, Below.refl _ _⟩
  · rw [if_neg h0]
    have q1 : ((c : Int) == 0) = false := by simp; omega
    have q2 : ((n : Int) == 0) = false := by simp; omega
    clear h0
    by_cases hl : 1048576 < s.size
    · rw [if_pos hl]
      have q3 : decide ((1048576 : Int) < s.size) = true := by simp; omega
      go_enter Try.func9, Try.ntmps9
      go_wp2_with fail
      refine (N1.out w).mono ?_
      rintro e w1 ⟨rfl, b1⟩
      go_wp2_with fail
      refine (N2.out w1).mono ?_
      rintro e w2 ⟨rfl, b2⟩
      go_wp2_with fail
      refine (N3.out w2).mono ?_
      rintro e w3 ⟨rfl, b3⟩
      have b := Lib.hid (b1.trans ((b2.trans (b3.mono b2.size)).mono b1.size))
      clear b1 b2 b3
      go_wp2
      go_ret2
      exact ⟨rfl, b.out⟩
    · rw [if_neg hl]
      have q3 : decide ((1048576 : Int) < s.size) = false := by simp; omega
      go_enter Try.func9, Try.ntmps9
      go_wp2_with fail
      refine (N1.out w).mono ?_
      rintro e w1 ⟨rfl, b1⟩
      go_wp2_with fail
      refine (N2.out w1).mono ?_
      rintro e w2 ⟨rfl, b2⟩
      go_wp2_with fail
      refine (N3.out w2).mono ?_
      rintro e w3 ⟨rfl, b3⟩
      have b := Lib.hid (b1.trans ((b2.trans (b3.mono b2.size)).mono b1.size))
      clear b1 b2 b3
      go_wp2
      go_ret2
      exact ⟨rfl, b.out⟩
set_option maxRecDepth 100000 in
set_option maxHeartbeats 1000000 in
theorem rcommand_any (c n : Nat) (d : ByteArray) (hc : c < 18446744073709551616) (hn : n < 18446744073709551616) (hd : d.size ≤ 2097152) (w : World) :
    Calls Try.prog 10 #[.int .u64 c, .int .u64 n, .string d] w fun e w' => e = .returned (cmdV c n d.data.toList) ∧ Below w.heap.size w w' := by
  have N1 := Lib.hid (fun w => rnumw_any c hc w)
  have N2 := Lib.hid (fun w => rnumw_any n hn w)
  have N3 := Lib.hid (fun w => rtextw_any d (by omega) w)
  have z1 := num_size c
  have z2 := num_size n
  have z3 := text_size d
  have hS := cmd_str c n d
  change Hid (∀ w, Calls Try.prog 31 #[.int .u64 c] w fun e w' => e = .returned (.string (str (Cod.num c))) ∧ Below w.heap.size w w') at N1
  change Hid (∀ w, Calls Try.prog 31 #[.int .u64 n] w fun e w' => e = .returned (.string (str (Cod.num n))) ∧ Below w.heap.size w w') at N2
  have hV : cmdV c n d.data.toList = if c = 0 ∨ n = 0 then .tuple #[.string ⟨#[]⟩, .int .i64 2] else if 1048576 < (str (Cod.cmd c n d.data.toList)).size then .tuple #[.string ⟨#[]⟩, .int .i64 4] else .tuple #[.string (str (Cod.cmd c n d.data.toList)), .int .i64 0] := rfl
  rw [hV]
  clear hV
  generalize str (Cod.num c) = X at *
  generalize str (Cod.num n) = Y at *
  generalize str (Cod.text d.data.toList) = Z at *
  generalize str (Cod.cmd c n d.data.toList) = s at *
  have k1 : X.size + Y.size ≤ 9223372036854775807 := by omega
  have k2 : (X ++ Y).size + Z.size ≤ 9223372036854775807 := by rw [ByteArray.size_append]; omega
  have k3 : ¬ 9223372036854775807 < X.size + Y.size := by omega
  have k4 : ¬ 9223372036854775807 < X.size + Y.size + Z.size := by omega
  clear z1 z2 z3 hd
  by_cases h0 : c = 0 ∨ n = 0
  · rw [if_pos h0]
    by_cases hc0 : c = 0
    · have q1 : ((c : Int) == 0) = true := by simp; omega
      clear h0
      go_enter Try.func10, Try.ntmps10
      go_wp2
      go_ret2
      exact ⟨rfl, Below.refl _ _⟩
    · have q1 : ((c : Int) == 0) = false := by simp; omega
      have q2 : ((n : Int) == 0) = true := by simp; omega
      clear h0
      go_enter Try.func10, Try.ntmps10
      go_wp2
      go_ret2
      exact ⟨rfl, Below.refl _ _⟩
  · rw [if_neg h0]
    have q1 : ((c : Int) == 0) = false := by simp; omega
    have q2 : ((n : Int) == 0) = false := by simp; omega
    clear h0
    by_cases hl : 1048576 < s.size
    · rw [if_pos hl]
      have q3 : decide ((1048576 : Int) < s.size) = true := by simp; omega
      go_enter Try.func10, Try.ntmps10
      go_wp2_with fail
      refine (N1.out w).mono ?_
      rintro e w1 ⟨rfl, b1⟩
      go_wp2_with fail
      refine (N2.out w1).mono ?_
      rintro e w2 ⟨rfl, b2⟩
      go_wp2_with fail
      refine (N3.out w2).mono ?_
      rintro e w3 ⟨rfl, b3⟩
      have b := Lib.hid (b1.trans ((b2.trans (b3.mono b2.size)).mono b1.size))
      clear b1 b2 b3
      go_wp2
      go_ret2
      exact ⟨rfl, b.out⟩
    · rw [if_neg hl]
      have q3 : decide ((1048576 : Int) < s.size) = false := by simp; omega
      go_enter Try.func10, Try.ntmps10
      go_wp2_with fail
      refine (N1.out w).mono ?_
      rintro e w1 ⟨rfl, b1⟩
      go_wp2_with fail
      refine (N2.out w1).mono ?_
      rintro e w2 ⟨rfl, b2⟩
      go_wp2_with fail
      refine (N3.out w2).mono ?_
      rintro e w3 ⟨rfl, b3⟩
      have b := Lib.hid (b1.trans ((b2.trans (b3.mono b2.size)).mono b1.size))
      clear b1 b2 b3
      go_wp2
      go_ret2
      exact ⟨rfl, b.out⟩

theorem results_tmp4 {fn : Func} {t u v x : Tmp} (h : fn.results = #[.tmp t, .tmp u, .tmp v, .tmp x]) (tmps : Array Value) (P : Program) (w : World) :
    (results fn tmps).run P w = .ok (.tuple #[tmps.getD t undef, tmps.getD u undef, tmps.getD v undef, tmps.getD x undef]) w := by
  simp [results, h]

/-- What ReadCommand says, as values. -/
def rcmdV (l : List UInt8) : Value := match Cod.rcmd l with
  | some (c, n, d) => .tuple #[.int .u64 c, .int .u64 n, .string (str d), .int .i64 0]
  | none => .tuple #[.int .u64 0, .int .u64 0, .string ⟨#[]⟩, .int .i64 150]

theorem rtext_le (l : List UInt8) : (Cod.rtext l).2.1.length ≤ l.length := by
  unfold Cod.rtext
  have := rnum_le l
  (repeat' split) <;> first | (simp; done) | (simp; omega)
theorem rtext_code (l : List UInt8) : (Cod.rtext l).2.2 = 0 ∨ (Cod.rtext l).2.2 = 20 ∨ (Cod.rtext l).2.2 = 21 := by
  unfold Cod.rtext
  have := rnum_code l
  (repeat' split) <;> simp_all

/-- ReadCommand by its three readings. -/
theorem rcmd_parts (s : ByteArray) (hs : s.size ≤ maxLen) : ∃ (x1 : Nat) (R1 : ByteArray) (e1 : Nat) (x2 : Nat) (R2 : ByteArray) (e2 : Nat) (T R3 : ByteArray) (e3 : Nat),
    rnumV s.data.toList = .tuple #[.int .u64 x1, .string R1, .int .i64 e1] ∧ rnumV R1.data.toList = .tuple #[.int .u64 x2, .string R2, .int .i64 e2] ∧ rtextV R2.data.toList = .tuple #[.string T, .string R3, .int .i64 e3] ∧
    R1.size ≤ s.size ∧ R2.size ≤ s.size ∧ x1 < 18446744073709551616 ∧ x2 < 18446744073709551616 ∧ (e1 = 0 ∨ e1 = 20 ∨ e1 = 21) ∧ (e2 = 0 ∨ e2 = 20 ∨ e2 = 21) ∧ (e3 = 0 ∨ e3 = 20 ∨ e3 = 21) ∧
    rcmdV s.data.toList = if e1 = 0 ∧ e2 = 0 ∧ e3 = 0 ∧ R3.size = 0 ∧ x1 ≠ 0 ∧ x2 ≠ 0 ∧ s.size ≤ 1048576 then .tuple #[.int .u64 x1, .int .u64 x2, .string T, .int .i64 0] else .tuple #[.int .u64 0, .int .u64 0, .string ⟨#[]⟩, .int .i64 150] := by
  have a1 := rnum_le s.data.toList
  have a2 := rnum_le (Cod.rnum s.data.toList).2.1
  refine ⟨_, _, _, _, _, _, _, _, _, rfl, rfl, rfl, ?_, ?_, rnum_lt _, rnum_lt _, rnum_code _, rnum_code _, rtext_code _, ?_⟩
  · rw [len_list] at a1; exact a1
  · rw [len_list] at a1; exact Nat.le_trans a2 a1
  · have e1 : (str (Cod.rnum s.data.toList).2.1).data.toList = (Cod.rnum s.data.toList).2.1 := rfl
    rw [e1]
    have e2 : (str (Cod.rnum (Cod.rnum s.data.toList).2.1).2.1).data.toList = (Cod.rnum (Cod.rnum s.data.toList).2.1).2.1 := rfl
    rw [e2]
    have e3 : (str (Cod.rtext (Cod.rnum (Cod.rnum s.data.toList).2.1).2.1).2.1).size = 0 ↔ (Cod.rtext (Cod.rnum (Cod.rnum s.data.toList).2.1).2.1).2.1 = [] := List.length_eq_zero_iff
    unfold rcmdV Cod.rcmd
    simp only [e3, len_list]
    split
    · rename_i h
      split at h
      · rename_i h2; simp only [Option.some.injEq, Prod.mk.injEq] at h; obtain ⟨rfl, rfl, rfl⟩ := h; rw [if_pos h2]
      · cases h
    · rename_i h
      split at h
      · cases h
      · rename_i h2; rw [if_neg h2]
end Go.Proofs.Ytcaemfogknaioaa
