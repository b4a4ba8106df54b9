/- Walks: ReadText, Text, of both; the document's Fixed and Num. -/
import Derived.Test.YtcaemfogknaioaaC3
namespace Go.Proofs.Ytcaemfogknaioaa
open Go.RowKit

theorem rnum_le (l : List UInt8) : (Cod.rnum l).2.1.length ≤ l.length := by
  cases l with
  | nil => exact Nat.le_refl _
  | cons c r =>
    unfold Cod.rnum
    simp only
    (repeat' split) <;> first | (simp; done) | (simp; omega)
theorem rnum_lt (l : List UInt8) : (Cod.rnum l).1 < 18446744073709551616 := by
  cases l with
  | nil => decide
  | cons c r =>
    unfold Cod.rnum
    simp only
    (repeat' split) <;> first | exact Cod.big_lt _ | decide
theorem rnum_code (l : List UInt8) : (Cod.rnum l).2.2 = 0 ∨ (Cod.rnum l).2.2 = 20 ∨ (Cod.rnum l).2.2 = 21 := by
  cases l with
  | nil => exact Or.inr (Or.inl rfl)
  | cons c r =>
    unfold Cod.rnum
    simp only
    (repeat' split) <;> simp

/-- What ReadText says, as values. -/
def rtextV (l : List UInt8) : Value := .tuple #[.string (str (Cod.rtext l).1), .string (str (Cod.rtext l).2.1), .int .i64 ((Cod.rtext l).2.2 : Nat)]

/-- What ReadNum hands back, by its three parts. -/
theorem rnum_parts (s : ByteArray) (hs : s.size ≤ maxLen) : ∃ (x : Nat) (R : ByteArray) (e : Nat), rnumV s.data.toList = .tuple #[.int .u64 x, .string R, .int .i64 e] ∧ x < 18446744073709551616 ∧ R.size ≤ s.size ∧ (e = 0 ∨ e = 20 ∨ e = 21) ∧
    Hid ((Cod.rnum s.data.toList).1 = x ∧ str (Cod.rnum s.data.toList).2.1 = R ∧ (Cod.rnum s.data.toList).2.2 = e) ∧
    (rtextV s.data.toList = if e ≠ 0 then .tuple #[.string ⟨#[]⟩, .string ⟨#[]⟩, .int .i64 e] else if R.size < x then .tuple #[.string ⟨#[]⟩, .string ⟨#[]⟩, .int .i64 20] else .tuple #[.string (R.extract 0 x), .string (R.extract x R.size), .int .i64 0]) := by
  refine ⟨_, _, _, rfl, rnum_lt _, ?_, rnum_code _, Lib.hid ⟨rfl, rfl, rfl⟩, ?_⟩
  · have := rnum_le s.data.toList
    rw [len_list] at this
    exact this
  · unfold rtextV Cod.rtext
    generalize Cod.rnum s.data.toList = q
    obtain ⟨x, r, e⟩ := q
    have hz : (str r).size = r.length := rfl
    have e1 : (str r).data.toList = r := rfl
    simp only [hz, str_extract, e1, List.drop_zero, Nat.sub_zero]
    by_cases h0 : e ≠ 0
    · simp only [if_pos h0]
    · by_cases h1 : r.length < x
      · simp only [if_neg h0, if_pos h1]; rfl
      · simp only [if_neg h0, if_neg h1]
        rw [List.take_of_length_le (l := List.drop x r) (by rw [List.length_drop]; exact Nat.le_refl _)]
        rfl

set_option maxRecDepth 100000 in
set_option maxHeartbeats 1000000 in
theorem readText_any (s : ByteArray) (hs : s.size ≤ maxLen) (w : World) :
    Calls Try.prog 34 #[.string s] w fun e w' => e = .returned (rtextV s.data.toList) ∧ Below w.heap.size w w' := by
  have N := Lib.hid (readNum_any s hs w)
  obtain ⟨x, R, e, h1, hx, hR, he, -, h2⟩ := rnum_parts s hs
  rw [h1] at N
  rw [h2]
  have hs' : R.size ≤ 9223372036854775807 := by unfold maxLen at hs; omega
  clear h1 h2 hR hs
  by_cases h0 : e = 0
  · subst h0
    rw [if_neg (by decide)]
    by_cases hl : R.size < x
    · rw [if_pos hl]
      have q1 : decide ((R.size : Int) < (x : Int)) = true := by simp; omega
      go_enter Try.func34, Try.ntmps34
      go_wp2_with fail
      refine N.out.mono ?_
      rintro e w' ⟨rfl, hb⟩
      go_wp2
      go_ret3
      exact ⟨rfl, hb⟩
    · rw [if_neg hl]
      have q1 : decide ((R.size : Int) < (x : Int)) = false := by simp; omega
      have hx2 : x ≤ R.size := by omega
      go_enter Try.func34, Try.ntmps34
      go_wp2_with fail
      refine N.out.mono ?_
      rintro e w' ⟨rfl, hb⟩
      go_wp2
      go_quiet (fail)
      go_wp2
      go_ret3
      exact ⟨rfl, hb.trans ((below_drewN _ _).mono hb.size)⟩
  · rw [if_pos h0]
    rcases he with rfl | rfl | rfl
    · exact absurd rfl h0
    all_goals
      go_enter Try.func34, Try.ntmps34
      go_wp2_with fail
      refine N.out.mono ?_
      rintro e w' ⟨rfl, hb⟩
      go_wp2
      go_ret3
      exact ⟨rfl, hb⟩
set_option maxRecDepth 100000 in
set_option maxHeartbeats 1000000 in
theorem rreadText_any (s : ByteArray) (hs : s.size ≤ maxLen) (w : World) :
    Calls Try.prog 36 #[.string s] w fun e w' => e = .returned (rtextV s.data.toList) ∧ Below w.heap.size w w' := by
  have N := Lib.hid (rreadNum_any s hs w)
  obtain ⟨x, R, e, h1, hx, hR, he, -, h2⟩ := rnum_parts s hs
  rw [h1] at N
  rw [h2]
  have hs' : R.size ≤ 9223372036854775807 := by unfold maxLen at hs; omega
  clear h1 h2 hR hs
  by_cases h0 : e = 0
  · subst h0
    rw [if_neg (by decide)]
    by_cases hl : R.size < x
    · rw [if_pos hl]
      have q1 : decide ((R.size : Int) < (x : Int)) = true := by simp; omega
      go_enter Try.func36, Try.ntmps36
      go_wp2_with fail
      refine N.out.mono ?_
      rintro e w' ⟨rfl, hb⟩
      go_wp2
      go_ret3
      exact ⟨rfl, hb⟩
    · rw [if_neg hl]
      have q1 : decide ((R.size : Int) < (x : Int)) = false := by simp; omega
      have hx2 : x ≤ R.size := by omega
      go_enter Try.func36, Try.ntmps36
      go_wp2_with fail
      refine N.out.mono ?_
      rintro e w' ⟨rfl, hb⟩
      go_wp2
      go_quiet (fail)
      go_wp2
      go_ret3
      exact ⟨rfl, hb.trans ((below_drewN _ _).mono hb.size)⟩
  · rw [if_pos h0]
    rcases he with rfl | rfl | rfl
    · exact absurd rfl h0
    all_goals
      go_enter Try.func36, Try.ntmps36
      go_wp2_with fail
      refine N.out.mono ?_
      rintro e w' ⟨rfl, hb⟩
      go_wp2
      go_ret3
      exact ⟨rfl, hb⟩

theorem text_str (s : ByteArray) : str (Cod.num s.size) ++ s = str (Cod.text s.data.toList) := by
  unfold Cod.text
  rw [len_list]
  apply ByteArray.ext
  apply Array.ext'
  simp [str, ByteArray.data_append]
theorem num_size (x : Nat) : (str (Cod.num x)).size ≤ 9 := by
  show (Cod.num x).length ≤ 9
  rw [Cod.num_len]
  have := Cod.nlen_le x
  omega

theorem text_any (s : ByteArray) (hs : s.size ≤ 1099511627776) (w : World) :
    Calls Try.prog 30 #[.string s] w fun e w' => e = .returned (.string (str (Cod.text s.data.toList))) ∧ Below w.heap.size w w' := by
  have N := Lib.hid (num_any s.size (by omega) w)
  have hz := num_size s.size
  have ht := text_str s
  change Hid (Calls Try.prog 29 #[.int .u64 s.size] w fun e w' => e = .returned (.string (str (Cod.num s.size))) ∧ Below w.heap.size w w') at N
  generalize str (Cod.num s.size) = X at *
  generalize str (Cod.text s.data.toList) = Y at *
  go_enter Try.func30, Try.ntmps30
  go_wp2_with fail
  refine N.out.mono ?_
  rintro e w' ⟨rfl, hb⟩
  have k1 : X.size + s.size ≤ 9223372036854775807 := by omega
  go_wp2
  go_ret
  exact ⟨rfl, hb⟩
end Go.Proofs.Ytcaemfogknaioaa
