/- Walks: Read, of both. -/
import Derived.Test.YtgibkalcfdgklaaW2
import Derived.Handy
namespace Go.Proofs.Ytgibkalcfdgklaa
open Go.RowKit

theorem drop_cons (s : ByteArray) (k : Nat) (h : k < s.size) : s.data.toList.drop k = s[k] :: s.data.toList.drop (k + 1) := by
  rw [List.drop_eq_getElem_cons (by simpa using h)]; rfl
theorem drop_all (s : ByteArray) : s.data.toList.drop s.size = [] := List.drop_of_length_le (by simp)
theorem len_eq (s : ByteArray) : s.data.toList.length = s.size := by simp

theorem ret2_int {k j : IntKind} {a b c d : Int} (h : a = b) (g : c = d) : Ending.returned (.tuple #[.int k a, .int j c]) = .returned (.tuple #[.int k b, .int j d]) := by rw [h, g]

theorem acc_form (x d : Nat) (hd : d < 4294967296) : bits .or .u32 ((x : Int) * 16 % 4294967296) (d : Int) = ((Crc.acc x d : Nat) : Int) := by
  have := u32_or_nat (x * 16 % 4294967296) d (Nat.mod_lt _ (by decide)) hd
  simpa [Crc.acc] using this

set_option maxHeartbeats 400000 in
theorem read_any (s : ByteArray) (hs : s.size ≤ maxLen) (w : World) :
    Calls Try.prog 13 #[.string s] w fun e w' => e = .returned (.tuple #[.int .u32 (Crc.rdVal s.data.toList : Nat), .int .i64 (Crc.rdErr s.data.toList : Nat)]) ∧ w = w' := by
  unfold maxLen at hs
  have hlen := Lib.hid (len_eq s)
  go_enter Try.func13, Try.ntmps13
  go_wp2
  go_loop [4, 9] (fun r i => ∃ k x : Nat, k ≤ s.size ∧ x < 4294967296 ∧ i = .int .i64 k ∧ r = .int .u32 x ∧ Crc.rd 0 s.data.toList = Crc.rd x (s.data.toList.drop k)) (fun _ i => s.size - (intOf i).toNat)
  case atStart => exact ⟨0, 0, by omega, by omega, rfl, rfl, rfl⟩
  case round =>
    obtain ⟨k, x, hk, hx, rfl, rfl, hrd⟩ := hrel
    have HR := Lib.hid hrd
    clear hrd
    by_cases hlt : k < s.size
    · have HD := Lib.hid (drop_cons s k hlt)
      have hc := s[k].toNat_lt
      by_cases hlo : 48 ≤ s[k].toNat ∧ s[k].toNat ≤ 57
      · obtain ⟨h1, h2⟩ := hlo
        have HG := Lib.hid (Crc.rd_cons x s[k] (s.data.toList.drop (k + 1)) _ (Crc.dig_lo h1 h2))
        have ha := acc_form x (s[k].toNat - 48) (by omega)
        have hal := Crc.acc_lt (n := x) (d := s[k].toNat - 48) (by omega)
        have e : ((s[k].toNat - 48 : Nat) : Int) = (s[k].toNat : Int) - 48 := by omega
        rw [e] at ha
        clear e
        go_wp2
        go_round
        case rel => exact ⟨k + 1, _, by omega, hal, by go_num, rfl, by rw [HR.out, HD.out, HG.out]⟩
        case measure => simp [intOf]; omega
      · by_cases hhi : 97 ≤ s[k].toNat ∧ s[k].toNat ≤ 102
        · obtain ⟨h1, h2⟩ := hhi
          have HG := Lib.hid (Crc.rd_cons x s[k] (s.data.toList.drop (k + 1)) _ (Crc.dig_hi h1 h2))
          have ha := acc_form x (s[k].toNat - 87) (by omega)
          have hal := Crc.acc_lt (n := x) (d := s[k].toNat - 87) (by omega)
          have e : ((s[k].toNat - 87 : Nat) : Int) = (s[k].toNat : Int) - 97 + 10 := by omega
          rw [e] at ha
          clear e hlo
          go_wp2
          go_round
          case rel => exact ⟨k + 1, _, by omega, hal, by go_num, rfl, by rw [HR.out, HD.out, HG.out]⟩
          case measure => simp [intOf]; omega
        · have hn : Crc.rd 0 s.data.toList = none := by rw [HR.out, HD.out]; exact Crc.rd_cons_none _ _ _ (Crc.dig_no hlo hhi)
          have H1 := Lib.hid (Crc.rdErr_none _ hn)
          have H2 := Lib.hid (Crc.rdVal_none _ hn)
          clear hn
          go_wp2
          all_goals
            go_ret2
            exact ⟨ret2_int (by rw [H2.out]; rfl) (by rw [H1.out]; rfl), rfl⟩
    · have hke : k = s.size := by omega
      subst hke
      have hr : Crc.rd 0 s.data.toList = some x := by rw [HR.out, drop_all]; rfl
      by_cases h8 : s.size = 8
      · have H1 := Lib.hid (Crc.rdErr_some _ _ (by rw [hlen.out, h8]) hr)
        have H2 := Lib.hid (Crc.rdVal_some _ _ (by rw [hlen.out, h8]) hr)
        have h8' : ((s.size : Int) != 8) = false := by simp; omega
        clear hr h8
        go_wp2
        all_goals
          go_ret2
          exact ⟨ret2_int (by rw [H2.out]) (by rw [H1.out]; rfl), rfl⟩
      · have H1 := Lib.hid (Crc.rdErr_len _ (by rw [hlen.out]; exact h8))
        have H2 := Lib.hid (Crc.rdVal_len _ (by rw [hlen.out]; exact h8))
        have h8' : ((s.size : Int) != 8) = true := by simp; omega
        clear hr h8
        go_wp2
        all_goals
          go_ret2
          exact ⟨ret2_int (by rw [H2.out]; rfl) (by rw [H1.out]; rfl), rfl⟩

theorem digit_any (c : Nat) (hc : c < 256) (w : World) :
    Calls Try.prog 23 #[.int .u8 c] w fun e w' => e = .returned (.int .i64 (match Crc.dig c with | some d => (d : Int) | none => -1)) ∧ w = w' := by
  by_cases hlo : 48 ≤ c ∧ c ≤ 57
  · rw [Crc.dig_lo hlo.1 hlo.2]
    obtain ⟨h1, h2⟩ := hlo
    go_enter Try.func23, Try.ntmps23
    go_wp2
    go_ret
    exact ⟨ret_int (by show (c : Int) - 48 = ((c - 48 : Nat) : Int); omega), rfl⟩
  · by_cases hhi : 97 ≤ c ∧ c ≤ 102
    · rw [Crc.dig_hi hhi.1 hhi.2]
      obtain ⟨h1, h2⟩ := hhi
      clear hlo
      go_enter Try.func23, Try.ntmps23
      go_wp2
      go_ret
      exact ⟨ret_int (by show (c : Int) - 97 + 10 = ((c - 87 : Nat) : Int); omega), rfl⟩
    · rw [Crc.dig_no hlo hhi]
      go_enter Try.func23, Try.ntmps23
      go_wp2
      all_goals
        go_ret
        exact ⟨rfl, rfl⟩

theorem digit_some (c d : Nat) (hc : c < 256) (h : Crc.dig c = some d) (w : World) :
    Calls Try.prog 23 #[.int .u8 c] w fun e w' => e = .returned (.int .i64 d) ∧ w = w' := by
  have := digit_any c hc w
  rw [h] at this; exact this
theorem digit_none (c : Nat) (hc : c < 256) (h : Crc.dig c = none) (w : World) :
    Calls Try.prog 23 #[.int .u8 c] w fun e w' => e = .returned (.int .i64 (-1)) ∧ w = w' := by
  have := digit_any c hc w
  rw [h] at this; exact this

set_option maxHeartbeats 400000 in
theorem rread_any (s : ByteArray) (w : World) (hs : s.size ≤ maxLen) :
    Calls Try.prog 14 #[.string s] w fun e w' => e = .returned (.tuple #[.int .u32 (Crc.rdVal s.data.toList : Nat), .int .i64 (Crc.rdErr s.data.toList : Nat)]) ∧ w = w' := by
  unfold maxLen at hs
  have hlen := Lib.hid (len_eq s)
  by_cases h8 : s.size = 8
  · have h8' : ((s.size : Int) != 8) = false := by simp; omega
    have H8 := Lib.hid h8
    have hge : 8 ≤ s.size := by omega
    have hle : s.size ≤ 8 := by omega
    clear h8
    go_enter Try.func14, Try.ntmps14
    go_wp2
    go_loop [4, 5] (fun r i => ∃ k x : Nat, k ≤ 8 ∧ x < 4294967296 ∧ i = .int .i64 k ∧ r = .int .u32 x ∧ Crc.rd 0 s.data.toList = Crc.rd x (s.data.toList.drop k)) (fun _ i => 8 - (intOf i).toNat)
    case atStart => exact ⟨0, 0, by omega, by omega, rfl, rfl, rfl⟩
    case round =>
      obtain ⟨k, x, hk, hx, rfl, rfl, hrd⟩ := hrel
      have HR := Lib.hid hrd
      clear hrd
      by_cases hlt : k < 8
      · have hltS : k < s.size := by omega
        have HD := Lib.hid (drop_cons s k hltS)
        have hc := s[k].toNat_lt
        cases hdig : Crc.dig s[k].toNat with
        | none =>
          have hn : Crc.rd 0 s.data.toList = none := by rw [HR.out, HD.out]; exact Crc.rd_cons_none _ _ _ hdig
          have H1 := Lib.hid (Crc.rdErr_none _ hn)
          have H2 := Lib.hid (Crc.rdVal_none _ hn)
          have HG := Lib.hid hdig
          clear hn hdig
          go_wp2_with (go_at_call 23; refine (digit_none _ hc HG.out _).mono ?_; rintro e w' ⟨rfl, rfl⟩)
          go_ret2
          exact ⟨ret2_int (by rw [H2.out]; rfl) (by rw [H1.out]; rfl), rfl⟩
        | some d =>
          have HG := Lib.hid (Crc.rd_cons x s[k] (s.data.toList.drop (k + 1)) _ hdig)
          have hd := Crc.dig_lt hdig
          have HH := Lib.hid hdig
          have ha := acc_form x d (by omega)
          have hal := Crc.acc_lt (n := x) (d := d) (by omega)
          clear hdig
          go_wp2_with (go_at_call 23; refine (digit_some _ d hc HH.out _).mono ?_; rintro e w' ⟨rfl, rfl⟩)
          go_round
          case rel => exact ⟨k + 1, _, by omega, hal, by go_num, rfl, by rw [HR.out, HD.out, HG.out]⟩
          case measure => simp [intOf]; omega
      · have hke : k = 8 := by omega
        have hr : Crc.rd 0 s.data.toList = some x := by rw [HR.out, hke, ← H8.out, drop_all]; rfl
        have H1 := Lib.hid (Crc.rdErr_some _ _ (by rw [hlen.out, H8.out]) hr)
        have H2 := Lib.hid (Crc.rdVal_some _ _ (by rw [hlen.out, H8.out]) hr)
        clear hr hke
        go_wp2
        go_ret2
        exact ⟨ret2_int (by rw [H2.out]) (by rw [H1.out]; rfl), rfl⟩
  · have H1 := Lib.hid (Crc.rdErr_len _ (by rw [hlen.out]; exact h8))
    have H2 := Lib.hid (Crc.rdVal_len _ (by rw [hlen.out]; exact h8))
    have h8' : ((s.size : Int) != 8) = true := by simp; omega
    clear h8
    go_enter Try.func14, Try.ntmps14
    go_wp2
    go_ret2
    exact ⟨ret2_int (by rw [H2.out]; rfl) (by rw [H1.out]; rfl), rfl⟩

end Go.Proofs.Ytgibkalcfdgklaa
