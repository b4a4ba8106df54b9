/- The walk of CrcTexts. -/
import Derived.Test.YtgibkalcfdgklaaW5
namespace Go.Proofs.Ytgibkalcfdgklaa
open Go.RowKit

theorem str_size (l : List UInt8) : (⟨l.toArray⟩ : ByteArray).size = l.length := rfl

theorem read_text (n : Nat) (hn : n < 4294967296) (w : World) :
    Calls Try.prog 13 #[.string ⟨(Crc.hexes 8 n).toArray⟩] w fun e w' => e = .returned (.tuple #[.int .u32 n, .int .i64 0]) ∧ w = w' := by
  have hr := Crc.rd_text n hn
  refine (read_any _ (by rw [str_size, Crc.hexes_len]; decide) w).mono ?_
  rintro e w' ⟨rfl, rfl⟩
  exact ⟨ret2_int (by rw [show (⟨(Crc.hexes 8 n).toArray⟩ : ByteArray).data.toList = Crc.hexes 8 n from rfl, hr.1]) (by rw [show (⟨(Crc.hexes 8 n).toArray⟩ : ByteArray).data.toList = Crc.hexes 8 n from rfl, hr.2]; rfl), rfl⟩

set_option maxHeartbeats 1000000 in
theorem walkCrcTexts (a0 : Int) (a1 : ByteArray) (w0 : (Lit.int .u32 a0).wf = true) (w1 : a1.size ≤ 140737488351232) (w : World) :
    Calls Try.prog 4 #[.int .u32 a0, .string a1] w fun e w' => e = .returned (.bool true) ∧ Below w.heap.size w w' := by
  obtain ⟨n, hn, rfl⟩ := u32_of w0
  have hs : a1.size ≤ maxLen := by unfold maxLen; omega
  go_enter Try.func4, Try.ntmps4
  go_wp2_with fail
  refine (read_any _ hs _).mono ?_
  rintro e w' ⟨rfl, rfl⟩
  go_wp2_with fail
  refine (rread_any _ _ hs).mono ?_
  rintro e w' ⟨rfl, rfl⟩
  go_wp2_with fail
  refine (text_any n hn _).mono ?_
  rintro e w2 ⟨rfl, hb2⟩
  go_wp2_with fail
  refine (read_text n hn _).mono ?_
  rintro e w' ⟨rfl, rfl⟩
  go_wp2_with fail
  refine (text_any n hn _).mono ?_
  rintro e w3 ⟨rfl, hb3⟩
  go_wp2_with fail
  refine (rtext_any n hn _).mono ?_
  rintro e w' ⟨rfl, rfl⟩
  go_wp2_with fail
  refine (alive_any _).mono ?_
  rintro e w4 ⟨rfl, hb4⟩
  go_wp2_with fail
  go_ret
  exact ⟨rfl, (hb2.trans (hb3.mono hb2.size)).trans (hb4.mono (Nat.le_trans hb2.size hb3.size))⟩
end Go.Proofs.Ytgibkalcfdgklaa
