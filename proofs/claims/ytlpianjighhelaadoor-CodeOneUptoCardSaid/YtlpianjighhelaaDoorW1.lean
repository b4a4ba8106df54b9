/- Walks: bit, step. -/
import Derived.Test.YtlpianjighhelaaDoorRows
import Derived.Test.YtlpianjighhelaaDoorPlain
import Derived.WalkKit
import Derived.Lib.Hide
import Derived.WalkSpells
import Derived.WalkLawsBesides
namespace Go.Proofs.YtlpianjighhelaaDoor
open Go.RowKit

theorem ret_int {k : IntKind} {a b : Int} (h : a = b) : Ending.returned (.int k a) = .returned (.int k b) := by rw [h]

theorem and1 (r : Nat) (hr : r < 4294967296) : bits .and .u32 (r : Int) 1 = ((r % 2 : Nat) : Int) := by
  have := u32_and_nat r 1 hr (by decide)
  rw [Nat.and_one_is_mod] at this
  exact this

theorem and1_odd (r : Nat) (hr : r < 4294967296) (h : r % 2 = 1) : bits .and .u32 (r : Int) 1 = 1 := by rw [and1 r hr, h]; rfl
theorem and1_even (r : Nat) (hr : r < 4294967296) (h : ¬ r % 2 = 1) : bits .and .u32 (r : Int) 1 = 0 := by
  rw [and1 r hr, show r % 2 = 0 by omega]; rfl

theorem half_poly (r : Nat) (hr : r < 4294967296) : bits .xor .u32 ((r : Int) / 2) 3988292384 = ((r / 2 ^^^ Crc.poly : Nat) : Int) := by
  have := u32_xor_nat (r / 2) 3988292384 (by omega) (by decide)
  simpa [Crc.poly] using this

theorem bit_form (r : Nat) (hr : r < 4294967296) :
    bits .xor .u32 ((r : Int) / 2) (3988292384 * bits .and .u32 (r : Int) 1 % 4294967296) = ((Crc.bit r : Nat) : Int) := by
  unfold Crc.bit
  by_cases h : r % 2 = 1
  · rw [and1_odd r hr h, if_pos h]; exact half_poly r hr
  · rw [and1_even r hr h, if_neg h]
    have := u32_xor_nat (r / 2) 0 (by omega) (by decide)
    simpa using this

set_option maxHeartbeats 400000 in
theorem bit_any (r : Nat) (hr : r < 4294967296) (w : World) :
    Calls Tryd.prog 53 #[.int .u32 r] w fun e w' => e = .returned (.int .u32 (Crc.bit r : Nat)) ∧ w = w' := by
  go_enter Tryd.func53, Tryd.ntmps53
  go_wp2
  go_ret
  exact ⟨ret_int (bit_form r hr), rfl⟩

set_option maxHeartbeats 400000 in
theorem step_any (r c : Nat) (hr : r < 4294967296) (hc : c < 256) (w : World) :
    Calls Tryd.prog 54 #[.int .u32 r, .int .u8 c] w fun e w' => e = .returned (.int .u32 (Crc.step r c : Nat)) ∧ w = w' := by
  have hx := u32_xor_nat r c hr (by omega)
  have hx2 : r ^^^ c < 4294967296 := Nat.xor_lt_two_pow (n := 32) hr (by omega)
  go_enter Tryd.func54, Tryd.ntmps54
  go_wp2
  go_loop [0, 5] (fun r' i => ∃ k : Nat, k ≤ 8 ∧ i = .int .i64 k ∧ r' = .int .u32 (Crc.iter Crc.bit k (r ^^^ c) : Nat)) (fun _ i => 8 - (intOf i).toNat)
  case atStart => exact ⟨0, by omega, rfl, rfl⟩
  case round =>
    obtain ⟨k, hk, rfl, rfl⟩ := hrel
    have hb : Crc.iter Crc.bit k (r ^^^ c) < 4294967296 := Crc.iter_lt k hx2
    have hs := Crc.iter_succ' Crc.bit k (r ^^^ c)
    generalize hx : Crc.iter Crc.bit k (r ^^^ c) = x at *
    have H : Hid (Crc.iter Crc.bit k (r ^^^ c) = x) := hx
    have HS : Hid (Crc.iter Crc.bit (k + 1) (r ^^^ c) = Crc.bit x) := hs
    clear hx hs
    by_cases hlt : k < 8
    · by_cases ho : x % 2 = 1
      · have h1 := and1_odd x hb ho
        go_wp2
        go_round
        case rel => exact ⟨k + 1, by omega, by go_num, by rw [HS.out, Crc.bit, if_pos ho, half_poly x hb]⟩
        case measure => simp [intOf]; omega
      · have h1 := and1_even x hb ho
        go_wp2
        go_round
        case rel => exact ⟨k + 1, by omega, by go_num, by rw [HS.out, Crc.bit, if_neg ho]; rfl⟩
        case measure => simp [intOf]; omega
    · have hk8 : k = 8 := by omega
      have HF : Hid (Crc.step r c = x) := by subst hk8; rw [← H.out]; rfl
      go_wp2
      go_ret
      exact ⟨by rw [HF.out]; rfl, rfl⟩
end Go.Proofs.YtlpianjighhelaaDoor
