/- Walks: eight, Int, ReadInt, of both. -/
import Derived.Test.YtlpianjighhelaaDoorC5
import Derived.Test.YtlpianjighhelaaDoorKL
namespace Go.Proofs.YtlpianjighhelaaDoor
open Go.RowKit

/-- The array of eight, j bytes written. -/
def eA (j x : Nat) : Array Value := (((Cod.beL 8 x).take j).map B ++ List.replicate (8 - j) (Value.int .u8 0)).toArray
theorem eA_size (j x : Nat) (hj : j ≤ 8) : (eA j x).size = 8 := by simp [eA, Cod.beL_len]; omega
theorem eA_get (j x : Nat) (h : j < 8) : (eA j x)[j]? = some (Value.int .u8 0) := by
  unfold eA
  rw [List.getElem?_toArray, List.getElem?_append_right (by simp [Cod.beL_len]; omega), List.getElem?_replicate, if_pos (by simp [Cod.beL_len]; omega)]
theorem eA_set (j x : Nat) (h : j < 8) (v : UInt8) (hv : v = UInt8.ofNat (x / 256 ^ (7 - j))) : (eA j x).setIfInBounds j (B v) = eA (j + 1) x := by
  unfold eA
  apply Array.ext'
  simp only [Array.toList_setIfInBounds]
  have hl : (((Cod.beL 8 x).take j).map B).length = j := by simp [Cod.beL_len]; omega
  rw [List.set_append_right _ _ (by rw [hl]; exact Nat.le_refl _), hl, Nat.sub_self, show 8 - j = (8 - (j + 1)) + 1 by omega, List.replicate_succ, List.set_cons_zero]
  have hg := Cod.beL_get 8 x j h
  have ht : (Cod.beL 8 x).take (j + 1) = (Cod.beL 8 x).take j ++ [v] := by
    rw [List.take_add_one, hg, hv]; rfl
  rw [ht]
  simp
theorem eA_done (x : Nat) : eA 8 x = ((Cod.beL 8 x).map B).toArray := by
  unfold eA
  rw [List.take_of_length_le (by rw [Cod.beL_len]; exact Nat.le_refl _)]
  simp
theorem eight_conv (w : World) (x : Nat) : (convert 55 9 (.slice (some ⟨w.heap.size, 0, none⟩) 8 8)).run Tryd.prog (w.alloc (.cells (eA 8 x) 57)) = .ok (.string (str (Cod.beL 8 x))) (w.alloc (.cells (eA 8 x) 57)) := by
  have hl := Cod.beL_len 8 x
  have := run_convert_bytes_back (P := Tryd.prog) (w.alloc (.cells (eA 8 x) 57)) 55 9 5 ⟨w.heap.size, 0, none⟩ 8 (Cod.beL 8 x) Tryd.underlying55 Tryd.underlying5 Tryd.underlying9 (fun i hi => by
    have hc : (w.alloc (.cells (eA 8 x) 57)).cell? ⟨w.heap.size, i, none⟩ = some (B (Cod.beL 8 x)[i]) := by
      rw [World.cell?_alloc_new, eA_done, List.getElem?_toArray, List.getElem?_map, List.getElem?_eq_getElem hi]; rfl
    by_cases h0 : i = 0
    · subst h0; exact hc
    · simpa [Addr.add, h0, B] using hc)
  rw [hl] at this
  exact this

set_option maxRecDepth 100000 in
theorem eight_any (x : Nat) (hx : x < 18446744073709551616) (w : World) :
    Calls Tryd.prog 32 #[.int .u64 x] w fun e w' => e = .returned (.string (str (Cod.beL 8 x))) ∧ Below w.heap.size w w' := by
  go_enter Tryd.func32, Tryd.ntmps32
  go_wp2
  go_loopw [5] (fun i wr => ∃ j : Nat, j ≤ 8 ∧ i = .int .i64 j ∧ wr = w.alloc (.cells (eA j x) 57)) (fun i _ => 8 - (intOf i).toNat)
  case atStart => exact ⟨0, by omega, rfl, rfl⟩
  case round =>
    obtain ⟨j, hj, rfl, rfl⟩ := hrel
    by_cases hlt : j < 8
    · have hd : decide ((j : Int) < 8) = true := by simp; omega
      have hg := eA_get j x hlt
      have HS := Lib.hid (eA_set j x hlt _ rfl)
      have HV := Lib.hid (show Value.int .u8 ((x : Int) / 2 ^ (56 - 8 * j) % 256) = B (UInt8.ofNat (x / 256 ^ (7 - j))) by
        rw [B_ofNat, show (256 : Nat) ^ (7 - j) = 2 ^ (56 - 8 * j) by rw [show 56 - 8 * j = 8 * (7 - j) by omega, Nat.pow_mul]]
        simp)
      go_wp2
      go_roundw
      case rel => exact ⟨j + 1, by omega, by go_num, by rw [← HS.out, ← HV.out]⟩
      case measure => simp [intOf]; omega
    · have hjn : j = 8 := by omega
      subst hjn
      have hcv := eight_conv w x
      go_wp2
      go_ret
      exact ⟨rfl, (Below.refl _ _).alloc (Nat.le_refl _) _⟩

theorem xor_top {r : Nat} (h : r < 2 ^ 63) : r ^^^ 2 ^ 63 = 2 ^ 63 + r := by
  apply Nat.eq_of_testBit_eq
  intro i
  rw [Nat.testBit_xor, Nat.testBit_two_pow]
  by_cases e : 63 = i
  · subst e
    rw [Nat.testBit_two_pow_add_eq, Nat.testBit_lt_two_pow h]
    simp
  · by_cases g : i < 63
    · rw [Nat.testBit_two_pow_add_gt g]
      simp [e]
    · have h1 : r < 2 ^ i := Nat.lt_of_lt_of_le h (Nat.pow_le_pow_right (by decide) (by omega))
      have h2 : 2 ^ 63 + r < 2 ^ i := Nat.lt_of_lt_of_le (show 2 ^ 63 + r < 2 ^ 64 by have : (2 : Nat) ^ 64 = 2 ^ 63 + 2 ^ 63 := by decide
                                                                                      omega) (Nat.pow_le_pow_right (by decide) (by omega))
      rw [Nat.testBit_lt_two_pow h1, Nat.testBit_lt_two_pow h2]
      simp [e]
theorem xor_63 (a : Nat) (h : a < 18446744073709551616) : a ^^^ 9223372036854775808 = (a + 9223372036854775808) % 18446744073709551616 := by
  have e : (2 : Nat) ^ 63 = 9223372036854775808 := by decide
  by_cases h1 : a < 9223372036854775808
  · have := xor_top (r := a) (by rw [e]; exact h1)
    rw [e] at this
    rw [this]; omega
  · have h2 := xor_top (r := a - 9223372036854775808) (by rw [e]; omega)
    rw [e] at h2
    have h3 : 9223372036854775808 + (a - 9223372036854775808) = a := by omega
    rw [h3] at h2
    rw [← h2, Nat.xor_assoc, Nat.xor_self, Nat.xor_zero]
    omega
end Go.Proofs.YtlpianjighhelaaDoor
