/- Walks: of, times, octet, shift, shifted, Noughts, Join. -/
import Derived.Test.YtgibkalcfdgklaaW7
import Derived.Laws.CopyOwn
namespace Go.Proofs.Ytgibkalcfdgklaa
open Go.RowKit

/-- The columns of the map 'behind t bits 0'. -/
def col (t i : Nat) : Nat := Crc.iter Crc.bit t (2 ^ i)
def colV (t i : Nat) : Value := Value.int .u32 (col t i : Nat)
theorem col_lt (t i : Nat) (h : i < 32) : col t i < 4294967296 :=
  Crc.iter_lt t (Nat.lt_of_lt_of_le (Nat.pow_lt_pow_right (by decide) h) (by decide))

/-- What is left of a register's bits, and what has been gathered. -/
structure Gath (t r0 k o rem : Nat) : Prop where
  sum : o ^^^ Crc.iter Crc.bit t (rem * 2 ^ k) = Crc.iter Crc.bit t r0
  olt : o < 4294967296
  rlt : rem * 2 ^ k < 4294967296

theorem Gath.start (t r0 : Nat) (h : r0 < 4294967296) : Gath t r0 0 0 r0 := ⟨by simp, by decide, by simpa using h⟩

theorem Gath.small {t r0 k o rem : Nat} (h : Gath t r0 k o rem) (h0 : 0 < rem) : k < 32 := by
  by_cases hk : k < 32
  · exact hk
  · exfalso
    have h1 : 2 ^ 32 ≤ 2 ^ k := Nat.pow_le_pow_right (by decide) (by omega)
    have h2 : 1 * 2 ^ k ≤ rem * 2 ^ k := Nat.mul_le_mul_right _ h0
    have := h.rlt
    omega

theorem odd_split (rem k : Nat) (h : rem % 2 = 1) : rem * 2 ^ k = 2 ^ k ^^^ (rem / 2) * 2 ^ (k + 1) := by
  have e : rem = 1 ^^^ (rem / 2) * 2 ^ 1 := by
    apply Nat.eq_of_testBit_eq
    intro i
    rw [Nat.testBit_xor, Nat.testBit_mul_two_pow]
    cases i with
    | zero => simp [Nat.testBit_zero, h]
    | succ i => simp [Nat.testBit_succ]
  have e2 : rem * 2 ^ k = (1 ^^^ (rem / 2) * 2 ^ 1) * 2 ^ k := by rw [← e]
  rw [e2]
  apply Nat.eq_of_testBit_eq
  intro i
  rw [Nat.testBit_mul_two_pow, Nat.testBit_xor, Nat.testBit_xor, Nat.testBit_mul_two_pow, Nat.testBit_mul_two_pow, Nat.testBit_two_pow]
  by_cases hk : k ≤ i
  · by_cases hk1 : k + 1 ≤ i
    · have hf : Nat.testBit 1 (i - k) = false := by
        have := @Nat.testBit_two_pow 0 (i - k)
        simp only [Nat.pow_zero] at this
        rw [this]; simp; omega
      simp [hf, hk, hk1, show 1 ≤ i - k by omega, show i - k - 1 = i - (k + 1) by omega, show k ≠ i by omega]
    · have : k = i := by omega
      subst this
      simp
  · simp [hk, show ¬ k + 1 ≤ i by omega, show k ≠ i by omega]

theorem Gath.odd {t r0 k o rem : Nat} (h : Gath t r0 k o rem) (ho : rem % 2 = 1) : Gath t r0 (k + 1) (o ^^^ col t k) (rem / 2) := by
  have hk := h.small (by omega)
  have hs := odd_split rem k ho
  refine ⟨?_, Nat.xor_lt_two_pow (n := 32) h.olt (col_lt t k hk), ?_⟩
  · rw [Nat.xor_assoc]; unfold col; rw [← Crc.iter_xor, ← hs]; exact h.sum
  · have := h.rlt
    have h2 : rem / 2 * 2 ^ (k + 1) ≤ rem * 2 ^ k := by
      rw [Nat.pow_succ, Nat.mul_comm (2 ^ k), ← Nat.mul_assoc]
      exact Nat.mul_le_mul_right _ (by omega)
    omega

theorem Gath.even {t r0 k o rem : Nat} (h : Gath t r0 k o rem) (ho : ¬ rem % 2 = 1) : Gath t r0 (k + 1) o (rem / 2) := by
  have e : rem / 2 * 2 ^ (k + 1) = rem * 2 ^ k := by
    rw [Nat.pow_succ, Nat.mul_comm (2 ^ k), ← Nat.mul_assoc, show rem / 2 * 2 = rem by omega]
  exact ⟨by rw [e]; exact h.sum, h.olt, by rw [e]; exact h.rlt⟩

theorem Gath.done {t r0 k o rem : Nat} (h : Gath t r0 k o rem) (h0 : rem = 0) : o = Crc.iter Crc.bit t r0 := by
  have := h.sum
  rw [h0, Nat.zero_mul, Crc.iter_zero, Nat.xor_zero] at this
  exact this

set_option maxHeartbeats 400000 in
theorem of_map (b t r : Nat) (hr : r < 4294967296) (w : World) (hc : ∀ i, i < 32 → w.cell? ⟨b, i, none⟩ = some (colV t i)) :
    Calls Try.prog 28 #[.pointer (some ⟨b, 0, none⟩), .int .u32 r] w fun e w' => e = .returned (.int .u32 (Crc.iter Crc.bit t r : Nat)) ∧ w = w' := by
  have HC := Lib.hid hc
  clear hc
  go_enter Try.func28, Try.ntmps28
  go_wp2
  go_loop [5, 6, 1] (fun o i r' => ∃ k ov rem : Nat, i = .int .i64 k ∧ o = .int .u32 ov ∧ r' = .int .u32 rem ∧ k ≤ 32 ∧ Gath t r k ov rem ∧ rem < 4294967296) (fun _ _ r' => (intOf r').toNat)
  case atStart => exact ⟨0, 0, r, rfl, rfl, rfl, by omega, Gath.start t r hr, hr⟩
  case round =>
    obtain ⟨k, o, rem, rfl, rfl, rfl, hk, hg, hrem⟩ := hrel
    have HG := Lib.hid hg
    by_cases h0 : rem = 0
    · have HD := Lib.hid (hg.done h0)
      clear hg
      subst h0
      go_wp2
      go_ret
      exact ⟨by rw [← HD.out]; rfl, rfl⟩
    · have hk32 := hg.small (by omega)
      have hne : ((rem : Int) != 0) = true := by simp; omega
      have hpos : 0 < rem := by omega
      have hcell := HC.out k hk32
      simp only [colV] at hcell
      have hx := u32_xor_nat o (col t k) hg.olt (col_lt t k hk32)
      clear h0
      by_cases ho : rem % 2 = 1
      · have h1 := and1_odd rem hrem ho
        have HN := Lib.hid (hg.odd ho)
        clear hg
        go_wp2
        go_round
        case rel => exact ⟨k + 1, _, rem / 2, by go_num, rfl, by go_num, by omega, HN.out, by omega⟩
        case measure => simp [intOf]; omega
      · have h1 := and1_even rem hrem ho
        have HN := Lib.hid (hg.even ho)
        clear hg
        go_wp2
        go_round
        case rel => exact ⟨k + 1, _, rem / 2, by go_num, rfl, by go_num, by omega, HN.out, by omega⟩
        case measure => simp [intOf]; omega

set_option maxHeartbeats 400000 in
theorem times_map (b t r c : Nat) (hr : r < 4294967296) (w : World) (hc : ∀ i, i < 32 → w.cell? ⟨b, i, none⟩ = some (colV t i)) :
    Calls Try.prog 29 #[.slice (some ⟨b, 0, none⟩) 32 c, .int .u32 r] w fun e w' => e = .returned (.int .u32 (Crc.iter Crc.bit t r : Nat)) ∧ w = w' := by
  have HC := Lib.hid hc
  clear hc
  go_enter Try.func29, Try.ntmps29
  go_wp2
  go_loop [5, 6] (fun o i => ∃ k ov : Nat, i = .int .i64 k ∧ o = .int .u32 ov ∧ k ≤ 32 ∧ Gath t r k ov (r / 2 ^ k)) (fun _ i => 32 - (intOf i).toNat)
  case atStart => exact ⟨0, 0, rfl, rfl, by omega, by simpa using Gath.start t r hr⟩
  case round =>
    obtain ⟨k, o, rfl, rfl, hk, hg⟩ := hrel
    have HG := Lib.hid hg
    by_cases hk32 : k < 32
    · have hd : r / 2 ^ k < 4294967296 := Nat.lt_of_le_of_lt (Nat.div_le_self _ _) hr
      have hcell := HC.out k hk32
      simp only [colV] at hcell
      have hx := u32_xor_nat o (col t k) hg.olt (col_lt t k hk32)
      have e0 : ((r : Int) / 2 ^ k) = ((r / 2 ^ k : Nat) : Int) := by simp
      have e1 : r / 2 ^ (k + 1) = r / 2 ^ k / 2 := by rw [Nat.pow_succ, Nat.div_div_eq_div_mul]
      by_cases ho : r / 2 ^ k % 2 = 1
      · have h1 := and1_odd _ hd ho
        have HN := Lib.hid (hg.odd ho)
        rw [← e0] at h1
        rw [← e1] at HN
        clear hg e0 e1 ho
        go_wp2
        go_round
        case rel => exact ⟨k + 1, _, by go_num, rfl, by omega, HN.out⟩
        case measure => simp [intOf]; omega
      · have h1 := and1_even _ hd ho
        have HN := Lib.hid (hg.even ho)
        rw [← e0] at h1
        rw [← e1] at HN
        clear hg e0 e1 ho
        go_wp2
        go_round
        case rel => exact ⟨k + 1, _, by go_num, rfl, by omega, HN.out⟩
        case measure => simp [intOf]; omega
    · have h32 : k = 32 := by omega
      subst h32
      have h0 : r / 2 ^ 32 = 0 := Nat.div_eq_of_lt (by omega)
      have HD := Lib.hid (hg.done h0)
      clear hg h0
      go_wp2
      go_ret
      exact ⟨by rw [← HD.out]; rfl, rfl⟩

/-- Thirty-two columns, the first k of them filled. -/
def colA (t k : Nat) : Array Value := ((List.range 32).map fun i => if i < k then colV t i else Value.int .u32 0).toArray
theorem colA_size (t k : Nat) : (colA t k).size = 32 := by simp [colA]
theorem colA_get (t k i : Nat) (h : i < 32) : (colA t k)[i]? = some (if i < k then colV t i else Value.int .u32 0) := by
  simp [colA, List.getElem?_range h]
theorem colA_full (t i : Nat) (h : i < 32) : (colA t 32)[i]? = some (colV t i) := by rw [colA_get t 32 i h, if_pos h]
theorem colA_set (t k : Nat) (_h : k < 32) : (colA t k).setIfInBounds k (colV t k) = colA t (k + 1) := by
  apply Array.ext_getElem?
  intro i
  rw [Array.getElem?_setIfInBounds]
  by_cases hi : i < 32
  · rw [colA_get t k i hi, colA_get t (k + 1) i hi]
    by_cases e : k = i
    · subst e; rw [if_pos rfl, if_pos (by rw [colA_size]; exact hi), if_pos (by omega)]
    · rw [if_neg e]
      by_cases h2 : i < k
      · rw [if_pos h2, if_pos (by omega)]
      · rw [if_neg h2, if_neg (by omega)]
  · have h1 : (colA t (k + 1))[i]? = none := Array.getElem?_eq_none (by rw [colA_size]; omega)
    have h2 : (colA t k)[i]? = none := Array.getElem?_eq_none (by rw [colA_size]; omega)
    rw [h1, h2, if_neg (by omega)]
theorem colA_none (t : Nat) : colA t 0 = Array.replicate 32 (Value.int .u32 0) := by
  apply Array.ext_getElem?
  intro i
  by_cases hi : i < 32
  · rw [colA_get t 0 i hi, if_neg (by omega)]; simp [hi]
  · rw [Array.getElem?_eq_none (by rw [colA_size]; omega), Array.getElem?_eq_none (by simp; omega)]

set_option maxHeartbeats 1000000 in
theorem octet_any (w : World) :
    Calls Try.prog 27 #[] w fun e w' => e = .returned (.agg (colA 8 32)) ∧ Below w.heap.size w w' := by
  go_enter Try.func27, Try.ntmps27
  go_wp2
  go_loopw [4] (fun i wr => ∃ k : Nat, k ≤ 32 ∧ i = .int .i64 k ∧ wr = (w.alloc (.cells (colA 0 0) 47)).alloc (.cells (colA 8 k) 47)) (fun i _ => 32 - (intOf i).toNat)
  case atStart => exact ⟨0, by omega, rfl, by rw [colA_none, colA_none]; rfl⟩
  case round =>
    obtain ⟨k, hk, rfl, rfl⟩ := hrel
    by_cases hlt : k < 32
    · have hp : 2 ^ k < 4294967296 := Nat.lt_of_lt_of_le (Nat.pow_lt_pow_right (by decide) hlt) (by decide)
      obtain ⟨y, hy⟩ : ∃ y, 2 ^ k = y := ⟨_, rfl⟩
      have e0 : ((2 : Int) ^ k % 4294967296) = (y : Int) := by
        rw [show ((2 : Int) ^ k) = ((2 ^ k : Nat) : Int) by simp, hy]; omega
      have HY : Hid (colV 8 k = Value.int .u32 (Crc.iter Crc.bit 8 y : Nat)) := by rw [← hy]; rfl
      rw [hy] at hp
      clear hy
      have hcv : (colA 8 k)[k]? = some (Value.int .u32 0) := by rw [colA_get 8 k k hlt, if_neg (by omega)]
      have HS := Lib.hid (colA_set 8 k hlt)
      have hdk : decide ((k : Int) < 32) = true := by simp; omega
      go_wp2
      rw [e0]
      clear e0
      go_loop [3, 10] (fun r j => ∃ m : Nat, m ≤ 8 ∧ j = .int .i64 m ∧ r = .int .u32 (Crc.iter Crc.bit m y : Nat)) (fun _ i => 8 - (intOf i).toNat)
      case atStart => exact ⟨0, by omega, rfl, rfl⟩
      case round =>
        obtain ⟨m, hm, rfl, rfl⟩ := hrel
        have hb2 : Crc.iter Crc.bit m y < 4294967296 := Crc.iter_lt m hp
        have HT := Lib.hid (Crc.iter_succ' Crc.bit m y)
        by_cases hm8 : m < 8
        · go_wp2_with (go_at_call 21; refine (bit_any _ hb2 _).mono ?_; rintro e w' ⟨rfl, rfl⟩)
          go_round
          case rel => exact ⟨m + 1, by omega, by go_num, by rw [HT.out]⟩
          case measure => simp [intOf]; omega
        · have hm9 : m = 8 := by omega
          have HF : Hid (Value.int .u32 (Crc.iter Crc.bit m y : Nat) = colV 8 k) := by rw [hm9]; exact HY.out.symm
          clear hm9
          go_wp2
          go_roundw
          case rel => exact ⟨k + 1, by omega, by go_num, by rw [HF.out, HS.out]⟩
          case measure => simp [intOf]; omega
    · have h32 : k = 32 := by omega
      subst h32
      have hg0 : ((w.alloc (.cells (colA 0 0) 47)).alloc (.cells (colA 8 32) 47)).heap[w.heap.size]? = some (.cells (colA 0 0) 47 (0, 0)) := heap_alloc2_old _ _ _
      have hall : (colA 8 32).all (·.oneCell') = true := by
        rw [Array.all_eq_true]; intro i hi; rw [colA_size] at hi
        have := colA_full 8 i hi
        rw [Array.getElem?_eq_getElem (by rw [colA_size]; exact hi)] at this
        rw [Option.some.inj this]; rfl
      have HA := Lib.hid hall
      have HG := Lib.hid hg0
      clear hall hg0
      go_wp2_with (first | refine wpList_load_row rfl 47 (.tmp 1) rfl (w.heap.size + 1) rfl 47 (colA 8 32) (0, 0) _ (heap_alloc2_new _ _ _) Try.underlying47 rfl (by rw [colA_size]; kernel_rfl) ?_ | refine wpList_store_row rfl 47 (.tmp 0) (.tmp 19) rfl w.heap.size (colA 8 32) rfl rfl 47 (colA 0 0) HG.out (by rw [colA_size]; kernel_rfl) (by rw [colA_size, colA_size]) HA.out ?_)
      refine bodyPost_ret (results_cell_row (p := 0) (ty := 47) rfl _ _ w.heap.size 47 (colA 8 32) (0, 0) _ rfl (setRow_heap _ _ _ _ _ _ HG.out) Try.underlying47 rfl (by rw [colA_size]; kernel_rfl)) rfl ⟨rfl, ?_⟩
      exact below_setRow (((Below.refl _ _).alloc (Nat.le_refl _) _).alloc (by simp) _) (Nat.le_refl _) _
end Go.Proofs.Ytgibkalcfdgklaa
