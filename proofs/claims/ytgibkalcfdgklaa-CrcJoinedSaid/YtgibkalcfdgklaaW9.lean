/- Walks: shift, shifted, Noughts, Join. -/
import Derived.Test.YtgibkalcfdgklaaW8
namespace Go.Proofs.Ytgibkalcfdgklaa
open Go.RowKit

theorem and1_i64 (n : Nat) (h : n < 9223372036854775808) : bits .and .i64 (n : Int) 1 = ((n % 2 : Nat) : Int) := by
  have e1 : (BitVec.ofInt 64 (n : Int)).toNat = n := by
    rw [BitVec.ofInt_natCast, BitVec.toNat_ofNat]; exact Nat.mod_eq_of_lt (by omega)
  show IntKind.i64.wrap ((BitVec.ofInt 64 (n : Int) &&& BitVec.ofInt 64 (1 : Int)).toNat : Int) = _
  rw [BitVec.toNat_and, e1, show (BitVec.ofInt 64 (1 : Int)).toNat = 1 from rfl, Nat.and_one_is_mod]
  exact IntWalk.i64_in _ ⟨by omega, by omega⟩

/-- Columns, the first k of them squared. -/
def sqA (t k : Nat) : Array Value := ((List.range 32).map fun i => if i < k then colV (t + t) i else colV t i).toArray
theorem sqA_size (t k : Nat) : (sqA t k).size = 32 := by simp [sqA]
theorem sqA_get (t k i : Nat) (h : i < 32) : (sqA t k)[i]? = some (if i < k then colV (t + t) i else colV t i) := by
  simp [sqA, List.getElem?_range h]
theorem sqA_set (t k : Nat) (_h : k < 32) : (sqA t k).setIfInBounds k (colV (t + t) k) = sqA t (k + 1) := by
  apply Array.ext_getElem?
  intro i
  rw [Array.getElem?_setIfInBounds]
  by_cases hi : i < 32
  · rw [sqA_get t k i hi, sqA_get t (k + 1) i hi]
    by_cases e : k = i
    · subst e; rw [if_pos rfl, if_pos (by rw [sqA_size]; exact hi), if_pos (by omega)]
    · rw [if_neg e]
      by_cases h2 : i < k
      · rw [if_pos h2, if_pos (by omega)]
      · rw [if_neg h2, if_neg (by omega)]
  · have h1 : (sqA t (k + 1))[i]? = none := Array.getElem?_eq_none (by rw [sqA_size]; omega)
    have h2 : (sqA t k)[i]? = none := Array.getElem?_eq_none (by rw [sqA_size]; omega)
    rw [h1, h2, if_neg (by omega)]
theorem sqA_zero (t : Nat) : sqA t 0 = colA t 32 := by
  apply Array.ext_getElem?
  intro i
  by_cases hi : i < 32
  · rw [sqA_get t 0 i hi, colA_get t 32 i hi, if_neg (by omega), if_pos hi]
  · rw [Array.getElem?_eq_none (by rw [sqA_size]; omega), Array.getElem?_eq_none (by rw [colA_size]; omega)]
theorem sqA_full (t : Nat) : sqA t 32 = colA (t + t) 32 := by
  apply Array.ext_getElem?
  intro i
  by_cases hi : i < 32
  · rw [sqA_get t 32 i hi, colA_get (t + t) 32 i hi, if_pos hi, if_pos hi]
  · rw [Array.getElem?_eq_none (by rw [sqA_size]; omega), Array.getElem?_eq_none (by rw [colA_size]; omega)]

theorem colA_one (t k : Nat) : (colA t k).all (·.oneCell') = true := by
  rw [Array.all_eq_true]; intro i hi; rw [colA_size] at hi
  have := colA_get t k i hi
  rw [Array.getElem?_eq_getElem (by rw [colA_size]; exact hi)] at this
  rw [Option.some.inj this]; split <;> rfl

theorem col_col (t i : Nat) : Crc.iter Crc.bit t (col t i) = col (t + t) i := by unfold col; rw [← Crc.iter_add]

theorem cell_of_block {w : World} {b : Nat} {cs : Array Value} {t : TypeId} (h : w.heap[b]? = some (.cells cs t (0, 0))) {i : Nat} {v : Value} (hv : cs[i]? = some v) : w.cell? ⟨b, i, none⟩ = some v := by
  rw [cell_of_row w b i cs t (0, 0) h, hv]

theorem cols_of_block {w : World} {b t : Nat} (h : w.heap[b]? = some (.cells (colA t 32) 47 (0, 0))) : ∀ i, i < 32 → w.cell? ⟨b, i, none⟩ = some (colV t i) :=
  fun i hi => cell_of_block h (colA_full t i hi)

/-- How far the power has gone. -/
def Powed (t n r r0 n0 : Nat) : Prop := Crc.iter Crc.bit (t * n) r = Crc.shift r0 n0
theorem Powed.start (r n : Nat) : Powed 8 n r r n := rfl
theorem Powed.odd {t n r r0 n0 : Nat} (h : Powed t n r r0 n0) (ho : n % 2 = 1) : Powed (t + t) (n / 2) (Crc.iter Crc.bit t r) r0 n0 := by
  unfold Powed at *
  rw [← Crc.iter_add, ← h]
  congr 1
  have : n = 2 * (n / 2) + 1 := by omega
  conv => rhs; rw [this]
  rw [Nat.mul_add, Nat.add_mul, Nat.mul_one, Nat.mul_left_comm, Nat.two_mul, Nat.add_comm]
theorem Powed.even {t n r r0 n0 : Nat} (h : Powed t n r r0 n0) (ho : ¬ n % 2 = 1) : Powed (t + t) (n / 2) r r0 n0 := by
  unfold Powed at *
  rw [← h]
  congr 1
  have : n = 2 * (n / 2) := by omega
  conv => rhs; rw [this]
  rw [Nat.add_mul, Nat.mul_left_comm, Nat.two_mul]
theorem Powed.done {t n r r0 n0 : Nat} (h : Powed t n r r0 n0) (h0 : n = 0) : r = Crc.shift r0 n0 := by
  unfold Powed at h; rw [h0, Nat.mul_zero] at h; exact h

set_option maxHeartbeats 2000000 in
theorem shift_pos (r n : Nat) (hr : r < 4294967296) (hn : n ≤ 9223372036854775807) (w : World) :
    Calls Try.prog 25 #[.int .u32 r, .int .i64 n] w fun e w' => e = .returned (.int .u32 (Crc.shift r n : Nat)) ∧ Below w.heap.size w w' := by
  go_enter Try.func25, Try.ntmps25
  go_wp2_with fail
  refine (octet_any _).mono ?_
  rintro e w1 ⟨rfl, hb1⟩
  go_wp2_with (refine wpList_store_row rfl 47 (.tmp 5) (.tmp 8) rfl w1.heap.size (colA 8 32) rfl rfl 47 (colA 0 0) (by rw [colA_none]; exact heap_alloc_new _ _) (by rw [colA_size]; kernel_rfl) (by rw [colA_size, colA_size]) (colA_one _ _) ?_)
  have hg0 : ((w1.alloc (.cells (colA 0 0) 47)).setRow w1.heap.size (colA 8 32)).heap[w1.heap.size]? = some (.cells (colA 8 32) 47 (0, 0)) := setRow_heap _ _ _ _ _ _ (heap_alloc_new _ _)
  rw [colA_none] at hg0
  have hB : w.heap.size ≤ w1.heap.size := hb1.size
  have hbel0 : Below w.heap.size w ((w1.alloc (.cells (colA 0 0) 47)).setRow w1.heap.size (colA 8 32)) := below_setRow (hb1.alloc hB _) hB _
  rw [colA_none] at hbel0
  simp only [Act.put, List.setIfInBounds_toArray, List.set_cons_succ, List.set_cons_zero]
  go_loopw [0, 1] (fun r' n' wr => ∃ t rv nv : Nat, r' = .int .u32 rv ∧ n' = .int .i64 nv ∧ rv < 4294967296 ∧ nv ≤ 9223372036854775807 ∧ Powed t nv rv r n ∧
      wr.heap[w1.heap.size]? = some (.cells (colA t 32) 47 (0, 0)) ∧ Below w.heap.size w wr) (fun _ n' _ => (intOf n').toNat)
  case atStart => exact ⟨8, r, n, rfl, rfl, hr, hn, Powed.start r n, hg0, hbel0⟩
  case round =>
    clear hg0 hbel0
    obtain ⟨t, rv, nv, rfl, rfl, hrv, hnv, hP, hblk, hbel⟩ := hrel
    have HB := Lib.hid hblk
    have hBsz : w1.heap.size < wr.heap.size := by
      have := (Array.getElem?_eq_some_iff.1 hblk).1; exact this
    by_cases h0 : 0 < nv
    · have ha := and1_i64 nv (by omega)
      have hd0 : decide ((0 : Int) < (nv : Int)) = true := by simp; omega
      by_cases ho : nv % 2 = 1
      · have HP := Lib.hid (hP.odd ho)
        have hr2 := Crc.iter_lt t hrv
        rw [ho] at ha
        clear hP hblk
        have ha' : bits .and .i64 (nv : Int) 1 = 1 := ha
        clear ha ho
        go_wp2_with (first | (go_at_call 28; refine (of_map _ t _ hrv _ (cols_of_block HB.out)).mono ?_; rintro e w' ⟨rfl, rfl⟩) | refine wpList_load_row rfl 47 (.tmp 5) rfl w1.heap.size rfl 47 (colA t 32) (0, 0) _ HB.out Try.underlying47 rfl (by rw [colA_size]; kernel_rfl) ?_ | refine wpList_store_row rfl 47 (.tmp 6) (.tmp 18) rfl wr.heap.size (colA t 32) rfl rfl 47 (colA 0 0) (by rw [colA_none]; exact heap_alloc_new _ _) (by rw [colA_size]; kernel_rfl) (by rw [colA_size, colA_size]) (colA_one _ _) ?_)
        have hz0 : ((wr.alloc (.cells (colA 0 0) 47)).setRow wr.heap.size (colA t 32)).heap[wr.heap.size]? = some (.cells (colA t 32) 47 (0, 0)) := setRow_heap _ _ _ _ _ _ (heap_alloc_new _ _)
        have hz1 : ((wr.alloc (.cells (colA 0 0) 47)).setRow wr.heap.size (colA t 32)).heap[w1.heap.size]? = some (.cells (sqA t 0) 47 (0, 0)) := by
          rw [setRow_other _ _ _ _ (by omega), Below.heap_alloc _ _ _ hBsz, sqA_zero]; exact HB.out
        have hz2 : Below w.heap.size w ((wr.alloc (.cells (colA 0 0) 47)).setRow wr.heap.size (colA t 32)) := below_setRow (hbel.alloc hbel.size _) hbel.size _
        rw [colA_none] at hz0 hz1 hz2
        obtain ⟨wo, hwo⟩ : ∃ wo, wo = wr.heap.size := ⟨_, rfl⟩
        have hwlt : w1.heap.size < wo := by omega
        rw [← hwo] at hz0 hz1 hz2 ⊢
        go_loopw [19] (fun i wq => ∃ k : Nat, i = .int .i64 k ∧ k ≤ 32 ∧ wq.heap[wo]? = some (.cells (colA t 32) 47 (0, 0)) ∧ wq.heap[w1.heap.size]? = some (.cells (sqA t k) 47 (0, 0)) ∧ Below w.heap.size w wq) (fun i _ => 32 - (intOf i).toNat)
        case atStart => exact ⟨0, rfl, by omega, hz0, hz1, hz2⟩
        case round =>
          clear hz0 hz1 hz2 hbel HB hBsz hwo
          obtain ⟨k, rfl, hk, hq0, hq1, hqb⟩ := hrel
          by_cases hk32 : k < 32
          · have hl1 := col_lt t k hk32
            have hc1 : wr.cell? ⟨wo, k, none⟩ = some (Value.int .u32 (col t k : Nat)) := cols_of_block hq0 k hk32
            have hc2 : wr.cell? ⟨w1.heap.size, k, none⟩ = some (Value.int .u32 (col t k : Nat)) := by
              rw [cell_of_row _ _ _ _ _ _ hq1, sqA_get t k k hk32, if_neg (by omega)]; rfl
            have hf2 : wr.frozen? ⟨w1.heap.size, k, none⟩ = false := frozen_of_row _ _ _ _ _ hq1
            have H0 := Lib.hid hq0
            have H1 := Lib.hid hq1
            have HE := Lib.hid (col_col t k)
            clear hq0 hq1
            go_wp2_with (go_at_call 28; refine (of_map _ t _ hl1 _ (cols_of_block H0.out)).mono ?_; rintro e w' ⟨rfl, rfl⟩)
            go_roundw
            case rel =>
              refine ⟨k + 1, by go_num, by omega, ?_, ?_, hqb.setCell (by exact hB) _⟩
              · rw [heap_setCell_other _ _ _ _ (by simp; omega)]; exact H0.out
              · rw [heap_setCell_same _ _ _ _ _ _ H1.out, HE.out, ← sqA_set t k hk32]; rfl
            case measure => simp [intOf]; omega
          · have hk2 : k = 32 := by omega
            rw [hk2, sqA_full] at hq1
            clear hk2
            go_wp2
            go_roundw
            case rel => exact ⟨t + t, Crc.iter Crc.bit t rv, nv / 2, rfl, by go_num, hr2, by omega, HP.out, hq1, hqb⟩
            case measure => simp [intOf]; omega
      · have HP := Lib.hid (hP.even ho)
        rw [show nv % 2 = 0 by omega] at ha
        clear hP hblk
        have ha' : bits .and .i64 (nv : Int) 1 = 0 := ha
        clear ha ho
        go_wp2_with (first | refine wpList_load_row rfl 47 (.tmp 5) rfl w1.heap.size rfl 47 (colA t 32) (0, 0) _ HB.out Try.underlying47 rfl (by rw [colA_size]; kernel_rfl) ?_ | refine wpList_store_row rfl 47 (.tmp 6) (.tmp 18) rfl wr.heap.size (colA t 32) rfl rfl 47 (colA 0 0) (by rw [colA_none]; exact heap_alloc_new _ _) (by rw [colA_size]; kernel_rfl) (by rw [colA_size, colA_size]) (colA_one _ _) ?_)
        have hz0 : ((wr.alloc (.cells (colA 0 0) 47)).setRow wr.heap.size (colA t 32)).heap[wr.heap.size]? = some (.cells (colA t 32) 47 (0, 0)) := setRow_heap _ _ _ _ _ _ (heap_alloc_new _ _)
        have hz1 : ((wr.alloc (.cells (colA 0 0) 47)).setRow wr.heap.size (colA t 32)).heap[w1.heap.size]? = some (.cells (sqA t 0) 47 (0, 0)) := by
          rw [setRow_other _ _ _ _ (by omega), Below.heap_alloc _ _ _ hBsz, sqA_zero]; exact HB.out
        have hz2 : Below w.heap.size w ((wr.alloc (.cells (colA 0 0) 47)).setRow wr.heap.size (colA t 32)) := below_setRow (hbel.alloc hbel.size _) hbel.size _
        rw [colA_none] at hz0 hz1 hz2
        obtain ⟨wo, hwo⟩ : ∃ wo, wo = wr.heap.size := ⟨_, rfl⟩
        have hwlt : w1.heap.size < wo := by omega
        rw [← hwo] at hz0 hz1 hz2 ⊢
        go_loopw [19] (fun i wq => ∃ k : Nat, i = .int .i64 k ∧ k ≤ 32 ∧ wq.heap[wo]? = some (.cells (colA t 32) 47 (0, 0)) ∧ wq.heap[w1.heap.size]? = some (.cells (sqA t k) 47 (0, 0)) ∧ Below w.heap.size w wq) (fun i _ => 32 - (intOf i).toNat)
        case atStart => exact ⟨0, rfl, by omega, hz0, hz1, hz2⟩
        case round =>
          clear hz0 hz1 hz2 hbel HB hBsz hwo
          obtain ⟨k, rfl, hk, hq0, hq1, hqb⟩ := hrel
          by_cases hk32 : k < 32
          · have hl1 := col_lt t k hk32
            have hc1 : wr.cell? ⟨wo, k, none⟩ = some (Value.int .u32 (col t k : Nat)) := cols_of_block hq0 k hk32
            have hc2 : wr.cell? ⟨w1.heap.size, k, none⟩ = some (Value.int .u32 (col t k : Nat)) := by
              rw [cell_of_row _ _ _ _ _ _ hq1, sqA_get t k k hk32, if_neg (by omega)]; rfl
            have hf2 : wr.frozen? ⟨w1.heap.size, k, none⟩ = false := frozen_of_row _ _ _ _ _ hq1
            have H0 := Lib.hid hq0
            have H1 := Lib.hid hq1
            have HE := Lib.hid (col_col t k)
            clear hq0 hq1
            go_wp2_with (go_at_call 28; refine (of_map _ t _ hl1 _ (cols_of_block H0.out)).mono ?_; rintro e w' ⟨rfl, rfl⟩)
            go_roundw
            case rel =>
              refine ⟨k + 1, by go_num, by omega, ?_, ?_, hqb.setCell (by exact hB) _⟩
              · rw [heap_setCell_other _ _ _ _ (by simp; omega)]; exact H0.out
              · rw [heap_setCell_same _ _ _ _ _ _ H1.out, HE.out, ← sqA_set t k hk32]; rfl
            case measure => simp [intOf]; omega
          · have hk2 : k = 32 := by omega
            rw [hk2, sqA_full] at hq1
            clear hk2
            go_wp2
            go_roundw
            case rel => exact ⟨t + t, rv, nv / 2, rfl, by go_num, hrv, by omega, HP.out, hq1, hqb⟩
            case measure => simp [intOf]; omega
    · have hD := hP.done (by omega)
      have HD := Lib.hid hD
      have hz : nv = 0 := by omega
      subst hz
      clear hP hblk hD
      go_wp2
      go_ret
      exact ⟨by rw [← HD.out]; rfl, hbel⟩

theorem shift_neg (r : Nat) (n : Int) (hn : n ≤ 0) (w : World) :
    Calls Try.prog 25 #[.int .u32 r, .int .i64 n] w fun e w' => e = .returned (.int .u32 r) ∧ Below w.heap.size w w' := by
  go_enter Try.func25, Try.ntmps25
  go_wp2_with fail
  refine (octet_any _).mono ?_
  rintro e w1 ⟨rfl, hb1⟩
  go_wp2_with (refine wpList_store_row rfl 47 (.tmp 5) (.tmp 8) rfl w1.heap.size (colA 8 32) rfl rfl 47 (colA 0 0) (by rw [colA_none]; exact heap_alloc_new _ _) (by rw [colA_size]; kernel_rfl) (by rw [colA_size, colA_size]) (colA_one _ _) ?_)
  have hB : w.heap.size ≤ w1.heap.size := hb1.size
  have hbel0 : Below w.heap.size w ((w1.alloc (.cells (colA 0 0) 47)).setRow w1.heap.size (colA 8 32)) := below_setRow (hb1.alloc hB _) hB _
  rw [colA_none] at hbel0
  simp only [Act.put, List.setIfInBounds_toArray, List.set_cons_succ, List.set_cons_zero]
  have hn' : ¬ (0 < n) := by omega
  refine wp_loop_rounds 1 ?_
  rw [rounds_succ]
  go_wp2
  go_ret
  exact ⟨rfl, hbel0⟩

theorem shift_any (r : Nat) (n : Int) (hr : r < 4294967296) (hn : (Lit.int .i64 n).wf = true) (w : World) :
    Calls Try.prog 25 #[.int .u32 r, .int .i64 n] w fun e w' => e = .returned (.int .u32 (Crc.shift r n.toNat : Nat)) ∧ Below w.heap.size w w' := by
  by_cases h : n ≤ 0
  · rw [show n.toNat = 0 by omega]; exact shift_neg r n h w
  · have h2 : n ≤ 9223372036854775807 := by
      have : -9223372036854775808 ≤ n ∧ n ≤ 9223372036854775807 := by simpa [Lit.wf, IntKind.min, IntKind.max, IntKind.signed, IntKind.bits] using hn
      exact this.2
    have := shift_pos r n.toNat hr (by omega) w
    rwa [show ((n.toNat : Nat) : Int) = n by omega] at this
end Go.Proofs.Ytgibkalcfdgklaa
