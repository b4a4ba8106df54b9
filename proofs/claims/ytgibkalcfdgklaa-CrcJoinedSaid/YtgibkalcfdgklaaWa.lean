/- Walks: shifted, Noughts, Join; the laws CrcNoughts, CrcJoined. -/
import Derived.Test.YtgibkalcfdgklaaW9
namespace Go.Proofs.Ytgibkalcfdgklaa
open Go.RowKit

theorem cols_of_slice {w : World} {b t : Nat} {e : TypeId} (h : w.heap[b]? = some (.cells (colA t 32) e (0, 0))) : ∀ i, i < 32 → w.cell? ⟨b, i, none⟩ = some (colV t i) :=
  fun i hi => by rw [cell_of_row w b i _ e (0, 0) h, colA_full t i hi]

theorem make32 (w : World) : (Instr.makeSlice 49 (.int .i64 32) (.int .i64 32)).run Try.prog w = .ok (.slice (some ⟨w.heap.size, 0, none⟩) 32 32) (w.alloc (.cells (Array.replicate 32 (Value.int .u32 0)) 22)) := by kernel_rfl

theorem step_col (k : Nat) : Crc.step (2 ^ k) 0 = col 8 k := by unfold Crc.step col; simp only [Nat.xor_zero, Crc.byte0]

set_option maxHeartbeats 2000000 in
theorem shifted_pos (r n : Nat) (hr : r < 4294967296) (hn : n ≤ 9223372036854775807) (w : World) :
    Calls Try.prog 26 #[.int .u32 r, .int .i64 n] w fun e w' => e = .returned (.int .u32 (Crc.shift r n : Nat)) ∧ Below w.heap.size w w' := by
  have hmk := make32
  go_enter Try.func26, Try.ntmps26
  go_wp2_with fail
  go_loopw [6] (fun i wr => ∃ k : Nat, i = .int .i64 k ∧ k ≤ 32 ∧ wr = w.alloc (.cells (colA 8 k) 22)) (fun i _ => 32 - (intOf i).toNat)
  case atStart => exact ⟨0, rfl, by omega, by rw [colA_none]⟩
  case round =>
    obtain ⟨k, rfl, hk, rfl⟩ := hrel
    by_cases hk32 : k < 32
    · have hp : 2 ^ k < 4294967296 := Nat.lt_of_lt_of_le (Nat.pow_lt_pow_right (by decide) hk32) (by decide)
      obtain ⟨y, hy⟩ : ∃ y, 2 ^ k = y := ⟨_, rfl⟩
      have e0 : ((2 : Int) ^ k % 4294967296) = (y : Int) := by
        rw [show ((2 : Int) ^ k) = ((2 ^ k : Nat) : Int) by simp, hy]; omega
      have HY : Hid (Crc.step y 0 = col 8 k) := by rw [← hy]; exact step_col k
      rw [hy] at hp
      clear hy
      have hcv : (colA 8 k)[k]? = some (Value.int .u32 0) := by rw [colA_get 8 k k hk32, if_neg (by omega)]
      have HS := Lib.hid (colA_set 8 k hk32)
      go_wp2_with (go_at_call 22; refine (step_any y 0 hp (by decide) _).mono ?_; rintro e w' ⟨rfl, rfl⟩)
      go_roundw
      case rel => exact ⟨k + 1, by go_num, by omega, by rw [HY.out, ← HS.out]; rfl⟩
      case measure => simp [intOf]; omega
    · have h32 : k = 32 := by omega
      subst h32
      go_wp2
      rw [show ((32 : Nat) : Int) = 32 from rfl]
      go_loopw [0, 1, 5] (fun r' n' m' wr => ∃ t rv nv bm : Nat, r' = .int .u32 rv ∧ n' = .int .i64 nv ∧ m' = .slice (some ⟨bm, 0, none⟩) 32 32 ∧ rv < 4294967296 ∧ nv ≤ 9223372036854775807 ∧ Powed t nv rv r n ∧
          wr.heap[bm]? = some (.cells (colA t 32) 22 (0, 0)) ∧ Below w.heap.size w wr) (fun _ n' _ _ => (intOf n').toNat)
      case atStart => exact ⟨8, r, n, w.heap.size, rfl, rfl, rfl, hr, hn, Powed.start r n, heap_alloc_new _ _, (Below.refl _ _).alloc (Nat.le_refl _) _⟩
      case round =>
        obtain ⟨t, rv, nv, bm, rfl, rfl, rfl, hrv, hnv, hP, hblk, hbel⟩ := hrel
        have HB := Lib.hid hblk
        have hBsz : bm < wr.heap.size := by
          have := (Array.getElem?_eq_some_iff.1 hblk).1; exact this
        by_cases h0 : 0 < nv
        · have ha := and1_i64 nv (by omega)
          have hd0 : decide ((0 : Int) < (nv : Int)) = true := by simp; omega
          by_cases ho : nv % 2 = 1
          · have HP := Lib.hid (hP.odd ho)
            have hr2 := Crc.iter_lt t hrv
            rw [ho] at ha
            clear hP hblk
            have ha' : bits .and .i64 (nv : Int) 1 = 1 := ha
            clear ha ho
            go_wp2_with (go_at_call 29; refine (times_map _ t _ _ hrv _ (cols_of_slice HB.out)).mono ?_; rintro e w' ⟨rfl, rfl⟩)
            rw [← colA_none (t + t)]
            have hz0 : (wr.alloc (.cells (colA (t + t) 0) 22)).heap[wr.heap.size]? = some (.cells (colA (t + t) 0) 22 (0, 0)) := heap_alloc_new _ _
            have hz1 : (wr.alloc (.cells (colA (t + t) 0) 22)).heap[bm]? = some (.cells (colA t 32) 22 (0, 0)) := by
              rw [Below.heap_alloc _ _ _ hBsz]; exact HB.out
            have hz2 : Below w.heap.size w (wr.alloc (.cells (colA (t + t) 0) 22)) := hbel.alloc hbel.size _
            have hzB := hbel.size
            rw [colA_none] at hz0 hz1 hz2
            rw [colA_none]
            obtain ⟨wo, hwo⟩ : ∃ wo, wo = wr.heap.size := ⟨_, rfl⟩
            have hwlt : bm < wo := by omega
            have hwB : w.heap.size ≤ wo := by omega
            rw [← hwo] at hz0 ⊢
            go_loopw [8] (fun i wq => ∃ k : Nat, i = .int .i64 k ∧ k ≤ 32 ∧ wq.heap[bm]? = some (.cells (colA t 32) 22 (0, 0)) ∧ wq.heap[wo]? = some (.cells (colA (t + t) k) 22 (0, 0)) ∧ Below w.heap.size w wq) (fun i _ => 32 - (intOf i).toNat)
            case atStart => exact ⟨0, rfl, by omega, hz1, by rw [colA_none]; exact hz0, hz2⟩
            case round =>
              clear hz0 hz1 hz2 hbel HB hBsz hwo hzB
              obtain ⟨k, rfl, hk, hq0, hq1, hqb⟩ := hrel
              by_cases hk32 : k < 32
              · have hl1 := col_lt t k hk32
                have hc1 : wr.cell? ⟨bm, k, none⟩ = some (Value.int .u32 (col t k : Nat)) := cols_of_slice hq0 k hk32
                have hc2 : wr.cell? ⟨wo, k, none⟩ = some (Value.int .u32 0) := by
                  rw [cell_of_row _ _ _ _ _ _ hq1, colA_get (t + t) k k hk32, if_neg (by omega)]
                have hf2 : wr.frozen? ⟨wo, k, none⟩ = false := frozen_of_row _ _ _ _ _ hq1
                have H0 := Lib.hid hq0
                have H1 := Lib.hid hq1
                have HE := Lib.hid (col_col t k)
                clear hq0 hq1
                go_wp2_with (go_at_call 29; refine (times_map _ t _ _ hl1 _ (cols_of_slice H0.out)).mono ?_; rintro e w' ⟨rfl, rfl⟩)
                go_roundw
                case rel =>
                  refine ⟨k + 1, by go_num, by omega, ?_, ?_, hqb.setCell (by exact hwB) _⟩
                  · rw [heap_setCell_other _ _ _ _ (by simp; omega)]; exact H0.out
                  · rw [heap_setCell_same _ _ _ _ _ _ H1.out, HE.out, ← colA_set (t + t) k hk32]; rfl
                case measure => simp [intOf]; omega
              · have hk2 : k = 32 := by omega
                rw [hk2] at hq1
                clear hk2
                go_wp2
                go_roundw
                case rel => exact ⟨t + t, Crc.iter Crc.bit t rv, nv / 2, wo, rfl, by go_num, rfl, hr2, by omega, HP.out, hq1, hqb⟩
                case measure => simp [intOf]; omega
          · have HP := Lib.hid (hP.even ho)
            rw [show nv % 2 = 0 by omega] at ha
            clear hP hblk
            have ha' : bits .and .i64 (nv : Int) 1 = 0 := ha
            clear ha ho
            go_wp2
            rw [← colA_none (t + t)]
            have hz0 : (wr.alloc (.cells (colA (t + t) 0) 22)).heap[wr.heap.size]? = some (.cells (colA (t + t) 0) 22 (0, 0)) := heap_alloc_new _ _
            have hz1 : (wr.alloc (.cells (colA (t + t) 0) 22)).heap[bm]? = some (.cells (colA t 32) 22 (0, 0)) := by
              rw [Below.heap_alloc _ _ _ hBsz]; exact HB.out
            have hz2 : Below w.heap.size w (wr.alloc (.cells (colA (t + t) 0) 22)) := hbel.alloc hbel.size _
            have hzB := hbel.size
            rw [colA_none] at hz0 hz1 hz2
            rw [colA_none]
            obtain ⟨wo, hwo⟩ : ∃ wo, wo = wr.heap.size := ⟨_, rfl⟩
            have hwlt : bm < wo := by omega
            have hwB : w.heap.size ≤ wo := by omega
            rw [← hwo] at hz0 ⊢
            go_loopw [8] (fun i wq => ∃ k : Nat, i = .int .i64 k ∧ k ≤ 32 ∧ wq.heap[bm]? = some (.cells (colA t 32) 22 (0, 0)) ∧ wq.heap[wo]? = some (.cells (colA (t + t) k) 22 (0, 0)) ∧ Below w.heap.size w wq) (fun i _ => 32 - (intOf i).toNat)
            case atStart => exact ⟨0, rfl, by omega, hz1, by rw [colA_none]; exact hz0, hz2⟩
            case round =>
              clear hz0 hz1 hz2 hbel HB hBsz hwo hzB
              obtain ⟨k, rfl, hk, hq0, hq1, hqb⟩ := hrel
              by_cases hk32 : k < 32
              · have hl1 := col_lt t k hk32
                have hc1 : wr.cell? ⟨bm, k, none⟩ = some (Value.int .u32 (col t k : Nat)) := cols_of_slice hq0 k hk32
                have hc2 : wr.cell? ⟨wo, k, none⟩ = some (Value.int .u32 0) := by
                  rw [cell_of_row _ _ _ _ _ _ hq1, colA_get (t + t) k k hk32, if_neg (by omega)]
                have hf2 : wr.frozen? ⟨wo, k, none⟩ = false := frozen_of_row _ _ _ _ _ hq1
                have H0 := Lib.hid hq0
                have H1 := Lib.hid hq1
                have HE := Lib.hid (col_col t k)
                clear hq0 hq1
                go_wp2_with (go_at_call 29; refine (times_map _ t _ _ hl1 _ (cols_of_slice H0.out)).mono ?_; rintro e w' ⟨rfl, rfl⟩)
                go_roundw
                case rel =>
                  refine ⟨k + 1, by go_num, by omega, ?_, ?_, hqb.setCell (by exact hwB) _⟩
                  · rw [heap_setCell_other _ _ _ _ (by simp; omega)]; exact H0.out
                  · rw [heap_setCell_same _ _ _ _ _ _ H1.out, HE.out, ← colA_set (t + t) k hk32]; rfl
                case measure => simp [intOf]; omega
              · have hk2 : k = 32 := by omega
                rw [hk2] at hq1
                clear hk2
                go_wp2
                go_roundw
                case rel => exact ⟨t + t, rv, nv / 2, wo, rfl, by go_num, rfl, hrv, by omega, HP.out, hq1, hqb⟩
                case measure => simp [intOf]; omega
        · have hD := hP.done (by omega)
          have HD := Lib.hid hD
          have hz : nv = 0 := by omega
          subst hz
          clear hP hblk hD
          go_wp2
          go_ret
          exact ⟨by rw [← HD.out]; rfl, hbel⟩

theorem shifted_neg (r : Nat) (n : Int) (hn : n ≤ 0) (w : World) :
    Calls Try.prog 26 #[.int .u32 r, .int .i64 n] w fun e w' => e = .returned (.int .u32 r) ∧ Below w.heap.size w w' := by
  have hmk := make32
  have hn' : ¬ (0 < n) := by omega
  go_enter Try.func26, Try.ntmps26
  go_wp2_with fail
  go_loopw [6] (fun i wr => ∃ k : Nat, i = .int .i64 k ∧ k ≤ 32 ∧ wr = w.alloc (.cells (colA 8 k) 22)) (fun i _ => 32 - (intOf i).toNat)
  case atStart => exact ⟨0, rfl, by omega, by rw [colA_none]⟩
  case round =>
    obtain ⟨k, rfl, hk, rfl⟩ := hrel
    by_cases hk32 : k < 32
    · have hp : 2 ^ k < 4294967296 := Nat.lt_of_lt_of_le (Nat.pow_lt_pow_right (by decide) hk32) (by decide)
      obtain ⟨y, hy⟩ : ∃ y, 2 ^ k = y := ⟨_, rfl⟩
      have e0 : ((2 : Int) ^ k % 4294967296) = (y : Int) := by
        rw [show ((2 : Int) ^ k) = ((2 ^ k : Nat) : Int) by simp, hy]; omega
      have HY : Hid (Crc.step y 0 = col 8 k) := by rw [← hy]; exact step_col k
      rw [hy] at hp
      clear hy
      have hcv : (colA 8 k)[k]? = some (Value.int .u32 0) := by rw [colA_get 8 k k hk32, if_neg (by omega)]
      have HS := Lib.hid (colA_set 8 k hk32)
      go_wp2_with (go_at_call 22; refine (step_any y 0 hp (by decide) _).mono ?_; rintro e w' ⟨rfl, rfl⟩)
      go_roundw
      case rel => exact ⟨k + 1, by go_num, by omega, by rw [HY.out, ← HS.out]; rfl⟩
      case measure => simp [intOf]; omega
    · go_wp2
      refine wp_loop_rounds 1 ?_
      rw [rounds_succ]
      go_wp2
      go_ret
      exact ⟨rfl, (Below.refl _ _).alloc (Nat.le_refl _) _⟩

theorem shifted_any (r : Nat) (n : Int) (hr : r < 4294967296) (hn : (Lit.int .i64 n).wf = true) (w : World) :
    Calls Try.prog 26 #[.int .u32 r, .int .i64 n] w fun e w' => e = .returned (.int .u32 (Crc.shift r n.toNat : Nat)) ∧ Below w.heap.size w w' := by
  by_cases h : n ≤ 0
  · rw [show n.toNat = 0 by omega]; exact shifted_neg r n h w
  · have h2 : n ≤ 9223372036854775807 := by
      have : -9223372036854775808 ≤ n ∧ n ≤ 9223372036854775807 := by simpa [Lit.wf, IntKind.min, IntKind.max, IntKind.signed, IntKind.bits] using hn
      exact this.2
    have := shifted_pos r n.toNat hr (by omega) w
    rwa [show ((n.toNat : Nat) : Int) = n by omega] at this

/-- Noughts: of both. -/
def nou (r : Nat) (n : Int) : Nat := Crc.shift (r ^^^ Crc.ones) n.toNat ^^^ Crc.ones

theorem noughts_any (r : Nat) (n : Int) (hr : r < 4294967296) (hn : (Lit.int .i64 n).wf = true) (w : World) :
    Calls Try.prog 17 #[.int .u32 r, .int .i64 n] w fun e w' => e = .returned (.int .u32 (nou r n : Nat)) ∧ Below w.heap.size w w' := by
  have h0 := not32 r hr
  have hx0 := ones_lt hr
  have h1 := not32 _ (Crc.shift_lt n.toNat hx0)
  go_enter Try.func17, Try.ntmps17
  go_wp2_with fail
  refine (shift_any _ n hx0 hn _).mono ?_
  rintro e w' ⟨rfl, hb⟩
  go_wp2_with fail
  go_ret
  exact ⟨rfl, hb⟩

theorem rnoughts_any (r : Nat) (n : Int) (hr : r < 4294967296) (hn : (Lit.int .i64 n).wf = true) (w : World) :
    Calls Try.prog 18 #[.int .u32 r, .int .i64 n] w fun e w' => e = .returned (.int .u32 (nou r n : Nat)) ∧ Below w.heap.size w w' := by
  have h0 := xor_ones r hr
  have hx0 := ones_lt hr
  have h1 := xor_ones _ (Crc.shift_lt n.toNat hx0)
  go_enter Try.func18, Try.ntmps18
  go_wp2_with fail
  refine (shifted_any _ n hx0 hn _).mono ?_
  rintro e w' ⟨rfl, hb⟩
  go_wp2_with fail
  go_ret
  exact ⟨rfl, hb⟩

theorem join_any (a b : Nat) (n : Int) (ha : a < 4294967296) (hb : b < 4294967296) (hn : (Lit.int .i64 n).wf = true) (w : World) :
    Calls Try.prog 19 #[.int .u32 a, .int .u32 b, .int .i64 n] w fun e w' => e = .returned (.int .u32 (Crc.shift a n.toNat ^^^ b : Nat)) ∧ Below w.heap.size w w' := by
  have h1 := u32_xor_nat _ b (Crc.shift_lt n.toNat ha) hb
  go_enter Try.func19, Try.ntmps19
  go_wp2_with fail
  refine (shift_any _ n ha hn _).mono ?_
  rintro e w' ⟨rfl, hb⟩
  go_wp2_with fail
  go_ret
  exact ⟨rfl, hb⟩

theorem rjoin_any (a b : Nat) (n : Int) (ha : a < 4294967296) (hb : b < 4294967296) (hn : (Lit.int .i64 n).wf = true) (w : World) :
    Calls Try.prog 20 #[.int .u32 a, .int .u32 b, .int .i64 n] w fun e w' => e = .returned (.int .u32 (Crc.shift a n.toNat ^^^ b : Nat)) ∧ Below w.heap.size w w' := by
  have h1 := u32_xor_nat _ b (Crc.shift_lt n.toNat ha) hb
  go_enter Try.func20, Try.ntmps20
  go_wp2_with fail
  refine (shifted_any _ n ha hn _).mono ?_
  rintro e w' ⟨rfl, hb⟩
  go_wp2_with fail
  go_ret
  exact ⟨rfl, hb⟩

set_option maxHeartbeats 1000000 in
theorem walkCrcNoughts (a0 : Int) (a1 : Int) (a2 : Int) (w0 : (Lit.int .u32 a0).wf = true) (w1 : (Lit.int .u32 a1).wf = true) (w2 : (Lit.int .i64 a2).wf = true) (w : World) :
    Calls Try.prog 6 #[.int .u32 a0, .int .u32 a1, .int .i64 a2] w fun e w' => e = .returned (.bool true) ∧ Below w.heap.size w w' := by
  obtain ⟨a, ha, rfl⟩ := u32_of w0
  obtain ⟨b, hb, rfl⟩ := u32_of w1
  go_enter Try.func6, Try.ntmps6
  go_wp2_with fail
  refine (noughts_any a a2 ha w2 _).mono ?_
  rintro e x1 ⟨rfl, h1⟩
  go_wp2_with fail
  refine (rnoughts_any a a2 ha w2 _).mono ?_
  rintro e x2 ⟨rfl, h2⟩
  go_wp2_with fail
  refine (join_any a b a2 ha hb w2 _).mono ?_
  rintro e x3 ⟨rfl, h3⟩
  go_wp2_with fail
  refine (rjoin_any a b a2 ha hb w2 _).mono ?_
  rintro e x4 ⟨rfl, h4⟩
  go_wp2_with fail
  refine (alive_any _).mono ?_
  rintro e x5 ⟨rfl, h5⟩
  go_wp2_with fail
  go_ret
  have k2 := h1.trans (h2.mono h1.size)
  have k3 := k2.trans (h3.mono k2.size)
  have k4 := k3.trans (h4.mono k3.size)
  exact ⟨rfl, k4.trans (h5.mono k4.size)⟩
end Go.Proofs.Ytgibkalcfdgklaa
