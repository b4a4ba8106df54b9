/- Walks: NetBound. -/
import Derived.Test.YtpgioccbnkcjcaaN9
import Derived.Laws.Bits128
namespace Go.Proofs.Ytpgioccbnkcjcaa
open Go.RowKit Mk

theorem i64_and3 (n : Int) : bits .and .i64 n 3 = n % 4 := by
  have h127 : (BitVec.ofInt 64 3).toNat = 2 ^ 2 - 1 := by decide
  have key : (BitVec.ofInt 64 n &&& BitVec.ofInt 64 3).toNat = (n % ((2 ^ 64 : Nat) : Int)).toNat % 2 ^ 2 := by
    rw [BitVec.toNat_and, BitVec.toNat_ofInt, h127, Nat.and_two_pow_sub_one_eq_mod]
  show IntKind.i64.wrap ((BitVec.ofInt 64 n &&& BitVec.ofInt 64 3).toNat : Nat) = n % 4
  rw [key, IntKind.wrap_i64]
  omega
theorem i64_and1 (n : Int) : bits .and .i64 n 1 = n % 2 := by
  have h127 : (BitVec.ofInt 64 1).toNat = 2 ^ 1 - 1 := by decide
  have key : (BitVec.ofInt 64 n &&& BitVec.ofInt 64 1).toNat = (n % ((2 ^ 64 : Nat) : Int)).toNat % 2 ^ 1 := by
    rw [BitVec.toNat_and, BitVec.toNat_ofInt, h127, Nat.and_two_pow_sub_one_eq_mod]
  show IntKind.i64.wrap ((BitVec.ofInt 64 n &&& BitVec.ofInt 64 1).toNat : Nat) = n % 2
  rw [key, IntKind.wrap_i64]
  omega

theorem double_is {w : World} {b : Nat} {F : Nat → Prop} {n : NetM} (h : NetIs w b F n) (i k j : Int) (hi : i64 i) (hk : i64 k) (hj : i64 j) :
    Calls Try.prog 11 #[.pointer (some ⟨b, 0, none⟩), .int .i64 i, .int .i64 k, .int .i64 j] w fun e w' => e = .returned (.int .i64 (doubleM n i k j).2) ∧ NetIs w' b (fun g => F g ∨ w.heap.size ≤ g) (doubleM n i k j).1 ∧ Chg F w w' := by
  obtain ⟨r, mb, L, h⟩ := h
  exact double_any h i k j hi hk hj
theorem drop_is {w : World} {b : Nat} {F : Nat → Prop} {n : NetM} (h : NetIs w b F n) (i k j : Int) (hi : i64 i) (hk : i64 k) (hj : i64 j) :
    Calls Try.prog 12 #[.pointer (some ⟨b, 0, none⟩), .int .i64 i, .int .i64 k, .int .i64 j] w fun e w' => e = .returned (.int .i64 (dropM n i k j).2) ∧ NetIs w' b (fun g => F g ∨ w.heap.size ≤ g) (dropM n i k j).1 ∧ Chg F w w' := by
  obtain ⟨r, mb, L, h⟩ := h
  exact drop_any h i k j hi hk hj

def msgsB : Nat → List Msg
  | 0 => []
  | k + 1 => msgsB k ++ [⟨1, 1 + (k : Int) % 2, ⟨#[]⟩⟩]
theorem msgsB_len (k : Nat) : (msgsB k).length = k := by
  induction k with
  | zero => rfl
  | succ k ih => simp [msgsB, ih]
theorem msgsB_q (k : Nat) : ∃ r, q (msgsB (k + 1)) (1, 1) = ⟨#[]⟩ :: r := by
  induction k with
  | zero => exact ⟨[], rfl⟩
  | succ k ih =>
    obtain ⟨r, hr⟩ := ih
    rw [msgsB, q_send]
    split
    · exact ⟨r ++ [⟨#[]⟩], by rw [hr]; rfl⟩
    · exact ⟨r, hr⟩

theorem evB1 (ms : List Mach) (h : ms.length = 2) (k : Nat) (hk : k < 16384) : sendM ⟨ms, msgsB k⟩ 1 (1 + (k : Int) % 2) ⟨#[]⟩ = (⟨ms, msgsB (k + 1)⟩, 0) := by
  unfold sendM
  have h1 : (may 2 1 && may 2 (1 + (k : Int) % 2)) = true := by simp [may]; omega
  simp only [h, h1, msgsB_len]
  rw [if_neg (by decide), if_neg (by decide), if_neg (by omega)]
  rfl
theorem evB2 (ms : List Mach) (h : ms.length = 2) (s : ByteArray) (hs : s.size ≤ 1) (a b : Int) (hab : (may 2 a && may 2 b) = true) : sendM ⟨ms, msgsB 16384⟩ a b s = (⟨ms, msgsB 16384⟩, 6) := by
  unfold sendM
  simp only [h, hab, msgsB_len]
  rw [if_neg (by decide), if_neg (by omega), if_pos (by decide)]
theorem evB3 (ms : List Mach) (h : ms.length = 2) : peekM ⟨ms, msgsB 16384⟩ 1 1 0 = (⟨#[]⟩, 0) := by
  obtain ⟨r, hr⟩ := msgsB_q 16383
  unfold peekM
  have h1 : (may 2 1 && may 2 1) = true := by decide
  simp only [h, h1, hr]
  simp
theorem evB4 (ms : List Mach) (h : ms.length = 2) : doubleM ⟨ms, msgsB 16384⟩ 1 1 0 = (⟨ms, msgsB 16384⟩, 6) := by
  unfold doubleM
  rw [evB3 ms h, if_pos rfl, evB2 ms h _ (by decide) 1 1 (by decide)]
theorem evB5 (ms : List Mach) (h : ms.length = 2) : ∃ l, l.length = 16383 ∧ dropM ⟨ms, msgsB 16384⟩ 1 1 0 = (⟨ms, l⟩, 0) := by
  obtain ⟨r, hr⟩ := msgsB_q 16383
  refine ⟨dropL (msgsB 16384) (1, 1) 0, ?_, ?_⟩
  · have := drop_len (msgsB 16384) (1, 1) 0 (by rw [hr]; simp)
    rw [msgsB_len] at this
    omega
  · unfold dropM
    rw [evB3 ms h, if_pos rfl]
    rfl
theorem evB6 (ms : List Mach) (h : ms.length = 2) (l : List Msg) (hl : l.length = 16383) : (sendM ⟨ms, l⟩ 2 1 ⟨#[120]⟩).2 = 0 := by
  unfold sendM
  have h1 : (may 2 2 && may 2 1) = true := by decide
  simp only [h, h1, hl]
  rfl

theorem info5 : (Try.prog.info? 5).map (fun i => (i.zero, i.size, i.bytes)) = some (some (.int .u8 0), 1, 1) := by kernel_rfl

set_option maxRecDepth 100000 in
set_option maxHeartbeats 1000000 in
theorem walkNetBoundLong (more : Int) (hm : i64 more) (w : World) : Calls Try.prog 3 #[.int .i64 more, .bool true] w fun e w' => e = .returned (.bool true) ∧ Chg (fun _ => False) w w' := by
  have hb := i64_and3 more
  obtain ⟨c, hc⟩ : ∃ c : Nat, more % 4 = c := ⟨(more % 4).toNat, by omega⟩
  have hc4 : c < 4 := by omega
  rw [hc] at hb
  clear hc hm
  have hmk := run_make_row' (P := Try.prog) 27 5 (.int .u8 0) 1 Try.underlying27 info5 rfl .i64 .i64 (4194303 + c) (by omega) (by omega)
  have e1 : (4194304 + (c : Int) - 1) = ((4194303 + c : Nat) : Int) := by omega
  have hlen : (List.replicate (4194303 + c) (0 : UInt8)).length = 4194303 + c := by simp
  have E7 : ∀ s : ByteArray, s.size = 4194303 + c → sendM (newM 2 1) 1 2 s = if 4194304 < 4194303 + c then (newM 2 1, 4) else (⟨msN 2 1 2, [⟨1, 2, s⟩]⟩, 0) := fun s hs => by
    unfold sendM
    have h1 : (may (newM 2 1).ms.length 1 && may (newM 2 1).ms.length 2) = true := by simp [newM, msN_len, may]
    rw [h1, hs, if_neg (by decide)]
    rfl
  have HE := Lib.hid E7
  clear E7
  go_enter Try.func3, Try.ntmps3
  go_wp2_with fail
  refine (new_any w 2 1 (by decide) (by decide) (by decide)).mono ?_
  rintro e w0 ⟨b, rfl, hn, hc⟩
  have HN := Lib.hid (hn.stay (w' := w0.alloc (.cells (madeCells #[.int .u8 0] (4194303 + c)) 5)) (G := fun _ => False) ((Chg.refl _ _).alloc _) (fun _ _ h => h))
  have HC := Lib.hid (hc.alloc (.cells (madeCells #[.int .u8 0] (4194303 + c)) 5))
  have hcv := run_convert_bytes_back (P := Try.prog) (w0.alloc (.cells (madeCells #[.int .u8 0] (4194303 + c)) 5)) 27 9 5 ⟨w0.heap.size, 0, none⟩ (4194303 + c) (List.replicate (4194303 + c) 0) Try.underlying27 Try.underlying5 Try.underlying9 (fun j hj => by
    have hj' : j < 4194303 + c := by simpa using hj
    have : (⟨w0.heap.size, 0, none⟩ : Addr).add j = ⟨w0.heap.size, j, none⟩ := by unfold Addr.add; split <;> simp_all
    rw [this]
    refine cell_of (Go.heap_alloc_new _ _) ?_
    simp [madeCells, hj', Nat.mod_one])
  rw [hlen] at hcv
  have hss : (⟨(List.replicate (4194303 + c) (0 : UInt8)).toArray⟩ : ByteArray).size = 4194303 + c := by show (List.replicate (4194303 + c) (0 : UInt8)).toArray.size = _; simp
  generalize (⟨(List.replicate (4194303 + c) (0 : UInt8)).toArray⟩ : ByteArray) = s at *
  have HE2 := Lib.hid (HE.out s hss)
  clear hn hc hss HE hlen
  obtain ⟨N, hN⟩ : ∃ N, 4194303 + c = N := ⟨_, rfl⟩
  rw [hN] at hmk e1 hcv HN HC HE2
  have hN3 : N < 4194307 := by omega
  by_cases hbig : 4194304 < N
  · rw [if_pos hbig] at HE2
    have hle : decide ((N : Int) ≤ 4194304) = false := by simp; omega
    clear hN hbig hc4
    generalize hW : w0.alloc (.cells (madeCells #[.int .u8 0] N) 5) = W at *
    have hmk0 := hmk w0
    rw [hW] at hmk0
    clear hmk
    go_wp2_with fail
    refine (send_is HN.out 1 2 s (by decide) (by decide)).mono ?_
    rintro e w1 ⟨rfl, hn, hc⟩
    rw [HE2.out]
    have HC1 := Lib.hid (HC.out.trans' hc (fun g h => Or.inr h))
    clear hn hc
    go_wp2_with fail
    refine (alive_any w1).mono ?_
    rintro e w2 ⟨rfl, hc⟩
    have HC2 := Lib.hid (HC1.out.trans hc)
    clear hc
    go_wp2
    go_ret
    exact ⟨rfl, HC2.out⟩
  · rw [if_neg hbig] at HE2
    have hle : decide ((N : Int) ≤ 4194304) = true := by simp; omega
    clear hN hbig hc4
    generalize hW : w0.alloc (.cells (madeCells #[.int .u8 0] N) 5) = W at *
    have hmk0 := hmk w0
    rw [hW] at hmk0
    clear hmk
    go_wp2_with fail
    refine (send_is HN.out 1 2 s (by decide) (by decide)).mono ?_
    rintro e w1 ⟨rfl, hn, hc⟩
    rw [HE2.out]
    have HC1 := Lib.hid (HC.out.trans' hc (fun g h => Or.inr h))
    clear hn hc
    go_wp2_with fail
    refine (alive_any w1).mono ?_
    rintro e w2 ⟨rfl, hc⟩
    have HC2 := Lib.hid (HC1.out.trans hc)
    clear hc
    go_wp2
    go_ret
    exact ⟨rfl, HC2.out⟩
end Go.Proofs.Ytpgioccbnkcjcaa
