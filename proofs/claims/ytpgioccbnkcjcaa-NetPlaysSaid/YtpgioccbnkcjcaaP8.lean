/- New of the document's net. -/
import Derived.Test.YtpgioccbnkcjcaaPb
namespace Go.Proofs.Ytpgioccbnkcjcaa
open Go.RowKit Mk
theorem rnew_bad (w : World) (N : Int) (seed : Nat) (h : N < 1 ∨ 64 < N) :
    Calls Try.prog 20 #[.int .i64 N, .int .u64 seed] w fun e w' => e = .returned (.tuple #[.pointer none, .int .i64 2]) ∧ w' = w := by
  by_cases h0 : N < 1
  · have h0' : decide (N < 1) = true := by simpa using h0
    go_enter Try.func20, Try.ntmps20
    go_wp2
    go_ret2
    exact ⟨rfl, rfl⟩
  · have h0' : decide (N < 1) = false := by simpa using h0
    have h6' : decide (64 < N) = true := by simp; omega
    clear h h0
    go_enter Try.func20, Try.ntmps20
    go_wp2
    go_ret2
    exact ⟨rfl, rfl⟩
theorem made1 (z : Value) (hz : z.cells = #[z]) (N : Nat) : madeCells z.cells (N * 1) = Array.replicate N z := by
  apply Array.ext
  · simp [madeCells]
  · intro i h1 h2
    simp [madeCells, hz, Nat.mod_one]
theorem make_b (N : Nat) (hN : N ≤ 65) (v : World) : (Instr.makeSlice 81 (.int .i64 (N : Int)) (.int .i64 (N : Int))).run Try.prog v = .ok (.slice (some ⟨v.heap.size, 0, none⟩) N N) (v.alloc (.cells (Array.replicate N (.bool false)) 4)) := by
  obtain ⟨i, hi, hzz⟩ := Option.map_eq_some_iff.1 info4
  simp only [Prod.mk.injEq] at hzz
  obtain ⟨hz, hs, hb⟩ := hzz
  rw [run_make v 81 4 i _ Try.underlying81 hi hz .i64 .i64 _ _ (by omega) (by omega) (by rw [hb]; omega) (by omega), hs]
  simp only [Int.toNat_natCast]
  rw [made1 _ rfl]
theorem make_i (N : Nat) (hN : N ≤ 65) (v : World) : (Instr.makeSlice 33 (.int .i64 (N : Int)) (.int .i64 (N : Int))).run Try.prog v = .ok (.slice (some ⟨v.heap.size, 0, none⟩) N N) (v.alloc (.cells (Array.replicate N (.int .i64 0)) 3)) := by
  obtain ⟨i, hi, hzz⟩ := Option.map_eq_some_iff.1 info3j
  simp only [Prod.mk.injEq] at hzz
  obtain ⟨hz, hs, hb⟩ := hzz
  rw [run_make v 33 3 i _ Try.underlying33 hi hz .i64 .i64 _ _ (by omega) (by omega) (by rw [hb]; omega) (by omega), hs]
  simp only [Int.toNat_natCast]
  rw [made1 _ rfl]
theorem make_u (N : Nat) (hN : N ≤ 65) (v : World) : (Instr.makeSlice 82 (.int .i64 (N : Int)) (.int .i64 (N : Int))).run Try.prog v = .ok (.slice (some ⟨v.heap.size, 0, none⟩) N N) (v.alloc (.cells (Array.replicate N (.int .u64 0)) 26)) := by
  obtain ⟨i, hi, hzz⟩ := Option.map_eq_some_iff.1 info26j
  simp only [Prod.mk.injEq] at hzz
  obtain ⟨hz, hs, hb⟩ := hzz
  rw [run_make v 82 26 i _ Try.underlying82 hi hz .i64 .i64 _ _ (by omega) (by omega) (by rw [hb]; omega) (by omega), hs]
  simp only [Int.toNat_natCast]
  rw [made1 _ rfl]
theorem msN_map {α : Type} (f : Mach → α) (N seed : Nat) : (msN N seed 0).map f = List.replicate N (f ⟨0, 0, false⟩) := by
  apply List.ext_getElem
  · simp [msN]
  · intro i h1 h2; simp [msN]
theorem sN (N seed : Nat) : (Array.replicate (N + 1) (Value.bool false)).toList = scells (msN N seed 0) := by
  simp [scells, msN_map, List.replicate_succ]
theorem tN (N seed : Nat) : (Array.replicate (N + 1) (Value.int .i64 0)).toList = tcells (msN N seed 0) := by
  simp [tcells, msN_map, List.replicate_succ]
theorem dN (N seed : Nat) : (Array.replicate (N + 1) (Value.int .u64 0)).toList = dcells (msN N seed 0) := by
  simp [dcells, msN_map, List.replicate_succ]
theorem drew_heap (w : World) : w.drew.heap = w.heap := rfl
theorem alloc_heap (w : World) (o : Obj) : (w.alloc o).heap = w.heap.push o := rfl
theorem ref_fresh {w : World} {N seed B : Nat} (hN : 1 ≤ N ∧ N ≤ 64) {x sb tb db : Nat} (hx : w.heap[x]? = some (.cells #[.int .i64 N, .slice none 0 0, .slice (some ⟨sb, 0, none⟩) (N + 1 : Nat) (N + 1), .slice (some ⟨tb, 0, none⟩) (N + 1 : Nat) (N + 1), .slice (some ⟨db, 0, none⟩) (N + 1 : Nat) (N + 1)] 84))
    (hs : w.heap[sb]? = some (.cells (Array.replicate (N + 1) (.bool false)) 4)) (ht : w.heap[tb]? = some (.cells (Array.replicate (N + 1) (.int .i64 0)) 3)) (hd : w.heap[db]? = some (.cells (Array.replicate (N + 1) (.int .u64 0)) 26)) (hB : B ≤ x ∧ B ≤ sb ∧ B ≤ tb ∧ B ≤ db) :
    RefRep w x ⟨none, 0, sb, N + 1, tb, N + 1, db, N + 1⟩ (fun g => B ≤ g) ⟨msN N seed 0, []⟩ := by
  have hl : (⟨msN N seed 0, []⟩ : NetM).ms.length = N := msN_len _ _ _
  have q : ∀ (v : Value) (e : TypeId) (b : Nat), w.heap[b]? = some (.cells (Array.replicate (N + 1) v) e) → sl w e 1 (.slice (some ⟨b, 0, none⟩) (N + 1 : Nat) (N + 1)) (N + 1) (Array.replicate (N + 1) v).toList := fun v e b hb =>
    ⟨by simp, Or.inr ⟨b, N + 1, _, rfl, hb, Nat.le_refl _, by simp only [maxLen]; omega, by simp, by simp⟩⟩
  refine ⟨?_, ⟨by rfl, Or.inl ⟨by rfl, by rfl⟩⟩, ?_, ?_, ?_, ?_, by simp, hB.1, fun g o e => (by cases e), hB.2.1, hB.2.2.1, hB.2.2.2⟩
  · rw [hl]; exact hx
  · rw [hl, ← sN]; exact q _ _ _ hs
  · rw [hl, ← tN]; exact q _ _ _ ht
  · rw [hl, ← dN]; exact q _ _ _ hd
  · rw [hl]; exact ⟨hN.2, hN.1⟩

set_option maxRecDepth 100000 in
set_option maxHeartbeats 4000000 in
theorem rnew_any (w : World) (m : Nat) (seed : Nat) (hm1 : 1 ≤ m) (hm : m ≤ 64) (hs : seed < 18446744073709551616) :
    Calls Try.prog 20 #[.int .i64 m, .int .u64 seed] w fun e w' =>
      ∃ x, e = .returned (.tuple #[.pointer (some ⟨x, 0, none⟩), .int .i64 0]) ∧ RefIs w' x (fun g => w.heap.size ≤ g) (newM m seed) ∧ Chg (fun _ => False) w w' := by
  have h0' : decide ((m : Int) < 1) = false := by simp; omega
  have h6' : decide ((64 : Int) < m) = false := by simp; omega
  have hb : ∀ v : World, (Instr.makeSlice 81 (.int .i64 ((m : Int) + 1)) (.int .i64 ((m : Int) + 1))).run Try.prog v = .ok (.slice (some ⟨v.heap.size, 0, none⟩) (m + 1 : Nat) (m + 1)) (v.alloc (.cells (Array.replicate (m + 1) (.bool false)) 4)) := make_b (m + 1) (by omega)
  have hi : ∀ v : World, (Instr.makeSlice 33 (.int .i64 ((m : Int) + 1)) (.int .i64 ((m : Int) + 1))).run Try.prog v = .ok (.slice (some ⟨v.heap.size, 0, none⟩) (m + 1 : Nat) (m + 1)) (v.alloc (.cells (Array.replicate (m + 1) (.int .i64 0)) 3)) := make_i (m + 1) (by omega)
  have hu : ∀ v : World, (Instr.makeSlice 82 (.int .i64 ((m : Int) + 1)) (.int .i64 ((m : Int) + 1))).run Try.prog v = .ok (.slice (some ⟨v.heap.size, 0, none⟩) (m + 1 : Nat) (m + 1)) (v.alloc (.cells (Array.replicate (m + 1) (.int .u64 0)) 26)) := make_u (m + 1) (by omega)
  go_enter Try.func20, Try.ntmps20
  go_wp2
  have Y1 : ¬ w.heap.size = w.heap.size + 1 := by omega
  have Y2 : ¬ w.heap.size = w.heap.size + 1 + 1 := by omega
  have Y3 : ¬ w.heap.size = w.heap.size + 1 + 1 + 1 := by omega
  go_region
  all_goals (
    go_wp2
    go_loopw [7] (fun i wr => ∃ (k : Nat) (x : Nat) (R : Lay), k ≤ m ∧ i = .int .i64 ((k : Int) + 1) ∧ x = w.heap.size + 1 + 1 + 1 ∧ Hid (RefRep wr x R (fun g => w.heap.size ≤ g) ⟨msN m seed k, []⟩) ∧ Hid (Chg (fun _ => False) w wr)) (fun i _ => m + 1 - (intOf i).toNat))
  case atStart | atStart | atStart | atStart | atStart | atStart =>
    first
    | (refine ⟨0, _, ⟨none, 0, w.heap.size, m + 1, (w.heap.size + 1), m + 1, (w.heap.size + 1 + 1), m + 1⟩, by omega, rfl, rfl, Lib.hid (ref_fresh ⟨hm1, hm⟩ ?_ ?_ ?_ ?_ ⟨by omega, by omega, by omega, by omega⟩), Lib.hid ((((((Chg.refl _ _).alloc _).alloc _).alloc _).alloc _).drew)⟩ <;> (simp only [drew_heap, alloc_heap, Array.getElem?_push, Array.size_push]; simp [Y1, Y2, Y3]; done))
    | (refine ⟨0, _, ⟨none, 0, w.heap.size, m + 1, (w.heap.size + 1 + 1), m + 1, (w.heap.size + 1), m + 1⟩, by omega, rfl, rfl, Lib.hid (ref_fresh ⟨hm1, hm⟩ ?_ ?_ ?_ ?_ ⟨by omega, by omega, by omega, by omega⟩), Lib.hid ((((((Chg.refl _ _).alloc _).alloc _).alloc _).alloc _).drew)⟩ <;> (simp only [drew_heap, alloc_heap, Array.getElem?_push, Array.size_push]; simp [Y1, Y2, Y3]; done))
    | (refine ⟨0, _, ⟨none, 0, (w.heap.size + 1), m + 1, w.heap.size, m + 1, (w.heap.size + 1 + 1), m + 1⟩, by omega, rfl, rfl, Lib.hid (ref_fresh ⟨hm1, hm⟩ ?_ ?_ ?_ ?_ ⟨by omega, by omega, by omega, by omega⟩), Lib.hid ((((((Chg.refl _ _).alloc _).alloc _).alloc _).alloc _).drew)⟩ <;> (simp only [drew_heap, alloc_heap, Array.getElem?_push, Array.size_push]; simp [Y1, Y2, Y3]; done))
    | (refine ⟨0, _, ⟨none, 0, (w.heap.size + 1), m + 1, (w.heap.size + 1 + 1), m + 1, w.heap.size, m + 1⟩, by omega, rfl, rfl, Lib.hid (ref_fresh ⟨hm1, hm⟩ ?_ ?_ ?_ ?_ ⟨by omega, by omega, by omega, by omega⟩), Lib.hid ((((((Chg.refl _ _).alloc _).alloc _).alloc _).alloc _).drew)⟩ <;> (simp only [drew_heap, alloc_heap, Array.getElem?_push, Array.size_push]; simp [Y1, Y2, Y3]; done))
    | (refine ⟨0, _, ⟨none, 0, (w.heap.size + 1 + 1), m + 1, w.heap.size, m + 1, (w.heap.size + 1), m + 1⟩, by omega, rfl, rfl, Lib.hid (ref_fresh ⟨hm1, hm⟩ ?_ ?_ ?_ ?_ ⟨by omega, by omega, by omega, by omega⟩), Lib.hid ((((((Chg.refl _ _).alloc _).alloc _).alloc _).alloc _).drew)⟩ <;> (simp only [drew_heap, alloc_heap, Array.getElem?_push, Array.size_push]; simp [Y1, Y2, Y3]; done))
    | (refine ⟨0, _, ⟨none, 0, (w.heap.size + 1 + 1), m + 1, (w.heap.size + 1), m + 1, w.heap.size, m + 1⟩, by omega, rfl, rfl, Lib.hid (ref_fresh ⟨hm1, hm⟩ ?_ ?_ ?_ ?_ ⟨by omega, by omega, by omega, by omega⟩), Lib.hid ((((((Chg.refl _ _).alloc _).alloc _).alloc _).alloc _).drew)⟩ <;> (simp only [drew_heap, alloc_heap, Array.getElem?_push, Array.size_push]; simp [Y1, Y2, Y3]; done))
  all_goals
    obtain ⟨k, x, R, hk, rfl, hx, H, C⟩ := hrel
    subst hx
    clear hb hi hu
    by_cases hlt : k < m
    · have hd : decide ((k : Int) + 1 ≤ m) = true := by simp; omega
      have hl : (⟨msN m seed k, []⟩ : NetM).ms.length = m := msN_len _ _ _
      have c4 := H.out.c4
      rw [hl] at c4
      have hkk : k < (msN m seed k).length := by rw [msN_len]; exact hlt
      have t1 := dcell H.out hkk
      have f1 := H.out.d.frozen (k + 1)
      generalize (⟨msN m seed k, []⟩ : NetM).ms[k].draws = x0 at t1
      obtain ⟨t2, HT2⟩ : ∃ t2, Hid (u64 (seed + gold * (k + 1)) = t2) := ⟨_, Lib.hid rfl⟩
      have HT3 : IntKind.u64.wrap ((seed : Int) + IntKind.u64.wrap (11400714819323198485 * ((k : Int) + 1))) = t2 := by rw [← HT2.out]; simp only [u64, gold, IntKind.wrap, IntKind.bits, IntKind.signed]; simp
      have l1 : (k : Int) + 1 < ((m + 1 : Nat) : Int) := by omega
      have l3 : (0 : Int) ≤ (k : Int) + 1 := by omega
      have l5 : ((k : Int) + 1).toNat = k + 1 := by omega
      have HR := Lib.hid (H.out.setD hkk t2)
      have HC := Lib.hid (show Chg (fun _ => False) w (wr.setCell ⟨R.db, k + 1, none⟩ (.int .u64 t2)) from C.out.setCell (Or.inr H.out.fd) _)
      have HKK := Lib.hid hkk
      go_wp2
      go_roundw
      case rel => exact ⟨k + 1, _, R, by omega, by go_num, rfl, Lib.hid (by have := HR.out; rw [← HT2.out] at this; rw [← HT2.out, ← msN_step _ _ _ HKK.out]; exact this), HC⟩
      case measure => simp [intOf]; omega
    · have hd : decide ((k : Int) + 1 ≤ m) = false := by simp; omega
      have hkm : k = m := by omega
      subst hkm
      go_wp2
      go_ret2
      exact ⟨_, rfl, ⟨R, H.out⟩, C.out⟩
end Go.Proofs.Ytpgioccbnkcjcaa
