/- Walks: New. -/
import Derived.Test.YtpgioccbnkcjcaaN7
import Derived.Deep.OwnRows
namespace Go.Proofs.Ytpgioccbnkcjcaa
open Go.RowKit Mk

/-- The machines of New, the first k drawn. -/
def msN (N seed k : Nat) : List Mach := (List.range N).map fun i => ⟨0, if i < k then u64 (seed + gold * (i + 1)) else 0, false⟩
def newM (N seed : Nat) : NetM := ⟨msN N seed N, []⟩
theorem msN_len (N seed k : Nat) : (msN N seed k).length = N := by simp [msN]
theorem msN_get (N seed k j : Nat) (h : j < (msN N seed k).length) : (msN N seed k)[j] = ⟨0, if j < k then u64 (seed + gold * (j + 1)) else 0, false⟩ := by simp [msN]
theorem msN_step (N seed k : Nat) (h : k < (msN N seed k).length) : (msN N seed k).set k { (msN N seed k)[k] with draws := u64 (seed + gold * (k + 1)) } = msN N seed (k + 1) := by
  apply List.ext_getElem
  · simp [msN_len]
  · intro i h1 h2
    rw [List.getElem_set]
    split
    · rename_i e
      subst e
      rw [msN_get]
      simp [msN_get]
    · rename_i e
      rw [msN_get, msN_get]
      by_cases h : i < k
      · rw [if_pos h, if_pos (by omega)]
      · rw [if_neg h, if_neg (by omega)]
theorem msN_zero (N seed : Nat) : mcells (msN N seed 0) = (List.replicate N [Value.int .i64 0, .int .u64 0, .bool false]).flatten := by
  have : msN N seed 0 = List.replicate N ⟨0, 0, false⟩ := by
    apply List.ext_getElem
    · simp [msN_len]
    · intro i h1 h2; rw [msN_get]; simp
  rw [this, mcells]
  simp [List.flatMap, List.map_replicate]

theorem made_mach (N seed : Nat) : madeCells #[Value.int .i64 0, .int .u64 0, .bool false] (N * 3) = (mcells (msN N seed 0)).toArray := by
  apply Array.ext
  · simp [madeCells, mcells_len, msN_len]; omega
  · intro i h1 h2
    have hi : i < N * 3 := by simpa [madeCells] using h1
    have hj : i / 3 < (msN N seed 0).length := by rw [msN_len]; omega
    have hg := mcells_get (msN N seed 0) (i / 3) hj (i % 3) (by omega)
    rw [show 3 * (i / 3) + i % 3 = i by omega, List.getElem?_eq_getElem (by simpa using h2)] at hg
    rw [List.getElem_toArray]
    have h3 : i % 3 = 0 ∨ i % 3 = 1 ∨ i % 3 = 2 := by omega
    simp only [msN_get] at hg
    simp only [madeCells, Array.getElem_map, Array.getElem_range]
    rcases h3 with e | e | e <;> rw [e] at hg <;> simp [e] at hg ⊢ <;> exact hg.symm

theorem info69 : (Try.prog.info? 69).map (fun i => (i.zero, i.size, i.bytes)) = some (some (.agg #[.int .i64 0, .int .u64 0, .bool false]), 3, 24) := by kernel_rfl
theorem make_mach (N seed : Nat) (hN : N ≤ 64) (v : World) : (Instr.makeSlice 65 (.int .i64 (N : Int)) (.int .i64 (N : Int))).run Try.prog v = .ok (.slice (some ⟨v.heap.size, 0, none⟩) N N) (v.alloc (.cells (mcells (msN N seed 0)).toArray 69)) := by
  obtain ⟨i, hi, hzz⟩ := Option.map_eq_some_iff.1 info69
  simp only [Prod.mk.injEq] at hzz
  obtain ⟨hz, hs, hb⟩ := hzz
  rw [run_make v 65 69 i _ Try.underlying65 hi hz .i64 .i64 _ _ (by omega) (by omega) (by rw [hb]; omega) (by omega), hs]
  simp only [Int.toNat_natCast]
  rw [show (Value.agg #[Value.int .i64 0, .int .u64 0, .bool false]).cells = #[Value.int .i64 0, .int .u64 0, .bool false] from rfl, made_mach]

theorem new_bad (w : World) (N : Int) (seed : Nat) (hN : i64 N) (h : N < 1 ∨ 64 < N) :
    Calls Try.prog 8 #[.int .i64 N, .int .u64 seed] w fun e w' => e = .returned (.tuple #[.pointer none, .int .i64 2]) ∧ w' = w := by
  have h1 := hN.1
  have h2 := hN.2
  clear hN
  by_cases h0 : N < 1
  · have h0' : decide (N < 1) = true := by simpa using h0
    go_enter Try.func8, Try.ntmps8
    go_wp2
    go_ret2
    exact ⟨rfl, rfl⟩
  · have h0' : decide (N < 1) = false := by simpa using h0
    have h6' : decide (64 < N) = true := by simp; omega
    clear h h0
    go_enter Try.func8, Try.ntmps8
    go_wp2
    go_ret2
    exact ⟨rfl, rfl⟩

/-- Behind k rounds of New. -/
structure NewAt (w : World) (m seed k t : Nat) (wr : World) : Prop where
  sd : t = u64 (seed + gold * k)
  mach : wr.heap[w.heap.size + 1]? = some (.cells (mcells (msN m seed k)).toArray 69)
  net : wr.heap[w.heap.size + 1 + 1]? = some (.cells #[.map (some w.heap.size), .slice (some ⟨w.heap.size + 1, 0, none⟩) m m, .int .i64 0] 67)
  map : wr.heap[w.heap.size]? = some (.map #[] 0)
  chg : Chg (fun _ => False) w wr

set_option maxRecDepth 100000 in
set_option maxHeartbeats 1000000 in
theorem new_any (w : World) (m : Nat) (seed : Nat) (hm1 : 1 ≤ m) (hm : m ≤ 64) (hs : seed < 18446744073709551616) :
    Calls Try.prog 8 #[.int .i64 m, .int .u64 seed] w fun e w' =>
      ∃ b, e = .returned (.tuple #[.pointer (some ⟨b, 0, none⟩), .int .i64 0]) ∧ NetIs w' b (fun g => w.heap.size ≤ g) (newM m seed) ∧ Chg (fun _ => False) w w' := by
  have h0' : decide ((m : Int) < 1) = false := by simp; omega
  have h6' : decide ((64 : Int) < m) = false := by simp; omega
  have hmk := make_mach m seed hm
  have hmm : ∀ v : World, (Instr.makeMap 64 none).run Try.prog v = .ok (.map (some v.heap.size)) (v.alloc (.map #[] 0)) := fun v => run_makeMap 64 v
  go_enter Try.func8, Try.ntmps8
  go_wp2
  go_loopw [1, 24] (fun sd i wr => ∃ k t : Nat, k ≤ m ∧ i = .int .i64 k ∧ sd = .int .u64 t ∧ Hid (NewAt w m seed k t wr)) (fun _ i _ => m - (intOf i).toNat)
  case atStart =>
    refine ⟨0, seed, by omega, rfl, rfl, Lib.hid ⟨?_, ?_, ?_, ?_, (((Chg.refl _ _).alloc _).alloc _).alloc _⟩⟩
    · simp [u64]; omega
    · rw [Below.heap_alloc _ _ _ (by simp)]
      have := Go.heap_alloc_new (w.alloc (.map #[] 0)) (.cells (mcells (msN m seed 0)).toArray 69)
      simpa using this
    · have := Go.heap_alloc_new ((w.alloc (.map #[] 0)).alloc (.cells (mcells (msN m seed 0)).toArray 69)) (.cells #[.map (some w.heap.size), .slice (some ⟨w.heap.size + 1, 0, none⟩) m m, .int .i64 0] 67)
      simpa using this
    · rw [Below.heap_alloc _ _ _ (by simp; omega), Below.heap_alloc _ _ _ (by simp)]
      exact Go.heap_alloc_new w _
  case round =>
    obtain ⟨k, t, hk, rfl, rfl, HA⟩ := hrel
    by_cases hlt : k < m
    · have hd : decide ((k : Int) < m) = true := by simp; omega
      have hkk : k < (msN m seed k).length := by rw [msN_len]; exact hlt
      have c1 := (cell_mach (rest := []) (by simpa using HA.out.mach) hkk).2.1
      generalize (msN m seed k)[k].draws = x0 at c1
      have f1 : wr.frozen? ⟨w.heap.size + 1, 3 * k + 1, none⟩ = false := frozen_of HA.out.mach
      have d1 : wr.cell? ⟨w.heap.size + 1 + 1, 1, none⟩ = some (.slice (some ⟨w.heap.size + 1, 0, none⟩) m m) := cell_of HA.out.net (by simp)
      have ht : t < 18446744073709551616 := by rw [HA.out.sd]; unfold u64; omega
      have hb1 : (k : Int) < m := by omega
      have hb0 : (0 : Int) ≤ k := by omega
      obtain ⟨t2, HT2⟩ : ∃ t2, Hid (u64 (t + gold) = t2) := ⟨_, Lib.hid rfl⟩
      have HT3 : IntKind.u64.wrap ((t : Int) + 11400714819323198485) = t2 := by rw [← HT2.out]; simp [u64, gold, IntKind.wrap, IntKind.bits, IntKind.signed]
      have HKK := Lib.hid hkk
      have c1' : wr.cell? ⟨w.heap.size + 1, k * 3 + 1, none⟩ = some (.int .u64 x0) := by rw [Nat.mul_comm]; exact c1
      have f1' : wr.frozen? ⟨w.heap.size + 1, k * 3 + 1, none⟩ = false := by rw [Nat.mul_comm]; exact f1
      clear hmk hmm hs hkk c1 f1
      go_wp2
      go_roundw
      case rel =>
        refine ⟨k + 1, t2, by omega, by go_num, rfl, Lib.hid ⟨?_, ?_, ?_, ?_, HA.out.chg.setCell (Or.inr (by simp)) _⟩⟩
        · rw [← HT2.out, HA.out.sd]; simp only [u64, gold]; omega
        · rw [Mk.heap_setCell_same HA.out.mach, List.setIfInBounds_toArray, show k * 3 + 1 = 3 * k + 1 by omega, mcells_draws _ _ HKK.out]
          have : t2 = u64 (seed + gold * (k + 1)) := by rw [← HT2.out, HA.out.sd]; simp only [u64, gold]; omega
          rw [this, msN_step _ _ _ HKK.out]
        · rw [Below.heap_setCell _ _ _ _ (by simp)]; exact HA.out.net
        · rw [Below.heap_setCell _ _ _ _ (by simp)]; exact HA.out.map
      case measure => simp [intOf]; omega
    · have hd : decide ((k : Int) < m) = false := by simp; omega
      have hkm : k = m := by omega
      subst hkm
      clear hmk hmm
      go_wp2
      go_ret2
      refine ⟨w.heap.size + 1 + 1, rfl, ⟨w.heap.size, ⟨w.heap.size + 1, k, []⟩, [], ?_⟩, HA.out.chg⟩
      refine ⟨?_, by simpa [newM] using HA.out.mach, ⟨#[], 0, HA.out.map, MapKept.stamped_empty 0, rfl, by simp⟩, by simp, fun x _ => rfl, by simp, ?_, by simp [newM], Nat.le_trans (Nat.le_succ _) (Nat.le_succ _), Nat.le_succ _, Nat.le_refl _, by simp⟩
      · have := HA.out.net
        simpa [newM, msN_len] using this
      · simp [newM, msN_len]; omega
end Go.Proofs.Ytpgioccbnkcjcaa
