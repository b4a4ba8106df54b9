/- Walks: SameOp of two that are the same. -/
import Derived.Test.YtgmmglmokkcgeaaGreatA4
namespace Go.Proofs.YtgmmglmokkcgeaaGreat
set_option linter.unusedVariables false
set_option linter.unusedSimpArgs false
open Go.RowKit Mk Go.Sort

set_option maxRecDepth 100000 in
set_option maxHeartbeats 8000000 in
theorem sameop_any {w : World} {o : OpM} {l m : OpL} (h1 : OpAt w o l) (h2 : OpAt w o m) :
    Calls Tryz.prog 24 #[.agg (opC o l), .agg (opC o m)] w fun e w' => e = .returned (.bool true) ∧ Chg (fun _ => False) w w' := by
  obtain ⟨W0, HW0⟩ : ∃ W0, Hid ((w.alloc (.cells (opC o l) 28)).alloc (.cells (opC o m) 28) = W0) := ⟨_, Lib.hid rfl⟩
  have HC0 : Hid (Chg (fun _ => False) w W0) := by rw [← HW0.out]; exact Lib.hid (((Chg.refl _ _).alloc _).alloc _)
  have hb1 : W0.heap[w.heap.size]? = some (.cells (opC o l) 28) := by rw [← HW0.out]; exact (Below.heap_alloc _ _ _ (by simp)).trans (Go.heap_alloc_new _ _)
  have hb2 : W0.heap[w.heap.size + 1]? = some (.cells (opC o m) 28) := by
    rw [← HW0.out]
    have := Go.heap_alloc_new (w.alloc (.cells (opC o l) 28)) (.cells (opC o m) 28)
    simpa using this
  have H1 := Lib.hid h1
  have H2 := Lib.hid h2
  have HB1 := Lib.hid (fun (v : World) (c : Chg (fun _ => False) W0 v) => show v.heap[w.heap.size]? = some (.cells (opC o l) 28) from (c.block _ (Array.getElem?_eq_some_iff.1 hb1).1 (fun f => f)).trans hb1)
  have HB2 := Lib.hid (fun (v : World) (c : Chg (fun _ => False) W0 v) => show v.heap[w.heap.size + 1]? = some (.cells (opC o m) 28) from (c.block _ (Array.getElem?_eq_some_iff.1 hb2).1 (fun f => f)).trans hb2)
  have k0 : W0.cell? ⟨w.heap.size, 0, none⟩ = some (.int .u8 (o.k : Nat)) := cell_of hb1 rfl
  have m0 : W0.cell? ⟨w.heap.size + 1, 0, none⟩ = some (.int .u8 (o.k : Nat)) := cell_of hb2 rfl
  have k1 : W0.cell? ⟨w.heap.size, 1, none⟩ = some (.int .u32 (o.n : Nat)) := cell_of hb1 rfl
  have m1 : W0.cell? ⟨w.heap.size + 1, 1, none⟩ = some (.int .u32 (o.n : Nat)) := cell_of hb2 rfl
  have k2 : W0.cell? ⟨w.heap.size, 2, none⟩ = some (.int .u64 (o.st : Nat)) := cell_of hb1 rfl
  have m2 : W0.cell? ⟨w.heap.size + 1, 2, none⟩ = some (.int .u64 (o.st : Nat)) := cell_of hb2 rfl
  have k3 : W0.cell? ⟨w.heap.size, 3, none⟩ = some (.slice l.ko o.keys.length l.kc) := cell_of hb1 rfl
  have m3 : W0.cell? ⟨w.heap.size + 1, 3, none⟩ = some (.slice m.ko o.keys.length m.kc) := cell_of hb2 rfl
  have k4 : W0.cell? ⟨w.heap.size, 4, none⟩ = some (.slice l.no o.needs.length l.nc) := cell_of hb1 rfl
  have m4 : W0.cell? ⟨w.heap.size + 1, 4, none⟩ = some (.slice m.no o.needs.length m.nc) := cell_of hb2 rfl
  have k5 : W0.cell? ⟨w.heap.size, 5, none⟩ = some (.string o.pred) := cell_of hb1 rfl
  have m5 : W0.cell? ⟨w.heap.size + 1, 5, none⟩ = some (.string o.pred) := cell_of hb2 rfl
  have k6 : W0.cell? ⟨w.heap.size, 6, none⟩ = some (.int .u32 (o.g : Nat)) := cell_of hb1 rfl
  have m6 : W0.cell? ⟨w.heap.size + 1, 6, none⟩ = some (.int .u32 (o.g : Nat)) := cell_of hb2 rfl
  have k7 : W0.cell? ⟨w.heap.size, 7, none⟩ = some (.int .u32 (o.to : Nat)) := cell_of hb1 rfl
  have m7 : W0.cell? ⟨w.heap.size + 1, 7, none⟩ = some (.int .u32 (o.to : Nat)) := cell_of hb2 rfl
  have k8 : W0.cell? ⟨w.heap.size, 8, none⟩ = some (.int .u64 (o.at_ : Nat)) := cell_of hb1 rfl
  have m8 : W0.cell? ⟨w.heap.size + 1, 8, none⟩ = some (.int .u64 (o.at_ : Nat)) := cell_of hb2 rfl
  have hkl := h1.keys.len
  have hnl := h1.needs.len
  clear h1 h2 hb1 hb2
  go_enter Tryz.func24, Tryz.ntmps24
  go_upto_region 3 with fail
  rw [HW0.out]
  clear k0 m0 k1 m1 k2 m2 k4 m4 k5 m5 k6 m6 k7 m7 k8 m8
  go_wp2
  go_loopw [5] (fun i wr => ∃ j : Nat, j ≤ o.keys.length ∧ i = .int .i64 j ∧ Hid (Chg (fun _ => False) W0 wr)) (fun i _ => o.keys.length - (intOf i).toNat)
  case atStart => exact ⟨0, by omega, rfl, Lib.hid (Chg.refl _ _)⟩
  case round =>
    obtain ⟨j, hj, rfl, HC⟩ := hrel
    clear k3 m3
    have k3 : wr.cell? ⟨w.heap.size, 3, none⟩ = some (.slice l.ko o.keys.length l.kc) := cell_of (HB1.out wr HC.out) rfl
    have m3 : wr.cell? ⟨w.heap.size + 1, 3, none⟩ = some (.slice m.ko o.keys.length m.kc) := cell_of (HB2.out wr HC.out) rfl
    by_cases hlt : j < o.keys.length
    · have q : decide ((j : Int) < o.keys.length) = true := by simp; omega
      have q' : decide (j < o.keys.length) = true := by simpa using hlt
      obtain ⟨g, oo, hko, hg, a1⟩ := ((H1.out.keys.same HC0.out).same HC.out).cell j hlt
      obtain ⟨g2, oo2, hko2, hg2, a2⟩ := ((H2.out.keys.same HC0.out).same HC.out).cell j hlt
      generalize o.keys[j] = x at *
      have v1 : (x.toList == x.toList) = true := by simp
      have l0 : (0 : Int) ≤ j := by omega
      have l1 : (j : Int) < o.keys.length := by omega
      have HC2 := Lib.hid HC.out.drew
      rw [hko] at k3
      rw [hko2] at m3
      go_wp2
      go_region
      all_goals
        go_wp2
        go_roundw
        case rel => exact ⟨j + 1, by omega, by go_num, HC2⟩
        case measure => simp [intOf]; omega
    · obtain rfl : j = o.keys.length := by omega
      have q : decide ((o.keys.length : Int) < o.keys.length) = false := by simp
      have q' : decide (o.keys.length < o.keys.length) = false := by simp
      have k4 : wr.cell? ⟨w.heap.size, 4, none⟩ = some (.slice l.no o.needs.length l.nc) := cell_of (HB1.out wr HC.out) rfl
      have m4 : wr.cell? ⟨w.heap.size + 1, 4, none⟩ = some (.slice m.no o.needs.length m.nc) := cell_of (HB2.out wr HC.out) rfl
      go_wp2
      go_loopw [6] (fun i wr => ∃ j : Nat, j ≤ o.needs.length ∧ i = .int .i64 j ∧ Hid (Chg (fun _ => False) W0 wr)) (fun i _ => o.needs.length - (intOf i).toNat)
      case atStart => exact ⟨0, by omega, rfl, HC⟩
      case round =>
        obtain ⟨j, hj, rfl, HC⟩ := hrel
        clear k3 m3 k4 m4
        have k4 : wr.cell? ⟨w.heap.size, 4, none⟩ = some (.slice l.no o.needs.length l.nc) := cell_of (HB1.out wr HC.out) rfl
        have m4 : wr.cell? ⟨w.heap.size + 1, 4, none⟩ = some (.slice m.no o.needs.length m.nc) := cell_of (HB2.out wr HC.out) rfl
        by_cases hlt : j < o.needs.length
        · have q : decide ((j : Int) < o.needs.length) = true := by simp; omega
          have q' : decide (j < o.needs.length) = true := by simpa using hlt
          obtain ⟨g, oo, hko, hg, a1, a2⟩ := ((H1.out.needs.same HC0.out).same HC.out).cell j hlt
          obtain ⟨g2, oo2, hko2, hg2, b1, b2⟩ := ((H2.out.needs.same HC0.out).same HC.out).cell j hlt
          generalize o.needs[j].1 = x at *
          generalize ((o.needs[j].2 : Nat) : Int) = y at *
          have v1 : (x.toList == x.toList) = true := by simp
          have l0 : (0 : Int) ≤ j := by omega
          have l1 : (j : Int) < o.needs.length := by omega
          have HC2 := Lib.hid HC.out.drew
          rw [hko] at k4
          rw [hko2] at m4
          go_wp2
          go_region
          all_goals
            go_wp2
            go_roundw
            case rel => exact ⟨j + 1, by omega, by go_num, HC2⟩
            case measure => simp [intOf]; omega
        · obtain rfl : j = o.needs.length := by omega
          have q : decide ((o.needs.length : Int) < o.needs.length) = false := by simp
          have q' : decide (o.needs.length < o.needs.length) = false := by simp
          have HF := Lib.hid (HC0.out.trans HC.out)
          go_wp2
          go_ret
          exact ⟨rfl, HF.out⟩
end Go.Proofs.YtgmmglmokkcgeaaGreat
