/- Walks: what a state that is not there answers. -/
import Derived.Test.YtgmmglmokkcgeaaGreatA6
import Derived.BigQuiet
namespace Go.Proofs.YtgmmglmokkcgeaaGreat
set_option linter.unusedVariables false
set_option linter.unusedSimpArgs false
open Go.RowKit Mk Go.Sort
/-- A state that is not there, or one that no call has made. -/
def NoneV (w : World) (v : Value) : Prop := v = .pointer none ∨ ∃ b cs t, v = .pointer (some ⟨b, 0, none⟩) ∧ w.heap[b]? = some (.cells cs t) ∧ cs[0]? = some (.bool false)
theorem none_of {w : World} {v : Value} (h : NoneV w v) : Calls Tryz.prog 29 #[v] w fun e w' => e = .returned (.bool true) ∧ w' = w := by
  rcases h with rfl | ⟨b, cs, t, rfl, hb, h0⟩
  · go_enter Tryz.func29, Tryz.ntmps29
    go_wp2
    go_ret
    exact ⟨rfl, rfl⟩
  · have c0 : w.cell? ⟨b, 0, none⟩ = some (.bool false) := cell_of hb h0
    clear hb h0
    go_enter Tryz.func29, Tryz.ntmps29
    go_wp2
    go_ret
    exact ⟨rfl, rfl⟩
theorem NoneV.chg {w w' : World} {v : Value} (h : NoneV w v) (c : Chg (fun _ => False) w w') : NoneV w' v := by
  rcases h with h | ⟨b, cs, t, h, hb, h0⟩
  · exact Or.inl h
  · exact Or.inr ⟨b, cs, t, h, (c.block _ (Array.getElem?_eq_some_iff.1 hb).1 (fun f => f)).trans hb, h0⟩
theorem none_dec {w : World} {v : Value} (h : NoneV w v) (t : Int) : Calls Tryz.prog 7 #[v, .int .u64 t] w fun e w' => e = .returned (.tuple #[.int .u64 0, .bool false]) ∧ w' = w := by
  have N := Lib.hid (none_of h)
  clear h
  go_enter Tryz.func7, Tryz.ntmps7
  go_wp2_with fail
  refine N.out.mono ?_
  rintro e w' ⟨rfl, rfl⟩
  go_wp2
  go_ret2
  exact ⟨rfl, rfl⟩
theorem none_time {w : World} {v : Value} (h : NoneV w v) : Calls Tryz.prog 10 #[v] w fun e w' => e = .returned (.int .u64 0) ∧ w' = w := by
  have N := Lib.hid (none_of h)
  clear h
  go_enter Tryz.func10, Tryz.ntmps10
  go_wp2_with fail
  refine N.out.mono ?_
  rintro e w' ⟨rfl, rfl⟩
  go_wp2
  go_ret
  exact ⟨rfl, rfl⟩
theorem none_uid {w : World} {v : Value} (h : NoneV w v) : Calls Tryz.prog 11 #[v] w fun e w' => e = .returned (.int .u64 0) ∧ w' = w := by
  have N := Lib.hid (none_of h)
  clear h
  go_enter Tryz.func11, Tryz.ntmps11
  go_wp2_with fail
  refine N.out.mono ?_
  rintro e w' ⟨rfl, rfl⟩
  go_wp2
  go_ret
  exact ⟨rfl, rfl⟩
theorem none_mark {w : World} {v : Value} (h : NoneV w v) : Calls Tryz.prog 12 #[v] w fun e w' => e = .returned (.int .u64 0) ∧ w' = w := by
  have N := Lib.hid (none_of h)
  clear h
  go_enter Tryz.func12, Tryz.ntmps12
  go_wp2_with fail
  refine N.out.mono ?_
  rintro e w' ⟨rfl, rfl⟩
  go_wp2
  go_ret
  exact ⟨rfl, rfl⟩
theorem none_seen {w : World} {v : Value} (h : NoneV w v) (x : ByteArray) (t : Int) : Calls Tryz.prog 13 #[v, .string x, .int .u64 t] w fun e w' => e = .returned (.int .i64 0) ∧ w' = w := by
  have N := Lib.hid (none_of h)
  clear h
  go_enter Tryz.func13, Tryz.ntmps13
  go_wp2_with fail
  refine N.out.mono ?_
  rintro e w' ⟨rfl, rfl⟩
  go_wp2
  go_ret
  exact ⟨rfl, rfl⟩
theorem none_last {w : World} {v : Value} (h : NoneV w v) (x : ByteArray) : Calls Tryz.prog 14 #[v, .string x] w fun e w' => e = .returned (.int .u64 0) ∧ w' = w := by
  have N := Lib.hid (none_of h)
  clear h
  go_enter Tryz.func14, Tryz.ntmps14
  go_wp2_with fail
  refine N.out.mono ?_
  rintro e w' ⟨rfl, rfl⟩
  go_wp2
  go_ret
  exact ⟨rfl, rfl⟩
theorem none_copy {w : World} {v : Value} (h : NoneV w v) : Calls Tryz.prog 15 #[v] w fun e w' => e = .returned (.pointer none) ∧ w' = w := by
  have N := Lib.hid (none_of h)
  clear h
  go_enter Tryz.func15, Tryz.ntmps15
  go_wp2_with fail
  refine N.out.mono ?_
  rintro e w' ⟨rfl, rfl⟩
  go_wp2
  go_ret
  exact ⟨rfl, rfl⟩
theorem NoneV.drewN {w : World} {v : Value} (h : NoneV w v) (m : Nat) : NoneV (w.drewN m) v := h
set_option maxRecDepth 100000 in
theorem none_same {w : World} {v u : Value} (h : NoneV w v) : Calls Tryz.prog 16 #[v, u] w fun e w' => e = .returned (.bool false) ∧ Chg (fun _ => False) w w' := by
  have N := Lib.hid (fun m => none_of (h.drewN m))
  clear h
  go_enter Tryz.func16, Tryz.ntmps16
  go_wp2_with fail
  simp only [List.append_eq, List.cons_append, List.nil_append]
  go_quiet (first | (go_at_call 29; refine Calls.quiet_of_same (N.out _)))
  go_wp2
  go_ret
  exact ⟨rfl, rfl, rfl, rfl, Nat.le_refl _, fun _ _ _ => rfl⟩
set_option maxRecDepth 100000 in
theorem none_bytes {w : World} {v : Value} (h : NoneV w v) : Calls Tryz.prog 17 #[v] w fun e w' => e = .returned (.string ⟨#[]⟩) ∧ w' = w := by
  have N := Lib.hid (none_of h)
  clear h
  go_enter Tryz.func17, Tryz.ntmps17
  go_wp2_with fail
  refine N.out.mono ?_
  rintro e w' ⟨rfl, rfl⟩
  go_wp2
  go_ret
  exact ⟨rfl, rfl⟩
theorem fin5 {w : World} {kb : Nat} {t : TypeId} {c0 c1 c2 c3 c4 : Value} (h : w.heap[kb]? = some (.cells #[c0, c1, c2, c3, c4] t)) (v0 v1 v2 v3 v4 : Value) :
    (((((w.setCell ⟨kb, 0, none⟩ v0).setCell ⟨kb, 1, none⟩ v1).setCell ⟨kb, 2, none⟩ v2).setCell ⟨kb, 3, none⟩ v3).setCell ⟨kb, 4, none⟩ v4).heap[kb]? = some (.cells #[v0, v1, v2, v3, v4] t) ∧
    Chg (fun g => g = kb) w (((((w.setCell ⟨kb, 0, none⟩ v0).setCell ⟨kb, 1, none⟩ v1).setCell ⟨kb, 2, none⟩ v2).setCell ⟨kb, 3, none⟩ v3).setCell ⟨kb, 4, none⟩ v4) := by
  have h0 : (w.setCell ⟨kb, 0, none⟩ v0).heap[kb]? = some (.cells #[v0, c1, c2, c3, c4] t) := by rw [Mk.heap_setCell_same h v0]; rfl
  have k0 : Chg (fun g => g = kb) w (w.setCell ⟨kb, 0, none⟩ v0) := (Chg.refl (fun g => g = kb) w).setCell (a := ⟨kb, 0, none⟩) (Or.inl rfl) v0
  generalize (w.setCell ⟨kb, 0, none⟩ v0) = w0 at *
  have h1 : (w0.setCell ⟨kb, 1, none⟩ v1).heap[kb]? = some (.cells #[v0, v1, c2, c3, c4] t) := by rw [Mk.heap_setCell_same h0 v1]; rfl
  have k1 : Chg (fun g => g = kb) w (w0.setCell ⟨kb, 1, none⟩ v1) := k0.setCell (a := ⟨kb, 1, none⟩) (Or.inl rfl) v1
  generalize (w0.setCell ⟨kb, 1, none⟩ v1) = w1 at *
  have h2 : (w1.setCell ⟨kb, 2, none⟩ v2).heap[kb]? = some (.cells #[v0, v1, v2, c3, c4] t) := by rw [Mk.heap_setCell_same h1 v2]; rfl
  have k2 : Chg (fun g => g = kb) w (w1.setCell ⟨kb, 2, none⟩ v2) := k1.setCell (a := ⟨kb, 2, none⟩) (Or.inl rfl) v2
  generalize (w1.setCell ⟨kb, 2, none⟩ v2) = w2 at *
  have h3 : (w2.setCell ⟨kb, 3, none⟩ v3).heap[kb]? = some (.cells #[v0, v1, v2, v3, c4] t) := by rw [Mk.heap_setCell_same h2 v3]; rfl
  have k3 : Chg (fun g => g = kb) w (w2.setCell ⟨kb, 3, none⟩ v3) := k2.setCell (a := ⟨kb, 3, none⟩) (Or.inl rfl) v3
  generalize (w2.setCell ⟨kb, 3, none⟩ v3) = w3 at *
  have h4 : (w3.setCell ⟨kb, 4, none⟩ v4).heap[kb]? = some (.cells #[v0, v1, v2, v3, v4] t) := by rw [Mk.heap_setCell_same h3 v4]; rfl
  have k4 : Chg (fun g => g = kb) w (w3.setCell ⟨kb, 4, none⟩ v4) := k3.setCell (a := ⟨kb, 4, none⟩) (Or.inl rfl) v4
  exact ⟨h4, k4⟩
set_option maxRecDepth 100000 in
set_option maxHeartbeats 2000000 in
theorem none_tab {w : World} {v : Value} (h : NoneV w v) (x : ByteArray) : Calls Tryz.prog 8 #[v, .string x] w fun e w' => e = .returned (.tuple #[.agg #[.string ⟨#[]⟩, .int .u32 0, .int .u32 0, .int .u64 0, .int .u64 0], .bool false]) ∧ Chg (fun _ => False) w w' := by
  have N := Lib.hid (none_of (h.chg ((Chg.refl (fun _ => False) w).alloc (.cells #[.string ⟨#[]⟩, .int .u32 0, .int .u32 0, .int .u64 0, .int .u64 0] 41))))
  clear h
  obtain ⟨W1, HW1⟩ : ∃ W1, Hid (w.alloc (.cells #[.string ⟨#[]⟩, .int .u32 0, .int .u32 0, .int .u64 0, .int .u64 0] 41) = W1) := ⟨_, Lib.hid rfl⟩
  obtain ⟨kb, HKB⟩ : ∃ kb, Hid (w.heap.size = kb) := ⟨_, Lib.hid rfl⟩
  have hkc : W1.heap[kb]? = some (.cells #[.string ⟨#[]⟩, .int .u32 0, .int .u32 0, .int .u64 0, .int .u64 0] 41) := by rw [← HW1.out, ← HKB.out]; exact Go.heap_alloc_new _ _
  have HKC := Lib.hid hkc
  have HC := Lib.hid (show Chg (fun _ => False) w W1 by rw [← HW1.out]; exact (Chg.refl _ _).alloc _)
  rw [HW1.out] at N
  clear hkc
  go_enter Tryz.func8, Tryz.ntmps8
  go_wp2_with fail
  rw [HW1.out, HKB.out]
  refine N.out.mono ?_
  rintro e w1 ⟨rfl, rfl⟩
  have q0 : w1.cell? ⟨kb, 0, none⟩ = some (.string ⟨#[]⟩) := cell_of HKC.out rfl
  have q1 : w1.cell? ⟨kb, 1, none⟩ = some (.int .u32 0) := cell_of HKC.out rfl
  have q2 : w1.cell? ⟨kb, 2, none⟩ = some (.int .u32 0) := cell_of HKC.out rfl
  have q3 : w1.cell? ⟨kb, 3, none⟩ = some (.int .u64 0) := cell_of HKC.out rfl
  have q4 : w1.cell? ⟨kb, 4, none⟩ = some (.int .u64 0) := cell_of HKC.out rfl
  have f0 : w1.frozen? ⟨kb, 0, none⟩ = false := frozen_of HKC.out
  have f1 : w1.frozen? ⟨kb, 1, none⟩ = false := frozen_of HKC.out
  have f2 : w1.frozen? ⟨kb, 2, none⟩ = false := frozen_of HKC.out
  have f3 : w1.frozen? ⟨kb, 3, none⟩ = false := frozen_of HKC.out
  have f4 : w1.frozen? ⟨kb, 4, none⟩ = false := frozen_of HKC.out
  go_wp2
  obtain ⟨g1, g2⟩ := fin5 HKC.out (.string ⟨#[]⟩) (.int .u32 0) (.int .u32 0) (.int .u64 0) (.int .u64 0)
  refine bodyPost_ret (results_cell_row_tmp (p := 4) (u := 5) (ty := 41) rfl _ _ kb 41 _ (0, 0) _ rfl g1 Tryz.underlying41 rfl (by kernel_rfl)) rfl ⟨rfl, HC.out.trans' g2 (fun i hi => Or.inr (by have := HKB.out; omega))⟩
set_option maxRecDepth 100000 in
set_option maxHeartbeats 2000000 in
theorem none_apply {w : World} {v : Value} (h : NoneV w v) (c0 c1 c2 c3 c4 c5 c6 c7 c8 : Value) : Calls Tryz.prog 9 #[v, .agg #[c0, c1, c2, c3, c4, c5, c6, c7, c8]] w fun e w' => e = .returned (.agg #[.int .i64 1, .int .u64 0, .int .u64 0, .string ⟨#[]⟩, .int .u32 0, .int .u32 0, .int .u64 0, .int .u64 0]) ∧ Chg (fun _ => False) w w' := by
  have N := Lib.hid (none_of (h.chg (((Chg.refl (fun _ => False) w).alloc (.cells #[c0, c1, c2, c3, c4, c5, c6, c7, c8] 28)).alloc (.cells #[.int .i64 0, .int .u64 0, .int .u64 0, .string ⟨#[]⟩, .int .u32 0, .int .u32 0, .int .u64 0, .int .u64 0] 46))))
  clear h
  obtain ⟨W0, HW0⟩ : ∃ W0, Hid (w.alloc (.cells #[c0, c1, c2, c3, c4, c5, c6, c7, c8] 28) = W0) := ⟨_, Lib.hid rfl⟩
  have HC0 := Lib.hid (show Chg (fun _ => False) w W0 by rw [← HW0.out]; exact (Chg.refl _ _).alloc _)
  have HS0 := Lib.hid (show W0.heap.size = w.heap.size + 1 by rw [← HW0.out]; simp)
  rw [HW0.out] at N
  obtain ⟨W1, HW1⟩ : ∃ W1, Hid (W0.alloc (.cells #[.int .i64 0, .int .u64 0, .int .u64 0, .string ⟨#[]⟩, .int .u32 0, .int .u32 0, .int .u64 0, .int .u64 0] 46) = W1) := ⟨_, Lib.hid rfl⟩
  obtain ⟨kb, HKB⟩ : ∃ kb, Hid (w.heap.size + 1 = kb) := ⟨_, Lib.hid rfl⟩
  have hkc : W1.heap[kb]? = some (.cells #[.int .i64 0, .int .u64 0, .int .u64 0, .string ⟨#[]⟩, .int .u32 0, .int .u32 0, .int .u64 0, .int .u64 0] 46) := by rw [← HW1.out, ← HKB.out, ← HS0.out]; exact Go.heap_alloc_new _ _
  have HKC := Lib.hid hkc
  have HC := Lib.hid (show Chg (fun _ => False) w W1 by rw [← HW1.out]; exact HC0.out.alloc _)
  rw [HW1.out] at N
  clear hkc
  go_enter Tryz.func9, Tryz.ntmps9
  go_wp2_with fail
  rw [HW0.out, HW1.out, HKB.out]
  refine N.out.mono ?_
  rintro e w1 ⟨rfl, rfl⟩
  have q0 : w1.cell? ⟨kb, 0, none⟩ = some (.int .i64 0) := cell_of HKC.out rfl
  have q1 : w1.cell? ⟨kb, 1, none⟩ = some (.int .u64 0) := cell_of HKC.out rfl
  have q2 : w1.cell? ⟨kb, 2, none⟩ = some (.int .u64 0) := cell_of HKC.out rfl
  have q3 : w1.cell? ⟨kb, 3, none⟩ = some (.string ⟨#[]⟩) := cell_of HKC.out rfl
  have q4 : w1.cell? ⟨kb, 4, none⟩ = some (.int .u32 0) := cell_of HKC.out rfl
  have q5 : w1.cell? ⟨kb, 5, none⟩ = some (.int .u32 0) := cell_of HKC.out rfl
  have q6 : w1.cell? ⟨kb, 6, none⟩ = some (.int .u64 0) := cell_of HKC.out rfl
  have q7 : w1.cell? ⟨kb, 7, none⟩ = some (.int .u64 0) := cell_of HKC.out rfl
  have f0 : w1.frozen? ⟨kb, 0, none⟩ = false := frozen_of HKC.out
  have f1 : w1.frozen? ⟨kb, 1, none⟩ = false := frozen_of HKC.out
  have f2 : w1.frozen? ⟨kb, 2, none⟩ = false := frozen_of HKC.out
  have f3 : w1.frozen? ⟨kb, 3, none⟩ = false := frozen_of HKC.out
  have f4 : w1.frozen? ⟨kb, 4, none⟩ = false := frozen_of HKC.out
  have f5 : w1.frozen? ⟨kb, 5, none⟩ = false := frozen_of HKC.out
  have f6 : w1.frozen? ⟨kb, 6, none⟩ = false := frozen_of HKC.out
  have f7 : w1.frozen? ⟨kb, 7, none⟩ = false := frozen_of HKC.out
  go_wp2
  obtain ⟨g1, g2⟩ := fin8 HKC.out (.int .i64 1) (.int .u64 0) (.int .u64 0) (.string ⟨#[]⟩) (.int .u32 0) (.int .u32 0) (.int .u64 0) (.int .u64 0)
  refine bodyPost_ret (results_cell_row (p := 4) (ty := 46) rfl _ _ kb 46 _ (0, 0) _ rfl g1 Tryz.underlying46 rfl (by kernel_rfl)) rfl ⟨rfl, HC.out.trans' g2 (fun i hi => Or.inr (by have := HKB.out; omega))⟩
theorem none_tablets {w : World} (v : Option Addr) : Calls Tryz.prog 18 #[.pointer v] w fun e w' => e = .returned (.func (.func 49) #[] #[.pointer (some ⟨w.heap.size, 0, none⟩)]) ∧ w' = w.alloc (.cells #[.pointer v] 30) := by
  go_enter Tryz.func18, Tryz.ntmps18
  go_wp2
  go_ret
  exact ⟨rfl, rfl⟩
end Go.Proofs.YtgmmglmokkcgeaaGreat
