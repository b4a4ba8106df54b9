/- Walks: CellsOrder. -/
import Derived.Test.YtnhookblhckmlaaK7
import Derived.Lib.SmallJoins
import Derived.Lib.QuietBelow
namespace Go.Proofs.Ytnhookblhckmlaa
open Go.RowKit Mk Go.Sort

theorem less_asymm {a b : ByteArray} (h : less a b = true) : less b a = false := by
  unfold less at *
  rw [strLess_eq] at *
  have h1 : a.toList < b.toList := by simpa using h
  have h2 : ¬ b.toList < a.toList := fun h => List.lt_asymm h1 h
  simpa using h2
theorem ordS_neg (a b : ByteArray) : ordS b a = - ordS a b := by
  unfold ordS
  cases h1 : less a b <;> cases h2 : less b a
  · simp
  · simp
  · simp
  · rw [less_asymm h1] at h2; cases h2
theorem ordN_neg (a b : Nat) : ordN b a = - ordN a b := by
  unfold ordN
  by_cases h1 : a < b <;> by_cases h2 : b < a <;> simp [h1, h2] <;> omega
theorem cmpM_neg (a b : CellM) : cmpM b a = - cmpM a b := by
  unfold cmpM
  rw [ordS_neg a.key b.key, ordN_neg b.time a.time]
  by_cases h : ordS a.key b.key = 0 <;> simp [h]
theorem ordS_range (a b : ByteArray) : ordS a b = -1 ∨ ordS a b = 0 ∨ ordS a b = 1 := by
  unfold ordS
  cases less a b <;> cases less b a <;> simp
theorem ordN_range (a b : Nat) : ordN a b = -1 ∨ ordN a b = 0 ∨ ordN a b = 1 := by
  unfold ordN
  by_cases h1 : a < b <;> by_cases h2 : b < a <;> simp [h1, h2]
theorem cmpM_range (a b : CellM) : cmpM a b = -1 ∨ cmpM a b = 0 ∨ cmpM a b = 1 := by
  unfold cmpM
  split
  · exact ordS_range _ _
  · exact ordN_range _ _
theorem ordS_le (a b : ByteArray) : ordS a b ≤ 0 ↔ a.toList ≤ b.toList := by
  have h : (less b a = true) ↔ b.toList < a.toList := by unfold less; rw [strLess_eq]; simp
  unfold ordS
  cases h1 : less a b <;> cases h2 : less b a
  · simp; rw [h2] at h; simp at h; exact h
  · simp; rw [h2] at h; simp at h; exact h
  · simp; rw [h2] at h; simp at h; exact h
  · rw [less_asymm h1] at h2; cases h2
theorem ordS_zero (a b : ByteArray) : ordS a b = 0 ↔ a.toList = b.toList := by
  constructor
  · intro h
    have h1 := (ordS_le a b).1 (by omega)
    have h2 := (ordS_le b a).1 (by rw [ordS_neg a b]; omega)
    exact List.le_antisymm h1 h2
  · intro h
    have h1 := (ordS_le a b).2 (by rw [h]; exact List.le_refl _)
    have h2 := (ordS_le b a).2 (by rw [h]; exact List.le_refl _)
    rw [ordS_neg a b] at h2
    omega
theorem ordN_le (a b : Nat) : ordN a b ≤ 0 ↔ a ≤ b := by
  unfold ordN
  by_cases h1 : a < b <;> by_cases h2 : b < a <;> simp [h1, h2] <;> omega
theorem cmpM_le (a b : CellM) : cmpM a b ≤ 0 ↔ (a.key.toList < b.key.toList ∨ a.key.toList = b.key.toList ∧ b.time ≤ a.time) := by
  unfold cmpM
  by_cases h : ordS a.key b.key = 0
  · have e := (ordS_zero _ _).1 h
    simp only [h, ne_eq, not_true_eq_false, if_false]
    rw [ordN_le, e]
    simp [List.lt_irrefl]
  · have e : ¬ a.key.toList = b.key.toList := fun e => h ((ordS_zero _ _).2 e)
    simp only [ne_eq, h, not_false_eq_true, if_true]
    rw [ordS_le]
    simp only [e, false_and, or_false]
    constructor
    · intro h1
      by_cases h2 : a.key.toList < b.key.toList
      · exact h2
      · exact absurd (List.le_antisymm h1 (List.not_lt.1 h2)) e
    · intro h1; exact List.le_of_lt h1
theorem cmpM_trans {a b c : CellM} (h1 : cmpM a b ≤ 0) (h2 : cmpM b c ≤ 0) : cmpM a c ≤ 0 := by
  rw [cmpM_le] at *
  rcases h1 with h1 | ⟨h1, g1⟩ <;> rcases h2 with h2 | ⟨h2, g2⟩
  · exact Or.inl (List.lt_trans h1 h2)
  · exact Or.inl (h2 ▸ h1)
  · exact Or.inl (h1 ▸ h2)
  · exact Or.inr ⟨h1.trans h2, Nat.le_trans g2 g1⟩

theorem cell_pile (w : World) (A B C : Obj) (W1 : World) (h : ((w.alloc A).alloc B).alloc C = W1) :
    W1.heap[w.heap.size]? = some A ∧ W1.heap[w.heap.size + 1]? = some B ∧ W1.heap[w.heap.size + 1 + 1]? = some C ∧ RowKit.Below w.heap.size w W1 := by
  subst h
  have z1 : (w.alloc A).heap.size = w.heap.size + 1 := by simp
  have z2 : ((w.alloc A).alloc B).heap.size = w.heap.size + 1 + 1 := by simp
  refine ⟨?_, ?_, ?_, ?_⟩
  · rw [RowKit.Below.heap_alloc _ _ _ (by omega), RowKit.Below.heap_alloc _ _ _ (by omega)]
    exact Go.heap_alloc_new w A
  · rw [RowKit.Below.heap_alloc _ _ _ (by omega)]
    have := Go.heap_alloc_new (w.alloc A) B
    rwa [z1] at this
  · have := Go.heap_alloc_new ((w.alloc A).alloc B) C
    rwa [z2] at this
  · have h1 := (RowKit.Below.refl w.heap.size w).alloc (Nat.le_refl _) A
    have h2 := h1.alloc h1.size B
    exact h2.alloc h2.size C

set_option maxRecDepth 100000 in
set_option maxHeartbeats 20000000 in
theorem walkCellsOrder (a b c : CellM) (w : World) :
    Calls Try.prog 3 #[cellV a, cellV b, cellV c] w fun e w' => e = .returned (.bool true) ∧ RowKit.Below w.heap.size w w' := by
  have C1 := Lib.hid (fun w => cmp_any a b w)
  have C2 := fun w => cmp_any b a w
  have C3 := Lib.hid (fun w => cmp_any b c w)
  have C4 := Lib.hid (fun w => cmp_any a c w)
  have C5 := Lib.hid (fun w => rcmp_any a b w)
  have AL := Lib.hid alive_any
  have hu : cmpM a b ≤ 0 → cmpM b c ≤ 0 → cmpM a c ≤ 0 := cmpM_trans
  have hx := cmpM_range a b
  rw [cmpM_neg a b] at C2
  replace C2 := Lib.hid C2
  generalize cmpM a b = x at *
  obtain ⟨y, hy⟩ : ∃ y, -x = y := ⟨_, rfl⟩
  rw [hy] at C2
  generalize cmpM b c = z at *
  generalize cmpM a c = u at *
  obtain ⟨ka, ta, da, va⟩ := a
  obtain ⟨kb, tb, db, vb⟩ := b
  obtain ⟨kc, tc, dc, vc⟩ := c
  unfold cellV at *
  simp only at *
  obtain ⟨W1, HW1⟩ : ∃ W, Hid (((w.alloc (.cells #[.string ka, .int .u64 ta, .bool da, .string va] 24)).alloc (.cells #[.string kb, .int .u64 tb, .bool db, .string vb] 24)).alloc (.cells #[.string kc, .int .u64 tc, .bool dc, .string vc] 24) = W) := ⟨_, Lib.hid rfl⟩
  obtain ⟨hA, hB, hC, hb1⟩ := cell_pile _ _ _ _ _ HW1.out
  have FC1 := regrown_below W1 C1.out
  have FC2 := regrown_below W1 C2.out
  have FC3 := regrown_below W1 C3.out
  have a0 := fun p os => cell_regrown (cell_of (i := 0) (v := .string ka) hA rfl) p os
  have a1 := fun p os => cell_regrown (cell_of (i := 1) (v := .int .u64 ta) hA rfl) p os
  have a2 := fun p os => cell_regrown (cell_of (i := 2) (v := .bool da) hA rfl) p os
  have a3 := fun p os => cell_regrown (cell_of (i := 3) (v := .string va) hA rfl) p os
  have b0 := fun p os => cell_regrown (cell_of (i := 0) (v := .string kb) hB rfl) p os
  have b1 := fun p os => cell_regrown (cell_of (i := 1) (v := .int .u64 tb) hB rfl) p os
  have b2 := fun p os => cell_regrown (cell_of (i := 2) (v := .bool db) hB rfl) p os
  have b3 := fun p os => cell_regrown (cell_of (i := 3) (v := .string vb) hB rfl) p os
  have c0 := fun p os => cell_regrown (cell_of (i := 0) (v := .string kc) hC rfl) p os
  have c1 := fun p os => cell_regrown (cell_of (i := 1) (v := .int .u64 tc) hC rfl) p os
  have c2 := fun p os => cell_regrown (cell_of (i := 2) (v := .bool dc) hC rfl) p os
  have c3 := fun p os => cell_regrown (cell_of (i := 3) (v := .string vc) hC rfl) p os
  have KA := Lib.hid hA
  have KB := Lib.hid hB
  have KC := Lib.hid hC
  have K1 := Lib.hid hb1
  clear hA hB hC hb1
  go_enter Try.func3, Try.ntmps3
  go_wp2_with fail
  rw [HW1.out]
  refine wp_region_quiet_below (by kernel_rfl) (by kernel_rfl) ?_
  go_big_quiet_step (exact FC1 _ _)
  go_big_quiet_step (exact FC1 _ _)
  go_big_quiet_step (exact FC1 _ _)
  go_big_quiet_step (exact FC2 _ _)
  go_big_quiet_step (exact FC2 _ _)
  go_big_quiet_step (exact FC2 _ _)
  go_big_quiet_step (exact FC3 _ _)
  go_big_quiet_step (exact FC3 _ _)
  go_big_quiet_step (exact FC3 _ _)
  repeat (go_big_quiet_step (fail))
  refine wpQuiet_nil ?_
  intro _ hw'
  obtain ⟨⟨dq, osq⟩, hw''⟩ := hw'
  subst hw''
  have hbq := below_regrown W1 dq osq
  have hA := cell_alloc_keep KA.out hbq
  have hB := cell_alloc_keep KB.out hbq
  have hC := cell_alloc_keep KC.out hbq
  have K5 := Lib.hid (K1.out.trans (hbq.mono K1.out.size))
  clear a0 a1 a2 a3 b0 b1 b2 b3 c0 c1 c2 c3 FC1 FC2 FC3 K1 KA KB KC hbq
  generalize grow (redrawn W1 dq) osq = w5 at *
  clear HW1
  have a0 : w5.cell? ⟨w.heap.size, 0, none⟩ = some (.string ka) := cell_of hA rfl
  have a1 : w5.cell? ⟨w.heap.size, 1, none⟩ = some (.int .u64 ta) := cell_of hA rfl
  have a2 : w5.cell? ⟨w.heap.size, 2, none⟩ = some (.bool da) := cell_of hA rfl
  have a3 : w5.cell? ⟨w.heap.size, 3, none⟩ = some (.string va) := cell_of hA rfl
  have b0 : w5.cell? ⟨w.heap.size + 1, 0, none⟩ = some (.string kb) := cell_of hB rfl
  have b1 : w5.cell? ⟨w.heap.size + 1, 1, none⟩ = some (.int .u64 tb) := cell_of hB rfl
  have b2 : w5.cell? ⟨w.heap.size + 1, 2, none⟩ = some (.bool db) := cell_of hB rfl
  have b3 : w5.cell? ⟨w.heap.size + 1, 3, none⟩ = some (.string vb) := cell_of hB rfl
  rcases hx with rfl | rfl | rfl
  · obtain rfl : y = 1 := by omega
    clear hy
    by_cases hz1 : 0 < z
    · have q2 : decide (0 < z) = true := by simpa using hz1
      clear hu hz1
      go_wp2_with fail
      refine (C5.out _).mono ?_
      rintro e w6 ⟨rfl, hb6⟩
      have K6 := Lib.hid (K5.out.trans (hb6.mono K5.out.size))
      clear hb6
      go_wp2_with fail
      refine (AL.out _).mono ?_
      rintro e w8 ⟨rfl, hb8⟩
      have K8 := Lib.hid (K6.out.trans (hb8.mono K6.out.size))
      clear hb8 hA hB hC
      go_wp2
      go_ret
      exact ⟨rfl, K8.out⟩
    · have q2 : decide (0 < z) = false := by simpa using hz1
      have q3 : decide (u ≤ 0) = true := by simpa using hu (by decide) (by omega)
      clear hu hz1
      go_wp2_with fail
      refine (C5.out _).mono ?_
      rintro e w6 ⟨rfl, hb6⟩
      have hA' := cell_alloc_keep hA hb6
      have hB' := cell_alloc_keep hB hb6
      have hC' := cell_alloc_keep hC hb6
      have a0' : w6.cell? ⟨w.heap.size, 0, none⟩ = some (.string ka) := cell_of hA' rfl
      have a1' : w6.cell? ⟨w.heap.size, 1, none⟩ = some (.int .u64 ta) := cell_of hA' rfl
      have a2' : w6.cell? ⟨w.heap.size, 2, none⟩ = some (.bool da) := cell_of hA' rfl
      have a3' : w6.cell? ⟨w.heap.size, 3, none⟩ = some (.string va) := cell_of hA' rfl
      have c0' : w6.cell? ⟨w.heap.size + 1 + 1, 0, none⟩ = some (.string kc) := cell_of hC' rfl
      have c1' : w6.cell? ⟨w.heap.size + 1 + 1, 1, none⟩ = some (.int .u64 tc) := cell_of hC' rfl
      have c2' : w6.cell? ⟨w.heap.size + 1 + 1, 2, none⟩ = some (.bool dc) := cell_of hC' rfl
      have c3' : w6.cell? ⟨w.heap.size + 1 + 1, 3, none⟩ = some (.string vc) := cell_of hC' rfl
      have K6 := Lib.hid (K5.out.trans (hb6.mono K5.out.size))
      clear hA' hB' hC' hb6
      go_wp2_with fail
      refine (C4.out _).mono ?_
      rintro e w7 ⟨rfl, hb7⟩
      have K7 := Lib.hid (K6.out.trans (hb7.mono K6.out.size))
      go_wp2_with fail
      refine (AL.out _).mono ?_
      rintro e w8 ⟨rfl, hb8⟩
      have K8 := Lib.hid (K7.out.trans (hb8.mono K7.out.size))
      clear hb8 hA hB hC
      go_wp2
      go_ret
      exact ⟨rfl, K8.out⟩
  · obtain rfl : y = 0 := by omega
    clear hy
    by_cases hz1 : 0 < z
    · have q2 : decide (0 < z) = true := by simpa using hz1
      clear hu hz1
      go_wp2_with fail
      refine (C5.out _).mono ?_
      rintro e w6 ⟨rfl, hb6⟩
      have K6 := Lib.hid (K5.out.trans (hb6.mono K5.out.size))
      clear hb6
      go_wp2_with fail
      refine (AL.out _).mono ?_
      rintro e w8 ⟨rfl, hb8⟩
      have K8 := Lib.hid (K6.out.trans (hb8.mono K6.out.size))
      clear hb8 hA hB hC
      go_wp2
      go_ret
      exact ⟨rfl, K8.out⟩
    · have q2 : decide (0 < z) = false := by simpa using hz1
      have q3 : decide (u ≤ 0) = true := by simpa using hu (by decide) (by omega)
      clear hu hz1
      go_wp2_with fail
      refine (C5.out _).mono ?_
      rintro e w6 ⟨rfl, hb6⟩
      have hA' := cell_alloc_keep hA hb6
      have hB' := cell_alloc_keep hB hb6
      have hC' := cell_alloc_keep hC hb6
      have a0' : w6.cell? ⟨w.heap.size, 0, none⟩ = some (.string ka) := cell_of hA' rfl
      have a1' : w6.cell? ⟨w.heap.size, 1, none⟩ = some (.int .u64 ta) := cell_of hA' rfl
      have a2' : w6.cell? ⟨w.heap.size, 2, none⟩ = some (.bool da) := cell_of hA' rfl
      have a3' : w6.cell? ⟨w.heap.size, 3, none⟩ = some (.string va) := cell_of hA' rfl
      have c0' : w6.cell? ⟨w.heap.size + 1 + 1, 0, none⟩ = some (.string kc) := cell_of hC' rfl
      have c1' : w6.cell? ⟨w.heap.size + 1 + 1, 1, none⟩ = some (.int .u64 tc) := cell_of hC' rfl
      have c2' : w6.cell? ⟨w.heap.size + 1 + 1, 2, none⟩ = some (.bool dc) := cell_of hC' rfl
      have c3' : w6.cell? ⟨w.heap.size + 1 + 1, 3, none⟩ = some (.string vc) := cell_of hC' rfl
      have K6 := Lib.hid (K5.out.trans (hb6.mono K5.out.size))
      clear hA' hB' hC' hb6
      go_wp2_with fail
      refine (C4.out _).mono ?_
      rintro e w7 ⟨rfl, hb7⟩
      have K7 := Lib.hid (K6.out.trans (hb7.mono K6.out.size))
      go_wp2_with fail
      refine (AL.out _).mono ?_
      rintro e w8 ⟨rfl, hb8⟩
      have K8 := Lib.hid (K7.out.trans (hb8.mono K7.out.size))
      clear hb8 hA hB hC
      go_wp2
      go_ret
      exact ⟨rfl, K8.out⟩
  · obtain rfl : y = -1 := by omega
    clear hu hy
    go_wp2_with fail
    refine (C5.out _).mono ?_
    rintro e w6 ⟨rfl, hb6⟩
    have K6 := Lib.hid (K5.out.trans (hb6.mono K5.out.size))
    clear hb6
    go_wp2_with fail
    refine (AL.out _).mono ?_
    rintro e w8 ⟨rfl, hb8⟩
    have K8 := Lib.hid (K6.out.trans (hb8.mono K6.out.size))
    clear hb8 hA hB hC
    go_wp2
    go_ret
    exact ⟨rfl, K8.out⟩

theorem u64_of {n : Int} (h : (Lit.int .u64 n).wf = true) : ∃ m : Nat, n = m ∧ m < 18446744073709551616 := by
  simp [Lit.wf, IntKind.min, IntKind.max, IntKind.bits, IntKind.signed] at h
  exact ⟨n.toNat, by omega, by omega⟩
set_option maxRecDepth 100000 in
theorem open_cell {H : Type} {enc : TypeId × Value → H} {W : World} {r : Reach} {b0 base : Nat} {spare : Nat → Bool} {held : Bool} {v : Value} {d : DataW H} {p : List MemPlace}
    (hv : Value.okWide Try.prog W r b0 24 v) (h : DataW.Trod enc Try.prog W base spare held 24 v d p) : ∃ x : CellM, v = cellV x ∧ x.time < 18446744073709551616 ∧ p = [] := by
  obtain ⟨v0, v1, v2, v3, y0, y1, y2, y3, n, rfl, rfl, rfl, h0, h1, h2, h3⟩ := Go.Joins.open_agg4 Try.underlying24 (by kernel_rfl) (by kernel_rfl) hv h
  obtain ⟨s0, e0, f0, g0⟩ := DataW.trod_string Try.underlying9 h0
  obtain ⟨n1, e1, f1, g1⟩ := DataW.trod_int Try.underlying22 h1
  obtain ⟨b2, e2, f2⟩ := DataW.trod_bool Try.underlying4 h2
  obtain ⟨s3, e3, f3, g3⟩ := DataW.trod_string Try.underlying9 h3
  simp only [List.cons.injEq, and_true] at e0 e1 e2 e3
  subst e0; subst e1; subst e2; subst e3
  obtain ⟨m, rfl, hm⟩ := u64_of g1
  subst f0; subst f1; subst f2; subst f3
  exact ⟨⟨s0, m, b2, s3⟩, rfl, hm, rfl⟩
end Go.Proofs.Ytnhookblhckmlaa
