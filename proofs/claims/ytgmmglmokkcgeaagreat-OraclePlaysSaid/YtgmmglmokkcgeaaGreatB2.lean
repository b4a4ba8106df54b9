/- Walks: Tablet; the law's given. -/
import Derived.Test.YtgmmglmokkcgeaaGreatB1
namespace Go.Proofs.YtgmmglmokkcgeaaGreat
set_option linter.unusedVariables false
set_option linter.unusedSimpArgs false
open Go.RowKit Mk Go.Sort

theorem fin5 {w : World} {kb : Nat} {t : TypeId} {c0 c1 c2 c3 c4 : Value} (h : w.heap[kb]? = some (.cells #[c0, c1, c2, c3, c4] t)) (v0 v1 v2 v3 v4 : Value) :
    (((((w.setCell ⟨kb, 0, none⟩ v0).setCell ⟨kb, 1, none⟩ v1).setCell ⟨kb, 2, none⟩ v2).setCell ⟨kb, 3, none⟩ v3).setCell ⟨kb, 4, none⟩ v4).heap[kb]? = some (.cells #[v0, v1, v2, v3, v4] t) ∧
    Chg (fun g => g = kb) w (((((w.setCell ⟨kb, 0, none⟩ v0).setCell ⟨kb, 1, none⟩ v1).setCell ⟨kb, 2, none⟩ v2).setCell ⟨kb, 3, none⟩ v3).setCell ⟨kb, 4, none⟩ v4) := by
  have h0 : (w.setCell ⟨kb, 0, none⟩ v0).heap[kb]? = some (.cells #[v0, c1, c2, c3, c4] t) := by rw [Mk.heap_setCell_same h v0]; rfl
  have k0 : Chg (fun g => g = kb) w (w.setCell ⟨kb, 0, none⟩ v0) := (Chg.refl (fun g => g = kb) w).setCell (a := ⟨kb, 0, none⟩) (Or.inl rfl) v0
  generalize (w.setCell ⟨kb, 0, none⟩ v0) = w0 at *
  have h1 : (w0.setCell ⟨kb, 1, none⟩ v1).heap[kb]? = some (.cells #[v0, v1, c2, c3, c4] t) := by rw [Mk.heap_setCell_same h0 v1]; rfl
  have k1 : Chg (fun g => g = kb) w (w0.setCell ⟨kb, 1, none⟩ v1) := k0.setCell (a := ⟨kb, 1, none⟩) (Or.inl rfl) v1
  generalize (w0.setCell ⟨kb, 1, none⟩ v1) = w1 at *
  have h2 : (w1.setCell ⟨kb, 2, none⟩ v2).heap[kb]? = some (.cells #[v0, v1, v2, c3, c4] t) := by rw [Mk.heap_setCell_same h1 v2]; rfl
  have k2 : Chg (fun g => g = kb) w (w1.setCell ⟨kb, 2, none⟩ v2) := k1.setCell (a := ⟨kb, 2, none⟩) (Or.inl rfl) v2
  generalize (w1.setCell ⟨kb, 2, none⟩ v2) = w2 at *
  have h3 : (w2.setCell ⟨kb, 3, none⟩ v3).heap[kb]? = some (.cells #[v0, v1, v2, v3, c4] t) := by rw [Mk.heap_setCell_same h2 v3]; rfl
  have k3 : Chg (fun g => g = kb) w (w2.setCell ⟨kb, 3, none⟩ v3) := k2.setCell (a := ⟨kb, 3, none⟩) (Or.inl rfl) v3
  generalize (w2.setCell ⟨kb, 3, none⟩ v3) = w3 at *
  have h4 : (w3.setCell ⟨kb, 4, none⟩ v4).heap[kb]? = some (.cells #[v0, v1, v2, v3, v4] t) := by rw [Mk.heap_setCell_same h3 v4]; rfl
  have k4 : Chg (fun g => g = kb) w (w3.setCell ⟨kb, 4, none⟩ v4) := k3.setCell (a := ⟨kb, 4, none⟩) (Or.inl rfl) v4
  exact ⟨h4, k4⟩
section
variable {w : World} {b : Nat} {R : Loc} {F : Nat → Prop} {n : OM}
set_option maxRecDepth 100000 in
set_option maxHeartbeats 2000000 in
theorem tablet_any (h : OrRep w b R F n) {x : ByteArray} (hx : x.size ≤ maxLen) : Calls Tryz.prog 8 #[.pointer (some ⟨b, 0, none⟩), .string x] w fun e w' => e = .returned (.tuple #[tbV ((lk n.tab x).getD .zero), .bool (lk n.tab x).isSome]) ∧ Chg (fun _ => False) w w' := by
  have h' := h.same ((Chg.refl (fun _ => False) w).alloc (.cells #[.string ⟨#[]⟩, .int .u32 0, .int .u32 0, .int .u64 0, .int .u64 0] 41))
  have c6 := h'.c6
  have hlt := h'.lt
  have hl := h'.lookT hx
  have NN := Lib.hid (none_any h')
  clear h' h
  generalize (lk n.tab x).getD .zero = T at *
  generalize (lk n.tab x).isSome = Z at *
  unfold tbV at hl ⊢
  obtain ⟨W1, HW1⟩ : ∃ W1, Hid (w.alloc (.cells #[.string ⟨#[]⟩, .int .u32 0, .int .u32 0, .int .u64 0, .int .u64 0] 41) = W1) := ⟨_, Lib.hid rfl⟩
  obtain ⟨kb, HKB⟩ : ∃ kb, Hid (w.heap.size = kb) := ⟨_, Lib.hid rfl⟩
  have hkc : W1.heap[kb]? = some (.cells #[.string ⟨#[]⟩, .int .u32 0, .int .u32 0, .int .u64 0, .int .u64 0] 41) := by rw [← HW1.out, ← HKB.out]; exact Go.heap_alloc_new _ _
  have HKC := Lib.hid hkc
  have hkl : kb < W1.heap.size := (Array.getElem?_eq_some_iff.1 hkc).1
  have HC := Lib.hid (show Chg (fun _ => False) w W1 by rw [← HW1.out]; exact (Chg.refl _ _).alloc _)
  rw [HW1.out] at c6 hlt hl NN
  clear hkc
  go_enter Tryz.func8, Tryz.ntmps8
  go_wp2_with fail
  rw [HW1.out, HKB.out]
  refine NN.out.mono ?_
  rintro e w1 ⟨rfl, rfl⟩
  have q0 : w1.cell? ⟨kb, 0, none⟩ = some (.string ⟨#[]⟩) := cell_of HKC.out rfl
  have q1 : w1.cell? ⟨kb, 1, none⟩ = some (.int .u32 0) := cell_of HKC.out rfl
  have q2 : w1.cell? ⟨kb, 2, none⟩ = some (.int .u32 0) := cell_of HKC.out rfl
  have q3 : w1.cell? ⟨kb, 3, none⟩ = some (.int .u64 0) := cell_of HKC.out rfl
  have q4 : w1.cell? ⟨kb, 4, none⟩ = some (.int .u64 0) := cell_of HKC.out rfl
  have f0 : w1.frozen? ⟨kb, 0, none⟩ = false := frozen_of HKC.out
  have f1 : w1.frozen? ⟨kb, 1, none⟩ = false := frozen_of HKC.out
  have f2 : w1.frozen? ⟨kb, 2, none⟩ = false := frozen_of HKC.out
  have f3 : w1.frozen? ⟨kb, 3, none⟩ = false := frozen_of HKC.out
  have f4 : w1.frozen? ⟨kb, 4, none⟩ = false := frozen_of HKC.out
  go_wp2
  obtain ⟨g1, g2⟩ := fin5 HKC.out (.string T.p) (.int .u32 (T.g : Nat)) (.int .u32 (T.«to» : Nat)) (.int .u64 (T.at_ : Nat)) (.int .u64 (T.tn : Nat))
  have hks : kb < (((((w1.setCell ⟨kb, 0, none⟩ (.string T.p)).setCell ⟨kb, 1, none⟩ (.int .u32 (T.g : Nat))).setCell ⟨kb, 2, none⟩ (.int .u32 (T.«to» : Nat))).setCell ⟨kb, 3, none⟩ (.int .u64 (T.at_ : Nat))).setCell ⟨kb, 4, none⟩ (.int .u64 (T.tn : Nat))).heap.size := (Array.getElem?_eq_some_iff.1 g1).1
  refine bodyPost_ret (results_cell_row_tmp (p := 4) (u := 5) (ty := 41) rfl _ _ kb 41 _ (0, 0) _ rfl ((Below.heap_alloc _ _ _ hks).trans g1) Tryz.underlying41 rfl (by kernel_rfl)) rfl ⟨rfl, (HC.out.trans' g2 (fun i hi => Or.inr (by have := HKB.out; omega))).alloc _⟩
end
end Go.Proofs.YtgmmglmokkcgeaaGreat
