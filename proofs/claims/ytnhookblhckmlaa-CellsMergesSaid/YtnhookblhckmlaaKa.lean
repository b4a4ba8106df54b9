/- Walks: CellsNil. -/
import Derived.Test.YtnhookblhckmlaaK9
namespace Go.Proofs.Ytnhookblhckmlaa
open Go.RowKit Mk

theorem trim_nil (t : Nat) (w : World) :
    Calls Try.prog 15 #[.pointer none, .int .u64 t] w fun e w' => e = .returned (.int .i64 0) ∧ RowKit.Below w.heap.size w w' := by
  go_enter Try.func15, Try.ntmps15
  go_wp2_with fail
  refine (not_nil _).mono ?_
  rintro e w' ⟨rfl, rfl⟩
  go_wp2
  go_ret
  exact ⟨rfl, (Below.refl _ _).alloc (Nat.le_refl _) _⟩
theorem copy_nil (w : World) :
    Calls Try.prog 14 #[.pointer none] w fun e w' => e = .returned (.pointer none) ∧ w' = w := by
  go_enter Try.func14, Try.ntmps14
  go_wp2_with fail
  refine (not_nil _).mono ?_
  rintro e w' ⟨rfl, rfl⟩
  go_wp2
  go_ret
  exact ⟨rfl, rfl⟩
theorem run_eql_func {P : Program} (w : World) (t : TypeId) (f : Fn) (a b : Array Value) (h : ∃ x y z, P.underlying t = some (.func x y z)) : (binOp .eql t (.func f a b) .nilFunc).run P w = .ok (.bool false) w := by
  obtain ⟨x, y, z, h⟩ := h
  have h1 : ∀ d, (Op.equalIn (d + 1) t (.func f a b) .nilFunc).run P w = .ok false w := fun d => by simp [Op.equalIn, run_underlying h]
  simp only [binOp]
  simp [show Op.equal t (.func f a b) .nilFunc = Op.equalIn (9999 + 1) t (.func f a b) .nilFunc from rfl, h1 9999]
theorem func46 : ∃ a b c, Try.prog.underlying 46 = some (.func a b c) := by
  have h : (match Try.prog.underlying 46 with | some (.func ..) => true | _ => false) = true := by kernel_rfl
  split at h
  · rename_i a b c e; exact ⟨a, b, c, e⟩
  · cases h

theorem all_idle (w : World) :
    Calls Try.prog 23 #[.pointer none] w fun e w' => ∃ lb, e = .returned (.func (.func 41) #[] lb) ∧ Idle 41 lb w' ∧ RowKit.Below w.heap.size w w' := by
  refine (all_makes none w).mono ?_
  rintro e w' ⟨rfl, rfl⟩
  exact ⟨_, rfl, idle41 _ _ (Boxed.cell (Boxed.new w 29 (.pointer none))) (by simp), (Below.refl _ w).alloc (Nat.le_refl _) _⟩
theorem scan_idle (a b : ByteArray) (t : Nat) (w : World) :
    Calls Try.prog 19 #[.pointer none, .string a, .string b, .int .u64 t] w fun e w' => ∃ lb, e = .returned (.func (.func 40) #[] lb) ∧ Idle 40 lb w' ∧ RowKit.Below w.heap.size w w' := by
  refine (scan_makes none a b t w).mono ?_
  rintro e w' ⟨rfl, rfl⟩
  refine ⟨_, rfl, idle40 _ _ _ _ _ ?_ (by simp; omega), ((((Below.refl _ w).alloc (Nat.le_refl _) _).alloc (by simp) _).alloc (by simp; omega) _).alloc (by simp; omega) _⟩
  exact Boxed.cell ((((Boxed.new w 29 (.pointer none)).alloc _).alloc _).alloc _)

set_option maxRecDepth 100000 in
set_option maxHeartbeats 2000000 in
theorem walkCellsNil (x : CellM) (k : ByteArray) (t : Nat) (w : World) :
    Calls Try.prog 6 #[cellV x, .string k, .int .u64 t] w fun e w' => e = .returned (.bool true) ∧ RowKit.Below w.heap.size w w' := by
  obtain ⟨xk, xt, xd, xv⟩ := x
  unfold cellV
  simp only
  have AL := Lib.hid alive_any
  have q1 := fun w f a b => run_eql_func (P := Try.prog) w 46 f a b func46
  obtain ⟨W1, HW1⟩ : ∃ W, Hid (w.alloc (.cells #[.string xk, .int .u64 xt, .bool xd, .string xv] 24) = W) := ⟨_, Lib.hid rfl⟩
  have hs1 : W1.heap.size = w.heap.size + 1 := by rw [← HW1.out]; simp
  have hb1 : RowKit.Below w.heap.size w W1 := by rw [← HW1.out]; exact (Below.refl _ w).alloc (Nat.le_refl _) _
  obtain ⟨W2, HW2⟩ : ∃ W, Hid (W1.alloc (.cells #[.string xk, .int .u64 xt, .bool xd, .string xv] 24) = W) := ⟨_, Lib.hid rfl⟩
  have hx2 : W2.heap[W1.heap.size]? = some (.cells #[.string xk, .int .u64 xt, .bool xd, .string xv] 24) := by rw [← HW2.out]; exact Go.heap_alloc_new _ _
  have hb2 : RowKit.Below w.heap.size w W2 := by rw [← HW2.out]; exact hb1.alloc hb1.size _
  have P1 := put_nil (has_one ⟨xk, xt, xd, xv⟩ hx2)
  have B2 := Lib.hid hb2
  rw [hs1] at P1
  clear hb1 hb2 hx2
  have G := Lib.hid (fun w => get_nil k t w)
  unfold seenV cellV zeroC at G
  simp only at G
  go_enter Try.func6, Try.ntmps6
  go_wp2_with fail
  rw [HW1.out, HW2.out]
  refine P1.mono ?_
  rintro e w' ⟨rfl, rfl⟩
  clear P1 HW1 HW2
  go_wp2_with fail
  refine (G.out _).mono ?_
  rintro e w3 ⟨rfl, hb3⟩
  have B3 := Lib.hid (B2.out.trans (hb3.mono B2.out.size))
  clear hb3 G B2
  obtain ⟨W4, HW4⟩ : ∃ W, Hid (w3.alloc (.cells #[.string ⟨#[]⟩, .int .u64 0, .bool false, .string ⟨#[]⟩] 24) = W) := ⟨_, Lib.hid rfl⟩
  have hx4 : W4.heap[w3.heap.size]? = some (.cells #[.string ⟨#[]⟩, .int .u64 0, .bool false, .string ⟨#[]⟩] 24) := by rw [← HW4.out]; exact Go.heap_alloc_new _ _
  have B4 := Lib.hid (show RowKit.Below w.heap.size w W4 from by rw [← HW4.out]; exact B3.out.alloc B3.out.size _)
  have HX4 := Lib.hid hx4
  clear hx4 B3
  go_wp2_with fail
  rw [HW4.out]
  refine (all_idle _).mono ?_
  rintro e w5 ⟨lb5, rfl, -, hb5⟩
  have HX5 := Lib.hid (cell_alloc_keep HX4.out hb5)
  have B5 := Lib.hid (B4.out.trans (hb5.mono B4.out.size))
  clear hb5 HX4 B4
  go_wp2_with fail
  refine (scan_idle _ _ _ _).mono ?_
  rintro e w6 ⟨lb6, rfl, -, hb6⟩
  have hx6 := cell_alloc_keep HX5.out hb6
  have B6 := Lib.hid (B5.out.trans (hb6.mono B5.out.size))
  have y0 : w6.cell? ⟨w3.heap.size, 0, none⟩ = some (.string ⟨#[]⟩) := cell_of hx6 rfl
  have y1 : w6.cell? ⟨w3.heap.size, 1, none⟩ = some (.int .u64 0) := cell_of hx6 rfl
  have y2 : w6.cell? ⟨w3.heap.size, 2, none⟩ = some (.bool false) := cell_of hx6 rfl
  have y3 : w6.cell? ⟨w3.heap.size, 3, none⟩ = some (.string ⟨#[]⟩) := cell_of hx6 rfl
  clear hb6 HX5 B5 hx6
  have T41 := Lib.hid (fun w lb (h : Idle 41 lb w) => took_none (g := 41) (enters_of Try.func41 (by kernel_rfl) rfl) w h)
  have T40 := Lib.hid (fun w lb (h : Idle 40 lb w) => took_none (g := 40) (enters_of Try.func40 (by kernel_rfl) rfl) w h)
  go_wp2_with fail
  refine (all_idle _).mono ?_
  rintro e w7 ⟨lb7, rfl, hi7, hb7⟩
  have B7 := Lib.hid (B6.out.trans (hb7.mono B6.out.size))
  have HI7 := Lib.hid hi7
  clear hb7 hi7 y0 y1 y2 y3 B6
  go_wp2_with fail
  refine (T41.out _ _ HI7.out).mono ?_
  rintro e w8 ⟨rfl, hb8⟩
  have B8 := Lib.hid (B7.out.trans (hb8.mono B7.out.size))
  clear hb8 HI7 B7
  go_wp2_with fail
  refine (scan_idle _ _ _ _).mono ?_
  rintro e w9 ⟨lb9, rfl, hi9, hb9⟩
  have B9 := Lib.hid (B8.out.trans (hb9.mono B8.out.size))
  have HI9 := Lib.hid hi9
  clear hb9 hi9 B8
  go_wp2_with fail
  refine (T40.out _ _ HI9.out).mono ?_
  rintro e wa ⟨rfl, hba⟩
  have Ba := Lib.hid (B9.out.trans (hba.mono B9.out.size))
  clear hba HI9 B9
  go_wp2_with fail
  refine (len_nil _).mono ?_
  rintro e wb ⟨rfl, rfl⟩
  go_wp2_with fail
  refine (trim_nil _ _).mono ?_
  rintro e wc ⟨rfl, hbc⟩
  have Bc := Lib.hid (Ba.out.trans (hbc.mono Ba.out.size))
  clear hbc Ba
  go_wp2_with fail
  refine (copy_nil _).mono ?_
  rintro e wd ⟨rfl, rfl⟩
  go_wp2_with fail
  refine (AL.out _).mono ?_
  rintro e we ⟨rfl, hbe⟩
  have Be := Lib.hid (Bc.out.trans (hbe.mono Bc.out.size))
  clear hbe Bc
  go_wp2
  go_ret
  exact ⟨rfl, Be.out⟩
end Go.Proofs.Ytnhookblhckmlaa
