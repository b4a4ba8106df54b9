/- Walks: a loop that is not there; no step, no reader; ApplyNil. -/
import Derived.Test.YtcaemfogknaioaaD4
namespace Go.Proofs.Ytcaemfogknaioaa
open Go.RowKit Mk Go.Sort

theorem run_eql_nilfunc {P : Program} (w : World) (t : TypeId) (h : ∃ a b c, P.underlying t = some (.func a b c)) : (binOp .eql t .nilFunc .nilFunc).run P w = .ok (.bool true) w := by
  obtain ⟨a, b, c, h⟩ := h
  have h1 : ∀ d, (Op.equalIn (d + 1) t .nilFunc .nilFunc).run P w = .ok true w := fun d => by simp [Op.equalIn, run_underlying h]
  simp only [binOp]
  simp [show Op.equal t .nilFunc .nilFunc = Op.equalIn (9999 + 1) t .nilFunc .nilFunc from rfl, h1 9999]
theorem func55 : ∃ a b c, Try.prog.underlying 55 = some (.func a b c) := by
  have h : (match Try.prog.underlying 55 with | some (.func ..) => true | _ => false) = true := by kernel_rfl
  split at h
  · rename_i a b c e; exact ⟨a, b, c, e⟩
  · cases h
theorem func59 : ∃ a b c, Try.prog.underlying 59 = some (.func a b c) := by
  have h : (match Try.prog.underlying 59 with | some (.func ..) => true | _ => false) = true := by kernel_rfl
  split at h
  · rename_i a b c e; exact ⟨a, b, c, e⟩
  · cases h

theorem not_nil (w : World) : Calls Try.prog 38 #[.pointer none] w fun e w' => e = .returned (.bool true) ∧ w' = w := by
  go_enter Try.func38, Try.ntmps38
  go_wp2
  go_ret
  exact ⟨rfl, rfl⟩
theorem nil_apply (idx : Int) (c0 c1 c2 c3 : Value) (w : World) : Calls Try.prog 16 #[.pointer none, .int .u64 idx, .agg #[c0, c1, c2, c3]] w fun e w' => e = .returned (.tuple #[.string ⟨#[]⟩, .int .i64 1]) ∧ Below w.heap.size w w' := by
  have hB : Below w.heap.size w (w.alloc (.cells #[c0, c1, c2, c3] 45)) := (Below.refl _ _).alloc (Nat.le_refl _) _
  go_enter Try.func16, Try.ntmps16
  go_wp2_with fail
  refine (not_nil _).mono ?_
  rintro e w' ⟨rfl, rfl⟩
  go_wp2
  go_ret2
  exact ⟨rfl, hB⟩
theorem nil_last (c : Int) (w : World) : Calls Try.prog 19 #[.pointer none, .int .u64 c] w fun e w' => e = .returned (.tuple #[.int .u64 0, .string ⟨#[]⟩, .bool false]) ∧ w' = w := by
  go_enter Try.func19, Try.ntmps19
  go_wp2_with fail
  refine (not_nil _).mono ?_
  rintro e w' ⟨rfl, rfl⟩
  go_wp2
  go_ret3
  exact ⟨rfl, rfl⟩
theorem nil_bytes (f : Value) (w : World) : Calls Try.prog 23 #[.pointer none, f] w fun e w' => e = .returned (.tuple #[.string ⟨#[]⟩, .int .i64 1]) ∧ w' = w := by
  go_enter Try.func23, Try.ntmps23
  go_wp2_with fail
  refine (not_nil _).mono ?_
  rintro e w' ⟨rfl, rfl⟩
  go_wp2
  go_ret2
  exact ⟨rfl, rfl⟩
theorem not_of (w : World) (b : Nat) (c1 : w.cell? ⟨b, 1, none⟩ = some (.func (.func 14) #[] #[])) : Calls Try.prog 38 #[.pointer (some ⟨b, 0, none⟩)] w fun e w' => e = .returned (.bool false) ∧ w' = w := by
  have hq := run_eql_func (P := Try.prog) w 38 func38 (.func 14) #[] #[]
  go_enter Try.func38, Try.ntmps38
  go_wp2
  go_ret
  exact ⟨rfl, rfl⟩
theorem bytes_nil (w : World) (b : Nat) (c1 : w.cell? ⟨b, 1, none⟩ = some (.func (.func 14) #[] #[])) : Calls Try.prog 23 #[.pointer (some ⟨b, 0, none⟩), .nilFunc] w fun e w' => e = .returned (.tuple #[.string ⟨#[]⟩, .int .i64 2]) ∧ w' = w := by
  have A := Lib.hid (not_of w b c1)
  have hq := run_eql_nilfunc (P := Try.prog) w 59 func59
  clear c1
  go_enter Try.func23, Try.ntmps23
  go_wp2_with fail
  refine A.out.mono ?_
  rintro e w' ⟨rfl, rfl⟩
  go_wp2
  go_ret2
  exact ⟨rfl, rfl⟩
theorem new_raw (s : ByteArray) (w : World) : Calls Try.prog 13 #[.string s, .func (.func 14) #[] #[]] w fun e w' => ∃ b, e = .returned (.pointer (some ⟨b, 0, none⟩)) ∧ Below w.heap.size w w' ∧ w'.cell? ⟨b, 1, none⟩ = some (.func (.func 14) #[] #[]) := by
  have hmm : ∀ v : World, (Instr.makeMap 77 none).run Try.prog v = .ok (.map (some v.heap.size)) (v.alloc (.map #[] 0)) := fun v => run_makeMap 77 v
  have hq := run_eql_func (P := Try.prog) w 38 func38 (.func 14) #[] #[]
  have hB : Below w.heap.size w ((w.alloc (.map #[] 0)).alloc (.cells #[.string s, .func (.func 14) #[] #[], .int .u64 0, .map (some w.heap.size)] 79)) := below_of_chg (((Chg.refl _ w).alloc _).alloc _)
  have hC : ((w.alloc (.map #[] 0)).alloc (.cells #[.string s, .func (.func 14) #[] #[], .int .u64 0, .map (some w.heap.size)] 79)).cell? ⟨w.heap.size + 1, 1, none⟩ = some (.func (.func 14) #[] #[]) := by
    have := Go.heap_alloc_new (w.alloc (.map #[] 0)) (.cells #[.string s, .func (.func 14) #[] #[], .int .u64 0, .map (some w.heap.size)] 79)
    rw [show (w.alloc (.map #[] 0)).heap.size = w.heap.size + 1 by simp] at this
    exact cell_of this (by simp)
  go_enter Try.func13, Try.ntmps13
  go_wp2
  go_ret
  exact ⟨_, rfl, hB, hC⟩
theorem nil_state (w : World) : Calls Try.prog 18 #[.pointer none] w fun e w' => e = .returned (.string ⟨#[]⟩) ∧ w' = w := by
  go_enter Try.func18, Try.ntmps18
  go_wp2_with fail
  refine (not_nil _).mono ?_
  rintro e w' ⟨rfl, rfl⟩
  go_wp2
  go_ret
  exact ⟨rfl, rfl⟩
theorem nil_index (w : World) : Calls Try.prog 17 #[.pointer none] w fun e w' => e = .returned (.int .u64 0) ∧ w' = w := by
  go_enter Try.func17, Try.ntmps17
  go_wp2_with fail
  refine (not_nil _).mono ?_
  rintro e w' ⟨rfl, rfl⟩
  go_wp2
  go_ret
  exact ⟨rfl, rfl⟩
theorem nil_copy (w : World) : Calls Try.prog 26 #[.pointer none] w fun e w' => e = .returned (.pointer none) ∧ w' = w := by
  go_enter Try.func26, Try.ntmps26
  go_wp2_with fail
  refine (not_nil _).mono ?_
  rintro e w' ⟨rfl, rfl⟩
  go_wp2
  go_ret
  exact ⟨rfl, rfl⟩
theorem new_nil (s : ByteArray) (w : World) : Calls Try.prog 13 #[.string s, .nilFunc] w fun e w' => e = .returned (.pointer none) ∧ w' = w := by
  have hq := run_eql_nilfunc (P := Try.prog) w 38 func38
  go_enter Try.func13, Try.ntmps13
  go_wp2
  go_ret
  exact ⟨rfl, rfl⟩
theorem read_nil1 (s : ByteArray) (f : Value) (w : World) : Calls Try.prog 20 #[.string s, .nilFunc, f] w fun e w' => e = .returned (.tuple #[.pointer none, .int .i64 2]) ∧ Below w.heap.size w w' := by
  have hB : Below w.heap.size w (w.alloc (.cells #[.string s] 9)) := (Below.refl _ _).alloc (Nat.le_refl _) _
  have hq := fun w => run_eql_nilfunc (P := Try.prog) w 55 func55
  go_enter Try.func20, Try.ntmps20
  go_wp2
  go_ret2
  exact ⟨rfl, hB⟩
theorem read_nil2 (s : ByteArray) (w : World) : Calls Try.prog 20 #[.string s, .func (.func 21) #[] #[], .nilFunc] w fun e w' => e = .returned (.tuple #[.pointer none, .int .i64 2]) ∧ Below w.heap.size w w' := by
  have hB : Below w.heap.size w (w.alloc (.cells #[.string s] 9)) := (Below.refl _ _).alloc (Nat.le_refl _) _
  have hq := fun w => run_eql_nilfunc (P := Try.prog) w 38 func38
  have hq2 := fun w => run_eql_func (P := Try.prog) w 55 func55 (.func 21) #[] #[]
  go_enter Try.func20, Try.ntmps20
  go_wp2
  go_ret2
  exact ⟨rfl, hB⟩

set_option maxRecDepth 100000 in
set_option maxHeartbeats 4000000 in
theorem walkApplyNil (a0 : Int) (c0 c1 c2 c3 : Value) (a2 : ByteArray) (w : World) :
    Calls Try.prog 7 #[.int .u64 a0, .agg #[c0, c1, c2, c3], .string a2] w fun e w' => e = .returned (.bool true) ∧ Below w.heap.size w w' := by
  have hB : Below w.heap.size w (w.alloc (.cells #[c0, c1, c2, c3] 45)) := (Below.refl _ _).alloc (Nat.le_refl _) _
  have b0 := Lib.hid hB
  clear hB
  go_enter Try.func7, Try.ntmps7
  go_wp2_with fail
  refine (nil_apply _ _ _ _ _ _).mono ?_
  rintro e w1 ⟨rfl, c1⟩
  have b1 := Lib.hid (b0.out.trans (c1.mono b0.out.size))
  clear c1 b0
  go_wp2_with fail
  refine (nil_last _ _).mono ?_
  rintro e w' ⟨rfl, rfl⟩
  go_wp2_with fail
  refine (nil_bytes _ _).mono ?_
  rintro e w' ⟨rfl, rfl⟩
  go_wp2_with fail
  refine (new_raw _ _).mono ?_
  rintro e w2 ⟨b, rfl, c2, hc⟩
  have b2 := Lib.hid (b1.out.trans (c2.mono b1.out.size))
  clear c2 b1
  go_wp2_with fail
  refine (bytes_nil _ _ hc).mono ?_
  rintro e w' ⟨rfl, rfl⟩
  go_wp2_with fail
  refine (read_nil1 _ _ _).mono ?_
  rintro e w3 ⟨rfl, c3⟩
  have b3 := Lib.hid (b2.out.trans (c3.mono b2.out.size))
  clear c3 b2
  go_wp2_with fail
  refine (read_nil2 _ _).mono ?_
  rintro e w4 ⟨rfl, c4⟩
  have b4 := Lib.hid (b3.out.trans (c4.mono b3.out.size))
  clear c4 b3
  go_wp2_with fail
  refine (nil_state _).mono ?_
  rintro e w' ⟨rfl, rfl⟩
  go_wp2_with fail
  refine (nil_index _).mono ?_
  rintro e w' ⟨rfl, rfl⟩
  go_wp2_with fail
  refine (nil_copy _).mono ?_
  rintro e w' ⟨rfl, rfl⟩
  go_wp2_with fail
  refine (new_nil _ _).mono ?_
  rintro e w' ⟨rfl, rfl⟩
  go_wp2_with fail
  refine (alive_any _).mono ?_
  rintro e w5 ⟨rfl, c5⟩
  have b5 := Lib.hid (b4.out.trans (c5.mono b4.out.size))
  clear c5 b4
  go_wp2
  go_ret
  exact ⟨rfl, b5.out⟩
end Go.Proofs.Ytcaemfogknaioaa
