/- Walks: Decision, Tablet; the law's given. -/
import Derived.Test.YtgmmglmokkcgeaaGreatA7
namespace Go.Proofs.YtgmmglmokkcgeaaGreat
set_option linter.unusedVariables false
set_option linter.unusedSimpArgs false
open Go.RowKit Mk Go.Sort

section
variable {w : World} {b : Nat} {R : Loc} {F : Nat → Prop} {n : OM}
set_option maxRecDepth 100000 in
set_option maxHeartbeats 2000000 in
theorem decision_any (h : OrRep w b R F n) {st : Nat} (hs : st < 18446744073709551616) : Calls Tryz.prog 7 #[.pointer (some ⟨b, 0, none⟩), .int .u64 (st : Nat)] w fun e w' => e = .returned (.tuple #[.int .u64 ((decisionM n st).1 : Nat), .bool (decisionM n st).2]) ∧ Chg (fun _ => False) w w' := by
  have c3 := h.c3
  have c4 := h.c4
  have hlt := h.lt
  have hl := h.lookD hs
  have NN := Lib.hid (none_any h)
  clear h
  unfold decisionM
  obtain ⟨sI, hsI⟩ : ∃ sI : Int, (st : Int) = sI := ⟨_, rfl⟩
  obtain ⟨mI, hmI⟩ : ∃ mI : Int, (n.mark : Int) = mI := ⟨_, rfl⟩
  have HS := Lib.hid hsI
  have HM := Lib.hid hmI
  rw [hsI] at hl ⊢
  rw [hmI] at c3
  clear hsI hmI
  cases hk : lk n.dec st with
  | some c =>
    rw [hk] at hl
    simp only [Option.getD_some, Option.isSome_some] at hl
    clear hk
    go_enter Tryz.func7, Tryz.ntmps7
    go_wp2_with fail
    refine NN.out.mono ?_
    rintro e w1 ⟨rfl, rfl⟩
    go_wp2
    go_region
    go_wp2
    go_ret2
    exact ⟨by simp, (Chg.refl _ _).drew⟩
  | none =>
    rw [hk] at hl
    simp only [Option.getD_none, Option.isSome_none] at hl
    clear hk
    by_cases h0 : 0 < st
    · have d0 : decide ((0 : Int) < sI) = true := decide_eq_true (by have := HS.out; omega)
      by_cases h2 : st < n.mark
      · have d2 : decide (sI < mI) = true := decide_eq_true (by have := HS.out; have := HM.out; omega)
        have HZ := Lib.hid (show ((none : Option Nat).isSome || (decide (0 < st) && decide (st < n.mark))) = true by simp [h0, h2])
        clear h0 h2
        go_enter Tryz.func7, Tryz.ntmps7
        go_wp2_with fail
        refine NN.out.mono ?_
        rintro e w1 ⟨rfl, rfl⟩
        go_wp2
        go_region
        go_wp2
        go_ret2
        exact ⟨by rw [HZ.out]; rfl, (Chg.refl _ _).drew⟩
      · have d2 : decide (sI < mI) = false := decide_eq_false (by have := HS.out; have := HM.out; omega)
        have HZ := Lib.hid (show ((none : Option Nat).isSome || (decide (0 < st) && decide (st < n.mark))) = false by simp [h2])
        clear h0 h2
        go_enter Tryz.func7, Tryz.ntmps7
        go_wp2_with fail
        refine NN.out.mono ?_
        rintro e w1 ⟨rfl, rfl⟩
        go_wp2
        go_region
        go_wp2
        go_ret2
        exact ⟨by rw [HZ.out]; rfl, (Chg.refl _ _).drew⟩
    · have d0 : decide ((0 : Int) < sI) = false := decide_eq_false (by have := HS.out; omega)
      have HZ := Lib.hid (show ((none : Option Nat).isSome || (decide (0 < st) && decide (st < n.mark))) = false by simp [h0])
      clear h0
      go_enter Tryz.func7, Tryz.ntmps7
      go_wp2_with fail
      refine NN.out.mono ?_
      rintro e w1 ⟨rfl, rfl⟩
      go_wp2
      go_region
      go_wp2
      go_ret2
      exact ⟨by rw [HZ.out]; rfl, (Chg.refl _ _).drew⟩
end
end Go.Proofs.YtgmmglmokkcgeaaGreat
