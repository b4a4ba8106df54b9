/- Walks: slices.IsSorted of numbers; what made1 keeps. -/
import Derived.Test.YtgmmglmokkcgeaaGreatY7
import Derived.Test.YtgmmglmokkcgeaaGreatX4
import Derived.Deep.QuietTactic
import Derived.BigQuiet
namespace Go.Proofs.YtgmmglmokkcgeaaGreat
set_option linter.unusedVariables false
set_option linter.unusedSimpArgs false
set_option linter.unusedSectionVars false
open Go.RowKit Mk Go.Sort

/-- A bool is told; it is true if P. -/
def MadeSays (P : Prop) (w : World) (e : Ending) (w' : World) : Prop := (∃ z, e = .returned (.bool z) ∧ (P → z = true)) ∧ Chg (fun _ => False) w w'
section
variable {w w' : World} {v : Value} {l : List Nat}
set_option maxRecDepth 100000 in
set_option maxHeartbeats 2000000 in
theorem isSorted_any (h : NumsAt w v l) (hl : l.length ≤ 1099511627776) : Calls Tryz.prog 95 #[v] w fun e w' => MadeSays (l.Pairwise (· < ·)) w e w' := by
  obtain ⟨o, c, rfl⟩ := sl_shape h
  have HN := Lib.hid h
  obtain ⟨N, HNN⟩ : ∃ N, Hid (l.length = N) := ⟨_, Lib.hid rfl⟩
  rw [HNN.out] at hl ⊢
  clear h
  by_cases h0 : N = 0
  · subst h0
    go_enter Tryz.func95, Tryz.ntmps95
    go_wp2_with fail
    go_loopw [3] (fun i wr => i = .int .i64 (-1) ∧ Hid (wr = w)) (fun _ _ => 0)
    case atStart => exact ⟨rfl, Lib.hid rfl⟩
    case round =>
      obtain ⟨rfl, HW⟩ := hrel
      go_wp2_with fail
      go_ret
      exact ⟨⟨true, rfl, fun _ => rfl⟩, by rw [HW.out]; exact Chg.refl _ _⟩
  · obtain ⟨M, HM⟩ : ∃ M, Hid (N = M + 1) := ⟨N - 1, Lib.hid (by omega)⟩
    have e1 : IntKind.i64.wrap ((N : Int) - 1) = (M : Int) := by rw [HM.out, IntWalk.i64_in _ (by have := HM.out; omega)]; omega
    have e2 : (N : Int) - 1 = (M : Int) := by rw [HM.out]; omega
    clear h0
    go_enter Tryz.func95, Tryz.ntmps95
    go_wp2_with fail
    clear e1 e2
    go_loopw [3] (fun i wr => ∃ j : Nat, j < N ∧ i = .int .i64 (j : Nat) ∧ Hid (Chg (fun _ => False) w wr)) (fun i _ => (intOf i).toNat)
    case atStart => exact ⟨M, by have := HM.out; omega, rfl, Lib.hid (Chg.refl _ _)⟩
    case round =>
      obtain ⟨j, hj, rfl, HC⟩ := hrel
      cases j with
      | zero =>
        go_wp2_with fail
        go_ret
        exact ⟨⟨true, rfl, fun _ => rfl⟩, HC.out⟩
      | succ t =>
        obtain ⟨I, HI⟩ : ∃ I : Int, Hid (((t + 1 : Nat) : Int) = I) := ⟨_, Lib.hid rfl⟩
        rw [HI.out]
        have q1 : decide ((0 : Int) < I) = true := decide_eq_true (by have := HI.out; omega)
        have q2 : IntKind.i64.wrap (I - 1) = (t : Int) := by rw [IntWalk.i64_in _ (by have := HI.out; omega)]; have := HI.out; omega
        have q3 : I - 1 = (t : Int) := by have := HI.out; omega
        have q4 : I.toNat = t + 1 := by have := HI.out; omega
        have l0 : (0 : Int) ≤ I := by have := HI.out; omega
        have l1 : I < N := by have := HI.out; omega
        have l2 : (0 : Int) ≤ t := by omega
        have l3 : (t : Int) < N := by omega
        obtain ⟨a, ha⟩ : ∃ a, l[t + 1]? = some a := ⟨_, List.getElem?_eq_getElem (by rw [HNN.out]; exact hj)⟩
        obtain ⟨d, hd⟩ : ∃ d, l[t]? = some d := ⟨_, List.getElem?_eq_getElem (by rw [HNN.out]; omega)⟩
        have hw := sl.stay HN.out (fun g hg => HC.out.block g (sl.lt HN.out hg) (fun f => f))
        obtain ⟨g, ho, a1⟩ := NumsAt.at_ (N := l.length) hw ha
        obtain ⟨g2, ho2, a0⟩ := NumsAt.at_ (N := l.length) hw hd
        rw [ho] at ho2
        obtain rfl : g2 = g := by injection ho2 with e; injection e with e; exact e.symm
        subst ho
        have HA := Lib.hid ha
        have HD := Lib.hid hd
        clear hw ho2 ha hd
        by_cases hlt : a < d
        · have LS := Lib.hid (fun (u : World) => show Calls Tryz.prog 80 #[.int .u64 (a : Nat), .int .u64 (d : Nat)] u fun e w' => e = .returned (.bool true) ∧ w' = u from by
            have := su_cmp_Less (a : Int) (d : Int) u
            have e : Sort.ltInt (a : Int) (d : Int) = true := by unfold Sort.ltInt; simp; omega
            rwa [e] at this)
          go_wp2_with fail
          go_quiet ((go_at_call 80; exact Calls.quiet_of_same (LS.out _)))
          have HC2 := Lib.hid (HC.out.trans (Chg.drewN' wr nq))
          go_wp2_with fail
          go_ret
          refine ⟨⟨false, rfl, fun hp => ?_⟩, HC2.out⟩
          exfalso
          have h1 := List.getElem?_eq_some_iff.1 HA.out
          have h2 := List.getElem?_eq_some_iff.1 HD.out
          obtain ⟨i1, e1⟩ := h1
          obtain ⟨i2, e2⟩ := h2
          have := List.pairwise_iff_getElem.1 hp t (t + 1) i2 i1 (by omega)
          omega
        · have LS := Lib.hid (fun (u : World) => show Calls Tryz.prog 80 #[.int .u64 (a : Nat), .int .u64 (d : Nat)] u fun e w' => e = .returned (.bool false) ∧ w' = u from by
            have := su_cmp_Less (a : Int) (d : Int) u
            have e : Sort.ltInt (a : Int) (d : Int) = false := by unfold Sort.ltInt; simp; omega
            rwa [e] at this)
          go_wp2_with fail
          go_quiet ((go_at_call 80; exact Calls.quiet_of_same (LS.out _)))
          have HC2 := Lib.hid (HC.out.trans (Chg.drewN' wr nq))
          go_wp2_with fail
          go_roundw
          case rel => exact ⟨t, by omega, by first | rfl | go_num, HC2⟩
          case measure => simp only [intOf]; omega
end
end Go.Proofs.YtgmmglmokkcgeaaGreat
