/- Walks: May. -/
import Derived.Test.YtgmmglmokkcgeaaGreatA3
import Derived.Deep.Cut
import Derived.Deep.CutBlock
namespace Go.Proofs.YtgmmglmokkcgeaaGreat
set_option linter.unusedVariables false
set_option linter.unusedSimpArgs false
open Go.RowKit Mk Go.Sort

/-- The command as it is left: what is not named. -/
structure LeftV where
  n : Nat
  st : Nat
  ko : Option Addr
  kl : Nat
  kc : Nat
  no : Option Addr
  nl : Nat
  nc : Nat
  p : ByteArray
  g : Nat
  tt : Nat
  at_ : Nat
abbrev opK (kI : Int) (o : OpM) (l : OpL) : Array Value := #[.int .u8 kI, .int .u32 (o.n : Nat), .int .u64 (o.st : Nat), .slice l.ko o.keys.length l.kc, .slice l.no o.needs.length l.nc, .string o.pred, .int .u32 (o.g : Nat), .int .u32 (o.to : Nat), .int .u64 (o.at_ : Nat)]
abbrev leftC (kI : Int) (v : LeftV) : Array Value := #[.int .u8 kI, .int .u32 (v.n : Nat), .int .u64 (v.st : Nat), .slice v.ko v.kl v.kc, .slice v.no v.nl v.nc, .string v.p, .int .u32 (v.g : Nat), .int .u32 (v.tt : Nat), .int .u64 (v.at_ : Nat)]
def leftOk (v : LeftV) : Prop := v.n = 0 ∧ v.st = 0 ∧ v.kl = 0 ∧ v.nl = 0 ∧ v.p.toList = [] ∧ v.g = 0 ∧ v.tt = 0 ∧ v.at_ = 0
structure LeftAt (w : World) (o : OpM) (kI : Int) (lb : Nat) (wc : World) : Prop where
  chg : Chg (fun _ => False) w wc
  blk : ∃ v, wc.heap[lb]? = some (.cells (leftC kI v) 28) ∧ (leftM o = true ↔ leftOk v)
theorem alloc2_new (w : World) (A B : Obj) : ((w.alloc A).alloc B).heap[w.heap.size + 1]? = some B := by
  have := Go.heap_alloc_new (w.alloc A) B
  simpa using this
theorem named_any {w : World} {o : OpM} {l : OpL} {kb : Nat} {kI : Int} (h : w.heap[kb]? = some (.cells (opK kI o l) 28)) :
    Calls Tryz.prog 69 #[.pointer (some ⟨kb, 0, none⟩)] w fun e w' => e = .returned (.bool (predOk o.pred)) ∧ Chg (fun _ => False) w w' := by
  have k5 : w.cell? ⟨kb, 5, none⟩ = some (.string o.pred) := cell_of h rfl
  have P := Lib.hid (pred_any o.pred w)
  clear h
  generalize predOk o.pred = b at P ⊢
  go_enter Tryz.func69, Tryz.ntmps69
  go_wp2_with fail
  refine P.out.mono ?_
  rintro e w1 ⟨rfl, h1⟩
  have H1 := Lib.hid h1
  clear h1
  cases b
  · simp only [if_neg (show ¬ (false = true) by decide)]
    go_wp2
    go_ret
    exact ⟨rfl, H1.out⟩
  · simp only [if_pos (show (true = true) from rfl)]
    go_wp2
    go_ret
    exact ⟨rfl, H1.out⟩

set_option maxRecDepth 100000 in
set_option maxHeartbeats 8000000 in
theorem may_any {w : World} {o : OpM} {l : OpL} (h : OpAt w o l) :
    Calls Tryz.prog 30 #[.agg (opC o l)] w fun e w' => e = .returned (.int .i64 (if mayM o then 0 else 200)) ∧ Chg (fun _ => False) w w' := by
  obtain ⟨Rr, HR⟩ : ∃ b : Int, Hid ((if mayM o then 0 else 200) = b) := ⟨_, Lib.hid rfl⟩
  rw [HR.out]
  have H := Lib.hid h
  clear h
  obtain ⟨kI, hkI⟩ : ∃ kI : Int, (o.k : Int) = kI := ⟨_, rfl⟩
  have HKI := Lib.hid hkI
  have LA := Lib.hid (fun (v : World) (c : OpAt v o l) => show Calls Tryz.prog 71 #[.agg (opK kI o l)] v _ from by rw [← hkI]; exact lists_any c)
  rw [show opC o l = opK kI o l by unfold opC opK; rw [hkI]]
  clear hkI
  have NA := Lib.hid (fun (v : World) (kb : Nat) (c : v.heap[kb]? = some (.cells (opK kI o l) 28)) => named_any c)
  have HC2 : Hid (Chg (fun _ => False) w ((w.alloc (.cells (opK kI o l) 28)).alloc (.cells (opK kI o l) 28))) := Lib.hid (((Chg.refl _ _).alloc _).alloc _)
  have HB0 : Hid (((w.alloc (.cells (opK kI o l) 28)).alloc (.cells (opK kI o l) 28)).heap[w.heap.size]? = some (.cells (opK kI o l) 28)) := Lib.hid ((Below.heap_alloc _ _ _ (by simp)).trans (Go.heap_alloc_new w _))
  have HB1 : Hid (((w.alloc (.cells (opK kI o l) 28)).alloc (.cells (opK kI o l) 28)).heap[w.heap.size + 1]? = some (.cells (opK kI o l) 28)) := Lib.hid (alloc2_new w _ _)
  go_enter Tryz.func30, Tryz.ntmps30
  go_upto_block 0 with fail
  go_cut [4] from 10 (fun s4 wc => s4 = .bool (kindM o) ∧ Hid (LeftAt w o kI (w.heap.size + 1) wc))
  case rest =>
    obtain ⟨rfl, HL⟩ := hcut
    have HG := Lib.hid HL.out.chg
    obtain ⟨v, hv, hlo⟩ := HL.out.blk
    have HM0 : Hid (mayM o = true ↔ kindM o = true ∧ leftOk v) := Lib.hid (by unfold mayM; rw [Bool.and_eq_true, hlo])
    obtain ⟨kk, hkk⟩ : ∃ b, kindM o = b := ⟨_, rfl⟩
    rw [hkk] at HM0 ⊢
    obtain ⟨lb, hlb⟩ : ∃ lb, w.heap.size + 1 = lb := ⟨_, rfl⟩
    rw [hlb] at hv ⊢
    have m1 : wc.cell? ⟨lb, 1, none⟩ = some (.int .u32 (v.n : Nat)) := cell_of hv rfl
    have m2 : wc.cell? ⟨lb, 2, none⟩ = some (.int .u64 (v.st : Nat)) := cell_of hv rfl
    have m3 : wc.cell? ⟨lb, 3, none⟩ = some (.slice v.ko v.kl v.kc) := cell_of hv rfl
    have m4 : wc.cell? ⟨lb, 4, none⟩ = some (.slice v.no v.nl v.nc) := cell_of hv rfl
    have m5 : wc.cell? ⟨lb, 5, none⟩ = some (.string v.p) := cell_of hv rfl
    have m6 : wc.cell? ⟨lb, 6, none⟩ = some (.int .u32 (v.g : Nat)) := cell_of hv rfl
    have m7 : wc.cell? ⟨lb, 7, none⟩ = some (.int .u32 (v.tt : Nat)) := cell_of hv rfl
    have m8 : wc.cell? ⟨lb, 8, none⟩ = some (.int .u64 (v.at_ : Nat)) := cell_of hv rfl
    clear hv hlo HL HC2 HB0 HB1 LA NA
    cases kk
    · have : Rr = 200 := by rw [← HR.out]; exact if_neg (fun h => by have := (HM0.out.1 h).1; cases this)
      subst this
      go_wp2
      go_ret
      exact ⟨rfl, HG.out⟩
    · have HM := HM0
      by_cases t0 : v.n = 0
      · have f0 : decide ((v.n : Int) = 0) = true := decide_eq_true (by omega)
        have g0 : ((v.n : Int) != 0) = false := by simp; omega
        by_cases t1 : v.st = 0
        · have f1 : decide ((v.st : Int) = 0) = true := decide_eq_true (by omega)
          have g1 : ((v.st : Int) != 0) = false := by simp; omega
          by_cases t2 : v.kl = 0
          · have f2 : decide ((0 : Int) < (v.kl : Int)) = false := decide_eq_false (by omega)
            by_cases t3 : v.nl = 0
            · have f3 : decide ((0 : Int) < (v.nl : Int)) = false := decide_eq_false (by omega)
              by_cases t4 : v.p.toList = []
              · have f4 : decide (v.p.toList = []) = true := decide_eq_true t4
                by_cases t5 : v.g = 0
                · have f5 : decide ((v.g : Int) = 0) = true := decide_eq_true (by omega)
                  have g5 : ((v.g : Int) != 0) = false := by simp; omega
                  by_cases t6 : v.tt = 0
                  · have f6 : decide ((v.tt : Int) = 0) = true := decide_eq_true (by omega)
                    have g6 : ((v.tt : Int) != 0) = false := by simp; omega
                    by_cases t7 : v.at_ = 0
                    · have f7 : decide ((v.at_ : Int) = 0) = true := decide_eq_true (by omega)
                      have g7 : ((v.at_ : Int) != 0) = false := by simp; omega
                      have : Rr = 0 := by rw [← HR.out]; exact if_pos (HM.out.2 ⟨rfl, t0, t1, t2, t3, t4, t5, t6, t7⟩)
                      subst this
                      go_wp2
                      go_ret
                      exact ⟨rfl, HG.out⟩
                    · have f7 : decide ((v.at_ : Int) = 0) = false := decide_eq_false (by omega)
                      have g7 : ((v.at_ : Int) != 0) = true := by simp; omega
                      have : Rr = 200 := by rw [← HR.out]; exact if_neg (fun h => t7 (HM.out.1 h).2.2.2.2.2.2.2.2)
                      subst this
                      go_wp2
                      go_ret
                      exact ⟨rfl, HG.out⟩
                  · have f6 : decide ((v.tt : Int) = 0) = false := decide_eq_false (by omega)
                    have g6 : ((v.tt : Int) != 0) = true := by simp; omega
                    have : Rr = 200 := by rw [← HR.out]; exact if_neg (fun h => t6 (HM.out.1 h).2.2.2.2.2.2.2.1)
                    subst this
                    go_wp2
                    go_ret
                    exact ⟨rfl, HG.out⟩
                · have f5 : decide ((v.g : Int) = 0) = false := decide_eq_false (by omega)
                  have g5 : ((v.g : Int) != 0) = true := by simp; omega
                  have : Rr = 200 := by rw [← HR.out]; exact if_neg (fun h => t5 (HM.out.1 h).2.2.2.2.2.2.1)
                  subst this
                  go_wp2
                  go_ret
                  exact ⟨rfl, HG.out⟩
              · have f4 : decide (v.p.toList = []) = false := decide_eq_false t4
                have : Rr = 200 := by rw [← HR.out]; exact if_neg (fun h => t4 (HM.out.1 h).2.2.2.2.2.1)
                subst this
                go_wp2
                go_ret
                exact ⟨rfl, HG.out⟩
            · have f3 : decide ((0 : Int) < (v.nl : Int)) = true := decide_eq_true (by omega)
              have : Rr = 200 := by rw [← HR.out]; exact if_neg (fun h => t3 (HM.out.1 h).2.2.2.2.1)
              subst this
              go_wp2
              go_ret
              exact ⟨rfl, HG.out⟩
          · have f2 : decide ((0 : Int) < (v.kl : Int)) = true := decide_eq_true (by omega)
            have : Rr = 200 := by rw [← HR.out]; exact if_neg (fun h => t2 (HM.out.1 h).2.2.2.1)
            subst this
            go_wp2
            go_ret
            exact ⟨rfl, HG.out⟩
        · have f1 : decide ((v.st : Int) = 0) = false := decide_eq_false (by omega)
          have g1 : ((v.st : Int) != 0) = true := by simp; omega
          have : Rr = 200 := by rw [← HR.out]; exact if_neg (fun h => t1 (HM.out.1 h).2.2.1)
          subst this
          go_wp2
          go_ret
          exact ⟨rfl, HG.out⟩
      · have f0 : decide ((v.n : Int) = 0) = false := decide_eq_false (by omega)
        have g0 : ((v.n : Int) != 0) = true := by simp; omega
        have : Rr = 200 := by rw [← HR.out]; exact if_neg (fun h => t0 (HM.out.1 h).2.1)
        subst this
        go_wp2
        go_ret
        exact ⟨rfl, HG.out⟩
  case first =>
    have hcases : o.k = 1 ∨ o.k = 2 ∨ o.k = 3 ∨ o.k = 4 ∨ o.k = 5 ∨ o.k = 6 ∨ o.k = 7 ∨ o.k = 8 ∨ o.k = 9 ∨ (o.k ≠ 1 ∧ o.k ≠ 2 ∧ o.k ≠ 3 ∧ o.k ≠ 4 ∧ o.k ≠ 5 ∧ o.k ≠ 6 ∧ o.k ≠ 7 ∧ o.k ≠ 8 ∧ o.k ≠ 9) := by omega
    rcases hcases with hk | hk | hk | hk | hk | hk | hk | hk | hk | hk
    · have d1 : (kI == 1) = true := beq_iff_eq.2 (by rw [← HKI.out]; omega)
      have HKK := Lib.hid hk
      clear hk
      by_cases n1 : 1 ≤ o.n
      · have e1 : decide ((1 : Int) ≤ (o.n : Int)) = true := decide_eq_true (by omega)
        by_cases n2 : o.n ≤ 4096
        · have e2 : decide ((o.n : Int) ≤ 4096) = true := decide_eq_true (by omega)
          go_wp2_with fail
          go_meet
          case rel => exact ⟨by rw [show kindM o = true by unfold kindM; rw [HKK.out]; simp [n1, n2]], Lib.hid ⟨((Chg.refl _ _).alloc _).alloc _, ⟨0, o.st, l.ko, o.keys.length, l.kc, l.no, o.needs.length, l.nc, o.pred, o.g, o.to, o.at_⟩, alloc2_new w _ _, (by unfold leftM leftOk; rw [HKK.out]; simp [List.length_eq_zero_iff, and_assoc])⟩⟩
        · have e2 : decide ((o.n : Int) ≤ 4096) = false := decide_eq_false (by omega)
          go_wp2_with fail
          go_meet
          case rel => exact ⟨by rw [show kindM o = false by unfold kindM; rw [HKK.out]; simp [n2]], Lib.hid ⟨((Chg.refl _ _).alloc _).alloc _, ⟨0, o.st, l.ko, o.keys.length, l.kc, l.no, o.needs.length, l.nc, o.pred, o.g, o.to, o.at_⟩, alloc2_new w _ _, (by unfold leftM leftOk; rw [HKK.out]; simp [List.length_eq_zero_iff, and_assoc])⟩⟩
      · have e1 : decide ((1 : Int) ≤ (o.n : Int)) = false := decide_eq_false (by omega)
        go_wp2_with fail
        go_meet
        case rel => exact ⟨by rw [show kindM o = false by unfold kindM; rw [HKK.out]; simp; omega], Lib.hid ⟨((Chg.refl _ _).alloc _).alloc _, ⟨0, o.st, l.ko, o.keys.length, l.kc, l.no, o.needs.length, l.nc, o.pred, o.g, o.to, o.at_⟩, alloc2_new w _ _, (by unfold leftM leftOk; rw [HKK.out]; simp [List.length_eq_zero_iff, and_assoc])⟩⟩
    · have d1 : (kI == 1) = false := beq_eq_false_iff_ne.2 (by rw [← HKI.out]; omega)
      have d2 : (kI == 2) = true := beq_iff_eq.2 (by rw [← HKI.out]; omega)
      have HKK := Lib.hid hk
      clear hk
      by_cases n1 : 1 ≤ o.n
      · have e1 : decide ((1 : Int) ≤ (o.n : Int)) = true := decide_eq_true (by omega)
        by_cases n2 : o.n ≤ 4096
        · have e2 : decide ((o.n : Int) ≤ 4096) = true := decide_eq_true (by omega)
          go_wp2_with fail
          go_meet
          case rel => exact ⟨by rw [show kindM o = true by unfold kindM; rw [HKK.out]; simp [n1, n2]], Lib.hid ⟨((Chg.refl _ _).alloc _).alloc _, ⟨0, o.st, l.ko, o.keys.length, l.kc, l.no, o.needs.length, l.nc, o.pred, o.g, o.to, o.at_⟩, alloc2_new w _ _, (by unfold leftM leftOk; rw [HKK.out]; simp [List.length_eq_zero_iff, and_assoc])⟩⟩
        · have e2 : decide ((o.n : Int) ≤ 4096) = false := decide_eq_false (by omega)
          go_wp2_with fail
          go_meet
          case rel => exact ⟨by rw [show kindM o = false by unfold kindM; rw [HKK.out]; simp [n2]], Lib.hid ⟨((Chg.refl _ _).alloc _).alloc _, ⟨0, o.st, l.ko, o.keys.length, l.kc, l.no, o.needs.length, l.nc, o.pred, o.g, o.to, o.at_⟩, alloc2_new w _ _, (by unfold leftM leftOk; rw [HKK.out]; simp [List.length_eq_zero_iff, and_assoc])⟩⟩
      · have e1 : decide ((1 : Int) ≤ (o.n : Int)) = false := decide_eq_false (by omega)
        go_wp2_with fail
        go_meet
        case rel => exact ⟨by rw [show kindM o = false by unfold kindM; rw [HKK.out]; simp; omega], Lib.hid ⟨((Chg.refl _ _).alloc _).alloc _, ⟨0, o.st, l.ko, o.keys.length, l.kc, l.no, o.needs.length, l.nc, o.pred, o.g, o.to, o.at_⟩, alloc2_new w _ _, (by unfold leftM leftOk; rw [HKK.out]; simp [List.length_eq_zero_iff, and_assoc])⟩⟩
    · have d1 : (kI == 1) = false := beq_eq_false_iff_ne.2 (by rw [← HKI.out]; omega)
      have d2 : (kI == 2) = false := beq_eq_false_iff_ne.2 (by rw [← HKI.out]; omega)
      have d3 : (kI == 3) = true := beq_iff_eq.2 (by rw [← HKI.out]; omega)
      have HKK := Lib.hid hk
      clear hk
      by_cases n1 : 0 < o.st
      · have e1 : decide ((0 : Int) < (o.st : Int)) = true := decide_eq_true (by omega)
        have L1 := LA.out _ (H.out.same HC2.out)
        go_wp2_with fail
        refine L1.mono ?_
        rintro e w3 ⟨rfl, h3⟩
        have hC := Lib.hid (HC2.out.trans h3)
        have hB := Lib.hid ((h3.block (w.heap.size + 1) (by simp) (fun f => f)).trans HB1.out)
        have f2 : w3.frozen? ⟨w.heap.size + 1, 2, none⟩ = false := frozen_of hB.out
        have f3 : w3.frozen? ⟨w.heap.size + 1, 3, none⟩ = false := frozen_of hB.out
        have f4 : w3.frozen? ⟨w.heap.size + 1, 4, none⟩ = false := frozen_of hB.out
        have g2 : w3.cell? ⟨w.heap.size + 1, 2, none⟩ = some (.int .u64 (o.st : Nat)) := cell_of hB.out rfl
        have g3 : w3.cell? ⟨w.heap.size + 1, 3, none⟩ = some (.slice l.ko o.keys.length l.kc) := cell_of hB.out rfl
        have g4 : w3.cell? ⟨w.heap.size + 1, 4, none⟩ = some (.slice l.no o.needs.length l.nc) := cell_of hB.out rfl
        have hkd : kindM o = listsM o := by unfold kindM; rw [HKK.out]; simp [n1]
        clear h3 L1
        go_wp2_with fail
        go_meet
        case rel => exact ⟨by rw [hkd], Lib.hid ⟨(((hC.out.setCell (Or.inr (by simp)) _).setCell (Or.inr (by simp)) _).setCell (Or.inr (by simp)) _), ⟨o.n, 0, none, 0, 0, none, 0, 0, o.pred, o.g, o.to, o.at_⟩, (Mk.heap_setCell_same (Mk.heap_setCell_same (Mk.heap_setCell_same hB.out _) _) _), (by unfold leftM leftOk; rw [HKK.out]; simp [List.length_eq_zero_iff, and_assoc])⟩⟩
      · have e1 : decide ((0 : Int) < (o.st : Int)) = false := decide_eq_false (by omega)
        go_wp2_with fail
        go_meet
        case rel => exact ⟨by rw [show kindM o = false by unfold kindM; rw [HKK.out]; simp; omega], Lib.hid ⟨((Chg.refl _ _).alloc _).alloc _, ⟨o.n, 0, none, 0, 0, none, 0, 0, o.pred, o.g, o.to, o.at_⟩, alloc2_new w _ _, (by unfold leftM leftOk; rw [HKK.out]; simp [List.length_eq_zero_iff, and_assoc])⟩⟩
    · have d1 : (kI == 1) = false := beq_eq_false_iff_ne.2 (by rw [← HKI.out]; omega)
      have d2 : (kI == 2) = false := beq_eq_false_iff_ne.2 (by rw [← HKI.out]; omega)
      have d3 : (kI == 3) = false := beq_eq_false_iff_ne.2 (by rw [← HKI.out]; omega)
      have d4 : (kI == 4) = true := beq_iff_eq.2 (by rw [← HKI.out]; omega)
      have HKK := Lib.hid hk
      clear hk
      by_cases n1 : 0 < o.st
      · have e1 : decide ((0 : Int) < (o.st : Int)) = true := decide_eq_true (by omega)
        go_wp2_with fail
        go_meet
        case rel => exact ⟨by rw [show kindM o = true by unfold kindM; rw [HKK.out]; simp [n1]], Lib.hid ⟨((Chg.refl _ _).alloc _).alloc _, ⟨o.n, 0, l.ko, o.keys.length, l.kc, l.no, o.needs.length, l.nc, o.pred, o.g, o.to, o.at_⟩, alloc2_new w _ _, (by unfold leftM leftOk; rw [HKK.out]; simp [List.length_eq_zero_iff, and_assoc])⟩⟩
      · have e1 : decide ((0 : Int) < (o.st : Int)) = false := decide_eq_false (by omega)
        go_wp2_with fail
        go_meet
        case rel => exact ⟨by rw [show kindM o = false by unfold kindM; rw [HKK.out]; simp; omega], Lib.hid ⟨((Chg.refl _ _).alloc _).alloc _, ⟨o.n, 0, l.ko, o.keys.length, l.kc, l.no, o.needs.length, l.nc, o.pred, o.g, o.to, o.at_⟩, alloc2_new w _ _, (by unfold leftM leftOk; rw [HKK.out]; simp [List.length_eq_zero_iff, and_assoc])⟩⟩
    · have d1 : (kI == 1) = false := beq_eq_false_iff_ne.2 (by rw [← HKI.out]; omega)
      have d2 : (kI == 2) = false := beq_eq_false_iff_ne.2 (by rw [← HKI.out]; omega)
      have d3 : (kI == 3) = false := beq_eq_false_iff_ne.2 (by rw [← HKI.out]; omega)
      have d4 : (kI == 4) = false := beq_eq_false_iff_ne.2 (by rw [← HKI.out]; omega)
      have d5 : (kI == 5) = true := beq_iff_eq.2 (by rw [← HKI.out]; omega)
      have HKK := Lib.hid hk
      clear hk
      have N1 := NA.out _ _ HB0.out
      have hkd : kindM o = (predOk o.pred && decide (0 < o.g)) := by unfold kindM; rw [HKK.out]; rfl
      generalize predOk o.pred = pb at N1 hkd
      go_wp2_with fail
      refine N1.mono ?_
      rintro e w3 ⟨rfl, h3⟩
      have hC := Lib.hid (HC2.out.trans h3)
      have hB := Lib.hid ((h3.block (w.heap.size + 1) (by simp) (fun f => f)).trans HB1.out)
      have hA := Lib.hid ((h3.block w.heap.size (by simp; omega) (fun f => f)).trans HB0.out)
      have f5 : w3.frozen? ⟨w.heap.size + 1, 5, none⟩ = false := frozen_of hB.out
      have f6 : w3.frozen? ⟨w.heap.size + 1, 6, none⟩ = false := frozen_of hB.out
      have g5 : w3.cell? ⟨w.heap.size + 1, 5, none⟩ = some (.string o.pred) := cell_of hB.out rfl
      have g6 : w3.cell? ⟨w.heap.size + 1, 6, none⟩ = some (.int .u32 (o.g : Nat)) := cell_of hB.out rfl
      have a6 : w3.cell? ⟨w.heap.size, 6, none⟩ = some (.int .u32 (o.g : Nat)) := cell_of hA.out rfl
      clear h3 N1
      cases pb
      · go_wp2_with fail
        go_meet
        case rel => exact ⟨by rw [hkd]; rfl, Lib.hid ⟨((hC.out.setCell (Or.inr (by simp)) _).setCell (Or.inr (by simp)) _), ⟨o.n, o.st, l.ko, o.keys.length, l.kc, l.no, o.needs.length, l.nc, ⟨#[]⟩, 0, o.to, o.at_⟩, (Mk.heap_setCell_same (Mk.heap_setCell_same hB.out _) _), (by unfold leftM leftOk; rw [HKK.out]; simp [List.length_eq_zero_iff, and_assoc])⟩⟩
      · by_cases n1 : 0 < o.g
        · have e1 : decide ((0 : Int) < (o.g : Int)) = true := decide_eq_true (by omega)
          have e2 : decide (0 < o.g) = true := decide_eq_true n1
          rw [e2] at hkd
          go_wp2_with fail
          go_meet
          case rel => exact ⟨by rw [hkd]; rfl, Lib.hid ⟨((hC.out.setCell (Or.inr (by simp)) _).setCell (Or.inr (by simp)) _), ⟨o.n, o.st, l.ko, o.keys.length, l.kc, l.no, o.needs.length, l.nc, ⟨#[]⟩, 0, o.to, o.at_⟩, (Mk.heap_setCell_same (Mk.heap_setCell_same hB.out _) _), (by unfold leftM leftOk; rw [HKK.out]; simp [List.length_eq_zero_iff, and_assoc])⟩⟩
        · have e1 : decide ((0 : Int) < (o.g : Int)) = false := decide_eq_false (by omega)
          have e2 : decide (0 < o.g) = false := decide_eq_false n1
          rw [e2] at hkd
          go_wp2_with fail
          go_meet
          case rel => exact ⟨by rw [hkd]; rfl, Lib.hid ⟨((hC.out.setCell (Or.inr (by simp)) _).setCell (Or.inr (by simp)) _), ⟨o.n, o.st, l.ko, o.keys.length, l.kc, l.no, o.needs.length, l.nc, ⟨#[]⟩, 0, o.to, o.at_⟩, (Mk.heap_setCell_same (Mk.heap_setCell_same hB.out _) _), (by unfold leftM leftOk; rw [HKK.out]; simp [List.length_eq_zero_iff, and_assoc])⟩⟩
    · have d1 : (kI == 1) = false := beq_eq_false_iff_ne.2 (by rw [← HKI.out]; omega)
      have d2 : (kI == 2) = false := beq_eq_false_iff_ne.2 (by rw [← HKI.out]; omega)
      have d3 : (kI == 3) = false := beq_eq_false_iff_ne.2 (by rw [← HKI.out]; omega)
      have d4 : (kI == 4) = false := beq_eq_false_iff_ne.2 (by rw [← HKI.out]; omega)
      have d5 : (kI == 5) = false := beq_eq_false_iff_ne.2 (by rw [← HKI.out]; omega)
      have d6 : (kI == 6) = true := beq_iff_eq.2 (by rw [← HKI.out]; omega)
      have HKK := Lib.hid hk
      clear hk
      have N1 := NA.out _ _ HB0.out
      have hkd : kindM o = (predOk o.pred && decide (0 < o.to)) := by unfold kindM; rw [HKK.out]; rfl
      generalize predOk o.pred = pb at N1 hkd
      go_wp2_with fail
      refine N1.mono ?_
      rintro e w3 ⟨rfl, h3⟩
      have hC := Lib.hid (HC2.out.trans h3)
      have hB := Lib.hid ((h3.block (w.heap.size + 1) (by simp) (fun f => f)).trans HB1.out)
      have hA := Lib.hid ((h3.block w.heap.size (by simp; omega) (fun f => f)).trans HB0.out)
      have f5 : w3.frozen? ⟨w.heap.size + 1, 5, none⟩ = false := frozen_of hB.out
      have f6 : w3.frozen? ⟨w.heap.size + 1, 7, none⟩ = false := frozen_of hB.out
      have g5 : w3.cell? ⟨w.heap.size + 1, 5, none⟩ = some (.string o.pred) := cell_of hB.out rfl
      have g6 : w3.cell? ⟨w.heap.size + 1, 7, none⟩ = some (.int .u32 (o.to : Nat)) := cell_of hB.out rfl
      have a6 : w3.cell? ⟨w.heap.size, 7, none⟩ = some (.int .u32 (o.to : Nat)) := cell_of hA.out rfl
      clear h3 N1
      cases pb
      · go_wp2_with fail
        go_meet
        case rel => exact ⟨by rw [hkd]; rfl, Lib.hid ⟨((hC.out.setCell (Or.inr (by simp)) _).setCell (Or.inr (by simp)) _), ⟨o.n, o.st, l.ko, o.keys.length, l.kc, l.no, o.needs.length, l.nc, ⟨#[]⟩, o.g, 0, o.at_⟩, (Mk.heap_setCell_same (Mk.heap_setCell_same hB.out _) _), (by unfold leftM leftOk; rw [HKK.out]; simp [List.length_eq_zero_iff, and_assoc])⟩⟩
      · by_cases n1 : 0 < o.to
        · have e1 : decide ((0 : Int) < (o.to : Int)) = true := decide_eq_true (by omega)
          have e2 : decide (0 < o.to) = true := decide_eq_true n1
          rw [e2] at hkd
          go_wp2_with fail
          go_meet
          case rel => exact ⟨by rw [hkd]; rfl, Lib.hid ⟨((hC.out.setCell (Or.inr (by simp)) _).setCell (Or.inr (by simp)) _), ⟨o.n, o.st, l.ko, o.keys.length, l.kc, l.no, o.needs.length, l.nc, ⟨#[]⟩, o.g, 0, o.at_⟩, (Mk.heap_setCell_same (Mk.heap_setCell_same hB.out _) _), (by unfold leftM leftOk; rw [HKK.out]; simp [List.length_eq_zero_iff, and_assoc])⟩⟩
        · have e1 : decide ((0 : Int) < (o.to : Int)) = false := decide_eq_false (by omega)
          have e2 : decide (0 < o.to) = false := decide_eq_false n1
          rw [e2] at hkd
          go_wp2_with fail
          go_meet
          case rel => exact ⟨by rw [hkd]; rfl, Lib.hid ⟨((hC.out.setCell (Or.inr (by simp)) _).setCell (Or.inr (by simp)) _), ⟨o.n, o.st, l.ko, o.keys.length, l.kc, l.no, o.needs.length, l.nc, ⟨#[]⟩, o.g, 0, o.at_⟩, (Mk.heap_setCell_same (Mk.heap_setCell_same hB.out _) _), (by unfold leftM leftOk; rw [HKK.out]; simp [List.length_eq_zero_iff, and_assoc])⟩⟩
    · have d1 : (kI == 1) = false := beq_eq_false_iff_ne.2 (by rw [← HKI.out]; omega)
      have d2 : (kI == 2) = false := beq_eq_false_iff_ne.2 (by rw [← HKI.out]; omega)
      have d3 : (kI == 3) = false := beq_eq_false_iff_ne.2 (by rw [← HKI.out]; omega)
      have d4 : (kI == 4) = false := beq_eq_false_iff_ne.2 (by rw [← HKI.out]; omega)
      have d5 : (kI == 5) = false := beq_eq_false_iff_ne.2 (by rw [← HKI.out]; omega)
      have d6 : (kI == 6) = false := beq_eq_false_iff_ne.2 (by rw [← HKI.out]; omega)
      have d7 : (kI == 7) = true := beq_iff_eq.2 (by rw [← HKI.out]; omega)
      have HKK := Lib.hid hk
      clear hk
      have N1 := NA.out _ _ HB0.out
      have hkd : kindM o = (predOk o.pred && decide (0 < o.at_)) := by unfold kindM; rw [HKK.out]; rfl
      generalize predOk o.pred = pb at N1 hkd
      go_wp2_with fail
      refine N1.mono ?_
      rintro e w3 ⟨rfl, h3⟩
      have hC := Lib.hid (HC2.out.trans h3)
      have hB := Lib.hid ((h3.block (w.heap.size + 1) (by simp) (fun f => f)).trans HB1.out)
      have hA := Lib.hid ((h3.block w.heap.size (by simp; omega) (fun f => f)).trans HB0.out)
      have f5 : w3.frozen? ⟨w.heap.size + 1, 5, none⟩ = false := frozen_of hB.out
      have f6 : w3.frozen? ⟨w.heap.size + 1, 8, none⟩ = false := frozen_of hB.out
      have g5 : w3.cell? ⟨w.heap.size + 1, 5, none⟩ = some (.string o.pred) := cell_of hB.out rfl
      have g6 : w3.cell? ⟨w.heap.size + 1, 8, none⟩ = some (.int .u64 (o.at_ : Nat)) := cell_of hB.out rfl
      have a6 : w3.cell? ⟨w.heap.size, 8, none⟩ = some (.int .u64 (o.at_ : Nat)) := cell_of hA.out rfl
      clear h3 N1
      cases pb
      · go_wp2_with fail
        go_meet
        case rel => exact ⟨by rw [hkd]; rfl, Lib.hid ⟨((hC.out.setCell (Or.inr (by simp)) _).setCell (Or.inr (by simp)) _), ⟨o.n, o.st, l.ko, o.keys.length, l.kc, l.no, o.needs.length, l.nc, ⟨#[]⟩, o.g, o.to, 0⟩, (Mk.heap_setCell_same (Mk.heap_setCell_same hB.out _) _), (by unfold leftM leftOk; rw [HKK.out]; simp [List.length_eq_zero_iff, and_assoc])⟩⟩
      · by_cases n1 : 0 < o.at_
        · have e1 : decide ((0 : Int) < (o.at_ : Int)) = true := decide_eq_true (by omega)
          have e2 : decide (0 < o.at_) = true := decide_eq_true n1
          rw [e2] at hkd
          go_wp2_with fail
          go_meet
          case rel => exact ⟨by rw [hkd]; rfl, Lib.hid ⟨((hC.out.setCell (Or.inr (by simp)) _).setCell (Or.inr (by simp)) _), ⟨o.n, o.st, l.ko, o.keys.length, l.kc, l.no, o.needs.length, l.nc, ⟨#[]⟩, o.g, o.to, 0⟩, (Mk.heap_setCell_same (Mk.heap_setCell_same hB.out _) _), (by unfold leftM leftOk; rw [HKK.out]; simp [List.length_eq_zero_iff, and_assoc])⟩⟩
        · have e1 : decide ((0 : Int) < (o.at_ : Int)) = false := decide_eq_false (by omega)
          have e2 : decide (0 < o.at_) = false := decide_eq_false n1
          rw [e2] at hkd
          go_wp2_with fail
          go_meet
          case rel => exact ⟨by rw [hkd]; rfl, Lib.hid ⟨((hC.out.setCell (Or.inr (by simp)) _).setCell (Or.inr (by simp)) _), ⟨o.n, o.st, l.ko, o.keys.length, l.kc, l.no, o.needs.length, l.nc, ⟨#[]⟩, o.g, o.to, 0⟩, (Mk.heap_setCell_same (Mk.heap_setCell_same hB.out _) _), (by unfold leftM leftOk; rw [HKK.out]; simp [List.length_eq_zero_iff, and_assoc])⟩⟩
    · have d1 : (kI == 1) = false := beq_eq_false_iff_ne.2 (by rw [← HKI.out]; omega)
      have d2 : (kI == 2) = false := beq_eq_false_iff_ne.2 (by rw [← HKI.out]; omega)
      have d3 : (kI == 3) = false := beq_eq_false_iff_ne.2 (by rw [← HKI.out]; omega)
      have d4 : (kI == 4) = false := beq_eq_false_iff_ne.2 (by rw [← HKI.out]; omega)
      have d5 : (kI == 5) = false := beq_eq_false_iff_ne.2 (by rw [← HKI.out]; omega)
      have d6 : (kI == 6) = false := beq_eq_false_iff_ne.2 (by rw [← HKI.out]; omega)
      have d7 : (kI == 7) = false := beq_eq_false_iff_ne.2 (by rw [← HKI.out]; omega)
      have d8 : (kI == 8) = true := beq_iff_eq.2 (by rw [← HKI.out]; omega)
      have HKK := Lib.hid hk
      clear hk
      have N1 := NA.out _ _ HB0.out
      have hkd : kindM o = (predOk o.pred && decide (0 < o.at_)) := by unfold kindM; rw [HKK.out]; rfl
      generalize predOk o.pred = pb at N1 hkd
      go_wp2_with fail
      refine N1.mono ?_
      rintro e w3 ⟨rfl, h3⟩
      have hC := Lib.hid (HC2.out.trans h3)
      have hB := Lib.hid ((h3.block (w.heap.size + 1) (by simp) (fun f => f)).trans HB1.out)
      have hA := Lib.hid ((h3.block w.heap.size (by simp; omega) (fun f => f)).trans HB0.out)
      have f5 : w3.frozen? ⟨w.heap.size + 1, 5, none⟩ = false := frozen_of hB.out
      have f6 : w3.frozen? ⟨w.heap.size + 1, 8, none⟩ = false := frozen_of hB.out
      have g5 : w3.cell? ⟨w.heap.size + 1, 5, none⟩ = some (.string o.pred) := cell_of hB.out rfl
      have g6 : w3.cell? ⟨w.heap.size + 1, 8, none⟩ = some (.int .u64 (o.at_ : Nat)) := cell_of hB.out rfl
      have a6 : w3.cell? ⟨w.heap.size, 8, none⟩ = some (.int .u64 (o.at_ : Nat)) := cell_of hA.out rfl
      clear h3 N1
      cases pb
      · go_wp2_with fail
        go_meet
        case rel => exact ⟨by rw [hkd]; rfl, Lib.hid ⟨((hC.out.setCell (Or.inr (by simp)) _).setCell (Or.inr (by simp)) _), ⟨o.n, o.st, l.ko, o.keys.length, l.kc, l.no, o.needs.length, l.nc, ⟨#[]⟩, o.g, o.to, 0⟩, (Mk.heap_setCell_same (Mk.heap_setCell_same hB.out _) _), (by unfold leftM leftOk; rw [HKK.out]; simp [List.length_eq_zero_iff, and_assoc])⟩⟩
      · by_cases n1 : 0 < o.at_
        · have e1 : decide ((0 : Int) < (o.at_ : Int)) = true := decide_eq_true (by omega)
          have e2 : decide (0 < o.at_) = true := decide_eq_true n1
          rw [e2] at hkd
          go_wp2_with fail
          go_meet
          case rel => exact ⟨by rw [hkd]; rfl, Lib.hid ⟨((hC.out.setCell (Or.inr (by simp)) _).setCell (Or.inr (by simp)) _), ⟨o.n, o.st, l.ko, o.keys.length, l.kc, l.no, o.needs.length, l.nc, ⟨#[]⟩, o.g, o.to, 0⟩, (Mk.heap_setCell_same (Mk.heap_setCell_same hB.out _) _), (by unfold leftM leftOk; rw [HKK.out]; simp [List.length_eq_zero_iff, and_assoc])⟩⟩
        · have e1 : decide ((0 : Int) < (o.at_ : Int)) = false := decide_eq_false (by omega)
          have e2 : decide (0 < o.at_) = false := decide_eq_false n1
          rw [e2] at hkd
          go_wp2_with fail
          go_meet
          case rel => exact ⟨by rw [hkd]; rfl, Lib.hid ⟨((hC.out.setCell (Or.inr (by simp)) _).setCell (Or.inr (by simp)) _), ⟨o.n, o.st, l.ko, o.keys.length, l.kc, l.no, o.needs.length, l.nc, ⟨#[]⟩, o.g, o.to, 0⟩, (Mk.heap_setCell_same (Mk.heap_setCell_same hB.out _) _), (by unfold leftM leftOk; rw [HKK.out]; simp [List.length_eq_zero_iff, and_assoc])⟩⟩
    · have d1 : (kI == 1) = false := beq_eq_false_iff_ne.2 (by rw [← HKI.out]; omega)
      have d2 : (kI == 2) = false := beq_eq_false_iff_ne.2 (by rw [← HKI.out]; omega)
      have d3 : (kI == 3) = false := beq_eq_false_iff_ne.2 (by rw [← HKI.out]; omega)
      have d4 : (kI == 4) = false := beq_eq_false_iff_ne.2 (by rw [← HKI.out]; omega)
      have d5 : (kI == 5) = false := beq_eq_false_iff_ne.2 (by rw [← HKI.out]; omega)
      have d6 : (kI == 6) = false := beq_eq_false_iff_ne.2 (by rw [← HKI.out]; omega)
      have d7 : (kI == 7) = false := beq_eq_false_iff_ne.2 (by rw [← HKI.out]; omega)
      have d8 : (kI == 8) = false := beq_eq_false_iff_ne.2 (by rw [← HKI.out]; omega)
      have d9 : (kI == 9) = true := beq_iff_eq.2 (by rw [← HKI.out]; omega)
      have HKK := Lib.hid hk
      clear hk
      by_cases n1 : 0 < o.at_
      · have e1 : decide ((0 : Int) < (o.at_ : Int)) = true := decide_eq_true (by omega)
        go_wp2_with fail
        go_meet
        case rel => exact ⟨by rw [show kindM o = true by unfold kindM; rw [HKK.out]; simp [n1]], Lib.hid ⟨((Chg.refl _ _).alloc _).alloc _, ⟨o.n, o.st, l.ko, o.keys.length, l.kc, l.no, o.needs.length, l.nc, o.pred, o.g, o.to, 0⟩, alloc2_new w _ _, (by unfold leftM leftOk; rw [HKK.out]; simp [List.length_eq_zero_iff, and_assoc])⟩⟩
      · have e1 : decide ((0 : Int) < (o.at_ : Int)) = false := decide_eq_false (by omega)
        go_wp2_with fail
        go_meet
        case rel => exact ⟨by rw [show kindM o = false by unfold kindM; rw [HKK.out]; simp; omega], Lib.hid ⟨((Chg.refl _ _).alloc _).alloc _, ⟨o.n, o.st, l.ko, o.keys.length, l.kc, l.no, o.needs.length, l.nc, o.pred, o.g, o.to, 0⟩, alloc2_new w _ _, (by unfold leftM leftOk; rw [HKK.out]; simp [List.length_eq_zero_iff, and_assoc])⟩⟩
    · have d1 : (kI == 1) = false := beq_eq_false_iff_ne.2 (by rw [← HKI.out]; omega)
      have d2 : (kI == 2) = false := beq_eq_false_iff_ne.2 (by rw [← HKI.out]; omega)
      have d3 : (kI == 3) = false := beq_eq_false_iff_ne.2 (by rw [← HKI.out]; omega)
      have d4 : (kI == 4) = false := beq_eq_false_iff_ne.2 (by rw [← HKI.out]; omega)
      have d5 : (kI == 5) = false := beq_eq_false_iff_ne.2 (by rw [← HKI.out]; omega)
      have d6 : (kI == 6) = false := beq_eq_false_iff_ne.2 (by rw [← HKI.out]; omega)
      have d7 : (kI == 7) = false := beq_eq_false_iff_ne.2 (by rw [← HKI.out]; omega)
      have d8 : (kI == 8) = false := beq_eq_false_iff_ne.2 (by rw [← HKI.out]; omega)
      have d9 : (kI == 9) = false := beq_eq_false_iff_ne.2 (by rw [← HKI.out]; omega)
      go_wp2_with fail
      go_meet
      case rel => exact ⟨by rw [show kindM o = false by unfold kindM; split <;> simp_all], Lib.hid ⟨((Chg.refl _ _).alloc _).alloc _, ⟨o.n, o.st, l.ko, o.keys.length, l.kc, l.no, o.needs.length, l.nc, o.pred, o.g, o.to, o.at_⟩, alloc2_new w _ _, (by unfold leftM leftOk; simp [List.length_eq_zero_iff, and_assoc, hk])⟩⟩
end Go.Proofs.YtgmmglmokkcgeaaGreat
