/- Walks: the document's May, of the kind 1. -/
import Derived.Test.YtgmmglmokkcgeaaGreatE2
import Derived.Deep.Cut
import Derived.Deep.CutBlock
namespace Go.Proofs.YtgmmglmokkcgeaaGreat
set_option linter.unusedVariables false
set_option linter.unusedSimpArgs false
open Go.RowKit Mk Go.Sort

set_option maxRecDepth 100000 in
set_option maxHeartbeats 8000000 in
theorem rmay_1 {w : World} {o : OpM} {l : OpL} (h : OpAt w o l) (hk0 : o.k = 1) :
    Calls Tryz.prog 61 #[.agg (opC o l)] w fun e w' => e = .returned (.bool (mayM o)) ∧ Chg (fun _ => False) w w' := by
  obtain ⟨Rr, HR⟩ : ∃ b : Bool, Hid (mayM o = b) := ⟨_, Lib.hid rfl⟩
  rw [HR.out]
  have HC0 := Lib.hid (show Chg (fun _ => False) w (w.alloc (.cells (opC o l) 28)) from (Chg.refl _ _).alloc _)
  have hkb : (w.alloc (.cells (opC o l) 28)).heap[w.heap.size]? = some (.cells (opC o l) 28) := Go.heap_alloc_new _ _
  have hkc : ∀ i v, (opC o l)[i]? = some v → (w.alloc (.cells (opC o l) 28)).cell? ⟨w.heap.size, i, none⟩ = some v := fun i v hv => cell_of hkb hv
  have k0 : (w.alloc (.cells (opC o l) 28)).cell? ⟨w.heap.size, 0, none⟩ = some (.int .u8 (o.k : Nat)) := hkc 0 _ rfl
  have k1 : (w.alloc (.cells (opC o l) 28)).cell? ⟨w.heap.size, 1, none⟩ = some (.int .u32 (o.n : Nat)) := hkc 1 _ rfl
  have k2 : (w.alloc (.cells (opC o l) 28)).cell? ⟨w.heap.size, 2, none⟩ = some (.int .u64 (o.st : Nat)) := hkc 2 _ rfl
  have k3 : (w.alloc (.cells (opC o l) 28)).cell? ⟨w.heap.size, 3, none⟩ = some (.slice l.ko o.keys.length l.kc) := hkc 3 _ rfl
  have k4 : (w.alloc (.cells (opC o l) 28)).cell? ⟨w.heap.size, 4, none⟩ = some (.slice l.no o.needs.length l.nc) := hkc 4 _ rfl
  have k5 : (w.alloc (.cells (opC o l) 28)).cell? ⟨w.heap.size, 5, none⟩ = some (.string o.pred) := hkc 5 _ rfl
  have k6 : (w.alloc (.cells (opC o l) 28)).cell? ⟨w.heap.size, 6, none⟩ = some (.int .u32 (o.g : Nat)) := hkc 6 _ rfl
  have k7 : (w.alloc (.cells (opC o l) 28)).cell? ⟨w.heap.size, 7, none⟩ = some (.int .u32 (o.to : Nat)) := hkc 7 _ rfl
  have k8 : (w.alloc (.cells (opC o l) 28)).cell? ⟨w.heap.size, 8, none⟩ = some (.int .u64 (o.at_ : Nat)) := hkc 8 _ rfl
  have RP := Lib.hid (rpred_any o.pred)
  have RK := rkeys_any (sc := l.kc) (h.keys.same HC0.out)
  have RN := Lib.hid (fun (v : World) (c : Chg (fun _ => False) w v) => rneeds_any (sc := l.nc) (h.needs.same c))
  obtain ⟨bn, hbn⟩ : ∃ b, ((o.n : Int) != 0) = b := ⟨_, rfl⟩
  obtain ⟨bst, hbst⟩ : ∃ b, ((o.st : Int) != 0) = b := ⟨_, rfl⟩
  obtain ⟨bg, hbg⟩ : ∃ b, ((o.g : Int) != 0) = b := ⟨_, rfl⟩
  obtain ⟨bto, hbto⟩ : ∃ b, ((o.to : Int) != 0) = b := ⟨_, rfl⟩
  obtain ⟨bat, hbat⟩ : ∃ b, ((o.at_ : Int) != 0) = b := ⟨_, rfl⟩
  obtain ⟨be, hbe⟩ : ∃ b, decide (o.pred.toList = []) = b := ⟨_, rfl⟩
  have hbe2 : (o.pred.toList == []) = be := by rw [← hbe]; cases o.pred.toList <;> rfl
  obtain ⟨ke, hke⟩ : ∃ b, o.keys.isEmpty = b := ⟨_, rfl⟩
  obtain ⟨ne, hne⟩ : ∃ b, o.needs.isEmpty = b := ⟨_, rfl⟩
  have hk1 : decide ((0 : Int) < o.keys.length) = !ke := by rw [← hke]; cases o.keys <;> simp
  have hn1 : decide ((0 : Int) < o.needs.length) = !ne := by rw [← hne]; cases o.needs <;> simp
  have hk1' : decide (0 < o.keys.length) = !ke := by rw [← hke]; cases o.keys <;> simp
  have hn1' : decide (0 < o.needs.length) = !ne := by rw [← hne]; cases o.needs <;> simp
  obtain ⟨bnm, hnm⟩ : ∃ b, predOk o.pred = b := ⟨_, rfl⟩
  obtain ⟨p1, hp1⟩ : ∃ b, decide ((1 : Int) ≤ o.n) = b := ⟨_, rfl⟩
  obtain ⟨p2, hp2⟩ : ∃ b, decide ((o.n : Int) ≤ 4096) = b := ⟨_, rfl⟩
  obtain ⟨kM, hkM⟩ : ∃ b, rkeysM o.keys = b := ⟨_, rfl⟩
  obtain ⟨nM, hnM⟩ : ∃ b, rneedsM o.needs = b := ⟨_, rfl⟩
  obtain ⟨bl, hbl⟩ : ∃ b, (!(ke && ne)) = b := ⟨_, rfl⟩
  have hz : ∀ (x : Nat) (b : Bool), ((x : Int) != 0) = b → decide (x = 0) = !b := fun x b e => by rw [← e]; by_cases h : x = 0 <;> simp [h]
  have HAS := Lib.hid (show Asks o bn bst be bg bto bat ke ne bl bnm p1 p2 kM nM from ⟨hz _ _ hbn, hz _ _ hbst, hbe, hz _ _ hbg, hz _ _ hbto, hz _ _ hbat, hke, hne, hbl.symm, hnm, by rw [← hp1]; simp only [decide_eq_decide]; omega, by rw [← hp2]; simp only [decide_eq_decide]; omega, hkM, hnM⟩)
  rw [hnm] at RP
  rw [hkM] at RK
  rw [hnM] at RN
  have RK := Lib.hid RK
  have hk256 : o.k < 256 := h.k
  have HKD := Lib.hid hk0
  clear hk0
  obtain ⟨W0, HW0⟩ : ∃ W0, Hid (w.alloc (.cells (opC o l) 28) = W0) := ⟨_, Lib.hid rfl⟩
  obtain ⟨kb, HKB⟩ : ∃ kb, Hid (w.heap.size = kb) := ⟨_, Lib.hid rfl⟩
  rw [HW0.out] at HC0 RK
  rw [HW0.out, HKB.out] at k0 k1 k2 k3 k4 k5 k6 k7 k8
  have KH := Lib.hid (show ∀ (i : Int), i = o.k → True from fun _ _ => trivial)
  obtain ⟨kI, hkI⟩ : ∃ kI : Int, (o.k : Int) = kI := ⟨_, rfl⟩
  have HKI := Lib.hid hkI
  rw [hkI] at k0
  rw [show opC o l = opK kI o l by unfold opC opK; rw [hkI]] at HW0 ⊢
  clear h hkb hkc hbe hke hne hnm hkM hnM hz hk256 hkI
  go_enter Tryz.func61, Tryz.ntmps61
  go_upto_region 7 with fail
  rw [HW0.out, HKB.out]
  go_cut [3, 4, 5, 6, 7, 8, 9] from 11 (fun s3 s4 s5 s6 s7 s8 s9 wc => s3 = .bool bn ∧ s4 = .bool bst ∧ s5 = .bool (!be) ∧ s6 = .bool bg ∧ s7 = .bool bto ∧ s8 = .bool bat ∧ s9 = .bool bl ∧ wc = W0)
  case first => as_aux_lemma =>
    cases ke <;> cases ne
    all_goals
      go_wp2_with fail
      go_meet
      case rel => exact ⟨by first | rfl | rw [hbn], by first | rfl | rw [hbst], by first | rfl | (rw [hbe2]; rfl) | simp [hbe2], by first | rfl | rw [hbg], by first | rfl | rw [hbto], by first | rfl | rw [hbat], by rw [← hbl]; rfl, rfl⟩
  case rest =>
    obtain ⟨rfl, rfl, rfl, rfl, rfl, rfl, rfl, rfl⟩ := hcut
    clear hbn hbst hbg hbto hbat hbe2 hk1 hk1' hn1 hn1' hbl k2 k6 k7 k8
    go_wp2_with fail
    refine (RP.out _).mono ?_
    rintro e w1 ⟨rfl, rfl⟩
    have HC := HC0
    clear RP k5
    have hk := HKD.out
    have HM := Lib.hid (may_1 HAS.out hk)
    have hkI2 : kI = 1 := by rw [← HKI.out, hk]; rfl
    have q1 : (kI == 1) = true := by rw [hkI2]; rfl
    have q2 : (kI == 2) = false := by rw [hkI2]; rfl
    have q3 : (kI == 3) = false := by rw [hkI2]; rfl
    have q4 : (kI == 4) = false := by rw [hkI2]; rfl
    have q5 : (kI == 5) = false := by rw [hkI2]; rfl
    have q6 : (kI == 6) = false := by rw [hkI2]; rfl
    have q7 : (kI == 7) = false := by rw [hkI2]; rfl
    have q8 : (kI == 8) = false := by rw [hkI2]; rfl
    have q9 : (kI == 9) = false := by rw [hkI2]; rfl
    clear hk hkI2 HAS HKD HKI
    go_upto_region 12 with fail
    clear q1 q2 q3 q4 q5 q6 q7 q8 q9
    go_cut [2] from 11 (fun s wc => s = .bool Rr ∧ Hid (Chg (fun _ => False) w wc))
    case first => as_aux_lemma =>
      cases p1
      · have HV := Lib.hid (show Rr = false by rw [← HR.out, HM.out]; rfl)
        clear HM
        go_wp2_with fail
        go_meet
        case rel => exact ⟨by rw [HV.out], HC⟩
      · cases p2
        · have HV := Lib.hid (show Rr = false by rw [← HR.out, HM.out]; rfl)
          clear HM
          go_wp2_with fail
          go_meet
          case rel => exact ⟨by rw [HV.out], HC⟩
        · cases bst
          · cases be
            · have HV := Lib.hid (show Rr = false by rw [← HR.out, HM.out]; rfl)
              clear HM
              go_wp2_with fail
              go_meet
              case rel => exact ⟨by rw [HV.out], HC⟩
            · cases bg
              · cases bto
                · cases bat
                  · cases bl
                    · have HV := Lib.hid (show Rr = true by rw [← HR.out, HM.out]; rfl)
                      clear HM
                      go_wp2_with fail
                      go_meet
                      case rel => exact ⟨by rw [HV.out], HC⟩
                    · have HV := Lib.hid (show Rr = false by rw [← HR.out, HM.out]; rfl)
                      clear HM
                      go_wp2_with fail
                      go_meet
                      case rel => exact ⟨by rw [HV.out], HC⟩
                  · have HV := Lib.hid (show Rr = false by rw [← HR.out, HM.out]; rfl)
                    clear HM
                    go_wp2_with fail
                    go_meet
                    case rel => exact ⟨by rw [HV.out], HC⟩
                · have HV := Lib.hid (show Rr = false by rw [← HR.out, HM.out]; rfl)
                  clear HM
                  go_wp2_with fail
                  go_meet
                  case rel => exact ⟨by rw [HV.out], HC⟩
              · have HV := Lib.hid (show Rr = false by rw [← HR.out, HM.out]; rfl)
                clear HM
                go_wp2_with fail
                go_meet
                case rel => exact ⟨by rw [HV.out], HC⟩
          · have HV := Lib.hid (show Rr = false by rw [← HR.out, HM.out]; rfl)
            clear HM
            go_wp2_with fail
            go_meet
            case rel => exact ⟨by rw [HV.out], HC⟩
    case rest =>
      obtain ⟨rfl, HC⟩ := hcut
      go_wp2
      go_ret
      exact ⟨rfl, HC.out⟩
end Go.Proofs.YtgmmglmokkcgeaaGreat
/- Walks: the document's May, of the kind 2. -/
namespace Go.Proofs.YtgmmglmokkcgeaaGreat
set_option linter.unusedVariables false
set_option linter.unusedSimpArgs false
open Go.RowKit Mk Go.Sort

set_option maxRecDepth 100000 in
set_option maxHeartbeats 8000000 in
theorem rmay_2 {w : World} {o : OpM} {l : OpL} (h : OpAt w o l) (hk0 : o.k = 2) :
    Calls Tryz.prog 61 #[.agg (opC o l)] w fun e w' => e = .returned (.bool (mayM o)) ∧ Chg (fun _ => False) w w' := by
  obtain ⟨Rr, HR⟩ : ∃ b : Bool, Hid (mayM o = b) := ⟨_, Lib.hid rfl⟩
  rw [HR.out]
  have HC0 := Lib.hid (show Chg (fun _ => False) w (w.alloc (.cells (opC o l) 28)) from (Chg.refl _ _).alloc _)
  have hkb : (w.alloc (.cells (opC o l) 28)).heap[w.heap.size]? = some (.cells (opC o l) 28) := Go.heap_alloc_new _ _
  have hkc : ∀ i v, (opC o l)[i]? = some v → (w.alloc (.cells (opC o l) 28)).cell? ⟨w.heap.size, i, none⟩ = some v := fun i v hv => cell_of hkb hv
  have k0 : (w.alloc (.cells (opC o l) 28)).cell? ⟨w.heap.size, 0, none⟩ = some (.int .u8 (o.k : Nat)) := hkc 0 _ rfl
  have k1 : (w.alloc (.cells (opC o l) 28)).cell? ⟨w.heap.size, 1, none⟩ = some (.int .u32 (o.n : Nat)) := hkc 1 _ rfl
  have k2 : (w.alloc (.cells (opC o l) 28)).cell? ⟨w.heap.size, 2, none⟩ = some (.int .u64 (o.st : Nat)) := hkc 2 _ rfl
  have k3 : (w.alloc (.cells (opC o l) 28)).cell? ⟨w.heap.size, 3, none⟩ = some (.slice l.ko o.keys.length l.kc) := hkc 3 _ rfl
  have k4 : (w.alloc (.cells (opC o l) 28)).cell? ⟨w.heap.size, 4, none⟩ = some (.slice l.no o.needs.length l.nc) := hkc 4 _ rfl
  have k5 : (w.alloc (.cells (opC o l) 28)).cell? ⟨w.heap.size, 5, none⟩ = some (.string o.pred) := hkc 5 _ rfl
  have k6 : (w.alloc (.cells (opC o l) 28)).cell? ⟨w.heap.size, 6, none⟩ = some (.int .u32 (o.g : Nat)) := hkc 6 _ rfl
  have k7 : (w.alloc (.cells (opC o l) 28)).cell? ⟨w.heap.size, 7, none⟩ = some (.int .u32 (o.to : Nat)) := hkc 7 _ rfl
  have k8 : (w.alloc (.cells (opC o l) 28)).cell? ⟨w.heap.size, 8, none⟩ = some (.int .u64 (o.at_ : Nat)) := hkc 8 _ rfl
  have RP := Lib.hid (rpred_any o.pred)
  have RK := rkeys_any (sc := l.kc) (h.keys.same HC0.out)
  have RN := Lib.hid (fun (v : World) (c : Chg (fun _ => False) w v) => rneeds_any (sc := l.nc) (h.needs.same c))
  obtain ⟨bn, hbn⟩ : ∃ b, ((o.n : Int) != 0) = b := ⟨_, rfl⟩
  obtain ⟨bst, hbst⟩ : ∃ b, ((o.st : Int) != 0) = b := ⟨_, rfl⟩
  obtain ⟨bg, hbg⟩ : ∃ b, ((o.g : Int) != 0) = b := ⟨_, rfl⟩
  obtain ⟨bto, hbto⟩ : ∃ b, ((o.to : Int) != 0) = b := ⟨_, rfl⟩
  obtain ⟨bat, hbat⟩ : ∃ b, ((o.at_ : Int) != 0) = b := ⟨_, rfl⟩
  obtain ⟨be, hbe⟩ : ∃ b, decide (o.pred.toList = []) = b := ⟨_, rfl⟩
  have hbe2 : (o.pred.toList == []) = be := by rw [← hbe]; cases o.pred.toList <;> rfl
  obtain ⟨ke, hke⟩ : ∃ b, o.keys.isEmpty = b := ⟨_, rfl⟩
  obtain ⟨ne, hne⟩ : ∃ b, o.needs.isEmpty = b := ⟨_, rfl⟩
  have hk1 : decide ((0 : Int) < o.keys.length) = !ke := by rw [← hke]; cases o.keys <;> simp
  have hn1 : decide ((0 : Int) < o.needs.length) = !ne := by rw [← hne]; cases o.needs <;> simp
  have hk1' : decide (0 < o.keys.length) = !ke := by rw [← hke]; cases o.keys <;> simp
  have hn1' : decide (0 < o.needs.length) = !ne := by rw [← hne]; cases o.needs <;> simp
  obtain ⟨bnm, hnm⟩ : ∃ b, predOk o.pred = b := ⟨_, rfl⟩
  obtain ⟨p1, hp1⟩ : ∃ b, decide ((1 : Int) ≤ o.n) = b := ⟨_, rfl⟩
  obtain ⟨p2, hp2⟩ : ∃ b, decide ((o.n : Int) ≤ 4096) = b := ⟨_, rfl⟩
  obtain ⟨kM, hkM⟩ : ∃ b, rkeysM o.keys = b := ⟨_, rfl⟩
  obtain ⟨nM, hnM⟩ : ∃ b, rneedsM o.needs = b := ⟨_, rfl⟩
  obtain ⟨bl, hbl⟩ : ∃ b, (!(ke && ne)) = b := ⟨_, rfl⟩
  have hz : ∀ (x : Nat) (b : Bool), ((x : Int) != 0) = b → decide (x = 0) = !b := fun x b e => by rw [← e]; by_cases h : x = 0 <;> simp [h]
  have HAS := Lib.hid (show Asks o bn bst be bg bto bat ke ne bl bnm p1 p2 kM nM from ⟨hz _ _ hbn, hz _ _ hbst, hbe, hz _ _ hbg, hz _ _ hbto, hz _ _ hbat, hke, hne, hbl.symm, hnm, by rw [← hp1]; simp only [decide_eq_decide]; omega, by rw [← hp2]; simp only [decide_eq_decide]; omega, hkM, hnM⟩)
  rw [hnm] at RP
  rw [hkM] at RK
  rw [hnM] at RN
  have RK := Lib.hid RK
  have hk256 : o.k < 256 := h.k
  have HKD := Lib.hid hk0
  clear hk0
  obtain ⟨W0, HW0⟩ : ∃ W0, Hid (w.alloc (.cells (opC o l) 28) = W0) := ⟨_, Lib.hid rfl⟩
  obtain ⟨kb, HKB⟩ : ∃ kb, Hid (w.heap.size = kb) := ⟨_, Lib.hid rfl⟩
  rw [HW0.out] at HC0 RK
  rw [HW0.out, HKB.out] at k0 k1 k2 k3 k4 k5 k6 k7 k8
  have KH := Lib.hid (show ∀ (i : Int), i = o.k → True from fun _ _ => trivial)
  obtain ⟨kI, hkI⟩ : ∃ kI : Int, (o.k : Int) = kI := ⟨_, rfl⟩
  have HKI := Lib.hid hkI
  rw [hkI] at k0
  rw [show opC o l = opK kI o l by unfold opC opK; rw [hkI]] at HW0 ⊢
  clear h hkb hkc hbe hke hne hnm hkM hnM hz hk256 hkI
  go_enter Tryz.func61, Tryz.ntmps61
  go_upto_region 7 with fail
  rw [HW0.out, HKB.out]
  go_cut [3, 4, 5, 6, 7, 8, 9] from 11 (fun s3 s4 s5 s6 s7 s8 s9 wc => s3 = .bool bn ∧ s4 = .bool bst ∧ s5 = .bool (!be) ∧ s6 = .bool bg ∧ s7 = .bool bto ∧ s8 = .bool bat ∧ s9 = .bool bl ∧ wc = W0)
  case first => as_aux_lemma =>
    cases ke <;> cases ne
    all_goals
      go_wp2_with fail
      go_meet
      case rel => exact ⟨by first | rfl | rw [hbn], by first | rfl | rw [hbst], by first | rfl | (rw [hbe2]; rfl) | simp [hbe2], by first | rfl | rw [hbg], by first | rfl | rw [hbto], by first | rfl | rw [hbat], by rw [← hbl]; rfl, rfl⟩
  case rest =>
    obtain ⟨rfl, rfl, rfl, rfl, rfl, rfl, rfl, rfl⟩ := hcut
    clear hbn hbst hbg hbto hbat hbe2 hk1 hk1' hn1 hn1' hbl k2 k6 k7 k8
    go_wp2_with fail
    refine (RP.out _).mono ?_
    rintro e w1 ⟨rfl, rfl⟩
    have HC := HC0
    clear RP k5
    have hk := HKD.out
    have HM := Lib.hid (may_2 HAS.out hk)
    have hkI2 : kI = 2 := by rw [← HKI.out, hk]; rfl
    have q1 : (kI == 1) = false := by rw [hkI2]; rfl
    have q2 : (kI == 2) = true := by rw [hkI2]; rfl
    have q3 : (kI == 3) = false := by rw [hkI2]; rfl
    have q4 : (kI == 4) = false := by rw [hkI2]; rfl
    have q5 : (kI == 5) = false := by rw [hkI2]; rfl
    have q6 : (kI == 6) = false := by rw [hkI2]; rfl
    have q7 : (kI == 7) = false := by rw [hkI2]; rfl
    have q8 : (kI == 8) = false := by rw [hkI2]; rfl
    have q9 : (kI == 9) = false := by rw [hkI2]; rfl
    clear hk hkI2 HAS HKD HKI
    go_upto_region 12 with fail
    clear q1 q2 q3 q4 q5 q6 q7 q8 q9
    go_cut [2] from 11 (fun s wc => s = .bool Rr ∧ Hid (Chg (fun _ => False) w wc))
    case first => as_aux_lemma =>
      cases p1
      · have HV := Lib.hid (show Rr = false by rw [← HR.out, HM.out]; rfl)
        clear HM
        go_wp2_with fail
        go_meet
        case rel => exact ⟨by rw [HV.out], HC⟩
      · cases p2
        · have HV := Lib.hid (show Rr = false by rw [← HR.out, HM.out]; rfl)
          clear HM
          go_wp2_with fail
          go_meet
          case rel => exact ⟨by rw [HV.out], HC⟩
        · cases bst
          · cases be
            · have HV := Lib.hid (show Rr = false by rw [← HR.out, HM.out]; rfl)
              clear HM
              go_wp2_with fail
              go_meet
              case rel => exact ⟨by rw [HV.out], HC⟩
            · cases bg
              · cases bto
                · cases bat
                  · cases bl
                    · have HV := Lib.hid (show Rr = true by rw [← HR.out, HM.out]; rfl)
                      clear HM
                      go_wp2_with fail
                      go_meet
                      case rel => exact ⟨by rw [HV.out], HC⟩
                    · have HV := Lib.hid (show Rr = false by rw [← HR.out, HM.out]; rfl)
                      clear HM
                      go_wp2_with fail
                      go_meet
                      case rel => exact ⟨by rw [HV.out], HC⟩
                  · have HV := Lib.hid (show Rr = false by rw [← HR.out, HM.out]; rfl)
                    clear HM
                    go_wp2_with fail
                    go_meet
                    case rel => exact ⟨by rw [HV.out], HC⟩
                · have HV := Lib.hid (show Rr = false by rw [← HR.out, HM.out]; rfl)
                  clear HM
                  go_wp2_with fail
                  go_meet
                  case rel => exact ⟨by rw [HV.out], HC⟩
              · have HV := Lib.hid (show Rr = false by rw [← HR.out, HM.out]; rfl)
                clear HM
                go_wp2_with fail
                go_meet
                case rel => exact ⟨by rw [HV.out], HC⟩
          · have HV := Lib.hid (show Rr = false by rw [← HR.out, HM.out]; rfl)
            clear HM
            go_wp2_with fail
            go_meet
            case rel => exact ⟨by rw [HV.out], HC⟩
    case rest =>
      obtain ⟨rfl, HC⟩ := hcut
      go_wp2
      go_ret
      exact ⟨rfl, HC.out⟩
end Go.Proofs.YtgmmglmokkcgeaaGreat
/- Walks: the document's May, of the kind 3. -/
namespace Go.Proofs.YtgmmglmokkcgeaaGreat
set_option linter.unusedVariables false
set_option linter.unusedSimpArgs false
open Go.RowKit Mk Go.Sort

set_option maxRecDepth 100000 in
set_option maxHeartbeats 8000000 in
theorem rmay_3 {w : World} {o : OpM} {l : OpL} (h : OpAt w o l) (hk0 : o.k = 3) :
    Calls Tryz.prog 61 #[.agg (opC o l)] w fun e w' => e = .returned (.bool (mayM o)) ∧ Chg (fun _ => False) w w' := by
  obtain ⟨Rr, HR⟩ : ∃ b : Bool, Hid (mayM o = b) := ⟨_, Lib.hid rfl⟩
  rw [HR.out]
  have HC0 := Lib.hid (show Chg (fun _ => False) w (w.alloc (.cells (opC o l) 28)) from (Chg.refl _ _).alloc _)
  have hkb : (w.alloc (.cells (opC o l) 28)).heap[w.heap.size]? = some (.cells (opC o l) 28) := Go.heap_alloc_new _ _
  have hkc : ∀ i v, (opC o l)[i]? = some v → (w.alloc (.cells (opC o l) 28)).cell? ⟨w.heap.size, i, none⟩ = some v := fun i v hv => cell_of hkb hv
  have k0 : (w.alloc (.cells (opC o l) 28)).cell? ⟨w.heap.size, 0, none⟩ = some (.int .u8 (o.k : Nat)) := hkc 0 _ rfl
  have k1 : (w.alloc (.cells (opC o l) 28)).cell? ⟨w.heap.size, 1, none⟩ = some (.int .u32 (o.n : Nat)) := hkc 1 _ rfl
  have k2 : (w.alloc (.cells (opC o l) 28)).cell? ⟨w.heap.size, 2, none⟩ = some (.int .u64 (o.st : Nat)) := hkc 2 _ rfl
  have k3 : (w.alloc (.cells (opC o l) 28)).cell? ⟨w.heap.size, 3, none⟩ = some (.slice l.ko o.keys.length l.kc) := hkc 3 _ rfl
  have k4 : (w.alloc (.cells (opC o l) 28)).cell? ⟨w.heap.size, 4, none⟩ = some (.slice l.no o.needs.length l.nc) := hkc 4 _ rfl
  have k5 : (w.alloc (.cells (opC o l) 28)).cell? ⟨w.heap.size, 5, none⟩ = some (.string o.pred) := hkc 5 _ rfl
  have k6 : (w.alloc (.cells (opC o l) 28)).cell? ⟨w.heap.size, 6, none⟩ = some (.int .u32 (o.g : Nat)) := hkc 6 _ rfl
  have k7 : (w.alloc (.cells (opC o l) 28)).cell? ⟨w.heap.size, 7, none⟩ = some (.int .u32 (o.to : Nat)) := hkc 7 _ rfl
  have k8 : (w.alloc (.cells (opC o l) 28)).cell? ⟨w.heap.size, 8, none⟩ = some (.int .u64 (o.at_ : Nat)) := hkc 8 _ rfl
  have RP := Lib.hid (rpred_any o.pred)
  have RK := rkeys_any (sc := l.kc) (h.keys.same HC0.out)
  have RN := Lib.hid (fun (v : World) (c : Chg (fun _ => False) w v) => rneeds_any (sc := l.nc) (h.needs.same c))
  obtain ⟨bn, hbn⟩ : ∃ b, ((o.n : Int) != 0) = b := ⟨_, rfl⟩
  obtain ⟨bst, hbst⟩ : ∃ b, ((o.st : Int) != 0) = b := ⟨_, rfl⟩
  obtain ⟨bg, hbg⟩ : ∃ b, ((o.g : Int) != 0) = b := ⟨_, rfl⟩
  obtain ⟨bto, hbto⟩ : ∃ b, ((o.to : Int) != 0) = b := ⟨_, rfl⟩
  obtain ⟨bat, hbat⟩ : ∃ b, ((o.at_ : Int) != 0) = b := ⟨_, rfl⟩
  obtain ⟨be, hbe⟩ : ∃ b, decide (o.pred.toList = []) = b := ⟨_, rfl⟩
  have hbe2 : (o.pred.toList == []) = be := by rw [← hbe]; cases o.pred.toList <;> rfl
  obtain ⟨ke, hke⟩ : ∃ b, o.keys.isEmpty = b := ⟨_, rfl⟩
  obtain ⟨ne, hne⟩ : ∃ b, o.needs.isEmpty = b := ⟨_, rfl⟩
  have hk1 : decide ((0 : Int) < o.keys.length) = !ke := by rw [← hke]; cases o.keys <;> simp
  have hn1 : decide ((0 : Int) < o.needs.length) = !ne := by rw [← hne]; cases o.needs <;> simp
  have hk1' : decide (0 < o.keys.length) = !ke := by rw [← hke]; cases o.keys <;> simp
  have hn1' : decide (0 < o.needs.length) = !ne := by rw [← hne]; cases o.needs <;> simp
  obtain ⟨bnm, hnm⟩ : ∃ b, predOk o.pred = b := ⟨_, rfl⟩
  obtain ⟨p1, hp1⟩ : ∃ b, decide ((1 : Int) ≤ o.n) = b := ⟨_, rfl⟩
  obtain ⟨p2, hp2⟩ : ∃ b, decide ((o.n : Int) ≤ 4096) = b := ⟨_, rfl⟩
  obtain ⟨kM, hkM⟩ : ∃ b, rkeysM o.keys = b := ⟨_, rfl⟩
  obtain ⟨nM, hnM⟩ : ∃ b, rneedsM o.needs = b := ⟨_, rfl⟩
  obtain ⟨bl, hbl⟩ : ∃ b, (!(ke && ne)) = b := ⟨_, rfl⟩
  have hz : ∀ (x : Nat) (b : Bool), ((x : Int) != 0) = b → decide (x = 0) = !b := fun x b e => by rw [← e]; by_cases h : x = 0 <;> simp [h]
  have HAS := Lib.hid (show Asks o bn bst be bg bto bat ke ne bl bnm p1 p2 kM nM from ⟨hz _ _ hbn, hz _ _ hbst, hbe, hz _ _ hbg, hz _ _ hbto, hz _ _ hbat, hke, hne, hbl.symm, hnm, by rw [← hp1]; simp only [decide_eq_decide]; omega, by rw [← hp2]; simp only [decide_eq_decide]; omega, hkM, hnM⟩)
  rw [hnm] at RP
  rw [hkM] at RK
  rw [hnM] at RN
  have RK := Lib.hid RK
  have hk256 : o.k < 256 := h.k
  have HKD := Lib.hid hk0
  clear hk0
  obtain ⟨W0, HW0⟩ : ∃ W0, Hid (w.alloc (.cells (opC o l) 28) = W0) := ⟨_, Lib.hid rfl⟩
  obtain ⟨kb, HKB⟩ : ∃ kb, Hid (w.heap.size = kb) := ⟨_, Lib.hid rfl⟩
  rw [HW0.out] at HC0 RK
  rw [HW0.out, HKB.out] at k0 k1 k2 k3 k4 k5 k6 k7 k8
  have KH := Lib.hid (show ∀ (i : Int), i = o.k → True from fun _ _ => trivial)
  obtain ⟨kI, hkI⟩ : ∃ kI : Int, (o.k : Int) = kI := ⟨_, rfl⟩
  have HKI := Lib.hid hkI
  rw [hkI] at k0
  rw [show opC o l = opK kI o l by unfold opC opK; rw [hkI]] at HW0 ⊢
  clear h hkb hkc hbe hke hne hnm hkM hnM hz hk256 hkI
  go_enter Tryz.func61, Tryz.ntmps61
  go_upto_region 7 with fail
  rw [HW0.out, HKB.out]
  go_cut [3, 4, 5, 6, 7, 8, 9] from 11 (fun s3 s4 s5 s6 s7 s8 s9 wc => s3 = .bool bn ∧ s4 = .bool bst ∧ s5 = .bool (!be) ∧ s6 = .bool bg ∧ s7 = .bool bto ∧ s8 = .bool bat ∧ s9 = .bool bl ∧ wc = W0)
  case first => as_aux_lemma =>
    cases ke <;> cases ne
    all_goals
      go_wp2_with fail
      go_meet
      case rel => exact ⟨by first | rfl | rw [hbn], by first | rfl | rw [hbst], by first | rfl | (rw [hbe2]; rfl) | simp [hbe2], by first | rfl | rw [hbg], by first | rfl | rw [hbto], by first | rfl | rw [hbat], by rw [← hbl]; rfl, rfl⟩
  case rest =>
    obtain ⟨rfl, rfl, rfl, rfl, rfl, rfl, rfl, rfl⟩ := hcut
    clear hbn hbst hbg hbto hbat hbe2 hk1 hk1' hn1 hn1' hbl k2 k6 k7 k8
    go_wp2_with fail
    refine (RP.out _).mono ?_
    rintro e w1 ⟨rfl, rfl⟩
    have HC := HC0
    clear RP k5
    have hk := HKD.out
    have HM := Lib.hid (may_3 HAS.out hk)
    have hkI2 : kI = 3 := by rw [← HKI.out, hk]; rfl
    have q1 : (kI == 1) = false := by rw [hkI2]; rfl
    have q2 : (kI == 2) = false := by rw [hkI2]; rfl
    have q3 : (kI == 3) = true := by rw [hkI2]; rfl
    have q4 : (kI == 4) = false := by rw [hkI2]; rfl
    have q5 : (kI == 5) = false := by rw [hkI2]; rfl
    have q6 : (kI == 6) = false := by rw [hkI2]; rfl
    have q7 : (kI == 7) = false := by rw [hkI2]; rfl
    have q8 : (kI == 8) = false := by rw [hkI2]; rfl
    have q9 : (kI == 9) = false := by rw [hkI2]; rfl
    clear hk hkI2 HAS HKD HKI
    go_upto_region 14 with fail
    clear q1 q2 q3 q4 q5 q6 q7 q8 q9
    go_cut [2] from 11 (fun s wc => s = .bool Rr ∧ Hid (Chg (fun _ => False) w wc))
    case first => as_aux_lemma =>
      cases bst
      · have HV := Lib.hid (show Rr = false by rw [← HR.out, HM.out]; rfl)
        clear HM
        go_wp2_with fail
        go_meet
        case rel => exact ⟨by rw [HV.out], HC⟩
      · go_wp2_with fail
        refine RK.out.mono ?_
        rintro e w2 ⟨rfl, hc⟩
        have k4 := (World.cell?_of_block (a := ⟨kb, 4, none⟩) (hc.block kb (block_lt_of_cell k4) (fun f => f))).trans k4
        have RN1 := Lib.hid (RN.out w2 (HC.out.trans hc))
        have HC := Lib.hid (HC.out.trans hc)
        clear hc RK RN
        cases kM
        · have HV := Lib.hid (show Rr = false by rw [← HR.out, HM.out]; rfl)
          clear HM
          go_wp2_with fail
          go_meet
          case rel => exact ⟨by rw [HV.out], HC⟩
        · go_wp2_with fail
          refine RN1.out.mono ?_
          rintro e w3 ⟨rfl, hc⟩
          have HC := Lib.hid (HC.out.trans hc)
          clear hc RN1
          cases nM
          · have HV := Lib.hid (show Rr = false by rw [← HR.out, HM.out]; rfl)
            clear HM
            go_wp2_with fail
            go_meet
            case rel => exact ⟨by rw [HV.out], HC⟩
          · cases bn
            · cases be
              · have HV := Lib.hid (show Rr = false by rw [← HR.out, HM.out]; rfl)
                clear HM
                go_wp2_with fail
                go_meet
                case rel => exact ⟨by rw [HV.out], HC⟩
              · cases bg
                · cases bto
                  · cases bat
                    · have HV := Lib.hid (show Rr = true by rw [← HR.out, HM.out]; rfl)
                      clear HM
                      go_wp2_with fail
                      go_meet
                      case rel => exact ⟨by rw [HV.out], HC⟩
                    · have HV := Lib.hid (show Rr = false by rw [← HR.out, HM.out]; rfl)
                      clear HM
                      go_wp2_with fail
                      go_meet
                      case rel => exact ⟨by rw [HV.out], HC⟩
                  · have HV := Lib.hid (show Rr = false by rw [← HR.out, HM.out]; rfl)
                    clear HM
                    go_wp2_with fail
                    go_meet
                    case rel => exact ⟨by rw [HV.out], HC⟩
                · have HV := Lib.hid (show Rr = false by rw [← HR.out, HM.out]; rfl)
                  clear HM
                  go_wp2_with fail
                  go_meet
                  case rel => exact ⟨by rw [HV.out], HC⟩
            · have HV := Lib.hid (show Rr = false by rw [← HR.out, HM.out]; rfl)
              clear HM
              go_wp2_with fail
              go_meet
              case rel => exact ⟨by rw [HV.out], HC⟩
    case rest =>
      obtain ⟨rfl, HC⟩ := hcut
      go_wp2
      go_ret
      exact ⟨rfl, HC.out⟩
end Go.Proofs.YtgmmglmokkcgeaaGreat
/- Walks: the document's May, of the kind 4. -/
namespace Go.Proofs.YtgmmglmokkcgeaaGreat
set_option linter.unusedVariables false
set_option linter.unusedSimpArgs false
open Go.RowKit Mk Go.Sort

set_option maxRecDepth 100000 in
set_option maxHeartbeats 8000000 in
theorem rmay_4 {w : World} {o : OpM} {l : OpL} (h : OpAt w o l) (hk0 : o.k = 4) :
    Calls Tryz.prog 61 #[.agg (opC o l)] w fun e w' => e = .returned (.bool (mayM o)) ∧ Chg (fun _ => False) w w' := by
  obtain ⟨Rr, HR⟩ : ∃ b : Bool, Hid (mayM o = b) := ⟨_, Lib.hid rfl⟩
  rw [HR.out]
  have HC0 := Lib.hid (show Chg (fun _ => False) w (w.alloc (.cells (opC o l) 28)) from (Chg.refl _ _).alloc _)
  have hkb : (w.alloc (.cells (opC o l) 28)).heap[w.heap.size]? = some (.cells (opC o l) 28) := Go.heap_alloc_new _ _
  have hkc : ∀ i v, (opC o l)[i]? = some v → (w.alloc (.cells (opC o l) 28)).cell? ⟨w.heap.size, i, none⟩ = some v := fun i v hv => cell_of hkb hv
  have k0 : (w.alloc (.cells (opC o l) 28)).cell? ⟨w.heap.size, 0, none⟩ = some (.int .u8 (o.k : Nat)) := hkc 0 _ rfl
  have k1 : (w.alloc (.cells (opC o l) 28)).cell? ⟨w.heap.size, 1, none⟩ = some (.int .u32 (o.n : Nat)) := hkc 1 _ rfl
  have k2 : (w.alloc (.cells (opC o l) 28)).cell? ⟨w.heap.size, 2, none⟩ = some (.int .u64 (o.st : Nat)) := hkc 2 _ rfl
  have k3 : (w.alloc (.cells (opC o l) 28)).cell? ⟨w.heap.size, 3, none⟩ = some (.slice l.ko o.keys.length l.kc) := hkc 3 _ rfl
  have k4 : (w.alloc (.cells (opC o l) 28)).cell? ⟨w.heap.size, 4, none⟩ = some (.slice l.no o.needs.length l.nc) := hkc 4 _ rfl
  have k5 : (w.alloc (.cells (opC o l) 28)).cell? ⟨w.heap.size, 5, none⟩ = some (.string o.pred) := hkc 5 _ rfl
  have k6 : (w.alloc (.cells (opC o l) 28)).cell? ⟨w.heap.size, 6, none⟩ = some (.int .u32 (o.g : Nat)) := hkc 6 _ rfl
  have k7 : (w.alloc (.cells (opC o l) 28)).cell? ⟨w.heap.size, 7, none⟩ = some (.int .u32 (o.to : Nat)) := hkc 7 _ rfl
  have k8 : (w.alloc (.cells (opC o l) 28)).cell? ⟨w.heap.size, 8, none⟩ = some (.int .u64 (o.at_ : Nat)) := hkc 8 _ rfl
  have RP := Lib.hid (rpred_any o.pred)
  have RK := rkeys_any (sc := l.kc) (h.keys.same HC0.out)
  have RN := Lib.hid (fun (v : World) (c : Chg (fun _ => False) w v) => rneeds_any (sc := l.nc) (h.needs.same c))
  obtain ⟨bn, hbn⟩ : ∃ b, ((o.n : Int) != 0) = b := ⟨_, rfl⟩
  obtain ⟨bst, hbst⟩ : ∃ b, ((o.st : Int) != 0) = b := ⟨_, rfl⟩
  obtain ⟨bg, hbg⟩ : ∃ b, ((o.g : Int) != 0) = b := ⟨_, rfl⟩
  obtain ⟨bto, hbto⟩ : ∃ b, ((o.to : Int) != 0) = b := ⟨_, rfl⟩
  obtain ⟨bat, hbat⟩ : ∃ b, ((o.at_ : Int) != 0) = b := ⟨_, rfl⟩
  obtain ⟨be, hbe⟩ : ∃ b, decide (o.pred.toList = []) = b := ⟨_, rfl⟩
  have hbe2 : (o.pred.toList == []) = be := by rw [← hbe]; cases o.pred.toList <;> rfl
  obtain ⟨ke, hke⟩ : ∃ b, o.keys.isEmpty = b := ⟨_, rfl⟩
  obtain ⟨ne, hne⟩ : ∃ b, o.needs.isEmpty = b := ⟨_, rfl⟩
  have hk1 : decide ((0 : Int) < o.keys.length) = !ke := by rw [← hke]; cases o.keys <;> simp
  have hn1 : decide ((0 : Int) < o.needs.length) = !ne := by rw [← hne]; cases o.needs <;> simp
  have hk1' : decide (0 < o.keys.length) = !ke := by rw [← hke]; cases o.keys <;> simp
  have hn1' : decide (0 < o.needs.length) = !ne := by rw [← hne]; cases o.needs <;> simp
  obtain ⟨bnm, hnm⟩ : ∃ b, predOk o.pred = b := ⟨_, rfl⟩
  obtain ⟨p1, hp1⟩ : ∃ b, decide ((1 : Int) ≤ o.n) = b := ⟨_, rfl⟩
  obtain ⟨p2, hp2⟩ : ∃ b, decide ((o.n : Int) ≤ 4096) = b := ⟨_, rfl⟩
  obtain ⟨kM, hkM⟩ : ∃ b, rkeysM o.keys = b := ⟨_, rfl⟩
  obtain ⟨nM, hnM⟩ : ∃ b, rneedsM o.needs = b := ⟨_, rfl⟩
  obtain ⟨bl, hbl⟩ : ∃ b, (!(ke && ne)) = b := ⟨_, rfl⟩
  have hz : ∀ (x : Nat) (b : Bool), ((x : Int) != 0) = b → decide (x = 0) = !b := fun x b e => by rw [← e]; by_cases h : x = 0 <;> simp [h]
  have HAS := Lib.hid (show Asks o bn bst be bg bto bat ke ne bl bnm p1 p2 kM nM from ⟨hz _ _ hbn, hz _ _ hbst, hbe, hz _ _ hbg, hz _ _ hbto, hz _ _ hbat, hke, hne, hbl.symm, hnm, by rw [← hp1]; simp only [decide_eq_decide]; omega, by rw [← hp2]; simp only [decide_eq_decide]; omega, hkM, hnM⟩)
  rw [hnm] at RP
  rw [hkM] at RK
  rw [hnM] at RN
  have RK := Lib.hid RK
  have hk256 : o.k < 256 := h.k
  have HKD := Lib.hid hk0
  clear hk0
  obtain ⟨W0, HW0⟩ : ∃ W0, Hid (w.alloc (.cells (opC o l) 28) = W0) := ⟨_, Lib.hid rfl⟩
  obtain ⟨kb, HKB⟩ : ∃ kb, Hid (w.heap.size = kb) := ⟨_, Lib.hid rfl⟩
  rw [HW0.out] at HC0 RK
  rw [HW0.out, HKB.out] at k0 k1 k2 k3 k4 k5 k6 k7 k8
  have KH := Lib.hid (show ∀ (i : Int), i = o.k → True from fun _ _ => trivial)
  obtain ⟨kI, hkI⟩ : ∃ kI : Int, (o.k : Int) = kI := ⟨_, rfl⟩
  have HKI := Lib.hid hkI
  rw [hkI] at k0
  rw [show opC o l = opK kI o l by unfold opC opK; rw [hkI]] at HW0 ⊢
  clear h hkb hkc hbe hke hne hnm hkM hnM hz hk256 hkI
  go_enter Tryz.func61, Tryz.ntmps61
  go_upto_region 7 with fail
  rw [HW0.out, HKB.out]
  go_cut [3, 4, 5, 6, 7, 8, 9] from 11 (fun s3 s4 s5 s6 s7 s8 s9 wc => s3 = .bool bn ∧ s4 = .bool bst ∧ s5 = .bool (!be) ∧ s6 = .bool bg ∧ s7 = .bool bto ∧ s8 = .bool bat ∧ s9 = .bool bl ∧ wc = W0)
  case first => as_aux_lemma =>
    cases ke <;> cases ne
    all_goals
      go_wp2_with fail
      go_meet
      case rel => exact ⟨by first | rfl | rw [hbn], by first | rfl | rw [hbst], by first | rfl | (rw [hbe2]; rfl) | simp [hbe2], by first | rfl | rw [hbg], by first | rfl | rw [hbto], by first | rfl | rw [hbat], by rw [← hbl]; rfl, rfl⟩
  case rest =>
    obtain ⟨rfl, rfl, rfl, rfl, rfl, rfl, rfl, rfl⟩ := hcut
    clear hbn hbst hbg hbto hbat hbe2 hk1 hk1' hn1 hn1' hbl k2 k6 k7 k8
    go_wp2_with fail
    refine (RP.out _).mono ?_
    rintro e w1 ⟨rfl, rfl⟩
    have HC := HC0
    clear RP k5
    have hk := HKD.out
    have HM := Lib.hid (may_4 HAS.out hk)
    have hkI2 : kI = 4 := by rw [← HKI.out, hk]; rfl
    have q1 : (kI == 1) = false := by rw [hkI2]; rfl
    have q2 : (kI == 2) = false := by rw [hkI2]; rfl
    have q3 : (kI == 3) = false := by rw [hkI2]; rfl
    have q4 : (kI == 4) = true := by rw [hkI2]; rfl
    have q5 : (kI == 5) = false := by rw [hkI2]; rfl
    have q6 : (kI == 6) = false := by rw [hkI2]; rfl
    have q7 : (kI == 7) = false := by rw [hkI2]; rfl
    have q8 : (kI == 8) = false := by rw [hkI2]; rfl
    have q9 : (kI == 9) = false := by rw [hkI2]; rfl
    clear hk hkI2 HAS HKD HKI
    go_upto_region 16 with fail
    clear q1 q2 q3 q4 q5 q6 q7 q8 q9
    go_cut [2] from 11 (fun s wc => s = .bool Rr ∧ Hid (Chg (fun _ => False) w wc))
    case first => as_aux_lemma =>
      cases bst
      · have HV := Lib.hid (show Rr = false by rw [← HR.out, HM.out]; rfl)
        clear HM
        go_wp2_with fail
        go_meet
        case rel => exact ⟨by rw [HV.out], HC⟩
      · cases bn
        · cases be
          · have HV := Lib.hid (show Rr = false by rw [← HR.out, HM.out]; rfl)
            clear HM
            go_wp2_with fail
            go_meet
            case rel => exact ⟨by rw [HV.out], HC⟩
          · cases bg
            · cases bto
              · cases bat
                · cases bl
                  · have HV := Lib.hid (show Rr = true by rw [← HR.out, HM.out]; rfl)
                    clear HM
                    go_wp2_with fail
                    go_meet
                    case rel => exact ⟨by rw [HV.out], HC⟩
                  · have HV := Lib.hid (show Rr = false by rw [← HR.out, HM.out]; rfl)
                    clear HM
                    go_wp2_with fail
                    go_meet
                    case rel => exact ⟨by rw [HV.out], HC⟩
                · have HV := Lib.hid (show Rr = false by rw [← HR.out, HM.out]; rfl)
                  clear HM
                  go_wp2_with fail
                  go_meet
                  case rel => exact ⟨by rw [HV.out], HC⟩
              · have HV := Lib.hid (show Rr = false by rw [← HR.out, HM.out]; rfl)
                clear HM
                go_wp2_with fail
                go_meet
                case rel => exact ⟨by rw [HV.out], HC⟩
            · have HV := Lib.hid (show Rr = false by rw [← HR.out, HM.out]; rfl)
              clear HM
              go_wp2_with fail
              go_meet
              case rel => exact ⟨by rw [HV.out], HC⟩
        · have HV := Lib.hid (show Rr = false by rw [← HR.out, HM.out]; rfl)
          clear HM
          go_wp2_with fail
          go_meet
          case rel => exact ⟨by rw [HV.out], HC⟩
    case rest =>
      obtain ⟨rfl, HC⟩ := hcut
      go_wp2
      go_ret
      exact ⟨rfl, HC.out⟩
end Go.Proofs.YtgmmglmokkcgeaaGreat
/- Walks: the document's May, of the kind 5. -/
namespace Go.Proofs.YtgmmglmokkcgeaaGreat
set_option linter.unusedVariables false
set_option linter.unusedSimpArgs false
open Go.RowKit Mk Go.Sort

set_option maxRecDepth 100000 in
set_option maxHeartbeats 8000000 in
theorem rmay_5 {w : World} {o : OpM} {l : OpL} (h : OpAt w o l) (hk0 : o.k = 5) :
    Calls Tryz.prog 61 #[.agg (opC o l)] w fun e w' => e = .returned (.bool (mayM o)) ∧ Chg (fun _ => False) w w' := by
  obtain ⟨Rr, HR⟩ : ∃ b : Bool, Hid (mayM o = b) := ⟨_, Lib.hid rfl⟩
  rw [HR.out]
  have HC0 := Lib.hid (show Chg (fun _ => False) w (w.alloc (.cells (opC o l) 28)) from (Chg.refl _ _).alloc _)
  have hkb : (w.alloc (.cells (opC o l) 28)).heap[w.heap.size]? = some (.cells (opC o l) 28) := Go.heap_alloc_new _ _
  have hkc : ∀ i v, (opC o l)[i]? = some v → (w.alloc (.cells (opC o l) 28)).cell? ⟨w.heap.size, i, none⟩ = some v := fun i v hv => cell_of hkb hv
  have k0 : (w.alloc (.cells (opC o l) 28)).cell? ⟨w.heap.size, 0, none⟩ = some (.int .u8 (o.k : Nat)) := hkc 0 _ rfl
  have k1 : (w.alloc (.cells (opC o l) 28)).cell? ⟨w.heap.size, 1, none⟩ = some (.int .u32 (o.n : Nat)) := hkc 1 _ rfl
  have k2 : (w.alloc (.cells (opC o l) 28)).cell? ⟨w.heap.size, 2, none⟩ = some (.int .u64 (o.st : Nat)) := hkc 2 _ rfl
  have k3 : (w.alloc (.cells (opC o l) 28)).cell? ⟨w.heap.size, 3, none⟩ = some (.slice l.ko o.keys.length l.kc) := hkc 3 _ rfl
  have k4 : (w.alloc (.cells (opC o l) 28)).cell? ⟨w.heap.size, 4, none⟩ = some (.slice l.no o.needs.length l.nc) := hkc 4 _ rfl
  have k5 : (w.alloc (.cells (opC o l) 28)).cell? ⟨w.heap.size, 5, none⟩ = some (.string o.pred) := hkc 5 _ rfl
  have k6 : (w.alloc (.cells (opC o l) 28)).cell? ⟨w.heap.size, 6, none⟩ = some (.int .u32 (o.g : Nat)) := hkc 6 _ rfl
  have k7 : (w.alloc (.cells (opC o l) 28)).cell? ⟨w.heap.size, 7, none⟩ = some (.int .u32 (o.to : Nat)) := hkc 7 _ rfl
  have k8 : (w.alloc (.cells (opC o l) 28)).cell? ⟨w.heap.size, 8, none⟩ = some (.int .u64 (o.at_ : Nat)) := hkc 8 _ rfl
  have RP := Lib.hid (rpred_any o.pred)
  have RK := rkeys_any (sc := l.kc) (h.keys.same HC0.out)
  have RN := Lib.hid (fun (v : World) (c : Chg (fun _ => False) w v) => rneeds_any (sc := l.nc) (h.needs.same c))
  obtain ⟨bn, hbn⟩ : ∃ b, ((o.n : Int) != 0) = b := ⟨_, rfl⟩
  obtain ⟨bst, hbst⟩ : ∃ b, ((o.st : Int) != 0) = b := ⟨_, rfl⟩
  obtain ⟨bg, hbg⟩ : ∃ b, ((o.g : Int) != 0) = b := ⟨_, rfl⟩
  obtain ⟨bto, hbto⟩ : ∃ b, ((o.to : Int) != 0) = b := ⟨_, rfl⟩
  obtain ⟨bat, hbat⟩ : ∃ b, ((o.at_ : Int) != 0) = b := ⟨_, rfl⟩
  obtain ⟨be, hbe⟩ : ∃ b, decide (o.pred.toList = []) = b := ⟨_, rfl⟩
  have hbe2 : (o.pred.toList == []) = be := by rw [← hbe]; cases o.pred.toList <;> rfl
  obtain ⟨ke, hke⟩ : ∃ b, o.keys.isEmpty = b := ⟨_, rfl⟩
  obtain ⟨ne, hne⟩ : ∃ b, o.needs.isEmpty = b := ⟨_, rfl⟩
  have hk1 : decide ((0 : Int) < o.keys.length) = !ke := by rw [← hke]; cases o.keys <;> simp
  have hn1 : decide ((0 : Int) < o.needs.length) = !ne := by rw [← hne]; cases o.needs <;> simp
  have hk1' : decide (0 < o.keys.length) = !ke := by rw [← hke]; cases o.keys <;> simp
  have hn1' : decide (0 < o.needs.length) = !ne := by rw [← hne]; cases o.needs <;> simp
  obtain ⟨bnm, hnm⟩ : ∃ b, predOk o.pred = b := ⟨_, rfl⟩
  obtain ⟨p1, hp1⟩ : ∃ b, decide ((1 : Int) ≤ o.n) = b := ⟨_, rfl⟩
  obtain ⟨p2, hp2⟩ : ∃ b, decide ((o.n : Int) ≤ 4096) = b := ⟨_, rfl⟩
  obtain ⟨kM, hkM⟩ : ∃ b, rkeysM o.keys = b := ⟨_, rfl⟩
  obtain ⟨nM, hnM⟩ : ∃ b, rneedsM o.needs = b := ⟨_, rfl⟩
  obtain ⟨bl, hbl⟩ : ∃ b, (!(ke && ne)) = b := ⟨_, rfl⟩
  have hz : ∀ (x : Nat) (b : Bool), ((x : Int) != 0) = b → decide (x = 0) = !b := fun x b e => by rw [← e]; by_cases h : x = 0 <;> simp [h]
  have HAS := Lib.hid (show Asks o bn bst be bg bto bat ke ne bl bnm p1 p2 kM nM from ⟨hz _ _ hbn, hz _ _ hbst, hbe, hz _ _ hbg, hz _ _ hbto, hz _ _ hbat, hke, hne, hbl.symm, hnm, by rw [← hp1]; simp only [decide_eq_decide]; omega, by rw [← hp2]; simp only [decide_eq_decide]; omega, hkM, hnM⟩)
  rw [hnm] at RP
  rw [hkM] at RK
  rw [hnM] at RN
  have RK := Lib.hid RK
  have hk256 : o.k < 256 := h.k
  have HKD := Lib.hid hk0
  clear hk0
  obtain ⟨W0, HW0⟩ : ∃ W0, Hid (w.alloc (.cells (opC o l) 28) = W0) := ⟨_, Lib.hid rfl⟩
  obtain ⟨kb, HKB⟩ : ∃ kb, Hid (w.heap.size = kb) := ⟨_, Lib.hid rfl⟩
  rw [HW0.out] at HC0 RK
  rw [HW0.out, HKB.out] at k0 k1 k2 k3 k4 k5 k6 k7 k8
  have KH := Lib.hid (show ∀ (i : Int), i = o.k → True from fun _ _ => trivial)
  obtain ⟨kI, hkI⟩ : ∃ kI : Int, (o.k : Int) = kI := ⟨_, rfl⟩
  have HKI := Lib.hid hkI
  rw [hkI] at k0
  rw [show opC o l = opK kI o l by unfold opC opK; rw [hkI]] at HW0 ⊢
  clear h hkb hkc hbe hke hne hnm hkM hnM hz hk256 hkI
  go_enter Tryz.func61, Tryz.ntmps61
  go_upto_region 7 with fail
  rw [HW0.out, HKB.out]
  go_cut [3, 4, 5, 6, 7, 8, 9] from 11 (fun s3 s4 s5 s6 s7 s8 s9 wc => s3 = .bool bn ∧ s4 = .bool bst ∧ s5 = .bool (!be) ∧ s6 = .bool bg ∧ s7 = .bool bto ∧ s8 = .bool bat ∧ s9 = .bool bl ∧ wc = W0)
  case first => as_aux_lemma =>
    cases ke <;> cases ne
    all_goals
      go_wp2_with fail
      go_meet
      case rel => exact ⟨by first | rfl | rw [hbn], by first | rfl | rw [hbst], by first | rfl | (rw [hbe2]; rfl) | simp [hbe2], by first | rfl | rw [hbg], by first | rfl | rw [hbto], by first | rfl | rw [hbat], by rw [← hbl]; rfl, rfl⟩
  case rest =>
    obtain ⟨rfl, rfl, rfl, rfl, rfl, rfl, rfl, rfl⟩ := hcut
    clear hbn hbst hbg hbto hbat hbe2 hk1 hk1' hn1 hn1' hbl k2 k6 k7 k8
    go_wp2_with fail
    refine (RP.out _).mono ?_
    rintro e w1 ⟨rfl, rfl⟩
    have HC := HC0
    clear RP k5
    have hk := HKD.out
    have HM := Lib.hid (may_5 HAS.out hk)
    have hkI2 : kI = 5 := by rw [← HKI.out, hk]; rfl
    have q1 : (kI == 1) = false := by rw [hkI2]; rfl
    have q2 : (kI == 2) = false := by rw [hkI2]; rfl
    have q3 : (kI == 3) = false := by rw [hkI2]; rfl
    have q4 : (kI == 4) = false := by rw [hkI2]; rfl
    have q5 : (kI == 5) = true := by rw [hkI2]; rfl
    have q6 : (kI == 6) = false := by rw [hkI2]; rfl
    have q7 : (kI == 7) = false := by rw [hkI2]; rfl
    have q8 : (kI == 8) = false := by rw [hkI2]; rfl
    have q9 : (kI == 9) = false := by rw [hkI2]; rfl
    clear hk hkI2 HAS HKD HKI
    go_upto_region 18 with fail
    clear q1 q2 q3 q4 q5 q6 q7 q8 q9
    go_cut [2] from 11 (fun s wc => s = .bool Rr ∧ Hid (Chg (fun _ => False) w wc))
    case first => as_aux_lemma =>
      cases bnm
      · have HV := Lib.hid (show Rr = false by rw [← HR.out, HM.out]; rfl)
        clear HM
        go_wp2_with fail
        go_meet
        case rel => exact ⟨by rw [HV.out], HC⟩
      · cases bg
        · have HV := Lib.hid (show Rr = false by rw [← HR.out, HM.out]; rfl)
          clear HM
          go_wp2_with fail
          go_meet
          case rel => exact ⟨by rw [HV.out], HC⟩
        · cases bn
          · cases bst
            · cases bto
              · cases bat
                · cases bl
                  · have HV := Lib.hid (show Rr = true by rw [← HR.out, HM.out]; rfl)
                    clear HM
                    go_wp2_with fail
                    go_meet
                    case rel => exact ⟨by rw [HV.out], HC⟩
                  · have HV := Lib.hid (show Rr = false by rw [← HR.out, HM.out]; rfl)
                    clear HM
                    go_wp2_with fail
                    go_meet
                    case rel => exact ⟨by rw [HV.out], HC⟩
                · have HV := Lib.hid (show Rr = false by rw [← HR.out, HM.out]; rfl)
                  clear HM
                  go_wp2_with fail
                  go_meet
                  case rel => exact ⟨by rw [HV.out], HC⟩
              · have HV := Lib.hid (show Rr = false by rw [← HR.out, HM.out]; rfl)
                clear HM
                go_wp2_with fail
                go_meet
                case rel => exact ⟨by rw [HV.out], HC⟩
            · have HV := Lib.hid (show Rr = false by rw [← HR.out, HM.out]; rfl)
              clear HM
              go_wp2_with fail
              go_meet
              case rel => exact ⟨by rw [HV.out], HC⟩
          · have HV := Lib.hid (show Rr = false by rw [← HR.out, HM.out]; rfl)
            clear HM
            go_wp2_with fail
            go_meet
            case rel => exact ⟨by rw [HV.out], HC⟩
    case rest =>
      obtain ⟨rfl, HC⟩ := hcut
      go_wp2
      go_ret
      exact ⟨rfl, HC.out⟩
end Go.Proofs.YtgmmglmokkcgeaaGreat
/- Walks: the document's May, of the kind 6. -/
namespace Go.Proofs.YtgmmglmokkcgeaaGreat
set_option linter.unusedVariables false
set_option linter.unusedSimpArgs false
open Go.RowKit Mk Go.Sort

set_option maxRecDepth 100000 in
set_option maxHeartbeats 8000000 in
theorem rmay_6 {w : World} {o : OpM} {l : OpL} (h : OpAt w o l) (hk0 : o.k = 6) :
    Calls Tryz.prog 61 #[.agg (opC o l)] w fun e w' => e = .returned (.bool (mayM o)) ∧ Chg (fun _ => False) w w' := by
  obtain ⟨Rr, HR⟩ : ∃ b : Bool, Hid (mayM o = b) := ⟨_, Lib.hid rfl⟩
  rw [HR.out]
  have HC0 := Lib.hid (show Chg (fun _ => False) w (w.alloc (.cells (opC o l) 28)) from (Chg.refl _ _).alloc _)
  have hkb : (w.alloc (.cells (opC o l) 28)).heap[w.heap.size]? = some (.cells (opC o l) 28) := Go.heap_alloc_new _ _
  have hkc : ∀ i v, (opC o l)[i]? = some v → (w.alloc (.cells (opC o l) 28)).cell? ⟨w.heap.size, i, none⟩ = some v := fun i v hv => cell_of hkb hv
  have k0 : (w.alloc (.cells (opC o l) 28)).cell? ⟨w.heap.size, 0, none⟩ = some (.int .u8 (o.k : Nat)) := hkc 0 _ rfl
  have k1 : (w.alloc (.cells (opC o l) 28)).cell? ⟨w.heap.size, 1, none⟩ = some (.int .u32 (o.n : Nat)) := hkc 1 _ rfl
  have k2 : (w.alloc (.cells (opC o l) 28)).cell? ⟨w.heap.size, 2, none⟩ = some (.int .u64 (o.st : Nat)) := hkc 2 _ rfl
  have k3 : (w.alloc (.cells (opC o l) 28)).cell? ⟨w.heap.size, 3, none⟩ = some (.slice l.ko o.keys.length l.kc) := hkc 3 _ rfl
  have k4 : (w.alloc (.cells (opC o l) 28)).cell? ⟨w.heap.size, 4, none⟩ = some (.slice l.no o.needs.length l.nc) := hkc 4 _ rfl
  have k5 : (w.alloc (.cells (opC o l) 28)).cell? ⟨w.heap.size, 5, none⟩ = some (.string o.pred) := hkc 5 _ rfl
  have k6 : (w.alloc (.cells (opC o l) 28)).cell? ⟨w.heap.size, 6, none⟩ = some (.int .u32 (o.g : Nat)) := hkc 6 _ rfl
  have k7 : (w.alloc (.cells (opC o l) 28)).cell? ⟨w.heap.size, 7, none⟩ = some (.int .u32 (o.to : Nat)) := hkc 7 _ rfl
  have k8 : (w.alloc (.cells (opC o l) 28)).cell? ⟨w.heap.size, 8, none⟩ = some (.int .u64 (o.at_ : Nat)) := hkc 8 _ rfl
  have RP := Lib.hid (rpred_any o.pred)
  have RK := rkeys_any (sc := l.kc) (h.keys.same HC0.out)
  have RN := Lib.hid (fun (v : World) (c : Chg (fun _ => False) w v) => rneeds_any (sc := l.nc) (h.needs.same c))
  obtain ⟨bn, hbn⟩ : ∃ b, ((o.n : Int) != 0) = b := ⟨_, rfl⟩
  obtain ⟨bst, hbst⟩ : ∃ b, ((o.st : Int) != 0) = b := ⟨_, rfl⟩
  obtain ⟨bg, hbg⟩ : ∃ b, ((o.g : Int) != 0) = b := ⟨_, rfl⟩
  obtain ⟨bto, hbto⟩ : ∃ b, ((o.to : Int) != 0) = b := ⟨_, rfl⟩
  obtain ⟨bat, hbat⟩ : ∃ b, ((o.at_ : Int) != 0) = b := ⟨_, rfl⟩
  obtain ⟨be, hbe⟩ : ∃ b, decide (o.pred.toList = []) = b := ⟨_, rfl⟩
  have hbe2 : (o.pred.toList == []) = be := by rw [← hbe]; cases o.pred.toList <;> rfl
  obtain ⟨ke, hke⟩ : ∃ b, o.keys.isEmpty = b := ⟨_, rfl⟩
  obtain ⟨ne, hne⟩ : ∃ b, o.needs.isEmpty = b := ⟨_, rfl⟩
  have hk1 : decide ((0 : Int) < o.keys.length) = !ke := by rw [← hke]; cases o.keys <;> simp
  have hn1 : decide ((0 : Int) < o.needs.length) = !ne := by rw [← hne]; cases o.needs <;> simp
  have hk1' : decide (0 < o.keys.length) = !ke := by rw [← hke]; cases o.keys <;> simp
  have hn1' : decide (0 < o.needs.length) = !ne := by rw [← hne]; cases o.needs <;> simp
  obtain ⟨bnm, hnm⟩ : ∃ b, predOk o.pred = b := ⟨_, rfl⟩
  obtain ⟨p1, hp1⟩ : ∃ b, decide ((1 : Int) ≤ o.n) = b := ⟨_, rfl⟩
  obtain ⟨p2, hp2⟩ : ∃ b, decide ((o.n : Int) ≤ 4096) = b := ⟨_, rfl⟩
  obtain ⟨kM, hkM⟩ : ∃ b, rkeysM o.keys = b := ⟨_, rfl⟩
  obtain ⟨nM, hnM⟩ : ∃ b, rneedsM o.needs = b := ⟨_, rfl⟩
  obtain ⟨bl, hbl⟩ : ∃ b, (!(ke && ne)) = b := ⟨_, rfl⟩
  have hz : ∀ (x : Nat) (b : Bool), ((x : Int) != 0) = b → decide (x = 0) = !b := fun x b e => by rw [← e]; by_cases h : x = 0 <;> simp [h]
  have HAS := Lib.hid (show Asks o bn bst be bg bto bat ke ne bl bnm p1 p2 kM nM from ⟨hz _ _ hbn, hz _ _ hbst, hbe, hz _ _ hbg, hz _ _ hbto, hz _ _ hbat, hke, hne, hbl.symm, hnm, by rw [← hp1]; simp only [decide_eq_decide]; omega, by rw [← hp2]; simp only [decide_eq_decide]; omega, hkM, hnM⟩)
  rw [hnm] at RP
  rw [hkM] at RK
  rw [hnM] at RN
  have RK := Lib.hid RK
  have hk256 : o.k < 256 := h.k
  have HKD := Lib.hid hk0
  clear hk0
  obtain ⟨W0, HW0⟩ : ∃ W0, Hid (w.alloc (.cells (opC o l) 28) = W0) := ⟨_, Lib.hid rfl⟩
  obtain ⟨kb, HKB⟩ : ∃ kb, Hid (w.heap.size = kb) := ⟨_, Lib.hid rfl⟩
  rw [HW0.out] at HC0 RK
  rw [HW0.out, HKB.out] at k0 k1 k2 k3 k4 k5 k6 k7 k8
  have KH := Lib.hid (show ∀ (i : Int), i = o.k → True from fun _ _ => trivial)
  obtain ⟨kI, hkI⟩ : ∃ kI : Int, (o.k : Int) = kI := ⟨_, rfl⟩
  have HKI := Lib.hid hkI
  rw [hkI] at k0
  rw [show opC o l = opK kI o l by unfold opC opK; rw [hkI]] at HW0 ⊢
  clear h hkb hkc hbe hke hne hnm hkM hnM hz hk256 hkI
  go_enter Tryz.func61, Tryz.ntmps61
  go_upto_region 7 with fail
  rw [HW0.out, HKB.out]
  go_cut [3, 4, 5, 6, 7, 8, 9] from 11 (fun s3 s4 s5 s6 s7 s8 s9 wc => s3 = .bool bn ∧ s4 = .bool bst ∧ s5 = .bool (!be) ∧ s6 = .bool bg ∧ s7 = .bool bto ∧ s8 = .bool bat ∧ s9 = .bool bl ∧ wc = W0)
  case first => as_aux_lemma =>
    cases ke <;> cases ne
    all_goals
      go_wp2_with fail
      go_meet
      case rel => exact ⟨by first | rfl | rw [hbn], by first | rfl | rw [hbst], by first | rfl | (rw [hbe2]; rfl) | simp [hbe2], by first | rfl | rw [hbg], by first | rfl | rw [hbto], by first | rfl | rw [hbat], by rw [← hbl]; rfl, rfl⟩
  case rest =>
    obtain ⟨rfl, rfl, rfl, rfl, rfl, rfl, rfl, rfl⟩ := hcut
    clear hbn hbst hbg hbto hbat hbe2 hk1 hk1' hn1 hn1' hbl k2 k6 k7 k8
    go_wp2_with fail
    refine (RP.out _).mono ?_
    rintro e w1 ⟨rfl, rfl⟩
    have HC := HC0
    clear RP k5
    have hk := HKD.out
    have HM := Lib.hid (may_6 HAS.out hk)
    have hkI2 : kI = 6 := by rw [← HKI.out, hk]; rfl
    have q1 : (kI == 1) = false := by rw [hkI2]; rfl
    have q2 : (kI == 2) = false := by rw [hkI2]; rfl
    have q3 : (kI == 3) = false := by rw [hkI2]; rfl
    have q4 : (kI == 4) = false := by rw [hkI2]; rfl
    have q5 : (kI == 5) = false := by rw [hkI2]; rfl
    have q6 : (kI == 6) = true := by rw [hkI2]; rfl
    have q7 : (kI == 7) = false := by rw [hkI2]; rfl
    have q8 : (kI == 8) = false := by rw [hkI2]; rfl
    have q9 : (kI == 9) = false := by rw [hkI2]; rfl
    clear hk hkI2 HAS HKD HKI
    go_upto_region 20 with fail
    clear q1 q2 q3 q4 q5 q6 q7 q8 q9
    go_cut [2] from 11 (fun s wc => s = .bool Rr ∧ Hid (Chg (fun _ => False) w wc))
    case first => as_aux_lemma =>
      cases bnm
      · have HV := Lib.hid (show Rr = false by rw [← HR.out, HM.out]; rfl)
        clear HM
        go_wp2_with fail
        go_meet
        case rel => exact ⟨by rw [HV.out], HC⟩
      · cases bto
        · have HV := Lib.hid (show Rr = false by rw [← HR.out, HM.out]; rfl)
          clear HM
          go_wp2_with fail
          go_meet
          case rel => exact ⟨by rw [HV.out], HC⟩
        · cases bn
          · cases bst
            · cases bg
              · cases bat
                · cases bl
                  · have HV := Lib.hid (show Rr = true by rw [← HR.out, HM.out]; rfl)
                    clear HM
                    go_wp2_with fail
                    go_meet
                    case rel => exact ⟨by rw [HV.out], HC⟩
                  · have HV := Lib.hid (show Rr = false by rw [← HR.out, HM.out]; rfl)
                    clear HM
                    go_wp2_with fail
                    go_meet
                    case rel => exact ⟨by rw [HV.out], HC⟩
                · have HV := Lib.hid (show Rr = false by rw [← HR.out, HM.out]; rfl)
                  clear HM
                  go_wp2_with fail
                  go_meet
                  case rel => exact ⟨by rw [HV.out], HC⟩
              · have HV := Lib.hid (show Rr = false by rw [← HR.out, HM.out]; rfl)
                clear HM
                go_wp2_with fail
                go_meet
                case rel => exact ⟨by rw [HV.out], HC⟩
            · have HV := Lib.hid (show Rr = false by rw [← HR.out, HM.out]; rfl)
              clear HM
              go_wp2_with fail
              go_meet
              case rel => exact ⟨by rw [HV.out], HC⟩
          · have HV := Lib.hid (show Rr = false by rw [← HR.out, HM.out]; rfl)
            clear HM
            go_wp2_with fail
            go_meet
            case rel => exact ⟨by rw [HV.out], HC⟩
    case rest =>
      obtain ⟨rfl, HC⟩ := hcut
      go_wp2
      go_ret
      exact ⟨rfl, HC.out⟩
end Go.Proofs.YtgmmglmokkcgeaaGreat
/- Walks: the document's May, of the kind 7. -/
namespace Go.Proofs.YtgmmglmokkcgeaaGreat
set_option linter.unusedVariables false
set_option linter.unusedSimpArgs false
open Go.RowKit Mk Go.Sort

set_option maxRecDepth 100000 in
set_option maxHeartbeats 8000000 in
theorem rmay_7 {w : World} {o : OpM} {l : OpL} (h : OpAt w o l) (hk0 : o.k = 7) :
    Calls Tryz.prog 61 #[.agg (opC o l)] w fun e w' => e = .returned (.bool (mayM o)) ∧ Chg (fun _ => False) w w' := by
  obtain ⟨Rr, HR⟩ : ∃ b : Bool, Hid (mayM o = b) := ⟨_, Lib.hid rfl⟩
  rw [HR.out]
  have HC0 := Lib.hid (show Chg (fun _ => False) w (w.alloc (.cells (opC o l) 28)) from (Chg.refl _ _).alloc _)
  have hkb : (w.alloc (.cells (opC o l) 28)).heap[w.heap.size]? = some (.cells (opC o l) 28) := Go.heap_alloc_new _ _
  have hkc : ∀ i v, (opC o l)[i]? = some v → (w.alloc (.cells (opC o l) 28)).cell? ⟨w.heap.size, i, none⟩ = some v := fun i v hv => cell_of hkb hv
  have k0 : (w.alloc (.cells (opC o l) 28)).cell? ⟨w.heap.size, 0, none⟩ = some (.int .u8 (o.k : Nat)) := hkc 0 _ rfl
  have k1 : (w.alloc (.cells (opC o l) 28)).cell? ⟨w.heap.size, 1, none⟩ = some (.int .u32 (o.n : Nat)) := hkc 1 _ rfl
  have k2 : (w.alloc (.cells (opC o l) 28)).cell? ⟨w.heap.size, 2, none⟩ = some (.int .u64 (o.st : Nat)) := hkc 2 _ rfl
  have k3 : (w.alloc (.cells (opC o l) 28)).cell? ⟨w.heap.size, 3, none⟩ = some (.slice l.ko o.keys.length l.kc) := hkc 3 _ rfl
  have k4 : (w.alloc (.cells (opC o l) 28)).cell? ⟨w.heap.size, 4, none⟩ = some (.slice l.no o.needs.length l.nc) := hkc 4 _ rfl
  have k5 : (w.alloc (.cells (opC o l) 28)).cell? ⟨w.heap.size, 5, none⟩ = some (.string o.pred) := hkc 5 _ rfl
  have k6 : (w.alloc (.cells (opC o l) 28)).cell? ⟨w.heap.size, 6, none⟩ = some (.int .u32 (o.g : Nat)) := hkc 6 _ rfl
  have k7 : (w.alloc (.cells (opC o l) 28)).cell? ⟨w.heap.size, 7, none⟩ = some (.int .u32 (o.to : Nat)) := hkc 7 _ rfl
  have k8 : (w.alloc (.cells (opC o l) 28)).cell? ⟨w.heap.size, 8, none⟩ = some (.int .u64 (o.at_ : Nat)) := hkc 8 _ rfl
  have RP := Lib.hid (rpred_any o.pred)
  have RK := rkeys_any (sc := l.kc) (h.keys.same HC0.out)
  have RN := Lib.hid (fun (v : World) (c : Chg (fun _ => False) w v) => rneeds_any (sc := l.nc) (h.needs.same c))
  obtain ⟨bn, hbn⟩ : ∃ b, ((o.n : Int) != 0) = b := ⟨_, rfl⟩
  obtain ⟨bst, hbst⟩ : ∃ b, ((o.st : Int) != 0) = b := ⟨_, rfl⟩
  obtain ⟨bg, hbg⟩ : ∃ b, ((o.g : Int) != 0) = b := ⟨_, rfl⟩
  obtain ⟨bto, hbto⟩ : ∃ b, ((o.to : Int) != 0) = b := ⟨_, rfl⟩
  obtain ⟨bat, hbat⟩ : ∃ b, ((o.at_ : Int) != 0) = b := ⟨_, rfl⟩
  obtain ⟨be, hbe⟩ : ∃ b, decide (o.pred.toList = []) = b := ⟨_, rfl⟩
  have hbe2 : (o.pred.toList == []) = be := by rw [← hbe]; cases o.pred.toList <;> rfl
  obtain ⟨ke, hke⟩ : ∃ b, o.keys.isEmpty = b := ⟨_, rfl⟩
  obtain ⟨ne, hne⟩ : ∃ b, o.needs.isEmpty = b := ⟨_, rfl⟩
  have hk1 : decide ((0 : Int) < o.keys.length) = !ke := by rw [← hke]; cases o.keys <;> simp
  have hn1 : decide ((0 : Int) < o.needs.length) = !ne := by rw [← hne]; cases o.needs <;> simp
  have hk1' : decide (0 < o.keys.length) = !ke := by rw [← hke]; cases o.keys <;> simp
  have hn1' : decide (0 < o.needs.length) = !ne := by rw [← hne]; cases o.needs <;> simp
  obtain ⟨bnm, hnm⟩ : ∃ b, predOk o.pred = b := ⟨_, rfl⟩
  obtain ⟨p1, hp1⟩ : ∃ b, decide ((1 : Int) ≤ o.n) = b := ⟨_, rfl⟩
  obtain ⟨p2, hp2⟩ : ∃ b, decide ((o.n : Int) ≤ 4096) = b := ⟨_, rfl⟩
  obtain ⟨kM, hkM⟩ : ∃ b, rkeysM o.keys = b := ⟨_, rfl⟩
  obtain ⟨nM, hnM⟩ : ∃ b, rneedsM o.needs = b := ⟨_, rfl⟩
  obtain ⟨bl, hbl⟩ : ∃ b, (!(ke && ne)) = b := ⟨_, rfl⟩
  have hz : ∀ (x : Nat) (b : Bool), ((x : Int) != 0) = b → decide (x = 0) = !b := fun x b e => by rw [← e]; by_cases h : x = 0 <;> simp [h]
  have HAS := Lib.hid (show Asks o bn bst be bg bto bat ke ne bl bnm p1 p2 kM nM from ⟨hz _ _ hbn, hz _ _ hbst, hbe, hz _ _ hbg, hz _ _ hbto, hz _ _ hbat, hke, hne, hbl.symm, hnm, by rw [← hp1]; simp only [decide_eq_decide]; omega, by rw [← hp2]; simp only [decide_eq_decide]; omega, hkM, hnM⟩)
  rw [hnm] at RP
  rw [hkM] at RK
  rw [hnM] at RN
  have RK := Lib.hid RK
  have hk256 : o.k < 256 := h.k
  have HKD := Lib.hid hk0
  clear hk0
  obtain ⟨W0, HW0⟩ : ∃ W0, Hid (w.alloc (.cells (opC o l) 28) = W0) := ⟨_, Lib.hid rfl⟩
  obtain ⟨kb, HKB⟩ : ∃ kb, Hid (w.heap.size = kb) := ⟨_, Lib.hid rfl⟩
  rw [HW0.out] at HC0 RK
  rw [HW0.out, HKB.out] at k0 k1 k2 k3 k4 k5 k6 k7 k8
  have KH := Lib.hid (show ∀ (i : Int), i = o.k → True from fun _ _ => trivial)
  obtain ⟨kI, hkI⟩ : ∃ kI : Int, (o.k : Int) = kI := ⟨_, rfl⟩
  have HKI := Lib.hid hkI
  rw [hkI] at k0
  rw [show opC o l = opK kI o l by unfold opC opK; rw [hkI]] at HW0 ⊢
  clear h hkb hkc hbe hke hne hnm hkM hnM hz hk256 hkI
  go_enter Tryz.func61, Tryz.ntmps61
  go_upto_region 7 with fail
  rw [HW0.out, HKB.out]
  go_cut [3, 4, 5, 6, 7, 8, 9] from 11 (fun s3 s4 s5 s6 s7 s8 s9 wc => s3 = .bool bn ∧ s4 = .bool bst ∧ s5 = .bool (!be) ∧ s6 = .bool bg ∧ s7 = .bool bto ∧ s8 = .bool bat ∧ s9 = .bool bl ∧ wc = W0)
  case first => as_aux_lemma =>
    cases ke <;> cases ne
    all_goals
      go_wp2_with fail
      go_meet
      case rel => exact ⟨by first | rfl | rw [hbn], by first | rfl | rw [hbst], by first | rfl | (rw [hbe2]; rfl) | simp [hbe2], by first | rfl | rw [hbg], by first | rfl | rw [hbto], by first | rfl | rw [hbat], by rw [← hbl]; rfl, rfl⟩
  case rest =>
    obtain ⟨rfl, rfl, rfl, rfl, rfl, rfl, rfl, rfl⟩ := hcut
    clear hbn hbst hbg hbto hbat hbe2 hk1 hk1' hn1 hn1' hbl k2 k6 k7 k8
    go_wp2_with fail
    refine (RP.out _).mono ?_
    rintro e w1 ⟨rfl, rfl⟩
    have HC := HC0
    clear RP k5
    have hk := HKD.out
    have HM := Lib.hid (may_7 HAS.out hk)
    have hkI2 : kI = 7 := by rw [← HKI.out, hk]; rfl
    have q1 : (kI == 1) = false := by rw [hkI2]; rfl
    have q2 : (kI == 2) = false := by rw [hkI2]; rfl
    have q3 : (kI == 3) = false := by rw [hkI2]; rfl
    have q4 : (kI == 4) = false := by rw [hkI2]; rfl
    have q5 : (kI == 5) = false := by rw [hkI2]; rfl
    have q6 : (kI == 6) = false := by rw [hkI2]; rfl
    have q7 : (kI == 7) = true := by rw [hkI2]; rfl
    have q8 : (kI == 8) = false := by rw [hkI2]; rfl
    have q9 : (kI == 9) = false := by rw [hkI2]; rfl
    clear hk hkI2 HAS HKD HKI
    go_upto_region 23 with fail
    clear q1 q2 q3 q4 q5 q6 q7 q8 q9
    go_cut [2] from 11 (fun s wc => s = .bool Rr ∧ Hid (Chg (fun _ => False) w wc))
    case first => as_aux_lemma =>
      cases bnm
      · have HV := Lib.hid (show Rr = false by rw [← HR.out, HM.out]; rfl)
        clear HM
        go_wp2_with fail
        go_meet
        case rel => exact ⟨by rw [HV.out], HC⟩
      · cases bat
        · have HV := Lib.hid (show Rr = false by rw [← HR.out, HM.out]; rfl)
          clear HM
          go_wp2_with fail
          go_meet
          case rel => exact ⟨by rw [HV.out], HC⟩
        · cases bn
          · cases bst
            · cases bg
              · cases bto
                · cases bl
                  · have HV := Lib.hid (show Rr = true by rw [← HR.out, HM.out]; rfl)
                    clear HM
                    go_wp2_with fail
                    go_meet
                    case rel => exact ⟨by rw [HV.out], HC⟩
                  · have HV := Lib.hid (show Rr = false by rw [← HR.out, HM.out]; rfl)
                    clear HM
                    go_wp2_with fail
                    go_meet
                    case rel => exact ⟨by rw [HV.out], HC⟩
                · have HV := Lib.hid (show Rr = false by rw [← HR.out, HM.out]; rfl)
                  clear HM
                  go_wp2_with fail
                  go_meet
                  case rel => exact ⟨by rw [HV.out], HC⟩
              · have HV := Lib.hid (show Rr = false by rw [← HR.out, HM.out]; rfl)
                clear HM
                go_wp2_with fail
                go_meet
                case rel => exact ⟨by rw [HV.out], HC⟩
            · have HV := Lib.hid (show Rr = false by rw [← HR.out, HM.out]; rfl)
              clear HM
              go_wp2_with fail
              go_meet
              case rel => exact ⟨by rw [HV.out], HC⟩
          · have HV := Lib.hid (show Rr = false by rw [← HR.out, HM.out]; rfl)
            clear HM
            go_wp2_with fail
            go_meet
            case rel => exact ⟨by rw [HV.out], HC⟩
    case rest =>
      obtain ⟨rfl, HC⟩ := hcut
      go_wp2
      go_ret
      exact ⟨rfl, HC.out⟩
end Go.Proofs.YtgmmglmokkcgeaaGreat
/- Walks: the document's May, of the kind 8. -/
namespace Go.Proofs.YtgmmglmokkcgeaaGreat
set_option linter.unusedVariables false
set_option linter.unusedSimpArgs false
open Go.RowKit Mk Go.Sort

set_option maxRecDepth 100000 in
set_option maxHeartbeats 8000000 in
theorem rmay_8 {w : World} {o : OpM} {l : OpL} (h : OpAt w o l) (hk0 : o.k = 8) :
    Calls Tryz.prog 61 #[.agg (opC o l)] w fun e w' => e = .returned (.bool (mayM o)) ∧ Chg (fun _ => False) w w' := by
  obtain ⟨Rr, HR⟩ : ∃ b : Bool, Hid (mayM o = b) := ⟨_, Lib.hid rfl⟩
  rw [HR.out]
  have HC0 := Lib.hid (show Chg (fun _ => False) w (w.alloc (.cells (opC o l) 28)) from (Chg.refl _ _).alloc _)
  have hkb : (w.alloc (.cells (opC o l) 28)).heap[w.heap.size]? = some (.cells (opC o l) 28) := Go.heap_alloc_new _ _
  have hkc : ∀ i v, (opC o l)[i]? = some v → (w.alloc (.cells (opC o l) 28)).cell? ⟨w.heap.size, i, none⟩ = some v := fun i v hv => cell_of hkb hv
  have k0 : (w.alloc (.cells (opC o l) 28)).cell? ⟨w.heap.size, 0, none⟩ = some (.int .u8 (o.k : Nat)) := hkc 0 _ rfl
  have k1 : (w.alloc (.cells (opC o l) 28)).cell? ⟨w.heap.size, 1, none⟩ = some (.int .u32 (o.n : Nat)) := hkc 1 _ rfl
  have k2 : (w.alloc (.cells (opC o l) 28)).cell? ⟨w.heap.size, 2, none⟩ = some (.int .u64 (o.st : Nat)) := hkc 2 _ rfl
  have k3 : (w.alloc (.cells (opC o l) 28)).cell? ⟨w.heap.size, 3, none⟩ = some (.slice l.ko o.keys.length l.kc) := hkc 3 _ rfl
  have k4 : (w.alloc (.cells (opC o l) 28)).cell? ⟨w.heap.size, 4, none⟩ = some (.slice l.no o.needs.length l.nc) := hkc 4 _ rfl
  have k5 : (w.alloc (.cells (opC o l) 28)).cell? ⟨w.heap.size, 5, none⟩ = some (.string o.pred) := hkc 5 _ rfl
  have k6 : (w.alloc (.cells (opC o l) 28)).cell? ⟨w.heap.size, 6, none⟩ = some (.int .u32 (o.g : Nat)) := hkc 6 _ rfl
  have k7 : (w.alloc (.cells (opC o l) 28)).cell? ⟨w.heap.size, 7, none⟩ = some (.int .u32 (o.to : Nat)) := hkc 7 _ rfl
  have k8 : (w.alloc (.cells (opC o l) 28)).cell? ⟨w.heap.size, 8, none⟩ = some (.int .u64 (o.at_ : Nat)) := hkc 8 _ rfl
  have RP := Lib.hid (rpred_any o.pred)
  have RK := rkeys_any (sc := l.kc) (h.keys.same HC0.out)
  have RN := Lib.hid (fun (v : World) (c : Chg (fun _ => False) w v) => rneeds_any (sc := l.nc) (h.needs.same c))
  obtain ⟨bn, hbn⟩ : ∃ b, ((o.n : Int) != 0) = b := ⟨_, rfl⟩
  obtain ⟨bst, hbst⟩ : ∃ b, ((o.st : Int) != 0) = b := ⟨_, rfl⟩
  obtain ⟨bg, hbg⟩ : ∃ b, ((o.g : Int) != 0) = b := ⟨_, rfl⟩
  obtain ⟨bto, hbto⟩ : ∃ b, ((o.to : Int) != 0) = b := ⟨_, rfl⟩
  obtain ⟨bat, hbat⟩ : ∃ b, ((o.at_ : Int) != 0) = b := ⟨_, rfl⟩
  obtain ⟨be, hbe⟩ : ∃ b, decide (o.pred.toList = []) = b := ⟨_, rfl⟩
  have hbe2 : (o.pred.toList == []) = be := by rw [← hbe]; cases o.pred.toList <;> rfl
  obtain ⟨ke, hke⟩ : ∃ b, o.keys.isEmpty = b := ⟨_, rfl⟩
  obtain ⟨ne, hne⟩ : ∃ b, o.needs.isEmpty = b := ⟨_, rfl⟩
  have hk1 : decide ((0 : Int) < o.keys.length) = !ke := by rw [← hke]; cases o.keys <;> simp
  have hn1 : decide ((0 : Int) < o.needs.length) = !ne := by rw [← hne]; cases o.needs <;> simp
  have hk1' : decide (0 < o.keys.length) = !ke := by rw [← hke]; cases o.keys <;> simp
  have hn1' : decide (0 < o.needs.length) = !ne := by rw [← hne]; cases o.needs <;> simp
  obtain ⟨bnm, hnm⟩ : ∃ b, predOk o.pred = b := ⟨_, rfl⟩
  obtain ⟨p1, hp1⟩ : ∃ b, decide ((1 : Int) ≤ o.n) = b := ⟨_, rfl⟩
  obtain ⟨p2, hp2⟩ : ∃ b, decide ((o.n : Int) ≤ 4096) = b := ⟨_, rfl⟩
  obtain ⟨kM, hkM⟩ : ∃ b, rkeysM o.keys = b := ⟨_, rfl⟩
  obtain ⟨nM, hnM⟩ : ∃ b, rneedsM o.needs = b := ⟨_, rfl⟩
  obtain ⟨bl, hbl⟩ : ∃ b, (!(ke && ne)) = b := ⟨_, rfl⟩
  have hz : ∀ (x : Nat) (b : Bool), ((x : Int) != 0) = b → decide (x = 0) = !b := fun x b e => by rw [← e]; by_cases h : x = 0 <;> simp [h]
  have HAS := Lib.hid (show Asks o bn bst be bg bto bat ke ne bl bnm p1 p2 kM nM from ⟨hz _ _ hbn, hz _ _ hbst, hbe, hz _ _ hbg, hz _ _ hbto, hz _ _ hbat, hke, hne, hbl.symm, hnm, by rw [← hp1]; simp only [decide_eq_decide]; omega, by rw [← hp2]; simp only [decide_eq_decide]; omega, hkM, hnM⟩)
  rw [hnm] at RP
  rw [hkM] at RK
  rw [hnM] at RN
  have RK := Lib.hid RK
  have hk256 : o.k < 256 := h.k
  have HKD := Lib.hid hk0
  clear hk0
  obtain ⟨W0, HW0⟩ : ∃ W0, Hid (w.alloc (.cells (opC o l) 28) = W0) := ⟨_, Lib.hid rfl⟩
  obtain ⟨kb, HKB⟩ : ∃ kb, Hid (w.heap.size = kb) := ⟨_, Lib.hid rfl⟩
  rw [HW0.out] at HC0 RK
  rw [HW0.out, HKB.out] at k0 k1 k2 k3 k4 k5 k6 k7 k8
  have KH := Lib.hid (show ∀ (i : Int), i = o.k → True from fun _ _ => trivial)
  obtain ⟨kI, hkI⟩ : ∃ kI : Int, (o.k : Int) = kI := ⟨_, rfl⟩
  have HKI := Lib.hid hkI
  rw [hkI] at k0
  rw [show opC o l = opK kI o l by unfold opC opK; rw [hkI]] at HW0 ⊢
  clear h hkb hkc hbe hke hne hnm hkM hnM hz hk256 hkI
  go_enter Tryz.func61, Tryz.ntmps61
  go_upto_region 7 with fail
  rw [HW0.out, HKB.out]
  go_cut [3, 4, 5, 6, 7, 8, 9] from 11 (fun s3 s4 s5 s6 s7 s8 s9 wc => s3 = .bool bn ∧ s4 = .bool bst ∧ s5 = .bool (!be) ∧ s6 = .bool bg ∧ s7 = .bool bto ∧ s8 = .bool bat ∧ s9 = .bool bl ∧ wc = W0)
  case first => as_aux_lemma =>
    cases ke <;> cases ne
    all_goals
      go_wp2_with fail
      go_meet
      case rel => exact ⟨by first | rfl | rw [hbn], by first | rfl | rw [hbst], by first | rfl | (rw [hbe2]; rfl) | simp [hbe2], by first | rfl | rw [hbg], by first | rfl | rw [hbto], by first | rfl | rw [hbat], by rw [← hbl]; rfl, rfl⟩
  case rest =>
    obtain ⟨rfl, rfl, rfl, rfl, rfl, rfl, rfl, rfl⟩ := hcut
    clear hbn hbst hbg hbto hbat hbe2 hk1 hk1' hn1 hn1' hbl k2 k6 k7 k8
    go_wp2_with fail
    refine (RP.out _).mono ?_
    rintro e w1 ⟨rfl, rfl⟩
    have HC := HC0
    clear RP k5
    have hk := HKD.out
    have HM := Lib.hid (may_8 HAS.out hk)
    have hkI2 : kI = 8 := by rw [← HKI.out, hk]; rfl
    have q1 : (kI == 1) = false := by rw [hkI2]; rfl
    have q2 : (kI == 2) = false := by rw [hkI2]; rfl
    have q3 : (kI == 3) = false := by rw [hkI2]; rfl
    have q4 : (kI == 4) = false := by rw [hkI2]; rfl
    have q5 : (kI == 5) = false := by rw [hkI2]; rfl
    have q6 : (kI == 6) = false := by rw [hkI2]; rfl
    have q7 : (kI == 7) = false := by rw [hkI2]; rfl
    have q8 : (kI == 8) = true := by rw [hkI2]; rfl
    have q9 : (kI == 9) = false := by rw [hkI2]; rfl
    clear hk hkI2 HAS HKD HKI
    go_upto_region 23 with fail
    clear q1 q2 q3 q4 q5 q6 q7 q8 q9
    go_cut [2] from 11 (fun s wc => s = .bool Rr ∧ Hid (Chg (fun _ => False) w wc))
    case first => as_aux_lemma =>
      cases bnm
      · have HV := Lib.hid (show Rr = false by rw [← HR.out, HM.out]; rfl)
        clear HM
        go_wp2_with fail
        go_meet
        case rel => exact ⟨by rw [HV.out], HC⟩
      · cases bat
        · have HV := Lib.hid (show Rr = false by rw [← HR.out, HM.out]; rfl)
          clear HM
          go_wp2_with fail
          go_meet
          case rel => exact ⟨by rw [HV.out], HC⟩
        · cases bn
          · cases bst
            · cases bg
              · cases bto
                · cases bl
                  · have HV := Lib.hid (show Rr = true by rw [← HR.out, HM.out]; rfl)
                    clear HM
                    go_wp2_with fail
                    go_meet
                    case rel => exact ⟨by rw [HV.out], HC⟩
                  · have HV := Lib.hid (show Rr = false by rw [← HR.out, HM.out]; rfl)
                    clear HM
                    go_wp2_with fail
                    go_meet
                    case rel => exact ⟨by rw [HV.out], HC⟩
                · have HV := Lib.hid (show Rr = false by rw [← HR.out, HM.out]; rfl)
                  clear HM
                  go_wp2_with fail
                  go_meet
                  case rel => exact ⟨by rw [HV.out], HC⟩
              · have HV := Lib.hid (show Rr = false by rw [← HR.out, HM.out]; rfl)
                clear HM
                go_wp2_with fail
                go_meet
                case rel => exact ⟨by rw [HV.out], HC⟩
            · have HV := Lib.hid (show Rr = false by rw [← HR.out, HM.out]; rfl)
              clear HM
              go_wp2_with fail
              go_meet
              case rel => exact ⟨by rw [HV.out], HC⟩
          · have HV := Lib.hid (show Rr = false by rw [← HR.out, HM.out]; rfl)
            clear HM
            go_wp2_with fail
            go_meet
            case rel => exact ⟨by rw [HV.out], HC⟩
    case rest =>
      obtain ⟨rfl, HC⟩ := hcut
      go_wp2
      go_ret
      exact ⟨rfl, HC.out⟩
end Go.Proofs.YtgmmglmokkcgeaaGreat
/- Walks: the document's May, of the kind 9. -/
namespace Go.Proofs.YtgmmglmokkcgeaaGreat
set_option linter.unusedVariables false
set_option linter.unusedSimpArgs false
open Go.RowKit Mk Go.Sort

set_option maxRecDepth 100000 in
set_option maxHeartbeats 8000000 in
theorem rmay_9 {w : World} {o : OpM} {l : OpL} (h : OpAt w o l) (hk0 : o.k = 9) :
    Calls Tryz.prog 61 #[.agg (opC o l)] w fun e w' => e = .returned (.bool (mayM o)) ∧ Chg (fun _ => False) w w' := by
  obtain ⟨Rr, HR⟩ : ∃ b : Bool, Hid (mayM o = b) := ⟨_, Lib.hid rfl⟩
  rw [HR.out]
  have HC0 := Lib.hid (show Chg (fun _ => False) w (w.alloc (.cells (opC o l) 28)) from (Chg.refl _ _).alloc _)
  have hkb : (w.alloc (.cells (opC o l) 28)).heap[w.heap.size]? = some (.cells (opC o l) 28) := Go.heap_alloc_new _ _
  have hkc : ∀ i v, (opC o l)[i]? = some v → (w.alloc (.cells (opC o l) 28)).cell? ⟨w.heap.size, i, none⟩ = some v := fun i v hv => cell_of hkb hv
  have k0 : (w.alloc (.cells (opC o l) 28)).cell? ⟨w.heap.size, 0, none⟩ = some (.int .u8 (o.k : Nat)) := hkc 0 _ rfl
  have k1 : (w.alloc (.cells (opC o l) 28)).cell? ⟨w.heap.size, 1, none⟩ = some (.int .u32 (o.n : Nat)) := hkc 1 _ rfl
  have k2 : (w.alloc (.cells (opC o l) 28)).cell? ⟨w.heap.size, 2, none⟩ = some (.int .u64 (o.st : Nat)) := hkc 2 _ rfl
  have k3 : (w.alloc (.cells (opC o l) 28)).cell? ⟨w.heap.size, 3, none⟩ = some (.slice l.ko o.keys.length l.kc) := hkc 3 _ rfl
  have k4 : (w.alloc (.cells (opC o l) 28)).cell? ⟨w.heap.size, 4, none⟩ = some (.slice l.no o.needs.length l.nc) := hkc 4 _ rfl
  have k5 : (w.alloc (.cells (opC o l) 28)).cell? ⟨w.heap.size, 5, none⟩ = some (.string o.pred) := hkc 5 _ rfl
  have k6 : (w.alloc (.cells (opC o l) 28)).cell? ⟨w.heap.size, 6, none⟩ = some (.int .u32 (o.g : Nat)) := hkc 6 _ rfl
  have k7 : (w.alloc (.cells (opC o l) 28)).cell? ⟨w.heap.size, 7, none⟩ = some (.int .u32 (o.to : Nat)) := hkc 7 _ rfl
  have k8 : (w.alloc (.cells (opC o l) 28)).cell? ⟨w.heap.size, 8, none⟩ = some (.int .u64 (o.at_ : Nat)) := hkc 8 _ rfl
  have RP := Lib.hid (rpred_any o.pred)
  have RK := rkeys_any (sc := l.kc) (h.keys.same HC0.out)
  have RN := Lib.hid (fun (v : World) (c : Chg (fun _ => False) w v) => rneeds_any (sc := l.nc) (h.needs.same c))
  obtain ⟨bn, hbn⟩ : ∃ b, ((o.n : Int) != 0) = b := ⟨_, rfl⟩
  obtain ⟨bst, hbst⟩ : ∃ b, ((o.st : Int) != 0) = b := ⟨_, rfl⟩
  obtain ⟨bg, hbg⟩ : ∃ b, ((o.g : Int) != 0) = b := ⟨_, rfl⟩
  obtain ⟨bto, hbto⟩ : ∃ b, ((o.to : Int) != 0) = b := ⟨_, rfl⟩
  obtain ⟨bat, hbat⟩ : ∃ b, ((o.at_ : Int) != 0) = b := ⟨_, rfl⟩
  obtain ⟨be, hbe⟩ : ∃ b, decide (o.pred.toList = []) = b := ⟨_, rfl⟩
  have hbe2 : (o.pred.toList == []) = be := by rw [← hbe]; cases o.pred.toList <;> rfl
  obtain ⟨ke, hke⟩ : ∃ b, o.keys.isEmpty = b := ⟨_, rfl⟩
  obtain ⟨ne, hne⟩ : ∃ b, o.needs.isEmpty = b := ⟨_, rfl⟩
  have hk1 : decide ((0 : Int) < o.keys.length) = !ke := by rw [← hke]; cases o.keys <;> simp
  have hn1 : decide ((0 : Int) < o.needs.length) = !ne := by rw [← hne]; cases o.needs <;> simp
  have hk1' : decide (0 < o.keys.length) = !ke := by rw [← hke]; cases o.keys <;> simp
  have hn1' : decide (0 < o.needs.length) = !ne := by rw [← hne]; cases o.needs <;> simp
  obtain ⟨bnm, hnm⟩ : ∃ b, predOk o.pred = b := ⟨_, rfl⟩
  obtain ⟨p1, hp1⟩ : ∃ b, decide ((1 : Int) ≤ o.n) = b := ⟨_, rfl⟩
  obtain ⟨p2, hp2⟩ : ∃ b, decide ((o.n : Int) ≤ 4096) = b := ⟨_, rfl⟩
  obtain ⟨kM, hkM⟩ : ∃ b, rkeysM o.keys = b := ⟨_, rfl⟩
  obtain ⟨nM, hnM⟩ : ∃ b, rneedsM o.needs = b := ⟨_, rfl⟩
  obtain ⟨bl, hbl⟩ : ∃ b, (!(ke && ne)) = b := ⟨_, rfl⟩
  have hz : ∀ (x : Nat) (b : Bool), ((x : Int) != 0) = b → decide (x = 0) = !b := fun x b e => by rw [← e]; by_cases h : x = 0 <;> simp [h]
  have HAS := Lib.hid (show Asks o bn bst be bg bto bat ke ne bl bnm p1 p2 kM nM from ⟨hz _ _ hbn, hz _ _ hbst, hbe, hz _ _ hbg, hz _ _ hbto, hz _ _ hbat, hke, hne, hbl.symm, hnm, by rw [← hp1]; simp only [decide_eq_decide]; omega, by rw [← hp2]; simp only [decide_eq_decide]; omega, hkM, hnM⟩)
  rw [hnm] at RP
  rw [hkM] at RK
  rw [hnM] at RN
  have RK := Lib.hid RK
  have hk256 : o.k < 256 := h.k
  have HKD := Lib.hid hk0
  clear hk0
  obtain ⟨W0, HW0⟩ : ∃ W0, Hid (w.alloc (.cells (opC o l) 28) = W0) := ⟨_, Lib.hid rfl⟩
  obtain ⟨kb, HKB⟩ : ∃ kb, Hid (w.heap.size = kb) := ⟨_, Lib.hid rfl⟩
  rw [HW0.out] at HC0 RK
  rw [HW0.out, HKB.out] at k0 k1 k2 k3 k4 k5 k6 k7 k8
  have KH := Lib.hid (show ∀ (i : Int), i = o.k → True from fun _ _ => trivial)
  obtain ⟨kI, hkI⟩ : ∃ kI : Int, (o.k : Int) = kI := ⟨_, rfl⟩
  have HKI := Lib.hid hkI
  rw [hkI] at k0
  rw [show opC o l = opK kI o l by unfold opC opK; rw [hkI]] at HW0 ⊢
  clear h hkb hkc hbe hke hne hnm hkM hnM hz hk256 hkI
  go_enter Tryz.func61, Tryz.ntmps61
  go_upto_region 7 with fail
  rw [HW0.out, HKB.out]
  go_cut [3, 4, 5, 6, 7, 8, 9] from 11 (fun s3 s4 s5 s6 s7 s8 s9 wc => s3 = .bool bn ∧ s4 = .bool bst ∧ s5 = .bool (!be) ∧ s6 = .bool bg ∧ s7 = .bool bto ∧ s8 = .bool bat ∧ s9 = .bool bl ∧ wc = W0)
  case first => as_aux_lemma =>
    cases ke <;> cases ne
    all_goals
      go_wp2_with fail
      go_meet
      case rel => exact ⟨by first | rfl | rw [hbn], by first | rfl | rw [hbst], by first | rfl | (rw [hbe2]; rfl) | simp [hbe2], by first | rfl | rw [hbg], by first | rfl | rw [hbto], by first | rfl | rw [hbat], by rw [← hbl]; rfl, rfl⟩
  case rest =>
    obtain ⟨rfl, rfl, rfl, rfl, rfl, rfl, rfl, rfl⟩ := hcut
    clear hbn hbst hbg hbto hbat hbe2 hk1 hk1' hn1 hn1' hbl k2 k6 k7 k8
    go_wp2_with fail
    refine (RP.out _).mono ?_
    rintro e w1 ⟨rfl, rfl⟩
    have HC := HC0
    clear RP k5
    have hk := HKD.out
    have HM := Lib.hid (may_9 HAS.out hk)
    have hkI2 : kI = 9 := by rw [← HKI.out, hk]; rfl
    have q1 : (kI == 1) = false := by rw [hkI2]; rfl
    have q2 : (kI == 2) = false := by rw [hkI2]; rfl
    have q3 : (kI == 3) = false := by rw [hkI2]; rfl
    have q4 : (kI == 4) = false := by rw [hkI2]; rfl
    have q5 : (kI == 5) = false := by rw [hkI2]; rfl
    have q6 : (kI == 6) = false := by rw [hkI2]; rfl
    have q7 : (kI == 7) = false := by rw [hkI2]; rfl
    have q8 : (kI == 8) = false := by rw [hkI2]; rfl
    have q9 : (kI == 9) = true := by rw [hkI2]; rfl
    clear hk hkI2 HAS HKD HKI
    go_upto_region 25 with fail
    clear q1 q2 q3 q4 q5 q6 q7 q8 q9
    go_cut [2] from 11 (fun s wc => s = .bool Rr ∧ Hid (Chg (fun _ => False) w wc))
    case first => as_aux_lemma =>
      cases bat
      · have HV := Lib.hid (show Rr = false by rw [← HR.out, HM.out]; rfl)
        clear HM
        go_wp2_with fail
        go_meet
        case rel => exact ⟨by rw [HV.out], HC⟩
      · cases bn
        · cases bst
          · cases be
            · have HV := Lib.hid (show Rr = false by rw [← HR.out, HM.out]; rfl)
              clear HM
              go_wp2_with fail
              go_meet
              case rel => exact ⟨by rw [HV.out], HC⟩
            · cases bg
              · cases bto
                · cases bl
                  · have HV := Lib.hid (show Rr = true by rw [← HR.out, HM.out]; rfl)
                    clear HM
                    go_wp2_with fail
                    go_meet
                    case rel => exact ⟨by rw [HV.out], HC⟩
                  · have HV := Lib.hid (show Rr = false by rw [← HR.out, HM.out]; rfl)
                    clear HM
                    go_wp2_with fail
                    go_meet
                    case rel => exact ⟨by rw [HV.out], HC⟩
                · have HV := Lib.hid (show Rr = false by rw [← HR.out, HM.out]; rfl)
                  clear HM
                  go_wp2_with fail
                  go_meet
                  case rel => exact ⟨by rw [HV.out], HC⟩
              · have HV := Lib.hid (show Rr = false by rw [← HR.out, HM.out]; rfl)
                clear HM
                go_wp2_with fail
                go_meet
                case rel => exact ⟨by rw [HV.out], HC⟩
          · have HV := Lib.hid (show Rr = false by rw [← HR.out, HM.out]; rfl)
            clear HM
            go_wp2_with fail
            go_meet
            case rel => exact ⟨by rw [HV.out], HC⟩
        · have HV := Lib.hid (show Rr = false by rw [← HR.out, HM.out]; rfl)
          clear HM
          go_wp2_with fail
          go_meet
          case rel => exact ⟨by rw [HV.out], HC⟩
    case rest =>
      obtain ⟨rfl, HC⟩ := hcut
      go_wp2
      go_ret
      exact ⟨rfl, HC.out⟩
end Go.Proofs.YtgmmglmokkcgeaaGreat
/- Walks: the document's May, of the kind else. -/
namespace Go.Proofs.YtgmmglmokkcgeaaGreat
set_option linter.unusedVariables false
set_option linter.unusedSimpArgs false
open Go.RowKit Mk Go.Sort

set_option maxRecDepth 100000 in
set_option maxHeartbeats 8000000 in
theorem rmay_else {w : World} {o : OpM} {l : OpL} (h : OpAt w o l) (hk0 : ∀ k, 1 ≤ k → k ≤ 9 → o.k ≠ k) :
    Calls Tryz.prog 61 #[.agg (opC o l)] w fun e w' => e = .returned (.bool (mayM o)) ∧ Chg (fun _ => False) w w' := by
  obtain ⟨Rr, HR⟩ : ∃ b : Bool, Hid (mayM o = b) := ⟨_, Lib.hid rfl⟩
  rw [HR.out]
  have HC0 := Lib.hid (show Chg (fun _ => False) w (w.alloc (.cells (opC o l) 28)) from (Chg.refl _ _).alloc _)
  have hkb : (w.alloc (.cells (opC o l) 28)).heap[w.heap.size]? = some (.cells (opC o l) 28) := Go.heap_alloc_new _ _
  have hkc : ∀ i v, (opC o l)[i]? = some v → (w.alloc (.cells (opC o l) 28)).cell? ⟨w.heap.size, i, none⟩ = some v := fun i v hv => cell_of hkb hv
  have k0 : (w.alloc (.cells (opC o l) 28)).cell? ⟨w.heap.size, 0, none⟩ = some (.int .u8 (o.k : Nat)) := hkc 0 _ rfl
  have k1 : (w.alloc (.cells (opC o l) 28)).cell? ⟨w.heap.size, 1, none⟩ = some (.int .u32 (o.n : Nat)) := hkc 1 _ rfl
  have k2 : (w.alloc (.cells (opC o l) 28)).cell? ⟨w.heap.size, 2, none⟩ = some (.int .u64 (o.st : Nat)) := hkc 2 _ rfl
  have k3 : (w.alloc (.cells (opC o l) 28)).cell? ⟨w.heap.size, 3, none⟩ = some (.slice l.ko o.keys.length l.kc) := hkc 3 _ rfl
  have k4 : (w.alloc (.cells (opC o l) 28)).cell? ⟨w.heap.size, 4, none⟩ = some (.slice l.no o.needs.length l.nc) := hkc 4 _ rfl
  have k5 : (w.alloc (.cells (opC o l) 28)).cell? ⟨w.heap.size, 5, none⟩ = some (.string o.pred) := hkc 5 _ rfl
  have k6 : (w.alloc (.cells (opC o l) 28)).cell? ⟨w.heap.size, 6, none⟩ = some (.int .u32 (o.g : Nat)) := hkc 6 _ rfl
  have k7 : (w.alloc (.cells (opC o l) 28)).cell? ⟨w.heap.size, 7, none⟩ = some (.int .u32 (o.to : Nat)) := hkc 7 _ rfl
  have k8 : (w.alloc (.cells (opC o l) 28)).cell? ⟨w.heap.size, 8, none⟩ = some (.int .u64 (o.at_ : Nat)) := hkc 8 _ rfl
  have RP := Lib.hid (rpred_any o.pred)
  have RK := rkeys_any (sc := l.kc) (h.keys.same HC0.out)
  have RN := Lib.hid (fun (v : World) (c : Chg (fun _ => False) w v) => rneeds_any (sc := l.nc) (h.needs.same c))
  obtain ⟨bn, hbn⟩ : ∃ b, ((o.n : Int) != 0) = b := ⟨_, rfl⟩
  obtain ⟨bst, hbst⟩ : ∃ b, ((o.st : Int) != 0) = b := ⟨_, rfl⟩
  obtain ⟨bg, hbg⟩ : ∃ b, ((o.g : Int) != 0) = b := ⟨_, rfl⟩
  obtain ⟨bto, hbto⟩ : ∃ b, ((o.to : Int) != 0) = b := ⟨_, rfl⟩
  obtain ⟨bat, hbat⟩ : ∃ b, ((o.at_ : Int) != 0) = b := ⟨_, rfl⟩
  obtain ⟨be, hbe⟩ : ∃ b, decide (o.pred.toList = []) = b := ⟨_, rfl⟩
  have hbe2 : (o.pred.toList == []) = be := by rw [← hbe]; cases o.pred.toList <;> rfl
  obtain ⟨ke, hke⟩ : ∃ b, o.keys.isEmpty = b := ⟨_, rfl⟩
  obtain ⟨ne, hne⟩ : ∃ b, o.needs.isEmpty = b := ⟨_, rfl⟩
  have hk1 : decide ((0 : Int) < o.keys.length) = !ke := by rw [← hke]; cases o.keys <;> simp
  have hn1 : decide ((0 : Int) < o.needs.length) = !ne := by rw [← hne]; cases o.needs <;> simp
  have hk1' : decide (0 < o.keys.length) = !ke := by rw [← hke]; cases o.keys <;> simp
  have hn1' : decide (0 < o.needs.length) = !ne := by rw [← hne]; cases o.needs <;> simp
  obtain ⟨bnm, hnm⟩ : ∃ b, predOk o.pred = b := ⟨_, rfl⟩
  obtain ⟨p1, hp1⟩ : ∃ b, decide ((1 : Int) ≤ o.n) = b := ⟨_, rfl⟩
  obtain ⟨p2, hp2⟩ : ∃ b, decide ((o.n : Int) ≤ 4096) = b := ⟨_, rfl⟩
  obtain ⟨kM, hkM⟩ : ∃ b, rkeysM o.keys = b := ⟨_, rfl⟩
  obtain ⟨nM, hnM⟩ : ∃ b, rneedsM o.needs = b := ⟨_, rfl⟩
  obtain ⟨bl, hbl⟩ : ∃ b, (!(ke && ne)) = b := ⟨_, rfl⟩
  have hz : ∀ (x : Nat) (b : Bool), ((x : Int) != 0) = b → decide (x = 0) = !b := fun x b e => by rw [← e]; by_cases h : x = 0 <;> simp [h]
  have HAS := Lib.hid (show Asks o bn bst be bg bto bat ke ne bl bnm p1 p2 kM nM from ⟨hz _ _ hbn, hz _ _ hbst, hbe, hz _ _ hbg, hz _ _ hbto, hz _ _ hbat, hke, hne, hbl.symm, hnm, by rw [← hp1]; simp only [decide_eq_decide]; omega, by rw [← hp2]; simp only [decide_eq_decide]; omega, hkM, hnM⟩)
  rw [hnm] at RP
  rw [hkM] at RK
  rw [hnM] at RN
  have RK := Lib.hid RK
  have hk256 : o.k < 256 := h.k
  have HKD := Lib.hid hk0
  clear hk0
  obtain ⟨W0, HW0⟩ : ∃ W0, Hid (w.alloc (.cells (opC o l) 28) = W0) := ⟨_, Lib.hid rfl⟩
  obtain ⟨kb, HKB⟩ : ∃ kb, Hid (w.heap.size = kb) := ⟨_, Lib.hid rfl⟩
  rw [HW0.out] at HC0 RK
  rw [HW0.out, HKB.out] at k0 k1 k2 k3 k4 k5 k6 k7 k8
  have KH := Lib.hid (show ∀ (i : Int), i = o.k → True from fun _ _ => trivial)
  obtain ⟨kI, hkI⟩ : ∃ kI : Int, (o.k : Int) = kI := ⟨_, rfl⟩
  have HKI := Lib.hid hkI
  rw [hkI] at k0
  rw [show opC o l = opK kI o l by unfold opC opK; rw [hkI]] at HW0 ⊢
  clear h hkb hkc hbe hke hne hnm hkM hnM hz hk256 hkI
  go_enter Tryz.func61, Tryz.ntmps61
  go_upto_region 7 with fail
  rw [HW0.out, HKB.out]
  go_cut [3, 4, 5, 6, 7, 8, 9] from 11 (fun s3 s4 s5 s6 s7 s8 s9 wc => s3 = .bool bn ∧ s4 = .bool bst ∧ s5 = .bool (!be) ∧ s6 = .bool bg ∧ s7 = .bool bto ∧ s8 = .bool bat ∧ s9 = .bool bl ∧ wc = W0)
  case first => as_aux_lemma =>
    cases ke <;> cases ne
    all_goals
      go_wp2_with fail
      go_meet
      case rel => exact ⟨by first | rfl | rw [hbn], by first | rfl | rw [hbst], by first | rfl | (rw [hbe2]; rfl) | simp [hbe2], by first | rfl | rw [hbg], by first | rfl | rw [hbto], by first | rfl | rw [hbat], by rw [← hbl]; rfl, rfl⟩
  case rest =>
    obtain ⟨rfl, rfl, rfl, rfl, rfl, rfl, rfl, rfl⟩ := hcut
    clear hbn hbst hbg hbto hbat hbe2 hk1 hk1' hn1 hn1' hbl k2 k6 k7 k8
    go_wp2_with fail
    refine (RP.out _).mono ?_
    rintro e w1 ⟨rfl, rfl⟩
    have HC := HC0
    clear RP k5
    have hk := HKD.out
    have HM := Lib.hid (may_else hk)
    have q1 : (kI == 1) = false := by rw [beq_eq_false_iff_ne]; intro e; exact hk 1 (by decide) (by decide) (by have := HKI.out; omega)
    have q2 : (kI == 2) = false := by rw [beq_eq_false_iff_ne]; intro e; exact hk 2 (by decide) (by decide) (by have := HKI.out; omega)
    have q3 : (kI == 3) = false := by rw [beq_eq_false_iff_ne]; intro e; exact hk 3 (by decide) (by decide) (by have := HKI.out; omega)
    have q4 : (kI == 4) = false := by rw [beq_eq_false_iff_ne]; intro e; exact hk 4 (by decide) (by decide) (by have := HKI.out; omega)
    have q5 : (kI == 5) = false := by rw [beq_eq_false_iff_ne]; intro e; exact hk 5 (by decide) (by decide) (by have := HKI.out; omega)
    have q6 : (kI == 6) = false := by rw [beq_eq_false_iff_ne]; intro e; exact hk 6 (by decide) (by decide) (by have := HKI.out; omega)
    have q7 : (kI == 7) = false := by rw [beq_eq_false_iff_ne]; intro e; exact hk 7 (by decide) (by decide) (by have := HKI.out; omega)
    have q8 : (kI == 8) = false := by rw [beq_eq_false_iff_ne]; intro e; exact hk 8 (by decide) (by decide) (by have := HKI.out; omega)
    have q9 : (kI == 9) = false := by rw [beq_eq_false_iff_ne]; intro e; exact hk 9 (by decide) (by decide) (by have := HKI.out; omega)
    clear hk HAS HKD HKI
    have HV := Lib.hid (show Rr = false by rw [← HR.out, HM.out])
    clear HM
    go_wp2
    go_ret
    exact ⟨by rw [HV.out]; rfl, HC.out⟩
end Go.Proofs.YtgmmglmokkcgeaaGreat
