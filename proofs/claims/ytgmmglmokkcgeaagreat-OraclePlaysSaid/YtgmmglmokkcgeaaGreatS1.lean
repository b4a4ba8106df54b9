/- Walks: asks: both oracles say the same of a command. -/
import Derived.Test.YtgmmglmokkcgeaaGreatR4b
import Derived.Test.YtgmmglmokkcgeaaGreatR4c
import Derived.Test.YtgmmglmokkcgeaaGreatR2b
import Derived.Test.YtgmmglmokkcgeaaGreatAd
import Derived.Test.YtgmmglmokkcgeaaGreatB2
import Derived.Deep.CutRange
import Derived.Deep.QuietTactic
namespace Go.Proofs.YtgmmglmokkcgeaaGreat
set_option linter.unusedVariables false
set_option linter.unusedSimpArgs false
set_option linter.unusedSectionVars false
open Go.RowKit Mk Go.Sort

theorem wrap_two (m : Nat) : IntKind.u64.wrap ((m : Int) + 2) = (((m + 2) % 18446744073709551616 : Nat) : Int) := by
  simp only [IntKind.wrap, IntKind.bits, IntKind.signed]; simp
theorem Alike.com_len {n : OM} {r : RM} {B : Nat} (h : Alike n r) (hf : Fit r B) (x : ByteArray) : (n.com x).length ≤ B := by
  rw [h.c]
  cases hl : lk r.c x with
  | none => simp
  | some l => exact hf.ct _ (lk_mem hl)
section
variable {w w' : World} {bs bx : Nat} {R : Loc} {Q : RV} {F G : Nat → Prop} {n : OM} {r : RM} {o : OpM} {l : OpL} {B : Nat}
theorem olast_any (h : OrRep w bs R F n) {x : ByteArray} (hx : x.size ≤ maxLen) : Calls Tryz.prog 14 #[.pointer (some ⟨bs, 0, none⟩), .string x] w fun e w' => e = .returned (.int .u64 ((lk n.las x).getD 0 : Nat)) ∧ w' = w := by
  have c5 := h.c5
  have NN := Lib.hid (none_any h)
  have hl := h.lookL hx
  clear h
  generalize (lk n.las x).getD 0 = v at *
  go_enter Tryz.func14, Tryz.ntmps14
  go_wp2_with fail
  refine NN.out.mono ?_
  rintro e w1 ⟨rfl, rfl⟩
  go_wp2_with fail
  go_ret
  exact ⟨rfl, rfl⟩
set_option maxRecDepth 100000 in
set_option maxHeartbeats 8000000 in
theorem asks_any (hs : OrRep w bs R F n) (hx : RRep w bx Q G r) (al : Alike n r) (hfit : Fit r B) (hB : B ≤ 900000) (ho : OpAt w o l) (hps : o.pred.size ≤ maxLen) (hks : ∀ k ∈ o.keys, k.size ≤ maxLen) :
    Calls Tryz.prog 26 #[.pointer (some ⟨bs, 0, none⟩), .pointer (some ⟨bx, 0, none⟩), .agg (opC o l)] w fun e w' => e = .returned (.bool true) ∧ Chg (fun _ => False) w w' := by
  obtain ⟨W0, HW0⟩ : ∃ W, Hid (w.alloc (.cells (opC o l) 28) = W) := ⟨_, Lib.hid rfl⟩
  obtain ⟨ob, HOS⟩ : ∃ k, Hid (w.heap.size = k) := ⟨_, Lib.hid rfl⟩
  have hc0 : Chg (fun _ => False) w W0 := by rw [← HW0.out]; exact (Chg.refl _ _).alloc _
  have hob : W0.heap[ob]? = some (.cells #[.int .u8 (o.k : Nat), .int .u32 (o.n : Nat), .int .u64 (o.st : Nat), .slice l.ko o.keys.length l.kc, .slice l.no o.needs.length l.nc, .string o.pred, .int .u32 (o.g : Nat), .int .u32 (o.to : Nat), .int .u64 (o.at_ : Nat)] 28) := by rw [← HW0.out, ← HOS.out]; exact Go.heap_alloc_new _ _
  have HC0 := Lib.hid hc0
  have HOB := Lib.hid hob
  have HS := Lib.hid (fun (u : World) (c : Chg (fun _ => False) w u) => hs.same c)
  have HX := Lib.hid (fun (u : World) (c : Chg (fun _ => False) w u) => hx.same c)
  have HO := Lib.hid (fun (u : World) (c : Chg (fun _ => False) w u) => ho.same c)
  have HPS := Lib.hid hps
  have HKS := Lib.hid hks
  have HAL := Lib.hid al
  have HFT := Lib.hid hfit
  have HBB := Lib.hid hB
  obtain ⟨D, hD⟩ : ∃ D, decisionM n o.st = D := ⟨_, rfl⟩
  have D1 := decision_any (hs.same hc0) ho.st
  have D2 := fun (u : World) (c : Chg (fun _ => False) w u) => rdecision_any (hx.same c) o.st
  rw [← al.decision, hD] at D2
  rw [hD] at D1
  obtain ⟨dc, di⟩ := D
  simp only at D1 D2
  have D1 := Lib.hid D1
  have D2 := Lib.hid D2
  obtain ⟨K, hK⟩ : ∃ K, o.keys.length = K := ⟨_, rfl⟩
  obtain ⟨N, hN⟩ : ∃ N, o.needs.length = N := ⟨_, rfl⟩
  have HKK := Lib.hid hK
  have HNN := Lib.hid hN
  have hkl := ho.keys.len
  have hnl := ho.needs.len
  rw [hK] at hkl
  rw [hN] at hnl
  have k2 : W0.cell? ⟨ob, 2, none⟩ = some (.int .u64 (o.st : Nat)) := cell_of hob rfl
  clear hs hx al hfit hB ho hps hks hc0 hob hK hN hD
  go_enter Tryz.func26, Tryz.ntmps26
  go_upto_region 1 with fail
  rw [HW0.out, HOS.out]
  go_wp2_with fail
  refine D1.out.mono ?_
  rintro e W1 ⟨rfl, c1⟩
  have C1 := Lib.hid (HC0.out.trans c1)
  have HOB1 := Lib.hid ((c1.block ob (Array.getElem?_eq_some_iff.1 HOB.out).1 (fun f => f)).trans HOB.out)
  have D3 := Lib.hid (D2.out _ C1.out)
  clear c1 k2 D1 D2
  have k2 : W1.cell? ⟨ob, 2, none⟩ = some (.int .u64 (o.st : Nat)) := cell_of HOB1.out rfl
  go_wp2_with fail
  refine D3.out.mono ?_
  rintro e w2 ⟨rfl, hw2⟩
  obtain rfl : W1 = w2 := hw2.symm
  clear D3 k2
  go_wp2_with fail
  go_loopw [11] (fun s wr => ∃ j : Nat, s = .int .i64 j ∧ j ≤ K ∧ Hid (Chg (fun _ => False) W1 wr)) (fun s _ => K - (intOf s).toNat)
  case atStart => exact ⟨0, rfl, Nat.zero_le _, Lib.hid (Chg.refl _ _)⟩
  case round =>
    obtain ⟨j, rfl, hj, HR⟩ := hrel
    have HC := Lib.hid (C1.out.trans HR.out)
    have hob2 := (HR.out.block ob (Array.getElem?_eq_some_iff.1 HOB1.out).1 (fun f => f)).trans HOB1.out
    have k3 : wr.cell? ⟨ob, 3, none⟩ = some (.slice l.ko K l.kc) := by rw [← HKK.out]; exact cell_of hob2 rfl
    have HOB2 := Lib.hid hob2
    clear hob2
    go_upto_region 6 with fail
    go_cut [46] from 38 to 46 (fun s46 wx => wx = wr ∧ s46 = .bool (decide (j < K ∧ j < 300)))
    case first => as_aux_lemma =>
      by_cases g1 : j < K
      · have q2 : decide ((j : Int) < (K : Int)) = true := by simp; omega
        by_cases g2 : j < 300
        · have q3 : decide ((j : Int) < 300) = true := by simp; omega
          go_wp2_with fail
          go_meet
          exact ⟨rfl, by simp [g1, g2]⟩
        · have q3 : decide ((j : Int) < 300) = false := by simp; omega
          go_wp2_with fail
          go_meet
          exact ⟨rfl, by simp [g1, g2]⟩
      · have q2 : decide ((j : Int) < (K : Int)) = false := by simp; omega
        go_wp2_with fail
        go_meet
        exact ⟨rfl, by simp [g1]⟩
    case rest =>
      obtain ⟨hwx, rfl⟩ := hcut
      obtain rfl : wr = _ := hwx.symm
      by_cases hgo : j < K ∧ j < 300
      · have q2 : decide (j < K ∧ j < 300) = true := decide_eq_true hgo
        rw [q2]
        have hjC : j < o.keys.length := by rw [HKK.out]; exact hgo.1
        obtain ⟨g, oo, hko, hg, a1⟩ := (HO.out _ HC.out).keys.cell j hjC
        have hsz := HKS.out _ (List.getElem_mem hjC)
        rw [hko] at k3
        have l0 : (0 : Int) ≤ j := by omega
        have l1 : (j : Int) < K := by have := hgo.1; omega
        have hk1 := HAL.out.k o.keys[j]
        generalize o.keys[j] = x at *
        have LA := fun m => olast_any (HS.out _ (HC.out.trans (Chg.drewN' wr m))) hsz
        have LB := fun m => rlastq_any (HX.out _ (HC.out.trans (Chg.drewN' wr m))) x
        rw [← hk1] at LB
        generalize (lk n.las x).getD 0 = v at *
        have LA := Lib.hid LA
        have LB := Lib.hid LB
        clear hko hg hsz hk1 q2 hjC
        go_wp2_with fail
        go_quiet (first | (go_at_call 14; exact Calls.quiet_of_same (LA.out _)) | (go_at_call 66; exact Calls.quiet_of_same (LB.out _)))
        have HN1 := Lib.hid (HR.out.trans (Chg.drewN' wr nq))
        go_wp2_with fail
        go_roundw
        case rel => exact ⟨j + 1, by go_num, by have := hgo.1; omega, HN1⟩
        case measure => have := hgo.1; simp [intOf]; omega
      · have q2 : decide (j < K ∧ j < 300) = false := decide_eq_false hgo
        rw [q2]
        have HR2 := Lib.hid HR.out
        have HOB3 := Lib.hid HOB1.out
        clear hgo q2 k3 HC HOB2
        go_wp2_with fail
        generalize wr = W3 at *
        clear HR
        go_loopw [12] (fun s wr => ∃ i : Nat, s = .int .i64 i ∧ i ≤ N ∧ Hid (Chg (fun _ => False) W1 wr)) (fun s _ => N - (intOf s).toNat)
        case atStart => exact ⟨0, rfl, Nat.zero_le _, HR2⟩
        case round =>
          clear HR2
          obtain ⟨i, rfl, hi, HR⟩ := hrel
          have HC := Lib.hid (C1.out.trans HR.out)
          have hob2 := (HR.out.block ob (Array.getElem?_eq_some_iff.1 HOB1.out).1 (fun f => f)).trans HOB1.out
          have k4 : wr.cell? ⟨ob, 4, none⟩ = some (.slice l.no N l.nc) := by rw [← HNN.out]; exact cell_of hob2 rfl
          have k2 : wr.cell? ⟨ob, 2, none⟩ = some (.int .u64 (o.st : Nat)) := cell_of hob2 rfl
          have k5 : wr.cell? ⟨ob, 5, none⟩ = some (.string o.pred) := cell_of hob2 rfl
          have HOB2 := Lib.hid hob2
          clear hob2
          go_upto_region 11 with fail
          go_cut [72] from 64 to 72 (fun s46 wx => wx = wr ∧ s46 = .bool (decide (i < N ∧ i < 300)))
          case first => as_aux_lemma =>
            by_cases g1 : i < N
            · have q2 : decide ((i : Int) < (N : Int)) = true := by simp; omega
              by_cases g2 : i < 300
              · have q3 : decide ((i : Int) < 300) = true := by simp; omega
                go_wp2_with fail
                go_meet
                exact ⟨rfl, by simp [g1, g2]⟩
              · have q3 : decide ((i : Int) < 300) = false := by simp; omega
                go_wp2_with fail
                go_meet
                exact ⟨rfl, by simp [g1, g2]⟩
            · have q2 : decide ((i : Int) < (N : Int)) = false := by simp; omega
              go_wp2_with fail
              go_meet
              exact ⟨rfl, by simp [g1]⟩
          case rest =>
            obtain ⟨hwx, rfl⟩ := hcut
            obtain rfl : wr = _ := hwx.symm
            by_cases hgo : i < N ∧ i < 300
            · have q2 : decide (i < N ∧ i < 300) = true := decide_eq_true hgo
              rw [q2]
              have hiC : i < o.needs.length := by rw [HNN.out]; exact hgo.1
              obtain ⟨g, oo, hno, hg, a1, a2⟩ := (HO.out _ HC.out).needs.cell i hiC
              have hsz := (HO.out _ HC.out).needs.sz _ (List.getElem_mem hiC)
              rw [hno] at k4
              have l0 : (0 : Int) ≤ i := by omega
              have l1 : (i : Int) < N := by have := hgo.1; omega
              generalize o.needs[i] = y at *
              obtain ⟨x, xt⟩ := y
              simp only at a1 a2 hsz
              have hcl := HAL.out.com_len HFT.out x
              have SA := fun (t : Nat) m => seen_any (HS.out _ (HC.out.trans (Chg.drewN' wr m))) hsz ((HAL.out.cr x).imp (fun h => Nat.le_of_lt h)) (by have := HBB.out; omega) t
              have SB := fun (t : Nat) m => rseenq_any (HX.out _ (HC.out.trans (Chg.drewN' wr m))) x t (by
                rw [← HAL.out.seen, seen_count _ _ (HAL.out.cr x)]
                have := List.length_filter_le (fun y => decide (y ≤ t)) (n.com x)
                have := HBB.out
                omega)
              have SB2 := fun (t : Nat) m => (by have := SB t m; rw [← HAL.out.seen x t] at this; exact this : Calls Tryz.prog 67 #[.pointer (some ⟨bx, 0, none⟩), .string x, .int .u64 (t : Nat)] (wr.drewN m) fun e w' => e = .returned (.int .i64 (seenM (n.com x) t : Nat)) ∧ w' = wr.drewN m)
              have e0 : wr.cell? ⟨bx, 0, none⟩ = some (.int .u64 (r.time : Nat)) := cell_of (HX.out _ HC.out).box rfl
              have w2 := wrap_two o.st
              generalize (o.st + 2) % 18446744073709551616 = T2 at *
              have SA := Lib.hid SA
              have SB := Lib.hid SB2
              have S1 := Lib.hid (fun m => SA.out r.time m)
              have S2 := Lib.hid (fun m => SB.out r.time m)
              have S3 := Lib.hid (fun m => SA.out T2 m)
              have S4 := Lib.hid (fun m => SB.out T2 m)
              clear hno hg hsz hcl SB2 q2 hiC SA SB
              go_wp2_with fail
              go_quiet (first | (go_at_call 13; first | (with_reducible exact Calls.quiet_of_same (S1.out _)) | (with_reducible exact Calls.quiet_of_same (S3.out _))) | (go_at_call 67; first | (with_reducible exact Calls.quiet_of_same (S2.out _)) | (with_reducible exact Calls.quiet_of_same (S4.out _))))
              have HN1 := Lib.hid (HR.out.trans (Chg.drewN' wr nq))
              go_wp2_with fail
              go_roundw
              case rel => exact ⟨i + 1, by go_num, by have := hgo.1; omega, HN1⟩
              case measure => have := hgo.1; simp [intOf]; omega
            · have q2 : decide (i < N ∧ i < 300) = false := decide_eq_false hgo
              rw [q2]
              have TA := tablet_any (HS.out _ HC.out) HPS.out
              rw [HAL.out.t] at TA
              have TX := fun (u : World) (c : Chg (fun _ => False) wr u) => rtablet_any (HX.out _ (HC.out.trans c)) HFT.out.ts HFT.out.tp o.pred
              generalize (lk r.t o.pred).isSome = z at *
              generalize (lk r.t o.pred).getD .zero = T at *
              obtain ⟨tp, tg, tt, ta, tn⟩ := T
              unfold tbV at TA TX
              simp only at TA TX
              have TA := Lib.hid TA
              have TX := Lib.hid TX
              clear hgo q2 k2 k4
              go_wp2_with fail
              refine TA.out.mono ?_
              rintro e W5 ⟨rfl, c5⟩
              obtain ⟨W6, HW6⟩ : ∃ W, Hid (W5.alloc (.cells #[.string tp, .int .u32 (tg : Nat), .int .u32 (tt : Nat), .int .u64 (ta : Nat), .int .u64 (tn : Nat)] 41) = W) := ⟨_, Lib.hid rfl⟩
              obtain ⟨tb, HTB⟩ : ∃ k, Hid (W5.heap.size = k) := ⟨_, Lib.hid rfl⟩
              have C6 := Lib.hid (show Chg (fun _ => False) wr W6 by rw [← HW6.out]; exact c5.alloc _)
              have HB6 := Lib.hid (show W6.heap[tb]? = some (.cells #[.string tp, .int .u32 (tg : Nat), .int .u32 (tt : Nat), .int .u64 (ta : Nat), .int .u64 (tn : Nat)] 41) by rw [← HW6.out, ← HTB.out]; exact Go.heap_alloc_new _ _)
              have TX6 := Lib.hid (TX.out _ C6.out)
              have k5' : W6.cell? ⟨ob, 5, none⟩ = some (.string o.pred) := (World.cell?_of_block (a := ⟨ob, 5, none⟩) (C6.out.block ob (Array.getElem?_eq_some_iff.1 HOB2.out).1 (fun f => f))).trans k5
              clear c5 k5 TA TX
              go_upto_region 17 with fail
              rw [HW6.out, HTB.out]
              go_wp2_with fail
              refine TX6.out.mono ?_
              rintro e W7 ⟨rfl, c7⟩
              obtain ⟨W8, HW8⟩ : ∃ W, Hid (W7.alloc (.cells #[.string tp, .int .u32 (tg : Nat), .int .u32 (tt : Nat), .int .u64 (ta : Nat), .int .u64 (tn : Nat)] 41) = W) := ⟨_, Lib.hid rfl⟩
              obtain ⟨tc, HTC⟩ : ∃ k, Hid (W7.heap.size = k) := ⟨_, Lib.hid rfl⟩
              have hk8 : Chg (fun _ => False) W6 W8 := by rw [← HW8.out]; exact c7.alloc _
              have hb8 : W8.heap[tc]? = some (.cells #[.string tp, .int .u32 (tg : Nat), .int .u32 (tt : Nat), .int .u64 (ta : Nat), .int .u64 (tn : Nat)] 41) := by rw [← HW8.out, ← HTC.out]; exact Go.heap_alloc_new _ _
              have hb6 := (hk8.block tb (Array.getElem?_eq_some_iff.1 HB6.out).1 (fun f => f)).trans HB6.out
              have CZ := Lib.hid ((HC.out.trans C6.out).trans hk8)
              have x0 : W8.cell? ⟨tb, 0, none⟩ = some (.string tp) := cell_of hb6 rfl
              have x1 : W8.cell? ⟨tb, 1, none⟩ = some (.int .u32 (tg : Nat)) := cell_of hb6 rfl
              have x2 : W8.cell? ⟨tb, 2, none⟩ = some (.int .u32 (tt : Nat)) := cell_of hb6 rfl
              have x3 : W8.cell? ⟨tb, 3, none⟩ = some (.int .u64 (ta : Nat)) := cell_of hb6 rfl
              have x4 : W8.cell? ⟨tb, 4, none⟩ = some (.int .u64 (tn : Nat)) := cell_of hb6 rfl
              have y0 : W8.cell? ⟨tc, 0, none⟩ = some (.string tp) := cell_of hb8 rfl
              have y1 : W8.cell? ⟨tc, 1, none⟩ = some (.int .u32 (tg : Nat)) := cell_of hb8 rfl
              have y2 : W8.cell? ⟨tc, 2, none⟩ = some (.int .u32 (tt : Nat)) := cell_of hb8 rfl
              have y3 : W8.cell? ⟨tc, 3, none⟩ = some (.int .u64 (ta : Nat)) := cell_of hb8 rfl
              have y4 : W8.cell? ⟨tc, 4, none⟩ = some (.int .u64 (tn : Nat)) := cell_of hb8 rfl
              clear c7 hk8 hb6 hb8 k5' TX6
              go_upto_region 18 with fail
              rw [HW8.out, HTC.out]
              go_wp2_with fail
              go_ret
              exact ⟨rfl, CZ.out⟩
end
end Go.Proofs.YtgmmglmokkcgeaaGreat
