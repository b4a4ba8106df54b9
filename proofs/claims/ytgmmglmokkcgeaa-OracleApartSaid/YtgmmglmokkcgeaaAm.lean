/- OracleApart's walk. -/
import Derived.Test.YtgmmglmokkcgeaaAl
namespace Go.Proofs.Ytgmmglmokkcgeaa
open Go.RowKit Mk Go.Sort

set_option maxRecDepth 100000 in
set_option maxHeartbeats 8000000 in
theorem walkOracleApart {w0 : World} {so : Option Addr} {n cp : Nat} {L : List (OpM × OpL)} (h : OpsAt w0 so L) (hl : L.length = n) :
    Calls Try.prog 3 #[.slice so n cp] w0 fun e w' => e = .returned (.bool true) ∧ Chg (fun _ => False) w0 w' := by
  have HO0 := Lib.hid h
  have HL := Lib.hid hl
  obtain ⟨ie, ze, hie, hze, hsze, hbye, hzse⟩ := info30
  obtain ⟨io, zo, hio, hzo, hszo, hbyo, hzso⟩ := info34
  clear h hl
  go_enter Try.func3, Try.ntmps3
  go_wp2_with fail
  refine (lives_any w0).mono ?_
  rintro e w1 ⟨rfl, hc⟩
  have HC1 := Lib.hid hc
  clear hc
  go_wp2_with fail
  refine (small_any (HO0.out.stay HC1.out) HL.out).mono ?_
  rintro e w ⟨z, rfl, hz, hc⟩
  have HZ := Lib.hid hz
  have HC := Lib.hid (HC1.out.trans hc)
  have HO := Lib.hid (HO0.out.stay HC.out)
  clear hc hz HO0 HC1
  cases z with
  | false =>
    go_wp2
    go_ret
    exact ⟨rfl, HC.out⟩
  | true =>
    have hn100 : n ≤ 100 := HZ.out rfl
    clear HZ
    go_wp2_with fail
    refine (new_any w).mono ?_
    rintro e w2 ⟨b, rfl, hi, hc⟩
    have HA0 := Lib.hid (show ApAt w L b 0 (.slice none 0 0) (.slice none 0 0) .new [] _ w2 from
      { chg := hc, is := hi.tight, fb := fun g f => f, inv := .new, lim := lim_new, mem := by simp, done := sl_nil _ _ _, at_ := sl_nil _ _ _, dn := by simp [Value.ownBlock], an := by simp [Value.ownBlock], apart := by intro d hd; simp at hd, up := by simp, cnt := Nat.le_refl _ })
    clear hi hc
    go_wp2
    go_loopw [4, 5, 6] (fun dv av i wr => ∃ (j : Nat) (m : OM) (E : List ((OpM × OpL) × Nat)) (F : Nat → Prop), i = .int .i64 j ∧ j ≤ n ∧ Hid (ApAt w L b j dv av m E F wr)) (fun _ _ i _ => n - (intOf i).toNat)
    case atStart => exact ⟨0, _, _, _, rfl, by omega, HA0⟩
    case round =>
      clear HA0
      obtain ⟨j, m, E, F, rfl, hj, HA⟩ := hrel
      generalize wr = W1 at *
      obtain ⟨dlo, dlc, rfl⟩ := sl_shape HA.out.done
      obtain ⟨alo, alc, rfl⟩ := sl_shape HA.out.at_
      by_cases hlt : j < n
      · have hd : decide ((j : Int) < n) = true := decide_eq_true (by omega)
        have hjL : j < L.length := by rw [HL.out]; exact hlt
        obtain ⟨g, o, rfl, hg, hc⟩ := HO.out.cell j hjL
        have HP := Lib.hid (List.getElem_mem hjL)
        obtain ⟨p, hp⟩ : ∃ p, L[j] = p := ⟨_, rfl⟩
        rw [hp] at hc HP
        have HCL := Lib.hid hc
        have HG := Lib.hid hg
        have l1 : (j : Int) < n := by omega
        have l0 : (0 : Int) ≤ j := by omega
        have CC := Lib.hid (fun (W : World) (c : Chg (fun _ => False) w W) (k : Nat) (v : Value) (hv : (opC p.1 p.2)[k]? = some v) => (World.cell?_of_block (a := ⟨g, o + j * 9 + k, none⟩) (c.block g hg (fun f => f))).trans (hc k v hv))
        clear hc hp hg
        obtain ⟨kI, hkI⟩ : ∃ kI : Int, (p.1.k : Int) = kI := ⟨_, rfl⟩
        have HK := Lib.hid hkI
        have c0 : W1.cell? ⟨g, o + j * 9 + 0, none⟩ = some (.int .u8 kI) := by rw [← hkI]; exact CC.out W1 HA.out.chg 0 _ rfl
        rw [Nat.add_zero] at c0
        clear hkI
        by_cases h9 : kI = 9
        · have d9 : (kI == 9) = true := beq_iff_eq.2 h9
          have HS := Lib.hid HA.out.skip
          go_wp2
          go_round
          case rel => exact ⟨j + 1, _, _, _, by go_num, by omega, HS⟩
          case measure => simp [intOf]; omega
        · have d9 : (kI == 9) = false := beq_eq_false_iff_ne.2 h9
          have TA : Hid (Calls Try.prog 9 #[.pointer (some ⟨b, 0, none⟩)] W1 fun e w' => e = .returned (.int .u64 (m.time : Nat)) ∧ w' = W1) := by
            obtain ⟨R, hR⟩ := HA.out.is
            exact Lib.hid (time_any hR)
          have c1 := CC.out W1 HA.out.chg 1 _ rfl
          have c2 := CC.out W1 HA.out.chg 2 _ rfl
          have c3 := CC.out W1 HA.out.chg 3 _ rfl
          have c4 := CC.out W1 HA.out.chg 4 _ rfl
          have c5 := CC.out W1 HA.out.chg 5 _ rfl
          have c6 := CC.out W1 HA.out.chg 6 _ rfl
          have c7 := CC.out W1 HA.out.chg 7 _ rfl
          have c8 := CC.out W1 HA.out.chg 8 _ rfl
          have AP := Lib.hid (HA.out.apply HO.out HP.out (by omega) (fun e => h9 (by rw [← HK.out, e]; rfl)))
          unfold opC at AP
          rw [HK.out] at AP
          have PL := Lib.hid (fun hk hc ht => HA.out.plain (p := p) hk hc ht)
          go_wp2_with fail
          refine TA.out.mono ?_
          rintro e w3 ⟨rfl, rfl⟩
          go_wp2_with fail
          -- APPLY
          refine AP.out.mono ?_
          rintro e w4 ⟨rfl, F', hA⟩
          obtain ⟨A, hAA⟩ : ∃ A, (applyM m p.1).2 = A := ⟨_, rfl⟩
          obtain ⟨m', hmm⟩ : ∃ m', (applyM m p.1).1 = m' := ⟨_, rfl⟩
          rw [hAA]
          rw [hAA, hmm] at PL
          rw [hmm] at hA
          obtain ⟨W5, HW5⟩ : ∃ W5, Hid (w4.alloc (.cells #[.int .i64 (A.code : Nat), .int .u64 (A.first : Nat), .int .u64 (A.commit : Nat), .string A.tb.p, .int .u32 (A.tb.g : Nat), .int .u32 (A.tb.«to» : Nat), .int .u64 (A.tb.at_ : Nat), .int .u64 (A.tb.tn : Nat)] 40) = W5) := ⟨_, Lib.hid rfl⟩
          obtain ⟨kb, HKB⟩ : ∃ kb, Hid (w4.heap.size = kb) := ⟨_, Lib.hid rfl⟩
          have HKC := Lib.hid (show W5.heap[kb]? = some (.cells (anC A) 40) by rw [← HW5.out, ← HKB.out]; exact Go.heap_alloc_new _ _)
          have HA5 := Lib.hid (show ApAt w L b (j + 1) (.slice dlo E.length dlc) (.slice alo E.length alc) m' E F' W5 by rw [← HW5.out]; exact hA.same ((Chg.refl _ _).alloc _))
          have q0 : w4.cell? ⟨g, o + j * 9, none⟩ = some (.int .u8 kI) := by have := CC.out w4 hA.chg 0 _ rfl; rw [Nat.add_zero] at this; rw [this]; show some (Value.int .u8 (p.1.k : Nat)) = _; rw [HK.out]
          have hgw : g < w4.heap.size := Nat.lt_of_lt_of_le HG.out hA.chg.size
          have hE : E.length ≤ 200 := by have := HA5.out.cnt; omega
          have HEJ := Lib.hid HA.out.cnt
          clear hA hAA hmm AP TA c0 c1 c2 c3 c4 c5 c6 c7 c8 HA
          by_cases h3 : kI = 3
          · have d3 : (kI != 3) = false := by simp [h3]
            by_cases hc0 : A.code = 0
            · have d4 : ((A.code : Int) != 0) = false := by simp [hc0]
              have HC0 := Lib.hid hc0
              have H3 := Lib.hid h3
              clear hc0 h3
              by_cases hcm : A.commit ≤ m.time
              · have d5 : decide ((A.commit : Int) ≤ m.time) = true := decide_eq_true (by omega)
                go_wp2
                rw [HW5.out]
                go_round
                case rel => exact ⟨j + 1, _, _, _, by go_num, by omega, HA5⟩
                case measure => simp [intOf]; omega
              · have d5 : decide ((A.commit : Int) ≤ m.time) = false := decide_eq_false (by omega)
                obtain ⟨PL1', PL2', PL3'⟩ := PL.out (by have := HK.out; have := H3.out; omega) HC0.out (by omega)
                have PL1 := Lib.hid PL1'
                have PL2 := Lib.hid PL2'
                have PL3 := Lib.hid PL3'
                clear PL1' PL2' PL3' PL
                go_wp2
                rw [HW5.out, HKB.out]
                clear q0 hgw
                go_loopw [9] (fun i wq => ∃ k : Nat, i = .int .i64 k ∧ k ≤ E.length ∧ Hid (Chg (fun _ => False) W5 wq)) (fun i _ => E.length - (intOf i).toNat)
                case atStart => exact ⟨0, rfl, by omega, Lib.hid (Chg.refl _ _)⟩
                case round =>
                  obtain ⟨k, rfl, hk, HQ⟩ := hrel
                  generalize wr = W6 at *
                  have HAQ := Lib.hid (HA5.out.same HQ.out)
                  by_cases hkl : k < E.length
                  · have dk : decide ((k : Int) < E.length) = true := decide_eq_true (by omega)
                    obtain ⟨e, he⟩ : ∃ e, E[k]? = some e := ⟨_, List.getElem?_eq_getElem hkl⟩
                    have hem := List.mem_of_getElem? he
                    have heD : (E.map (·.1))[k]? = some e.1 := by rw [List.getElem?_map, he]; rfl
                    obtain ⟨dg, dcap, ed, a0⟩ := HAQ.out.done.cell (doneV_get heD (c := 3) (by omega) (v := .slice e.1.2.ko e.1.1.keys.length e.1.2.kc) rfl)
                    simp only [Value.slice.injEq] at ed
                    obtain ⟨rfl, -, rfl⟩ := ed
                    obtain ⟨ag, x, rfl, hag, b0, hx⟩ := num_cell HAQ.out.at_ hkl
                    have hxe : x = e.2 := by rw [List.getElem?_map, he] at hx; exact (Option.some.inj hx).symm
                    have a1 : W6.cell? ⟨g, o + j * 9 + 3, none⟩ = some (.slice p.2.ko p.1.keys.length p.2.kc) := CC.out W6 HAQ.out.chg 3 _ rfl
                    obtain ⟨sI, hsI⟩ : ∃ sI : Int, (p.1.st : Int) = sI := ⟨_, rfl⟩
                    obtain ⟨xI, hxI⟩ : ∃ xI : Int, (x : Int) = xI := ⟨_, rfl⟩
                    have a2 : W6.cell? ⟨g, o + j * 9 + 2, none⟩ = some (.int .u64 sI) := by rw [← hsI]; exact CC.out W6 HAQ.out.chg 2 _ rfl
                    rw [hxI] at b0
                    have HSI := Lib.hid hsI
                    have HXI := Lib.hid hxI
                    clear hsI hxI
                    have KE := Lib.hid ((HO.out.stay HAQ.out.chg).ops _ (HAQ.out.mem e hem)).1.keys
                    have KP := Lib.hid ((HO.out.stay HAQ.out.chg).ops _ HP.out).1.keys
                    have CL := Lib.hid (PL1.out e hem)
                    obtain ⟨Z, hZ⟩ : ∃ Z, clashM e.1.1.keys p.1.keys = Z := ⟨_, rfl⟩
                    rw [hZ] at CL
                    have I1 : ∀ (d : Nat) (os : Array Obj), Calls Try.prog 11 #[.slice e.1.2.ko e.1.1.keys.length e.1.2.kc, .slice p.2.ko p.1.keys.length p.2.kc] (grow (redrawn W6 d) os) fun e' w'' => e' = .returned (.bool Z) ∧ ∃ q : Regrown, w'' = grow (redrawn W6 q.d) q.os := fun d os => Calls.regrown_of ((clash_any (KE.out.same (chg_of_below (below_regrown W6 d os))) (KP.out.same (chg_of_below (below_regrown W6 d os))) rfl rfl).mono fun e' w' hh => ⟨by rw [hh.1, hZ], below_of_chg hh.2⟩)
                    have g0 := fun p os => cell_regrown a0 p os
                    have g1 := fun p os => cell_regrown a1 p os
                    have g2 := fun p os => cell_regrown a2 p os
                    have g3 := fun p os => cell_regrown b0 p os
                    have l2 : (k : Int) < E.length := by omega
                    have l3 : (0 : Int) ≤ k := by omega
                    have HXE := Lib.hid hxe
                    clear hZ hx he heD hem hxe
                    cases Z with
                    | true =>
                      have d6 : decide (sI < xI) = false := decide_eq_false (by have := CL.out rfl; have := HXE.out; have := HSI.out; have := HXI.out; omega)
                      go_wp2_with fail
                      refine wp_region_quiet_below (by kernel_rfl) (by kernel_rfl) ?_
                      repeat (go_big_quiet_step (with_reducible exact I1 _ _))
                      refine wpQuiet_nil ?_
                      intro _ hw'
                      obtain ⟨⟨dq, osq⟩, hw''⟩ := hw'
                      subst hw''
                      have HQ2 := Lib.hid (HQ.out.trans (chg_of_below (below_regrown W6 dq osq)))
                      go_wp2
                      go_round
                      case rel => exact ⟨k + 1, by go_num, by omega, HQ2⟩
                      case measure => simp [intOf]; omega
                    | false =>
                      go_wp2_with fail
                      refine wp_region_quiet_below (by kernel_rfl) (by kernel_rfl) ?_
                      repeat (go_big_quiet_step (with_reducible exact I1 _ _))
                      refine wpQuiet_nil ?_
                      intro _ hw'
                      obtain ⟨⟨dq, osq⟩, hw''⟩ := hw'
                      subst hw''
                      have HQ2 := Lib.hid (HQ.out.trans (chg_of_below (below_regrown W6 dq osq)))
                      go_wp2
                      go_round
                      case rel => exact ⟨k + 1, by go_num, by omega, HQ2⟩
                      case measure => simp [intOf]; omega
                  · have dk : decide ((k : Int) < E.length) = false := decide_eq_false (by omega)
                    have e0 : W6.cell? ⟨g, o + j * 9, none⟩ = some (.int .u8 kI) := by have := CC.out W6 HAQ.out.chg 0 _ rfl; rw [Nat.add_zero] at this; rw [this]; show some (Value.int .u8 (p.1.k : Nat)) = _; rw [HK.out]
                    have e1 : W6.cell? ⟨g, o + j * 9 + 1, none⟩ = some (.int .u32 (p.1.n : Nat)) := CC.out W6 HAQ.out.chg 1 _ rfl
                    have e2 : W6.cell? ⟨g, o + j * 9 + 2, none⟩ = some (.int .u64 (p.1.st : Nat)) := CC.out W6 HAQ.out.chg 2 _ rfl
                    have e3 : W6.cell? ⟨g, o + j * 9 + 3, none⟩ = some (.slice p.2.ko p.1.keys.length p.2.kc) := CC.out W6 HAQ.out.chg 3 _ rfl
                    have e4 : W6.cell? ⟨g, o + j * 9 + 4, none⟩ = some (.slice p.2.no p.1.needs.length p.2.nc) := CC.out W6 HAQ.out.chg 4 _ rfl
                    have e5 : W6.cell? ⟨g, o + j * 9 + 5, none⟩ = some (.string p.1.pred) := CC.out W6 HAQ.out.chg 5 _ rfl
                    have e6 : W6.cell? ⟨g, o + j * 9 + 6, none⟩ = some (.int .u32 (p.1.g : Nat)) := CC.out W6 HAQ.out.chg 6 _ rfl
                    have e7 : W6.cell? ⟨g, o + j * 9 + 7, none⟩ = some (.int .u32 (p.1.to : Nat)) := CC.out W6 HAQ.out.chg 7 _ rfl
                    have e8 : W6.cell? ⟨g, o + j * 9 + 8, none⟩ = some (.int .u64 (p.1.at_ : Nat)) := CC.out W6 HAQ.out.chg 8 _ rfl
                    have HN1 := Lib.hid (cell_new_row (Go.heap_alloc_new W6 (.cells #[.int .u8 kI, .int .u32 (p.1.n : Nat), .int .u64 (p.1.st : Nat), .slice p.2.ko p.1.keys.length p.2.kc, .slice p.2.no p.1.needs.length p.2.nc, .string p.1.pred, .int .u32 (p.1.g : Nat), .int .u32 (p.1.to : Nat), .int .u64 (p.1.at_ : Nat)] 34)))
                    have HS1 := Lib.hid (HAQ.out.done.stay (w' := W6.alloc (.cells #[.int .u8 kI, .int .u32 (p.1.n : Nat), .int .u64 (p.1.st : Nat), .slice p.2.ko p.1.keys.length p.2.kc, .slice p.2.no p.1.needs.length p.2.nc, .string p.1.pred, .int .u32 (p.1.g : Nat), .int .u32 (p.1.to : Nat), .int .u64 (p.1.at_ : Nat)] 34)) (fun g hg => Below.heap_alloc _ _ _ (HAQ.out.done.lt hg)))
                    have HKQ := Lib.hid ((HQ.out.block kb (Array.getElem?_eq_some_iff.1 HKC.out).1 (fun f => f)).trans HKC.out)
                    have H1 := Lib.hid (show ∀ u ∈ [Value.int .u8 kI, .int .u32 (p.1.n : Nat), .int .u64 (p.1.st : Nat), .slice p.2.ko p.1.keys.length p.2.kc, .slice p.2.no p.1.needs.length p.2.nc, .string p.1.pred, .int .u32 (p.1.g : Nat), .int .u32 (p.1.to : Nat), .int .u64 (p.1.at_ : Nat)], u.oneCell' = true from by intro u hu; simp at hu; rcases hu with rfl | rfl | rfl | rfl | rfl | rfl | rfl | rfl | rfl <;> rfl)
                    go_wp2_with (first | (refine wpList_append_sl (by rfl) _ _ 22 (by rfl) 34 io zo 9 96 Try.underlying22 hio hzo hszo hbyo hzso (by decide) (.slice dlo E.length dlc) E.length (doneV (E.map (·.1))) (by rfl) HS1.out (some ⟨W6.heap.size, 0, none⟩) 1 1 _ (by rfl) (by rfl) (fun _ => ⟨_, rfl, HN1.out⟩) (fun h => absurd h (by decide)) H1.out (by simp only [maxLen]; omega) (by omega) ?_; intro v1 w7 hsl hgrow hat; obtain ⟨lo1, lc1, rfl⟩ := sl_shape hsl; have HSL := Lib.hid hsl; have HGR := Lib.hid hgrow; have HAT := Lib.hid hat; have HMID := Lib.hid (HAQ.out.mid ((Chg.refl _ _).alloc _) hgrow HKQ.out); have f2 : w7.cell? ⟨kb, 2, none⟩ = some (.int .u64 (A.commit : Nat)) := cell_of HMID.out.1 rfl; have HN2 := Lib.hid (cell_new_one (Go.heap_alloc_new w7 (.cells #[.int .u64 (A.commit : Nat)] 30))); have HS2 := Lib.hid (HMID.out.2.stay (w' := w7.alloc (.cells #[.int .u64 (A.commit : Nat)] 30)) (fun g hg => Below.heap_alloc _ _ _ (HMID.out.2.lt hg))); clear hsl hgrow hat e0 e1 e2 e3 e4 e5 e6 e7 e8) | (refine wpList_append_sl (by rfl) _ _ 27 (by rfl) 30 ie ze 1 8 Try.underlying27 hie hze hsze hbye hzse (by decide) (.slice alo E.length alc) E.length (timesV (E.map (·.2))) (by rfl) HS2.out (some ⟨w7.heap.size, 0, none⟩) 1 1 [.int .u64 (A.commit : Nat)] (by rfl) (by rfl) (fun _ => ⟨_, rfl, HN2.out⟩) (fun h => absurd h (by decide)) (by simp [Value.oneCell']) (by simp only [maxLen]; omega) (by omega) ?_; intro v2 w8 hsl2 hgrow2 hat2; obtain ⟨lo2, lc2, rfl⟩ := sl_shape hsl2; have HA9 := Lib.hid (HAQ.out.add (p := p) (t := A.commit) HP.out ((Chg.refl _ _).alloc _) (by have := HSL.out; rw [← HK.out] at this; exact this) HGR.out HAT.out ((Chg.refl _ _).alloc _) hsl2 hgrow2 hat2 PL2.out PL3.out (by have := HEJ.out; omega)); clear hsl2 hgrow2 hat2))
                    go_round
                    case rel => exact ⟨j + 1, m', E ++ [(p, A.commit)], F', by go_num, by omega, HA9⟩
                    case measure => simp [intOf]; omega
            · have d4 : ((A.code : Int) != 0) = true := by simp; omega
              go_wp2
              rw [HW5.out]
              go_round
              case rel => exact ⟨j + 1, _, _, _, by go_num, by omega, HA5⟩
              case measure => simp [intOf]; omega
          · have d3 : (kI != 3) = true := by simp [h3]
            go_wp2
            rw [HW5.out]
            go_round
            case rel => exact ⟨j + 1, _, _, _, by go_num, by omega, HA5⟩
            case measure => simp [intOf]; omega
      · have hd : decide ((j : Int) < n) = false := decide_eq_false (by omega)
        have RI := Lib.hid (rising_any HA.out.at_ (by have := HA.out.cnt; omega) HA.out.up)
        have CNT := Lib.hid (show E.length ≤ 200 by have := HA.out.cnt; omega)
        go_wp2_with fail
        refine RI.out.mono ?_
        rintro e w3 ⟨v, rfl, hr⟩
        have HR := Lib.hid hr
        clear hr
        obtain ⟨lo, lc, rfl⟩ := sl_shape HR.out.row
        have SN := Lib.hid (same_numbers (HA.out.at_.stay (w' := w3) (fun g e => HR.out.chg.block g (HA.out.at_.lt e) (fun f => f))) (xs := E.map (·.2)) (by have := HR.out.row; rwa [List.take_of_length_le (by simp)] at this) CNT.out)
        go_wp2_with fail
        refine SN.out.mono ?_
        rintro e w5 ⟨rfl, hc⟩
        have HCC := Lib.hid (HC.out.trans ((HA.out.chg.trans HR.out.chg).trans hc))
        clear hc
        go_wp2
        go_ret
        exact ⟨rfl, HCC.out⟩
end Go.Proofs.Ytgmmglmokkcgeaa
