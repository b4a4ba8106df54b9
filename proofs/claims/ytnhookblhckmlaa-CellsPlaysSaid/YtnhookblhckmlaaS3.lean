/- Walks: CellsPlays. -/
import Derived.Test.YtnhookblhckmlaaS2
import Derived.Deep.RegionHeld3
namespace Go.Proofs.Ytnhookblhckmlaa
set_option linter.unusedVariables false
set_option linter.unusedSimpArgs false
open Go.RowKit Mk Go.Sort

theorem run_neq_func {P : Program} (w : World) (t : TypeId) (f : Fn) (a b : Array Value) (h : ∃ x y z, P.underlying t = some (.func x y z)) : (binOp .neq t (.func f a b) .nilFunc).run P w = .ok (.bool true) w := by
  obtain ⟨x, y, z, h⟩ := h
  have h1 : ∀ d, (Op.equalIn (d + 1) t (.func f a b) .nilFunc).run P w = .ok false w := fun d => by simp [Op.equalIn, run_underlying h]
  simp only [binOp]
  simp [show Op.equal t (.func f a b) .nilFunc = Op.equalIn (9999 + 1) t (.func f a b) .nilFunc from rfl, h1 9999]
theorem putM_le {M P : List CellM} {k : Nat} (h : M.length ≤ 40 * k) (hp : P.length ≤ 40) : (putM M P).length ≤ 40 * (k + 1) := by
  have := putM_len M P; omega

set_option maxRecDepth 100000 in
set_option maxHeartbeats 8000000 in
theorem walkCellsPlays {w : World} {so : Option Addr} {cap : Nat} {S : List StepM} (h : StepsAt w so S) :
    Calls Try.prog 5 #[.slice so S.length cap] w fun e w' => e = .returned (.bool true) ∧ RowKit.Below w.heap.size w w' := by
  have AL := Lib.hid alive_any
  have q9 := fun w f a b => run_eql_func (P := Try.prog) w 46 f a b func46
  have q8 := fun w f a b => run_neq_func (P := Try.prog) w 46 f a b func46
  have HS := Lib.hid h
  obtain ⟨W1, HW1⟩ : ∃ W, Hid (w.alloc (.cells #[.slice none 0 0, .bool true] 65) = W) := ⟨_, Lib.hid rfl⟩
  have hb1 : RowKit.Below w.heap.size w W1 := by rw [← HW1.out]; exact (Below.refl _ w).alloc (Nat.le_refl _) _
  have hcs1 : CS w.heap.size (fun g => (Value.slice none 0 0).ownBlock = some g) w.heap.size [] W1 := by rw [← HW1.out]; exact CS.new _ w (Nat.le_refl _) _ (fun _ f => by simp [Value.ownBlock] at f)
  have N := new_any w
  rw [HW1.out] at N
  have HP1 := Lib.hid (PlayAt.mk (xv := .slice none 0 0) hcs1 (sl_nil _ _ _) hb1)
  have hm : S.length ≤ 9223372036854775807 := by have := h.1; simp only [maxLen] at this; omega
  clear hb1 hcs1 h
  go_enter Try.func5, Try.ntmps5
  go_wp2_with fail
  refine N.mono ?_
  rintro e w' ⟨rfl, rfl⟩
  clear N HW1
  go_wp2_with fail
  refine (AL.out _).mono ?_
  rintro e w2 ⟨rfl, hb⟩
  have HP2 := Lib.hid (HP1.out.stay hb)
  clear hb HP1
  go_wp2
  go_loopw [4, 5] (fun xv i wr => ∃ (k : Nat) (M : List CellM) (o : Option Addr) (c : Nat), k ≤ S.length ∧ k ≤ 60 ∧ i = .int .i64 k ∧ xv = .slice o M.length c ∧ M.length ≤ 40 * k ∧ Hid (PlayAt w (.slice o M.length c) M wr)) (fun _ i _ => S.length - (intOf i).toNat)
  case atStart => exact ⟨0, [], none, 0, by omega, by omega, rfl, rfl, by simp, HP2⟩
  case round =>
    obtain ⟨k, M, xo, xc, hk, hk60, rfl, rfl, hM, HP⟩ := hrel
    clear HP2
    have l0 : (0 : Int) ≤ k := by omega
    by_cases hlt : k < S.length
    · by_cases h60 : k < 60
      · obtain ⟨s, hs⟩ : ∃ s, S[k]? = some s := ⟨S[k]'hlt, List.getElem?_eq_getElem hlt⟩
        obtain ⟨hat, g, o, e, hg, hc⟩ := (HS.out.below HP.out.below).2 k s hs
        subst e
        have HAT0 := Lib.hid ((HS.out.2 k s hs).1)
        have hm2 := hat.1
        simp only [maxLen] at hm2
        obtain ⟨d, so1, cap1, P, fr, ti, t⟩ := s
        have HAT : Hid (At w so1 P) := HAT0
        simp only at hm2
        clear HAT0
        have h0 : wr.cell? ⟨g, o + k * 5, none⟩ = some (.int .i64 d) := by simpa using hc 0 _ rfl
        have h1 : wr.cell? ⟨g, o + k * 5 + 1, none⟩ = some (.slice so1 P.length cap1) := hc 1 _ rfl
        have h2 : wr.cell? ⟨g, o + k * 5 + 2, none⟩ = some (.string fr) := hc 2 _ rfl
        have h3 : wr.cell? ⟨g, o + k * 5 + 3, none⟩ = some (.string ti) := hc 3 _ rfl
        have h4 : wr.cell? ⟨g, o + k * 5 + 4, none⟩ = some (.int .u64 t) := hc 4 _ rfl
        have l1 : (k : Int) < S.length := by omega
        have l2 : (k : Int) < 60 := by omega
        have q1 : decide (k < S.length) = true := by simpa using hlt
        have q2 : decide (k < 60) = true := by simpa using h60
        have q3 : decide ((k : Int) < 60) = true := by simpa using l2
        obtain ⟨W2, HW2⟩ : ∃ W, Hid (wr.alloc (.cells #[.int .i64 d, .slice so1 P.length cap1, .string fr, .string ti, .int .u64 t] 40) = W) := ⟨_, Lib.hid rfl⟩
        have HM2 := Lib.hid (show MidPlay w ⟨d, so1, cap1, P, fr, ti, t⟩ wr.heap.size (.slice xo M.length xc) M M W2 from by rw [← HW2.out]; exact MidPlay.of HP.out)
        clear hc hs hat HP
        by_cases hP : 40 < P.length
        · have q4 : decide ((40 : Int) < P.length) = true := by simp; omega
          have q5 : decide (40 < P.length) = true := by simpa using hP
          have HF := Lib.hid HM2.out.fin
          clear HM2
          go_wp2
          rw [HW2.out]
          go_round
          case rel => exact ⟨k + 1, M, xo, xc, by omega, by omega, by go_num, rfl, by omega, HF⟩
          case measure => simp [intOf]; omega
        have q4 : decide ((40 : Int) < P.length) = false := by simp; omega
        have q5 : decide (40 < P.length) = false := by simpa using hP
        by_cases d0 : d = 0
        · subst d0
          have PUT := Lib.hid (HM2.out.put HAT.out (by omega) cap1)
          have hl : (putM M P).length ≤ 40 * (k + 1) := putM_le hM (by omega)
          clear HM2
          go_wp2_with fail
          rw [HW2.out]
          generalize hbx : wr.heap.size = bx at *
          refine PUT.out.mono ?_
          rintro e w3 ⟨rfl, hm3⟩
          have HM3 := Lib.hid hm3
          clear hm3 PUT HW2

          have b1 : w3.cell? ⟨bx, 1, none⟩ = some (.slice so1 P.length cap1) := cell_of HM3.out.box rfl
          have b2 : w3.cell? ⟨bx, 2, none⟩ = some (.string fr) := cell_of HM3.out.box rfl
          have b3 : w3.cell? ⟨bx, 3, none⟩ = some (.string ti) := cell_of HM3.out.box rfl
          have b4 : w3.cell? ⟨bx, 4, none⟩ = some (.int .u64 t) := cell_of HM3.out.box rfl

          have RPUT := Lib.hid (HM3.out.rput HAT.out (by omega) cap1)
          have hbl := HM3.out.lt
          generalize (putR P 0).1 = r1 at *
          generalize (putR P 0).2 = r2 at *
          clear HM3
          go_wp2_with fail
          refine RPUT.out.mono ?_
          rintro e w4 ⟨o4, c4, rfl, hm4⟩
          have HF := Lib.hid hm4.fin
          clear hm4 RPUT b1 b2 b3 b4

          go_wp2_with fail
          refine (PlayAt.len HF.out).mono ?_
          rintro e wy ⟨rfl, rfl⟩
          go_wp2
          go_round
          case rel => exact ⟨k + 1, putM M P, o4, c4, by omega, by omega, by go_num, rfl, by omega, HF⟩
          case measure => simp [intOf]; omega
        by_cases d1 : d = 1
        · subst d1
          have RTRIM := Lib.hid (HM2.out.rtrim (by omega) t)
          have hl := trimM_len M t
          clear HM2
          go_wp2_with fail
          rw [HW2.out]
          generalize hbx : wr.heap.size = bx at *
          refine RTRIM.out.mono ?_
          rintro e w3 ⟨o3, c3, rfl, hm3⟩
          have HM3 := Lib.hid hm3
          clear hm3 RTRIM HW2

          have b1 : w3.cell? ⟨bx, 1, none⟩ = some (.slice so1 P.length cap1) := cell_of HM3.out.box rfl
          have b2 : w3.cell? ⟨bx, 2, none⟩ = some (.string fr) := cell_of HM3.out.box rfl
          have b3 : w3.cell? ⟨bx, 3, none⟩ = some (.string ti) := cell_of HM3.out.box rfl
          have b4 : w3.cell? ⟨bx, 4, none⟩ = some (.int .u64 t) := cell_of HM3.out.box rfl

          have TRIM := Lib.hid (HM3.out.trim (by omega) t)
          have hbl := HM3.out.lt
          clear HM3
          go_wp2_with fail
          refine TRIM.out.mono ?_
          rintro e w4 ⟨rfl, hm4⟩
          have HF := Lib.hid hm4.fin
          clear hm4 TRIM b1 b2 b3 b4

          go_wp2_with fail
          refine (PlayAt.len HF.out).mono ?_
          rintro e wy ⟨rfl, rfl⟩
          go_wp2
          go_round
          case rel => exact ⟨k + 1, trimM M t, o3, c3, by omega, by omega, by go_num, rfl, by omega, HF⟩
          case measure => simp [intOf]; omega
        by_cases d2 : d = 2
        · subst d2
          obtain ⟨yk, yt, yd, yv, yb, hy⟩ := seenV_form (getM M fr t)
          have HY := Lib.hid hy
          have GET := Lib.hid (HM2.out.get (by omega) fr t hy)
          clear HM2 hy
          go_wp2_with fail
          rw [HW2.out]
          generalize hbx : wr.heap.size = bx at *
          refine GET.out.mono ?_
          rintro e w3 ⟨rfl, hm3, -⟩
          obtain ⟨W4, HW4⟩ : ∃ W, Hid (w3.alloc (.cells #[.string yk, .int .u64 yt, .bool yd, .string yv] 24) = W) := ⟨_, Lib.hid rfl⟩
          have hb4 : RowKit.Below w3.heap.size w3 W4 := by rw [← HW4.out]; exact (Below.refl _ w3).alloc (Nat.le_refl _) _
          have hx4 : W4.heap[w3.heap.size]? = some (.cells #[.string yk, .int .u64 yt, .bool yd, .string yv] 24) := by rw [← HW4.out]; exact Go.heap_alloc_new _ _
          have HM4 := Lib.hid (hm3.stay hb4)
          have HX4 := Lib.hid hx4
          have HM3 := Lib.hid hm3
          clear hm3 GET HW2 hb4 hx4

          have b1 : w3.cell? ⟨bx, 1, none⟩ = some (.slice so1 P.length cap1) := cell_of HM3.out.box rfl
          have b2 : w3.cell? ⟨bx, 2, none⟩ = some (.string fr) := cell_of HM3.out.box rfl
          have b3 : w3.cell? ⟨bx, 3, none⟩ = some (.string ti) := cell_of HM3.out.box rfl
          have b4 : w3.cell? ⟨bx, 4, none⟩ = some (.int .u64 t) := cell_of HM3.out.box rfl

          have RGET := Lib.hid (HM4.out.rget fr t HY.out)
          have hbl := HM3.out.lt
          clear HM3
          go_wp2_with fail
          rw [HW4.out]
          generalize hA : w3.heap.size = A at *
          refine RGET.out.mono ?_
          rintro e w5 ⟨rfl, hm5, hb5⟩
          have hx5 := cell_alloc_keep HX4.out hb5
          have hA5 : A < w5.heap.size := (Array.getElem?_eq_some_iff.1 hx5).1
          have a0 : w5.cell? ⟨A, 0, none⟩ = some (.string yk) := cell_of hx5 rfl
          have a1 : w5.cell? ⟨A, 1, none⟩ = some (.int .u64 yt) := cell_of hx5 rfl
          have a2 : w5.cell? ⟨A, 2, none⟩ = some (.bool yd) := cell_of hx5 rfl
          have a3 : w5.cell? ⟨A, 3, none⟩ = some (.string yv) := cell_of hx5 rfl
          have e1 : (yk.toList == yk.toList) = true := by simp
          have e2 : (yv.toList == yv.toList) = true := by simp
          obtain ⟨W6, HW6⟩ : ∃ W, Hid (w5.alloc (.cells #[.string yk, .int .u64 yt, .bool yd, .string yv] 24) = W) := ⟨_, Lib.hid rfl⟩
          have HF := Lib.hid (show PlayAt w (.slice xo M.length xc) M W6 from by rw [← HW6.out]; exact (hm5.stay ((Below.refl _ w5).alloc (Nat.le_refl _) _)).fin)
          clear hm5 hb5 hx5 RGET HM4 HX4 HW4 HY b1 b2 b3 b4
          go_wp2_with fail
          rw [HW6.out]
          refine (PlayAt.len HF.out).mono ?_
          rintro e wy ⟨rfl, rfl⟩
          go_wp2
          go_round
          case rel => exact ⟨k + 1, M, xo, xc, by omega, by omega, by go_num, rfl, by omega, HF⟩
          case measure => simp [intOf]; omega
        by_cases d3 : d = 3
        · subst d3
          have SC := Lib.hid (fun (u : World) (hm : MidPlay w ⟨3, so1, cap1, P, fr, ti, t⟩ wr.heap.size (.slice xo M.length xc) M M u) => hm.cs.scans (by omega) fr ti t)
          have TK := Lib.hid (fun (u : World) (lb : Array Value) (ht : Tells u 40 lb (refGo fr ti t none M)) => ht.took (Or.inl rfl))
          have RS := Lib.hid (fun (u : World) (hm : MidPlay w ⟨3, so1, cap1, P, fr, ti, t⟩ wr.heap.size (.slice xo M.length xc) M M u) => (show Calls Try.prog 22 #[.slice xo M.length xc, .string fr, .string ti, .int .u64 t] u fun e w' => ∃ v, e = .returned v ∧ Has w' v (refGo fr ti t none M) ∧ RowKit.Below u.heap.size u w' from (rscan_any hm.x (by omega) fr ti t).mono (fun e w' h => by obtain ⟨v, h1, h2, h3, -⟩ := h; exact ⟨v, h1, h2, h3⟩)))
          have SM := Lib.hid (fun (u : World) (a b : Value) (ha : Has u a (refGo fr ti t none M)) (hb : Has u b (refGo fr ti t none M)) => same_eq ha hb (by have h1 := scanM_len fr ti t M; rw [scanM_ref HM2.out.cs.ord] at h1; omega))
          go_wp2_with fail
          rw [HW2.out]
          generalize hbx : wr.heap.size = bx at *
          clear HW2
          have HMc := Lib.hid (HM2.out.stay (Below.drew (Below.refl _ W2)))

          have b1' : W2.cell? ⟨bx, 1, none⟩ = some (.slice so1 P.length cap1) := cell_of HM2.out.box rfl
          have b2 : W2.cell? ⟨bx, 2, none⟩ = some (.string fr) := cell_of HM2.out.box rfl
          have b3 : W2.cell? ⟨bx, 3, none⟩ = some (.string ti) := cell_of HM2.out.box rfl
          have b4 : W2.cell? ⟨bx, 4, none⟩ = some (.int .u64 t) := cell_of HM2.out.box rfl

          have hbl := HM2.out.lt
          clear b1' HM2
          go_region_held3 (fun v => v.cell? ⟨bx, 2, none⟩ = some (.string fr) ∧ v.cell? ⟨bx, 3, none⟩ = some (.string ti) ∧ v.cell? ⟨bx, 4, none⟩ = some (.int .u64 t)) (first | go_keep | (go_split_ands; refine ⟨?_, ?_, ?_⟩ <;> assumption)) (first | (go_at_call 19; with_reducible refine (SC.out _ HMc.out).mono ?_; rintro e w3 ⟨lb, rfl, ht, hb⟩; have HMc := Lib.hid (HMc.out.stay hb); (try have HT := Lib.hid (HT.out.below hb)); (try have HK := Lib.hid (HK.out.stay hb)); (try have HR := Lib.hid (HR.out.stay hb)); have HT := Lib.hid ht; clear ht; have d2 : w3.cell? ⟨bx, 2, none⟩ = some (.string fr) := cell_of HMc.out.box rfl; have d3 : w3.cell? ⟨bx, 3, none⟩ = some (.string ti) := cell_of HMc.out.box rfl; have d4 : w3.cell? ⟨bx, 4, none⟩ = some (.int .u64 t) := cell_of HMc.out.box rfl; clear hb) | (go_at_call 21; with_reducible refine (TK.out _ _ HT.out).mono ?_; rintro e w3 ⟨vk, rfl, hk2, hb⟩; have HMc := Lib.hid (HMc.out.stay hb); (try have HT := Lib.hid (HT.out.below hb)); (try have HK := Lib.hid (HK.out.stay hb)); (try have HR := Lib.hid (HR.out.stay hb)); have HK := Lib.hid hk2; clear hk2; have d2 : w3.cell? ⟨bx, 2, none⟩ = some (.string fr) := cell_of HMc.out.box rfl; have d3 : w3.cell? ⟨bx, 3, none⟩ = some (.string ti) := cell_of HMc.out.box rfl; have d4 : w3.cell? ⟨bx, 4, none⟩ = some (.int .u64 t) := cell_of HMc.out.box rfl; clear hb) | (go_at_call 20; with_reducible refine (SM.out _ _ _ HK.out HR.out).mono ?_; rintro e w3 ⟨rfl, hb⟩; have HMc := Lib.hid (HMc.out.stay hb); (try have HT := Lib.hid (HT.out.below hb)); (try have HK := Lib.hid (HK.out.stay hb)); (try have HR := Lib.hid (HR.out.stay hb)); have d2 : w3.cell? ⟨bx, 2, none⟩ = some (.string fr) := cell_of HMc.out.box rfl; have d3 : w3.cell? ⟨bx, 3, none⟩ = some (.string ti) := cell_of HMc.out.box rfl; have d4 : w3.cell? ⟨bx, 4, none⟩ = some (.int .u64 t) := cell_of HMc.out.box rfl; clear hb) | (go_at_call 22; with_reducible refine (RS.out _ HMc.out).mono ?_; rintro e w3 ⟨vr, rfl, hr, hb⟩; have HMc := Lib.hid (HMc.out.stay hb); (try have HT := Lib.hid (HT.out.below hb)); (try have HK := Lib.hid (HK.out.stay hb)); (try have HR := Lib.hid (HR.out.stay hb)); have HR := Lib.hid hr; clear hr; have d2 : w3.cell? ⟨bx, 2, none⟩ = some (.string fr) := cell_of HMc.out.box rfl; have d3 : w3.cell? ⟨bx, 3, none⟩ = some (.string ti) := cell_of HMc.out.box rfl; have d4 : w3.cell? ⟨bx, 4, none⟩ = some (.int .u64 t) := cell_of HMc.out.box rfl; clear hb))
          all_goals
            have HF := Lib.hid HMc.out.fin
            go_wp2_with fail
            refine (PlayAt.len HF.out).mono ?_
            rintro e wy ⟨rfl, rfl⟩
            go_wp2
            go_round
            case rel => exact ⟨k + 1, M, xo, xc, by omega, by omega, by go_num, rfl, by omega, HF⟩
            case measure => simp [intOf]; omega
        have z0 : (d == 0) = false := by simpa using d0
        have z1 : (d == 1) = false := by simpa using d1
        have z2 : (d == 2) = false := by simpa using d2
        have z3 : (d == 3) = false := by simpa using d3
        go_wp2_with fail
        rw [HW2.out]
        generalize hbx : wr.heap.size = bx at *
        clear HW2

        refine (HM2.out.cs.tells (by omega)).mono ?_
        rintro e w3 ⟨lb3, rfl, -, hb3⟩
        have HM3 := Lib.hid (HM2.out.stay hb3)
        clear hb3 HM2
        go_wp2_with fail
        refine (HM3.out.cs.tells (by omega)).mono ?_
        rintro e w4 ⟨lb4, rfl, ht, hb4⟩
        have HT := Lib.hid ht
        have HM4 := Lib.hid (HM3.out.stay hb4)
        clear ht hb4 HM3
        go_wp2_with fail
        refine (HT.out.took (Or.inr rfl)).mono ?_
        rintro e w5 ⟨v, rfl, hh, hb5⟩
        have HH := Lib.hid hh
        have HM5 := Lib.hid (HM4.out.stay hb5)
        clear hh hb5 HM4 HT
        go_wp2_with fail
        refine (same_eq HH.out HM5.out.x (by omega)).mono ?_
        rintro e w6 ⟨rfl, hb6⟩

        have HF := Lib.hid (HM5.out.stay hb6).fin
        clear hb6 HM5 HH

        go_wp2_with fail
        refine (PlayAt.len HF.out).mono ?_
        rintro e wy ⟨rfl, rfl⟩
        go_wp2
        go_round
        case rel => exact ⟨k + 1, M, xo, xc, by omega, by omega, by go_num, rfl, by omega, HF⟩
        case measure => simp [intOf]; omega
      · have q1 : decide (k < S.length) = true := by simpa using hlt
        have q2 : decide (k < 60) = false := by simpa using h60
        have q3 : decide ((k : Int) < 60) = false := by simp; omega
        have l1 : (k : Int) < S.length := by omega
        have l2 : ¬ (k : Int) < 60 := by omega
        go_wp2_with fail
        refine (HP.out.cs.tells (by omega)).mono ?_
        rintro e w3 ⟨lb3, rfl, -, hb3⟩
        have HM3 := Lib.hid (HP.out.stay hb3)
        clear hb3
        go_wp2_with fail
        refine (HM3.out.cs.tells (by omega)).mono ?_
        rintro e w4 ⟨lb4, rfl, ht, hb4⟩
        have HT := Lib.hid ht
        have HM4 := Lib.hid (HM3.out.stay hb4)
        clear ht hb4 HM3
        go_wp2_with fail
        refine (HT.out.took (Or.inr rfl)).mono ?_
        rintro e w5 ⟨v, rfl, hh, hb5⟩
        have HH := Lib.hid hh
        have HM5 := Lib.hid (HM4.out.stay hb5)
        clear hh hb5 HM4 HT
        go_wp2_with fail
        refine (same_eq HH.out HM5.out.x (by omega)).mono ?_
        rintro e w6 ⟨rfl, hb6⟩

        have HF := Lib.hid (HM5.out.stay hb6).below
        clear hb6 HM5 HH
        go_wp2
        go_ret
        exact ⟨rfl, HF.out⟩
    · have q1 : decide (k < S.length) = false := by simpa using hlt
      go_wp2_with fail
      refine (HP.out.cs.tells (by omega)).mono ?_
      rintro e w3 ⟨lb3, rfl, -, hb3⟩
      have HM3 := Lib.hid (HP.out.stay hb3)
      clear hb3
      go_wp2_with fail
      refine (HM3.out.cs.tells (by omega)).mono ?_
      rintro e w4 ⟨lb4, rfl, ht, hb4⟩
      have HT := Lib.hid ht
      have HM4 := Lib.hid (HM3.out.stay hb4)
      clear ht hb4 HM3
      go_wp2_with fail
      refine (HT.out.took (Or.inr rfl)).mono ?_
      rintro e w5 ⟨v, rfl, hh, hb5⟩
      have HH := Lib.hid hh
      have HM5 := Lib.hid (HM4.out.stay hb5)
      clear hh hb5 HM4 HT
      go_wp2_with fail
      refine (same_eq HH.out HM5.out.x (by omega)).mono ?_
      rintro e w6 ⟨rfl, hb6⟩

      have HF := Lib.hid (HM5.out.stay hb6).below
      clear hb6 HM5 HH
      go_wp2
      go_ret
      exact ⟨rfl, HF.out⟩
end Go.Proofs.Ytnhookblhckmlaa
