/- Walks: the document's Apply. -/
import Derived.Test.YtcaemfogknaioaaQ5
namespace Go.Proofs.Ytcaemfogknaioaa
set_option linter.unusedVariables false
set_option linter.unusedSimpArgs false
open Go.RowKit Mk Go.Sort

theorem layF_at (c : Nat) (x : Last) (C : List (Nat × Last)) {j : Nat} (hj : j < C.length) (O : List (Nat × Last)) (d : Bool) : layF c x O d (C.drop j) = layF c x ((if !d && decide (c ≤ C[j].1) then O ++ [(c, x)] else O) ++ (if C[j].1 ≠ c then [C[j]] else [])) (d || decide (c ≤ C[j].1)) (C.drop (j + 1)) := by
  rw [List.drop_eq_getElem_cons hj]
  rfl
theorem len_bounds {o j N : Nat} (h1 : o ≤ j + 1) (h2 : j ≤ N) (h3 : N ≤ 1000000) : o + 1 ≤ maxLen ∧ (o + 1) * 32 ≤ 140737488355328 ∧ o + 1 + 1 ≤ maxLen ∧ (o + 1 + 1) * 32 ≤ 140737488355328 := by
  simp only [maxLen]
  omega
section
variable {w : World} {b : Nat} {v : Value} {m : LoopM}
set_option maxRecDepth 100000 in
set_option maxHeartbeats 16000000 in
theorem rapply_any (h : Rf w b v m) (hri : risesR 0 m.clients) (idx tm kd : Nat) (data : ByteArray) (mo : Option Addr) (ml mc : Nat) (hi : idx < 18446744073709551616) (hd : data.size ≤ 1073741824) (hS : m.state.size + data.size ≤ 1099511627776) (hL : m.clients.length ≤ 1000000) :
    Calls Try.prog 25 #[.pointer (some ⟨b, 0, none⟩), .int .u64 idx, .agg #[.int .u64 tm, .int .u8 kd, .string data, .slice mo ml mc]] w fun e w' => e = .returned (.tuple #[.string (rapplyM m idx kd data).2.1, .int .i64 ((rapplyM m idx kd data).2.2 : Nat)]) ∧ (∃ v', Rf w' b v' (rapplyM m idx kd data).1 ∧ ∀ g, v'.ownBlock = some g → v.ownBlock = some g ∨ w.heap.size ≤ g) ∧ Chg (fun g => g = b) w w' := by
  have hlt : b < w.heap.size := (Array.getElem?_eq_some_iff.1 h.box).1
  obtain ⟨W0, HW0⟩ : ∃ W, Hid (w.alloc (.cells #[.int .u64 tm, .int .u8 kd, .string data, .slice mo ml mc] 45) = W) := ⟨_, Lib.hid rfl⟩
  have k0 : Chg (fun _ => False) w W0 := by rw [← HW0.out]; exact (Chg.refl _ _).alloc _
  have hb0 : W0.heap[w.heap.size]? = some (.cells #[.int .u64 tm, .int .u8 kd, .string data, .slice mo ml mc] 45) := by rw [← HW0.out]; exact Go.heap_alloc_new _ _
  have h0 := Rf.same h k0
  have c1 : W0.cell? ⟨b, 1, none⟩ = some (.int .u64 (m.index : Nat)) := cell_of h0.box rfl
  obtain ⟨nx, HX⟩ : ∃ nx, Hid ((m.index + 1) % 18446744073709551616 = nx) := ⟨_, Lib.hid rfl⟩
  have hw1 : IntKind.u64.wrap ((m.index : Int) + 1) = nx := by rw [← HX.out]; simp only [IntKind.wrap, IntKind.bits, IntKind.signed]; simp
  have K0 := Lib.hid k0
  have H0 := Lib.hid h0
  by_cases hix : idx ≠ nx
  · have ea : rapplyM m idx kd data = (m, ⟨#[]⟩, 2) := by unfold rapplyM; rw [HX.out, if_pos hix]
    rw [ea]
    have q1 : ((idx : Int) != nx) = true := by rw [bne_iff_ne]; omega
    clear ea hix h h0 k0 hb0
    go_enter Try.func25, Try.ntmps25
    go_upto_region 1 with fail
    rw [HW0.out]
    go_wp2_with fail
    go_ret2
    exact ⟨rfl, ⟨v, H0.out, fun g e => Or.inl e⟩, K0.out.mono (fun _ f => f.elim)⟩
  have q1 : ((idx : Int) != nx) = false := by
    have e : idx = nx := Decidable.not_not.1 hix
    rw [e]; simp
  obtain ⟨f1, h1⟩ := Rf.index h0 idx hi
  have hb1 : (W0.setCell ⟨b, 1, none⟩ (.int .u64 (idx : Nat))).heap[w.heap.size]? = some (.cells #[.int .u64 tm, .int .u8 kd, .string data, .slice mo ml mc] 45) := (Below.heap_setCell _ _ _ _ (fun e => by have e' : w.heap.size = b := e; omega)).trans hb0
  have K1 := Lib.hid ((k0.mono (G := fun g => g = b) (fun _ f => f.elim)).setCell (a := ⟨b, 1, none⟩) (Or.inl rfl) (.int .u64 (idx : Nat)))
  obtain ⟨kb, HKB⟩ : ∃ k, Hid (w.heap.size = k) := ⟨_, Lib.hid rfl⟩
  obtain ⟨W1, HW1⟩ : ∃ W, Hid (W0.setCell ⟨b, 1, none⟩ (.int .u64 (idx : Nat)) = W) := ⟨_, Lib.hid rfl⟩
  rw [HW1.out] at h1 hb1 K1
  rw [HKB.out] at hb1
  have z1 : W1.cell? ⟨kb, 1, none⟩ = some (.int .u8 kd) := cell_of hb1 rfl
  have z2 : W1.cell? ⟨kb, 2, none⟩ = some (.string data) := cell_of hb1 rfl
  have H1 := Lib.hid h1
  have HI := Lib.hid (show rapplyM m idx kd data = if kd ≠ 0 then (atM m idx, ⟨#[]⟩, 0) else rcmdM (atM m idx) data from by unfold rapplyM; rw [HX.out, if_neg hix])
  clear hix h h0 k0 hb0 h1 hb1
  by_cases hk : kd ≠ 0
  · have ea : rapplyM m idx kd data = (atM m idx, ⟨#[]⟩, 0) := by rw [HI.out, if_pos hk]
    rw [ea]
    have q2 : ((kd : Int) != 0) = true := by rw [bne_iff_ne]; omega
    clear ea hk
    go_enter Try.func25, Try.ntmps25
    go_upto_region 1 with fail
    rw [HW0.out, HKB.out]
    go_upto_region 4 with fail
    rw [HW1.out]
    go_wp2_with fail
    go_ret2
    exact ⟨rfl, ⟨v, H1.out, fun g e => Or.inl e⟩, K1.out⟩
  have q2 : ((kd : Int) != 0) = false := by
    have e : kd = 0 := Decidable.not_not.1 hk
    rw [e]; simp
  rw [show rapplyM m idx kd data = rcmdM (atM m idx) data from by rw [HI.out, if_neg hk]]
  clear HI hk
  have RC := Lib.hid (rreadCommand_any data (by simp only [maxLen]; omega) W1)
  unfold rcmdV at RC
  have HRI := Lib.hid hri
  have HLL := Lib.hid hL
  have HSS := Lib.hid (And.intro hS hd)
  clear hri hL hS hd
  obtain ⟨RM, HRM⟩ : ∃ R, Hid (rcmdM (atM m idx) data = R) := ⟨_, Lib.hid rfl⟩
  rw [HRM.out]
  have hrm := HRM.out
  unfold rcmdM at hrm
  cases hr : Cod.rcmd data.data.toList with
  | none =>
    rw [hr] at RC hrm
    simp only at RC hrm
    subst hrm
    clear HRM hr
    go_enter Try.func25, Try.ntmps25
    go_upto_region 1 with fail
    rw [HW0.out, HKB.out]
    go_upto_region 4 with fail
    rw [HW1.out]
    go_wp2_with fail
    refine RC.out.mono ?_
    rintro e W2 ⟨rfl, hb⟩
    go_wp2_with fail
    go_ret2
    exact ⟨rfl, ⟨v, Rf.same H1.out (chg_of_below hb), fun g e => Or.inl e⟩, K1.out.trans (chg_of_below hb |>.mono (fun _ f => f.elim))⟩
  | some t =>
    obtain ⟨c, n, d⟩ := t
    rw [hr] at RC hrm
    simp only at RC hrm
    obtain ⟨bc, bn, bd⟩ := rcmd_bounds hr
    rw [len_list] at bd
    have HBC := Lib.hid bc
    have HBD := Lib.hid (show (str d).size ≤ data.size from bd)
    clear hr HRM bc bn bd
    generalize str d = D at *
    obtain ⟨Q, HQ⟩ : ∃ Q, Hid ((lk m.clients c).getD (0, ⟨#[]⟩) = Q) := ⟨_, Lib.hid rfl⟩
    obtain ⟨z, HZ⟩ : ∃ z, Hid ((lk m.clients c).isSome = z) := ⟨_, Lib.hid rfl⟩
    have LA := Lib.hid (fun (u : World) (hu : Rf u b v (atM m idx)) => rlast_any hu c HBC.out)
    rw [show (atM m idx).clients = m.clients from rfl, HQ.out, HZ.out] at LA
    rw [show (atM m idx).clients = m.clients from rfl] at hrm
    obtain ⟨q, a0⟩ := Q
    simp only at LA
    have hcase : (z = true ∧ n < q ∧ RM = (atM m idx, ⟨#[]⟩, 151)) ∨ (z = true ∧ n = q ∧ RM = (atM m idx, a0, 0)) ∨ ((z = true → q < n) ∧ RM = rdoM (atM m idx) c n D) := by
      have hq := HQ.out
      have hz := HZ.out
      cases hl : lk m.clients c with
      | none =>
        rw [hl] at hrm hz
        exact Or.inr (Or.inr ⟨fun e => (by rw [← hz] at e; cases e), hrm.symm⟩)
      | some t =>
        obtain ⟨q', a'⟩ := t
        rw [hl] at hrm hq hz
        simp only [Option.getD_some, Prod.mk.injEq] at hq
        obtain ⟨rfl, rfl⟩ := hq
        simp only at hrm
        by_cases e1 : n < q'
        · rw [if_pos e1] at hrm; exact Or.inl ⟨hz.symm, e1, hrm.symm⟩
        · rw [if_neg e1] at hrm
          by_cases e2 : n = q'
          · rw [if_pos e2] at hrm; exact Or.inr (Or.inl ⟨hz.symm, e2, hrm.symm⟩)
          · rw [if_neg e2] at hrm; exact Or.inr (Or.inr ⟨fun _ => by omega, hrm.symm⟩)
    clear HQ HZ hrm
    rcases hcase with ⟨rfl, hlt2, rfl⟩ | ⟨rfl, rfl, rfl⟩ | ⟨hzq, hRM⟩
    · have d1 : decide ((n : Int) < (q : Int)) = true := by simp; omega
      have d2 : decide (n < q) = true := by simp; omega
      go_enter Try.func25, Try.ntmps25
      go_upto_region 1 with fail
      rw [HW0.out, HKB.out]
      go_upto_region 4 with fail
      rw [HW1.out]
      go_wp2_with fail
      refine RC.out.mono ?_
      rintro e W2 ⟨rfl, hb⟩
      have H2 := Lib.hid (Rf.same H1.out (chg_of_below hb))
      have K2 := Lib.hid (K1.out.trans (chg_of_below hb |>.mono (fun _ f => f.elim)))
      go_wp2_with fail
      refine (LA.out _ H2.out).mono ?_
      rintro e W3 ⟨rfl, c3⟩
      go_wp2_with fail
      go_ret2
      exact ⟨rfl, ⟨v, Rf.same H2.out c3, fun g e => Or.inl e⟩, K2.out.trans (c3.mono (fun _ f => f.elim))⟩
    · have d1 : decide ((n : Int) < (n : Int)) = false := by simp
      have d2 : decide (n < n) = false := by simp
      have d3 : ((n : Int) == (n : Int)) = true := by simp
      go_enter Try.func25, Try.ntmps25
      go_upto_region 1 with fail
      rw [HW0.out, HKB.out]
      go_upto_region 4 with fail
      rw [HW1.out]
      go_wp2_with fail
      refine RC.out.mono ?_
      rintro e W2 ⟨rfl, hb⟩
      have H2 := Lib.hid (Rf.same H1.out (chg_of_below hb))
      have K2 := Lib.hid (K1.out.trans (chg_of_below hb |>.mono (fun _ f => f.elim)))
      go_wp2_with fail
      refine (LA.out _ H2.out).mono ?_
      rintro e W3 ⟨rfl, c3⟩
      go_wp2_with fail
      go_ret2
      exact ⟨rfl, ⟨v, Rf.same H2.out c3, fun g e => Or.inl e⟩, K2.out.trans (c3.mono (fun _ f => f.elim))⟩
    · have ST := Lib.hid (fun u => rstep_any m.state D (by have := HSS.out; omega) (by have := HSS.out; have := HBD.out; omega) u)
      have HLY := Lib.hid (fun x => (layF_eq c x m.clients [] 0 HRI.out).symm)
      have HRM := Lib.hid (show RM = (⟨(stepM m.state D).1, idx, layC c (n, (stepM m.state D).2) m.clients⟩, (stepM m.state D).2, 0) from hRM)
      clear hRM
      generalize stepM m.state D = SR at *
      obtain ⟨st, an⟩ := SR
      simp only at ST HRM
      have HRM2 := Lib.hid (show RM = (⟨st, idx, layF c (n, an) [] false m.clients⟩, an, 0) from by rw [HRM.out]; have := HLY.out (n, an); rw [List.nil_append] at this; rw [this])
      rw [HRM2.out]
      obtain ⟨R, HR⟩ : ∃ R, Hid (layF c (n, an) [] false m.clients = R) := ⟨_, Lib.hid rfl⟩
      rw [HR.out]
      clear HRM HRM2 HLY RM
      have d1 : z = true → decide ((n : Int) < (q : Int)) = false := fun e => by have := hzq e; simp; omega
      have d2 : z = true → decide (n < q) = false := fun e => by have := hzq e; simp; omega
      have d3 : z = true → ((n : Int) == (q : Int)) = false := fun e => by have := hzq e; simp; omega
      have d4 : z = true → decide (n = q) = false := fun e => by have := hzq e; simp; omega
      clear hzq
      obtain ⟨iz, zz, hi9, hz9, hsz9, hby9, hzs9⟩ := info86
      cases z
      all_goals
        simp only [forall_const, Bool.false_eq_true, false_implies] at d1 d2 d3 d4
        go_enter Try.func25, Try.ntmps25
        go_upto_region 1 with fail
        rw [HW0.out, HKB.out]
        go_upto_region 4 with fail
        rw [HW1.out]
        go_wp2_with fail
        refine RC.out.mono ?_
        rintro e W2 ⟨rfl, hb⟩
        have H2 := Lib.hid (Rf.same H1.out (chg_of_below hb))
        have K2 := Lib.hid (K1.out.trans (chg_of_below hb |>.mono (fun _ f => f.elim)))
        clear hb z1 z2 c1 f1
        go_wp2_with fail
        refine (LA.out _ H2.out).mono ?_
        rintro e W3 ⟨rfl, c3⟩
        have H3 := Lib.hid (Rf.same H2.out c3)
        have K3 := Lib.hid (K2.out.trans (c3.mono (fun _ f => f.elim)))
        have s0 : W3.cell? ⟨b, 0, none⟩ = some (.string m.state) := (Rf.state H3.out st).2.1
        clear c3 H2 K2
        go_wp2_with fail
        refine (ST.out _).mono ?_
        rintro e W4 ⟨rfl, hb4⟩
        have h4 := Rf.same H3.out (chg_of_below hb4)
        have K4 := K3.out.trans (chg_of_below hb4 |>.mono (fun _ f => f.elim))
        obtain ⟨g0, g1, h5⟩ := Rf.state h4 st
        have K5 := Lib.hid (K4.setCell (a := ⟨b, 0, none⟩) (Or.inl rfl) (.string st))
        have H5 := Lib.hid h5
        clear h4 K4 h5 hb4 s0 H3 K3
        obtain ⟨W5, HW5⟩ : ∃ W, Hid (W4.setCell ⟨b, 0, none⟩ (.string st) = W) := ⟨_, Lib.hid rfl⟩
        rw [HW5.out] at H5 K5
        go_upto_region 15 with fail
        rw [HW5.out]
        clear HW5 g0 g1 d1 d2 d3 d4 LA RC ST hw1 q1 q2 hlt hi
        have HO0 := Lib.hid (show OutAt W5 [] (.slice none 0 0) W5 from ⟨sl_nil _ _ _, fun g e => by simp [Value.ownBlock] at e, Chg.refl _ _⟩)
        obtain ⟨vo, vc, hvv⟩ := sl_shape H5.out.cl
        rw [hvv] at H5
        obtain ⟨N, hN⟩ : ∃ N, m.clients.length = N := ⟨_, rfl⟩
        have HNN := Lib.hid hN
        have HLN := Lib.hid (show N ≤ 1000000 from by rw [← hN]; exact HLL.out)
        clear hN
        go_wp2_with fail
        go_loopw [15, 16, 17] (fun s15 s16 s17 wr => ∃ (j : Nat) (O : List (Nat × Last)) (oo : Option Addr) (oc : Nat) (dn : Bool), s15 = .slice oo O.length oc ∧ s16 = .bool dn ∧ s17 = .int .i64 j ∧ j ≤ N ∧ O.length ≤ j + 1 ∧ Hid (dn = false → O.length ≤ j) ∧ Hid (layF c (n, an) O dn (m.clients.drop j) = R) ∧ Hid (OutAt W5 O (.slice oo O.length oc) wr)) (fun _ _ s17 _ => N - (intOf s17).toNat)
        case atStart => exact ⟨0, [], none, 0, false, rfl, rfl, rfl, Nat.zero_le _, by simp, Lib.hid (fun _ => by simp), HR, HO0⟩
        case round =>
          obtain ⟨j, O, oo, oc, dn, rfl, rfl, rfl, hj, hOl, hOd, HK, HO⟩ := hrel
          clear HO0
          have hr := Rf.same H5.out HO.out.chg
          have e2 : wr.cell? ⟨b, 2, none⟩ = some (.slice vo m.clients.length vc) := cell_of hr.box rfl
          rw [HNN.out] at e2
          have hln := HLN.out
          obtain ⟨bb1, bb2, bb3, bb4⟩ := len_bounds hOl hj hln
          have hlay := fun (hjC : j < m.clients.length) => layF_at c (n, an) m.clients hjC O dn
          by_cases hjn : j < N
          · have q3 : decide ((j : Int) < (N : Int)) = true := by simp; omega
            have hjC : j < m.clients.length := by rw [HNN.out]; exact hjn
            obtain ⟨g, cap, hv, y0, y1, y2⟩ := hr.client hjC
            have hstep := hlay hjC
            rw [HK.out] at hstep
            have hv2 : Value.slice vo m.clients.length vc = Value.slice (some ⟨g, 0, none⟩) m.clients.length cap := hv
            injection hv2 with hv1 hv3 hv4
            subst hv1 hv4
            have y0' : wr.cell? ⟨g, j * 3, none⟩ = some (.int .u64 (m.clients[j].1 : Nat)) := y0
            have y1' : wr.cell? ⟨g, j * 3 + 1, none⟩ = some (.int .u64 (m.clients[j].2.1 : Nat)) := y1
            have y2' : wr.cell? ⟨g, j * 3 + 2, none⟩ = some (.string m.clients[j].2.2) := y2
            have HOB := Lib.hid (show b < W5.heap.size ∧ g < W5.heap.size from ⟨(Array.getElem?_eq_some_iff.1 H5.out.box).1, sl.lt H5.out.cl rfl⟩)
            clear y0 y1 y2 hv hlay
            have HST := Lib.hid hstep
            clear hstep
            generalize m.clients[j] = p at *
            obtain ⟨pk, pq, pa⟩ := p
            simp only at y0' y1' y2'
            have l0 : (0 : Int) ≤ j := by omega
            have l1 : (j : Int) < N := by omega
            by_cases ek : pk = c
            · cases dn
              · have HNX := Lib.hid (show layF c (n, an) (O ++ [(c, (n, an))]) true (m.clients.drop (j + 1)) = R from by
                  rw [HST.out, if_pos (by simp; omega), if_neg (by simp; omega), List.append_nil, show (false || decide (c ≤ pk)) = true by simp; omega])
                have t1 : decide ((c : Int) ≤ (pk : Int)) = true := by simp; omega
                have t2 : decide (c ≤ pk) = true := by simp; omega
                have t3 : ((pk : Int) != (c : Int)) = false := by 
                  have e : pk = c := by omega
                  rw [e]; simp
                have HR1 := Lib.hid (HO.out.row (.cells #[.int .u64 (c : Nat), .int .u64 (n : Nat), .string an] 86))
                have HC1 := Lib.hid (cell_new_three (Go.heap_alloc_new wr (.cells #[.int .u64 (c : Nat), .int .u64 (n : Nat), .string an] 86)))
                clear HST
                have hOd2 := hOd.out rfl
                go_wp2_with (refine wpList_append_sl (by rfl) (.tmp 98) (.tmp 103) 61 (by rfl) 86 iz zz 3 32 Try.underlying61 hi9 hz9 hsz9 hby9 hzs9 (by decide) (.slice oo O.length oc) O.length (cliV O) (by rfl) HR1.out (some ⟨wr.heap.size, 0, none⟩) 1 1 [.int .u64 (c : Nat), .int .u64 (n : Nat), .string an] (by rfl) (by rfl) (fun _ => ⟨_, rfl, HC1.out⟩) (fun h => absurd h (by decide)) (by simp [Value.oneCell']) bb1 bb2 ?_; intro v1 w4 hs hg4 ha; obtain ⟨⟨o1, c1, hv1⟩, hna⟩ := HO.out.step hs hg4 ha; have HN1 := Lib.hid hna; clear hs hg4 ha hna; subst hv1; have x2 : w4.cell? ⟨b, 2, none⟩ = some (.slice (some ⟨g, 0, none⟩) N vc) := (World.cell?_of_block (a := ⟨b, 2, none⟩) ((HN1.out.chg.block b HOB.out.1 (fun f => f)).trans (HO.out.chg.block b HOB.out.1 (fun f => f)).symm)).trans e2; have x3 : w4.cell? ⟨g, j * 3, none⟩ = some (.int .u64 (pk : Nat)) := (World.cell?_of_block (a := ⟨g, j * 3, none⟩) ((HN1.out.chg.block g HOB.out.2 (fun f => f)).trans (HO.out.chg.block g HOB.out.2 (fun f => f)).symm)).trans y0'; have x4 : w4.cell? ⟨g, j * 3 + 1, none⟩ = some (.int .u64 (pq : Nat)) := (World.cell?_of_block (a := ⟨g, j * 3 + 1, none⟩) ((HN1.out.chg.block g HOB.out.2 (fun f => f)).trans (HO.out.chg.block g HOB.out.2 (fun f => f)).symm)).trans y1'; have x5 : w4.cell? ⟨g, j * 3 + 2, none⟩ = some (.string pa) := (World.cell?_of_block (a := ⟨g, j * 3 + 2, none⟩) ((HN1.out.chg.block g HOB.out.2 (fun f => f)).trans (HO.out.chg.block g HOB.out.2 (fun f => f)).symm)).trans y2')
                go_roundw
                case rel => exact ⟨j + 1, O ++ [(c, (n, an))], o1, c1, true, by simp, rfl, by go_num, by omega, by simp; omega, Lib.hid (by simp; try omega), HNX, by simpa using HN1⟩
                case measure => simp [intOf]; omega
              · have HNX := Lib.hid (show layF c (n, an) O true (m.clients.drop (j + 1)) = R from by
                  rw [HST.out, if_neg (by simp), if_neg (by simp; omega), List.append_nil, Bool.true_or])
                have t1 : decide ((c : Int) ≤ (pk : Int)) = true := by simp; omega
                have t2 : decide (c ≤ pk) = true := by simp; omega
                have t3 : ((pk : Int) != (c : Int)) = false := by 
                  have e : pk = c := by omega
                  rw [e]; simp
                clear HST
                go_wp2_with fail
                go_roundw
                case rel => exact ⟨j + 1, O, _, _, true, rfl, rfl, by go_num, by omega, by omega, Lib.hid (by simp), HNX, HO⟩
                case measure => simp [intOf]; omega
            · cases dn
              · by_cases eg : c ≤ pk
                · have HNX := Lib.hid (show layF c (n, an) (O ++ [(c, (n, an))] ++ [(pk, (pq, pa))]) true (m.clients.drop (j + 1)) = R from by
                    rw [HST.out, if_pos (by simp; omega), if_pos (by simpa using ek), show (false || decide (c ≤ pk)) = true by simp; omega])
                  have t1 : decide ((c : Int) ≤ (pk : Int)) = true := by simp; omega
                  have t2 : decide (c ≤ pk) = true := by simp; omega
                  have t3 : ((pk : Int) != (c : Int)) = true := by rw [bne_iff_ne]; omega
                  have HR1 := Lib.hid (HO.out.row (.cells #[.int .u64 (c : Nat), .int .u64 (n : Nat), .string an] 86))
                  have HC1 := Lib.hid (cell_new_three (Go.heap_alloc_new wr (.cells #[.int .u64 (c : Nat), .int .u64 (n : Nat), .string an] 86)))
                  clear HST
                  have hOd2 := hOd.out rfl
                  go_upto_region 22 with (refine wpList_append_sl (by rfl) (.tmp 98) (.tmp 103) 61 (by rfl) 86 iz zz 3 32 Try.underlying61 hi9 hz9 hsz9 hby9 hzs9 (by decide) (.slice oo O.length oc) O.length (cliV O) (by rfl) HR1.out (some ⟨wr.heap.size, 0, none⟩) 1 1 [.int .u64 (c : Nat), .int .u64 (n : Nat), .string an] (by rfl) (by rfl) (fun _ => ⟨_, rfl, HC1.out⟩) (fun h => absurd h (by decide)) (by simp [Value.oneCell']) bb1 bb2 ?_; intro v1 w4 hs hg4 ha; obtain ⟨⟨o1, c1, hv1⟩, hna⟩ := HO.out.step hs hg4 ha; have HN1 := Lib.hid hna; clear hs hg4 ha hna; subst hv1)
                  have x2 : w4.cell? ⟨b, 2, none⟩ = some (.slice (some ⟨g, 0, none⟩) N vc) := (World.cell?_of_block (a := ⟨b, 2, none⟩) ((HN1.out.chg.block b HOB.out.1 (fun f => f)).trans (HO.out.chg.block b HOB.out.1 (fun f => f)).symm)).trans e2
                  have x3 : w4.cell? ⟨g, j * 3, none⟩ = some (.int .u64 (pk : Nat)) := (World.cell?_of_block (a := ⟨g, j * 3, none⟩) ((HN1.out.chg.block g HOB.out.2 (fun f => f)).trans (HO.out.chg.block g HOB.out.2 (fun f => f)).symm)).trans y0'
                  have x4 : w4.cell? ⟨g, j * 3 + 1, none⟩ = some (.int .u64 (pq : Nat)) := (World.cell?_of_block (a := ⟨g, j * 3 + 1, none⟩) ((HN1.out.chg.block g HOB.out.2 (fun f => f)).trans (HO.out.chg.block g HOB.out.2 (fun f => f)).symm)).trans y1'
                  have x5 : w4.cell? ⟨g, j * 3 + 2, none⟩ = some (.string pa) := (World.cell?_of_block (a := ⟨g, j * 3 + 2, none⟩) ((HN1.out.chg.block g HOB.out.2 (fun f => f)).trans (HO.out.chg.block g HOB.out.2 (fun f => f)).symm)).trans y2'
                  have HN1' := Lib.hid (show OutAt W5 (O ++ [(c, (n, an))]) (.slice o1 (O ++ [(c, (n, an))]).length c1) w4 from by simpa using HN1.out)
                  have HR2 := Lib.hid (HN1'.out.row (.cells #[.int .u64 (pk : Nat), .int .u64 (pq : Nat), .string pa] 86))
                  have HC2 := Lib.hid (cell_new_three (Go.heap_alloc_new w4 (.cells #[.int .u64 (pk : Nat), .int .u64 (pq : Nat), .string pa] 86)))
                  rw [show O.length + 1 = (O ++ [(c, (n, an))]).length by simp] at bb3 bb4 ⊢
                  obtain ⟨O1, hO1⟩ : ∃ O1, Hid (O ++ [(c, (n, an))] = O1) := ⟨_, Lib.hid rfl⟩
                  have HLO := Lib.hid (show O1.length = O.length + 1 by rw [← hO1.out]; simp)
                  rw [hO1.out] at HNX HN1' HR2 bb3 bb4 ⊢
                  go_wp2_with (refine wpList_append_sl (by rfl) (.tmp 115) (.tmp 123) 61 (by rfl) 86 iz zz 3 32 Try.underlying61 hi9 hz9 hsz9 hby9 hzs9 (by decide) (.slice o1 O1.length c1) O1.length (cliV O1) (by rfl) HR2.out (some ⟨w4.heap.size, 0, none⟩) 1 1 [.int .u64 (pk : Nat), .int .u64 (pq : Nat), .string pa] (by rfl) (by rfl) (fun _ => ⟨_, rfl, HC2.out⟩) (fun h => absurd h (by decide)) (by simp [Value.oneCell']) bb3 bb4 ?_; intro v2 w6 hs hg4 ha; obtain ⟨⟨o2, c2, hv2⟩, hna⟩ := HN1'.out.step hs hg4 ha; have HN2 := Lib.hid hna; clear hs hg4 ha hna; subst hv2)
                  have hlo := HLO.out
                  go_roundw
                  case rel => exact ⟨j + 1, O1 ++ [(pk, (pq, pa))], o2, c2, true, by simp, rfl, by go_num, by omega, by simp; omega, Lib.hid (by simp), HNX, by simpa using HN2⟩
                  case measure => simp [intOf]; omega
                · have HNX := Lib.hid (show layF c (n, an) (O ++ [(pk, (pq, pa))]) false (m.clients.drop (j + 1)) = R from by
                    rw [HST.out, if_neg (by simp; omega), if_pos (by simpa using ek), show (false || decide (c ≤ pk)) = false by simp; omega])
                  have t1 : decide ((c : Int) ≤ (pk : Int)) = false := by simp; omega
                  have t2 : decide (c ≤ pk) = false := by simp; omega
                  have t3 : ((pk : Int) != (c : Int)) = true := by rw [bne_iff_ne]; omega
                  have HR2 := Lib.hid (HO.out.row (.cells #[.int .u64 (pk : Nat), .int .u64 (pq : Nat), .string pa] 86))
                  have HC2 := Lib.hid (cell_new_three (Go.heap_alloc_new wr (.cells #[.int .u64 (pk : Nat), .int .u64 (pq : Nat), .string pa] 86)))
                  clear HST
                  have hOd2 := hOd.out rfl
                  go_wp2_with (refine wpList_append_sl (by rfl) (.tmp 115) (.tmp 123) 61 (by rfl) 86 iz zz 3 32 Try.underlying61 hi9 hz9 hsz9 hby9 hzs9 (by decide) (.slice oo O.length oc) O.length (cliV O) (by rfl) HR2.out (some ⟨wr.heap.size, 0, none⟩) 1 1 [.int .u64 (pk : Nat), .int .u64 (pq : Nat), .string pa] (by rfl) (by rfl) (fun _ => ⟨_, rfl, HC2.out⟩) (fun h => absurd h (by decide)) (by simp [Value.oneCell']) bb1 bb2 ?_; intro v2 w6 hs hg4 ha; obtain ⟨⟨o2, c2, hv2⟩, hna⟩ := HO.out.step hs hg4 ha; have HN2 := Lib.hid hna; clear hs hg4 ha hna; subst hv2)
                  go_roundw
                  case rel => exact ⟨j + 1, O ++ [(pk, (pq, pa))], o2, c2, false, by simp, rfl, by go_num, by omega, by simp; omega, Lib.hid (by simp; try omega), HNX, by simpa using HN2⟩
                  case measure => simp [intOf]; omega
              · have HNX := Lib.hid (show layF c (n, an) (O ++ [(pk, (pq, pa))]) true (m.clients.drop (j + 1)) = R from by
                  rw [HST.out, if_neg (by simp), if_pos (by simpa using ek), Bool.true_or])
                have t3 : ((pk : Int) != (c : Int)) = true := by rw [bne_iff_ne]; omega
                have HR2 := Lib.hid (HO.out.row (.cells #[.int .u64 (pk : Nat), .int .u64 (pq : Nat), .string pa] 86))
                have HC2 := Lib.hid (cell_new_three (Go.heap_alloc_new wr (.cells #[.int .u64 (pk : Nat), .int .u64 (pq : Nat), .string pa] 86)))
                clear HST
                go_wp2_with (refine wpList_append_sl (by rfl) (.tmp 115) (.tmp 123) 61 (by rfl) 86 iz zz 3 32 Try.underlying61 hi9 hz9 hsz9 hby9 hzs9 (by decide) (.slice oo O.length oc) O.length (cliV O) (by rfl) HR2.out (some ⟨wr.heap.size, 0, none⟩) 1 1 [.int .u64 (pk : Nat), .int .u64 (pq : Nat), .string pa] (by rfl) (by rfl) (fun _ => ⟨_, rfl, HC2.out⟩) (fun h => absurd h (by decide)) (by simp [Value.oneCell']) bb1 bb2 ?_; intro v2 w6 hs hg4 ha; obtain ⟨⟨o2, c2, hv2⟩, hna⟩ := HO.out.step hs hg4 ha; have HN2 := Lib.hid hna; clear hs hg4 ha hna; subst hv2)
                go_roundw
                case rel => exact ⟨j + 1, O ++ [(pk, (pq, pa))], o2, c2, true, by simp, rfl, by go_num, by omega, by simp; omega, Lib.hid (by simp), HNX, by simpa using HN2⟩
                case measure => simp [intOf]; omega
          · have q3 : decide ((j : Int) < (N : Int)) = false := by simp; omega
            have hend := HK.out
            rw [List.drop_eq_nil_of_le (by rw [HNN.out]; omega)] at hend
            clear hlay
            cases dn
            · have HRR := Lib.hid (show R = O ++ [(c, (n, an))] from hend.symm)
              have HR1 := Lib.hid (HO.out.row (.cells #[.int .u64 (c : Nat), .int .u64 (n : Nat), .string an] 86))
              have HC1 := Lib.hid (cell_new_three (Go.heap_alloc_new wr (.cells #[.int .u64 (c : Nat), .int .u64 (n : Nat), .string an] 86)))
              clear hend hr HK
              go_wp2_with (refine wpList_append_sl (by rfl) (.tmp 127) (.tmp 132) 61 (by rfl) 86 iz zz 3 32 Try.underlying61 hi9 hz9 hsz9 hby9 hzs9 (by decide) (.slice oo O.length oc) O.length (cliV O) (by rfl) HR1.out (some ⟨wr.heap.size, 0, none⟩) 1 1 [.int .u64 (c : Nat), .int .u64 (n : Nat), .string an] (by rfl) (by rfl) (fun _ => ⟨_, rfl, HC1.out⟩) (fun h => absurd h (by decide)) (by simp [Value.oneCell']) bb1 bb2 ?_; intro v1 w4 hs hg4 ha; obtain ⟨⟨o1, c1, hv1⟩, hna⟩ := HO.out.step hs hg4 ha; have HN1 := Lib.hid hna; clear hs hg4 ha hna; subst hv1; obtain ⟨x1, x2, x3⟩ := Rf.clients H5.out HN1.out; have HX3 := Lib.hid x3; clear x3)
              have hox := HN1.out.own
              have KF := Lib.hid ((K5.out.trans (HN1.out.chg.mono (fun _ f => f.elim))).setCell (a := ⟨b, 2, none⟩) (Or.inl rfl) (.slice o1 (O.length + 1) c1))
              have HOX := Lib.hid (fun g (e : (Value.slice o1 (O.length + 1) c1).ownBlock = some g) => Nat.le_trans K5.out.size (hox g e))
              clear hox
              go_ret2
              refine ⟨rfl, ⟨_, ?_, fun g e => Or.inr (HOX.out g e)⟩, KF.out⟩
              rw [HRR.out]; exact HX3.out
            · have HRR := Lib.hid (show R = O from hend.symm)
              have hcl := Rf.clients H5.out HO.out
              obtain ⟨x1, x2, x3⟩ := hcl
              have HX3 := Lib.hid x3
              have hox := HO.out.own
              have KF := Lib.hid ((K5.out.trans (HO.out.chg.mono (fun _ f => f.elim))).setCell (a := ⟨b, 2, none⟩) (Or.inl rfl) (.slice oo O.length oc))
              have HOX := Lib.hid (fun g (e : (Value.slice oo O.length oc).ownBlock = some g) => Nat.le_trans K5.out.size (hox g e))
              clear x3 hox hend hr HK
              go_wp2_with fail
              go_ret2
              refine ⟨rfl, ⟨_, ?_, fun g e => Or.inr (HOX.out g e)⟩, KF.out⟩
              rw [HRR.out]; exact HX3.out
end
end Go.Proofs.Ytcaemfogknaioaa
