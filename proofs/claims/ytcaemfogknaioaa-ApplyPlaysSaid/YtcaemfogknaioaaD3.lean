/- Walks: Apply. -/
import Derived.Test.YtcaemfogknaioaaD2
namespace Go.Proofs.Ytcaemfogknaioaa
open Go.RowKit Mk Go.Sort

section
variable {w : World} {b : Nat} {F : Nat → Prop} {S : Nat} {m : LoopM}

/-- A call's end: the loop is so; nothing but its own blocks has turned. -/
structure To (w : World) (b : Nat) (F : Nat → Prop) (S : Nat) (m : LoopM) (w' : World) : Prop where
  is : LoopIs w' b F S m
  chg : Chg F w w'
theorem To.mk' {r : Nat} {w' : World} (h : LoopRep w' b r F S m) (c : Chg F w w') : To w b F S m w' := ⟨⟨r, h⟩, c⟩

theorem regrown_below {P : Program} {f : FuncId} {args : Array Value} {v : Value} (w : World)
    (h : ∀ w, Calls P f args w fun e w' => e = .returned v ∧ Below w.heap.size w w') :
    ∀ (d : Nat) (os : Array Obj), Calls P f args (grow (redrawn w d) os) fun e w'' => e = .returned v ∧ ∃ p : Regrown, w'' = grow (redrawn w p.d) p.os :=
  fun d os => Calls.regrown_of (h _)

set_option maxRecDepth 100000 in
set_option maxHeartbeats 4000000 in
theorem apply_any (h : LoopIs w b F S m) (idx tm kd : Nat) (data : ByteArray) (mo : Option Addr) (ml mc : Nat) (hi : idx < 18446744073709551616) (hd : data.size ≤ 1073741824) (hS : S + data.size ≤ 1099511627776) :
    Calls Try.prog 16 #[.pointer (some ⟨b, 0, none⟩), .int .u64 idx, .agg #[.int .u64 tm, .int .u8 kd, .string data, .slice mo ml mc]] w fun e w' => e = .returned (.tuple #[.string (applyM m idx kd data).2.1, .int .i64 (applyM m idx kd data).2.2]) ∧ To w b F (S + data.size) (applyM m idx kd data).1 w' := by
  obtain ⟨r, h⟩ := h
  have hS1 := h.size.2
  have hlt : b < w.heap.size := (Array.getElem?_eq_some_iff.1 h.loop).1
  obtain ⟨W0, HW0⟩ : ∃ W, Hid (w.alloc (.cells #[.int .u64 tm, .int .u8 kd, .string data, .slice mo ml mc] 45) = W) := ⟨_, Lib.hid rfl⟩
  have k0 : Chg (fun _ => False) w W0 := by rw [← HW0.out]; exact (Chg.refl _ _).alloc _
  have hb0 : W0.heap[w.heap.size]? = some (.cells #[.int .u64 tm, .int .u8 kd, .string data, .slice mo ml mc] 45) := by rw [← HW0.out]; exact Go.heap_alloc_new _ _
  have h0 := h.stay k0 (fun _ _ f => f)
  have A := Lib.hid (not_any h0)
  have c2 := h0.cells.2.2.1
  have f2 := h0.free 2
  obtain ⟨nx, HX⟩ : ∃ nx, Hid ((m.index + 1) % 18446744073709551616 = nx) := ⟨_, Lib.hid rfl⟩
  have hw1 : IntKind.u64.wrap ((m.index : Int) + 1) = nx := by rw [← HX.out]; simp only [IntKind.wrap, IntKind.bits, IntKind.signed]; simp
  have K0 := Lib.hid k0
  by_cases hix : idx ≠ nx
  · have ea : applyM m idx kd data = (m, ⟨#[]⟩, 2) := by unfold applyM; rw [HX.out, if_pos hix]
    rw [ea]
    have q1 : ((idx : Int) != nx) = true := by rw [bne_iff_ne]; omega
    have T := Lib.hid (To.mk' (h0.larger (S' := S + data.size) (by omega) hS) (k0.mono (G := F) (fun _ f => f.elim)))
    clear ea hix h h0 k0 hb0
    go_enter Try.func16, Try.ntmps16
    go_wp2_with fail
    rw [HW0.out]
    refine A.out.mono ?_
    rintro e w' ⟨rfl, rfl⟩
    go_wp2
    go_ret2
    exact ⟨rfl, T.out⟩
  · obtain rfl : idx = nx := by omega
    have q1 : ((idx : Int) != idx) = false := by simp
    have hgb : w.heap.size ≠ b := by omega
    have h1 := h0.index hi
    have k1 : Chg F w (W0.setCell ⟨b, 2, none⟩ (.int .u64 idx)) := (k0.mono (G := F) (fun _ f => f.elim)).setCell (Or.inl h.fb) _
    have hb1 : (W0.setCell ⟨b, 2, none⟩ (.int .u64 idx)).heap[w.heap.size]? = some (.cells #[.int .u64 tm, .int .u8 kd, .string data, .slice mo ml mc] 45) := by rw [Below.heap_setCell _ _ _ _ hgb]; exact hb0
    have g1 : W0.cell? ⟨w.heap.size, 1, none⟩ = some (.int .u8 kd) := cell_of hb0 (by simp)
    have g2 : W0.cell? ⟨w.heap.size, 2, none⟩ = some (.string data) := cell_of hb0 (by simp)
    have hix3 : ¬ idx ≠ (m.index + 1) % 18446744073709551616 := by rw [HX.out]; exact hix
    have HK1 := Lib.hid k1
    clear hb0 hb1
    by_cases hk : kd ≠ 0
    · have ea : applyM m idx kd data = (atM m idx, ⟨#[]⟩, 0) := by unfold applyM; rw [if_neg hix3, if_pos hk]
      rw [ea]
      have q2 : ((kd : Int) != 0) = true := by rw [bne_iff_ne]; omega
      have T := Lib.hid (To.mk' (h1.larger (S' := S + data.size) (by omega) hS) k1)
      clear ea hix hix3 h h0 h1 k1 k0
      go_enter Try.func16, Try.ntmps16
      go_wp2_with fail
      rw [HW0.out]
      refine A.out.mono ?_
      rintro e w' ⟨rfl, rfl⟩
      go_wp2
      go_ret2
      exact ⟨rfl, T.out⟩
    · have ea : applyM m idx kd data = cmdM (atM m idx) data := by unfold applyM; rw [if_neg hix3, if_neg hk]
      rw [ea]
      have q2 : ((kd : Int) != 0) = false := by
        have : kd = 0 := by omega
        rw [this]; rfl
      have RC := Lib.hid (fun w => readCommand_any data (by unfold maxLen; omega) w)
      have H1 := Lib.hid h1
      generalize hm1 : atM m idx = m1 at *
      have HSM := Lib.hid h1.size
      clear ea hix hix3 h h0 h1 k1 k0 hk hm1
      rcases hr : Cod.rcmd data.data.toList with _ | ⟨c, n, d⟩
      · have eV : rcmdV data.data.toList = .tuple #[.int .u64 0, .int .u64 0, .string ⟨#[]⟩, .int .i64 150] := by unfold rcmdV; rw [hr]
        have eM : cmdM m1 data = (m1, ⟨#[]⟩, 150) := by unfold cmdM; rw [hr]
        rw [eV] at RC
        rw [eM]
        obtain ⟨q, a, ha⟩ : ∃ q a, (lk m1.clients 0).getD (0, ⟨#[]⟩) = (q, a) := ⟨_, _, rfl⟩
        obtain ⟨is, his⟩ : ∃ is, (lk m1.clients 0).isSome = is := ⟨_, rfl⟩
        clear eV eM hr
        go_enter Try.func16, Try.ntmps16
        go_wp2_with fail
        rw [HW0.out]
        refine A.out.mono ?_
        rintro e w' ⟨rfl, rfl⟩
        go_wp2_with fail
        refine (RC.out _).mono ?_
        rintro e w3 ⟨rfl, b3⟩
        have h3 := H1.out.stay (chg_of_below b3) (fun _ _ f => f)
        have c33 := h3.cells.2.2.2
        have hl := h3.look (c := 0) (Nat.zero_lt_succ _)
        have k3 := HK1.out.trans' (chg_of_below b3) (fun _ f => f.elim)
        have B3 := Lib.hid h3
        have K3 := Lib.hid k3
        clear h3 k3 b3 RC c2 f2 g1 g2 hw1
        rw [ha, his] at hl
        unfold lastV at hl
        simp only [show ((0 : Nat) : Int) = 0 from rfl] at hl
        have T := Lib.hid (To.mk' ((B3.out.stay (w' := w3.alloc (.cells #[.int .u64 q, .string a] 82)) (G := fun _ => False) ((Chg.refl _ _).alloc _) (fun _ _ f => f)).larger (S' := S + data.size) (by omega) hS) (K3.out.alloc (.cells #[.int .u64 q, .string a] 82)))
        go_wp2
        go_ret2
        exact ⟨rfl, T.out⟩
      · obtain ⟨hc, hn, hdl⟩ := rcmd_bounds hr
        have eV : rcmdV data.data.toList = .tuple #[.int .u64 c, .int .u64 n, .string (str d), .int .i64 0] := by unfold rcmdV; rw [hr]
        rw [eV] at RC
        obtain ⟨D, hD⟩ : ∃ D, str d = D := ⟨_, rfl⟩
        have hDs : D.size ≤ data.size := by rw [← hD]; rw [len_list] at hdl; exact hdl
        rw [hD] at RC
        have HC := Lib.hid hc
        obtain ⟨st, an, hst⟩ : ∃ st an, stepM m1.state D = (st, an) := ⟨_, _, rfl⟩
        have hdo : doM m1 c n (str d) = (⟨st, m1.index, upd m1.clients c (n, an)⟩, an, 0) := by
          rw [hD]
          unfold doM
          have e1 : m1.state ++ D = st := congrArg Prod.fst hst
          have e2 : (stepM m1.state D).2 = an := congrArg Prod.snd hst
          rw [e1, e2]
        have hsS := Lib.hid (show st.size ≤ S + data.size by
          have e1 : m1.state ++ D = st := congrArg Prod.fst hst
          rw [← e1, ByteArray.size_append]
          have := HSM.out.1
          omega)
        have hms : m1.state.size ≤ 1099511627776 := by have := HSM.out; omega
        have hds : D.size ≤ 1099511627776 := by omega
        clear hc hn hdl eV hD hDs
        rcases hk : lk m1.clients c with _ | ⟨q, a⟩
        · have eM : cmdM m1 data = (⟨st, m1.index, upd m1.clients c (n, an)⟩, an, 0) := by unfold cmdM; rw [hr]; simp only [hk]; exact hdo
          rw [eM]
          clear eM hr hdo
          go_enter Try.func16, Try.ntmps16
          go_wp2_with fail
          rw [HW0.out]
          refine A.out.mono ?_
          rintro e w' ⟨rfl, rfl⟩
          go_wp2_with fail
          refine (RC.out _).mono ?_
          rintro e w3 ⟨rfl, b3⟩
          have h3 := H1.out.stay (chg_of_below b3) (fun _ _ f => f)
          have c33 := h3.cells.2.2.2
          have hl := h3.look (c := c) HC.out
          have k3 := HK1.out.trans' (chg_of_below b3) (fun _ f => f.elim)
          have B3 := Lib.hid h3
          have K3 := Lib.hid k3
          clear h3 k3 b3 RC c2 f2 g1 g2 hw1
          rw [hk] at hl
          unfold lastV at hl
          simp only [Option.getD_none, Option.isSome_none] at hl
          clear hk
          obtain ⟨W4, HW4⟩ : ∃ W, Hid (w3.alloc (.cells #[.int .u64 0, .string ⟨#[]⟩] 82) = W) := ⟨_, Lib.hid rfl⟩
          have B4 := Lib.hid (B3.out.stay (w' := W4) (G := fun _ => False) (by rw [← HW4.out]; exact (Chg.refl _ _).alloc _) (fun _ _ f => f))
          have K4 := Lib.hid (show Chg F w W4 by rw [← HW4.out]; exact K3.out.alloc _)
          have d0 := fun a os => cell_regrown B4.out.cells.1 a os
          have d1 := fun a os => cell_regrown B4.out.cells.2.1 a os
          have SC := regrown_below W4 (fun u => step_any m1.state D hms hds u)
          clear hms hds
          have HST := Lib.hid (show stepM m1.state D = (st, an) from hst)
          rw [HST.out] at SC
          simp only at SC
          go_wp2_with fail
          rw [HW4.out]
          refine wp_region_quiet_below (by kernel_rfl) (by kernel_rfl) ?_
          repeat (go_big_quiet_step (exact SC _ _))
          refine wpQuiet_nil ?_
          intro _ hw'
          obtain ⟨⟨dq, osq⟩, hw''⟩ := hw'
          subst hw''
          have k5 := chg_of_below (below_regrown W4 dq osq)
          clear d0 d1 SC c33 hl
          generalize grow (redrawn W4 dq) osq = w5 at *
          have h5 := B4.out.stay k5 (fun _ _ f => f)
          have f5 := h5.free 0
          have g50 := h5.cells.1
          have g53 := h5.cells.2.2.2
          have h6 := h5.state (s := st) (S' := S + data.size) hsS.out hS
          obtain ⟨o, hu, h7, c7⟩ := h6.store HC.out (n, an)
          unfold lastV at hu
          simp only at hu
          have T := Lib.hid (To.mk' h7 (((K4.out.trans' k5 (fun _ f => f.elim)).setCell (Or.inl B4.out.fb) _).trans c7))
          clear h5 h6 h7 c7 k5
          go_wp2
          go_ret2
          exact ⟨rfl, T.out⟩
        · by_cases hlt : n < q
          · have eM : cmdM m1 data = (m1, ⟨#[]⟩, 151) := by unfold cmdM; rw [hr]; simp only [hk]; rw [if_pos hlt]
            have q3 : decide ((n : Int) < q) = true := by simp; omega
            have q6 : decide (n < q) = true := by simp; omega
            rw [eM]
            clear eM hr hdo
            go_enter Try.func16, Try.ntmps16
            go_wp2_with fail
            rw [HW0.out]
            refine A.out.mono ?_
            rintro e w' ⟨rfl, rfl⟩
            go_wp2_with fail
            refine (RC.out _).mono ?_
            rintro e w3 ⟨rfl, b3⟩
            have h3 := H1.out.stay (chg_of_below b3) (fun _ _ f => f)
            have c33 := h3.cells.2.2.2
            have hl := h3.look (c := c) HC.out
            have k3 := HK1.out.trans' (chg_of_below b3) (fun _ f => f.elim)
            have B3 := Lib.hid h3
            have K3 := Lib.hid k3
            clear h3 k3 b3 RC c2 f2 g1 g2 hw1
            rw [hk] at hl
            unfold lastV at hl
            simp only [Option.getD_some, Option.isSome_some] at hl
            clear hk
            have T := Lib.hid (To.mk' ((B3.out.stay (w' := w3.alloc (.cells #[.int .u64 q, .string a] 82)) (G := fun _ => False) ((Chg.refl _ _).alloc _) (fun _ _ f => f)).larger (S' := S + data.size) (by omega) hS) (K3.out.alloc (.cells #[.int .u64 q, .string a] 82)))
            go_wp2
            go_ret2
            exact ⟨rfl, T.out⟩
          · have q3 : decide ((n : Int) < q) = false := by simp; omega
            have q6 : decide (n < q) = false := by simp; omega
            by_cases heq : n = q
            · have eM : cmdM m1 data = (m1, a, 0) := by unfold cmdM; rw [hr]; simp only [hk]; rw [if_neg hlt, if_pos heq]
              have q4 : ((n : Int) == q) = true := by rw [heq]; simp
              have q5 : decide ((n : Int) = q) = true := by rw [heq]; simp
              rw [eM]
              clear eM hr hdo
              go_enter Try.func16, Try.ntmps16
              go_wp2_with fail
              rw [HW0.out]
              refine A.out.mono ?_
              rintro e w' ⟨rfl, rfl⟩
              go_wp2_with fail
              refine (RC.out _).mono ?_
              rintro e w3 ⟨rfl, b3⟩
              have h3 := H1.out.stay (chg_of_below b3) (fun _ _ f => f)
              have c33 := h3.cells.2.2.2
              have hl := h3.look (c := c) HC.out
              have k3 := HK1.out.trans' (chg_of_below b3) (fun _ f => f.elim)
              have B3 := Lib.hid h3
              have K3 := Lib.hid k3
              clear h3 k3 b3 RC c2 f2 g1 g2 hw1
              rw [hk] at hl
              unfold lastV at hl
              simp only [Option.getD_some, Option.isSome_some] at hl
              clear hk
              have T := Lib.hid (To.mk' ((B3.out.stay (w' := w3.alloc (.cells #[.int .u64 q, .string a] 82)) (G := fun _ => False) ((Chg.refl _ _).alloc _) (fun _ _ f => f)).larger (S' := S + data.size) (by omega) hS) (K3.out.alloc (.cells #[.int .u64 q, .string a] 82)))
              go_wp2
              go_ret2
              exact ⟨rfl, T.out⟩
            · have eM : cmdM m1 data = (⟨st, m1.index, upd m1.clients c (n, an)⟩, an, 0) := by unfold cmdM; rw [hr]; simp only [hk]; rw [if_neg hlt, if_neg heq]; exact hdo
              have q4 : ((n : Int) == q) = false := by simp; omega
              have q5 : decide ((n : Int) = q) = false := by simp; omega
              rw [eM]
              clear eM hr hdo
              go_enter Try.func16, Try.ntmps16
              go_wp2_with fail
              rw [HW0.out]
              refine A.out.mono ?_
              rintro e w' ⟨rfl, rfl⟩
              go_wp2_with fail
              refine (RC.out _).mono ?_
              rintro e w3 ⟨rfl, b3⟩
              have h3 := H1.out.stay (chg_of_below b3) (fun _ _ f => f)
              have c33 := h3.cells.2.2.2
              have hl := h3.look (c := c) HC.out
              have k3 := HK1.out.trans' (chg_of_below b3) (fun _ f => f.elim)
              have B3 := Lib.hid h3
              have K3 := Lib.hid k3
              clear h3 k3 b3 RC c2 f2 g1 g2 hw1
              rw [hk] at hl
              unfold lastV at hl
              simp only [Option.getD_some, Option.isSome_some] at hl
              clear hk
              obtain ⟨W4, HW4⟩ : ∃ W, Hid (w3.alloc (.cells #[.int .u64 q, .string a] 82) = W) := ⟨_, Lib.hid rfl⟩
              have B4 := Lib.hid (B3.out.stay (w' := W4) (G := fun _ => False) (by rw [← HW4.out]; exact (Chg.refl _ _).alloc _) (fun _ _ f => f))
              have K4 := Lib.hid (show Chg F w W4 by rw [← HW4.out]; exact K3.out.alloc _)
              have d0 := fun a os => cell_regrown B4.out.cells.1 a os
              have d1 := fun a os => cell_regrown B4.out.cells.2.1 a os
              have SC := regrown_below W4 (fun u => step_any m1.state D hms hds u)
              clear hms hds
              have HST := Lib.hid (show stepM m1.state D = (st, an) from hst)
              rw [HST.out] at SC
              simp only at SC
              go_wp2_with fail
              rw [HW4.out]
              refine wp_region_quiet_below (by kernel_rfl) (by kernel_rfl) ?_
              repeat (go_big_quiet_step (exact SC _ _))
              refine wpQuiet_nil ?_
              intro _ hw'
              obtain ⟨⟨dq, osq⟩, hw''⟩ := hw'
              subst hw''
              have k5 := chg_of_below (below_regrown W4 dq osq)
              clear d0 d1 SC c33 hl
              generalize grow (redrawn W4 dq) osq = w5 at *
              have h5 := B4.out.stay k5 (fun _ _ f => f)
              have f5 := h5.free 0
              have g50 := h5.cells.1
              have g53 := h5.cells.2.2.2
              have h6 := h5.state (s := st) (S' := S + data.size) hsS.out hS
              obtain ⟨o, hu, h7, c7⟩ := h6.store HC.out (n, an)
              unfold lastV at hu
              simp only at hu
              have T := Lib.hid (To.mk' h7 (((K4.out.trans' k5 (fun _ f => f.elim)).setCell (Or.inl B4.out.fb) _).trans c7))
              clear h5 h6 h7 c7 k5
              go_wp2
              go_ret2
              exact ⟨rfl, T.out⟩
end
end Go.Proofs.Ytcaemfogknaioaa
