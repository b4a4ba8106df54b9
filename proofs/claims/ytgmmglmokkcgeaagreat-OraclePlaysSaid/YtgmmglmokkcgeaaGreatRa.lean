/- Walks: the document's mark. Printed by genRa.py. -/
import Derived.Test.YtgmmglmokkcgeaaGreatR7
import Derived.Test.YtgmmglmokkcgeaaGreatA6
namespace Go.Proofs.YtgmmglmokkcgeaaGreat
set_option linter.unusedVariables false
set_option linter.unusedSimpArgs false
set_option linter.unusedSectionVars false
open Go.RowKit Mk Go.Sort

section
variable {w w' : World} {b : Nat} {R : RV} {F G : Nat → Prop} {r : RM} {o : OpM} {l : OpL}
theorem RTo.box {w0 w w' w2 : World} {b : Nat} {F : Nat → Prop} {r : RM} {kb : Nat} (h : RTo w b F r w') (c : Chg (fun g => g = kb) w' w2) (hk : ¬ (F kb ∨ w.heap.size ≤ kb)) (c0 : Chg (fun _ => False) w0 w) (h0 : w0.heap.size ≤ kb) : RTo w0 b F r w2 := by
  obtain ⟨R, hr⟩ := h.is
  refine ⟨⟨R, (hr.stay c (fun i hi e => hk (by rw [← e]; exact hi))).wide (fun g e => by rcases e with e | e; exact Or.inl e; exact Or.inr (Nat.le_trans c0.size e))⟩, ?_⟩
  exact ((c0.mono (fun _ f => f.elim)).trans h.chg).trans' c (fun g e => Or.inr (by rw [e]; exact h0))
theorem RRep.rto (h : RRep w b R F r) : RTo w b F r w := ⟨⟨R, h.wide (fun _ => Or.inl)⟩, Chg.refl _ _⟩
theorem filter_at {α : Type} (f : α → Bool) {C : List α} {j : Nat} (hj : j < C.length) : (C.drop j).filter f = (if f C[j] = true then [C[j]] else []) ++ (C.drop (j + 1)).filter f := by
  rw [List.drop_eq_getElem_cons hj, List.filter_cons]
  split <;> rfl
/-- The answer's box, made at the start. -/
theorem answer_box (w : World) : ∃ (W : World) (ab : Nat), w.alloc (.cells #[.int .i64 0, .int .u64 0, .int .u64 0, .string ⟨#[]⟩, .int .u32 0, .int .u32 0, .int .u64 0, .int .u64 0] 46) = W ∧ w.heap.size = ab ∧ W.heap[ab]? = some (.cells #[.int .i64 0, .int .u64 0, .int .u64 0, .string ⟨#[]⟩, .int .u32 0, .int .u32 0, .int .u64 0, .int .u64 0] 46) ∧ Chg (fun _ => False) w W ∧ W.heap.size = ab + 1 :=
  ⟨_, _, rfl, rfl, Go.heap_alloc_new _ _, (Chg.refl _ _).alloc _, by simp⟩
set_option maxRecDepth 100000 in
set_option maxHeartbeats 8000000 in
theorem rmark_any (h : RRep w b R F r) (hF : ∀ g, F g → g < w.heap.size) (at_ : Nat) (hd : r.d.length ≤ 1000000) (hkl : r.k.length ≤ 1000000) :
    Calls Tryz.prog 63 #[.pointer (some ⟨b, 0, none⟩), .int .u64 (at_ : Nat)] w fun e w' => e = .returned (anV (rmarkM r at_).2) ∧ RTo w b F (rmarkM r at_).1 w' := by
  obtain ⟨W, ab, hW, hab, hb, hc, hsz⟩ := answer_box w
  have HW := Lib.hid hW
  have HAB := Lib.hid hab
  have HB := Lib.hid hb
  have HC := Lib.hid hc
  have HH := Lib.hid (h.same hc)
  have HNF := Lib.hid (show ¬ (F ab ∨ W.heap.size ≤ ab) from fun e => by rcases e with e | e; exact absurd (hF _ e) (by omega); omega)
  have HLE := Lib.hid (show w.heap.size ≤ ab by omega)
  have HLL := Lib.hid (And.intro hd hkl)
  have HBAB := Lib.hid (show b ≠ ab from fun e => by have := h.lt; omega)
  obtain ⟨RR, hRR⟩ : ∃ z, rmarkM r at_ = z := ⟨_, rfl⟩
  rw [hRR]
  unfold rmarkM at hRR
  have c0 : W.cell? ⟨b, 0, none⟩ = some (.int .u64 (r.time : Nat)) := cell_of HH.out.box rfl
  have c1 : W.cell? ⟨b, 2, none⟩ = some (.int .u64 (r.mark : Nat)) := cell_of HH.out.box rfl
  by_cases h1 : r.time < at_
  · rw [if_pos h1] at hRR
    subst hRR
    have q1 : decide ((r.time : Int) < (at_ : Int)) = true := by simp; omega
    have q1n : decide (r.time < at_) = true := decide_eq_true h1
    have z0 : W.cell? ⟨ab, 0, none⟩ = some (.int .i64 0) := cell_of HB.out rfl
    have zf0 : W.frozen? ⟨ab, 0, none⟩ = false := frozen_of HB.out
    have z1 : W.cell? ⟨ab, 1, none⟩ = some (.int .u64 0) := cell_of HB.out rfl
    have zf1 : W.frozen? ⟨ab, 1, none⟩ = false := frozen_of HB.out
    have z2 : W.cell? ⟨ab, 2, none⟩ = some (.int .u64 0) := cell_of HB.out rfl
    have zf2 : W.frozen? ⟨ab, 2, none⟩ = false := frozen_of HB.out
    have z3 : W.cell? ⟨ab, 3, none⟩ = some (.string ⟨#[]⟩) := cell_of HB.out rfl
    have zf3 : W.frozen? ⟨ab, 3, none⟩ = false := frozen_of HB.out
    have z4 : W.cell? ⟨ab, 4, none⟩ = some (.int .u32 0) := cell_of HB.out rfl
    have zf4 : W.frozen? ⟨ab, 4, none⟩ = false := frozen_of HB.out
    have z5 : W.cell? ⟨ab, 5, none⟩ = some (.int .u32 0) := cell_of HB.out rfl
    have zf5 : W.frozen? ⟨ab, 5, none⟩ = false := frozen_of HB.out
    have z6 : W.cell? ⟨ab, 6, none⟩ = some (.int .u64 0) := cell_of HB.out rfl
    have zf6 : W.frozen? ⟨ab, 6, none⟩ = false := frozen_of HB.out
    have z7 : W.cell? ⟨ab, 7, none⟩ = some (.int .u64 0) := cell_of HB.out rfl
    have zf7 : W.frozen? ⟨ab, 7, none⟩ = false := frozen_of HB.out
    clear h1 h hb hc hW hab hF hd hkl hsz
    go_enter Tryz.func63, Tryz.ntmps63
    go_upto_region 1 with fail
    rw [HW.out, HAB.out]
    go_wp2_with fail
    obtain ⟨hh, hk8⟩ := fin8 HB.out (.int .i64 2) (.int .u64 0) (.int .u64 0) (.string ⟨#[]⟩) (.int .u32 0) (.int .u32 0) (.int .u64 0) (.int .u64 0)
    refine bodyPost_ret (results_cell_row (p := 4) (ty := 46) rfl _ _ ab 46 _ (0, 0) _ rfl hh Tryz.underlying46 rfl (by kernel_rfl)) rfl ⟨rfl, ?_⟩
    exact RTo.box HH.out.rto hk8 HNF.out HC.out HLE.out
  rw [if_neg h1] at hRR
  have q1 : decide ((r.time : Int) < (at_ : Int)) = false := by simp; omega
  have q1n : decide (r.time < at_) = false := decide_eq_false h1
  by_cases h2 : at_ ≤ r.mark
  · rw [if_pos h2] at hRR
    subst hRR
    have q2 : decide ((at_ : Int) ≤ (r.mark : Int)) = true := by simp; omega
    have q2n : decide (at_ ≤ r.mark) = true := decide_eq_true h2
    have z0 : W.cell? ⟨ab, 0, none⟩ = some (.int .i64 0) := cell_of HB.out rfl
    have zf0 : W.frozen? ⟨ab, 0, none⟩ = false := frozen_of HB.out
    have z1 : W.cell? ⟨ab, 1, none⟩ = some (.int .u64 0) := cell_of HB.out rfl
    have zf1 : W.frozen? ⟨ab, 1, none⟩ = false := frozen_of HB.out
    have z2 : W.cell? ⟨ab, 2, none⟩ = some (.int .u64 0) := cell_of HB.out rfl
    have zf2 : W.frozen? ⟨ab, 2, none⟩ = false := frozen_of HB.out
    have z3 : W.cell? ⟨ab, 3, none⟩ = some (.string ⟨#[]⟩) := cell_of HB.out rfl
    have zf3 : W.frozen? ⟨ab, 3, none⟩ = false := frozen_of HB.out
    have z4 : W.cell? ⟨ab, 4, none⟩ = some (.int .u32 0) := cell_of HB.out rfl
    have zf4 : W.frozen? ⟨ab, 4, none⟩ = false := frozen_of HB.out
    have z5 : W.cell? ⟨ab, 5, none⟩ = some (.int .u32 0) := cell_of HB.out rfl
    have zf5 : W.frozen? ⟨ab, 5, none⟩ = false := frozen_of HB.out
    have z6 : W.cell? ⟨ab, 6, none⟩ = some (.int .u64 0) := cell_of HB.out rfl
    have zf6 : W.frozen? ⟨ab, 6, none⟩ = false := frozen_of HB.out
    have z7 : W.cell? ⟨ab, 7, none⟩ = some (.int .u64 0) := cell_of HB.out rfl
    have zf7 : W.frozen? ⟨ab, 7, none⟩ = false := frozen_of HB.out
    clear h1 h2 h hb hc hW hab hF hd hkl hsz
    go_enter Tryz.func63, Tryz.ntmps63
    go_upto_region 1 with fail
    rw [HW.out, HAB.out]
    go_wp2_with fail
    obtain ⟨hh, hk8⟩ := fin8 HB.out (.int .i64 0) (.int .u64 0) (.int .u64 0) (.string ⟨#[]⟩) (.int .u32 0) (.int .u32 0) (.int .u64 0) (.int .u64 0)
    refine bodyPost_ret (results_cell_row (p := 4) (ty := 46) rfl _ _ ab 46 _ (0, 0) _ rfl hh Tryz.underlying46 rfl (by kernel_rfl)) rfl ⟨rfl, ?_⟩
    exact RTo.box HH.out.rto hk8 HNF.out HC.out HLE.out
  rw [if_neg h2] at hRR
  have q2 : decide ((at_ : Int) ≤ (r.mark : Int)) = false := by simp; omega
  have q2n : decide (at_ ≤ r.mark) = false := decide_eq_false h2
  obtain ⟨f1, hm⟩ := RRep.setBox HH.out (r' := { r with mark := at_ }) (i := 2) (v := .int .u64 (at_ : Nat)) rfl rfl rfl rfl rfl
  obtain ⟨W1, HW1⟩ : ∃ W1, Hid (W.setCell ⟨b, 2, none⟩ (.int .u64 (at_ : Nat)) = W1) := ⟨_, Lib.hid rfl⟩
  have hb1 : W1.heap[ab]? = some (.cells #[.int .i64 0, .int .u64 0, .int .u64 0, .string ⟨#[]⟩, .int .u32 0, .int .u32 0, .int .u64 0, .int .u64 0] 46) := by rw [← HW1.out]; exact (Below.heap_setCell _ _ _ _ (fun e => HBAB.out e.symm)).trans hb
  have HM := Lib.hid (show RTo W b F { r with mark := at_ } W1 from by rw [← HW1.out]; exact ⟨⟨R, hm.wide (fun _ => Or.inl)⟩, (Chg.refl _ _).setCell (a := ⟨b, 2, none⟩) (Or.inl HH.out.fb) _⟩)
  have H1 := Lib.hid (show RRep W1 b R F { r with mark := at_ } by rw [← HW1.out]; exact hm)
  have HB1 := Lib.hid hb1
  have HRR := Lib.hid hRR
  clear h1 h2 h hb hc hW hab hF hd hkl hsz hm hb1 hRR
  obtain ⟨vo, vc, hvv⟩ := sl_shape H1.out.d
  obtain ⟨n, hn⟩ : ∃ n, r.d.length = n := ⟨_, rfl⟩
  have HNN := Lib.hid hn
  have HVV := Lib.hid (show R.d = .slice vo n vc by rw [← hn]; exact hvv)
  have HLN := Lib.hid (show n ≤ 1000000 by rw [← hn]; exact HLL.out.1)
  have HLK := Lib.hid HLL.out.2
  have HO0 := Lib.hid (Out.nil W1 139 2 dE)
  obtain ⟨Z, hZ⟩ : ∃ Z, r.d.filter (fun p => decide (p.2 ≠ 0) || decide (at_ ≤ p.1)) = Z := ⟨_, rfl⟩
  have HZ := Lib.hid (show [] ++ (r.d.drop 0).filter (fun p => decide (p.2 ≠ 0) || decide (at_ ≤ p.1)) = Z by rw [← hZ]; rfl)
  have HZE := Lib.hid hZ
  clear hn hvv hZ
  go_enter Tryz.func63, Tryz.ntmps63
  go_upto_region 1 with fail
  rw [HW.out, HAB.out]
  go_upto_region 6 with fail
  rw [HW1.out]
  clear c0 c1 q1 q1n q2 q2n f1
  have c2 : W1.cell? ⟨b, 3, none⟩ = some (.slice vo n vc) := by have := cell_of H1.out.box (i := 3) (v := R.d) rfl; rw [HVV.out] at this; exact this
  go_wp2_with fail
  go_loopw [5, 6] (fun s5 s6 wr => ∃ (j : Nat) (O : List (Nat × Nat)) (oo : Option Addr) (oc : Nat), s5 = .slice oo O.length oc ∧ s6 = .int .i64 j ∧ j ≤ n ∧ O.length ≤ 2 * j ∧ Hid (O ++ (r.d.drop j).filter (fun p => decide (p.2 ≠ 0) || decide (at_ ≤ p.1)) = Z) ∧ Hid (Out W1 139 2 dE O (.slice oo O.length oc) wr)) (fun _ s6 _ => n - (intOf s6).toNat)
  case atStart => exact ⟨0, [], none, 0, rfl, rfl, Nat.zero_le _, Nat.le_refl _, HZ, HO0⟩
  case round =>
    clear c2 HO0
    obtain ⟨j, O, oo, oc, rfl, rfl, hj, hOl, HK, HO⟩ := hrel
    have hr := H1.out.same HO.out.chg
    have c2 : wr.cell? ⟨b, 3, none⟩ = some (.slice vo n vc) := by have := cell_of hr.box (i := 3) (v := R.d) rfl; rw [HVV.out] at this; exact this
    have hln := HLN.out
    by_cases hjn : j < n
    · have q1 : decide ((j : Int) < (n : Int)) = true := by simp; omega
      have hjC : j < r.d.length := by rw [HNN.out]; exact hjn
      obtain ⟨g, cap, hv, hg, d0, d1⟩ := hr.d_at (i := j) hjC
      rw [HVV.out] at hv
      injection hv with hv1 hv2 hv3
      subst hv1 hv3
      have hstep := filter_at (fun p : Nat × Nat => decide (p.2 ≠ 0) || decide (at_ ≤ p.1)) hjC
      simp only at d0 d1
      generalize r.d[j] = p at *
      obtain ⟨k, q⟩ := p
      simp only at d0 d1 hstep
      have l0 : (0 : Int) ≤ j := by omega
      have l1 : (j : Int) < n := by omega
      have HBB := Lib.hid (out_bounds (B := 16) (show O.length ≤ 2 * j + 1 by omega) hj hln (by decide))
      clear hr hv2 hg
      by_cases hq : q ≠ 0
      · have HS := Lib.hid (show (O ++ [(k, q)]) ++ (r.d.drop (j + 1)).filter (fun p => decide (p.2 ≠ 0) || decide (at_ ≤ p.1)) = Z by rw [← HK.out, hstep, if_pos (by simp [hq])]; simp)
        have q2 : ((q : Int) != 0) = true := by rw [bne_iff_ne]; omega
        have q2' : ((q : Int) == 0) = false := by rw [beq_eq_false_iff_ne]; omega
        clear hq hstep
        go_wp2_with (refine wpList_out (by rfl) (.tmp 57) (.tmp 65) 64 (by rfl) Tryz.underlying64 el139 (by decide) oo oc HO (by rfl) (k, q) (by rfl) (by rfl) (by simp [dE, Value.oneCell']) HBB.out.1 HBB.out.2 ?_; intro ro rc w6 HNR)
        go_roundw
        case rel => exact ⟨j + 1, O ++ [(k, q)], ro, rc, by simp, by go_num, by omega, by simp; omega, HS, by simpa using HNR⟩
        case measure => simp [intOf]; omega
      · have hq0 : q = 0 := by omega
        have q2 : ((q : Int) != 0) = false := by rw [hq0]; rfl
        have q2' : ((q : Int) == 0) = true := by rw [hq0]; rfl
        by_cases hk : at_ ≤ k
        · have HS := Lib.hid (show (O ++ [(k, q)]) ++ (r.d.drop (j + 1)).filter (fun p => decide (p.2 ≠ 0) || decide (at_ ≤ p.1)) = Z by rw [← HK.out, hstep, if_pos (by simp [hk])]; simp)
          have q3 : decide ((at_ : Int) ≤ (k : Int)) = true := by simp; omega
          have q3n : decide (at_ ≤ k) = true := decide_eq_true hk
          clear hq hq0 hk hstep
          go_wp2_with (refine wpList_out (by rfl) (.tmp 57) (.tmp 65) 64 (by rfl) Tryz.underlying64 el139 (by decide) oo oc HO (by rfl) (k, q) (by rfl) (by rfl) (by simp [dE, Value.oneCell']) HBB.out.1 HBB.out.2 ?_; intro ro rc w6 HNR)
          go_roundw
          case rel => exact ⟨j + 1, O ++ [(k, q)], ro, rc, by simp, by go_num, by omega, by simp; omega, HS, by simpa using HNR⟩
          case measure => simp [intOf]; omega
        · have HS := Lib.hid (show O ++ (r.d.drop (j + 1)).filter (fun p => decide (p.2 ≠ 0) || decide (at_ ≤ p.1)) = Z by rw [← HK.out, hstep, if_neg (by simp [hk, hq0])]; simp)
          have q3 : decide ((at_ : Int) ≤ (k : Int)) = false := by simp; omega
          have q3n : decide (at_ ≤ k) = false := decide_eq_false hk
          clear hq hq0 hk hstep
          go_wp2_with fail
          go_roundw
          case rel => exact ⟨j + 1, O, oo, oc, rfl, by go_num, by omega, by omega, HS, HO⟩
          case measure => simp [intOf]; omega
    · have q1 : decide ((j : Int) < (n : Int)) = false := by simp; omega
      have hend := HK.out
      rw [List.drop_eq_nil_of_le (by rw [HNN.out]; omega), List.filter_nil, List.append_nil] at hend
      subst hend
      have HDO := Lib.hid HO.out.chg
      obtain ⟨y1, y0, y2⟩ := H1.out.putD HO.out
      rw [HVV.out] at y0
      obtain ⟨W2, HW2⟩ : ∃ W2, Hid (wr.setCell ⟨b, 3, none⟩ (.slice oo O.length oc) = W2) := ⟨_, Lib.hid rfl⟩
      rw [HW2.out] at y2
      have HT2 := Lib.hid (HM.out.trans (show RTo W1 b (fun g => F g ∨ W.heap.size ≤ g) _ W2 from ⟨by obtain ⟨R2, h2⟩ := y2.is; exact ⟨R2, h2.wide (fun g e => by rcases e with e | e; exact Or.inl (Or.inl e); exact Or.inr e)⟩, y2.chg.mono (fun _ f => Or.inl f)⟩))
      obtain ⟨R2, h2⟩ := HT2.out.is
      have hb2 : W2.heap[ab]? = some (.cells #[.int .i64 0, .int .u64 0, .int .u64 0, .string ⟨#[]⟩, .int .u32 0, .int .u32 0, .int .u64 0, .int .u64 0] 46) := by
        have hl := (Array.getElem?_eq_some_iff.1 HB.out).1
        have e1 := (HO.out.chg.block ab (Array.getElem?_eq_some_iff.1 HB1.out).1 (fun f => f)).trans HB1.out
        rw [← HW2.out]
        exact (Below.heap_setCell _ _ _ _ (fun e => HBAB.out e.symm)).trans e1
      have H2 := Lib.hid h2
      have HB2 := Lib.hid hb2
      clear hr HK y2 h2 hb2
      obtain ⟨ko, kc, hkv⟩ := sl_shape H2.out.k
      obtain ⟨m, hm⟩ : ∃ m, r.k.length = m := ⟨_, rfl⟩
      have HMM := Lib.hid hm
      have HKV := Lib.hid (show R2.k = .slice ko m kc by rw [← hm]; exact hkv)
      have HLM := Lib.hid (show m ≤ 1000000 by rw [← hm]; exact HLK.out)
      have HP0 := Lib.hid (Out.nil W2 141 2 kE)
      obtain ⟨Y, hY⟩ : ∃ Y, r.k.filter (fun p => decide (at_ < p.2)) = Y := ⟨_, rfl⟩
      have HY := Lib.hid (show [] ++ (r.k.drop 0).filter (fun p => decide (at_ < p.2)) = Y by rw [← hY]; rfl)
      have HYE := Lib.hid hY
      clear hm hkv hY
      go_upto_region 13 with fail
      rw [HW2.out]
      clear c2 y1 y0 q1
      have c3 : W2.cell? ⟨b, 4, none⟩ = some (.slice ko m kc) := by have := cell_of H2.out.box (i := 4) (v := R2.k) rfl; rw [HKV.out] at this; exact this
      go_wp2_with fail
      generalize wr = w9 at *
      go_loopw [7, 8] (fun s5 s6 wr => ∃ (j : Nat) (O : List (ByteArray × Nat)) (oo : Option Addr) (oc : Nat), s5 = .slice oo O.length oc ∧ s6 = .int .i64 j ∧ j ≤ m ∧ O.length ≤ 2 * j ∧ Hid (O ++ (r.k.drop j).filter (fun p => decide (at_ < p.2)) = Y) ∧ Hid (Out W2 141 2 kE O (.slice oo O.length oc) wr)) (fun _ s6 _ => m - (intOf s6).toNat)
      case atStart => exact ⟨0, [], none, 0, rfl, rfl, Nat.zero_le _, Nat.le_refl _, HY, HP0⟩
      case round =>
        clear c3 HP0
        obtain ⟨i, P, po, pc, rfl, rfl, hi, hPl, HL, HP⟩ := hrel
        have hr := H2.out.same HP.out.chg
        have c3 : wr.cell? ⟨b, 4, none⟩ = some (.slice ko m kc) := by have := cell_of hr.box (i := 4) (v := R2.k) rfl; rw [HKV.out] at this; exact this
        have hlm := HLM.out
        by_cases him : i < m
        · have q1 : decide ((i : Int) < (m : Int)) = true := by simp; omega
          have hiC : i < r.k.length := by rw [HMM.out]; exact him
          obtain ⟨g, cap, hv, hg, d0, d1⟩ := hr.k_at (i := i) hiC
          rw [HKV.out] at hv
          injection hv with hv1 hv2 hv3
          subst hv1 hv3
          have hstep := filter_at (fun p : ByteArray × Nat => decide (at_ < p.2)) hiC
          simp only at d0 d1
          generalize r.k[i] = p at *
          obtain ⟨k, q⟩ := p
          simp only at d0 d1 hstep
          have l0 : (0 : Int) ≤ i := by omega
          have l1 : (i : Int) < m := by omega
          have HBB := Lib.hid (out_bounds (B := 24) (show P.length ≤ 2 * i + 1 by omega) hi hlm (by decide))
          clear hr hv2 hg
          by_cases hq : at_ < q
          · have HS := Lib.hid (show (P ++ [(k, q)]) ++ (r.k.drop (i + 1)).filter (fun p => decide (at_ < p.2)) = Y by rw [← HL.out, hstep, if_pos (by simp [hq])]; simp)
            have q2 : decide ((at_ : Int) < (q : Int)) = true := by simp; omega
            have q2n : decide (at_ < q) = true := decide_eq_true hq
            clear hq hstep
            go_wp2_with (refine wpList_out (by rfl) (.tmp 90) (.tmp 98) 65 (by rfl) Tryz.underlying65 el141 (by decide) po pc HP (by rfl) (k, q) (by rfl) (by rfl) (by simp [kE, Value.oneCell']) HBB.out.1 HBB.out.2 ?_; intro ro rc w6 HNR)
            go_roundw
            case rel => exact ⟨i + 1, P ++ [(k, q)], ro, rc, by simp, by go_num, by omega, by simp; omega, HS, by simpa using HNR⟩
            case measure => simp [intOf]; omega
          · have HS := Lib.hid (show P ++ (r.k.drop (i + 1)).filter (fun p => decide (at_ < p.2)) = Y by rw [← HL.out, hstep, if_neg (by simp; omega)]; simp)
            have q2 : decide ((at_ : Int) < (q : Int)) = false := by simp; omega
            have q2n : decide (at_ < q) = false := decide_eq_false hq
            clear hq hstep
            go_wp2_with fail
            go_roundw
            case rel => exact ⟨i + 1, P, po, pc, rfl, by go_num, by omega, by omega, HS, HP⟩
            case measure => simp [intOf]; omega
        · have q1 : decide ((i : Int) < (m : Int)) = false := by simp; omega
          have hend := HL.out
          rw [List.drop_eq_nil_of_le (by rw [HMM.out]; omega), List.filter_nil, List.append_nil] at hend
          subst hend
          obtain ⟨y1, y0, y2⟩ := H2.out.putK HP.out
          rw [HKV.out] at y0
          obtain ⟨W3, HW3⟩ : ∃ W3, Hid (wr.setCell ⟨b, 4, none⟩ (.slice po P.length pc) = W3) := ⟨_, Lib.hid rfl⟩
          rw [HW3.out] at y2
          have HT3 := Lib.hid (HT2.out.trans y2)
          have hb3 : W3.heap[ab]? = some (.cells #[.int .i64 0, .int .u64 0, .int .u64 0, .string ⟨#[]⟩, .int .u32 0, .int .u32 0, .int .u64 0, .int .u64 0] 46) := by
            have e1 := (HP.out.chg.block ab (Array.getElem?_eq_some_iff.1 HB2.out).1 (fun f => f)).trans HB2.out
            rw [← HW3.out]
            exact (Below.heap_setCell _ _ _ _ (fun e => HBAB.out e.symm)).trans e1
          have HB3 := Lib.hid hb3
          have HRE := Lib.hid HRR.out.symm
          clear hr HL y2 hb3
          go_upto_region 20 with fail
          rw [HW3.out]
          have z0 : W3.cell? ⟨ab, 0, none⟩ = some (.int .i64 0) := cell_of HB3.out rfl
          have zf0 : W3.frozen? ⟨ab, 0, none⟩ = false := frozen_of HB3.out
          have z1 : W3.cell? ⟨ab, 1, none⟩ = some (.int .u64 0) := cell_of HB3.out rfl
          have zf1 : W3.frozen? ⟨ab, 1, none⟩ = false := frozen_of HB3.out
          have z2 : W3.cell? ⟨ab, 2, none⟩ = some (.int .u64 0) := cell_of HB3.out rfl
          have zf2 : W3.frozen? ⟨ab, 2, none⟩ = false := frozen_of HB3.out
          have z3 : W3.cell? ⟨ab, 3, none⟩ = some (.string ⟨#[]⟩) := cell_of HB3.out rfl
          have zf3 : W3.frozen? ⟨ab, 3, none⟩ = false := frozen_of HB3.out
          have z4 : W3.cell? ⟨ab, 4, none⟩ = some (.int .u32 0) := cell_of HB3.out rfl
          have zf4 : W3.frozen? ⟨ab, 4, none⟩ = false := frozen_of HB3.out
          have z5 : W3.cell? ⟨ab, 5, none⟩ = some (.int .u32 0) := cell_of HB3.out rfl
          have zf5 : W3.frozen? ⟨ab, 5, none⟩ = false := frozen_of HB3.out
          have z6 : W3.cell? ⟨ab, 6, none⟩ = some (.int .u64 0) := cell_of HB3.out rfl
          have zf6 : W3.frozen? ⟨ab, 6, none⟩ = false := frozen_of HB3.out
          have z7 : W3.cell? ⟨ab, 7, none⟩ = some (.int .u64 0) := cell_of HB3.out rfl
          have zf7 : W3.frozen? ⟨ab, 7, none⟩ = false := frozen_of HB3.out
          go_wp2_with fail
          rw [HRE.out]
          rw [← HZE.out, ← HYE.out] at HT3
          obtain ⟨hh, hk8⟩ := fin8 HB3.out (.int .i64 0) (.int .u64 0) (.int .u64 0) (.string ⟨#[]⟩) (.int .u32 0) (.int .u32 0) (.int .u64 0) (.int .u64 0)
          refine bodyPost_ret (results_cell_row (p := 4) (ty := 46) rfl _ _ ab 46 _ (0, 0) _ rfl hh Tryz.underlying46 rfl (by kernel_rfl)) rfl ⟨rfl, ?_⟩
          exact RTo.box HT3.out hk8 HNF.out HC.out HLE.out
end
end Go.Proofs.YtgmmglmokkcgeaaGreat
