/- Walks: the document's turn, what turns. Printed by genRe.py x. -/
import Derived.Test.YtgmmglmokkcgeaaGreatRe
namespace Go.Proofs.YtgmmglmokkcgeaaGreat
set_option linter.unusedVariables false
set_option linter.unusedSimpArgs false
set_option linter.unusedSectionVars false
open Go.RowKit Mk Go.Sort

theorem chgd (w : World) : Chg (fun _ => False) w w.drew := (Chg.refl _ w).drew
section
variable {w w' : World} {b : Nat} {R : RV} {F G : Nat → Prop} {r : RM} {o : OpM} {l : OpL} {B : Nat}
set_option maxRecDepth 100000 in
set_option maxHeartbeats 8000000 in
theorem rturn_6 (h : RRep w b R F r) (hF : ∀ g, F g → g < w.heap.size) (ho : OpAt w o l) (hfit : Fit r B) (hB : B ≤ 900000) (hk : o.k = 6) {t : Tb} (hl : lk r.t o.pred = some t) (hx : t.to = 0 ∧ t.g ≠ o.to) :
    Calls Tryz.prog 64 #[.pointer (some ⟨b, 0, none⟩), .agg (opC o l)] w fun e w' => e = .returned (.agg #[.int .i64 0, .int .u64 0, .int .u64 0, .string o.pred, .int .u32 (t.g : Nat), .int .u32 (o.to : Nat), .int .u64 (r.time + 1 : Nat), .int .u64 (t.tn + 1 : Nat)]) ∧ RTo w b F { r with time := r.time + 1, t := lay lessB o.pred ⟨t.p, t.g, o.to, r.time + 1, t.tn + 1⟩ r.t } w' := by
  obtain ⟨W2, ob, ab, hW2, hob, hab, ho2, ha2, hc2, hs2⟩ := two_boxes w o l
  have HW2 := Lib.hid hW2
  have HOS := Lib.hid hob
  have HAS := Lib.hid hab
  have HOB := Lib.hid ho2
  have HAB := Lib.hid ha2
  have HC2 := Lib.hid hc2
  have HH := Lib.hid (h.same hc2)
  have HNF := Lib.hid (show ¬ (F ab ∨ W2.heap.size ≤ ab) from fun e => by rcases e with e | e; exact absurd (hF _ e) (by omega); omega)
  have HNO := Lib.hid (show ¬ (F ob ∨ W2.heap.size ≤ ob) from fun e => by rcases e with e | e; exact absurd (hF _ e) (by omega); omega)
  have HLE := Lib.hid (show w.heap.size ≤ ab by omega)
  have HO2 := Lib.hid (ho.same hc2)
  have qk5 : ((o.k : Int) == 5) = false := by rw [hk]; rfl
  have qn5 : decide (o.k = 5) = false := by rw [hk]; rfl
  have qk6 : ((o.k : Int) == 6) = true := by rw [hk]; rfl
  have qn6 : decide (o.k = 6) = true := by rw [hk]; rfl
  have hx1 := hx.1
  have hx2 := hx.2
  have ce : ((t.to : Int) == (0 : Int)) = true := by rw [beq_iff_eq]; omega
  have cn : ((t.to : Int) != (0 : Int)) = false := by rw [bne_eq_false_iff_eq]; omega
  have cd : decide ((t.to : Int) = (0 : Int)) = true := by simp; omega
  have fe : ((t.g : Int) == (o.to : Int)) = false := by rw [beq_eq_false_iff_ne]; omega
  have fn : ((t.g : Int) != (o.to : Int)) = true := by rw [bne_iff_ne]; omega
  have fd : decide ((t.g : Int) = (o.to : Int)) = false := by simp; omega
  clear hx1 hx2
  obtain ⟨i, hi, ei, hbf⟩ := tab_find hfit.ts hl
  have hp : t.p = o.pred := hfit.tp _ (lk_mem hl)
  have TB := Lib.hid (rtab_some HH.out o.pred hi (by rw [ei]) hbf)
  obtain ⟨g, cap, hv, hg, d0, d1, d2, d3, d4⟩ := HH.out.t_at hi
  rw [ei] at d0 d1 d2 d3 d4
  simp only at d0 d1 d2 d3 d4
  obtain ⟨n, hn⟩ : ∃ n, r.t.length = n := ⟨_, rfl⟩
  have HV := Lib.hid hv
  have HI := Lib.hid hi
  have HE := Lib.hid ei
  have HN := Lib.hid hn
  have HP := Lib.hid hp
  have e5 : W2.cell? ⟨b, 5, none⟩ = some (.slice (some ⟨g, 0, none⟩) n cap) := by rw [← hn, ← hv]; exact cell_of HH.out.box rfl
  have l0 : (0 : Int) ≤ i := by omega
  have l1 : (i : Int) < n := by omega
  have l2 : decide ((i : Int) < 0) = false := by simp
  have HGW := Lib.hid hg
  have HTS := Lib.hid hfit.ts
  have HTI := Lib.hid hfit.time
  have HTN := Lib.hid (show t.tn ≤ B from hfit.tn _ (lk_mem hl))
  have HBB := Lib.hid hB
  have k0 : W2.cell? ⟨ob, 0, none⟩ = some (.int .u8 (o.k : Nat)) := cell_of HOB.out rfl
  have k5 : W2.cell? ⟨ob, 5, none⟩ = some (.string o.pred) := cell_of HOB.out rfl
  obtain ⟨W4, HW4⟩ : ∃ W, Hid (W2.alloc (.cells #[.string o.pred, .int .u32 (t.g : Nat), .int .u32 (t.to : Nat), .int .u64 (t.at_ : Nat), .int .u64 (t.tn : Nat)] 41) = W) := ⟨_, Lib.hid rfl⟩
  obtain ⟨tb, HTB⟩ : ∃ k, Hid (ab + 1 = k) := ⟨_, Lib.hid rfl⟩
  have HS2 := Lib.hid hs2
  have HTB4 := Lib.hid (show W4.heap[tb]? = some (.cells #[.string o.pred, .int .u32 (t.g : Nat), .int .u32 (t.to : Nat), .int .u64 (t.at_ : Nat), .int .u64 (t.tn : Nat)] 41) by rw [← HW4.out, ← HTB.out, ← hs2]; exact Go.heap_alloc_new _ _)
  have C4 := Lib.hid (show Chg (fun _ => False) W2 W4 by rw [← HW4.out]; exact (Chg.refl _ _).alloc _)
  have HH4 := Lib.hid (HH.out.same C4.out)
  have HNT := Lib.hid (show ¬ F tb from fun e => by have := hF _ e; have := HTB.out; omega)
  have HT4 := Lib.hid (show RTo W2 b F r W4 from ⟨⟨R, HH4.out.wide (fun _ => Or.inl)⟩, C4.out.mono (fun _ f => f.elim)⟩)
  have HAB4 := Lib.hid ((C4.out.block ab (Array.getElem?_eq_some_iff.1 HAB.out).1 (fun f => f)).trans HAB.out)
  have HOB4 := Lib.hid ((C4.out.block ob (Array.getElem?_eq_some_iff.1 HOB.out).1 (fun f => f)).trans HOB.out)
  clear h hF ho hfit hB hW2 hob hab ho2 ha2 hc2 hs2 hl ei hbf hp hv hn hg hk hx
  obtain ⟨U, hU⟩ : ∃ U, t.tn + 1 = U := ⟨_, rfl⟩
  have HUU := Lib.hid hU
  have wU : IntKind.u64.wrap ((t.tn : Int) + 1) = U := wrap_nxt (by have := HTN.out; have := HBB.out; rw [hU]; exact Nat.mod_eq_of_lt (by omega))
  obtain ⟨T, hT⟩ : ∃ T, r.time + 1 = T := ⟨_, rfl⟩
  have HTT := Lib.hid hT
  have wT : IntKind.u64.wrap ((r.time : Int) + 1) = T := wrap_nxt (by have := HTI.out; have := HBB.out; rw [hT]; exact Nat.mod_eq_of_lt (by omega))
  rw [hU, hT]
  clear hU hT
  go_enter Tryz.func64, Tryz.ntmps64
  go_upto_region 1 with fail
  rw [HW2.out, HOS.out, HAS.out]
  go_wp2_with fail
  refine TB.out.mono ?_
  rintro e w4 ⟨rfl, hw4⟩
  obtain rfl : W2 = w4 := hw4.symm
  go_upto_region 11 with fail
  rw [HS2.out, HW4.out, HTB.out]
  clear e5 d0 d1 d2 d3 d4 k0 k5
  have k0 : W4.cell? ⟨ob, 0, none⟩ = some (.int .u8 (o.k : Nat)) := cell_of HOB4.out rfl
  have k1 : W4.cell? ⟨ob, 1, none⟩ = some (.int .u32 (o.n : Nat)) := cell_of HOB4.out rfl
  have k2 : W4.cell? ⟨ob, 2, none⟩ = some (.int .u64 (o.st : Nat)) := cell_of HOB4.out rfl
  have k3 : W4.cell? ⟨ob, 3, none⟩ = some (.slice l.ko o.keys.length l.kc) := cell_of HOB4.out rfl
  have k4 : W4.cell? ⟨ob, 4, none⟩ = some (.slice l.no o.needs.length l.nc) := cell_of HOB4.out rfl
  have k5 : W4.cell? ⟨ob, 5, none⟩ = some (.string o.pred) := cell_of HOB4.out rfl
  have k6 : W4.cell? ⟨ob, 6, none⟩ = some (.int .u32 (o.g : Nat)) := cell_of HOB4.out rfl
  have k7 : W4.cell? ⟨ob, 7, none⟩ = some (.int .u32 (o.to : Nat)) := cell_of HOB4.out rfl
  have k8 : W4.cell? ⟨ob, 8, none⟩ = some (.int .u64 (o.at_ : Nat)) := cell_of HOB4.out rfl
  have y0 : W4.cell? ⟨tb, 0, none⟩ = some (.string o.pred) := cell_of HTB4.out rfl
  have yf0 : W4.frozen? ⟨tb, 0, none⟩ = false := frozen_of HTB4.out
  have y1 : W4.cell? ⟨tb, 1, none⟩ = some (.int .u32 (t.g : Nat)) := cell_of HTB4.out rfl
  have yf1 : W4.frozen? ⟨tb, 1, none⟩ = false := frozen_of HTB4.out
  have y2 : W4.cell? ⟨tb, 2, none⟩ = some (.int .u32 (t.to : Nat)) := cell_of HTB4.out rfl
  have yf2 : W4.frozen? ⟨tb, 2, none⟩ = false := frozen_of HTB4.out
  have y3 : W4.cell? ⟨tb, 3, none⟩ = some (.int .u64 (t.at_ : Nat)) := cell_of HTB4.out rfl
  have yf3 : W4.frozen? ⟨tb, 3, none⟩ = false := frozen_of HTB4.out
  have y4 : W4.cell? ⟨tb, 4, none⟩ = some (.int .u64 (t.tn : Nat)) := cell_of HTB4.out rfl
  have yf4 : W4.frozen? ⟨tb, 4, none⟩ = false := frozen_of HTB4.out
  have b0 : W4.cell? ⟨b, 0, none⟩ = some (.int .u64 (r.time : Nat)) := cell_of HH4.out.box rfl
  obtain ⟨bf, h5⟩ := RRep.setBox HH4.out (r' := { r with time := T }) (i := 0) (v := .int .u64 (T : Nat)) rfl rfl rfl rfl rfl
  obtain ⟨W5, HW5⟩ : ∃ W, Hid (W4.setCell ⟨b, 0, none⟩ (.int .u64 (T : Nat)) = W) := ⟨_, Lib.hid rfl⟩
  rw [HW5.out] at h5
  have H5 := Lib.hid h5
  have HBT := Lib.hid (show b ≠ tb ∧ b ≠ ab from ⟨fun e => HNT.out (by rw [← e]; exact HH4.out.fb), fun e => HNF.out (Or.inl (by rw [← e]; exact HH4.out.fb))⟩)
  have HT5 := Lib.hid (show RTo W2 b F { r with time := T } W5 from ⟨⟨R, h5.wide (fun _ => Or.inl)⟩, by rw [← HW5.out]; exact HT4.out.chg.setCell (a := ⟨b, 0, none⟩) (Or.inl HH4.out.fb) _⟩)
  have HTB5 := Lib.hid (show W5.heap[tb]? = some (.cells #[.string o.pred, .int .u32 (t.g : Nat), .int .u32 (t.to : Nat), .int .u64 (t.at_ : Nat), .int .u64 (t.tn : Nat)] 41) by rw [← HW5.out]; exact (Below.heap_setCell _ _ _ _ (fun e => HBT.out.1 e.symm)).trans HTB4.out)
  have HAB5 := Lib.hid (show W5.heap[ab]? = some (.cells #[.int .i64 0, .int .u64 0, .int .u64 0, .string ⟨#[]⟩, .int .u32 0, .int .u32 0, .int .u64 0, .int .u64 0] 46) by rw [← HW5.out]; exact (Below.heap_setCell _ _ _ _ (fun e => HBT.out.2 e.symm)).trans HAB4.out)
  have HOB5 := Lib.hid (show W5.heap[ob]? = some (.cells #[.int .u8 (o.k : Nat), .int .u32 (o.n : Nat), .int .u64 (o.st : Nat), .slice l.ko o.keys.length l.kc, .slice l.no o.needs.length l.nc, .string o.pred, .int .u32 (o.g : Nat), .int .u32 (o.to : Nat), .int .u64 (o.at_ : Nat)] 28) by rw [← HW5.out]; exact (Below.heap_setCell _ _ _ _ (fun e => HNO.out (Or.inl (by have e' : ob = b := e; rw [e']; exact HH4.out.fb)))).trans HOB4.out)
  go_upto_region 17 with fail
  rw [HW5.out]
  clear b0 bf h5 k0 k1 k2 k3 k4 k5 k6 k7 k8 y0 y1 y2 y3 y4 yf0 yf1 yf2 yf3 yf4
  have k7 : W5.cell? ⟨ob, 7, none⟩ = some (.int .u32 (o.to : Nat)) := cell_of HOB5.out rfl
  have y0 : W5.cell? ⟨tb, 0, none⟩ = some (.string o.pred) := cell_of HTB5.out rfl
  have yf0 : W5.frozen? ⟨tb, 0, none⟩ = false := frozen_of HTB5.out
  have y1 : W5.cell? ⟨tb, 1, none⟩ = some (.int .u32 (t.g : Nat)) := cell_of HTB5.out rfl
  have yf1 : W5.frozen? ⟨tb, 1, none⟩ = false := frozen_of HTB5.out
  have y2 : W5.cell? ⟨tb, 2, none⟩ = some (.int .u32 (t.to : Nat)) := cell_of HTB5.out rfl
  have yf2 : W5.frozen? ⟨tb, 2, none⟩ = false := frozen_of HTB5.out
  have y3 : W5.cell? ⟨tb, 3, none⟩ = some (.int .u64 (t.at_ : Nat)) := cell_of HTB5.out rfl
  have yf3 : W5.frozen? ⟨tb, 3, none⟩ = false := frozen_of HTB5.out
  have y4 : W5.cell? ⟨tb, 4, none⟩ = some (.int .u64 (t.tn : Nat)) := cell_of HTB5.out rfl
  have yf4 : W5.frozen? ⟨tb, 4, none⟩ = false := frozen_of HTB5.out
  have b0 : W5.cell? ⟨b, 0, none⟩ = some (.int .u64 (T : Nat)) := cell_of H5.out.box rfl
  obtain ⟨W6, HW6⟩ : ∃ W, Hid (((W5.setCell ⟨tb, 2, none⟩ (.int .u32 (o.to : Nat))).setCell ⟨tb, 3, none⟩ (.int .u64 (T : Nat))).setCell ⟨tb, 4, none⟩ (.int .u64 (U : Nat)) = W) := ⟨_, Lib.hid rfl⟩
  have HC6 := Lib.hid (show Chg (fun g' => g' = tb) W5 W6 by rw [← HW6.out]; exact (((Chg.refl (fun j => j = tb) W5).setCell (a := ⟨tb, 2, none⟩) (Or.inl rfl) _).setCell (a := ⟨tb, 3, none⟩) (Or.inl rfl) _).setCell (a := ⟨tb, 4, none⟩) (Or.inl rfl) _)
  have HTB6 := Lib.hid (show W6.heap[tb]? = some (.cells #[.string o.pred, .int .u32 (t.g : Nat), .int .u32 (o.to : Nat), .int .u64 (T : Nat), .int .u64 (U : Nat)] 41) by rw [← HW6.out]; exact Mk.heap_setCell_same (i := 4) (Mk.heap_setCell_same (i := 3) (Mk.heap_setCell_same (i := 2) HTB5.out _) _) _)
  have HAB6 := Lib.hid ((HC6.out.block ab (Array.getElem?_eq_some_iff.1 HAB5.out).1 (fun e => by have e' : ab = tb := e; have := HTB.out; omega)).trans HAB5.out)
  go_upto_region 20 with fail
  rw [HW6.out]
  clear b0 k7 y0 y1 y2 y3 y4 yf0 yf1 yf2 yf3 yf4
  have y0 : W6.cell? ⟨tb, 0, none⟩ = some (.string o.pred) := cell_of HTB6.out rfl
  have y1 : W6.cell? ⟨tb, 1, none⟩ = some (.int .u32 (t.g : Nat)) := cell_of HTB6.out rfl
  have y2 : W6.cell? ⟨tb, 2, none⟩ = some (.int .u32 (o.to : Nat)) := cell_of HTB6.out rfl
  have y3 : W6.cell? ⟨tb, 3, none⟩ = some (.int .u64 (T : Nat)) := cell_of HTB6.out rfl
  have y4 : W6.cell? ⟨tb, 4, none⟩ = some (.int .u64 (U : Nat)) := cell_of HTB6.out rfl
  have off6 := Lib.hid (show ∀ g', F g' → g' ≠ tb from fun g' f e => HNT.out (by rw [← e]; exact f))
  have HH6 := Lib.hid (H5.out.stay HC6.out (fun g' f => off6.out g' f))
  have CF6 := Lib.hid (show Chg F W2 W6 from (HT5.out.chg).trans' HC6.out (fun g' e => Or.inr (by rw [e, ← HTB.out, ← HS2.out]; exact Nat.le_refl _)))
  have htI := HI.out
  have hR6 : R.t = .slice (some ⟨g, 0, none⟩) r.t.length cap := HV.out
  have PT := HH6.out.putTi (i := i) htI hR6 (o.pred, (⟨t.p, t.g, o.to, T, U⟩ : Tb))
  have HPT := Lib.hid PT.2
  have hfz := PT.1
  obtain ⟨hg6, cap6, hv6, hgl6, a0, a1, a2, a3, a4⟩ := HH6.out.t_at htI
  rw [hR6] at hv6
  injection hv6 with hv61 hv62 hv63
  injection hv61 with hv61
  injection hv61 with hv61
  subst hv61
  rw [show (r).t[i] = (o.pred, t) from HE.out] at a0 a1 a2 a3 a4
  simp only at a0 a1 a2 a3 a4
  have f0 : W6.frozen? ⟨g, i * 5, none⟩ = false := hfz 0 (by decide)
  have f1 : W6.frozen? ⟨g, i * 5 + 1, none⟩ = false := hfz 1 (by decide)
  have f2 : W6.frozen? ⟨g, i * 5 + 2, none⟩ = false := hfz 2 (by decide)
  have f3 : W6.frozen? ⟨g, i * 5 + 3, none⟩ = false := hfz 3 (by decide)
  have f4 : W6.frozen? ⟨g, i * 5 + 4, none⟩ = false := hfz 4 (by decide)
  have HGT := Lib.hid (show g ≠ tb ∧ g ≠ ab from ⟨fun e => by have := HGW.out; have := HTB.out; have := HS2.out; omega, fun e => HNF.out (Or.inl (by rw [← e]; exact HH6.out.ft g (by rw [hR6]; rfl)))⟩)
  have b5 : W6.cell? ⟨b, 5, none⟩ = some (.slice (some ⟨g, 0, none⟩) n cap) := by rw [← HN.out, ← hR6]; exact cell_of HH6.out.box rfl
  clear hfz PT hR6 htI hgl6 hv62 hv63
  go_cut [] from 80 to 86 (fun wx => Hid (RTo W6 b F { r with time := T, t := lay lessB o.pred ⟨t.p, t.g, o.to, T, U⟩ r.t } wx) ∧ Hid (wx.heap[tb]? = some (.cells #[.string o.pred, .int .u32 (t.g : Nat), .int .u32 (o.to : Nat), .int .u64 (T : Nat), .int .u64 (U : Nat)] 41)) ∧ Hid (wx.heap[ab]? = some (.cells #[.int .i64 0, .int .u64 0, .int .u64 0, .string ⟨#[]⟩, .int .u32 0, .int .u32 0, .int .u64 0, .int .u64 0] 46)))
  case first => as_aux_lemma =>
    go_region
    all_goals
      go_wp2_with fail
      go_meet
      case rel =>
        refine ⟨Lib.hid ?_, Lib.hid ?_, Lib.hid ?_⟩
        · have h := HPT.out
          rw [← lay_set lessB_ord _ HI.out HTS.out (by rw [HE.out])] at h
          obtain ⟨R9, h9⟩ := h.is
          exact ⟨⟨R9, h9.same (chgd _)⟩, h.chg.trans ((chgd _).mono (fun _ f => f.elim))⟩
        · exact (set5_other (w := W6) (k := i * 5) (p := (o.pred, (⟨t.p, t.g, o.to, T, U⟩ : Tb))) (fun e => HGT.out.1 e.symm)).trans HTB6.out
        · exact (set5_other (w := W6) (k := i * 5) (p := (o.pred, (⟨t.p, t.g, o.to, T, U⟩ : Tb))) (fun e => HGT.out.2 e.symm)).trans HAB6.out
  case rest =>
    obtain ⟨HT9, HTB9, HAB9⟩ := hcut
    generalize wc = W9 at *
    have HTZ := Lib.hid (RTo.pre CF6.out HT9.out)
    clear b5 a0 a1 a2 a3 a4 f0 f1 f2 f3 f4 y0 y1 y2 y3 y4
    have x0 : W9.cell? ⟨tb, 0, none⟩ = some (.string o.pred) := cell_of HTB9.out rfl
    have x1 : W9.cell? ⟨tb, 1, none⟩ = some (.int .u32 (t.g : Nat)) := cell_of HTB9.out rfl
    have x2 : W9.cell? ⟨tb, 2, none⟩ = some (.int .u32 (o.to : Nat)) := cell_of HTB9.out rfl
    have x3 : W9.cell? ⟨tb, 3, none⟩ = some (.int .u64 (T : Nat)) := cell_of HTB9.out rfl
    have x4 : W9.cell? ⟨tb, 4, none⟩ = some (.int .u64 (U : Nat)) := cell_of HTB9.out rfl
    have z0 : W9.cell? ⟨ab, 0, none⟩ = some (.int .i64 0) := cell_of HAB9.out rfl
    have zf0 : W9.frozen? ⟨ab, 0, none⟩ = false := frozen_of HAB9.out
    have z1 : W9.cell? ⟨ab, 1, none⟩ = some (.int .u64 0) := cell_of HAB9.out rfl
    have zf1 : W9.frozen? ⟨ab, 1, none⟩ = false := frozen_of HAB9.out
    have z2 : W9.cell? ⟨ab, 2, none⟩ = some (.int .u64 0) := cell_of HAB9.out rfl
    have zf2 : W9.frozen? ⟨ab, 2, none⟩ = false := frozen_of HAB9.out
    have z3 : W9.cell? ⟨ab, 3, none⟩ = some (.string ⟨#[]⟩) := cell_of HAB9.out rfl
    have zf3 : W9.frozen? ⟨ab, 3, none⟩ = false := frozen_of HAB9.out
    have z4 : W9.cell? ⟨ab, 4, none⟩ = some (.int .u32 0) := cell_of HAB9.out rfl
    have zf4 : W9.frozen? ⟨ab, 4, none⟩ = false := frozen_of HAB9.out
    have z5 : W9.cell? ⟨ab, 5, none⟩ = some (.int .u32 0) := cell_of HAB9.out rfl
    have zf5 : W9.frozen? ⟨ab, 5, none⟩ = false := frozen_of HAB9.out
    have z6 : W9.cell? ⟨ab, 6, none⟩ = some (.int .u64 0) := cell_of HAB9.out rfl
    have zf6 : W9.frozen? ⟨ab, 6, none⟩ = false := frozen_of HAB9.out
    have z7 : W9.cell? ⟨ab, 7, none⟩ = some (.int .u64 0) := cell_of HAB9.out rfl
    have zf7 : W9.frozen? ⟨ab, 7, none⟩ = false := frozen_of HAB9.out
    go_wp2_with fail
    obtain ⟨hh, hk8⟩ := fin8 HAB9.out (.int .i64 0) (.int .u64 0) (.int .u64 0) (.string o.pred) (.int .u32 (t.g : Nat)) (.int .u32 (o.to : Nat)) (.int .u64 (T : Nat)) (.int .u64 (U : Nat))
    refine bodyPost_ret (results_cell_row (p := 4) (ty := 46) rfl _ _ ab 46 _ (0, 0) _ rfl hh Tryz.underlying46 rfl (by kernel_rfl)) rfl ⟨rfl, ?_⟩
    exact RTo.box HTZ.out hk8 HNF.out HC2.out HLE.out
set_option maxRecDepth 100000 in
set_option maxHeartbeats 8000000 in
theorem rturn_7 (h : RRep w b R F r) (hF : ∀ g, F g → g < w.heap.size) (ho : OpAt w o l) (hfit : Fit r B) (hB : B ≤ 900000) (hk : o.k = 7) {t : Tb} (hl : lk r.t o.pred = some t) (hx : t.to ≠ 0 ∧ t.at_ = o.at_) :
    Calls Tryz.prog 64 #[.pointer (some ⟨b, 0, none⟩), .agg (opC o l)] w fun e w' => e = .returned (.agg #[.int .i64 0, .int .u64 0, .int .u64 0, .string o.pred, .int .u32 (t.to : Nat), .int .u32 (0 : Nat), .int .u64 (0 : Nat), .int .u64 (t.tn + 1 : Nat)]) ∧ RTo w b F { r with t := lay lessB o.pred ⟨t.p, t.to, 0, 0, t.tn + 1⟩ r.t } w' := by
  obtain ⟨W2, ob, ab, hW2, hob, hab, ho2, ha2, hc2, hs2⟩ := two_boxes w o l
  have HW2 := Lib.hid hW2
  have HOS := Lib.hid hob
  have HAS := Lib.hid hab
  have HOB := Lib.hid ho2
  have HAB := Lib.hid ha2
  have HC2 := Lib.hid hc2
  have HH := Lib.hid (h.same hc2)
  have HNF := Lib.hid (show ¬ (F ab ∨ W2.heap.size ≤ ab) from fun e => by rcases e with e | e; exact absurd (hF _ e) (by omega); omega)
  have HNO := Lib.hid (show ¬ (F ob ∨ W2.heap.size ≤ ob) from fun e => by rcases e with e | e; exact absurd (hF _ e) (by omega); omega)
  have HLE := Lib.hid (show w.heap.size ≤ ab by omega)
  have HO2 := Lib.hid (ho.same hc2)
  have qk5 : ((o.k : Int) == 5) = false := by rw [hk]; rfl
  have qn5 : decide (o.k = 5) = false := by rw [hk]; rfl
  have qk6 : ((o.k : Int) == 6) = false := by rw [hk]; rfl
  have qn6 : decide (o.k = 6) = false := by rw [hk]; rfl
  have qk7 : ((o.k : Int) == 7) = true := by rw [hk]; rfl
  have qn7 : decide (o.k = 7) = true := by rw [hk]; rfl
  have hx1 := hx.1
  have hx2 := hx.2
  have ce : ((t.to : Int) == (0 : Int)) = false := by rw [beq_eq_false_iff_ne]; omega
  have cn : ((t.to : Int) != (0 : Int)) = true := by rw [bne_iff_ne]; omega
  have cd : decide ((t.to : Int) = (0 : Int)) = false := by simp; omega
  have fe : ((t.at_ : Int) == (o.at_ : Int)) = true := by rw [beq_iff_eq]; omega
  have fn : ((t.at_ : Int) != (o.at_ : Int)) = false := by rw [bne_eq_false_iff_eq]; omega
  have fd : decide ((t.at_ : Int) = (o.at_ : Int)) = true := by simp; omega
  clear hx1 hx2
  obtain ⟨i, hi, ei, hbf⟩ := tab_find hfit.ts hl
  have hp : t.p = o.pred := hfit.tp _ (lk_mem hl)
  have TB := Lib.hid (rtab_some HH.out o.pred hi (by rw [ei]) hbf)
  obtain ⟨g, cap, hv, hg, d0, d1, d2, d3, d4⟩ := HH.out.t_at hi
  rw [ei] at d0 d1 d2 d3 d4
  simp only at d0 d1 d2 d3 d4
  obtain ⟨n, hn⟩ : ∃ n, r.t.length = n := ⟨_, rfl⟩
  have HV := Lib.hid hv
  have HI := Lib.hid hi
  have HE := Lib.hid ei
  have HN := Lib.hid hn
  have HP := Lib.hid hp
  have e5 : W2.cell? ⟨b, 5, none⟩ = some (.slice (some ⟨g, 0, none⟩) n cap) := by rw [← hn, ← hv]; exact cell_of HH.out.box rfl
  have l0 : (0 : Int) ≤ i := by omega
  have l1 : (i : Int) < n := by omega
  have l2 : decide ((i : Int) < 0) = false := by simp
  have HGW := Lib.hid hg
  have HTS := Lib.hid hfit.ts
  have HTI := Lib.hid hfit.time
  have HTN := Lib.hid (show t.tn ≤ B from hfit.tn _ (lk_mem hl))
  have HBB := Lib.hid hB
  have k0 : W2.cell? ⟨ob, 0, none⟩ = some (.int .u8 (o.k : Nat)) := cell_of HOB.out rfl
  have k5 : W2.cell? ⟨ob, 5, none⟩ = some (.string o.pred) := cell_of HOB.out rfl
  obtain ⟨W4, HW4⟩ : ∃ W, Hid (W2.alloc (.cells #[.string o.pred, .int .u32 (t.g : Nat), .int .u32 (t.to : Nat), .int .u64 (t.at_ : Nat), .int .u64 (t.tn : Nat)] 41) = W) := ⟨_, Lib.hid rfl⟩
  obtain ⟨tb, HTB⟩ : ∃ k, Hid (ab + 1 = k) := ⟨_, Lib.hid rfl⟩
  have HS2 := Lib.hid hs2
  have HTB4 := Lib.hid (show W4.heap[tb]? = some (.cells #[.string o.pred, .int .u32 (t.g : Nat), .int .u32 (t.to : Nat), .int .u64 (t.at_ : Nat), .int .u64 (t.tn : Nat)] 41) by rw [← HW4.out, ← HTB.out, ← hs2]; exact Go.heap_alloc_new _ _)
  have C4 := Lib.hid (show Chg (fun _ => False) W2 W4 by rw [← HW4.out]; exact (Chg.refl _ _).alloc _)
  have HH4 := Lib.hid (HH.out.same C4.out)
  have HNT := Lib.hid (show ¬ F tb from fun e => by have := hF _ e; have := HTB.out; omega)
  have HT4 := Lib.hid (show RTo W2 b F r W4 from ⟨⟨R, HH4.out.wide (fun _ => Or.inl)⟩, C4.out.mono (fun _ f => f.elim)⟩)
  have HAB4 := Lib.hid ((C4.out.block ab (Array.getElem?_eq_some_iff.1 HAB.out).1 (fun f => f)).trans HAB.out)
  have HOB4 := Lib.hid ((C4.out.block ob (Array.getElem?_eq_some_iff.1 HOB.out).1 (fun f => f)).trans HOB.out)
  clear h hF ho hfit hB hW2 hob hab ho2 ha2 hc2 hs2 hl ei hbf hp hv hn hg hk hx
  obtain ⟨U, hU⟩ : ∃ U, t.tn + 1 = U := ⟨_, rfl⟩
  have HUU := Lib.hid hU
  have wU : IntKind.u64.wrap ((t.tn : Int) + 1) = U := wrap_nxt (by have := HTN.out; have := HBB.out; rw [hU]; exact Nat.mod_eq_of_lt (by omega))
  obtain ⟨T, hT⟩ : ∃ T, r.time + 1 = T := ⟨_, rfl⟩
  have HTT := Lib.hid hT
  have wT : IntKind.u64.wrap ((r.time : Int) + 1) = T := wrap_nxt (by have := HTI.out; have := HBB.out; rw [hT]; exact Nat.mod_eq_of_lt (by omega))
  rw [hU]
  clear hU hT
  go_enter Tryz.func64, Tryz.ntmps64
  go_upto_region 1 with fail
  rw [HW2.out, HOS.out, HAS.out]
  go_wp2_with fail
  refine TB.out.mono ?_
  rintro e w4 ⟨rfl, hw4⟩
  obtain rfl : W2 = w4 := hw4.symm
  go_upto_region 11 with fail
  rw [HS2.out, HW4.out, HTB.out]
  clear e5 d0 d1 d2 d3 d4 k0 k5
  have k0 : W4.cell? ⟨ob, 0, none⟩ = some (.int .u8 (o.k : Nat)) := cell_of HOB4.out rfl
  have k1 : W4.cell? ⟨ob, 1, none⟩ = some (.int .u32 (o.n : Nat)) := cell_of HOB4.out rfl
  have k2 : W4.cell? ⟨ob, 2, none⟩ = some (.int .u64 (o.st : Nat)) := cell_of HOB4.out rfl
  have k3 : W4.cell? ⟨ob, 3, none⟩ = some (.slice l.ko o.keys.length l.kc) := cell_of HOB4.out rfl
  have k4 : W4.cell? ⟨ob, 4, none⟩ = some (.slice l.no o.needs.length l.nc) := cell_of HOB4.out rfl
  have k5 : W4.cell? ⟨ob, 5, none⟩ = some (.string o.pred) := cell_of HOB4.out rfl
  have k6 : W4.cell? ⟨ob, 6, none⟩ = some (.int .u32 (o.g : Nat)) := cell_of HOB4.out rfl
  have k7 : W4.cell? ⟨ob, 7, none⟩ = some (.int .u32 (o.to : Nat)) := cell_of HOB4.out rfl
  have k8 : W4.cell? ⟨ob, 8, none⟩ = some (.int .u64 (o.at_ : Nat)) := cell_of HOB4.out rfl
  have y0 : W4.cell? ⟨tb, 0, none⟩ = some (.string o.pred) := cell_of HTB4.out rfl
  have yf0 : W4.frozen? ⟨tb, 0, none⟩ = false := frozen_of HTB4.out
  have y1 : W4.cell? ⟨tb, 1, none⟩ = some (.int .u32 (t.g : Nat)) := cell_of HTB4.out rfl
  have yf1 : W4.frozen? ⟨tb, 1, none⟩ = false := frozen_of HTB4.out
  have y2 : W4.cell? ⟨tb, 2, none⟩ = some (.int .u32 (t.to : Nat)) := cell_of HTB4.out rfl
  have yf2 : W4.frozen? ⟨tb, 2, none⟩ = false := frozen_of HTB4.out
  have y3 : W4.cell? ⟨tb, 3, none⟩ = some (.int .u64 (t.at_ : Nat)) := cell_of HTB4.out rfl
  have yf3 : W4.frozen? ⟨tb, 3, none⟩ = false := frozen_of HTB4.out
  have y4 : W4.cell? ⟨tb, 4, none⟩ = some (.int .u64 (t.tn : Nat)) := cell_of HTB4.out rfl
  have yf4 : W4.frozen? ⟨tb, 4, none⟩ = false := frozen_of HTB4.out
  have H5 := Lib.hid HH4.out
  have HT5 := Lib.hid HT4.out
  obtain ⟨W6, HW6⟩ : ∃ W, Hid ((((W4.setCell ⟨tb, 1, none⟩ (.int .u32 (t.to : Nat))).setCell ⟨tb, 2, none⟩ (.int .u32 0)).setCell ⟨tb, 3, none⟩ (.int .u64 0)).setCell ⟨tb, 4, none⟩ (.int .u64 (U : Nat)) = W) := ⟨_, Lib.hid rfl⟩
  have HC6 := Lib.hid (show Chg (fun g' => g' = tb) W4 W6 by rw [← HW6.out]; exact ((((Chg.refl (fun j => j = tb) W4).setCell (a := ⟨tb, 1, none⟩) (Or.inl rfl) _).setCell (a := ⟨tb, 2, none⟩) (Or.inl rfl) _).setCell (a := ⟨tb, 3, none⟩) (Or.inl rfl) _).setCell (a := ⟨tb, 4, none⟩) (Or.inl rfl) _)
  have HTB6 := Lib.hid (show W6.heap[tb]? = some (.cells #[.string o.pred, .int .u32 (t.to : Nat), .int .u32 0, .int .u64 0, .int .u64 (U : Nat)] 41) by rw [← HW6.out]; exact Mk.heap_setCell_same (i := 4) (Mk.heap_setCell_same (i := 3) (Mk.heap_setCell_same (i := 2) (Mk.heap_setCell_same (i := 1) HTB4.out _) _) _) _)
  have HAB6 := Lib.hid ((HC6.out.block ab (Array.getElem?_eq_some_iff.1 HAB4.out).1 (fun e => by have e' : ab = tb := e; have := HTB.out; omega)).trans HAB4.out)
  go_upto_region 29 with fail
  rw [HW6.out]
  clear k0 k1 k2 k3 k4 k5 k6 k7 k8 y0 y1 y2 y3 y4 yf0 yf1 yf2 yf3 yf4
  have y0 : W6.cell? ⟨tb, 0, none⟩ = some (.string o.pred) := cell_of HTB6.out rfl
  have y1 : W6.cell? ⟨tb, 1, none⟩ = some (.int .u32 (t.to : Nat)) := cell_of HTB6.out rfl
  have y2 : W6.cell? ⟨tb, 2, none⟩ = some (.int .u32 0) := cell_of HTB6.out rfl
  have y3 : W6.cell? ⟨tb, 3, none⟩ = some (.int .u64 0) := cell_of HTB6.out rfl
  have y4 : W6.cell? ⟨tb, 4, none⟩ = some (.int .u64 (U : Nat)) := cell_of HTB6.out rfl
  have off6 := Lib.hid (show ∀ g', F g' → g' ≠ tb from fun g' f e => HNT.out (by rw [← e]; exact f))
  have HH6 := Lib.hid (H5.out.stay HC6.out (fun g' f => off6.out g' f))
  have CF6 := Lib.hid (show Chg F W2 W6 from (HT5.out.chg).trans' HC6.out (fun g' e => Or.inr (by rw [e, ← HTB.out, ← HS2.out]; exact Nat.le_refl _)))
  have htI := HI.out
  have hR6 : R.t = .slice (some ⟨g, 0, none⟩) r.t.length cap := HV.out
  have PT := HH6.out.putTi (i := i) htI hR6 (o.pred, (⟨t.p, t.to, 0, 0, U⟩ : Tb))
  have HPT := Lib.hid PT.2
  have hfz := PT.1
  obtain ⟨hg6, cap6, hv6, hgl6, a0, a1, a2, a3, a4⟩ := HH6.out.t_at htI
  rw [hR6] at hv6
  injection hv6 with hv61 hv62 hv63
  injection hv61 with hv61
  injection hv61 with hv61
  subst hv61
  rw [show (r).t[i] = (o.pred, t) from HE.out] at a0 a1 a2 a3 a4
  simp only at a0 a1 a2 a3 a4
  have f0 : W6.frozen? ⟨g, i * 5, none⟩ = false := hfz 0 (by decide)
  have f1 : W6.frozen? ⟨g, i * 5 + 1, none⟩ = false := hfz 1 (by decide)
  have f2 : W6.frozen? ⟨g, i * 5 + 2, none⟩ = false := hfz 2 (by decide)
  have f3 : W6.frozen? ⟨g, i * 5 + 3, none⟩ = false := hfz 3 (by decide)
  have f4 : W6.frozen? ⟨g, i * 5 + 4, none⟩ = false := hfz 4 (by decide)
  have HGT := Lib.hid (show g ≠ tb ∧ g ≠ ab from ⟨fun e => by have := HGW.out; have := HTB.out; have := HS2.out; omega, fun e => HNF.out (Or.inl (by rw [← e]; exact HH6.out.ft g (by rw [hR6]; rfl)))⟩)
  have b5 : W6.cell? ⟨b, 5, none⟩ = some (.slice (some ⟨g, 0, none⟩) n cap) := by rw [← HN.out, ← hR6]; exact cell_of HH6.out.box rfl
  clear hfz PT hR6 htI hgl6 hv62 hv63
  go_cut [] from 113 to 119 (fun wx => Hid (RTo W6 b F { r with t := lay lessB o.pred ⟨t.p, t.to, 0, 0, U⟩ r.t } wx) ∧ Hid (wx.heap[tb]? = some (.cells #[.string o.pred, .int .u32 (t.to : Nat), .int .u32 (0 : Nat), .int .u64 (0 : Nat), .int .u64 (U : Nat)] 41)) ∧ Hid (wx.heap[ab]? = some (.cells #[.int .i64 0, .int .u64 0, .int .u64 0, .string ⟨#[]⟩, .int .u32 0, .int .u32 0, .int .u64 0, .int .u64 0] 46)))
  case first => as_aux_lemma =>
    go_region
    all_goals
      go_wp2_with fail
      go_meet
      case rel =>
        refine ⟨Lib.hid ?_, Lib.hid ?_, Lib.hid ?_⟩
        · have h := HPT.out
          rw [← lay_set lessB_ord _ HI.out HTS.out (by rw [HE.out])] at h
          obtain ⟨R9, h9⟩ := h.is
          exact ⟨⟨R9, h9.same (chgd _)⟩, h.chg.trans ((chgd _).mono (fun _ f => f.elim))⟩
        · exact (set5_other (w := W6) (k := i * 5) (p := (o.pred, (⟨t.p, t.to, 0, 0, U⟩ : Tb))) (fun e => HGT.out.1 e.symm)).trans HTB6.out
        · exact (set5_other (w := W6) (k := i * 5) (p := (o.pred, (⟨t.p, t.to, 0, 0, U⟩ : Tb))) (fun e => HGT.out.2 e.symm)).trans HAB6.out
  case rest =>
    obtain ⟨HT9, HTB9, HAB9⟩ := hcut
    generalize wc = W9 at *
    have HTZ := Lib.hid (RTo.pre CF6.out HT9.out)
    clear b5 a0 a1 a2 a3 a4 f0 f1 f2 f3 f4 y0 y1 y2 y3 y4
    have x0 : W9.cell? ⟨tb, 0, none⟩ = some (.string o.pred) := cell_of HTB9.out rfl
    have x1 : W9.cell? ⟨tb, 1, none⟩ = some (.int .u32 (t.to : Nat)) := cell_of HTB9.out rfl
    have x2 : W9.cell? ⟨tb, 2, none⟩ = some (.int .u32 (0 : Nat)) := cell_of HTB9.out rfl
    have x3 : W9.cell? ⟨tb, 3, none⟩ = some (.int .u64 (0 : Nat)) := cell_of HTB9.out rfl
    have x4 : W9.cell? ⟨tb, 4, none⟩ = some (.int .u64 (U : Nat)) := cell_of HTB9.out rfl
    have z0 : W9.cell? ⟨ab, 0, none⟩ = some (.int .i64 0) := cell_of HAB9.out rfl
    have zf0 : W9.frozen? ⟨ab, 0, none⟩ = false := frozen_of HAB9.out
    have z1 : W9.cell? ⟨ab, 1, none⟩ = some (.int .u64 0) := cell_of HAB9.out rfl
    have zf1 : W9.frozen? ⟨ab, 1, none⟩ = false := frozen_of HAB9.out
    have z2 : W9.cell? ⟨ab, 2, none⟩ = some (.int .u64 0) := cell_of HAB9.out rfl
    have zf2 : W9.frozen? ⟨ab, 2, none⟩ = false := frozen_of HAB9.out
    have z3 : W9.cell? ⟨ab, 3, none⟩ = some (.string ⟨#[]⟩) := cell_of HAB9.out rfl
    have zf3 : W9.frozen? ⟨ab, 3, none⟩ = false := frozen_of HAB9.out
    have z4 : W9.cell? ⟨ab, 4, none⟩ = some (.int .u32 0) := cell_of HAB9.out rfl
    have zf4 : W9.frozen? ⟨ab, 4, none⟩ = false := frozen_of HAB9.out
    have z5 : W9.cell? ⟨ab, 5, none⟩ = some (.int .u32 0) := cell_of HAB9.out rfl
    have zf5 : W9.frozen? ⟨ab, 5, none⟩ = false := frozen_of HAB9.out
    have z6 : W9.cell? ⟨ab, 6, none⟩ = some (.int .u64 0) := cell_of HAB9.out rfl
    have zf6 : W9.frozen? ⟨ab, 6, none⟩ = false := frozen_of HAB9.out
    have z7 : W9.cell? ⟨ab, 7, none⟩ = some (.int .u64 0) := cell_of HAB9.out rfl
    have zf7 : W9.frozen? ⟨ab, 7, none⟩ = false := frozen_of HAB9.out
    go_wp2_with fail
    obtain ⟨hh, hk8⟩ := fin8 HAB9.out (.int .i64 0) (.int .u64 0) (.int .u64 0) (.string o.pred) (.int .u32 (t.to : Nat)) (.int .u32 (0 : Nat)) (.int .u64 (0 : Nat)) (.int .u64 (U : Nat))
    refine bodyPost_ret (results_cell_row (p := 4) (ty := 46) rfl _ _ ab 46 _ (0, 0) _ rfl hh Tryz.underlying46 rfl (by kernel_rfl)) rfl ⟨rfl, ?_⟩
    exact RTo.box HTZ.out hk8 HNF.out HC2.out HLE.out
set_option maxRecDepth 100000 in
set_option maxHeartbeats 8000000 in
theorem rturn_8 (h : RRep w b R F r) (hF : ∀ g, F g → g < w.heap.size) (ho : OpAt w o l) (hfit : Fit r B) (hB : B ≤ 900000) (hk : o.k = 8) {t : Tb} (hl : lk r.t o.pred = some t) (hx : t.to ≠ 0 ∧ t.at_ = o.at_) :
    Calls Tryz.prog 64 #[.pointer (some ⟨b, 0, none⟩), .agg (opC o l)] w fun e w' => e = .returned (.agg #[.int .i64 0, .int .u64 0, .int .u64 0, .string o.pred, .int .u32 (t.g : Nat), .int .u32 (0 : Nat), .int .u64 (0 : Nat), .int .u64 (t.tn + 1 : Nat)]) ∧ RTo w b F { r with t := lay lessB o.pred ⟨t.p, t.g, 0, 0, t.tn + 1⟩ r.t } w' := by
  obtain ⟨W2, ob, ab, hW2, hob, hab, ho2, ha2, hc2, hs2⟩ := two_boxes w o l
  have HW2 := Lib.hid hW2
  have HOS := Lib.hid hob
  have HAS := Lib.hid hab
  have HOB := Lib.hid ho2
  have HAB := Lib.hid ha2
  have HC2 := Lib.hid hc2
  have HH := Lib.hid (h.same hc2)
  have HNF := Lib.hid (show ¬ (F ab ∨ W2.heap.size ≤ ab) from fun e => by rcases e with e | e; exact absurd (hF _ e) (by omega); omega)
  have HNO := Lib.hid (show ¬ (F ob ∨ W2.heap.size ≤ ob) from fun e => by rcases e with e | e; exact absurd (hF _ e) (by omega); omega)
  have HLE := Lib.hid (show w.heap.size ≤ ab by omega)
  have HO2 := Lib.hid (ho.same hc2)
  have qk5 : ((o.k : Int) == 5) = false := by rw [hk]; rfl
  have qn5 : decide (o.k = 5) = false := by rw [hk]; rfl
  have qk6 : ((o.k : Int) == 6) = false := by rw [hk]; rfl
  have qn6 : decide (o.k = 6) = false := by rw [hk]; rfl
  have qk7 : ((o.k : Int) == 7) = false := by rw [hk]; rfl
  have qn7 : decide (o.k = 7) = false := by rw [hk]; rfl
  have hx1 := hx.1
  have hx2 := hx.2
  have ce : ((t.to : Int) == (0 : Int)) = false := by rw [beq_eq_false_iff_ne]; omega
  have cn : ((t.to : Int) != (0 : Int)) = true := by rw [bne_iff_ne]; omega
  have cd : decide ((t.to : Int) = (0 : Int)) = false := by simp; omega
  have fe : ((t.at_ : Int) == (o.at_ : Int)) = true := by rw [beq_iff_eq]; omega
  have fn : ((t.at_ : Int) != (o.at_ : Int)) = false := by rw [bne_eq_false_iff_eq]; omega
  have fd : decide ((t.at_ : Int) = (o.at_ : Int)) = true := by simp; omega
  clear hx1 hx2
  obtain ⟨i, hi, ei, hbf⟩ := tab_find hfit.ts hl
  have hp : t.p = o.pred := hfit.tp _ (lk_mem hl)
  have TB := Lib.hid (rtab_some HH.out o.pred hi (by rw [ei]) hbf)
  obtain ⟨g, cap, hv, hg, d0, d1, d2, d3, d4⟩ := HH.out.t_at hi
  rw [ei] at d0 d1 d2 d3 d4
  simp only at d0 d1 d2 d3 d4
  obtain ⟨n, hn⟩ : ∃ n, r.t.length = n := ⟨_, rfl⟩
  have HV := Lib.hid hv
  have HI := Lib.hid hi
  have HE := Lib.hid ei
  have HN := Lib.hid hn
  have HP := Lib.hid hp
  have e5 : W2.cell? ⟨b, 5, none⟩ = some (.slice (some ⟨g, 0, none⟩) n cap) := by rw [← hn, ← hv]; exact cell_of HH.out.box rfl
  have l0 : (0 : Int) ≤ i := by omega
  have l1 : (i : Int) < n := by omega
  have l2 : decide ((i : Int) < 0) = false := by simp
  have HGW := Lib.hid hg
  have HTS := Lib.hid hfit.ts
  have HTI := Lib.hid hfit.time
  have HTN := Lib.hid (show t.tn ≤ B from hfit.tn _ (lk_mem hl))
  have HBB := Lib.hid hB
  have k0 : W2.cell? ⟨ob, 0, none⟩ = some (.int .u8 (o.k : Nat)) := cell_of HOB.out rfl
  have k5 : W2.cell? ⟨ob, 5, none⟩ = some (.string o.pred) := cell_of HOB.out rfl
  obtain ⟨W4, HW4⟩ : ∃ W, Hid (W2.alloc (.cells #[.string o.pred, .int .u32 (t.g : Nat), .int .u32 (t.to : Nat), .int .u64 (t.at_ : Nat), .int .u64 (t.tn : Nat)] 41) = W) := ⟨_, Lib.hid rfl⟩
  obtain ⟨tb, HTB⟩ : ∃ k, Hid (ab + 1 = k) := ⟨_, Lib.hid rfl⟩
  have HS2 := Lib.hid hs2
  have HTB4 := Lib.hid (show W4.heap[tb]? = some (.cells #[.string o.pred, .int .u32 (t.g : Nat), .int .u32 (t.to : Nat), .int .u64 (t.at_ : Nat), .int .u64 (t.tn : Nat)] 41) by rw [← HW4.out, ← HTB.out, ← hs2]; exact Go.heap_alloc_new _ _)
  have C4 := Lib.hid (show Chg (fun _ => False) W2 W4 by rw [← HW4.out]; exact (Chg.refl _ _).alloc _)
  have HH4 := Lib.hid (HH.out.same C4.out)
  have HNT := Lib.hid (show ¬ F tb from fun e => by have := hF _ e; have := HTB.out; omega)
  have HT4 := Lib.hid (show RTo W2 b F r W4 from ⟨⟨R, HH4.out.wide (fun _ => Or.inl)⟩, C4.out.mono (fun _ f => f.elim)⟩)
  have HAB4 := Lib.hid ((C4.out.block ab (Array.getElem?_eq_some_iff.1 HAB.out).1 (fun f => f)).trans HAB.out)
  have HOB4 := Lib.hid ((C4.out.block ob (Array.getElem?_eq_some_iff.1 HOB.out).1 (fun f => f)).trans HOB.out)
  clear h hF ho hfit hB hW2 hob hab ho2 ha2 hc2 hs2 hl ei hbf hp hv hn hg hk hx
  obtain ⟨U, hU⟩ : ∃ U, t.tn + 1 = U := ⟨_, rfl⟩
  have HUU := Lib.hid hU
  have wU : IntKind.u64.wrap ((t.tn : Int) + 1) = U := wrap_nxt (by have := HTN.out; have := HBB.out; rw [hU]; exact Nat.mod_eq_of_lt (by omega))
  obtain ⟨T, hT⟩ : ∃ T, r.time + 1 = T := ⟨_, rfl⟩
  have HTT := Lib.hid hT
  have wT : IntKind.u64.wrap ((r.time : Int) + 1) = T := wrap_nxt (by have := HTI.out; have := HBB.out; rw [hT]; exact Nat.mod_eq_of_lt (by omega))
  rw [hU]
  clear hU hT
  go_enter Tryz.func64, Tryz.ntmps64
  go_upto_region 1 with fail
  rw [HW2.out, HOS.out, HAS.out]
  go_wp2_with fail
  refine TB.out.mono ?_
  rintro e w4 ⟨rfl, hw4⟩
  obtain rfl : W2 = w4 := hw4.symm
  go_upto_region 11 with fail
  rw [HS2.out, HW4.out, HTB.out]
  clear e5 d0 d1 d2 d3 d4 k0 k5
  have k0 : W4.cell? ⟨ob, 0, none⟩ = some (.int .u8 (o.k : Nat)) := cell_of HOB4.out rfl
  have k1 : W4.cell? ⟨ob, 1, none⟩ = some (.int .u32 (o.n : Nat)) := cell_of HOB4.out rfl
  have k2 : W4.cell? ⟨ob, 2, none⟩ = some (.int .u64 (o.st : Nat)) := cell_of HOB4.out rfl
  have k3 : W4.cell? ⟨ob, 3, none⟩ = some (.slice l.ko o.keys.length l.kc) := cell_of HOB4.out rfl
  have k4 : W4.cell? ⟨ob, 4, none⟩ = some (.slice l.no o.needs.length l.nc) := cell_of HOB4.out rfl
  have k5 : W4.cell? ⟨ob, 5, none⟩ = some (.string o.pred) := cell_of HOB4.out rfl
  have k6 : W4.cell? ⟨ob, 6, none⟩ = some (.int .u32 (o.g : Nat)) := cell_of HOB4.out rfl
  have k7 : W4.cell? ⟨ob, 7, none⟩ = some (.int .u32 (o.to : Nat)) := cell_of HOB4.out rfl
  have k8 : W4.cell? ⟨ob, 8, none⟩ = some (.int .u64 (o.at_ : Nat)) := cell_of HOB4.out rfl
  have y0 : W4.cell? ⟨tb, 0, none⟩ = some (.string o.pred) := cell_of HTB4.out rfl
  have yf0 : W4.frozen? ⟨tb, 0, none⟩ = false := frozen_of HTB4.out
  have y1 : W4.cell? ⟨tb, 1, none⟩ = some (.int .u32 (t.g : Nat)) := cell_of HTB4.out rfl
  have yf1 : W4.frozen? ⟨tb, 1, none⟩ = false := frozen_of HTB4.out
  have y2 : W4.cell? ⟨tb, 2, none⟩ = some (.int .u32 (t.to : Nat)) := cell_of HTB4.out rfl
  have yf2 : W4.frozen? ⟨tb, 2, none⟩ = false := frozen_of HTB4.out
  have y3 : W4.cell? ⟨tb, 3, none⟩ = some (.int .u64 (t.at_ : Nat)) := cell_of HTB4.out rfl
  have yf3 : W4.frozen? ⟨tb, 3, none⟩ = false := frozen_of HTB4.out
  have y4 : W4.cell? ⟨tb, 4, none⟩ = some (.int .u64 (t.tn : Nat)) := cell_of HTB4.out rfl
  have yf4 : W4.frozen? ⟨tb, 4, none⟩ = false := frozen_of HTB4.out
  have H5 := Lib.hid HH4.out
  have HT5 := Lib.hid HT4.out
  obtain ⟨W6, HW6⟩ : ∃ W, Hid (((W4.setCell ⟨tb, 2, none⟩ (.int .u32 0)).setCell ⟨tb, 3, none⟩ (.int .u64 0)).setCell ⟨tb, 4, none⟩ (.int .u64 (U : Nat)) = W) := ⟨_, Lib.hid rfl⟩
  have HC6 := Lib.hid (show Chg (fun g' => g' = tb) W4 W6 by rw [← HW6.out]; exact (((Chg.refl (fun j => j = tb) W4).setCell (a := ⟨tb, 2, none⟩) (Or.inl rfl) _).setCell (a := ⟨tb, 3, none⟩) (Or.inl rfl) _).setCell (a := ⟨tb, 4, none⟩) (Or.inl rfl) _)
  have HTB6 := Lib.hid (show W6.heap[tb]? = some (.cells #[.string o.pred, .int .u32 (t.g : Nat), .int .u32 0, .int .u64 0, .int .u64 (U : Nat)] 41) by rw [← HW6.out]; exact Mk.heap_setCell_same (i := 4) (Mk.heap_setCell_same (i := 3) (Mk.heap_setCell_same (i := 2) HTB4.out _) _) _)
  have HAB6 := Lib.hid ((HC6.out.block ab (Array.getElem?_eq_some_iff.1 HAB4.out).1 (fun e => by have e' : ab = tb := e; have := HTB.out; omega)).trans HAB4.out)
  go_upto_region 29 with fail
  rw [HW6.out]
  clear k0 k1 k2 k3 k4 k5 k6 k7 k8 y0 y1 y2 y3 y4 yf0 yf1 yf2 yf3 yf4
  have y0 : W6.cell? ⟨tb, 0, none⟩ = some (.string o.pred) := cell_of HTB6.out rfl
  have y1 : W6.cell? ⟨tb, 1, none⟩ = some (.int .u32 (t.g : Nat)) := cell_of HTB6.out rfl
  have y2 : W6.cell? ⟨tb, 2, none⟩ = some (.int .u32 0) := cell_of HTB6.out rfl
  have y3 : W6.cell? ⟨tb, 3, none⟩ = some (.int .u64 0) := cell_of HTB6.out rfl
  have y4 : W6.cell? ⟨tb, 4, none⟩ = some (.int .u64 (U : Nat)) := cell_of HTB6.out rfl
  have off6 := Lib.hid (show ∀ g', F g' → g' ≠ tb from fun g' f e => HNT.out (by rw [← e]; exact f))
  have HH6 := Lib.hid (H5.out.stay HC6.out (fun g' f => off6.out g' f))
  have CF6 := Lib.hid (show Chg F W2 W6 from (HT5.out.chg).trans' HC6.out (fun g' e => Or.inr (by rw [e, ← HTB.out, ← HS2.out]; exact Nat.le_refl _)))
  have htI := HI.out
  have hR6 : R.t = .slice (some ⟨g, 0, none⟩) r.t.length cap := HV.out
  have PT := HH6.out.putTi (i := i) htI hR6 (o.pred, (⟨t.p, t.g, 0, 0, U⟩ : Tb))
  have HPT := Lib.hid PT.2
  have hfz := PT.1
  obtain ⟨hg6, cap6, hv6, hgl6, a0, a1, a2, a3, a4⟩ := HH6.out.t_at htI
  rw [hR6] at hv6
  injection hv6 with hv61 hv62 hv63
  injection hv61 with hv61
  injection hv61 with hv61
  subst hv61
  rw [show (r).t[i] = (o.pred, t) from HE.out] at a0 a1 a2 a3 a4
  simp only at a0 a1 a2 a3 a4
  have f0 : W6.frozen? ⟨g, i * 5, none⟩ = false := hfz 0 (by decide)
  have f1 : W6.frozen? ⟨g, i * 5 + 1, none⟩ = false := hfz 1 (by decide)
  have f2 : W6.frozen? ⟨g, i * 5 + 2, none⟩ = false := hfz 2 (by decide)
  have f3 : W6.frozen? ⟨g, i * 5 + 3, none⟩ = false := hfz 3 (by decide)
  have f4 : W6.frozen? ⟨g, i * 5 + 4, none⟩ = false := hfz 4 (by decide)
  have HGT := Lib.hid (show g ≠ tb ∧ g ≠ ab from ⟨fun e => by have := HGW.out; have := HTB.out; have := HS2.out; omega, fun e => HNF.out (Or.inl (by rw [← e]; exact HH6.out.ft g (by rw [hR6]; rfl)))⟩)
  have b5 : W6.cell? ⟨b, 5, none⟩ = some (.slice (some ⟨g, 0, none⟩) n cap) := by rw [← HN.out, ← hR6]; exact cell_of HH6.out.box rfl
  clear hfz PT hR6 htI hgl6 hv62 hv63
  go_cut [] from 113 to 119 (fun wx => Hid (RTo W6 b F { r with t := lay lessB o.pred ⟨t.p, t.g, 0, 0, U⟩ r.t } wx) ∧ Hid (wx.heap[tb]? = some (.cells #[.string o.pred, .int .u32 (t.g : Nat), .int .u32 (0 : Nat), .int .u64 (0 : Nat), .int .u64 (U : Nat)] 41)) ∧ Hid (wx.heap[ab]? = some (.cells #[.int .i64 0, .int .u64 0, .int .u64 0, .string ⟨#[]⟩, .int .u32 0, .int .u32 0, .int .u64 0, .int .u64 0] 46)))
  case first => as_aux_lemma =>
    go_region
    all_goals
      go_wp2_with fail
      go_meet
      case rel =>
        refine ⟨Lib.hid ?_, Lib.hid ?_, Lib.hid ?_⟩
        · have h := HPT.out
          rw [← lay_set lessB_ord _ HI.out HTS.out (by rw [HE.out])] at h
          obtain ⟨R9, h9⟩ := h.is
          exact ⟨⟨R9, h9.same (chgd _)⟩, h.chg.trans ((chgd _).mono (fun _ f => f.elim))⟩
        · exact (set5_other (w := W6) (k := i * 5) (p := (o.pred, (⟨t.p, t.g, 0, 0, U⟩ : Tb))) (fun e => HGT.out.1 e.symm)).trans HTB6.out
        · exact (set5_other (w := W6) (k := i * 5) (p := (o.pred, (⟨t.p, t.g, 0, 0, U⟩ : Tb))) (fun e => HGT.out.2 e.symm)).trans HAB6.out
  case rest =>
    obtain ⟨HT9, HTB9, HAB9⟩ := hcut
    generalize wc = W9 at *
    have HTZ := Lib.hid (RTo.pre CF6.out HT9.out)
    clear b5 a0 a1 a2 a3 a4 f0 f1 f2 f3 f4 y0 y1 y2 y3 y4
    have x0 : W9.cell? ⟨tb, 0, none⟩ = some (.string o.pred) := cell_of HTB9.out rfl
    have x1 : W9.cell? ⟨tb, 1, none⟩ = some (.int .u32 (t.g : Nat)) := cell_of HTB9.out rfl
    have x2 : W9.cell? ⟨tb, 2, none⟩ = some (.int .u32 (0 : Nat)) := cell_of HTB9.out rfl
    have x3 : W9.cell? ⟨tb, 3, none⟩ = some (.int .u64 (0 : Nat)) := cell_of HTB9.out rfl
    have x4 : W9.cell? ⟨tb, 4, none⟩ = some (.int .u64 (U : Nat)) := cell_of HTB9.out rfl
    have z0 : W9.cell? ⟨ab, 0, none⟩ = some (.int .i64 0) := cell_of HAB9.out rfl
    have zf0 : W9.frozen? ⟨ab, 0, none⟩ = false := frozen_of HAB9.out
    have z1 : W9.cell? ⟨ab, 1, none⟩ = some (.int .u64 0) := cell_of HAB9.out rfl
    have zf1 : W9.frozen? ⟨ab, 1, none⟩ = false := frozen_of HAB9.out
    have z2 : W9.cell? ⟨ab, 2, none⟩ = some (.int .u64 0) := cell_of HAB9.out rfl
    have zf2 : W9.frozen? ⟨ab, 2, none⟩ = false := frozen_of HAB9.out
    have z3 : W9.cell? ⟨ab, 3, none⟩ = some (.string ⟨#[]⟩) := cell_of HAB9.out rfl
    have zf3 : W9.frozen? ⟨ab, 3, none⟩ = false := frozen_of HAB9.out
    have z4 : W9.cell? ⟨ab, 4, none⟩ = some (.int .u32 0) := cell_of HAB9.out rfl
    have zf4 : W9.frozen? ⟨ab, 4, none⟩ = false := frozen_of HAB9.out
    have z5 : W9.cell? ⟨ab, 5, none⟩ = some (.int .u32 0) := cell_of HAB9.out rfl
    have zf5 : W9.frozen? ⟨ab, 5, none⟩ = false := frozen_of HAB9.out
    have z6 : W9.cell? ⟨ab, 6, none⟩ = some (.int .u64 0) := cell_of HAB9.out rfl
    have zf6 : W9.frozen? ⟨ab, 6, none⟩ = false := frozen_of HAB9.out
    have z7 : W9.cell? ⟨ab, 7, none⟩ = some (.int .u64 0) := cell_of HAB9.out rfl
    have zf7 : W9.frozen? ⟨ab, 7, none⟩ = false := frozen_of HAB9.out
    go_wp2_with fail
    obtain ⟨hh, hk8⟩ := fin8 HAB9.out (.int .i64 0) (.int .u64 0) (.int .u64 0) (.string o.pred) (.int .u32 (t.g : Nat)) (.int .u32 (0 : Nat)) (.int .u64 (0 : Nat)) (.int .u64 (U : Nat))
    refine bodyPost_ret (results_cell_row (p := 4) (ty := 46) rfl _ _ ab 46 _ (0, 0) _ rfl hh Tryz.underlying46 rfl (by kernel_rfl)) rfl ⟨rfl, ?_⟩
    exact RTo.box HTZ.out hk8 HNF.out HC2.out HLE.out
end
end Go.Proofs.YtgmmglmokkcgeaaGreat
