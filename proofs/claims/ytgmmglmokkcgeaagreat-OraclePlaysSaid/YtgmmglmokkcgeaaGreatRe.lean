/- Walks: the document's turn. Printed by genRe.py. -/
import Derived.Test.YtgmmglmokkcgeaaGreatRd
import Derived.Test.YtgmmglmokkcgeaaGreatRb
namespace Go.Proofs.YtgmmglmokkcgeaaGreat
set_option linter.unusedVariables false
set_option linter.unusedSimpArgs false
set_option linter.unusedSectionVars false
open Go.RowKit Mk Go.Sort

theorem wrap_nxt {m n : Nat} (h : (m + 1) % 18446744073709551616 = n) : IntKind.u64.wrap ((m : Int) + 1) = n := by
  rw [← h]; simp only [IntKind.wrap, IntKind.bits, IntKind.signed]; simp
theorem RTo.pre {W w w' : World} {b : Nat} {F : Nat → Prop} {r : RM} (c : Chg F W w) (h : RTo w b F r w') : RTo W b F r w' := by
  obtain ⟨R, hr⟩ := h.is
  exact ⟨⟨R, hr.wide (fun g e => by rcases e with e | e; exact Or.inl e; exact Or.inr (Nat.le_trans c.size e))⟩, c.trans h.chg⟩
section
variable {w w' : World} {b : Nat} {R : RV} {F G : Nat → Prop} {r : RM} {o : OpM} {l : OpL} {B : Nat}
set_option maxRecDepth 100000 in
set_option maxHeartbeats 8000000 in
theorem rturn_5had (h : RRep w b R F r) (hF : ∀ g, F g → g < w.heap.size) (ho : OpAt w o l) (hfit : Fit r B) (hB : B ≤ 900000) (hk : o.k = 5) {t : Tb} (hl : lk r.t o.pred = some t) :
    Calls Tryz.prog 64 #[.pointer (some ⟨b, 0, none⟩), .agg (opC o l)] w fun e w' => e = .returned (.agg #[.int .i64 202, .int .u64 0, .int .u64 0, .string o.pred, .int .u32 (t.g : Nat), .int .u32 (t.to : Nat), .int .u64 (t.at_ : Nat), .int .u64 (t.tn : Nat)]) ∧ RTo w b F r w' := by
  obtain ⟨W2, ob, ab, hW2, hob, hab, ho2, ha2, hc2, hs2⟩ := two_boxes w o l
  have HW2 := Lib.hid hW2
  have HOS := Lib.hid hob
  have HAS := Lib.hid hab
  have HOB := Lib.hid ho2
  have HAB := Lib.hid ha2
  have HC2 := Lib.hid hc2
  have HH := Lib.hid (h.same hc2)
  have HNF := Lib.hid (show ¬ (F ab ∨ W2.heap.size ≤ ab) from fun e => by rcases e with e | e; exact absurd (hF _ e) (by omega); omega)
  have HNO := Lib.hid (show ¬ (F ob ∨ W2.heap.size ≤ ob) from fun e => by rcases e with e | e; exact absurd (hF _ e) (by omega); omega)
  have HLE := Lib.hid (show w.heap.size ≤ ab by omega)
  have HO2 := Lib.hid (ho.same hc2)
  have qk5 : ((o.k : Int) == 5) = true := by rw [hk]; rfl
  have qn5 : decide (o.k = 5) = true := by rw [hk]; rfl
  obtain ⟨i, hi, ei, hbf⟩ := tab_find hfit.ts hl
  have hp : t.p = o.pred := hfit.tp _ (lk_mem hl)
  have TB := Lib.hid (rtab_some HH.out o.pred hi (by rw [ei]) hbf)
  obtain ⟨g, cap, hv, hg, d0, d1, d2, d3, d4⟩ := HH.out.t_at hi
  rw [ei] at d0 d1 d2 d3 d4
  simp only at d0 d1 d2 d3 d4
  obtain ⟨n, hn⟩ : ∃ n, r.t.length = n := ⟨_, rfl⟩
  have HV := Lib.hid hv
  have HI := Lib.hid hi
  have HE := Lib.hid ei
  have HN := Lib.hid hn
  have HP := Lib.hid hp
  have e5 : W2.cell? ⟨b, 5, none⟩ = some (.slice (some ⟨g, 0, none⟩) n cap) := by rw [← hn, ← hv]; exact cell_of HH.out.box rfl
  have l0 : (0 : Int) ≤ i := by omega
  have l1 : (i : Int) < n := by omega
  have l2 : decide ((i : Int) < 0) = false := by simp
  have HGW := Lib.hid hg
  have HTS := Lib.hid hfit.ts
  have HTI := Lib.hid hfit.time
  have HTN := Lib.hid (show t.tn ≤ B from hfit.tn _ (lk_mem hl))
  have HBB := Lib.hid hB
  have k0 : W2.cell? ⟨ob, 0, none⟩ = some (.int .u8 (o.k : Nat)) := cell_of HOB.out rfl
  have k5 : W2.cell? ⟨ob, 5, none⟩ = some (.string o.pred) := cell_of HOB.out rfl
  have z0 : W2.cell? ⟨ab, 0, none⟩ = some (.int .i64 0) := cell_of HAB.out rfl
  have zf0 : W2.frozen? ⟨ab, 0, none⟩ = false := frozen_of HAB.out
  have z1 : W2.cell? ⟨ab, 1, none⟩ = some (.int .u64 0) := cell_of HAB.out rfl
  have zf1 : W2.frozen? ⟨ab, 1, none⟩ = false := frozen_of HAB.out
  have z2 : W2.cell? ⟨ab, 2, none⟩ = some (.int .u64 0) := cell_of HAB.out rfl
  have zf2 : W2.frozen? ⟨ab, 2, none⟩ = false := frozen_of HAB.out
  have z3 : W2.cell? ⟨ab, 3, none⟩ = some (.string ⟨#[]⟩) := cell_of HAB.out rfl
  have zf3 : W2.frozen? ⟨ab, 3, none⟩ = false := frozen_of HAB.out
  have z4 : W2.cell? ⟨ab, 4, none⟩ = some (.int .u32 0) := cell_of HAB.out rfl
  have zf4 : W2.frozen? ⟨ab, 4, none⟩ = false := frozen_of HAB.out
  have z5 : W2.cell? ⟨ab, 5, none⟩ = some (.int .u32 0) := cell_of HAB.out rfl
  have zf5 : W2.frozen? ⟨ab, 5, none⟩ = false := frozen_of HAB.out
  have z6 : W2.cell? ⟨ab, 6, none⟩ = some (.int .u64 0) := cell_of HAB.out rfl
  have zf6 : W2.frozen? ⟨ab, 6, none⟩ = false := frozen_of HAB.out
  have z7 : W2.cell? ⟨ab, 7, none⟩ = some (.int .u64 0) := cell_of HAB.out rfl
  have zf7 : W2.frozen? ⟨ab, 7, none⟩ = false := frozen_of HAB.out
  clear h hF ho hfit hB hW2 hob hab ho2 ha2 hc2 hs2 hl ei hbf hp hv hn hg hk
  go_enter Tryz.func64, Tryz.ntmps64
  go_upto_region 1 with fail
  rw [HW2.out, HOS.out, HAS.out]
  go_wp2_with fail
  refine TB.out.mono ?_
  rintro e w4 ⟨rfl, hw4⟩
  obtain rfl : W2 = w4 := hw4.symm
  go_wp2_with fail
  obtain ⟨hh, hk8⟩ := fin8 HAB.out (.int .i64 202) (.int .u64 0) (.int .u64 0) (.string o.pred) (.int .u32 (t.g : Nat)) (.int .u32 (t.to : Nat)) (.int .u64 (t.at_ : Nat)) (.int .u64 (t.tn : Nat))
  refine bodyPost_ret (results_cell_row (p := 4) (ty := 46) rfl _ _ ab 46 _ (0, 0) _ rfl hh Tryz.underlying46 rfl (by kernel_rfl)) rfl ⟨rfl, ?_⟩
  exact RTo.box HH.out.rto hk8 HNF.out HC2.out HLE.out
set_option maxRecDepth 100000 in
set_option maxHeartbeats 8000000 in
theorem rturn_5new (h : RRep w b R F r) (hF : ∀ g, F g → g < w.heap.size) (ho : OpAt w o l) (hfit : Fit r B) (hB : B ≤ 900000) (hk : o.k = 5) (hl : lk r.t o.pred = none) :
    Calls Tryz.prog 64 #[.pointer (some ⟨b, 0, none⟩), .agg (opC o l)] w fun e w' => e = .returned (.agg #[.int .i64 0, .int .u64 0, .int .u64 0, .string o.pred, .int .u32 (o.g : Nat), .int .u32 0, .int .u64 0, .int .u64 1]) ∧ RTo w b F { r with t := lay lessB o.pred ⟨o.pred, o.g, 0, 0, 1⟩ r.t } w' := by
  obtain ⟨W2, ob, ab, hW2, hob, hab, ho2, ha2, hc2, hs2⟩ := two_boxes w o l
  have HW2 := Lib.hid hW2
  have HOS := Lib.hid hob
  have HAS := Lib.hid hab
  have HOB := Lib.hid ho2
  have HAB := Lib.hid ha2
  have HC2 := Lib.hid hc2
  have HH := Lib.hid (h.same hc2)
  have HNF := Lib.hid (show ¬ (F ab ∨ W2.heap.size ≤ ab) from fun e => by rcases e with e | e; exact absurd (hF _ e) (by omega); omega)
  have HNO := Lib.hid (show ¬ (F ob ∨ W2.heap.size ≤ ob) from fun e => by rcases e with e | e; exact absurd (hF _ e) (by omega); omega)
  have HLE := Lib.hid (show w.heap.size ≤ ab by omega)
  have HO2 := Lib.hid (ho.same hc2)
  have qk5 : ((o.k : Int) == 5) = true := by rw [hk]; rfl
  have qn5 : decide (o.k = 5) = true := by rw [hk]; rfl
  have TB := Lib.hid (rtab_none HH.out o.pred hl)
  have k0 : W2.cell? ⟨ob, 0, none⟩ = some (.int .u8 (o.k : Nat)) := cell_of HOB.out rfl
  have k5 : W2.cell? ⟨ob, 5, none⟩ = some (.string o.pred) := cell_of HOB.out rfl
  have k6 : W2.cell? ⟨ob, 6, none⟩ = some (.int .u32 (o.g : Nat)) := cell_of HOB.out rfl
  obtain ⟨W4, HW4⟩ : ∃ W, Hid (W2.alloc (.cells #[.string o.pred, .int .u32 (o.g : Nat), .int .u32 0, .int .u64 0, .int .u64 1] 41) = W) := ⟨_, Lib.hid rfl⟩
  obtain ⟨tb, HTB⟩ : ∃ k, Hid (ab + 1 = k) := ⟨_, Lib.hid rfl⟩
  have htb : W4.heap[tb]? = some (.cells #[.string o.pred, .int .u32 (o.g : Nat), .int .u32 0, .int .u64 0, .int .u64 1] 41) := by rw [← HW4.out, ← HTB.out, ← hs2]; exact Go.heap_alloc_new _ _
  have C4 := Lib.hid (show Chg (fun _ => False) W2 W4 by rw [← HW4.out]; exact (Chg.refl _ _).alloc _)
  have HTB4 := Lib.hid htb
  have GV := Lib.hid (rgive_any (HH.out.same C4.out) o.pred ⟨o.pred, o.g, 0, 0, 1⟩ hfit.ts (lk_off hl) (Nat.le_trans hfit.tl (show B ≤ 1000000 by omega)))
  have HS2 := Lib.hid hs2
  have HNT := Lib.hid (show ¬ F tb from fun e => by have := hF _ e; have := HTB.out; omega)
  have y0 : W4.cell? ⟨tb, 0, none⟩ = some (.string o.pred) := cell_of htb rfl
  have y1 : W4.cell? ⟨tb, 1, none⟩ = some (.int .u32 (o.g : Nat)) := cell_of htb rfl
  have y2 : W4.cell? ⟨tb, 2, none⟩ = some (.int .u32 0) := cell_of htb rfl
  have y3 : W4.cell? ⟨tb, 3, none⟩ = some (.int .u64 0) := cell_of htb rfl
  have y4 : W4.cell? ⟨tb, 4, none⟩ = some (.int .u64 1) := cell_of htb rfl
  clear h hF ho hfit hB hW2 hob hab ho2 ha2 hc2 hs2 hl hk htb
  go_enter Tryz.func64, Tryz.ntmps64
  go_upto_region 1 with fail
  rw [HW2.out, HOS.out, HAS.out]
  go_wp2_with fail
  refine TB.out.mono ?_
  rintro e w4 ⟨rfl, hw4⟩
  obtain rfl : W2 = w4 := hw4.symm
  go_upto_region 6 with fail
  rw [HS2.out, HW4.out, HTB.out]
  go_wp2_with fail
  refine GV.out.mono ?_
  rintro e W5 ⟨rfl, h5⟩
  have HT5 := Lib.hid (RTo.pre (C4.out.mono (fun _ f => f.elim)) h5)
  have htb5 := (h5.chg.block tb (Array.getElem?_eq_some_iff.1 HTB4.out).1 HNT.out).trans HTB4.out
  have HAB5 := Lib.hid (((h5.chg.block ab (Nat.lt_of_lt_of_le (Array.getElem?_eq_some_iff.1 HAB.out).1 C4.out.size) (fun f => HNF.out (Or.inl f))).trans (C4.out.block ab (Array.getElem?_eq_some_iff.1 HAB.out).1 (fun f => f))).trans HAB.out)
  have HTB5 := Lib.hid htb5
  clear h5 htb5 y0 y1 y2 y3 y4 GV k0 k5 k6
  have y0 : W5.cell? ⟨tb, 0, none⟩ = some (.string o.pred) := cell_of HTB5.out rfl
  have y1 : W5.cell? ⟨tb, 1, none⟩ = some (.int .u32 (o.g : Nat)) := cell_of HTB5.out rfl
  have y2 : W5.cell? ⟨tb, 2, none⟩ = some (.int .u32 0) := cell_of HTB5.out rfl
  have y3 : W5.cell? ⟨tb, 3, none⟩ = some (.int .u64 0) := cell_of HTB5.out rfl
  have y4 : W5.cell? ⟨tb, 4, none⟩ = some (.int .u64 1) := cell_of HTB5.out rfl
  have z0 : W5.cell? ⟨ab, 0, none⟩ = some (.int .i64 0) := cell_of HAB5.out rfl
  have zf0 : W5.frozen? ⟨ab, 0, none⟩ = false := frozen_of HAB5.out
  have z1 : W5.cell? ⟨ab, 1, none⟩ = some (.int .u64 0) := cell_of HAB5.out rfl
  have zf1 : W5.frozen? ⟨ab, 1, none⟩ = false := frozen_of HAB5.out
  have z2 : W5.cell? ⟨ab, 2, none⟩ = some (.int .u64 0) := cell_of HAB5.out rfl
  have zf2 : W5.frozen? ⟨ab, 2, none⟩ = false := frozen_of HAB5.out
  have z3 : W5.cell? ⟨ab, 3, none⟩ = some (.string ⟨#[]⟩) := cell_of HAB5.out rfl
  have zf3 : W5.frozen? ⟨ab, 3, none⟩ = false := frozen_of HAB5.out
  have z4 : W5.cell? ⟨ab, 4, none⟩ = some (.int .u32 0) := cell_of HAB5.out rfl
  have zf4 : W5.frozen? ⟨ab, 4, none⟩ = false := frozen_of HAB5.out
  have z5 : W5.cell? ⟨ab, 5, none⟩ = some (.int .u32 0) := cell_of HAB5.out rfl
  have zf5 : W5.frozen? ⟨ab, 5, none⟩ = false := frozen_of HAB5.out
  have z6 : W5.cell? ⟨ab, 6, none⟩ = some (.int .u64 0) := cell_of HAB5.out rfl
  have zf6 : W5.frozen? ⟨ab, 6, none⟩ = false := frozen_of HAB5.out
  have z7 : W5.cell? ⟨ab, 7, none⟩ = some (.int .u64 0) := cell_of HAB5.out rfl
  have zf7 : W5.frozen? ⟨ab, 7, none⟩ = false := frozen_of HAB5.out
  go_wp2_with fail
  obtain ⟨hh, hk8⟩ := fin8 HAB5.out (.int .i64 0) (.int .u64 0) (.int .u64 0) (.string o.pred) (.int .u32 (o.g : Nat)) (.int .u32 0) (.int .u64 0) (.int .u64 1)
  refine bodyPost_ret (results_cell_row (p := 4) (ty := 46) rfl _ _ ab 46 _ (0, 0) _ rfl hh Tryz.underlying46 rfl (by kernel_rfl)) rfl ⟨rfl, ?_⟩
  exact RTo.box HT5.out hk8 HNF.out HC2.out HLE.out
set_option maxRecDepth 100000 in
set_option maxHeartbeats 8000000 in
theorem rturn_none (h : RRep w b R F r) (hF : ∀ g, F g → g < w.heap.size) (ho : OpAt w o l) (hfit : Fit r B) (hB : B ≤ 900000) (hk : o.k ≠ 5) (hl : lk r.t o.pred = none) :
    Calls Tryz.prog 64 #[.pointer (some ⟨b, 0, none⟩), .agg (opC o l)] w fun e w' => e = .returned (anV ⟨5, 0, 0, .zero⟩) ∧ RTo w b F r w' := by
  obtain ⟨W2, ob, ab, hW2, hob, hab, ho2, ha2, hc2, hs2⟩ := two_boxes w o l
  have HW2 := Lib.hid hW2
  have HOS := Lib.hid hob
  have HAS := Lib.hid hab
  have HOB := Lib.hid ho2
  have HAB := Lib.hid ha2
  have HC2 := Lib.hid hc2
  have HH := Lib.hid (h.same hc2)
  have HNF := Lib.hid (show ¬ (F ab ∨ W2.heap.size ≤ ab) from fun e => by rcases e with e | e; exact absurd (hF _ e) (by omega); omega)
  have HNO := Lib.hid (show ¬ (F ob ∨ W2.heap.size ≤ ob) from fun e => by rcases e with e | e; exact absurd (hF _ e) (by omega); omega)
  have HLE := Lib.hid (show w.heap.size ≤ ab by omega)
  have HO2 := Lib.hid (ho.same hc2)
  have qk5 : ((o.k : Int) == 5) = false := by rw [beq_eq_false_iff_ne]; omega
  have qn5 : decide (o.k = 5) = false := decide_eq_false (by omega)
  have TB := Lib.hid (rtab_none HH.out o.pred hl)
  have k0 : W2.cell? ⟨ob, 0, none⟩ = some (.int .u8 (o.k : Nat)) := cell_of HOB.out rfl
  have k5 : W2.cell? ⟨ob, 5, none⟩ = some (.string o.pred) := cell_of HOB.out rfl
  have z0 : W2.cell? ⟨ab, 0, none⟩ = some (.int .i64 0) := cell_of HAB.out rfl
  have zf0 : W2.frozen? ⟨ab, 0, none⟩ = false := frozen_of HAB.out
  have z1 : W2.cell? ⟨ab, 1, none⟩ = some (.int .u64 0) := cell_of HAB.out rfl
  have zf1 : W2.frozen? ⟨ab, 1, none⟩ = false := frozen_of HAB.out
  have z2 : W2.cell? ⟨ab, 2, none⟩ = some (.int .u64 0) := cell_of HAB.out rfl
  have zf2 : W2.frozen? ⟨ab, 2, none⟩ = false := frozen_of HAB.out
  have z3 : W2.cell? ⟨ab, 3, none⟩ = some (.string ⟨#[]⟩) := cell_of HAB.out rfl
  have zf3 : W2.frozen? ⟨ab, 3, none⟩ = false := frozen_of HAB.out
  have z4 : W2.cell? ⟨ab, 4, none⟩ = some (.int .u32 0) := cell_of HAB.out rfl
  have zf4 : W2.frozen? ⟨ab, 4, none⟩ = false := frozen_of HAB.out
  have z5 : W2.cell? ⟨ab, 5, none⟩ = some (.int .u32 0) := cell_of HAB.out rfl
  have zf5 : W2.frozen? ⟨ab, 5, none⟩ = false := frozen_of HAB.out
  have z6 : W2.cell? ⟨ab, 6, none⟩ = some (.int .u64 0) := cell_of HAB.out rfl
  have zf6 : W2.frozen? ⟨ab, 6, none⟩ = false := frozen_of HAB.out
  have z7 : W2.cell? ⟨ab, 7, none⟩ = some (.int .u64 0) := cell_of HAB.out rfl
  have zf7 : W2.frozen? ⟨ab, 7, none⟩ = false := frozen_of HAB.out
  clear h hF ho hfit hB hW2 hob hab ho2 ha2 hc2 hs2 hl hk
  go_enter Tryz.func64, Tryz.ntmps64
  go_upto_region 1 with fail
  rw [HW2.out, HOS.out, HAS.out]
  go_wp2_with fail
  refine TB.out.mono ?_
  rintro e w4 ⟨rfl, hw4⟩
  obtain rfl : W2 = w4 := hw4.symm
  go_wp2_with fail
  obtain ⟨hh, hk8⟩ := fin8 HAB.out (.int .i64 5) (.int .u64 0) (.int .u64 0) (.string ⟨#[]⟩) (.int .u32 0) (.int .u32 0) (.int .u64 0) (.int .u64 0)
  refine bodyPost_ret (results_cell_row (p := 4) (ty := 46) rfl _ _ ab 46 _ (0, 0) _ rfl hh Tryz.underlying46 rfl (by kernel_rfl)) rfl ⟨rfl, ?_⟩
  exact RTo.box HH.out.rto hk8 HNF.out HC2.out HLE.out
set_option maxRecDepth 100000 in
set_option maxHeartbeats 8000000 in
theorem rturn_6state (h : RRep w b R F r) (hF : ∀ g, F g → g < w.heap.size) (ho : OpAt w o l) (hfit : Fit r B) (hB : B ≤ 900000) (hk : o.k = 6) {t : Tb} (hl : lk r.t o.pred = some t) (hx : t.to ≠ 0) :
    Calls Tryz.prog 64 #[.pointer (some ⟨b, 0, none⟩), .agg (opC o l)] w fun e w' => e = .returned (.agg #[.int .i64 3, .int .u64 0, .int .u64 0, .string o.pred, .int .u32 (t.g : Nat), .int .u32 (t.to : Nat), .int .u64 (t.at_ : Nat), .int .u64 (t.tn : Nat)]) ∧ RTo w b F r w' := by
  obtain ⟨W2, ob, ab, hW2, hob, hab, ho2, ha2, hc2, hs2⟩ := two_boxes w o l
  have HW2 := Lib.hid hW2
  have HOS := Lib.hid hob
  have HAS := Lib.hid hab
  have HOB := Lib.hid ho2
  have HAB := Lib.hid ha2
  have HC2 := Lib.hid hc2
  have HH := Lib.hid (h.same hc2)
  have HNF := Lib.hid (show ¬ (F ab ∨ W2.heap.size ≤ ab) from fun e => by rcases e with e | e; exact absurd (hF _ e) (by omega); omega)
  have HNO := Lib.hid (show ¬ (F ob ∨ W2.heap.size ≤ ob) from fun e => by rcases e with e | e; exact absurd (hF _ e) (by omega); omega)
  have HLE := Lib.hid (show w.heap.size ≤ ab by omega)
  have HO2 := Lib.hid (ho.same hc2)
  have qk5 : ((o.k : Int) == 5) = false := by rw [hk]; rfl
  have qn5 : decide (o.k = 5) = false := by rw [hk]; rfl
  have qk6 : ((o.k : Int) == 6) = true := by rw [hk]; rfl
  have qn6 : decide (o.k = 6) = true := by rw [hk]; rfl
  have ce : ((t.to : Int) == (0 : Int)) = false := by rw [beq_eq_false_iff_ne]; omega
  have cn : ((t.to : Int) != (0 : Int)) = true := by rw [bne_iff_ne]; omega
  have cd : decide ((t.to : Int) = (0 : Int)) = false := by simp; omega
  obtain ⟨i, hi, ei, hbf⟩ := tab_find hfit.ts hl
  have hp : t.p = o.pred := hfit.tp _ (lk_mem hl)
  have TB := Lib.hid (rtab_some HH.out o.pred hi (by rw [ei]) hbf)
  obtain ⟨g, cap, hv, hg, d0, d1, d2, d3, d4⟩ := HH.out.t_at hi
  rw [ei] at d0 d1 d2 d3 d4
  simp only at d0 d1 d2 d3 d4
  obtain ⟨n, hn⟩ : ∃ n, r.t.length = n := ⟨_, rfl⟩
  have HV := Lib.hid hv
  have HI := Lib.hid hi
  have HE := Lib.hid ei
  have HN := Lib.hid hn
  have HP := Lib.hid hp
  have e5 : W2.cell? ⟨b, 5, none⟩ = some (.slice (some ⟨g, 0, none⟩) n cap) := by rw [← hn, ← hv]; exact cell_of HH.out.box rfl
  have l0 : (0 : Int) ≤ i := by omega
  have l1 : (i : Int) < n := by omega
  have l2 : decide ((i : Int) < 0) = false := by simp
  have HGW := Lib.hid hg
  have HTS := Lib.hid hfit.ts
  have HTI := Lib.hid hfit.time
  have HTN := Lib.hid (show t.tn ≤ B from hfit.tn _ (lk_mem hl))
  have HBB := Lib.hid hB
  have k0 : W2.cell? ⟨ob, 0, none⟩ = some (.int .u8 (o.k : Nat)) := cell_of HOB.out rfl
  have k5 : W2.cell? ⟨ob, 5, none⟩ = some (.string o.pred) := cell_of HOB.out rfl
  obtain ⟨W4, HW4⟩ : ∃ W, Hid (W2.alloc (.cells #[.string o.pred, .int .u32 (t.g : Nat), .int .u32 (t.to : Nat), .int .u64 (t.at_ : Nat), .int .u64 (t.tn : Nat)] 41) = W) := ⟨_, Lib.hid rfl⟩
  obtain ⟨tb, HTB⟩ : ∃ k, Hid (ab + 1 = k) := ⟨_, Lib.hid rfl⟩
  have HS2 := Lib.hid hs2
  have HTB4 := Lib.hid (show W4.heap[tb]? = some (.cells #[.string o.pred, .int .u32 (t.g : Nat), .int .u32 (t.to : Nat), .int .u64 (t.at_ : Nat), .int .u64 (t.tn : Nat)] 41) by rw [← HW4.out, ← HTB.out, ← hs2]; exact Go.heap_alloc_new _ _)
  have C4 := Lib.hid (show Chg (fun _ => False) W2 W4 by rw [← HW4.out]; exact (Chg.refl _ _).alloc _)
  have HH4 := Lib.hid (HH.out.same C4.out)
  have HNT := Lib.hid (show ¬ F tb from fun e => by have := hF _ e; have := HTB.out; omega)
  have HT4 := Lib.hid (show RTo W2 b F r W4 from ⟨⟨R, HH4.out.wide (fun _ => Or.inl)⟩, C4.out.mono (fun _ f => f.elim)⟩)
  have HAB4 := Lib.hid ((C4.out.block ab (Array.getElem?_eq_some_iff.1 HAB.out).1 (fun f => f)).trans HAB.out)
  have HOB4 := Lib.hid ((C4.out.block ob (Array.getElem?_eq_some_iff.1 HOB.out).1 (fun f => f)).trans HOB.out)
  clear h hF ho hfit hB hW2 hob hab ho2 ha2 hc2 hs2 hl ei hbf hp hv hn hg hk hx
  go_enter Tryz.func64, Tryz.ntmps64
  go_upto_region 1 with fail
  rw [HW2.out, HOS.out, HAS.out]
  go_wp2_with fail
  refine TB.out.mono ?_
  rintro e w4 ⟨rfl, hw4⟩
  obtain rfl : W2 = w4 := hw4.symm
  go_upto_region 11 with fail
  rw [HS2.out, HW4.out, HTB.out]
  clear e5 d0 d1 d2 d3 d4 k0 k5
  have k0 : W4.cell? ⟨ob, 0, none⟩ = some (.int .u8 (o.k : Nat)) := cell_of HOB4.out rfl
  have k1 : W4.cell? ⟨ob, 1, none⟩ = some (.int .u32 (o.n : Nat)) := cell_of HOB4.out rfl
  have k2 : W4.cell? ⟨ob, 2, none⟩ = some (.int .u64 (o.st : Nat)) := cell_of HOB4.out rfl
  have k3 : W4.cell? ⟨ob, 3, none⟩ = some (.slice l.ko o.keys.length l.kc) := cell_of HOB4.out rfl
  have k4 : W4.cell? ⟨ob, 4, none⟩ = some (.slice l.no o.needs.length l.nc) := cell_of HOB4.out rfl
  have k5 : W4.cell? ⟨ob, 5, none⟩ = some (.string o.pred) := cell_of HOB4.out rfl
  have k6 : W4.cell? ⟨ob, 6, none⟩ = some (.int .u32 (o.g : Nat)) := cell_of HOB4.out rfl
  have k7 : W4.cell? ⟨ob, 7, none⟩ = some (.int .u32 (o.to : Nat)) := cell_of HOB4.out rfl
  have k8 : W4.cell? ⟨ob, 8, none⟩ = some (.int .u64 (o.at_ : Nat)) := cell_of HOB4.out rfl
  have y0 : W4.cell? ⟨tb, 0, none⟩ = some (.string o.pred) := cell_of HTB4.out rfl
  have y1 : W4.cell? ⟨tb, 1, none⟩ = some (.int .u32 (t.g : Nat)) := cell_of HTB4.out rfl
  have y2 : W4.cell? ⟨tb, 2, none⟩ = some (.int .u32 (t.to : Nat)) := cell_of HTB4.out rfl
  have y3 : W4.cell? ⟨tb, 3, none⟩ = some (.int .u64 (t.at_ : Nat)) := cell_of HTB4.out rfl
  have y4 : W4.cell? ⟨tb, 4, none⟩ = some (.int .u64 (t.tn : Nat)) := cell_of HTB4.out rfl
  have z0 : W4.cell? ⟨ab, 0, none⟩ = some (.int .i64 0) := cell_of HAB4.out rfl
  have zf0 : W4.frozen? ⟨ab, 0, none⟩ = false := frozen_of HAB4.out
  have z1 : W4.cell? ⟨ab, 1, none⟩ = some (.int .u64 0) := cell_of HAB4.out rfl
  have zf1 : W4.frozen? ⟨ab, 1, none⟩ = false := frozen_of HAB4.out
  have z2 : W4.cell? ⟨ab, 2, none⟩ = some (.int .u64 0) := cell_of HAB4.out rfl
  have zf2 : W4.frozen? ⟨ab, 2, none⟩ = false := frozen_of HAB4.out
  have z3 : W4.cell? ⟨ab, 3, none⟩ = some (.string ⟨#[]⟩) := cell_of HAB4.out rfl
  have zf3 : W4.frozen? ⟨ab, 3, none⟩ = false := frozen_of HAB4.out
  have z4 : W4.cell? ⟨ab, 4, none⟩ = some (.int .u32 0) := cell_of HAB4.out rfl
  have zf4 : W4.frozen? ⟨ab, 4, none⟩ = false := frozen_of HAB4.out
  have z5 : W4.cell? ⟨ab, 5, none⟩ = some (.int .u32 0) := cell_of HAB4.out rfl
  have zf5 : W4.frozen? ⟨ab, 5, none⟩ = false := frozen_of HAB4.out
  have z6 : W4.cell? ⟨ab, 6, none⟩ = some (.int .u64 0) := cell_of HAB4.out rfl
  have zf6 : W4.frozen? ⟨ab, 6, none⟩ = false := frozen_of HAB4.out
  have z7 : W4.cell? ⟨ab, 7, none⟩ = some (.int .u64 0) := cell_of HAB4.out rfl
  have zf7 : W4.frozen? ⟨ab, 7, none⟩ = false := frozen_of HAB4.out
  go_wp2_with fail
  obtain ⟨hh, hk8⟩ := fin8 HAB4.out (.int .i64 3) (.int .u64 0) (.int .u64 0) (.string o.pred) (.int .u32 (t.g : Nat)) (.int .u32 (t.to : Nat)) (.int .u64 (t.at_ : Nat)) (.int .u64 (t.tn : Nat))
  refine bodyPost_ret (results_cell_row (p := 4) (ty := 46) rfl _ _ ab 46 _ (0, 0) _ rfl hh Tryz.underlying46 rfl (by kernel_rfl)) rfl ⟨rfl, ?_⟩
  exact RTo.box HT4.out hk8 HNF.out HC2.out HLE.out
set_option maxRecDepth 100000 in
set_option maxHeartbeats 8000000 in
theorem rturn_6arg (h : RRep w b R F r) (hF : ∀ g, F g → g < w.heap.size) (ho : OpAt w o l) (hfit : Fit r B) (hB : B ≤ 900000) (hk : o.k = 6) {t : Tb} (hl : lk r.t o.pred = some t) (hx : t.to = 0 ∧ t.g = o.to) :
    Calls Tryz.prog 64 #[.pointer (some ⟨b, 0, none⟩), .agg (opC o l)] w fun e w' => e = .returned (.agg #[.int .i64 2, .int .u64 0, .int .u64 0, .string o.pred, .int .u32 (t.g : Nat), .int .u32 (t.to : Nat), .int .u64 (t.at_ : Nat), .int .u64 (t.tn : Nat)]) ∧ RTo w b F r w' := by
  obtain ⟨W2, ob, ab, hW2, hob, hab, ho2, ha2, hc2, hs2⟩ := two_boxes w o l
  have HW2 := Lib.hid hW2
  have HOS := Lib.hid hob
  have HAS := Lib.hid hab
  have HOB := Lib.hid ho2
  have HAB := Lib.hid ha2
  have HC2 := Lib.hid hc2
  have HH := Lib.hid (h.same hc2)
  have HNF := Lib.hid (show ¬ (F ab ∨ W2.heap.size ≤ ab) from fun e => by rcases e with e | e; exact absurd (hF _ e) (by omega); omega)
  have HNO := Lib.hid (show ¬ (F ob ∨ W2.heap.size ≤ ob) from fun e => by rcases e with e | e; exact absurd (hF _ e) (by omega); omega)
  have HLE := Lib.hid (show w.heap.size ≤ ab by omega)
  have HO2 := Lib.hid (ho.same hc2)
  have qk5 : ((o.k : Int) == 5) = false := by rw [hk]; rfl
  have qn5 : decide (o.k = 5) = false := by rw [hk]; rfl
  have qk6 : ((o.k : Int) == 6) = true := by rw [hk]; rfl
  have qn6 : decide (o.k = 6) = true := by rw [hk]; rfl
  have hx1 := hx.1
  have hx2 := hx.2
  have ce : ((t.to : Int) == (0 : Int)) = true := by rw [beq_iff_eq]; omega
  have cn : ((t.to : Int) != (0 : Int)) = false := by rw [bne_eq_false_iff_eq]; omega
  have cd : decide ((t.to : Int) = (0 : Int)) = true := by simp; omega
  have fe : ((t.g : Int) == (o.to : Int)) = true := by rw [beq_iff_eq]; omega
  have fn : ((t.g : Int) != (o.to : Int)) = false := by rw [bne_eq_false_iff_eq]; omega
  have fd : decide ((t.g : Int) = (o.to : Int)) = true := by simp; omega
  clear hx1 hx2
  obtain ⟨i, hi, ei, hbf⟩ := tab_find hfit.ts hl
  have hp : t.p = o.pred := hfit.tp _ (lk_mem hl)
  have TB := Lib.hid (rtab_some HH.out o.pred hi (by rw [ei]) hbf)
  obtain ⟨g, cap, hv, hg, d0, d1, d2, d3, d4⟩ := HH.out.t_at hi
  rw [ei] at d0 d1 d2 d3 d4
  simp only at d0 d1 d2 d3 d4
  obtain ⟨n, hn⟩ : ∃ n, r.t.length = n := ⟨_, rfl⟩
  have HV := Lib.hid hv
  have HI := Lib.hid hi
  have HE := Lib.hid ei
  have HN := Lib.hid hn
  have HP := Lib.hid hp
  have e5 : W2.cell? ⟨b, 5, none⟩ = some (.slice (some ⟨g, 0, none⟩) n cap) := by rw [← hn, ← hv]; exact cell_of HH.out.box rfl
  have l0 : (0 : Int) ≤ i := by omega
  have l1 : (i : Int) < n := by omega
  have l2 : decide ((i : Int) < 0) = false := by simp
  have HGW := Lib.hid hg
  have HTS := Lib.hid hfit.ts
  have HTI := Lib.hid hfit.time
  have HTN := Lib.hid (show t.tn ≤ B from hfit.tn _ (lk_mem hl))
  have HBB := Lib.hid hB
  have k0 : W2.cell? ⟨ob, 0, none⟩ = some (.int .u8 (o.k : Nat)) := cell_of HOB.out rfl
  have k5 : W2.cell? ⟨ob, 5, none⟩ = some (.string o.pred) := cell_of HOB.out rfl
  obtain ⟨W4, HW4⟩ : ∃ W, Hid (W2.alloc (.cells #[.string o.pred, .int .u32 (t.g : Nat), .int .u32 (t.to : Nat), .int .u64 (t.at_ : Nat), .int .u64 (t.tn : Nat)] 41) = W) := ⟨_, Lib.hid rfl⟩
  obtain ⟨tb, HTB⟩ : ∃ k, Hid (ab + 1 = k) := ⟨_, Lib.hid rfl⟩
  have HS2 := Lib.hid hs2
  have HTB4 := Lib.hid (show W4.heap[tb]? = some (.cells #[.string o.pred, .int .u32 (t.g : Nat), .int .u32 (t.to : Nat), .int .u64 (t.at_ : Nat), .int .u64 (t.tn : Nat)] 41) by rw [← HW4.out, ← HTB.out, ← hs2]; exact Go.heap_alloc_new _ _)
  have C4 := Lib.hid (show Chg (fun _ => False) W2 W4 by rw [← HW4.out]; exact (Chg.refl _ _).alloc _)
  have HH4 := Lib.hid (HH.out.same C4.out)
  have HNT := Lib.hid (show ¬ F tb from fun e => by have := hF _ e; have := HTB.out; omega)
  have HT4 := Lib.hid (show RTo W2 b F r W4 from ⟨⟨R, HH4.out.wide (fun _ => Or.inl)⟩, C4.out.mono (fun _ f => f.elim)⟩)
  have HAB4 := Lib.hid ((C4.out.block ab (Array.getElem?_eq_some_iff.1 HAB.out).1 (fun f => f)).trans HAB.out)
  have HOB4 := Lib.hid ((C4.out.block ob (Array.getElem?_eq_some_iff.1 HOB.out).1 (fun f => f)).trans HOB.out)
  clear h hF ho hfit hB hW2 hob hab ho2 ha2 hc2 hs2 hl ei hbf hp hv hn hg hk hx
  go_enter Tryz.func64, Tryz.ntmps64
  go_upto_region 1 with fail
  rw [HW2.out, HOS.out, HAS.out]
  go_wp2_with fail
  refine TB.out.mono ?_
  rintro e w4 ⟨rfl, hw4⟩
  obtain rfl : W2 = w4 := hw4.symm
  go_upto_region 11 with fail
  rw [HS2.out, HW4.out, HTB.out]
  clear e5 d0 d1 d2 d3 d4 k0 k5
  have k0 : W4.cell? ⟨ob, 0, none⟩ = some (.int .u8 (o.k : Nat)) := cell_of HOB4.out rfl
  have k1 : W4.cell? ⟨ob, 1, none⟩ = some (.int .u32 (o.n : Nat)) := cell_of HOB4.out rfl
  have k2 : W4.cell? ⟨ob, 2, none⟩ = some (.int .u64 (o.st : Nat)) := cell_of HOB4.out rfl
  have k3 : W4.cell? ⟨ob, 3, none⟩ = some (.slice l.ko o.keys.length l.kc) := cell_of HOB4.out rfl
  have k4 : W4.cell? ⟨ob, 4, none⟩ = some (.slice l.no o.needs.length l.nc) := cell_of HOB4.out rfl
  have k5 : W4.cell? ⟨ob, 5, none⟩ = some (.string o.pred) := cell_of HOB4.out rfl
  have k6 : W4.cell? ⟨ob, 6, none⟩ = some (.int .u32 (o.g : Nat)) := cell_of HOB4.out rfl
  have k7 : W4.cell? ⟨ob, 7, none⟩ = some (.int .u32 (o.to : Nat)) := cell_of HOB4.out rfl
  have k8 : W4.cell? ⟨ob, 8, none⟩ = some (.int .u64 (o.at_ : Nat)) := cell_of HOB4.out rfl
  have y0 : W4.cell? ⟨tb, 0, none⟩ = some (.string o.pred) := cell_of HTB4.out rfl
  have y1 : W4.cell? ⟨tb, 1, none⟩ = some (.int .u32 (t.g : Nat)) := cell_of HTB4.out rfl
  have y2 : W4.cell? ⟨tb, 2, none⟩ = some (.int .u32 (t.to : Nat)) := cell_of HTB4.out rfl
  have y3 : W4.cell? ⟨tb, 3, none⟩ = some (.int .u64 (t.at_ : Nat)) := cell_of HTB4.out rfl
  have y4 : W4.cell? ⟨tb, 4, none⟩ = some (.int .u64 (t.tn : Nat)) := cell_of HTB4.out rfl
  have z0 : W4.cell? ⟨ab, 0, none⟩ = some (.int .i64 0) := cell_of HAB4.out rfl
  have zf0 : W4.frozen? ⟨ab, 0, none⟩ = false := frozen_of HAB4.out
  have z1 : W4.cell? ⟨ab, 1, none⟩ = some (.int .u64 0) := cell_of HAB4.out rfl
  have zf1 : W4.frozen? ⟨ab, 1, none⟩ = false := frozen_of HAB4.out
  have z2 : W4.cell? ⟨ab, 2, none⟩ = some (.int .u64 0) := cell_of HAB4.out rfl
  have zf2 : W4.frozen? ⟨ab, 2, none⟩ = false := frozen_of HAB4.out
  have z3 : W4.cell? ⟨ab, 3, none⟩ = some (.string ⟨#[]⟩) := cell_of HAB4.out rfl
  have zf3 : W4.frozen? ⟨ab, 3, none⟩ = false := frozen_of HAB4.out
  have z4 : W4.cell? ⟨ab, 4, none⟩ = some (.int .u32 0) := cell_of HAB4.out rfl
  have zf4 : W4.frozen? ⟨ab, 4, none⟩ = false := frozen_of HAB4.out
  have z5 : W4.cell? ⟨ab, 5, none⟩ = some (.int .u32 0) := cell_of HAB4.out rfl
  have zf5 : W4.frozen? ⟨ab, 5, none⟩ = false := frozen_of HAB4.out
  have z6 : W4.cell? ⟨ab, 6, none⟩ = some (.int .u64 0) := cell_of HAB4.out rfl
  have zf6 : W4.frozen? ⟨ab, 6, none⟩ = false := frozen_of HAB4.out
  have z7 : W4.cell? ⟨ab, 7, none⟩ = some (.int .u64 0) := cell_of HAB4.out rfl
  have zf7 : W4.frozen? ⟨ab, 7, none⟩ = false := frozen_of HAB4.out
  go_wp2_with fail
  obtain ⟨hh, hk8⟩ := fin8 HAB4.out (.int .i64 2) (.int .u64 0) (.int .u64 0) (.string o.pred) (.int .u32 (t.g : Nat)) (.int .u32 (t.to : Nat)) (.int .u64 (t.at_ : Nat)) (.int .u64 (t.tn : Nat))
  refine bodyPost_ret (results_cell_row (p := 4) (ty := 46) rfl _ _ ab 46 _ (0, 0) _ rfl hh Tryz.underlying46 rfl (by kernel_rfl)) rfl ⟨rfl, ?_⟩
  exact RTo.box HT4.out hk8 HNF.out HC2.out HLE.out
set_option maxRecDepth 100000 in
set_option maxHeartbeats 8000000 in
theorem rturn_78state1 (h : RRep w b R F r) (hF : ∀ g, F g → g < w.heap.size) (ho : OpAt w o l) (hfit : Fit r B) (hB : B ≤ 900000) (hk : o.k = 7 ∨ o.k = 8) {t : Tb} (hl : lk r.t o.pred = some t) (hx : t.to = 0) :
    Calls Tryz.prog 64 #[.pointer (some ⟨b, 0, none⟩), .agg (opC o l)] w fun e w' => e = .returned (.agg #[.int .i64 3, .int .u64 0, .int .u64 0, .string o.pred, .int .u32 (t.g : Nat), .int .u32 (t.to : Nat), .int .u64 (t.at_ : Nat), .int .u64 (t.tn : Nat)]) ∧ RTo w b F r w' := by
  obtain ⟨W2, ob, ab, hW2, hob, hab, ho2, ha2, hc2, hs2⟩ := two_boxes w o l
  have HW2 := Lib.hid hW2
  have HOS := Lib.hid hob
  have HAS := Lib.hid hab
  have HOB := Lib.hid ho2
  have HAB := Lib.hid ha2
  have HC2 := Lib.hid hc2
  have HH := Lib.hid (h.same hc2)
  have HNF := Lib.hid (show ¬ (F ab ∨ W2.heap.size ≤ ab) from fun e => by rcases e with e | e; exact absurd (hF _ e) (by omega); omega)
  have HNO := Lib.hid (show ¬ (F ob ∨ W2.heap.size ≤ ob) from fun e => by rcases e with e | e; exact absurd (hF _ e) (by omega); omega)
  have HLE := Lib.hid (show w.heap.size ≤ ab by omega)
  have HO2 := Lib.hid (ho.same hc2)
  have qk5 : ((o.k : Int) == 5) = false := by rw [beq_eq_false_iff_ne]; omega
  have qn5 : decide (o.k = 5) = false := decide_eq_false (by omega)
  have qk6 : ((o.k : Int) == 6) = false := by rw [beq_eq_false_iff_ne]; omega
  have qn6 : decide (o.k = 6) = false := decide_eq_false (by omega)
  have ce : ((t.to : Int) == (0 : Int)) = true := by rw [beq_iff_eq]; omega
  have cn : ((t.to : Int) != (0 : Int)) = false := by rw [bne_eq_false_iff_eq]; omega
  have cd : decide ((t.to : Int) = (0 : Int)) = true := by simp; omega
  obtain ⟨i, hi, ei, hbf⟩ := tab_find hfit.ts hl
  have hp : t.p = o.pred := hfit.tp _ (lk_mem hl)
  have TB := Lib.hid (rtab_some HH.out o.pred hi (by rw [ei]) hbf)
  obtain ⟨g, cap, hv, hg, d0, d1, d2, d3, d4⟩ := HH.out.t_at hi
  rw [ei] at d0 d1 d2 d3 d4
  simp only at d0 d1 d2 d3 d4
  obtain ⟨n, hn⟩ : ∃ n, r.t.length = n := ⟨_, rfl⟩
  have HV := Lib.hid hv
  have HI := Lib.hid hi
  have HE := Lib.hid ei
  have HN := Lib.hid hn
  have HP := Lib.hid hp
  have e5 : W2.cell? ⟨b, 5, none⟩ = some (.slice (some ⟨g, 0, none⟩) n cap) := by rw [← hn, ← hv]; exact cell_of HH.out.box rfl
  have l0 : (0 : Int) ≤ i := by omega
  have l1 : (i : Int) < n := by omega
  have l2 : decide ((i : Int) < 0) = false := by simp
  have HGW := Lib.hid hg
  have HTS := Lib.hid hfit.ts
  have HTI := Lib.hid hfit.time
  have HTN := Lib.hid (show t.tn ≤ B from hfit.tn _ (lk_mem hl))
  have HBB := Lib.hid hB
  have k0 : W2.cell? ⟨ob, 0, none⟩ = some (.int .u8 (o.k : Nat)) := cell_of HOB.out rfl
  have k5 : W2.cell? ⟨ob, 5, none⟩ = some (.string o.pred) := cell_of HOB.out rfl
  obtain ⟨W4, HW4⟩ : ∃ W, Hid (W2.alloc (.cells #[.string o.pred, .int .u32 (t.g : Nat), .int .u32 (t.to : Nat), .int .u64 (t.at_ : Nat), .int .u64 (t.tn : Nat)] 41) = W) := ⟨_, Lib.hid rfl⟩
  obtain ⟨tb, HTB⟩ : ∃ k, Hid (ab + 1 = k) := ⟨_, Lib.hid rfl⟩
  have HS2 := Lib.hid hs2
  have HTB4 := Lib.hid (show W4.heap[tb]? = some (.cells #[.string o.pred, .int .u32 (t.g : Nat), .int .u32 (t.to : Nat), .int .u64 (t.at_ : Nat), .int .u64 (t.tn : Nat)] 41) by rw [← HW4.out, ← HTB.out, ← hs2]; exact Go.heap_alloc_new _ _)
  have C4 := Lib.hid (show Chg (fun _ => False) W2 W4 by rw [← HW4.out]; exact (Chg.refl _ _).alloc _)
  have HH4 := Lib.hid (HH.out.same C4.out)
  have HNT := Lib.hid (show ¬ F tb from fun e => by have := hF _ e; have := HTB.out; omega)
  have HT4 := Lib.hid (show RTo W2 b F r W4 from ⟨⟨R, HH4.out.wide (fun _ => Or.inl)⟩, C4.out.mono (fun _ f => f.elim)⟩)
  have HAB4 := Lib.hid ((C4.out.block ab (Array.getElem?_eq_some_iff.1 HAB.out).1 (fun f => f)).trans HAB.out)
  have HOB4 := Lib.hid ((C4.out.block ob (Array.getElem?_eq_some_iff.1 HOB.out).1 (fun f => f)).trans HOB.out)
  clear h hF ho hfit hB hW2 hob hab ho2 ha2 hc2 hs2 hl ei hbf hp hv hn hg hk hx
  go_enter Tryz.func64, Tryz.ntmps64
  go_upto_region 1 with fail
  rw [HW2.out, HOS.out, HAS.out]
  go_wp2_with fail
  refine TB.out.mono ?_
  rintro e w4 ⟨rfl, hw4⟩
  obtain rfl : W2 = w4 := hw4.symm
  go_upto_region 11 with fail
  rw [HS2.out, HW4.out, HTB.out]
  clear e5 d0 d1 d2 d3 d4 k0 k5
  have k0 : W4.cell? ⟨ob, 0, none⟩ = some (.int .u8 (o.k : Nat)) := cell_of HOB4.out rfl
  have k1 : W4.cell? ⟨ob, 1, none⟩ = some (.int .u32 (o.n : Nat)) := cell_of HOB4.out rfl
  have k2 : W4.cell? ⟨ob, 2, none⟩ = some (.int .u64 (o.st : Nat)) := cell_of HOB4.out rfl
  have k3 : W4.cell? ⟨ob, 3, none⟩ = some (.slice l.ko o.keys.length l.kc) := cell_of HOB4.out rfl
  have k4 : W4.cell? ⟨ob, 4, none⟩ = some (.slice l.no o.needs.length l.nc) := cell_of HOB4.out rfl
  have k5 : W4.cell? ⟨ob, 5, none⟩ = some (.string o.pred) := cell_of HOB4.out rfl
  have k6 : W4.cell? ⟨ob, 6, none⟩ = some (.int .u32 (o.g : Nat)) := cell_of HOB4.out rfl
  have k7 : W4.cell? ⟨ob, 7, none⟩ = some (.int .u32 (o.to : Nat)) := cell_of HOB4.out rfl
  have k8 : W4.cell? ⟨ob, 8, none⟩ = some (.int .u64 (o.at_ : Nat)) := cell_of HOB4.out rfl
  have y0 : W4.cell? ⟨tb, 0, none⟩ = some (.string o.pred) := cell_of HTB4.out rfl
  have y1 : W4.cell? ⟨tb, 1, none⟩ = some (.int .u32 (t.g : Nat)) := cell_of HTB4.out rfl
  have y2 : W4.cell? ⟨tb, 2, none⟩ = some (.int .u32 (t.to : Nat)) := cell_of HTB4.out rfl
  have y3 : W4.cell? ⟨tb, 3, none⟩ = some (.int .u64 (t.at_ : Nat)) := cell_of HTB4.out rfl
  have y4 : W4.cell? ⟨tb, 4, none⟩ = some (.int .u64 (t.tn : Nat)) := cell_of HTB4.out rfl
  have z0 : W4.cell? ⟨ab, 0, none⟩ = some (.int .i64 0) := cell_of HAB4.out rfl
  have zf0 : W4.frozen? ⟨ab, 0, none⟩ = false := frozen_of HAB4.out
  have z1 : W4.cell? ⟨ab, 1, none⟩ = some (.int .u64 0) := cell_of HAB4.out rfl
  have zf1 : W4.frozen? ⟨ab, 1, none⟩ = false := frozen_of HAB4.out
  have z2 : W4.cell? ⟨ab, 2, none⟩ = some (.int .u64 0) := cell_of HAB4.out rfl
  have zf2 : W4.frozen? ⟨ab, 2, none⟩ = false := frozen_of HAB4.out
  have z3 : W4.cell? ⟨ab, 3, none⟩ = some (.string ⟨#[]⟩) := cell_of HAB4.out rfl
  have zf3 : W4.frozen? ⟨ab, 3, none⟩ = false := frozen_of HAB4.out
  have z4 : W4.cell? ⟨ab, 4, none⟩ = some (.int .u32 0) := cell_of HAB4.out rfl
  have zf4 : W4.frozen? ⟨ab, 4, none⟩ = false := frozen_of HAB4.out
  have z5 : W4.cell? ⟨ab, 5, none⟩ = some (.int .u32 0) := cell_of HAB4.out rfl
  have zf5 : W4.frozen? ⟨ab, 5, none⟩ = false := frozen_of HAB4.out
  have z6 : W4.cell? ⟨ab, 6, none⟩ = some (.int .u64 0) := cell_of HAB4.out rfl
  have zf6 : W4.frozen? ⟨ab, 6, none⟩ = false := frozen_of HAB4.out
  have z7 : W4.cell? ⟨ab, 7, none⟩ = some (.int .u64 0) := cell_of HAB4.out rfl
  have zf7 : W4.frozen? ⟨ab, 7, none⟩ = false := frozen_of HAB4.out
  go_wp2_with fail
  obtain ⟨hh, hk8⟩ := fin8 HAB4.out (.int .i64 3) (.int .u64 0) (.int .u64 0) (.string o.pred) (.int .u32 (t.g : Nat)) (.int .u32 (t.to : Nat)) (.int .u64 (t.at_ : Nat)) (.int .u64 (t.tn : Nat))
  refine bodyPost_ret (results_cell_row (p := 4) (ty := 46) rfl _ _ ab 46 _ (0, 0) _ rfl hh Tryz.underlying46 rfl (by kernel_rfl)) rfl ⟨rfl, ?_⟩
  exact RTo.box HT4.out hk8 HNF.out HC2.out HLE.out
set_option maxRecDepth 100000 in
set_option maxHeartbeats 8000000 in
theorem rturn_78state2 (h : RRep w b R F r) (hF : ∀ g, F g → g < w.heap.size) (ho : OpAt w o l) (hfit : Fit r B) (hB : B ≤ 900000) (hk : o.k = 7 ∨ o.k = 8) {t : Tb} (hl : lk r.t o.pred = some t) (hx : t.to ≠ 0 ∧ t.at_ ≠ o.at_) :
    Calls Tryz.prog 64 #[.pointer (some ⟨b, 0, none⟩), .agg (opC o l)] w fun e w' => e = .returned (.agg #[.int .i64 3, .int .u64 0, .int .u64 0, .string o.pred, .int .u32 (t.g : Nat), .int .u32 (t.to : Nat), .int .u64 (t.at_ : Nat), .int .u64 (t.tn : Nat)]) ∧ RTo w b F r w' := by
  obtain ⟨W2, ob, ab, hW2, hob, hab, ho2, ha2, hc2, hs2⟩ := two_boxes w o l
  have HW2 := Lib.hid hW2
  have HOS := Lib.hid hob
  have HAS := Lib.hid hab
  have HOB := Lib.hid ho2
  have HAB := Lib.hid ha2
  have HC2 := Lib.hid hc2
  have HH := Lib.hid (h.same hc2)
  have HNF := Lib.hid (show ¬ (F ab ∨ W2.heap.size ≤ ab) from fun e => by rcases e with e | e; exact absurd (hF _ e) (by omega); omega)
  have HNO := Lib.hid (show ¬ (F ob ∨ W2.heap.size ≤ ob) from fun e => by rcases e with e | e; exact absurd (hF _ e) (by omega); omega)
  have HLE := Lib.hid (show w.heap.size ≤ ab by omega)
  have HO2 := Lib.hid (ho.same hc2)
  have qk5 : ((o.k : Int) == 5) = false := by rw [beq_eq_false_iff_ne]; omega
  have qn5 : decide (o.k = 5) = false := decide_eq_false (by omega)
  have qk6 : ((o.k : Int) == 6) = false := by rw [beq_eq_false_iff_ne]; omega
  have qn6 : decide (o.k = 6) = false := decide_eq_false (by omega)
  have hx1 := hx.1
  have hx2 := hx.2
  have ce : ((t.to : Int) == (0 : Int)) = false := by rw [beq_eq_false_iff_ne]; omega
  have cn : ((t.to : Int) != (0 : Int)) = true := by rw [bne_iff_ne]; omega
  have cd : decide ((t.to : Int) = (0 : Int)) = false := by simp; omega
  have fe : ((t.at_ : Int) == (o.at_ : Int)) = false := by rw [beq_eq_false_iff_ne]; omega
  have fn : ((t.at_ : Int) != (o.at_ : Int)) = true := by rw [bne_iff_ne]; omega
  have fd : decide ((t.at_ : Int) = (o.at_ : Int)) = false := by simp; omega
  clear hx1 hx2
  obtain ⟨i, hi, ei, hbf⟩ := tab_find hfit.ts hl
  have hp : t.p = o.pred := hfit.tp _ (lk_mem hl)
  have TB := Lib.hid (rtab_some HH.out o.pred hi (by rw [ei]) hbf)
  obtain ⟨g, cap, hv, hg, d0, d1, d2, d3, d4⟩ := HH.out.t_at hi
  rw [ei] at d0 d1 d2 d3 d4
  simp only at d0 d1 d2 d3 d4
  obtain ⟨n, hn⟩ : ∃ n, r.t.length = n := ⟨_, rfl⟩
  have HV := Lib.hid hv
  have HI := Lib.hid hi
  have HE := Lib.hid ei
  have HN := Lib.hid hn
  have HP := Lib.hid hp
  have e5 : W2.cell? ⟨b, 5, none⟩ = some (.slice (some ⟨g, 0, none⟩) n cap) := by rw [← hn, ← hv]; exact cell_of HH.out.box rfl
  have l0 : (0 : Int) ≤ i := by omega
  have l1 : (i : Int) < n := by omega
  have l2 : decide ((i : Int) < 0) = false := by simp
  have HGW := Lib.hid hg
  have HTS := Lib.hid hfit.ts
  have HTI := Lib.hid hfit.time
  have HTN := Lib.hid (show t.tn ≤ B from hfit.tn _ (lk_mem hl))
  have HBB := Lib.hid hB
  have k0 : W2.cell? ⟨ob, 0, none⟩ = some (.int .u8 (o.k : Nat)) := cell_of HOB.out rfl
  have k5 : W2.cell? ⟨ob, 5, none⟩ = some (.string o.pred) := cell_of HOB.out rfl
  obtain ⟨W4, HW4⟩ : ∃ W, Hid (W2.alloc (.cells #[.string o.pred, .int .u32 (t.g : Nat), .int .u32 (t.to : Nat), .int .u64 (t.at_ : Nat), .int .u64 (t.tn : Nat)] 41) = W) := ⟨_, Lib.hid rfl⟩
  obtain ⟨tb, HTB⟩ : ∃ k, Hid (ab + 1 = k) := ⟨_, Lib.hid rfl⟩
  have HS2 := Lib.hid hs2
  have HTB4 := Lib.hid (show W4.heap[tb]? = some (.cells #[.string o.pred, .int .u32 (t.g : Nat), .int .u32 (t.to : Nat), .int .u64 (t.at_ : Nat), .int .u64 (t.tn : Nat)] 41) by rw [← HW4.out, ← HTB.out, ← hs2]; exact Go.heap_alloc_new _ _)
  have C4 := Lib.hid (show Chg (fun _ => False) W2 W4 by rw [← HW4.out]; exact (Chg.refl _ _).alloc _)
  have HH4 := Lib.hid (HH.out.same C4.out)
  have HNT := Lib.hid (show ¬ F tb from fun e => by have := hF _ e; have := HTB.out; omega)
  have HT4 := Lib.hid (show RTo W2 b F r W4 from ⟨⟨R, HH4.out.wide (fun _ => Or.inl)⟩, C4.out.mono (fun _ f => f.elim)⟩)
  have HAB4 := Lib.hid ((C4.out.block ab (Array.getElem?_eq_some_iff.1 HAB.out).1 (fun f => f)).trans HAB.out)
  have HOB4 := Lib.hid ((C4.out.block ob (Array.getElem?_eq_some_iff.1 HOB.out).1 (fun f => f)).trans HOB.out)
  clear h hF ho hfit hB hW2 hob hab ho2 ha2 hc2 hs2 hl ei hbf hp hv hn hg hk hx
  go_enter Tryz.func64, Tryz.ntmps64
  go_upto_region 1 with fail
  rw [HW2.out, HOS.out, HAS.out]
  go_wp2_with fail
  refine TB.out.mono ?_
  rintro e w4 ⟨rfl, hw4⟩
  obtain rfl : W2 = w4 := hw4.symm
  go_upto_region 11 with fail
  rw [HS2.out, HW4.out, HTB.out]
  clear e5 d0 d1 d2 d3 d4 k0 k5
  have k0 : W4.cell? ⟨ob, 0, none⟩ = some (.int .u8 (o.k : Nat)) := cell_of HOB4.out rfl
  have k1 : W4.cell? ⟨ob, 1, none⟩ = some (.int .u32 (o.n : Nat)) := cell_of HOB4.out rfl
  have k2 : W4.cell? ⟨ob, 2, none⟩ = some (.int .u64 (o.st : Nat)) := cell_of HOB4.out rfl
  have k3 : W4.cell? ⟨ob, 3, none⟩ = some (.slice l.ko o.keys.length l.kc) := cell_of HOB4.out rfl
  have k4 : W4.cell? ⟨ob, 4, none⟩ = some (.slice l.no o.needs.length l.nc) := cell_of HOB4.out rfl
  have k5 : W4.cell? ⟨ob, 5, none⟩ = some (.string o.pred) := cell_of HOB4.out rfl
  have k6 : W4.cell? ⟨ob, 6, none⟩ = some (.int .u32 (o.g : Nat)) := cell_of HOB4.out rfl
  have k7 : W4.cell? ⟨ob, 7, none⟩ = some (.int .u32 (o.to : Nat)) := cell_of HOB4.out rfl
  have k8 : W4.cell? ⟨ob, 8, none⟩ = some (.int .u64 (o.at_ : Nat)) := cell_of HOB4.out rfl
  have y0 : W4.cell? ⟨tb, 0, none⟩ = some (.string o.pred) := cell_of HTB4.out rfl
  have y1 : W4.cell? ⟨tb, 1, none⟩ = some (.int .u32 (t.g : Nat)) := cell_of HTB4.out rfl
  have y2 : W4.cell? ⟨tb, 2, none⟩ = some (.int .u32 (t.to : Nat)) := cell_of HTB4.out rfl
  have y3 : W4.cell? ⟨tb, 3, none⟩ = some (.int .u64 (t.at_ : Nat)) := cell_of HTB4.out rfl
  have y4 : W4.cell? ⟨tb, 4, none⟩ = some (.int .u64 (t.tn : Nat)) := cell_of HTB4.out rfl
  have z0 : W4.cell? ⟨ab, 0, none⟩ = some (.int .i64 0) := cell_of HAB4.out rfl
  have zf0 : W4.frozen? ⟨ab, 0, none⟩ = false := frozen_of HAB4.out
  have z1 : W4.cell? ⟨ab, 1, none⟩ = some (.int .u64 0) := cell_of HAB4.out rfl
  have zf1 : W4.frozen? ⟨ab, 1, none⟩ = false := frozen_of HAB4.out
  have z2 : W4.cell? ⟨ab, 2, none⟩ = some (.int .u64 0) := cell_of HAB4.out rfl
  have zf2 : W4.frozen? ⟨ab, 2, none⟩ = false := frozen_of HAB4.out
  have z3 : W4.cell? ⟨ab, 3, none⟩ = some (.string ⟨#[]⟩) := cell_of HAB4.out rfl
  have zf3 : W4.frozen? ⟨ab, 3, none⟩ = false := frozen_of HAB4.out
  have z4 : W4.cell? ⟨ab, 4, none⟩ = some (.int .u32 0) := cell_of HAB4.out rfl
  have zf4 : W4.frozen? ⟨ab, 4, none⟩ = false := frozen_of HAB4.out
  have z5 : W4.cell? ⟨ab, 5, none⟩ = some (.int .u32 0) := cell_of HAB4.out rfl
  have zf5 : W4.frozen? ⟨ab, 5, none⟩ = false := frozen_of HAB4.out
  have z6 : W4.cell? ⟨ab, 6, none⟩ = some (.int .u64 0) := cell_of HAB4.out rfl
  have zf6 : W4.frozen? ⟨ab, 6, none⟩ = false := frozen_of HAB4.out
  have z7 : W4.cell? ⟨ab, 7, none⟩ = some (.int .u64 0) := cell_of HAB4.out rfl
  have zf7 : W4.frozen? ⟨ab, 7, none⟩ = false := frozen_of HAB4.out
  go_wp2_with fail
  obtain ⟨hh, hk8⟩ := fin8 HAB4.out (.int .i64 3) (.int .u64 0) (.int .u64 0) (.string o.pred) (.int .u32 (t.g : Nat)) (.int .u32 (t.to : Nat)) (.int .u64 (t.at_ : Nat)) (.int .u64 (t.tn : Nat))
  refine bodyPost_ret (results_cell_row (p := 4) (ty := 46) rfl _ _ ab 46 _ (0, 0) _ rfl hh Tryz.underlying46 rfl (by kernel_rfl)) rfl ⟨rfl, ?_⟩
  exact RTo.box HT4.out hk8 HNF.out HC2.out HLE.out
end
end Go.Proofs.YtgmmglmokkcgeaaGreat
