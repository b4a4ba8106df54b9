/- Walks: the document's Apply. Printed by genRf.py. -/
import Derived.Test.YtgmmglmokkcgeaaGreatRc
import Derived.Test.YtgmmglmokkcgeaaGreatRg
import Derived.Test.YtgmmglmokkcgeaaGreatE2z
namespace Go.Proofs.YtgmmglmokkcgeaaGreat
set_option linter.unusedVariables false
set_option linter.unusedSimpArgs false
set_option linter.unusedSectionVars false
open Go.RowKit Mk Go.Sort

section
variable {w w' : World} {b : Nat} {R : RV} {F G : Nat → Prop} {r : RM} {o : OpM} {l : OpL} {B : Nat}
theorem rend_all (h : RRep w b R F r) (hF : ∀ g, F g → g < w.heap.size) (ho : OpAt w o l) (hfit : Fit r B) (hB : B ≤ 900000) (hsep : ∀ g o', (o.keys ≠ [] ∧ l.ko = some ⟨g, o', none⟩) ∨ (o.needs ≠ [] ∧ l.no = some ⟨g, o', none⟩) → ¬ F g) (hm : mayM o = true) (hk : o.k = 3 ∨ o.k = 4) :
    Calls Tryz.prog 62 #[.pointer (some ⟨b, 0, none⟩), .agg (opC o l)] w fun e w' => e = .returned (anV (rendM r o).2) ∧ RTo w b F (rendM r o).1 w' := by
  unfold rendM
  by_cases h1 : r.time < o.st
  · rw [if_pos h1]; exact rend_late h hF ho hfit hB h1
  rw [if_neg h1]
  cases hl : lk r.d o.st with
  | some c => exact rend_had h hF ho hfit hB h1 hl
  | none =>
    simp only
    by_cases h2 : o.st < r.mark
    · rw [if_pos h2]; exact rend_low h hF ho hfit hB h1 hl h2
    rw [if_neg h2]
    by_cases h3 : o.k = 4 ∨ rclearM r o = false
    · rw [if_pos h3]; exact rend_abort h hF ho hfit hB h1 hl h2 h3
    rw [if_neg h3]
    have hk3 : o.k = 3 := hk.resolve_right (fun e => h3 (Or.inl e))
    have hc : rclearM r o = true := by cases hc : rclearM r o with | true => rfl | false => exact absurd (Or.inr hc) h3
    exact rend_commit h hF ho hfit hB h1 hl h2 hk3 hc (may_keys hm hk3) hsep
theorem rturn_all (h : RRep w b R F r) (hF : ∀ g, F g → g < w.heap.size) (ho : OpAt w o l) (hfit : Fit r B) (hB : B ≤ 900000) (hk : o.k = 5 ∨ o.k = 6 ∨ o.k = 7 ∨ o.k = 8) :
    Calls Tryz.prog 64 #[.pointer (some ⟨b, 0, none⟩), .agg (opC o l)] w fun e w' => e = .returned (anV (rturnM r o).2) ∧ RTo w b F (rturnM r o).1 w' := by
  have hp : ∀ t, lk r.t o.pred = some t → o.pred = t.p := fun t ht => (hfit.tp _ (lk_mem ht)).symm
  unfold rturnM
  by_cases h5 : o.k = 5
  · rw [if_pos h5]
    cases hl : lk r.t o.pred with
    | some t => have := rturn_5had h hF ho hfit hB h5 hl; rw [hp t hl] at this ⊢; rw [← hp t hl] at this ⊢; unfold anV anC; simp only; rw [← hp t hl]; exact this
    | none => exact rturn_5new h hF ho hfit hB h5 hl
  rw [if_neg h5]
  cases hl : lk r.t o.pred with
  | none => exact rturn_none h hF ho hfit hB h5 hl
  | some t =>
    have e := hp t hl
    have hv : ∀ code, anV ⟨code, 0, 0, t⟩ = .agg #[.int .i64 (code : Nat), .int .u64 0, .int .u64 0, .string o.pred, .int .u32 (t.g : Nat), .int .u32 (t.to : Nat), .int .u64 (t.at_ : Nat), .int .u64 (t.tn : Nat)] := fun code => by unfold anV anC; simp only; rw [e]; rfl
    simp only
    by_cases h6 : o.k = 6
    · rw [if_pos h6]
      by_cases h1 : t.to ≠ 0
      · rw [if_pos h1, hv 3]; exact rturn_6state h hF ho hfit hB h6 hl h1
      · rw [if_neg h1]
        by_cases h2 : t.g = o.to
        · rw [if_pos h2, hv 2]; exact rturn_6arg h hF ho hfit hB h6 hl ⟨by omega, h2⟩
        · rw [if_neg h2]
          have := rturn_6 h hF ho hfit hB h6 hl ⟨by omega, h2⟩
          unfold anV anC
          simp only
          rw [← e] at this ⊢
          exact this
    · rw [if_neg h6]
      have h78 : o.k = 7 ∨ o.k = 8 := by omega
      by_cases h1 : t.to = 0 ∨ t.at_ ≠ o.at_
      · rw [if_pos h1, hv 3]
        by_cases h2 : t.to = 0
        · exact rturn_78state1 h hF ho hfit hB h78 hl h2
        · exact rturn_78state2 h hF ho hfit hB h78 hl ⟨h2, h1.resolve_left h2⟩
      · rw [if_neg h1]
        have hx : t.to ≠ 0 ∧ t.at_ = o.at_ := ⟨fun e => h1 (Or.inl e), Decidable.not_not.1 (fun e => h1 (Or.inr e))⟩
        rcases h78 with h7 | h8
        · have := rturn_7 h hF ho hfit hB h7 hl hx
          rw [if_pos h7]
          unfold anV anC
          simp only
          rw [← e] at this ⊢
          exact this
        · have := rturn_8 h hF ho hfit hB h8 hl hx
          rw [if_neg (by omega)]
          unfold anV anC
          simp only
          rw [← e] at this ⊢
          exact this
set_option maxRecDepth 100000 in
set_option maxHeartbeats 8000000 in
theorem rapply_no (h : RRep w b R F r) (hF : ∀ g, F g → g < w.heap.size) (ho : OpAt w o l) (hfit : Fit r B) (hB : B ≤ 900000) (hm : mayM o = false) :
    Calls Tryz.prog 23 #[.pointer (some ⟨b, 0, none⟩), .agg (opC o l)] w fun e w' => e = .returned (anV ⟨200, 0, 0, .zero⟩) ∧ RTo w b F r w' := by
  obtain ⟨W2, ob, ab, hW2, hob, hab, ho2, ha2, hc2, hs2⟩ := two_boxes w o l
  have HW2 := Lib.hid hW2
  have HOS := Lib.hid hob
  have HAS := Lib.hid hab
  have HOB := Lib.hid ho2
  have HAB := Lib.hid ha2
  have HC2 := Lib.hid hc2
  have HH := Lib.hid (h.same hc2)
  have HNF := Lib.hid (show ¬ (F ab ∨ W2.heap.size ≤ ab) from fun e => by rcases e with e | e; exact absurd (hF _ e) (by omega); omega)
  have HNO := Lib.hid (show ¬ (F ob ∨ W2.heap.size ≤ ob) from fun e => by rcases e with e | e; exact absurd (hF _ e) (by omega); omega)
  have HLE := Lib.hid (show w.heap.size ≤ ab by omega)
  have HO2 := Lib.hid (ho.same hc2)
  have MM := rmay_any (ho.same hc2)
  rw [hm] at MM
  have MM := Lib.hid MM
  have k0 : W2.cell? ⟨ob, 0, none⟩ = some (.int .u8 (o.k : Nat)) := cell_of HOB.out rfl
  have k1 : W2.cell? ⟨ob, 1, none⟩ = some (.int .u32 (o.n : Nat)) := cell_of HOB.out rfl
  have k2 : W2.cell? ⟨ob, 2, none⟩ = some (.int .u64 (o.st : Nat)) := cell_of HOB.out rfl
  have k3 : W2.cell? ⟨ob, 3, none⟩ = some (.slice l.ko o.keys.length l.kc) := cell_of HOB.out rfl
  have k4 : W2.cell? ⟨ob, 4, none⟩ = some (.slice l.no o.needs.length l.nc) := cell_of HOB.out rfl
  have k5 : W2.cell? ⟨ob, 5, none⟩ = some (.string o.pred) := cell_of HOB.out rfl
  have k6 : W2.cell? ⟨ob, 6, none⟩ = some (.int .u32 (o.g : Nat)) := cell_of HOB.out rfl
  have k7 : W2.cell? ⟨ob, 7, none⟩ = some (.int .u32 (o.to : Nat)) := cell_of HOB.out rfl
  have k8 : W2.cell? ⟨ob, 8, none⟩ = some (.int .u64 (o.at_ : Nat)) := cell_of HOB.out rfl
  clear h hF ho hfit hB hW2 hob hab ho2 ha2 hc2 hs2 hm
  go_enter Tryz.func23, Tryz.ntmps23
  go_upto_region 1 with fail
  rw [HW2.out, HOS.out, HAS.out]
  go_wp2_with fail
  refine MM.out.mono ?_
  rintro e W3 ⟨rfl, c3⟩
  have C3 := Lib.hid c3
  have HAB3 := Lib.hid ((c3.block ab (Array.getElem?_eq_some_iff.1 HAB.out).1 (fun f => f)).trans HAB.out)
  have HOB3 := Lib.hid ((c3.block ob (Array.getElem?_eq_some_iff.1 HOB.out).1 (fun f => f)).trans HOB.out)
  have H3 := Lib.hid (HH.out.same c3)
  clear c3 k0 k1 k2 k3 k4 k5 k6 k7 k8 MM
  have k0 : W3.cell? ⟨ob, 0, none⟩ = some (.int .u8 (o.k : Nat)) := cell_of HOB3.out rfl
  have HT3 := Lib.hid (show RTo W2 b F r W3 from ⟨⟨R, H3.out.wide (fun _ => Or.inl)⟩, C3.out.mono (fun _ f => f.elim)⟩)
  have z0 : W3.cell? ⟨ab, 0, none⟩ = some (.int .i64 0) := cell_of HAB3.out rfl
  have zf0 : W3.frozen? ⟨ab, 0, none⟩ = false := frozen_of HAB3.out
  have z1 : W3.cell? ⟨ab, 1, none⟩ = some (.int .u64 0) := cell_of HAB3.out rfl
  have zf1 : W3.frozen? ⟨ab, 1, none⟩ = false := frozen_of HAB3.out
  have z2 : W3.cell? ⟨ab, 2, none⟩ = some (.int .u64 0) := cell_of HAB3.out rfl
  have zf2 : W3.frozen? ⟨ab, 2, none⟩ = false := frozen_of HAB3.out
  have z3 : W3.cell? ⟨ab, 3, none⟩ = some (.string ⟨#[]⟩) := cell_of HAB3.out rfl
  have zf3 : W3.frozen? ⟨ab, 3, none⟩ = false := frozen_of HAB3.out
  have z4 : W3.cell? ⟨ab, 4, none⟩ = some (.int .u32 0) := cell_of HAB3.out rfl
  have zf4 : W3.frozen? ⟨ab, 4, none⟩ = false := frozen_of HAB3.out
  have z5 : W3.cell? ⟨ab, 5, none⟩ = some (.int .u32 0) := cell_of HAB3.out rfl
  have zf5 : W3.frozen? ⟨ab, 5, none⟩ = false := frozen_of HAB3.out
  have z6 : W3.cell? ⟨ab, 6, none⟩ = some (.int .u64 0) := cell_of HAB3.out rfl
  have zf6 : W3.frozen? ⟨ab, 6, none⟩ = false := frozen_of HAB3.out
  have z7 : W3.cell? ⟨ab, 7, none⟩ = some (.int .u64 0) := cell_of HAB3.out rfl
  have zf7 : W3.frozen? ⟨ab, 7, none⟩ = false := frozen_of HAB3.out
  go_wp2_with fail
  obtain ⟨hh, hk8⟩ := fin8 HAB3.out (.int .i64 200) (.int .u64 0) (.int .u64 0) (.string ⟨#[]⟩) (.int .u32 0) (.int .u32 0) (.int .u64 0) (.int .u64 0)
  refine bodyPost_ret (results_cell_row (p := 4) (ty := 46) rfl _ _ ab 46 _ (0, 0) _ rfl hh Tryz.underlying46 rfl (by kernel_rfl)) rfl ⟨rfl, ?_⟩
  exact RTo.box HT3.out hk8 HNF.out HC2.out HLE.out
set_option maxRecDepth 100000 in
set_option maxHeartbeats 8000000 in
theorem rapply_1 (h : RRep w b R F r) (hF : ∀ g, F g → g < w.heap.size) (ho : OpAt w o l) (hfit : Fit r B) (hB : B ≤ 900000) (hm : mayM o = true) (hk : o.k = 1) :
    Calls Tryz.prog 23 #[.pointer (some ⟨b, 0, none⟩), .agg (opC o l)] w fun e w' => e = .returned (.agg #[.int .i64 0, .int .u64 ((r.time : Int) + 1), .int .u64 0, .string ⟨#[]⟩, .int .u32 0, .int .u32 0, .int .u64 0, .int .u64 0]) ∧ RTo w b F { r with time := r.time + o.n } w' := by
  have hnn := ho.n
  have htt : r.time < 9223372036854775808 := by have := hfit.time; omega
  obtain ⟨W2, ob, ab, hW2, hob, hab, ho2, ha2, hc2, hs2⟩ := two_boxes w o l
  have HW2 := Lib.hid hW2
  have HOS := Lib.hid hob
  have HAS := Lib.hid hab
  have HOB := Lib.hid ho2
  have HAB := Lib.hid ha2
  have HC2 := Lib.hid hc2
  have HH := Lib.hid (h.same hc2)
  have HNF := Lib.hid (show ¬ (F ab ∨ W2.heap.size ≤ ab) from fun e => by rcases e with e | e; exact absurd (hF _ e) (by omega); omega)
  have HNO := Lib.hid (show ¬ (F ob ∨ W2.heap.size ≤ ob) from fun e => by rcases e with e | e; exact absurd (hF _ e) (by omega); omega)
  have HLE := Lib.hid (show w.heap.size ≤ ab by omega)
  have HO2 := Lib.hid (ho.same hc2)
  have MM := rmay_any (ho.same hc2)
  rw [hm] at MM
  have MM := Lib.hid MM
  have k0 : W2.cell? ⟨ob, 0, none⟩ = some (.int .u8 (o.k : Nat)) := cell_of HOB.out rfl
  have k1 : W2.cell? ⟨ob, 1, none⟩ = some (.int .u32 (o.n : Nat)) := cell_of HOB.out rfl
  have k2 : W2.cell? ⟨ob, 2, none⟩ = some (.int .u64 (o.st : Nat)) := cell_of HOB.out rfl
  have k3 : W2.cell? ⟨ob, 3, none⟩ = some (.slice l.ko o.keys.length l.kc) := cell_of HOB.out rfl
  have k4 : W2.cell? ⟨ob, 4, none⟩ = some (.slice l.no o.needs.length l.nc) := cell_of HOB.out rfl
  have k5 : W2.cell? ⟨ob, 5, none⟩ = some (.string o.pred) := cell_of HOB.out rfl
  have k6 : W2.cell? ⟨ob, 6, none⟩ = some (.int .u32 (o.g : Nat)) := cell_of HOB.out rfl
  have k7 : W2.cell? ⟨ob, 7, none⟩ = some (.int .u32 (o.to : Nat)) := cell_of HOB.out rfl
  have k8 : W2.cell? ⟨ob, 8, none⟩ = some (.int .u64 (o.at_ : Nat)) := cell_of HOB.out rfl
  have qk1 : ((o.k : Int) == 1) = true := by rw [hk]; rfl
  have qn1 : decide (o.k = 1) = true := decide_eq_true hk
  clear h hF ho hfit hB hW2 hob hab ho2 ha2 hc2 hs2 hm hk
  go_enter Tryz.func23, Tryz.ntmps23
  go_upto_region 1 with fail
  rw [HW2.out, HOS.out, HAS.out]
  go_wp2_with fail
  refine MM.out.mono ?_
  rintro e W3 ⟨rfl, c3⟩
  have C3 := Lib.hid c3
  have HAB3 := Lib.hid ((c3.block ab (Array.getElem?_eq_some_iff.1 HAB.out).1 (fun f => f)).trans HAB.out)
  have HOB3 := Lib.hid ((c3.block ob (Array.getElem?_eq_some_iff.1 HOB.out).1 (fun f => f)).trans HOB.out)
  have H3 := Lib.hid (HH.out.same c3)
  clear c3 k0 k1 k2 k3 k4 k5 k6 k7 k8 MM
  have k0 : W3.cell? ⟨ob, 0, none⟩ = some (.int .u8 (o.k : Nat)) := cell_of HOB3.out rfl
  have k1 : W3.cell? ⟨ob, 1, none⟩ = some (.int .u32 (o.n : Nat)) := cell_of HOB3.out rfl
  have e0 : W3.cell? ⟨b, 0, none⟩ = some (.int .u64 (r.time : Nat)) := cell_of H3.out.box rfl
  obtain ⟨f0, h4⟩ := RRep.setBox H3.out (r' := { r with time := r.time + o.n }) (i := 0) (v := .int .u64 ((r.time : Int) + (o.n : Int))) (by simp [rC]) rfl rfl rfl rfl
  have H4 := Lib.hid h4
  have C4 := Lib.hid (show Chg F W2 (W3.setCell ⟨b, 0, none⟩ (.int .u64 ((r.time : Int) + (o.n : Int)))) from (C3.out.mono (fun _ f => f.elim)).setCell (a := ⟨b, 0, none⟩) (Or.inl H3.out.fb) _)
  have HBA := Lib.hid (show ab ≠ b from fun e => HNF.out (Or.inl (by rw [e]; exact H3.out.fb)))
  clear h4
  go_upto_region 6 with fail
  go_cut [] from 20 to 30 (fun wx => Hid (RTo W2 b F { r with time := r.time + o.n } wx) ∧ Hid (wx.heap[ab]? = some (.cells #[.int .i64 0, .int .u64 0, .int .u64 0, .string ⟨#[]⟩, .int .u32 0, .int .u32 0, .int .u64 0, .int .u64 0] 46)))
  case first => as_aux_lemma =>
    go_region
    all_goals
      go_wp2_with fail
      go_meet
      case rel =>
        refine ⟨Lib.hid ⟨⟨R, (H4.out.same (chgd _)).wide (fun _ => Or.inl)⟩, C4.out.drew⟩, Lib.hid ?_⟩
        exact (Below.heap_setCell W3 ⟨b, 0, none⟩ _ ab HBA.out).trans HAB3.out
  case rest =>
    obtain ⟨HT9, HAB9⟩ := hcut
    generalize wc = W9 at *
    clear e0 f0 k0 k1
    have z0 : W9.cell? ⟨ab, 0, none⟩ = some (.int .i64 0) := cell_of HAB9.out rfl
    have zf0 : W9.frozen? ⟨ab, 0, none⟩ = false := frozen_of HAB9.out
    have z1 : W9.cell? ⟨ab, 1, none⟩ = some (.int .u64 0) := cell_of HAB9.out rfl
    have zf1 : W9.frozen? ⟨ab, 1, none⟩ = false := frozen_of HAB9.out
    have z2 : W9.cell? ⟨ab, 2, none⟩ = some (.int .u64 0) := cell_of HAB9.out rfl
    have zf2 : W9.frozen? ⟨ab, 2, none⟩ = false := frozen_of HAB9.out
    have z3 : W9.cell? ⟨ab, 3, none⟩ = some (.string ⟨#[]⟩) := cell_of HAB9.out rfl
    have zf3 : W9.frozen? ⟨ab, 3, none⟩ = false := frozen_of HAB9.out
    have z4 : W9.cell? ⟨ab, 4, none⟩ = some (.int .u32 0) := cell_of HAB9.out rfl
    have zf4 : W9.frozen? ⟨ab, 4, none⟩ = false := frozen_of HAB9.out
    have z5 : W9.cell? ⟨ab, 5, none⟩ = some (.int .u32 0) := cell_of HAB9.out rfl
    have zf5 : W9.frozen? ⟨ab, 5, none⟩ = false := frozen_of HAB9.out
    have z6 : W9.cell? ⟨ab, 6, none⟩ = some (.int .u64 0) := cell_of HAB9.out rfl
    have zf6 : W9.frozen? ⟨ab, 6, none⟩ = false := frozen_of HAB9.out
    have z7 : W9.cell? ⟨ab, 7, none⟩ = some (.int .u64 0) := cell_of HAB9.out rfl
    have zf7 : W9.frozen? ⟨ab, 7, none⟩ = false := frozen_of HAB9.out
    go_wp2_with fail
    obtain ⟨hh, hk8⟩ := fin8 HAB9.out (.int .i64 0) (.int .u64 ((r.time : Int) + 1)) (.int .u64 0) (.string ⟨#[]⟩) (.int .u32 0) (.int .u32 0) (.int .u64 0) (.int .u64 0)
    refine bodyPost_ret (results_cell_row (p := 4) (ty := 46) rfl _ _ ab 46 _ (0, 0) _ rfl hh Tryz.underlying46 rfl (by kernel_rfl)) rfl ⟨rfl, ?_⟩
    exact RTo.box HT9.out hk8 HNF.out HC2.out HLE.out
set_option maxRecDepth 100000 in
set_option maxHeartbeats 8000000 in
theorem rapply_2 (h : RRep w b R F r) (hF : ∀ g, F g → g < w.heap.size) (ho : OpAt w o l) (hfit : Fit r B) (hB : B ≤ 900000) (hm : mayM o = true) (hk : o.k = 2) :
    Calls Tryz.prog 23 #[.pointer (some ⟨b, 0, none⟩), .agg (opC o l)] w fun e w' => e = .returned (.agg #[.int .i64 0, .int .u64 ((r.uid : Int) + 1), .int .u64 0, .string ⟨#[]⟩, .int .u32 0, .int .u32 0, .int .u64 0, .int .u64 0]) ∧ RTo w b F { r with uid := r.uid + o.n } w' := by
  have hnn := ho.n
  have htt : r.uid < 9223372036854775808 := by have := hfit.uid; omega
  obtain ⟨W2, ob, ab, hW2, hob, hab, ho2, ha2, hc2, hs2⟩ := two_boxes w o l
  have HW2 := Lib.hid hW2
  have HOS := Lib.hid hob
  have HAS := Lib.hid hab
  have HOB := Lib.hid ho2
  have HAB := Lib.hid ha2
  have HC2 := Lib.hid hc2
  have HH := Lib.hid (h.same hc2)
  have HNF := Lib.hid (show ¬ (F ab ∨ W2.heap.size ≤ ab) from fun e => by rcases e with e | e; exact absurd (hF _ e) (by omega); omega)
  have HNO := Lib.hid (show ¬ (F ob ∨ W2.heap.size ≤ ob) from fun e => by rcases e with e | e; exact absurd (hF _ e) (by omega); omega)
  have HLE := Lib.hid (show w.heap.size ≤ ab by omega)
  have HO2 := Lib.hid (ho.same hc2)
  have MM := rmay_any (ho.same hc2)
  rw [hm] at MM
  have MM := Lib.hid MM
  have k0 : W2.cell? ⟨ob, 0, none⟩ = some (.int .u8 (o.k : Nat)) := cell_of HOB.out rfl
  have k1 : W2.cell? ⟨ob, 1, none⟩ = some (.int .u32 (o.n : Nat)) := cell_of HOB.out rfl
  have k2 : W2.cell? ⟨ob, 2, none⟩ = some (.int .u64 (o.st : Nat)) := cell_of HOB.out rfl
  have k3 : W2.cell? ⟨ob, 3, none⟩ = some (.slice l.ko o.keys.length l.kc) := cell_of HOB.out rfl
  have k4 : W2.cell? ⟨ob, 4, none⟩ = some (.slice l.no o.needs.length l.nc) := cell_of HOB.out rfl
  have k5 : W2.cell? ⟨ob, 5, none⟩ = some (.string o.pred) := cell_of HOB.out rfl
  have k6 : W2.cell? ⟨ob, 6, none⟩ = some (.int .u32 (o.g : Nat)) := cell_of HOB.out rfl
  have k7 : W2.cell? ⟨ob, 7, none⟩ = some (.int .u32 (o.to : Nat)) := cell_of HOB.out rfl
  have k8 : W2.cell? ⟨ob, 8, none⟩ = some (.int .u64 (o.at_ : Nat)) := cell_of HOB.out rfl
  have qk1 : ((o.k : Int) == 1) = false := by rw [beq_eq_false_iff_ne]; omega
  have qn1 : decide (o.k = 1) = false := decide_eq_false (by omega)
  have qk2 : ((o.k : Int) == 2) = true := by rw [hk]; rfl
  have qn2 : decide (o.k = 2) = true := decide_eq_true hk
  clear h hF ho hfit hB hW2 hob hab ho2 ha2 hc2 hs2 hm hk
  go_enter Tryz.func23, Tryz.ntmps23
  go_upto_region 1 with fail
  rw [HW2.out, HOS.out, HAS.out]
  go_wp2_with fail
  refine MM.out.mono ?_
  rintro e W3 ⟨rfl, c3⟩
  have C3 := Lib.hid c3
  have HAB3 := Lib.hid ((c3.block ab (Array.getElem?_eq_some_iff.1 HAB.out).1 (fun f => f)).trans HAB.out)
  have HOB3 := Lib.hid ((c3.block ob (Array.getElem?_eq_some_iff.1 HOB.out).1 (fun f => f)).trans HOB.out)
  have H3 := Lib.hid (HH.out.same c3)
  clear c3 k0 k1 k2 k3 k4 k5 k6 k7 k8 MM
  have k0 : W3.cell? ⟨ob, 0, none⟩ = some (.int .u8 (o.k : Nat)) := cell_of HOB3.out rfl
  have k1 : W3.cell? ⟨ob, 1, none⟩ = some (.int .u32 (o.n : Nat)) := cell_of HOB3.out rfl
  have e0 : W3.cell? ⟨b, 1, none⟩ = some (.int .u64 (r.uid : Nat)) := cell_of H3.out.box rfl
  obtain ⟨f0, h4⟩ := RRep.setBox H3.out (r' := { r with uid := r.uid + o.n }) (i := 1) (v := .int .u64 ((r.uid : Int) + (o.n : Int))) (by simp [rC]) rfl rfl rfl rfl
  have H4 := Lib.hid h4
  have C4 := Lib.hid (show Chg F W2 (W3.setCell ⟨b, 1, none⟩ (.int .u64 ((r.uid : Int) + (o.n : Int)))) from (C3.out.mono (fun _ f => f.elim)).setCell (a := ⟨b, 1, none⟩) (Or.inl H3.out.fb) _)
  have HBA := Lib.hid (show ab ≠ b from fun e => HNF.out (Or.inl (by rw [e]; exact H3.out.fb)))
  clear h4
  go_upto_region 10 with fail
  go_cut [] from 40 to 50 (fun wx => Hid (RTo W2 b F { r with uid := r.uid + o.n } wx) ∧ Hid (wx.heap[ab]? = some (.cells #[.int .i64 0, .int .u64 0, .int .u64 0, .string ⟨#[]⟩, .int .u32 0, .int .u32 0, .int .u64 0, .int .u64 0] 46)))
  case first => as_aux_lemma =>
    go_region
    all_goals
      go_wp2_with fail
      go_meet
      case rel =>
        refine ⟨Lib.hid ⟨⟨R, (H4.out.same (chgd _)).wide (fun _ => Or.inl)⟩, C4.out.drew⟩, Lib.hid ?_⟩
        exact (Below.heap_setCell W3 ⟨b, 1, none⟩ _ ab HBA.out).trans HAB3.out
  case rest =>
    obtain ⟨HT9, HAB9⟩ := hcut
    generalize wc = W9 at *
    clear e0 f0 k0 k1
    have z0 : W9.cell? ⟨ab, 0, none⟩ = some (.int .i64 0) := cell_of HAB9.out rfl
    have zf0 : W9.frozen? ⟨ab, 0, none⟩ = false := frozen_of HAB9.out
    have z1 : W9.cell? ⟨ab, 1, none⟩ = some (.int .u64 0) := cell_of HAB9.out rfl
    have zf1 : W9.frozen? ⟨ab, 1, none⟩ = false := frozen_of HAB9.out
    have z2 : W9.cell? ⟨ab, 2, none⟩ = some (.int .u64 0) := cell_of HAB9.out rfl
    have zf2 : W9.frozen? ⟨ab, 2, none⟩ = false := frozen_of HAB9.out
    have z3 : W9.cell? ⟨ab, 3, none⟩ = some (.string ⟨#[]⟩) := cell_of HAB9.out rfl
    have zf3 : W9.frozen? ⟨ab, 3, none⟩ = false := frozen_of HAB9.out
    have z4 : W9.cell? ⟨ab, 4, none⟩ = some (.int .u32 0) := cell_of HAB9.out rfl
    have zf4 : W9.frozen? ⟨ab, 4, none⟩ = false := frozen_of HAB9.out
    have z5 : W9.cell? ⟨ab, 5, none⟩ = some (.int .u32 0) := cell_of HAB9.out rfl
    have zf5 : W9.frozen? ⟨ab, 5, none⟩ = false := frozen_of HAB9.out
    have z6 : W9.cell? ⟨ab, 6, none⟩ = some (.int .u64 0) := cell_of HAB9.out rfl
    have zf6 : W9.frozen? ⟨ab, 6, none⟩ = false := frozen_of HAB9.out
    have z7 : W9.cell? ⟨ab, 7, none⟩ = some (.int .u64 0) := cell_of HAB9.out rfl
    have zf7 : W9.frozen? ⟨ab, 7, none⟩ = false := frozen_of HAB9.out
    go_wp2_with fail
    obtain ⟨hh, hk8⟩ := fin8 HAB9.out (.int .i64 0) (.int .u64 ((r.uid : Int) + 1)) (.int .u64 0) (.string ⟨#[]⟩) (.int .u32 0) (.int .u32 0) (.int .u64 0) (.int .u64 0)
    refine bodyPost_ret (results_cell_row (p := 4) (ty := 46) rfl _ _ ab 46 _ (0, 0) _ rfl hh Tryz.underlying46 rfl (by kernel_rfl)) rfl ⟨rfl, ?_⟩
    exact RTo.box HT9.out hk8 HNF.out HC2.out HLE.out
set_option maxRecDepth 100000 in
set_option maxHeartbeats 8000000 in
theorem rapply_3 (h : RRep w b R F r) (hF : ∀ g, F g → g < w.heap.size) (ho : OpAt w o l) (hfit : Fit r B) (hB : B ≤ 900000) (hsep : ∀ g o', (o.keys ≠ [] ∧ l.ko = some ⟨g, o', none⟩) ∨ (o.needs ≠ [] ∧ l.no = some ⟨g, o', none⟩) → ¬ F g) (hm : mayM o = true) (hk : o.k = 3) {A : AnM} {r1 : RM} (hA : (rendM r o).2 = A) (hr1 : (rendM r o).1 = r1) :
    Calls Tryz.prog 23 #[.pointer (some ⟨b, 0, none⟩), .agg (opC o l)] w fun e w' => e = .returned (anV A) ∧ RTo w b F r1 w' := by
  obtain ⟨W2, ob, ab, hW2, hob, hab, ho2, ha2, hc2, hs2⟩ := two_boxes w o l
  have HW2 := Lib.hid hW2
  have HOS := Lib.hid hob
  have HAS := Lib.hid hab
  have HOB := Lib.hid ho2
  have HAB := Lib.hid ha2
  have HC2 := Lib.hid hc2
  have HH := Lib.hid (h.same hc2)
  have HNF := Lib.hid (show ¬ (F ab ∨ W2.heap.size ≤ ab) from fun e => by rcases e with e | e; exact absurd (hF _ e) (by omega); omega)
  have HNO := Lib.hid (show ¬ (F ob ∨ W2.heap.size ≤ ob) from fun e => by rcases e with e | e; exact absurd (hF _ e) (by omega); omega)
  have HLE := Lib.hid (show w.heap.size ≤ ab by omega)
  have HO2 := Lib.hid (ho.same hc2)
  have MM := rmay_any (ho.same hc2)
  rw [hm] at MM
  have MM := Lib.hid MM
  have k0 : W2.cell? ⟨ob, 0, none⟩ = some (.int .u8 (o.k : Nat)) := cell_of HOB.out rfl
  have k1 : W2.cell? ⟨ob, 1, none⟩ = some (.int .u32 (o.n : Nat)) := cell_of HOB.out rfl
  have k2 : W2.cell? ⟨ob, 2, none⟩ = some (.int .u64 (o.st : Nat)) := cell_of HOB.out rfl
  have k3 : W2.cell? ⟨ob, 3, none⟩ = some (.slice l.ko o.keys.length l.kc) := cell_of HOB.out rfl
  have k4 : W2.cell? ⟨ob, 4, none⟩ = some (.slice l.no o.needs.length l.nc) := cell_of HOB.out rfl
  have k5 : W2.cell? ⟨ob, 5, none⟩ = some (.string o.pred) := cell_of HOB.out rfl
  have k6 : W2.cell? ⟨ob, 6, none⟩ = some (.int .u32 (o.g : Nat)) := cell_of HOB.out rfl
  have k7 : W2.cell? ⟨ob, 7, none⟩ = some (.int .u32 (o.to : Nat)) := cell_of HOB.out rfl
  have k8 : W2.cell? ⟨ob, 8, none⟩ = some (.int .u64 (o.at_ : Nat)) := cell_of HOB.out rfl
  have qk1 : ((o.k : Int) == 1) = false := by rw [beq_eq_false_iff_ne]; omega
  have qn1 : decide (o.k = 1) = false := decide_eq_false (by omega)
  have qk2 : ((o.k : Int) == 2) = false := by rw [beq_eq_false_iff_ne]; omega
  have qn2 : decide (o.k = 2) = false := decide_eq_false (by omega)
  have qk3 : ((o.k : Int) == 3) = true := by rw [hk]; rfl
  have qn3 : decide (o.k = 3) = true := decide_eq_true hk
  have CC := (show ∀ (u : World) (c : Chg (fun _ => False) W2 u), Calls Tryz.prog 62 #[.pointer (some ⟨b, 0, none⟩), .agg (opC o l)] u fun e w' => e = .returned (anV A) ∧ RTo u b F r1 w' from fun u c => by
    have hF2 : ∀ g, F g → g < u.heap.size := fun g f => Nat.lt_of_lt_of_le (hF g f) (Nat.le_trans hc2.size c.size)
    rw [← hA, ← hr1]
    exact rend_all (HH.out.same c) hF2 (HO2.out.same c) hfit hB hsep hm (Or.inl hk))
  obtain ⟨ac, af, am, tp, tg, tt, ta, tn⟩ := A
  unfold anV anC at CC ⊢
  simp only at CC ⊢
  have CC := Lib.hid CC
  clear h hF ho hfit hB hW2 hob hab ho2 ha2 hc2 hs2 hm hk hsep hA hr1
  go_enter Tryz.func23, Tryz.ntmps23
  go_upto_region 1 with fail
  rw [HW2.out, HOS.out, HAS.out]
  go_wp2_with fail
  refine MM.out.mono ?_
  rintro e W3 ⟨rfl, c3⟩
  have C3 := Lib.hid c3
  have HAB3 := Lib.hid ((c3.block ab (Array.getElem?_eq_some_iff.1 HAB.out).1 (fun f => f)).trans HAB.out)
  have HOB3 := Lib.hid ((c3.block ob (Array.getElem?_eq_some_iff.1 HOB.out).1 (fun f => f)).trans HOB.out)
  have H3 := Lib.hid (HH.out.same c3)
  clear c3 k0 k1 k2 k3 k4 k5 k6 k7 k8 MM
  have k0 : W3.cell? ⟨ob, 0, none⟩ = some (.int .u8 (o.k : Nat)) := cell_of HOB3.out rfl
  have k1 : W3.cell? ⟨ob, 1, none⟩ = some (.int .u32 (o.n : Nat)) := cell_of HOB3.out rfl
  have k2 : W3.cell? ⟨ob, 2, none⟩ = some (.int .u64 (o.st : Nat)) := cell_of HOB3.out rfl
  have k3 : W3.cell? ⟨ob, 3, none⟩ = some (.slice l.ko o.keys.length l.kc) := cell_of HOB3.out rfl
  have k4 : W3.cell? ⟨ob, 4, none⟩ = some (.slice l.no o.needs.length l.nc) := cell_of HOB3.out rfl
  have k5 : W3.cell? ⟨ob, 5, none⟩ = some (.string o.pred) := cell_of HOB3.out rfl
  have k6 : W3.cell? ⟨ob, 6, none⟩ = some (.int .u32 (o.g : Nat)) := cell_of HOB3.out rfl
  have k7 : W3.cell? ⟨ob, 7, none⟩ = some (.int .u32 (o.to : Nat)) := cell_of HOB3.out rfl
  have k8 : W3.cell? ⟨ob, 8, none⟩ = some (.int .u64 (o.at_ : Nat)) := cell_of HOB3.out rfl
  have CQ := Lib.hid (CC.out W3 C3.out)
  clear CC
  go_wp2_with fail
  refine CQ.out.mono ?_
  rintro e W4 ⟨rfl, h4⟩
  have HT4 := Lib.hid (RTo.pre (C3.out.mono (fun _ f => f.elim)) h4)
  have HAB4 := Lib.hid ((h4.chg.block ab (Array.getElem?_eq_some_iff.1 HAB3.out).1 (fun f => HNF.out (Or.inl f))).trans HAB3.out)
  clear h4 CQ k0 k1 k2 k3 k4 k5 k6 k7 k8
  have z0 : W4.cell? ⟨ab, 0, none⟩ = some (.int .i64 0) := cell_of HAB4.out rfl
  have zf0 : W4.frozen? ⟨ab, 0, none⟩ = false := frozen_of HAB4.out
  have z1 : W4.cell? ⟨ab, 1, none⟩ = some (.int .u64 0) := cell_of HAB4.out rfl
  have zf1 : W4.frozen? ⟨ab, 1, none⟩ = false := frozen_of HAB4.out
  have z2 : W4.cell? ⟨ab, 2, none⟩ = some (.int .u64 0) := cell_of HAB4.out rfl
  have zf2 : W4.frozen? ⟨ab, 2, none⟩ = false := frozen_of HAB4.out
  have z3 : W4.cell? ⟨ab, 3, none⟩ = some (.string ⟨#[]⟩) := cell_of HAB4.out rfl
  have zf3 : W4.frozen? ⟨ab, 3, none⟩ = false := frozen_of HAB4.out
  have z4 : W4.cell? ⟨ab, 4, none⟩ = some (.int .u32 0) := cell_of HAB4.out rfl
  have zf4 : W4.frozen? ⟨ab, 4, none⟩ = false := frozen_of HAB4.out
  have z5 : W4.cell? ⟨ab, 5, none⟩ = some (.int .u32 0) := cell_of HAB4.out rfl
  have zf5 : W4.frozen? ⟨ab, 5, none⟩ = false := frozen_of HAB4.out
  have z6 : W4.cell? ⟨ab, 6, none⟩ = some (.int .u64 0) := cell_of HAB4.out rfl
  have zf6 : W4.frozen? ⟨ab, 6, none⟩ = false := frozen_of HAB4.out
  have z7 : W4.cell? ⟨ab, 7, none⟩ = some (.int .u64 0) := cell_of HAB4.out rfl
  have zf7 : W4.frozen? ⟨ab, 7, none⟩ = false := frozen_of HAB4.out
  go_wp2_with fail
  obtain ⟨hh, hk8⟩ := fin8 HAB4.out (.int .i64 (ac : Nat)) (.int .u64 (af : Nat)) (.int .u64 (am : Nat)) (.string tp) (.int .u32 (tg : Nat)) (.int .u32 (tt : Nat)) (.int .u64 (ta : Nat)) (.int .u64 (tn : Nat))
  refine bodyPost_ret (results_cell_row (p := 4) (ty := 46) rfl _ _ ab 46 _ (0, 0) _ rfl hh Tryz.underlying46 rfl (by kernel_rfl)) rfl ⟨rfl, ?_⟩
  exact RTo.box HT4.out hk8 HNF.out HC2.out HLE.out
set_option maxRecDepth 100000 in
set_option maxHeartbeats 8000000 in
theorem rapply_4 (h : RRep w b R F r) (hF : ∀ g, F g → g < w.heap.size) (ho : OpAt w o l) (hfit : Fit r B) (hB : B ≤ 900000) (hsep : ∀ g o', (o.keys ≠ [] ∧ l.ko = some ⟨g, o', none⟩) ∨ (o.needs ≠ [] ∧ l.no = some ⟨g, o', none⟩) → ¬ F g) (hm : mayM o = true) (hk : o.k = 4) {A : AnM} {r1 : RM} (hA : (rendM r o).2 = A) (hr1 : (rendM r o).1 = r1) :
    Calls Tryz.prog 23 #[.pointer (some ⟨b, 0, none⟩), .agg (opC o l)] w fun e w' => e = .returned (anV A) ∧ RTo w b F r1 w' := by
  obtain ⟨W2, ob, ab, hW2, hob, hab, ho2, ha2, hc2, hs2⟩ := two_boxes w o l
  have HW2 := Lib.hid hW2
  have HOS := Lib.hid hob
  have HAS := Lib.hid hab
  have HOB := Lib.hid ho2
  have HAB := Lib.hid ha2
  have HC2 := Lib.hid hc2
  have HH := Lib.hid (h.same hc2)
  have HNF := Lib.hid (show ¬ (F ab ∨ W2.heap.size ≤ ab) from fun e => by rcases e with e | e; exact absurd (hF _ e) (by omega); omega)
  have HNO := Lib.hid (show ¬ (F ob ∨ W2.heap.size ≤ ob) from fun e => by rcases e with e | e; exact absurd (hF _ e) (by omega); omega)
  have HLE := Lib.hid (show w.heap.size ≤ ab by omega)
  have HO2 := Lib.hid (ho.same hc2)
  have MM := rmay_any (ho.same hc2)
  rw [hm] at MM
  have MM := Lib.hid MM
  have k0 : W2.cell? ⟨ob, 0, none⟩ = some (.int .u8 (o.k : Nat)) := cell_of HOB.out rfl
  have k1 : W2.cell? ⟨ob, 1, none⟩ = some (.int .u32 (o.n : Nat)) := cell_of HOB.out rfl
  have k2 : W2.cell? ⟨ob, 2, none⟩ = some (.int .u64 (o.st : Nat)) := cell_of HOB.out rfl
  have k3 : W2.cell? ⟨ob, 3, none⟩ = some (.slice l.ko o.keys.length l.kc) := cell_of HOB.out rfl
  have k4 : W2.cell? ⟨ob, 4, none⟩ = some (.slice l.no o.needs.length l.nc) := cell_of HOB.out rfl
  have k5 : W2.cell? ⟨ob, 5, none⟩ = some (.string o.pred) := cell_of HOB.out rfl
  have k6 : W2.cell? ⟨ob, 6, none⟩ = some (.int .u32 (o.g : Nat)) := cell_of HOB.out rfl
  have k7 : W2.cell? ⟨ob, 7, none⟩ = some (.int .u32 (o.to : Nat)) := cell_of HOB.out rfl
  have k8 : W2.cell? ⟨ob, 8, none⟩ = some (.int .u64 (o.at_ : Nat)) := cell_of HOB.out rfl
  have qk1 : ((o.k : Int) == 1) = false := by rw [beq_eq_false_iff_ne]; omega
  have qn1 : decide (o.k = 1) = false := decide_eq_false (by omega)
  have qk2 : ((o.k : Int) == 2) = false := by rw [beq_eq_false_iff_ne]; omega
  have qn2 : decide (o.k = 2) = false := decide_eq_false (by omega)
  have qk3 : ((o.k : Int) == 3) = false := by rw [beq_eq_false_iff_ne]; omega
  have qn3 : decide (o.k = 3) = false := decide_eq_false (by omega)
  have qk4 : ((o.k : Int) == 4) = true := by rw [hk]; rfl
  have qn4 : decide (o.k = 4) = true := decide_eq_true hk
  have CC := (show ∀ (u : World) (c : Chg (fun _ => False) W2 u), Calls Tryz.prog 62 #[.pointer (some ⟨b, 0, none⟩), .agg (opC o l)] u fun e w' => e = .returned (anV A) ∧ RTo u b F r1 w' from fun u c => by
    have hF2 : ∀ g, F g → g < u.heap.size := fun g f => Nat.lt_of_lt_of_le (hF g f) (Nat.le_trans hc2.size c.size)
    rw [← hA, ← hr1]
    exact rend_all (HH.out.same c) hF2 (HO2.out.same c) hfit hB hsep hm (Or.inr hk))
  obtain ⟨ac, af, am, tp, tg, tt, ta, tn⟩ := A
  unfold anV anC at CC ⊢
  simp only at CC ⊢
  have CC := Lib.hid CC
  clear h hF ho hfit hB hW2 hob hab ho2 ha2 hc2 hs2 hm hk hsep hA hr1
  go_enter Tryz.func23, Tryz.ntmps23
  go_upto_region 1 with fail
  rw [HW2.out, HOS.out, HAS.out]
  go_wp2_with fail
  refine MM.out.mono ?_
  rintro e W3 ⟨rfl, c3⟩
  have C3 := Lib.hid c3
  have HAB3 := Lib.hid ((c3.block ab (Array.getElem?_eq_some_iff.1 HAB.out).1 (fun f => f)).trans HAB.out)
  have HOB3 := Lib.hid ((c3.block ob (Array.getElem?_eq_some_iff.1 HOB.out).1 (fun f => f)).trans HOB.out)
  have H3 := Lib.hid (HH.out.same c3)
  clear c3 k0 k1 k2 k3 k4 k5 k6 k7 k8 MM
  have k0 : W3.cell? ⟨ob, 0, none⟩ = some (.int .u8 (o.k : Nat)) := cell_of HOB3.out rfl
  have k1 : W3.cell? ⟨ob, 1, none⟩ = some (.int .u32 (o.n : Nat)) := cell_of HOB3.out rfl
  have k2 : W3.cell? ⟨ob, 2, none⟩ = some (.int .u64 (o.st : Nat)) := cell_of HOB3.out rfl
  have k3 : W3.cell? ⟨ob, 3, none⟩ = some (.slice l.ko o.keys.length l.kc) := cell_of HOB3.out rfl
  have k4 : W3.cell? ⟨ob, 4, none⟩ = some (.slice l.no o.needs.length l.nc) := cell_of HOB3.out rfl
  have k5 : W3.cell? ⟨ob, 5, none⟩ = some (.string o.pred) := cell_of HOB3.out rfl
  have k6 : W3.cell? ⟨ob, 6, none⟩ = some (.int .u32 (o.g : Nat)) := cell_of HOB3.out rfl
  have k7 : W3.cell? ⟨ob, 7, none⟩ = some (.int .u32 (o.to : Nat)) := cell_of HOB3.out rfl
  have k8 : W3.cell? ⟨ob, 8, none⟩ = some (.int .u64 (o.at_ : Nat)) := cell_of HOB3.out rfl
  have CQ := Lib.hid (CC.out W3 C3.out)
  clear CC
  go_wp2_with fail
  refine CQ.out.mono ?_
  rintro e W4 ⟨rfl, h4⟩
  have HT4 := Lib.hid (RTo.pre (C3.out.mono (fun _ f => f.elim)) h4)
  have HAB4 := Lib.hid ((h4.chg.block ab (Array.getElem?_eq_some_iff.1 HAB3.out).1 (fun f => HNF.out (Or.inl f))).trans HAB3.out)
  clear h4 CQ k0 k1 k2 k3 k4 k5 k6 k7 k8
  have z0 : W4.cell? ⟨ab, 0, none⟩ = some (.int .i64 0) := cell_of HAB4.out rfl
  have zf0 : W4.frozen? ⟨ab, 0, none⟩ = false := frozen_of HAB4.out
  have z1 : W4.cell? ⟨ab, 1, none⟩ = some (.int .u64 0) := cell_of HAB4.out rfl
  have zf1 : W4.frozen? ⟨ab, 1, none⟩ = false := frozen_of HAB4.out
  have z2 : W4.cell? ⟨ab, 2, none⟩ = some (.int .u64 0) := cell_of HAB4.out rfl
  have zf2 : W4.frozen? ⟨ab, 2, none⟩ = false := frozen_of HAB4.out
  have z3 : W4.cell? ⟨ab, 3, none⟩ = some (.string ⟨#[]⟩) := cell_of HAB4.out rfl
  have zf3 : W4.frozen? ⟨ab, 3, none⟩ = false := frozen_of HAB4.out
  have z4 : W4.cell? ⟨ab, 4, none⟩ = some (.int .u32 0) := cell_of HAB4.out rfl
  have zf4 : W4.frozen? ⟨ab, 4, none⟩ = false := frozen_of HAB4.out
  have z5 : W4.cell? ⟨ab, 5, none⟩ = some (.int .u32 0) := cell_of HAB4.out rfl
  have zf5 : W4.frozen? ⟨ab, 5, none⟩ = false := frozen_of HAB4.out
  have z6 : W4.cell? ⟨ab, 6, none⟩ = some (.int .u64 0) := cell_of HAB4.out rfl
  have zf6 : W4.frozen? ⟨ab, 6, none⟩ = false := frozen_of HAB4.out
  have z7 : W4.cell? ⟨ab, 7, none⟩ = some (.int .u64 0) := cell_of HAB4.out rfl
  have zf7 : W4.frozen? ⟨ab, 7, none⟩ = false := frozen_of HAB4.out
  go_wp2_with fail
  obtain ⟨hh, hk8⟩ := fin8 HAB4.out (.int .i64 (ac : Nat)) (.int .u64 (af : Nat)) (.int .u64 (am : Nat)) (.string tp) (.int .u32 (tg : Nat)) (.int .u32 (tt : Nat)) (.int .u64 (ta : Nat)) (.int .u64 (tn : Nat))
  refine bodyPost_ret (results_cell_row (p := 4) (ty := 46) rfl _ _ ab 46 _ (0, 0) _ rfl hh Tryz.underlying46 rfl (by kernel_rfl)) rfl ⟨rfl, ?_⟩
  exact RTo.box HT4.out hk8 HNF.out HC2.out HLE.out
set_option maxRecDepth 100000 in
set_option maxHeartbeats 8000000 in
theorem rapply_9 (h : RRep w b R F r) (hF : ∀ g, F g → g < w.heap.size) (ho : OpAt w o l) (hfit : Fit r B) (hB : B ≤ 900000) (hsep : ∀ g o', (o.keys ≠ [] ∧ l.ko = some ⟨g, o', none⟩) ∨ (o.needs ≠ [] ∧ l.no = some ⟨g, o', none⟩) → ¬ F g) (hm : mayM o = true) (hk : o.k = 9) {A : AnM} {r1 : RM} (hA : (rmarkM r o.at_).2 = A) (hr1 : (rmarkM r o.at_).1 = r1) :
    Calls Tryz.prog 23 #[.pointer (some ⟨b, 0, none⟩), .agg (opC o l)] w fun e w' => e = .returned (anV A) ∧ RTo w b F r1 w' := by
  obtain ⟨W2, ob, ab, hW2, hob, hab, ho2, ha2, hc2, hs2⟩ := two_boxes w o l
  have HW2 := Lib.hid hW2
  have HOS := Lib.hid hob
  have HAS := Lib.hid hab
  have HOB := Lib.hid ho2
  have HAB := Lib.hid ha2
  have HC2 := Lib.hid hc2
  have HH := Lib.hid (h.same hc2)
  have HNF := Lib.hid (show ¬ (F ab ∨ W2.heap.size ≤ ab) from fun e => by rcases e with e | e; exact absurd (hF _ e) (by omega); omega)
  have HNO := Lib.hid (show ¬ (F ob ∨ W2.heap.size ≤ ob) from fun e => by rcases e with e | e; exact absurd (hF _ e) (by omega); omega)
  have HLE := Lib.hid (show w.heap.size ≤ ab by omega)
  have HO2 := Lib.hid (ho.same hc2)
  have MM := rmay_any (ho.same hc2)
  rw [hm] at MM
  have MM := Lib.hid MM
  have k0 : W2.cell? ⟨ob, 0, none⟩ = some (.int .u8 (o.k : Nat)) := cell_of HOB.out rfl
  have k1 : W2.cell? ⟨ob, 1, none⟩ = some (.int .u32 (o.n : Nat)) := cell_of HOB.out rfl
  have k2 : W2.cell? ⟨ob, 2, none⟩ = some (.int .u64 (o.st : Nat)) := cell_of HOB.out rfl
  have k3 : W2.cell? ⟨ob, 3, none⟩ = some (.slice l.ko o.keys.length l.kc) := cell_of HOB.out rfl
  have k4 : W2.cell? ⟨ob, 4, none⟩ = some (.slice l.no o.needs.length l.nc) := cell_of HOB.out rfl
  have k5 : W2.cell? ⟨ob, 5, none⟩ = some (.string o.pred) := cell_of HOB.out rfl
  have k6 : W2.cell? ⟨ob, 6, none⟩ = some (.int .u32 (o.g : Nat)) := cell_of HOB.out rfl
  have k7 : W2.cell? ⟨ob, 7, none⟩ = some (.int .u32 (o.to : Nat)) := cell_of HOB.out rfl
  have k8 : W2.cell? ⟨ob, 8, none⟩ = some (.int .u64 (o.at_ : Nat)) := cell_of HOB.out rfl
  have qk1 : ((o.k : Int) == 1) = false := by rw [beq_eq_false_iff_ne]; omega
  have qn1 : decide (o.k = 1) = false := decide_eq_false (by omega)
  have qk2 : ((o.k : Int) == 2) = false := by rw [beq_eq_false_iff_ne]; omega
  have qn2 : decide (o.k = 2) = false := decide_eq_false (by omega)
  have qk3 : ((o.k : Int) == 3) = false := by rw [beq_eq_false_iff_ne]; omega
  have qn3 : decide (o.k = 3) = false := decide_eq_false (by omega)
  have qk4 : ((o.k : Int) == 4) = false := by rw [beq_eq_false_iff_ne]; omega
  have qn4 : decide (o.k = 4) = false := decide_eq_false (by omega)
  have qk9 : ((o.k : Int) == 9) = true := by rw [hk]; rfl
  have qn9 : decide (o.k = 9) = true := decide_eq_true hk
  have CC := (show ∀ (u : World) (c : Chg (fun _ => False) W2 u), Calls Tryz.prog 63 #[.pointer (some ⟨b, 0, none⟩), .int .u64 (o.at_ : Nat)] u fun e w' => e = .returned (anV A) ∧ RTo u b F r1 w' from fun u c => by
    have hF2 : ∀ g, F g → g < u.heap.size := fun g f => Nat.lt_of_lt_of_le (hF g f) (Nat.le_trans hc2.size c.size)
    rw [← hA, ← hr1]
    exact rmark_any (HH.out.same c) hF2 o.at_ (by have := hfit.dl; omega) (by have := hfit.kl; omega))
  obtain ⟨ac, af, am, tp, tg, tt, ta, tn⟩ := A
  unfold anV anC at CC ⊢
  simp only at CC ⊢
  have CC := Lib.hid CC
  clear h hF ho hfit hB hW2 hob hab ho2 ha2 hc2 hs2 hm hk hsep hA hr1
  go_enter Tryz.func23, Tryz.ntmps23
  go_upto_region 1 with fail
  rw [HW2.out, HOS.out, HAS.out]
  go_wp2_with fail
  refine MM.out.mono ?_
  rintro e W3 ⟨rfl, c3⟩
  have C3 := Lib.hid c3
  have HAB3 := Lib.hid ((c3.block ab (Array.getElem?_eq_some_iff.1 HAB.out).1 (fun f => f)).trans HAB.out)
  have HOB3 := Lib.hid ((c3.block ob (Array.getElem?_eq_some_iff.1 HOB.out).1 (fun f => f)).trans HOB.out)
  have H3 := Lib.hid (HH.out.same c3)
  clear c3 k0 k1 k2 k3 k4 k5 k6 k7 k8 MM
  have k0 : W3.cell? ⟨ob, 0, none⟩ = some (.int .u8 (o.k : Nat)) := cell_of HOB3.out rfl
  have k8 : W3.cell? ⟨ob, 8, none⟩ = some (.int .u64 (o.at_ : Nat)) := cell_of HOB3.out rfl
  have CQ := Lib.hid (CC.out W3 C3.out)
  clear CC
  go_wp2_with fail
  refine CQ.out.mono ?_
  rintro e W4 ⟨rfl, h4⟩
  have HT4 := Lib.hid (RTo.pre (C3.out.mono (fun _ f => f.elim)) h4)
  have HAB4 := Lib.hid ((h4.chg.block ab (Array.getElem?_eq_some_iff.1 HAB3.out).1 (fun f => HNF.out (Or.inl f))).trans HAB3.out)
  clear h4 CQ k0 k8
  have z0 : W4.cell? ⟨ab, 0, none⟩ = some (.int .i64 0) := cell_of HAB4.out rfl
  have zf0 : W4.frozen? ⟨ab, 0, none⟩ = false := frozen_of HAB4.out
  have z1 : W4.cell? ⟨ab, 1, none⟩ = some (.int .u64 0) := cell_of HAB4.out rfl
  have zf1 : W4.frozen? ⟨ab, 1, none⟩ = false := frozen_of HAB4.out
  have z2 : W4.cell? ⟨ab, 2, none⟩ = some (.int .u64 0) := cell_of HAB4.out rfl
  have zf2 : W4.frozen? ⟨ab, 2, none⟩ = false := frozen_of HAB4.out
  have z3 : W4.cell? ⟨ab, 3, none⟩ = some (.string ⟨#[]⟩) := cell_of HAB4.out rfl
  have zf3 : W4.frozen? ⟨ab, 3, none⟩ = false := frozen_of HAB4.out
  have z4 : W4.cell? ⟨ab, 4, none⟩ = some (.int .u32 0) := cell_of HAB4.out rfl
  have zf4 : W4.frozen? ⟨ab, 4, none⟩ = false := frozen_of HAB4.out
  have z5 : W4.cell? ⟨ab, 5, none⟩ = some (.int .u32 0) := cell_of HAB4.out rfl
  have zf5 : W4.frozen? ⟨ab, 5, none⟩ = false := frozen_of HAB4.out
  have z6 : W4.cell? ⟨ab, 6, none⟩ = some (.int .u64 0) := cell_of HAB4.out rfl
  have zf6 : W4.frozen? ⟨ab, 6, none⟩ = false := frozen_of HAB4.out
  have z7 : W4.cell? ⟨ab, 7, none⟩ = some (.int .u64 0) := cell_of HAB4.out rfl
  have zf7 : W4.frozen? ⟨ab, 7, none⟩ = false := frozen_of HAB4.out
  go_wp2_with fail
  obtain ⟨hh, hk8⟩ := fin8 HAB4.out (.int .i64 (ac : Nat)) (.int .u64 (af : Nat)) (.int .u64 (am : Nat)) (.string tp) (.int .u32 (tg : Nat)) (.int .u32 (tt : Nat)) (.int .u64 (ta : Nat)) (.int .u64 (tn : Nat))
  refine bodyPost_ret (results_cell_row (p := 4) (ty := 46) rfl _ _ ab 46 _ (0, 0) _ rfl hh Tryz.underlying46 rfl (by kernel_rfl)) rfl ⟨rfl, ?_⟩
  exact RTo.box HT4.out hk8 HNF.out HC2.out HLE.out
set_option maxRecDepth 100000 in
set_option maxHeartbeats 8000000 in
theorem rapply_5 (h : RRep w b R F r) (hF : ∀ g, F g → g < w.heap.size) (ho : OpAt w o l) (hfit : Fit r B) (hB : B ≤ 900000) (hsep : ∀ g o', (o.keys ≠ [] ∧ l.ko = some ⟨g, o', none⟩) ∨ (o.needs ≠ [] ∧ l.no = some ⟨g, o', none⟩) → ¬ F g) (hm : mayM o = true) (hk : o.k = 5 ∨ o.k = 6 ∨ o.k = 7 ∨ o.k = 8) {A : AnM} {r1 : RM} (hA : (rturnM r o).2 = A) (hr1 : (rturnM r o).1 = r1) :
    Calls Tryz.prog 23 #[.pointer (some ⟨b, 0, none⟩), .agg (opC o l)] w fun e w' => e = .returned (anV A) ∧ RTo w b F r1 w' := by
  obtain ⟨W2, ob, ab, hW2, hob, hab, ho2, ha2, hc2, hs2⟩ := two_boxes w o l
  have HW2 := Lib.hid hW2
  have HOS := Lib.hid hob
  have HAS := Lib.hid hab
  have HOB := Lib.hid ho2
  have HAB := Lib.hid ha2
  have HC2 := Lib.hid hc2
  have HH := Lib.hid (h.same hc2)
  have HNF := Lib.hid (show ¬ (F ab ∨ W2.heap.size ≤ ab) from fun e => by rcases e with e | e; exact absurd (hF _ e) (by omega); omega)
  have HNO := Lib.hid (show ¬ (F ob ∨ W2.heap.size ≤ ob) from fun e => by rcases e with e | e; exact absurd (hF _ e) (by omega); omega)
  have HLE := Lib.hid (show w.heap.size ≤ ab by omega)
  have HO2 := Lib.hid (ho.same hc2)
  have MM := rmay_any (ho.same hc2)
  rw [hm] at MM
  have MM := Lib.hid MM
  have k0 : W2.cell? ⟨ob, 0, none⟩ = some (.int .u8 (o.k : Nat)) := cell_of HOB.out rfl
  have k1 : W2.cell? ⟨ob, 1, none⟩ = some (.int .u32 (o.n : Nat)) := cell_of HOB.out rfl
  have k2 : W2.cell? ⟨ob, 2, none⟩ = some (.int .u64 (o.st : Nat)) := cell_of HOB.out rfl
  have k3 : W2.cell? ⟨ob, 3, none⟩ = some (.slice l.ko o.keys.length l.kc) := cell_of HOB.out rfl
  have k4 : W2.cell? ⟨ob, 4, none⟩ = some (.slice l.no o.needs.length l.nc) := cell_of HOB.out rfl
  have k5 : W2.cell? ⟨ob, 5, none⟩ = some (.string o.pred) := cell_of HOB.out rfl
  have k6 : W2.cell? ⟨ob, 6, none⟩ = some (.int .u32 (o.g : Nat)) := cell_of HOB.out rfl
  have k7 : W2.cell? ⟨ob, 7, none⟩ = some (.int .u32 (o.to : Nat)) := cell_of HOB.out rfl
  have k8 : W2.cell? ⟨ob, 8, none⟩ = some (.int .u64 (o.at_ : Nat)) := cell_of HOB.out rfl
  have qk1 : ((o.k : Int) == 1) = false := by rw [beq_eq_false_iff_ne]; omega
  have qn1 : decide (o.k = 1) = false := decide_eq_false (by omega)
  have qk2 : ((o.k : Int) == 2) = false := by rw [beq_eq_false_iff_ne]; omega
  have qn2 : decide (o.k = 2) = false := decide_eq_false (by omega)
  have qk3 : ((o.k : Int) == 3) = false := by rw [beq_eq_false_iff_ne]; omega
  have qn3 : decide (o.k = 3) = false := decide_eq_false (by omega)
  have qk4 : ((o.k : Int) == 4) = false := by rw [beq_eq_false_iff_ne]; omega
  have qn4 : decide (o.k = 4) = false := decide_eq_false (by omega)
  have qk9 : ((o.k : Int) == 9) = false := by rw [beq_eq_false_iff_ne]; omega
  have qn9 : decide (o.k = 9) = false := decide_eq_false (by omega)
  have CC := (show ∀ (u : World) (c : Chg (fun _ => False) W2 u), Calls Tryz.prog 64 #[.pointer (some ⟨b, 0, none⟩), .agg (opC o l)] u fun e w' => e = .returned (anV A) ∧ RTo u b F r1 w' from fun u c => by
    have hF2 : ∀ g, F g → g < u.heap.size := fun g f => Nat.lt_of_lt_of_le (hF g f) (Nat.le_trans hc2.size c.size)
    rw [← hA, ← hr1]
    exact rturn_all (HH.out.same c) hF2 (HO2.out.same c) hfit hB hk)
  obtain ⟨ac, af, am, tp, tg, tt, ta, tn⟩ := A
  unfold anV anC at CC ⊢
  simp only at CC ⊢
  have CC := Lib.hid CC
  clear h hF ho hfit hB hW2 hob hab ho2 ha2 hc2 hs2 hm hk hsep hA hr1
  go_enter Tryz.func23, Tryz.ntmps23
  go_upto_region 1 with fail
  rw [HW2.out, HOS.out, HAS.out]
  go_wp2_with fail
  refine MM.out.mono ?_
  rintro e W3 ⟨rfl, c3⟩
  have C3 := Lib.hid c3
  have HAB3 := Lib.hid ((c3.block ab (Array.getElem?_eq_some_iff.1 HAB.out).1 (fun f => f)).trans HAB.out)
  have HOB3 := Lib.hid ((c3.block ob (Array.getElem?_eq_some_iff.1 HOB.out).1 (fun f => f)).trans HOB.out)
  have H3 := Lib.hid (HH.out.same c3)
  clear c3 k0 k1 k2 k3 k4 k5 k6 k7 k8 MM
  have k0 : W3.cell? ⟨ob, 0, none⟩ = some (.int .u8 (o.k : Nat)) := cell_of HOB3.out rfl
  have k1 : W3.cell? ⟨ob, 1, none⟩ = some (.int .u32 (o.n : Nat)) := cell_of HOB3.out rfl
  have k2 : W3.cell? ⟨ob, 2, none⟩ = some (.int .u64 (o.st : Nat)) := cell_of HOB3.out rfl
  have k3 : W3.cell? ⟨ob, 3, none⟩ = some (.slice l.ko o.keys.length l.kc) := cell_of HOB3.out rfl
  have k4 : W3.cell? ⟨ob, 4, none⟩ = some (.slice l.no o.needs.length l.nc) := cell_of HOB3.out rfl
  have k5 : W3.cell? ⟨ob, 5, none⟩ = some (.string o.pred) := cell_of HOB3.out rfl
  have k6 : W3.cell? ⟨ob, 6, none⟩ = some (.int .u32 (o.g : Nat)) := cell_of HOB3.out rfl
  have k7 : W3.cell? ⟨ob, 7, none⟩ = some (.int .u32 (o.to : Nat)) := cell_of HOB3.out rfl
  have k8 : W3.cell? ⟨ob, 8, none⟩ = some (.int .u64 (o.at_ : Nat)) := cell_of HOB3.out rfl
  have CQ := Lib.hid (CC.out W3 C3.out)
  clear CC
  go_wp2_with fail
  refine CQ.out.mono ?_
  rintro e W4 ⟨rfl, h4⟩
  have HT4 := Lib.hid (RTo.pre (C3.out.mono (fun _ f => f.elim)) h4)
  have HAB4 := Lib.hid ((h4.chg.block ab (Array.getElem?_eq_some_iff.1 HAB3.out).1 (fun f => HNF.out (Or.inl f))).trans HAB3.out)
  clear h4 CQ k0 k1 k2 k3 k4 k5 k6 k7 k8
  have z0 : W4.cell? ⟨ab, 0, none⟩ = some (.int .i64 0) := cell_of HAB4.out rfl
  have zf0 : W4.frozen? ⟨ab, 0, none⟩ = false := frozen_of HAB4.out
  have z1 : W4.cell? ⟨ab, 1, none⟩ = some (.int .u64 0) := cell_of HAB4.out rfl
  have zf1 : W4.frozen? ⟨ab, 1, none⟩ = false := frozen_of HAB4.out
  have z2 : W4.cell? ⟨ab, 2, none⟩ = some (.int .u64 0) := cell_of HAB4.out rfl
  have zf2 : W4.frozen? ⟨ab, 2, none⟩ = false := frozen_of HAB4.out
  have z3 : W4.cell? ⟨ab, 3, none⟩ = some (.string ⟨#[]⟩) := cell_of HAB4.out rfl
  have zf3 : W4.frozen? ⟨ab, 3, none⟩ = false := frozen_of HAB4.out
  have z4 : W4.cell? ⟨ab, 4, none⟩ = some (.int .u32 0) := cell_of HAB4.out rfl
  have zf4 : W4.frozen? ⟨ab, 4, none⟩ = false := frozen_of HAB4.out
  have z5 : W4.cell? ⟨ab, 5, none⟩ = some (.int .u32 0) := cell_of HAB4.out rfl
  have zf5 : W4.frozen? ⟨ab, 5, none⟩ = false := frozen_of HAB4.out
  have z6 : W4.cell? ⟨ab, 6, none⟩ = some (.int .u64 0) := cell_of HAB4.out rfl
  have zf6 : W4.frozen? ⟨ab, 6, none⟩ = false := frozen_of HAB4.out
  have z7 : W4.cell? ⟨ab, 7, none⟩ = some (.int .u64 0) := cell_of HAB4.out rfl
  have zf7 : W4.frozen? ⟨ab, 7, none⟩ = false := frozen_of HAB4.out
  go_wp2_with fail
  obtain ⟨hh, hk8⟩ := fin8 HAB4.out (.int .i64 (ac : Nat)) (.int .u64 (af : Nat)) (.int .u64 (am : Nat)) (.string tp) (.int .u32 (tg : Nat)) (.int .u32 (tt : Nat)) (.int .u64 (ta : Nat)) (.int .u64 (tn : Nat))
  refine bodyPost_ret (results_cell_row (p := 4) (ty := 46) rfl _ _ ab 46 _ (0, 0) _ rfl hh Tryz.underlying46 rfl (by kernel_rfl)) rfl ⟨rfl, ?_⟩
  exact RTo.box HT4.out hk8 HNF.out HC2.out HLE.out
theorem rapply_any (h : RRep w b R F r) (hF : ∀ g, F g → g < w.heap.size) (ho : OpAt w o l) (hfit : Fit r B) (hB : B ≤ 900000) (hsep : ∀ g o', (o.keys ≠ [] ∧ l.ko = some ⟨g, o', none⟩) ∨ (o.needs ≠ [] ∧ l.no = some ⟨g, o', none⟩) → ¬ F g) :
    Calls Tryz.prog 23 #[.pointer (some ⟨b, 0, none⟩), .agg (opC o l)] w fun e w' => e = .returned (anV (rapplyM r o).2) ∧ RTo w b F (rapplyM r o).1 w' := by
  unfold rapplyM
  cases hm : mayM o
  · rw [if_neg (by simp)]
    exact rapply_no h hF ho hfit hB hm
  rw [if_pos rfl]
  obtain ⟨k1, k9⟩ := may_kind hm
  have hc : o.k = 1 ∨ o.k = 2 ∨ o.k = 3 ∨ o.k = 4 ∨ (o.k = 5 ∨ o.k = 6 ∨ o.k = 7 ∨ o.k = 8) ∨ o.k = 9 := by omega
  rcases hc with hk | hk | hk | hk | hk | hk
  · have e : rdoM r o = ({ r with time := r.time + o.n }, ⟨0, r.time + 1, 0, .zero⟩) := by unfold rdoM; simp only [hk]
    rw [e]
    exact rapply_1 h hF ho hfit hB hm hk
  · have e : rdoM r o = ({ r with uid := r.uid + o.n }, ⟨0, r.uid + 1, 0, .zero⟩) := by unfold rdoM; simp only [hk]
    rw [e]
    exact rapply_2 h hF ho hfit hB hm hk
  · have e : rdoM r o = rendM r o := by unfold rdoM; simp only [hk]
    rw [e]
    exact rapply_3 h hF ho hfit hB hsep hm hk rfl rfl
  · have e : rdoM r o = rendM r o := by unfold rdoM; simp only [hk]
    rw [e]
    exact rapply_4 h hF ho hfit hB hsep hm hk rfl rfl
  · have e : rdoM r o = rturnM r o := by unfold rdoM; rcases hk with hk | hk | hk | hk <;> simp only [hk]
    rw [e]
    exact rapply_5 h hF ho hfit hB hsep hm hk rfl rfl
  · have e : rdoM r o = rmarkM r o.at_ := by unfold rdoM; simp only [hk]
    rw [e]
    exact rapply_9 h hF ho hfit hB hsep hm hk rfl rfl
end
end Go.Proofs.YtgmmglmokkcgeaaGreat
