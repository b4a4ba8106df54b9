/- Walks: the document's end: a transaction is decided. Printed by genRb.py. -/
import Derived.Test.YtgmmglmokkcgeaaGreatR8
import Derived.Test.YtgmmglmokkcgeaaGreatR9
import Derived.Test.YtgmmglmokkcgeaaGreatRa
import Derived.Test.YtgmmglmokkcgeaaGreatR2b
import Derived.Deep.CutRange
namespace Go.Proofs.YtgmmglmokkcgeaaGreat
set_option linter.unusedVariables false
set_option linter.unusedSimpArgs false
set_option linter.unusedSectionVars false
open Go.RowKit Mk Go.Sort

section
variable {w w' : World} {b : Nat} {R : RV} {F G : Nat → Prop} {r : RM} {o : OpM} {l : OpL} {B : Nat}
/-- The command's box and the answer's. -/
theorem two_boxes (w : World) (o : OpM) (l : OpL) : ∃ (W : World) (ob ab : Nat), (w.alloc (.cells (opC o l) 28)).alloc (.cells #[.int .i64 0, .int .u64 0, .int .u64 0, .string ⟨#[]⟩, .int .u32 0, .int .u32 0, .int .u64 0, .int .u64 0] 46) = W ∧ w.heap.size = ob ∧ ob + 1 = ab ∧ W.heap[ob]? = some (.cells #[.int .u8 (o.k : Nat), .int .u32 (o.n : Nat), .int .u64 (o.st : Nat), .slice l.ko o.keys.length l.kc, .slice l.no o.needs.length l.nc, .string o.pred, .int .u32 (o.g : Nat), .int .u32 (o.to : Nat), .int .u64 (o.at_ : Nat)] 28) ∧ W.heap[ab]? = some (.cells #[.int .i64 0, .int .u64 0, .int .u64 0, .string ⟨#[]⟩, .int .u32 0, .int .u32 0, .int .u64 0, .int .u64 0] 46) ∧ Chg (fun _ => False) w W ∧ W.heap.size = ab + 1 :=
  ⟨_, _, _, rfl, rfl, rfl, (Below.heap_alloc _ _ _ (by simp)).trans (Go.heap_alloc_new w _), by have := Go.heap_alloc_new (w.alloc (.cells (opC o l) 28)) (.cells #[.int .i64 0, .int .u64 0, .int .u64 0, .string ⟨#[]⟩, .int .u32 0, .int .u32 0, .int .u64 0, .int .u64 0] 46); simpa using this, ((Chg.refl _ _).alloc _).alloc _, by simp⟩
theorem take_snoc' {α : Type} {L : List α} {j : Nat} (h : j < L.length) : L.take (j + 1) = L.take j ++ [L[j]] := by rw [List.take_succ_eq_append_getElem h]
theorem lk_off {K V : Type} [DecidableEq K] {L : List (K × V)} {x : K} (h : lk L x = none) : ∀ p ∈ L, p.1 ≠ x := fun p hp e => lk_ne hp e h
/-- What end has done: some keys and needs are laid. -/
def rend2 (r : RM) (o : OpM) (i j : Nat) : RM := { r with time := r.time + 1, d := lay ltN o.st (r.time + 1) r.d, k := rlastM (r.time + 1) (o.keys.take i) r.k, c := rcomM (r.time + 1) (o.needs.take j) r.c }
set_option maxRecDepth 100000 in
set_option maxHeartbeats 8000000 in
theorem rend_late (h : RRep w b R F r) (hF : ∀ g, F g → g < w.heap.size) (ho : OpAt w o l) (hfit : Fit r B) (hB : B ≤ 900000) (h1 : r.time < o.st) :
    Calls Tryz.prog 62 #[.pointer (some ⟨b, 0, none⟩), .agg (opC o l)] w fun e w' => e = .returned (anV ⟨201, 0, 0, .zero⟩) ∧ RTo w b F r w' := by
  obtain ⟨W2, ob, ab, hW2, hob, hab, ho2, ha2, hc2, hs2⟩ := two_boxes w o l
  have HW2 := Lib.hid hW2
  have HOS := Lib.hid hob
  have HAS := Lib.hid hab
  have HOB := Lib.hid ho2
  have HAB := Lib.hid ha2
  have HC2 := Lib.hid hc2
  have HH := Lib.hid (h.same hc2)
  have HNF := Lib.hid (show ¬ (F ab ∨ W2.heap.size ≤ ab) from fun e => by rcases e with e | e; exact absurd (hF _ e) (by omega); omega)
  have HNO := Lib.hid (show ¬ (F ob ∨ W2.heap.size ≤ ob) from fun e => by rcases e with e | e; exact absurd (hF _ e) (by omega); omega)
  have HLE := Lib.hid (show w.heap.size ≤ ab by omega)
  have HO2 := Lib.hid (ho.same hc2)
  have c0 : W2.cell? ⟨b, 0, none⟩ = some (.int .u64 (r.time : Nat)) := cell_of HH.out.box rfl
  have k2 : W2.cell? ⟨ob, 2, none⟩ = some (.int .u64 (o.st : Nat)) := cell_of HOB.out rfl
  have q1 : decide ((r.time : Int) < (o.st : Int)) = true := by simp; omega
  have q1n : decide (r.time < o.st) = true := decide_eq_true h1
  clear h hF ho hfit hB hW2 hob hab ho2 ha2 hc2 hs2 h1
  go_enter Tryz.func62, Tryz.ntmps62
  go_upto_region 1 with fail
  rw [HW2.out, HOS.out, HAS.out]
  go_quiet (fail)
  obtain ⟨W3, HW3⟩ : ∃ W3, Hid (W2.drewN nq = W3) := ⟨_, Lib.hid rfl⟩
  have HAB3 := Lib.hid (show W3.heap[ab]? = some (.cells #[.int .i64 0, .int .u64 0, .int .u64 0, .string ⟨#[]⟩, .int .u32 0, .int .u32 0, .int .u64 0, .int .u64 0] 46) by rw [← HW3.out]; exact HAB.out)
  have HT3 := Lib.hid (show RTo W2 b F r W3 from ⟨⟨R, ((HH.out.same (by rw [← HW3.out]; exact Chg.drewN' W2 nq))).wide (fun _ => Or.inl)⟩, by rw [← HW3.out]; exact (Chg.drewN' W2 nq).mono (fun _ f => f.elim)⟩)
  rw [HW3.out]
  clear c0 k2
  have z0 : W3.cell? ⟨ab, 0, none⟩ = some (.int .i64 0) := cell_of HAB3.out rfl
  have zf0 : W3.frozen? ⟨ab, 0, none⟩ = false := frozen_of HAB3.out
  have z1 : W3.cell? ⟨ab, 1, none⟩ = some (.int .u64 0) := cell_of HAB3.out rfl
  have zf1 : W3.frozen? ⟨ab, 1, none⟩ = false := frozen_of HAB3.out
  have z2 : W3.cell? ⟨ab, 2, none⟩ = some (.int .u64 0) := cell_of HAB3.out rfl
  have zf2 : W3.frozen? ⟨ab, 2, none⟩ = false := frozen_of HAB3.out
  have z3 : W3.cell? ⟨ab, 3, none⟩ = some (.string ⟨#[]⟩) := cell_of HAB3.out rfl
  have zf3 : W3.frozen? ⟨ab, 3, none⟩ = false := frozen_of HAB3.out
  have z4 : W3.cell? ⟨ab, 4, none⟩ = some (.int .u32 0) := cell_of HAB3.out rfl
  have zf4 : W3.frozen? ⟨ab, 4, none⟩ = false := frozen_of HAB3.out
  have z5 : W3.cell? ⟨ab, 5, none⟩ = some (.int .u32 0) := cell_of HAB3.out rfl
  have zf5 : W3.frozen? ⟨ab, 5, none⟩ = false := frozen_of HAB3.out
  have z6 : W3.cell? ⟨ab, 6, none⟩ = some (.int .u64 0) := cell_of HAB3.out rfl
  have zf6 : W3.frozen? ⟨ab, 6, none⟩ = false := frozen_of HAB3.out
  have z7 : W3.cell? ⟨ab, 7, none⟩ = some (.int .u64 0) := cell_of HAB3.out rfl
  have zf7 : W3.frozen? ⟨ab, 7, none⟩ = false := frozen_of HAB3.out
  go_wp2_with fail
  obtain ⟨hh, hk8⟩ := fin8 HAB3.out (.int .i64 201) (.int .u64 0) (.int .u64 0) (.string ⟨#[]⟩) (.int .u32 0) (.int .u32 0) (.int .u64 0) (.int .u64 0)
  refine bodyPost_ret (results_cell_row (p := 4) (ty := 46) rfl _ _ ab 46 _ (0, 0) _ rfl hh Tryz.underlying46 rfl (by kernel_rfl)) rfl ⟨rfl, ?_⟩
  exact RTo.box HT3.out hk8 HNF.out HC2.out HLE.out
set_option maxRecDepth 100000 in
set_option maxHeartbeats 8000000 in
theorem rend_had (h : RRep w b R F r) (hF : ∀ g, F g → g < w.heap.size) (ho : OpAt w o l) (hfit : Fit r B) (hB : B ≤ 900000) (h1 : ¬ r.time < o.st) {c : Nat} (hl : lk r.d o.st = some c) :
    Calls Tryz.prog 62 #[.pointer (some ⟨b, 0, none⟩), .agg (opC o l)] w fun e w' => e = .returned (anV ⟨0, 0, c, .zero⟩) ∧ RTo w b F r w' := by
  obtain ⟨W2, ob, ab, hW2, hob, hab, ho2, ha2, hc2, hs2⟩ := two_boxes w o l
  have HW2 := Lib.hid hW2
  have HOS := Lib.hid hob
  have HAS := Lib.hid hab
  have HOB := Lib.hid ho2
  have HAB := Lib.hid ha2
  have HC2 := Lib.hid hc2
  have HH := Lib.hid (h.same hc2)
  have HNF := Lib.hid (show ¬ (F ab ∨ W2.heap.size ≤ ab) from fun e => by rcases e with e | e; exact absurd (hF _ e) (by omega); omega)
  have HNO := Lib.hid (show ¬ (F ob ∨ W2.heap.size ≤ ob) from fun e => by rcases e with e | e; exact absurd (hF _ e) (by omega); omega)
  have HLE := Lib.hid (show w.heap.size ≤ ab by omega)
  have HO2 := Lib.hid (ho.same hc2)
  have c0 : W2.cell? ⟨b, 0, none⟩ = some (.int .u64 (r.time : Nat)) := cell_of HH.out.box rfl
  have k2 : W2.cell? ⟨ob, 2, none⟩ = some (.int .u64 (o.st : Nat)) := cell_of HOB.out rfl
  have q1 : decide ((r.time : Int) < (o.st : Int)) = false := by simp; omega
  have q1n : decide (r.time < o.st) = false := decide_eq_false h1
  have DD := fun m => rdecided_any (HH.out.same (Chg.drewN' W2 m)) o.st
  rw [hl] at DD
  have DD := Lib.hid DD
  clear h hF ho hfit hB hW2 hob hab ho2 ha2 hc2 hs2 h1 hl
  go_enter Tryz.func62, Tryz.ntmps62
  go_upto_region 1 with fail
  rw [HW2.out, HOS.out, HAS.out]
  go_quiet (fail)
  have DQ := Lib.hid (DD.out nq)
  obtain ⟨W3, HW3⟩ : ∃ W3, Hid (W2.drewN nq = W3) := ⟨_, Lib.hid rfl⟩
  rw [HW3.out] at DQ
  have HAB3 := Lib.hid (show W3.heap[ab]? = some (.cells #[.int .i64 0, .int .u64 0, .int .u64 0, .string ⟨#[]⟩, .int .u32 0, .int .u32 0, .int .u64 0, .int .u64 0] 46) by rw [← HW3.out]; exact HAB.out)
  have HT3 := Lib.hid (show RTo W2 b F r W3 from ⟨⟨R, ((HH.out.same (by rw [← HW3.out]; exact Chg.drewN' W2 nq))).wide (fun _ => Or.inl)⟩, by rw [← HW3.out]; exact (Chg.drewN' W2 nq).mono (fun _ f => f.elim)⟩)
  have hob3 : W3.heap[ob]? = some (.cells #[.int .u8 (o.k : Nat), .int .u32 (o.n : Nat), .int .u64 (o.st : Nat), .slice l.ko o.keys.length l.kc, .slice l.no o.needs.length l.nc, .string o.pred, .int .u32 (o.g : Nat), .int .u32 (o.to : Nat), .int .u64 (o.at_ : Nat)] 28) := by rw [← HW3.out]; exact HOB.out
  have HOB3 := Lib.hid hob3
  rw [HW3.out]
  clear c0 k2 DD hob3
  have k2 : W3.cell? ⟨ob, 2, none⟩ = some (.int .u64 (o.st : Nat)) := cell_of HOB3.out rfl
  have z0 : W3.cell? ⟨ab, 0, none⟩ = some (.int .i64 0) := cell_of HAB3.out rfl
  have zf0 : W3.frozen? ⟨ab, 0, none⟩ = false := frozen_of HAB3.out
  have z1 : W3.cell? ⟨ab, 1, none⟩ = some (.int .u64 0) := cell_of HAB3.out rfl
  have zf1 : W3.frozen? ⟨ab, 1, none⟩ = false := frozen_of HAB3.out
  have z2 : W3.cell? ⟨ab, 2, none⟩ = some (.int .u64 0) := cell_of HAB3.out rfl
  have zf2 : W3.frozen? ⟨ab, 2, none⟩ = false := frozen_of HAB3.out
  have z3 : W3.cell? ⟨ab, 3, none⟩ = some (.string ⟨#[]⟩) := cell_of HAB3.out rfl
  have zf3 : W3.frozen? ⟨ab, 3, none⟩ = false := frozen_of HAB3.out
  have z4 : W3.cell? ⟨ab, 4, none⟩ = some (.int .u32 0) := cell_of HAB3.out rfl
  have zf4 : W3.frozen? ⟨ab, 4, none⟩ = false := frozen_of HAB3.out
  have z5 : W3.cell? ⟨ab, 5, none⟩ = some (.int .u32 0) := cell_of HAB3.out rfl
  have zf5 : W3.frozen? ⟨ab, 5, none⟩ = false := frozen_of HAB3.out
  have z6 : W3.cell? ⟨ab, 6, none⟩ = some (.int .u64 0) := cell_of HAB3.out rfl
  have zf6 : W3.frozen? ⟨ab, 6, none⟩ = false := frozen_of HAB3.out
  have z7 : W3.cell? ⟨ab, 7, none⟩ = some (.int .u64 0) := cell_of HAB3.out rfl
  have zf7 : W3.frozen? ⟨ab, 7, none⟩ = false := frozen_of HAB3.out
  go_wp2_with fail
  refine DQ.out.mono ?_
  rintro e w4 ⟨rfl, rfl⟩
  go_wp2_with fail
  obtain ⟨hh, hk8⟩ := fin8 HAB3.out (.int .i64 0) (.int .u64 0) (.int .u64 (c : Nat)) (.string ⟨#[]⟩) (.int .u32 0) (.int .u32 0) (.int .u64 0) (.int .u64 0)
  refine bodyPost_ret (results_cell_row (p := 4) (ty := 46) rfl _ _ ab 46 _ (0, 0) _ rfl hh Tryz.underlying46 rfl (by kernel_rfl)) rfl ⟨rfl, ?_⟩
  exact RTo.box HT3.out hk8 HNF.out HC2.out HLE.out
set_option maxRecDepth 100000 in
set_option maxHeartbeats 8000000 in
theorem rend_low (h : RRep w b R F r) (hF : ∀ g, F g → g < w.heap.size) (ho : OpAt w o l) (hfit : Fit r B) (hB : B ≤ 900000) (h1 : ¬ r.time < o.st) (hl : lk r.d o.st = none) (h2 : o.st < r.mark) :
    Calls Tryz.prog 62 #[.pointer (some ⟨b, 0, none⟩), .agg (opC o l)] w fun e w' => e = .returned (anV an0) ∧ RTo w b F r w' := by
  obtain ⟨W2, ob, ab, hW2, hob, hab, ho2, ha2, hc2, hs2⟩ := two_boxes w o l
  have HW2 := Lib.hid hW2
  have HOS := Lib.hid hob
  have HAS := Lib.hid hab
  have HOB := Lib.hid ho2
  have HAB := Lib.hid ha2
  have HC2 := Lib.hid hc2
  have HH := Lib.hid (h.same hc2)
  have HNF := Lib.hid (show ¬ (F ab ∨ W2.heap.size ≤ ab) from fun e => by rcases e with e | e; exact absurd (hF _ e) (by omega); omega)
  have HNO := Lib.hid (show ¬ (F ob ∨ W2.heap.size ≤ ob) from fun e => by rcases e with e | e; exact absurd (hF _ e) (by omega); omega)
  have HLE := Lib.hid (show w.heap.size ≤ ab by omega)
  have HO2 := Lib.hid (ho.same hc2)
  have c0 : W2.cell? ⟨b, 0, none⟩ = some (.int .u64 (r.time : Nat)) := cell_of HH.out.box rfl
  have k2 : W2.cell? ⟨ob, 2, none⟩ = some (.int .u64 (o.st : Nat)) := cell_of HOB.out rfl
  have q1 : decide ((r.time : Int) < (o.st : Int)) = false := by simp; omega
  have q1n : decide (r.time < o.st) = false := decide_eq_false h1
  have DD := fun m => rdecided_any (HH.out.same (Chg.drewN' W2 m)) o.st
  rw [hl] at DD
  have DD := Lib.hid DD
  have q2 : decide ((o.st : Int) < (r.mark : Int)) = true := by simp; omega
  have q2n : decide (o.st < r.mark) = true := decide_eq_true h2
  clear h hF ho hfit hB hW2 hob hab ho2 ha2 hc2 hs2 h1 hl h2
  go_enter Tryz.func62, Tryz.ntmps62
  go_upto_region 1 with fail
  rw [HW2.out, HOS.out, HAS.out]
  go_quiet (fail)
  have DQ := Lib.hid (DD.out nq)
  have KQ := Lib.hid (Chg.drewN' W2 nq)
  generalize W2.drewN nq = W3 at *
  have HAB3 := Lib.hid ((KQ.out.block ab (Array.getElem?_eq_some_iff.1 HAB.out).1 (fun f => f)).trans HAB.out)
  have HOB3 := Lib.hid ((KQ.out.block ob (Array.getElem?_eq_some_iff.1 HOB.out).1 (fun f => f)).trans HOB.out)
  have HH3 := Lib.hid (HH.out.same KQ.out)
  clear c0 k2 DD
  have k2 : W3.cell? ⟨ob, 2, none⟩ = some (.int .u64 (o.st : Nat)) := cell_of HOB3.out rfl
  have c2 : W3.cell? ⟨b, 2, none⟩ = some (.int .u64 (r.mark : Nat)) := cell_of HH3.out.box rfl
  go_wp2_with fail
  refine DQ.out.mono ?_
  rintro e w4 ⟨rfl, rfl⟩
  go_upto_region 6 with fail
  go_quiet (fail)
  have KR := Lib.hid (KQ.out.trans (Chg.drewN' w4 nq))
  generalize w4.drewN nq = W5 at *
  have HAB5 := Lib.hid ((KR.out.block ab (Array.getElem?_eq_some_iff.1 HAB.out).1 (fun f => f)).trans HAB.out)
  have HOB5 := Lib.hid ((KR.out.block ob (Array.getElem?_eq_some_iff.1 HOB.out).1 (fun f => f)).trans HOB.out)
  have HH5 := Lib.hid (HH.out.same KR.out)
  have HT5 := Lib.hid (show RTo W2 b F r W5 from ⟨⟨R, HH5.out.wide (fun _ => Or.inl)⟩, KR.out.mono (fun _ f => f.elim)⟩)
  clear c2 k2 DQ KQ HAB3 HOB3 HH3
  have z0 : W5.cell? ⟨ab, 0, none⟩ = some (.int .i64 0) := cell_of HAB5.out rfl
  have zf0 : W5.frozen? ⟨ab, 0, none⟩ = false := frozen_of HAB5.out
  have z1 : W5.cell? ⟨ab, 1, none⟩ = some (.int .u64 0) := cell_of HAB5.out rfl
  have zf1 : W5.frozen? ⟨ab, 1, none⟩ = false := frozen_of HAB5.out
  have z2 : W5.cell? ⟨ab, 2, none⟩ = some (.int .u64 0) := cell_of HAB5.out rfl
  have zf2 : W5.frozen? ⟨ab, 2, none⟩ = false := frozen_of HAB5.out
  have z3 : W5.cell? ⟨ab, 3, none⟩ = some (.string ⟨#[]⟩) := cell_of HAB5.out rfl
  have zf3 : W5.frozen? ⟨ab, 3, none⟩ = false := frozen_of HAB5.out
  have z4 : W5.cell? ⟨ab, 4, none⟩ = some (.int .u32 0) := cell_of HAB5.out rfl
  have zf4 : W5.frozen? ⟨ab, 4, none⟩ = false := frozen_of HAB5.out
  have z5 : W5.cell? ⟨ab, 5, none⟩ = some (.int .u32 0) := cell_of HAB5.out rfl
  have zf5 : W5.frozen? ⟨ab, 5, none⟩ = false := frozen_of HAB5.out
  have z6 : W5.cell? ⟨ab, 6, none⟩ = some (.int .u64 0) := cell_of HAB5.out rfl
  have zf6 : W5.frozen? ⟨ab, 6, none⟩ = false := frozen_of HAB5.out
  have z7 : W5.cell? ⟨ab, 7, none⟩ = some (.int .u64 0) := cell_of HAB5.out rfl
  have zf7 : W5.frozen? ⟨ab, 7, none⟩ = false := frozen_of HAB5.out
  go_wp2_with fail
  obtain ⟨hh, hk8⟩ := fin8 HAB5.out (.int .i64 0) (.int .u64 0) (.int .u64 0) (.string ⟨#[]⟩) (.int .u32 0) (.int .u32 0) (.int .u64 0) (.int .u64 0)
  refine bodyPost_ret (results_cell_row (p := 4) (ty := 46) rfl _ _ ab 46 _ (0, 0) _ rfl hh Tryz.underlying46 rfl (by kernel_rfl)) rfl ⟨rfl, ?_⟩
  exact RTo.box HT5.out hk8 HNF.out HC2.out HLE.out
set_option maxRecDepth 100000 in
set_option maxHeartbeats 8000000 in
theorem rend_abort (h : RRep w b R F r) (hF : ∀ g, F g → g < w.heap.size) (ho : OpAt w o l) (hfit : Fit r B) (hB : B ≤ 900000) (h1 : ¬ r.time < o.st) (hl : lk r.d o.st = none) (h2 : ¬ o.st < r.mark) (h3 : o.k = 4 ∨ rclearM r o = false) :
    Calls Tryz.prog 62 #[.pointer (some ⟨b, 0, none⟩), .agg (opC o l)] w fun e w' => e = .returned (anV an0) ∧ RTo w b F { r with d := lay ltN o.st 0 r.d } w' := by
  obtain ⟨W2, ob, ab, hW2, hob, hab, ho2, ha2, hc2, hs2⟩ := two_boxes w o l
  have HW2 := Lib.hid hW2
  have HOS := Lib.hid hob
  have HAS := Lib.hid hab
  have HOB := Lib.hid ho2
  have HAB := Lib.hid ha2
  have HC2 := Lib.hid hc2
  have HH := Lib.hid (h.same hc2)
  have HNF := Lib.hid (show ¬ (F ab ∨ W2.heap.size ≤ ab) from fun e => by rcases e with e | e; exact absurd (hF _ e) (by omega); omega)
  have HNO := Lib.hid (show ¬ (F ob ∨ W2.heap.size ≤ ob) from fun e => by rcases e with e | e; exact absurd (hF _ e) (by omega); omega)
  have HLE := Lib.hid (show w.heap.size ≤ ab by omega)
  have HO2 := Lib.hid (ho.same hc2)
  have c0 : W2.cell? ⟨b, 0, none⟩ = some (.int .u64 (r.time : Nat)) := cell_of HH.out.box rfl
  have k2 : W2.cell? ⟨ob, 2, none⟩ = some (.int .u64 (o.st : Nat)) := cell_of HOB.out rfl
  have q1 : decide ((r.time : Int) < (o.st : Int)) = false := by simp; omega
  have q1n : decide (r.time < o.st) = false := decide_eq_false h1
  have DD := fun m => rdecided_any (HH.out.same (Chg.drewN' W2 m)) o.st
  rw [hl] at DD
  have DD := Lib.hid DD
  have q2 : decide ((o.st : Int) < (r.mark : Int)) = false := by simp; omega
  have q2n : decide (o.st < r.mark) = false := decide_eq_false h2
  have MM := Lib.hid (fun (u : World) (c : Chg (fun _ => False) W2 u) => rclear_any (HH.out.same c) hfit.ts hfit.tp (HO2.out.same c))
  have HL := Lib.hid (lk_off hl)
  have HDS := Lib.hid hfit.ds
  have HDL := Lib.hid (Nat.le_trans hfit.dl (show B ≤ 1000000 by omega))
  have H3 := Lib.hid h3
  clear h hF ho hfit hB hW2 hob hab ho2 ha2 hc2 hs2 h1 hl h2 h3
  go_enter Tryz.func62, Tryz.ntmps62
  go_upto_region 1 with fail
  rw [HW2.out, HOS.out, HAS.out]
  go_quiet (fail)
  have DQ := Lib.hid (DD.out nq)
  have KQ := Lib.hid (Chg.drewN' W2 nq)
  generalize W2.drewN nq = W3 at *
  have HAB3 := Lib.hid ((KQ.out.block ab (Array.getElem?_eq_some_iff.1 HAB.out).1 (fun f => f)).trans HAB.out)
  have HOB3 := Lib.hid ((KQ.out.block ob (Array.getElem?_eq_some_iff.1 HOB.out).1 (fun f => f)).trans HOB.out)
  have HH3 := Lib.hid (HH.out.same KQ.out)
  clear c0 k2 DD
  have k2 : W3.cell? ⟨ob, 2, none⟩ = some (.int .u64 (o.st : Nat)) := cell_of HOB3.out rfl
  have c2 : W3.cell? ⟨b, 2, none⟩ = some (.int .u64 (r.mark : Nat)) := cell_of HH3.out.box rfl
  go_wp2_with fail
  refine DQ.out.mono ?_
  rintro e w4 ⟨rfl, rfl⟩
  go_upto_region 6 with fail
  go_quiet (fail)
  have KR := Lib.hid (KQ.out.trans (Chg.drewN' w4 nq))
  generalize w4.drewN nq = W5 at *
  have HAB5 := Lib.hid ((KR.out.block ab (Array.getElem?_eq_some_iff.1 HAB.out).1 (fun f => f)).trans HAB.out)
  have HOB5 := Lib.hid ((KR.out.block ob (Array.getElem?_eq_some_iff.1 HOB.out).1 (fun f => f)).trans HOB.out)
  have HH5 := Lib.hid (HH.out.same KR.out)
  have HT5 := Lib.hid (show RTo W2 b F r W5 from ⟨⟨R, HH5.out.wide (fun _ => Or.inl)⟩, KR.out.mono (fun _ f => f.elim)⟩)
  clear c2 k2 DQ KQ HAB3 HOB3 HH3
  have k0 : W5.cell? ⟨ob, 0, none⟩ = some (.int .u8 (o.k : Nat)) := cell_of HOB5.out rfl
  have k1 : W5.cell? ⟨ob, 1, none⟩ = some (.int .u32 (o.n : Nat)) := cell_of HOB5.out rfl
  have k2 : W5.cell? ⟨ob, 2, none⟩ = some (.int .u64 (o.st : Nat)) := cell_of HOB5.out rfl
  have k3 : W5.cell? ⟨ob, 3, none⟩ = some (.slice l.ko o.keys.length l.kc) := cell_of HOB5.out rfl
  have k4 : W5.cell? ⟨ob, 4, none⟩ = some (.slice l.no o.needs.length l.nc) := cell_of HOB5.out rfl
  have k5 : W5.cell? ⟨ob, 5, none⟩ = some (.string o.pred) := cell_of HOB5.out rfl
  have k6 : W5.cell? ⟨ob, 6, none⟩ = some (.int .u32 (o.g : Nat)) := cell_of HOB5.out rfl
  have k7 : W5.cell? ⟨ob, 7, none⟩ = some (.int .u32 (o.to : Nat)) := cell_of HOB5.out rfl
  have k8 : W5.cell? ⟨ob, 8, none⟩ = some (.int .u64 (o.at_ : Nat)) := cell_of HOB5.out rfl
  by_cases h4 : o.k = 4
  · have q4 : ((o.k : Int) == 4) = true := by rw [h4]; rfl
    have q4n : decide (o.k = 4) = true := decide_eq_true h4
    clear h4 H3
    have DE := Lib.hid (rdecide_any HH5.out o.st 0 HDS.out HL.out HDL.out)
    go_wp2_with fail
    refine DE.out.mono ?_
    rintro e W6 ⟨rfl, h6⟩
    have HT6 := Lib.hid (HT5.out.trans (show RTo W5 b (fun g => F g ∨ W2.heap.size ≤ g) _ W6 from ⟨by obtain ⟨R2, h2⟩ := h6.is; exact ⟨R2, h2.wide (fun g e => by rcases e with e | e; exact Or.inl (Or.inl e); exact Or.inr e)⟩, h6.chg.mono (fun _ f => Or.inl f)⟩))
    have HAB6 := Lib.hid ((h6.chg.block ab (Array.getElem?_eq_some_iff.1 HAB5.out).1 (fun f => HNF.out (Or.inl f))).trans HAB5.out)
    clear h6 k0 k1 k2 k3 k4 k5 k6 k7 k8 DE
    have z0 : W6.cell? ⟨ab, 0, none⟩ = some (.int .i64 0) := cell_of HAB6.out rfl
    have zf0 : W6.frozen? ⟨ab, 0, none⟩ = false := frozen_of HAB6.out
    have z1 : W6.cell? ⟨ab, 1, none⟩ = some (.int .u64 0) := cell_of HAB6.out rfl
    have zf1 : W6.frozen? ⟨ab, 1, none⟩ = false := frozen_of HAB6.out
    have z2 : W6.cell? ⟨ab, 2, none⟩ = some (.int .u64 0) := cell_of HAB6.out rfl
    have zf2 : W6.frozen? ⟨ab, 2, none⟩ = false := frozen_of HAB6.out
    have z3 : W6.cell? ⟨ab, 3, none⟩ = some (.string ⟨#[]⟩) := cell_of HAB6.out rfl
    have zf3 : W6.frozen? ⟨ab, 3, none⟩ = false := frozen_of HAB6.out
    have z4 : W6.cell? ⟨ab, 4, none⟩ = some (.int .u32 0) := cell_of HAB6.out rfl
    have zf4 : W6.frozen? ⟨ab, 4, none⟩ = false := frozen_of HAB6.out
    have z5 : W6.cell? ⟨ab, 5, none⟩ = some (.int .u32 0) := cell_of HAB6.out rfl
    have zf5 : W6.frozen? ⟨ab, 5, none⟩ = false := frozen_of HAB6.out
    have z6 : W6.cell? ⟨ab, 6, none⟩ = some (.int .u64 0) := cell_of HAB6.out rfl
    have zf6 : W6.frozen? ⟨ab, 6, none⟩ = false := frozen_of HAB6.out
    have z7 : W6.cell? ⟨ab, 7, none⟩ = some (.int .u64 0) := cell_of HAB6.out rfl
    have zf7 : W6.frozen? ⟨ab, 7, none⟩ = false := frozen_of HAB6.out
    go_wp2_with fail
    obtain ⟨hh, hk8⟩ := fin8 HAB6.out (.int .i64 0) (.int .u64 0) (.int .u64 0) (.string ⟨#[]⟩) (.int .u32 0) (.int .u32 0) (.int .u64 0) (.int .u64 0)
    refine bodyPost_ret (results_cell_row (p := 4) (ty := 46) rfl _ _ ab 46 _ (0, 0) _ rfl hh Tryz.underlying46 rfl (by kernel_rfl)) rfl ⟨rfl, ?_⟩
    exact RTo.box HT6.out hk8 HNF.out HC2.out HLE.out
  · have q4 : ((o.k : Int) == 4) = false := by rw [beq_eq_false_iff_ne]; omega
    have q4n : decide (o.k = 4) = false := decide_eq_false h4
    have hcl : rclearM r o = false := H3.out.resolve_left h4
    have MQ := MM.out _ KR.out
    rw [hcl] at MQ
    have MQ := Lib.hid MQ
    have DE := Lib.hid (fun (u : World) (c : Chg (fun _ => False) W5 u) => rdecide_any (HH5.out.same c) o.st 0 HDS.out HL.out HDL.out)
    clear h4 H3 hcl MM
    go_wp2_with fail
    refine MQ.out.mono ?_
    rintro e W7 ⟨rfl, c7⟩
    have k2' : W7.cell? ⟨ob, 2, none⟩ = some (.int .u64 (o.st : Nat)) := (World.cell?_of_block (a := ⟨ob, 2, none⟩) (c7.block ob (Array.getElem?_eq_some_iff.1 HOB5.out).1 (fun f => f))).trans k2
    have C7 := Lib.hid c7
    have DE7 := Lib.hid (DE.out _ c7)
    clear c7 k0 k1 k2 k3 k4 k5 k6 k7 k8 DE MQ
    go_wp2_with fail
    refine DE7.out.mono ?_
    rintro e W6 ⟨rfl, h6⟩
    have h6' := rto_under C7.out h6
    have HT6 := Lib.hid (HT5.out.trans (show RTo W5 b (fun g => F g ∨ W2.heap.size ≤ g) _ W6 from ⟨by obtain ⟨R2, h2⟩ := h6'.is; exact ⟨R2, h2.wide (fun g e => by rcases e with e | e; exact Or.inl (Or.inl e); exact Or.inr e)⟩, h6'.chg.mono (fun _ f => Or.inl f)⟩))
    have HAB6 := Lib.hid ((h6'.chg.block ab (Array.getElem?_eq_some_iff.1 HAB5.out).1 (fun f => HNF.out (Or.inl f))).trans HAB5.out)
    clear h6 h6' k2' DE7
    have z0 : W6.cell? ⟨ab, 0, none⟩ = some (.int .i64 0) := cell_of HAB6.out rfl
    have zf0 : W6.frozen? ⟨ab, 0, none⟩ = false := frozen_of HAB6.out
    have z1 : W6.cell? ⟨ab, 1, none⟩ = some (.int .u64 0) := cell_of HAB6.out rfl
    have zf1 : W6.frozen? ⟨ab, 1, none⟩ = false := frozen_of HAB6.out
    have z2 : W6.cell? ⟨ab, 2, none⟩ = some (.int .u64 0) := cell_of HAB6.out rfl
    have zf2 : W6.frozen? ⟨ab, 2, none⟩ = false := frozen_of HAB6.out
    have z3 : W6.cell? ⟨ab, 3, none⟩ = some (.string ⟨#[]⟩) := cell_of HAB6.out rfl
    have zf3 : W6.frozen? ⟨ab, 3, none⟩ = false := frozen_of HAB6.out
    have z4 : W6.cell? ⟨ab, 4, none⟩ = some (.int .u32 0) := cell_of HAB6.out rfl
    have zf4 : W6.frozen? ⟨ab, 4, none⟩ = false := frozen_of HAB6.out
    have z5 : W6.cell? ⟨ab, 5, none⟩ = some (.int .u32 0) := cell_of HAB6.out rfl
    have zf5 : W6.frozen? ⟨ab, 5, none⟩ = false := frozen_of HAB6.out
    have z6 : W6.cell? ⟨ab, 6, none⟩ = some (.int .u64 0) := cell_of HAB6.out rfl
    have zf6 : W6.frozen? ⟨ab, 6, none⟩ = false := frozen_of HAB6.out
    have z7 : W6.cell? ⟨ab, 7, none⟩ = some (.int .u64 0) := cell_of HAB6.out rfl
    have zf7 : W6.frozen? ⟨ab, 7, none⟩ = false := frozen_of HAB6.out
    go_wp2_with fail
    obtain ⟨hh, hk8⟩ := fin8 HAB6.out (.int .i64 0) (.int .u64 0) (.int .u64 0) (.string ⟨#[]⟩) (.int .u32 0) (.int .u32 0) (.int .u64 0) (.int .u64 0)
    refine bodyPost_ret (results_cell_row (p := 4) (ty := 46) rfl _ _ ab 46 _ (0, 0) _ rfl hh Tryz.underlying46 rfl (by kernel_rfl)) rfl ⟨rfl, ?_⟩
    exact RTo.box HT6.out hk8 HNF.out HC2.out HLE.out
end
end Go.Proofs.YtgmmglmokkcgeaaGreat
