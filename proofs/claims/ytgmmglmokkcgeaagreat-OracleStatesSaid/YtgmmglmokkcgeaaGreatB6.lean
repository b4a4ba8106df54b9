/- Walks: Apply, of a mark; of whatever command. -/
import Derived.Test.YtgmmglmokkcgeaaGreatB5
import Derived.Test.YtgmmglmokkcgeaaGreatAf
namespace Go.Proofs.YtgmmglmokkcgeaaGreat
set_option linter.unusedVariables false
set_option linter.unusedSimpArgs false
open Go.RowKit Mk Go.Sort
section
variable {w : World} {b : Nat} {R : Loc} {F : Nat → Prop} {n : OM} {o : OpM} {l : OpL}
set_option maxRecDepth 100000 in
set_option maxHeartbeats 8000000 in
theorem apply_9 (h : OrRep w b R F n) (hF : ∀ g, F g → g < w.heap.size) (ho : OpAt w o l) (hm : mayM o = true) (hk : o.k = 9) (hps : o.pred.size ≤ maxLen) (hlm : Lim n 1099511627776) (hsep : ∀ g o', (o.keys ≠ [] ∧ l.ko = some ⟨g, o', none⟩) ∨ (o.needs ≠ [] ∧ l.no = some ⟨g, o', none⟩) → ¬ F g) (hks : ∀ k ∈ o.keys, k.size ≤ maxLen) (h256 : o.needs.length ≤ 256) :
    Calls Tryz.prog 9 #[.pointer (some ⟨b, 0, none⟩), .agg (opC o l)] w fun e w' => e = .returned (anV (raiseM n o).2) ∧ To w b F (raiseM n o).1 w' := by
  have hblt := h.lt
  have HFF := Lib.hid h
  obtain ⟨W2, HW2⟩ : ∃ W2, Hid ((w.alloc (.cells (opC o l) 28)).alloc (.cells #[.int .i64 0, .int .u64 0, .int .u64 0, .string ⟨#[]⟩, .int .u32 0, .int .u32 0, .int .u64 0, .int .u64 0] 46) = W2) := ⟨_, Lib.hid rfl⟩
  obtain ⟨ob, HOS⟩ : ∃ ob, Hid (w.heap.size = ob) := ⟨_, Lib.hid rfl⟩
  obtain ⟨ab, HAS⟩ : ∃ ab, Hid (ob + 1 = ab) := ⟨_, Lib.hid rfl⟩
  have HC2 : Hid (Chg (fun _ => False) w W2) := by rw [← HW2.out]; exact Lib.hid (((Chg.refl _ _).alloc _).alloc _)
  have HS2 : Hid (W2.heap.size = ab + 1) := by rw [← HW2.out, ← HAS.out, ← HOS.out]; exact Lib.hid (by simp)
  have HOB : Hid (W2.heap[ob]? = some (.cells (opC o l) 28)) := by rw [← HW2.out, ← HOS.out]; exact Lib.hid ((Below.heap_alloc _ _ _ (by simp)).trans (Go.heap_alloc_new w _))
  have HAB : Hid (W2.heap[ab]? = some (.cells #[.int .i64 0, .int .u64 0, .int .u64 0, .string ⟨#[]⟩, .int .u32 0, .int .u32 0, .int .u64 0, .int .u64 0] 46)) := by rw [← HW2.out, ← HAS.out, ← HOS.out]; exact Lib.hid (alloc2_new w _ _)
  have H2 := Lib.hid (h.same HC2.out)
  have hst := ho.st
  have HFAB := Lib.hid (show ∀ g, F g → g ≠ ab ∧ g ≠ ob ∧ g < ob from fun g f => by have := hF g f; have := HAS.out; have := HOS.out; omega)
  have NN := Lib.hid (none_any H2.out)
  have MA := Lib.hid (may_any (ho.same HC2.out))
  rw [hm] at MA
  simp only [if_true] at MA
  obtain ⟨an, han⟩ : ∃ a : AnM, (raiseM n o).2 = a := ⟨_, rfl⟩
  have hob2 : W2.heap[ob]? = some (.cells #[.int .u8 9, .int .u32 (o.n : Nat), .int .u64 (o.st : Nat), .slice l.ko o.keys.length l.kc, .slice l.no o.needs.length l.nc, .string o.pred, .int .u32 (o.g : Nat), .int .u32 (o.to : Nat), .int .u64 (o.at_ : Nat)] 28) := by have := HOB.out; unfold opC at this; rw [hk] at this; exact this
  have OK := Lib.hid (fun (v : World) (c : Chg (fun _ => False) W2 v) => show Calls Tryz.prog 79 #[.pointer (some ⟨b, 0, none⟩), .agg #[.int .u8 9, .int .u32 (o.n : Nat), .int .u64 (o.st : Nat), .slice l.ko o.keys.length l.kc, .slice l.no o.needs.length l.nc, .string o.pred, .int .u32 (o.g : Nat), .int .u32 (o.to : Nat), .int .u64 (o.at_ : Nat)]] v (fun e w' => e = .returned (anV an) ∧ To v b F (raiseM n o).1 w') from by
    have hr := H2.out.same c
    have ho2 := (ho.same HC2.out).same c
    have hF2 : ∀ g, F g → g < v.heap.size := fun g f => Nat.lt_of_lt_of_le (Nat.lt_of_lt_of_le (hF g f) HC2.out.size) c.size
    have := raise_any (o := o) (l := l) hr hF2
    unfold opC at this
    rw [hk] at this
    rw [← han]
    exact this)
  have HOB2 := Lib.hid hob2
  rw [han]
  obtain ⟨ac, af, am, tp, tg, tt, ta, tn⟩ := an
  unfold anV anC at OK
  simp only at OK
  have MA' : Hid (Calls Tryz.prog 30 #[.agg #[.int .u8 9, .int .u32 (o.n : Nat), .int .u64 (o.st : Nat), .slice l.ko o.keys.length l.kc, .slice l.no o.needs.length l.nc, .string o.pred, .int .u32 (o.g : Nat), .int .u32 (o.to : Nat), .int .u64 (o.at_ : Nat)]] W2 (fun e w' => e = .returned (.int .i64 0) ∧ Chg (fun _ => False) W2 w')) := Lib.hid (by have := MA.out; unfold opC at this; rw [hk] at this; exact this)
  have DO := Lib.hid (fun v => does_any v)
  have hix : ∀ v : World, (Instr.index 78 (.agg #[.nilFunc, .func (.func 72) #[] #[], .func (.func 73) #[] #[], .func (.func 74) #[] #[], .func (.func 75) #[] #[], .func (.func 76) #[] #[], .func (.func 77) #[] #[], .func (.func 78) #[] #[], .func (.func 78) #[] #[], .func (.func 79) #[] #[]]) (.int .u8 9)).run Tryz.prog v = .ok (.func (.func 79) #[] #[]) v := fun v => by simp [Instr.index, run_underlying Tryz.underlying78, go_sem]
  have k0 : W2.cell? ⟨ob, 0, none⟩ = some (.int .u8 9) := cell_of hob2 rfl
  have k1 : W2.cell? ⟨ob, 1, none⟩ = some (.int .u32 (o.n : Nat)) := cell_of hob2 rfl
  have k2 : W2.cell? ⟨ob, 2, none⟩ = some (.int .u64 (o.st : Nat)) := cell_of hob2 rfl
  have k3 : W2.cell? ⟨ob, 3, none⟩ = some (.slice l.ko o.keys.length l.kc) := cell_of hob2 rfl
  have k4 : W2.cell? ⟨ob, 4, none⟩ = some (.slice l.no o.needs.length l.nc) := cell_of hob2 rfl
  have k5 : W2.cell? ⟨ob, 5, none⟩ = some (.string o.pred) := cell_of hob2 rfl
  have k6 : W2.cell? ⟨ob, 6, none⟩ = some (.int .u32 (o.g : Nat)) := cell_of hob2 rfl
  have k7 : W2.cell? ⟨ob, 7, none⟩ = some (.int .u32 (o.to : Nat)) := cell_of hob2 rfl
  have k8 : W2.cell? ⟨ob, 8, none⟩ = some (.int .u64 (o.at_ : Nat)) := cell_of hob2 rfl
  clear h ho hm hF hk hps hlm hsep hks h256 han hob2 MA hst
  rw [show (.agg (opC o l) : Value) = .agg (opC o l) from rfl]
  go_enter Tryz.func9, Tryz.ntmps9
  go_wp2_with fail
  rw [HW2.out, HOS.out, HAS.out]
  refine NN.out.mono ?_
  rintro e w1 ⟨rfl, rfl⟩
  go_wp2_with fail
  refine MA'.out.mono ?_
  rintro e w3 ⟨rfl, h3⟩
  have H3 := Lib.hid h3
  have hob3 := (h3.block ob (by have := HS2.out; have := HAS.out; omega) (fun f => f)).trans HOB2.out
  have q0 : w3.cell? ⟨ob, 0, none⟩ = some (.int .u8 9) := cell_of hob3 rfl
  have q1 : w3.cell? ⟨ob, 1, none⟩ = some (.int .u32 (o.n : Nat)) := cell_of hob3 rfl
  have q2 : w3.cell? ⟨ob, 2, none⟩ = some (.int .u64 (o.st : Nat)) := cell_of hob3 rfl
  have q3 : w3.cell? ⟨ob, 3, none⟩ = some (.slice l.ko o.keys.length l.kc) := cell_of hob3 rfl
  have q4 : w3.cell? ⟨ob, 4, none⟩ = some (.slice l.no o.needs.length l.nc) := cell_of hob3 rfl
  have q5 : w3.cell? ⟨ob, 5, none⟩ = some (.string o.pred) := cell_of hob3 rfl
  have q6 : w3.cell? ⟨ob, 6, none⟩ = some (.int .u32 (o.g : Nat)) := cell_of hob3 rfl
  have q7 : w3.cell? ⟨ob, 7, none⟩ = some (.int .u32 (o.to : Nat)) := cell_of hob3 rfl
  have q8 : w3.cell? ⟨ob, 8, none⟩ = some (.int .u64 (o.at_ : Nat)) := cell_of hob3 rfl
  clear h3 MA' NN hob3 k0 k1 k2 k3 k4 k5 k6 k7 k8
  go_wp2_with fail
  go_region_held3 (fun v => v.cell? ⟨ob, 0, none⟩ = some (.int .u8 9) ∧ v.cell? ⟨ob, 1, none⟩ = some (.int .u32 (o.n : Nat)) ∧ v.cell? ⟨ob, 2, none⟩ = some (.int .u64 (o.st : Nat)) ∧ v.cell? ⟨ob, 3, none⟩ = some (.slice l.ko o.keys.length l.kc) ∧ v.cell? ⟨ob, 4, none⟩ = some (.slice l.no o.needs.length l.nc) ∧ v.cell? ⟨ob, 5, none⟩ = some (.string o.pred) ∧ v.cell? ⟨ob, 6, none⟩ = some (.int .u32 (o.g : Nat)) ∧ v.cell? ⟨ob, 7, none⟩ = some (.int .u32 (o.to : Nat)) ∧ v.cell? ⟨ob, 8, none⟩ = some (.int .u64 (o.at_ : Nat))) (first | (go_split_ands; refine ⟨?_, ?_, ?_, ?_, ?_, ?_, ?_, ?_, ?_⟩ <;> with_reducible assumption) | go_keep) (first | (go_at_call 31; with_reducible refine (DO.out _).mono ?_; rintro e w4 ⟨rfl, h4⟩; have h4' := ((H3.out).drew).trans h4; have hob4 := (h4'.block ob (by have := HS2.out; have := HAS.out; omega) (fun f => f)).trans HOB2.out; have p0 : w4.cell? ⟨ob, 0, none⟩ = some (.int .u8 9) := cell_of hob4 rfl; have p1 : w4.cell? ⟨ob, 1, none⟩ = some (.int .u32 (o.n : Nat)) := cell_of hob4 rfl; have p2 : w4.cell? ⟨ob, 2, none⟩ = some (.int .u64 (o.st : Nat)) := cell_of hob4 rfl; have p3 : w4.cell? ⟨ob, 3, none⟩ = some (.slice l.ko o.keys.length l.kc) := cell_of hob4 rfl; have p4 : w4.cell? ⟨ob, 4, none⟩ = some (.slice l.no o.needs.length l.nc) := cell_of hob4 rfl; have p5 : w4.cell? ⟨ob, 5, none⟩ = some (.string o.pred) := cell_of hob4 rfl; have p6 : w4.cell? ⟨ob, 6, none⟩ = some (.int .u32 (o.g : Nat)) := cell_of hob4 rfl; have p7 : w4.cell? ⟨ob, 7, none⟩ = some (.int .u32 (o.to : Nat)) := cell_of hob4 rfl; have p8 : w4.cell? ⟨ob, 8, none⟩ = some (.int .u64 (o.at_ : Nat)) := cell_of hob4 rfl; unfold doesV) | (go_at_call 79; with_reducible refine (OK.out _ h4').mono ?_; rintro e w5 ⟨rfl, hT⟩; have hs4 := h4'.size; have hab5 := (hT.chg.block ab (by have := HS2.out; omega) (fun f => absurd rfl (HFAB.out ab f).1)).trans ((h4'.block ab (by have := HS2.out; omega) (fun f => f)).trans HAB.out); have hob5 := (hT.chg.block ob (by have := HS2.out; have := HAS.out; omega) (fun f => absurd rfl (HFAB.out ob f).2.1)).trans hob4; have r0 : w5.cell? ⟨ob, 0, none⟩ = some (.int .u8 9) := cell_of hob5 rfl; have r1 : w5.cell? ⟨ob, 1, none⟩ = some (.int .u32 (o.n : Nat)) := cell_of hob5 rfl; have r2 : w5.cell? ⟨ob, 2, none⟩ = some (.int .u64 (o.st : Nat)) := cell_of hob5 rfl; have r3 : w5.cell? ⟨ob, 3, none⟩ = some (.slice l.ko o.keys.length l.kc) := cell_of hob5 rfl; have r4 : w5.cell? ⟨ob, 4, none⟩ = some (.slice l.no o.needs.length l.nc) := cell_of hob5 rfl; have r5 : w5.cell? ⟨ob, 5, none⟩ = some (.string o.pred) := cell_of hob5 rfl; have r6 : w5.cell? ⟨ob, 6, none⟩ = some (.int .u32 (o.g : Nat)) := cell_of hob5 rfl; have r7 : w5.cell? ⟨ob, 7, none⟩ = some (.int .u32 (o.to : Nat)) := cell_of hob5 rfl; have r8 : w5.cell? ⟨ob, 8, none⟩ = some (.int .u64 (o.at_ : Nat)) := cell_of hob5 rfl; have z0 : w5.cell? ⟨ab, 0, none⟩ = some (.int .i64 0) := cell_of hab5 rfl; have zf0 : w5.frozen? ⟨ab, 0, none⟩ = false := frozen_of hab5; have z1 : w5.cell? ⟨ab, 1, none⟩ = some (.int .u64 0) := cell_of hab5 rfl; have zf1 : w5.frozen? ⟨ab, 1, none⟩ = false := frozen_of hab5; have z2 : w5.cell? ⟨ab, 2, none⟩ = some (.int .u64 0) := cell_of hab5 rfl; have zf2 : w5.frozen? ⟨ab, 2, none⟩ = false := frozen_of hab5; have z3 : w5.cell? ⟨ab, 3, none⟩ = some (.string ⟨#[]⟩) := cell_of hab5 rfl; have zf3 : w5.frozen? ⟨ab, 3, none⟩ = false := frozen_of hab5; have z4 : w5.cell? ⟨ab, 4, none⟩ = some (.int .u32 0) := cell_of hab5 rfl; have zf4 : w5.frozen? ⟨ab, 4, none⟩ = false := frozen_of hab5; have z5 : w5.cell? ⟨ab, 5, none⟩ = some (.int .u32 0) := cell_of hab5 rfl; have zf5 : w5.frozen? ⟨ab, 5, none⟩ = false := frozen_of hab5; have z6 : w5.cell? ⟨ab, 6, none⟩ = some (.int .u64 0) := cell_of hab5 rfl; have zf6 : w5.frozen? ⟨ab, 6, none⟩ = false := frozen_of hab5; have z7 : w5.cell? ⟨ab, 7, none⟩ = some (.int .u64 0) := cell_of hab5 rfl; have zf7 : w5.frozen? ⟨ab, 7, none⟩ = false := frozen_of hab5; obtain ⟨hhF, hcF⟩ := fin8 hab5 (.int .i64 (ac : Nat)) (.int .u64 (af : Nat)) (.int .u64 (am : Nat)) (.string tp) (.int .u32 (tg : Nat)) (.int .u32 (tt : Nat)) (.int .u64 (ta : Nat)) (.int .u64 (tn : Nat)); have hobF := (hcF.block ob (by have := HS2.out; have := HAS.out; have := hT.chg.size; omega) (by have := HAS.out; omega)).trans hob5; have u0 := cell_of (i := 0) (v := .int .u8 9) hobF rfl; have u1 := cell_of (i := 1) (v := .int .u32 (o.n : Nat)) hobF rfl; have u2 := cell_of (i := 2) (v := .int .u64 (o.st : Nat)) hobF rfl; have u3 := cell_of (i := 3) (v := .slice l.ko o.keys.length l.kc) hobF rfl; have u4 := cell_of (i := 4) (v := .slice l.no o.needs.length l.nc) hobF rfl; have u5 := cell_of (i := 5) (v := .string o.pred) hobF rfl; have u6 := cell_of (i := 6) (v := .int .u32 (o.g : Nat)) hobF rfl; have u7 := cell_of (i := 7) (v := .int .u32 (o.to : Nat)) hobF rfl; have u8 := cell_of (i := 8) (v := .int .u64 (o.at_ : Nat)) hobF rfl))
  have HT := Lib.hid hT
  have HAB5 := Lib.hid hab5
  have H4 := Lib.hid h4'
  clear hT hab5 hob5 hob4 h4 h4' hhF hcF hobF
  go_wp2
  obtain ⟨hh, hc⟩ := fin8 HAB5.out (.int .i64 (ac : Nat)) (.int .u64 (af : Nat)) (.int .u64 (am : Nat)) (.string tp) (.int .u32 (tg : Nat)) (.int .u32 (tt : Nat)) (.int .u64 (ta : Nat)) (.int .u64 (tn : Nat))
  refine bodyPost_ret (results_cell_row (p := 4) (ty := 46) rfl _ _ ab 46 _ (0, 0) _ rfl hh Tryz.underlying46 rfl (by kernel_rfl)) rfl ⟨rfl, ?_⟩
  exact HT.out.box hc (by rintro (f | f); exact (HFAB.out ab f).1 rfl; have := HS2.out; have := H4.out.size; omega) (HC2.out.trans H4.out) (by have := HAS.out; have := HOS.out; omega)
/-- Apply, of whatever command. -/
theorem apply_all (h : OrRep w b R F n) (hF : ∀ g, F g → g < w.heap.size) (ho : OpAt w o l) (hps : o.pred.size ≤ maxLen) (hlm : Lim n 1099511627776) (hsep : ∀ g o', (o.keys ≠ [] ∧ l.ko = some ⟨g, o', none⟩) ∨ (o.needs ≠ [] ∧ l.no = some ⟨g, o', none⟩) → ¬ F g) :
    Calls Tryz.prog 9 #[.pointer (some ⟨b, 0, none⟩), .agg (opC o l)] w fun e w' => e = .returned (anV (applyM n o).2) ∧ To w b F (applyM n o).1 w' := by
  by_cases h9 : o.k = 9
  · unfold applyM
    cases hm : mayM o with
    | false =>
      rw [if_neg (by decide)]
      exact apply_no h hF ho hm
    | true =>
      rw [if_pos rfl]
      obtain ⟨h1, h2, h3, h4⟩ := may_facts hm
      rw [show doM n o = raiseM n o by unfold doM; rw [h9]; rfl]
      exact apply_9 h hF ho hm h9 hps hlm hsep (fun k hk => by rw [(h4 (by omega)).1] at hk; cases hk) (by rw [(h4 (by omega)).2]; exact Nat.zero_le _)
  · exact apply_any h hF ho hps hlm hsep h9
end
theorem apply_is_all {w w1 : World} {b : Nat} {F : Nat → Prop} {n : OM} {o : OpM} {l : OpL} (h : OrIs w b F n) (c : Chg (fun _ => False) w w1) (ho : OpAt w1 o l) (hps : o.pred.size ≤ maxLen) (hlm : Lim n 1099511627776) (hsep : ∀ g o', (o.keys ≠ [] ∧ l.ko = some ⟨g, o', none⟩) ∨ (o.needs ≠ [] ∧ l.no = some ⟨g, o', none⟩) → F g → w.heap.size ≤ g) :
    Calls Tryz.prog 9 #[.pointer (some ⟨b, 0, none⟩), .agg (opC o l)] w1 fun e w' => e = .returned (anV (applyM n o).2) ∧ To w b F (applyM n o).1 w' := by
  obtain ⟨R, h⟩ := h.tight
  refine (apply_all (h.same c) (fun g hg => Nat.lt_of_lt_of_le hg.2 c.size) ho hps hlm (fun g o' e f => by have := hsep g o' e f.1; have := f.2; omega)).mono ?_
  rintro e w' ⟨rfl, hT⟩
  refine ⟨rfl, hT.is.wide (fun g hg => ?_), (c.mono (fun _ f => f.elim)).trans (hT.chg.mono fun g hg => hg.1)⟩
  rcases hg with a | a
  · exact Or.inl a.1
  · exact Or.inr (Nat.le_trans c.size a)
end Go.Proofs.YtgmmglmokkcgeaaGreat
