/- Walks: abort. -/
import Derived.Test.YtgmmglmokkcgeaaGreatA7
namespace Go.Proofs.YtgmmglmokkcgeaaGreat
set_option linter.unusedVariables false
set_option linter.unusedSimpArgs false
open Go.RowKit Mk Go.Sort
section
variable {w : World} {b : Nat} {R : Loc} {F : Nat → Prop} {n : OM} {o : OpM} {l : OpL}
theorem OrRep.upD (h : OrRep w b R F n) {x : Nat} (hx : x < 18446744073709551616) (v : Nat) : ∃ es ck, (Instr.mapUpdate 31 (.map (some R.d)) (.int .u64 (x : Nat)) (.int .u64 (v : Nat))).run Tryz.prog w = .ok () (ChangeMaps.setBlock w R.d (.map es ck)) ∧ OrRep (ChangeMaps.setBlock w R.d (.map es ck)) b R F { n with dec := upd n.dec x v } := by
  obtain ⟨es, ck, h1, h2⟩ := run_update keysU Tryz.underlying31 h.dec hx (nV v)
  refine ⟨es, ck, h1, h.putD ?_⟩
  rw [nv, upd_map nV] at h2
  exact h2
theorem OrRep.upL (h : OrRep w b R F n) {x : ByteArray} (hx : x.size ≤ maxLen) (v : Nat) : ∃ es ck, (Instr.mapUpdate 32 (.map (some R.l)) (.string x) (.int .u64 (v : Nat))).run Tryz.prog w = .ok () (ChangeMaps.setBlock w R.l (.map es ck)) ∧ OrRep (ChangeMaps.setBlock w R.l (.map es ck)) b R F { n with las := upd n.las x v } := by
  obtain ⟨es, ck, h1, h2⟩ := run_update keysS Tryz.underlying32 h.las hx (nV v)
  refine ⟨es, ck, h1, h.putL ?_⟩
  rw [nv, upd_map nV] at h2
  exact h2
theorem OrRep.upT (h : OrRep w b R F n) {x : ByteArray} (hx : x.size ≤ maxLen) (v : Tb) : ∃ es ck, (Instr.mapUpdate 33 (.map (some R.t)) (.string x) (tbV v)).run Tryz.prog w = .ok () (ChangeMaps.setBlock w R.t (.map es ck)) ∧ OrRep (ChangeMaps.setBlock w R.t (.map es ck)) b R F { n with tab := upd n.tab x v } := by
  obtain ⟨es, ck, h1, h2⟩ := run_update keysS Tryz.underlying33 h.tab hx (tbV v)
  refine ⟨es, ck, h1, h.putT ?_⟩
  rw [tv, upd_map tbV] at h2
  exact h2
theorem OrRep.fr_lt (h : OrRep w b R F n) : R.d < w.heap.size ∧ R.l < w.heap.size ∧ R.t < w.heap.size ∧ R.c < w.heap.size := ⟨h.dec.lt, h.las.lt, h.tab.lt, h.com.lt⟩
theorem chg_setBlock {w : World} {F : Nat → Prop} {r : Nat} (hr : F r) (o : Obj) : Chg F w (ChangeMaps.setBlock w r o) := (Chg.refl _ _).setBlock (Or.inl hr) o
set_option maxRecDepth 100000 in
set_option maxHeartbeats 8000000 in
theorem abort_any (h : OrRep w b R F n) (hF : ∀ g, F g → g < w.heap.size) (ho : OpAt w o l) :
    Calls Tryz.prog 75 #[.pointer (some ⟨b, 0, none⟩), .agg (opC o l)] w fun e w' => e = .returned (anV (abortM n o).2) ∧ To w b F (abortM n o).1 w' := by
  have hblt := h.lt
  have HFF := Lib.hid h
  obtain ⟨W2, HW2⟩ : ∃ W2, Hid ((w.alloc (.cells (opC o l) 28)).alloc (.cells #[.int .i64 0, .int .u64 0, .int .u64 0, .string ⟨#[]⟩, .int .u32 0, .int .u32 0, .int .u64 0, .int .u64 0] 46) = W2) := ⟨_, Lib.hid rfl⟩
  obtain ⟨ob, HOS⟩ : ∃ ob, Hid (w.heap.size = ob) := ⟨_, Lib.hid rfl⟩
  obtain ⟨ab, HAS⟩ : ∃ ab, Hid (ob + 1 = ab) := ⟨_, Lib.hid rfl⟩
  have HC2 : Hid (Chg (fun _ => False) w W2) := by rw [← HW2.out]; exact Lib.hid (((Chg.refl _ _).alloc _).alloc _)
  have HS2 : Hid (W2.heap.size = ab + 1) := by rw [← HW2.out, ← HAS.out, ← HOS.out]; exact Lib.hid (by simp)
  have HOB : Hid (W2.heap[ob]? = some (.cells (opC o l) 28)) := by rw [← HW2.out, ← HOS.out]; exact Lib.hid ((Below.heap_alloc _ _ _ (by simp)).trans (Go.heap_alloc_new w _))
  have HAB : Hid (W2.heap[ab]? = some (.cells #[.int .i64 0, .int .u64 0, .int .u64 0, .string ⟨#[]⟩, .int .u32 0, .int .u32 0, .int .u64 0, .int .u64 0] 46)) := by rw [← HW2.out, ← HAS.out, ← HOS.out]; exact Lib.hid (alloc2_new w _ _)
  have H2 := Lib.hid (h.same HC2.out)
  have hst := ho.st
  have HFAB := Lib.hid (show ∀ g, F g → g ≠ ab ∧ g ≠ ob ∧ g < ob from fun g f => by have := hF g f; have := HAS.out; have := HOS.out; omega)
  have WA := Lib.hid (was_any H2.out hst)
  obtain ⟨⟨an, ov⟩, hwas⟩ : ∃ p, wasM n o.st = p := ⟨_, rfl⟩
  have hfree : ov = false → an = an0 := fun e => by have := (was_free (n := n) (o := o) (by rw [hwas]; exact e)).2.2.2; rw [hwas] at this; exact this
  have hcs := abort_cases n o
  rw [hwas] at WA hcs
  have k2 : W2.cell? ⟨ob, 2, none⟩ = some (.int .u64 (o.st : Nat)) := cell_of HOB.out rfl
  clear h ho hwas
  cases ov
  · have e := (hcs.resolve_left (fun h => by cases h.1)).2
    obtain rfl := hfree rfl
    rw [e]
    clear hcs e hfree
    unfold anV anC an0 Tb.zero at WA
    simp only [show ((0 : Nat) : Int) = 0 from rfl] at WA
    go_enter Tryz.func75, Tryz.ntmps75
    go_wp2_with fail
    rw [HW2.out, HOS.out, HAS.out]
    refine WA.out.mono ?_
    rintro e w3 ⟨rfl, h3⟩
    have h4 : Chg (fun _ => False) W2 (w3.alloc (.cells #[.int .i64 0, .int .u64 0, .int .u64 0, .string ⟨#[]⟩, .int .u32 0, .int .u32 0, .int .u64 0, .int .u64 0] 46)).drew := (h3.alloc _).drew
    have HR4 := H2.out.same h4
    have c4 := HR4.c4
    have k24 : (w3.alloc (.cells #[.int .i64 0, .int .u64 0, .int .u64 0, .string ⟨#[]⟩, .int .u32 0, .int .u32 0, .int .u64 0, .int .u64 0] 46)).drew.cell? ⟨ob, 2, none⟩ = some (.int .u64 (o.st : Nat)) := cell_of ((h4.block ob (by have := HS2.out; have := HAS.out; omega) (fun f => f)).trans HOB.out) rfl
    obtain ⟨es, ck, hup, HU⟩ := HR4.upD hst 0
    have hup' : (Instr.mapUpdate 31 (.map (some R.d)) (.int .u64 (o.st : Nat)) (.int .u64 0)).run Tryz.prog (w3.alloc (.cells #[.int .i64 0, .int .u64 0, .int .u64 0, .string ⟨#[]⟩, .int .u32 0, .int .u32 0, .int .u64 0, .int .u64 0] 46)).drew = _ := hup
    obtain ⟨W5, HW5⟩ : ∃ W5, Hid (ChangeMaps.setBlock (w3.alloc (.cells #[.int .i64 0, .int .u64 0, .int .u64 0, .string ⟨#[]⟩, .int .u32 0, .int .u32 0, .int .u64 0, .int .u64 0] 46)).drew R.d (.map es ck) = W5) := ⟨_, Lib.hid rfl⟩
    obtain ⟨cb, HCB⟩ : ∃ cb, Hid (w3.heap.size = cb) := ⟨_, Lib.hid rfl⟩
    rw [HW5.out] at HU
    have hd5 : ∀ g, g < cb + 1 → g ≠ R.d → W5.heap[g]? = (w3.alloc (.cells #[.int .i64 0, .int .u64 0, .int .u64 0, .string ⟨#[]⟩, .int .u32 0, .int .u32 0, .int .u64 0, .int .u64 0] 46)).drew.heap[g]? := fun g _ hg => by rw [← HW5.out]; exact heap_setBlock_ne hg
    have hdl := H2.out.fr_lt.1
    have hdw := HFF.out.fr_lt.1
    have hw2 := HC2.out.size
    have hs3 := h3.size
    have hs2 := HS2.out
    have hab5 : W5.heap[ab]? = some (.cells #[.int .i64 0, .int .u64 0, .int .u64 0, .string ⟨#[]⟩, .int .u32 0, .int .u32 0, .int .u64 0, .int .u64 0] 46) := (hd5 ab (by have := HCB.out; omega) (by have := HAS.out; have := HOS.out; omega)).trans ((h4.block ab (by omega) (fun f => f)).trans HAB.out)
    have hcb5 : W5.heap[cb]? = some (.cells #[.int .i64 0, .int .u64 0, .int .u64 0, .string ⟨#[]⟩, .int .u32 0, .int .u32 0, .int .u64 0, .int .u64 0] 46) := (hd5 cb (by omega) (by have := HCB.out; omega)).trans (by rw [← HCB.out]; exact Go.heap_alloc_new _ _)
    have HU5 := Lib.hid HU
    have HC5 : Hid (Chg F w W5) := by rw [← HW5.out]; exact Lib.hid (((HC2.out.trans h4).mono (fun _ f => f.elim)).setBlock (Or.inl HFF.out.fd) _)
    have HAB5 := Lib.hid hab5
    have z0 : W5.cell? ⟨ab, 0, none⟩ = some (.int .i64 0) := cell_of hab5 rfl
    have zf0 : W5.frozen? ⟨ab, 0, none⟩ = false := frozen_of hab5
    have z1 : W5.cell? ⟨ab, 1, none⟩ = some (.int .u64 0) := cell_of hab5 rfl
    have zf1 : W5.frozen? ⟨ab, 1, none⟩ = false := frozen_of hab5
    have z2 : W5.cell? ⟨ab, 2, none⟩ = some (.int .u64 0) := cell_of hab5 rfl
    have zf2 : W5.frozen? ⟨ab, 2, none⟩ = false := frozen_of hab5
    have z3 : W5.cell? ⟨ab, 3, none⟩ = some (.string ⟨#[]⟩) := cell_of hab5 rfl
    have zf3 : W5.frozen? ⟨ab, 3, none⟩ = false := frozen_of hab5
    have z4 : W5.cell? ⟨ab, 4, none⟩ = some (.int .u32 0) := cell_of hab5 rfl
    have zf4 : W5.frozen? ⟨ab, 4, none⟩ = false := frozen_of hab5
    have z5 : W5.cell? ⟨ab, 5, none⟩ = some (.int .u32 0) := cell_of hab5 rfl
    have zf5 : W5.frozen? ⟨ab, 5, none⟩ = false := frozen_of hab5
    have z6 : W5.cell? ⟨ab, 6, none⟩ = some (.int .u64 0) := cell_of hab5 rfl
    have zf6 : W5.frozen? ⟨ab, 6, none⟩ = false := frozen_of hab5
    have z7 : W5.cell? ⟨ab, 7, none⟩ = some (.int .u64 0) := cell_of hab5 rfl
    have zf7 : W5.frozen? ⟨ab, 7, none⟩ = false := frozen_of hab5
    have y0 : W5.cell? ⟨cb, 0, none⟩ = some (.int .i64 0) := cell_of hcb5 rfl
    have y1 : W5.cell? ⟨cb, 1, none⟩ = some (.int .u64 0) := cell_of hcb5 rfl
    have y2 : W5.cell? ⟨cb, 2, none⟩ = some (.int .u64 0) := cell_of hcb5 rfl
    have y3 : W5.cell? ⟨cb, 3, none⟩ = some (.string ⟨#[]⟩) := cell_of hcb5 rfl
    have y4 : W5.cell? ⟨cb, 4, none⟩ = some (.int .u32 0) := cell_of hcb5 rfl
    have y5 : W5.cell? ⟨cb, 5, none⟩ = some (.int .u32 0) := cell_of hcb5 rfl
    have y6 : W5.cell? ⟨cb, 6, none⟩ = some (.int .u64 0) := cell_of hcb5 rfl
    have y7 : W5.cell? ⟨cb, 7, none⟩ = some (.int .u64 0) := cell_of hcb5 rfl
    clear h3 h4 hab5 hcb5 WA k2 hup HU HR4 hd5 hs3
    go_wp2_with fail
    go_region
    rw [HW5.out, HCB.out]
    go_wp2
    obtain ⟨hh, hc⟩ := fin8 HAB5.out (.int .i64 0) (.int .u64 0) (.int .u64 0) (.string ⟨#[]⟩) (.int .u32 0) (.int .u32 0) (.int .u64 0) (.int .u64 0)
    refine bodyPost_ret (results_cell_row (p := 4) (ty := 46) rfl _ _ ab 46 _ (0, 0) _ rfl hh Tryz.underlying46 rfl (by kernel_rfl)) rfl ⟨?_, ?_⟩
    · simp [anV, anC, an0, Tb.zero]
    · exact ⟨⟨R, (HU5.out.stay hc (fun g hg e => (HFAB.out g hg).1 e)).wide (fun g => Or.inl)⟩, HC5.out.trans' hc (fun g e => Or.inr (by have := HAS.out; have := HOS.out; omega))⟩
  · have e := (hcs.resolve_right (fun h => by cases h.1)).2
    rw [e]
    clear hcs e hfree
    obtain ⟨ac, af, am, tp, tg, tt, ta, tn⟩ := an
    unfold anV anC at WA
    simp only at WA
    go_enter Tryz.func75, Tryz.ntmps75
    go_wp2_with fail
    rw [HW2.out, HOS.out, HAS.out]
    refine WA.out.mono ?_
    rintro e w3 ⟨rfl, h3⟩
    have hs3 := h3.size
    have hs2 := HS2.out
    have hab3 := (h3.block ab (by omega) (fun f => f)).trans HAB.out
    have ha3 : ab < w3.heap.size := by omega
    have HAB3 := Lib.hid hab3
    have H3 := Lib.hid h3
    have z0 : w3.cell? ⟨ab, 0, none⟩ = some (.int .i64 0) := cell_of hab3 rfl
    have zf0 : w3.frozen? ⟨ab, 0, none⟩ = false := frozen_of hab3
    have z1 : w3.cell? ⟨ab, 1, none⟩ = some (.int .u64 0) := cell_of hab3 rfl
    have zf1 : w3.frozen? ⟨ab, 1, none⟩ = false := frozen_of hab3
    have z2 : w3.cell? ⟨ab, 2, none⟩ = some (.int .u64 0) := cell_of hab3 rfl
    have zf2 : w3.frozen? ⟨ab, 2, none⟩ = false := frozen_of hab3
    have z3 : w3.cell? ⟨ab, 3, none⟩ = some (.string ⟨#[]⟩) := cell_of hab3 rfl
    have zf3 : w3.frozen? ⟨ab, 3, none⟩ = false := frozen_of hab3
    have z4 : w3.cell? ⟨ab, 4, none⟩ = some (.int .u32 0) := cell_of hab3 rfl
    have zf4 : w3.frozen? ⟨ab, 4, none⟩ = false := frozen_of hab3
    have z5 : w3.cell? ⟨ab, 5, none⟩ = some (.int .u32 0) := cell_of hab3 rfl
    have zf5 : w3.frozen? ⟨ab, 5, none⟩ = false := frozen_of hab3
    have z6 : w3.cell? ⟨ab, 6, none⟩ = some (.int .u64 0) := cell_of hab3 rfl
    have zf6 : w3.frozen? ⟨ab, 6, none⟩ = false := frozen_of hab3
    have z7 : w3.cell? ⟨ab, 7, none⟩ = some (.int .u64 0) := cell_of hab3 rfl
    have zf7 : w3.frozen? ⟨ab, 7, none⟩ = false := frozen_of hab3
    clear h3 hab3 WA k2
    go_wp2
    obtain ⟨hh, hc⟩ := fin8 HAB3.out (.int .i64 (ac : Nat)) (.int .u64 (af : Nat)) (.int .u64 (am : Nat)) (.string tp) (.int .u32 (tg : Nat)) (.int .u32 (tt : Nat)) (.int .u64 (ta : Nat)) (.int .u64 (tn : Nat))
    refine bodyPost_ret (results_cell_row (p := 4) (ty := 46) rfl _ _ ab 46 _ (0, 0) _ rfl ((Below.heap_alloc _ _ _ (by simp only [setCell_size]; exact ha3)).trans hh) Tryz.underlying46 rfl (by kernel_rfl)) rfl ⟨rfl, ?_⟩
    exact ⟨⟨R, (((H2.out.same H3.out).stay hc (fun g hg e => (HFAB.out g hg).1 e)).same ((Chg.refl _ _).alloc _)).wide (fun g => Or.inl)⟩, (((HC2.out.trans H3.out).mono (fun _ f => f.elim)).trans' hc (fun g e => Or.inr (by have := HAS.out; have := HOS.out; omega))).alloc _⟩
end
end Go.Proofs.YtgmmglmokkcgeaaGreat
