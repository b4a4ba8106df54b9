/- Walks: the document's Tablet. -/
import Derived.Test.YtgmmglmokkcgeaaGreatR4
namespace Go.Proofs.YtgmmglmokkcgeaaGreat
set_option linter.unusedVariables false
set_option linter.unusedSimpArgs false
set_option linter.unusedSectionVars false
open Go.RowKit Mk Go.Sort
section
variable {w w' : World} {b : Nat} {R : RV} {F G : Nat → Prop} {r : RM}
set_option maxRecDepth 100000 in
set_option maxHeartbeats 4000000 in
theorem rtablet_any (h : RRep w b R F r) (hs : Ris lessB r.t) (htp : ∀ p ∈ r.t, p.2.p = p.1) (x : ByteArray) :
    Calls Tryz.prog 68 #[.pointer (some ⟨b, 0, none⟩), .string x] w fun e w' => e = .returned (.tuple #[tbV ((lk r.t x).getD .zero), .bool (lk r.t x).isSome]) ∧ Chg (fun _ => False) w w' := by
  obtain ⟨W, HW⟩ : ∃ W, Hid (w.alloc (.cells #[.string ⟨#[]⟩, .int .u32 0, .int .u32 0, .int .u64 0, .int .u64 0] 41) = W) := ⟨_, Lib.hid rfl⟩
  obtain ⟨kb, HK⟩ : ∃ k, Hid (w.heap.size = k) := ⟨_, Lib.hid rfl⟩
  have hb : W.heap[kb]? = some (.cells #[.string ⟨#[]⟩, .int .u32 0, .int .u32 0, .int .u64 0, .int .u64 0] 41) := by rw [← HW.out, ← HK.out]; exact Go.heap_alloc_new _ _
  have HC := Lib.hid (show Chg (fun _ => False) w W by rw [← HW.out]; exact (Chg.refl _ _).alloc _)
  have HH := Lib.hid (h.same HC.out)
  have HB := Lib.hid hb
  have z0 : W.cell? ⟨kb, 0, none⟩ = some (.string ⟨#[]⟩) := cell_of hb rfl
  have z1 : W.cell? ⟨kb, 1, none⟩ = some (.int .u32 0) := cell_of hb rfl
  have z2 : W.cell? ⟨kb, 2, none⟩ = some (.int .u32 0) := cell_of hb rfl
  have z3 : W.cell? ⟨kb, 3, none⟩ = some (.int .u64 0) := cell_of hb rfl
  have z4 : W.cell? ⟨kb, 4, none⟩ = some (.int .u64 0) := cell_of hb rfl
  have y0 : W.frozen? ⟨kb, 0, none⟩ = false := frozen_of hb
  have y1 : W.frozen? ⟨kb, 1, none⟩ = false := frozen_of hb
  have y2 : W.frozen? ⟨kb, 2, none⟩ = false := frozen_of hb
  have y3 : W.frozen? ⟨kb, 3, none⟩ = false := frozen_of hb
  have y4 : W.frozen? ⟨kb, 4, none⟩ = false := frozen_of hb
  cases hl : lk r.t x with
  | none =>
    show Calls Tryz.prog 68 #[.pointer (some ⟨b, 0, none⟩), .string x] w fun e w' => e = .returned (.tuple #[.agg #[.string ⟨#[]⟩, .int .u32 0, .int .u32 0, .int .u64 0, .int .u64 0], .bool false]) ∧ Chg (fun _ => False) w w'
    have T := Lib.hid (rtab_none HH.out x hl)
    have f5 := fin5 hb (.string ⟨#[]⟩) (.int .u32 0) (.int .u32 0) (.int .u64 0) (.int .u64 0)
    have F5 := Lib.hid f5
    clear h hb hl f5
    go_enter Tryz.func68, Tryz.ntmps68
    go_wp2_with fail
    rw [HW.out, HK.out]
    refine T.out.mono ?_
    rintro e w1 ⟨rfl, rfl⟩
    go_wp2_with fail
    exact bodyPost_ret (results_cell_row_tmp (p := 4) (u := 5) (ty := 41) rfl _ _ kb 41 _ (0, 0) _ rfl F5.out.1 Tryz.underlying41 rfl (by kernel_rfl)) rfl ⟨rfl, HC.out.trans' F5.out.2 (fun g e => Or.inr (by rw [HK.out]; omega))⟩
  | some t =>
    obtain ⟨i, hi, e, hj⟩ := tab_find hs hl
    have T := Lib.hid (rtab_some HH.out x hi (by rw [e]) hj)
    obtain ⟨vo, vc, hvv⟩ := sl_shape HH.out.t
    have c2 : W.cell? ⟨b, 5, none⟩ = some (.slice vo r.t.length vc) := by rw [← hvv]; exact cell_of HH.out.box rfl
    obtain ⟨g, cap, hv, hg, d0, d1, d2, d3, d4⟩ := HH.out.t_at hi
    rw [hvv] at hv
    injection hv with hv1 hv2 hv3
    subst hv1 hv3
    rw [e] at d0 d1 d2 d3 d4
    simp only at d0 d1 d2 d3 d4
    have hp : t.p = x := htp _ (lk_mem hl)
    have f5 := fin5 hb (.string x) (.int .u32 (t.g : Nat)) (.int .u32 (t.to : Nat)) (.int .u64 (t.at_ : Nat)) (.int .u64 (t.tn : Nat))
    have F5 := Lib.hid f5
    have hp2 : tbV ((some t).getD .zero) = .agg #[.string x, .int .u32 (t.g : Nat), .int .u32 (t.to : Nat), .int .u64 (t.at_ : Nat), .int .u64 (t.tn : Nat)] := by rw [Option.getD_some]; unfold tbV; rw [hp]
    rw [hp2]
    simp only [Option.isSome_some]
    have l0 : (0 : Int) ≤ i := by omega
    have l1 : (i : Int) < r.t.length := by omega
    obtain ⟨n, hn⟩ : ∃ n, r.t.length = n := ⟨_, rfl⟩
    rw [hn] at c2 l1
    have q1 : decide ((i : Int) < 0) = false := by simp
    clear h hb hl f5 hn e hj hvv hi hp hp2 hv2 hg
    go_enter Tryz.func68, Tryz.ntmps68
    go_wp2_with fail
    rw [HW.out, HK.out]
    refine T.out.mono ?_
    rintro e w1 ⟨rfl, rfl⟩
    go_wp2_with fail
    exact bodyPost_ret (results_cell_row_tmp (p := 4) (u := 5) (ty := 41) rfl _ _ kb 41 _ (0, 0) _ rfl F5.out.1 Tryz.underlying41 rfl (by kernel_rfl)) rfl ⟨rfl, HC.out.trans' F5.out.2 (fun g e => Or.inr (by rw [HK.out]; omega))⟩
end
end Go.Proofs.YtgmmglmokkcgeaaGreat
