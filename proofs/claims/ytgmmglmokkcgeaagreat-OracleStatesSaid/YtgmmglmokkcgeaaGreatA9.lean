/- Walks: give, fence, end. -/
import Derived.Test.YtgmmglmokkcgeaaGreatA8
namespace Go.Proofs.YtgmmglmokkcgeaaGreat
set_option linter.unusedVariables false
set_option linter.unusedSimpArgs false
open Go.RowKit Mk Go.Sort
section
variable {w : World} {b : Nat} {R : Loc} {F : Nat → Prop} {n : OM} {o : OpM} {l : OpL}
set_option maxRecDepth 100000 in
set_option maxHeartbeats 8000000 in
theorem give_any (h : OrRep w b R F n) (hF : ∀ g, F g → g < w.heap.size) (ho : OpAt w o l) (hps : o.pred.size ≤ maxLen) :
    Calls Tryz.prog 76 #[.pointer (some ⟨b, 0, none⟩), .agg (opC o l)] w fun e w' => e = .returned (anV (giveM n o).2) ∧ To w b F (giveM n o).1 w' := by
  have hblt := h.lt
  have HFF := Lib.hid h
  obtain ⟨W2, HW2⟩ : ∃ W2, Hid ((w.alloc (.cells (opC o l) 28)).alloc (.cells #[.int .i64 0, .int .u64 0, .int .u64 0, .string ⟨#[]⟩, .int .u32 0, .int .u32 0, .int .u64 0, .int .u64 0] 46) = W2) := ⟨_, Lib.hid rfl⟩
  obtain ⟨ob, HOS⟩ : ∃ ob, Hid (w.heap.size = ob) := ⟨_, Lib.hid rfl⟩
  obtain ⟨ab, HAS⟩ : ∃ ab, Hid (ob + 1 = ab) := ⟨_, Lib.hid rfl⟩
  have HC2 : Hid (Chg (fun _ => False) w W2) := by rw [← HW2.out]; exact Lib.hid (((Chg.refl _ _).alloc _).alloc _)
  have HS2 : Hid (W2.heap.size = ab + 1) := by rw [← HW2.out, ← HAS.out, ← HOS.out]; exact Lib.hid (by simp)
  have HOB : Hid (W2.heap[ob]? = some (.cells (opC o l) 28)) := by rw [← HW2.out, ← HOS.out]; exact Lib.hid ((Below.heap_alloc _ _ _ (by simp)).trans (Go.heap_alloc_new w _))
  have HAB : Hid (W2.heap[ab]? = some (.cells #[.int .i64 0, .int .u64 0, .int .u64 0, .string ⟨#[]⟩, .int .u32 0, .int .u32 0, .int .u64 0, .int .u64 0] 46)) := by rw [← HW2.out, ← HAS.out, ← HOS.out]; exact Lib.hid (alloc2_new w _ _)
  have H2 := Lib.hid (h.same HC2.out)
  have hst := ho.st
  have HFAB := Lib.hid (show ∀ g, F g → g ≠ ab ∧ g ≠ ob ∧ g < ob from fun g f => by have := hF g f; have := HAS.out; have := HOS.out; omega)
  have c6 := H2.out.c6
  have k5 : W2.cell? ⟨ob, 5, none⟩ = some (.string o.pred) := cell_of HOB.out rfl
  have hl1 := (H2.out.same ((Chg.refl _ W2).drew)).lookT hps
  have hl2 := (H2.out.same (((Chg.refl _ W2).alloc (.cells #[.string ⟨#[]⟩, .int .u32 0, .int .u32 0, .int .u64 0, .int .u64 0] 41)).drew)).lookT hps
  obtain ⟨tb, HTB⟩ : ∃ tb, Hid (W2.heap.size = tb) := ⟨_, Lib.hid rfl⟩
  have htb : ab + 1 = tb := by rw [← HTB.out, HS2.out]
  have hb2 := H2.out.lt
  have hob2 : ob < W2.heap.size := by have := HS2.out; have := HAS.out; omega
  unfold giveM
  obtain ⟨tl, htl⟩ : ∃ tl, lk n.tab o.pred = tl := ⟨_, rfl⟩
  rw [htl] at hl1 hl2 ⊢
  have HPS := Lib.hid hps
  cases tl with
  | some tt0 =>
    obtain ⟨tp, tg, tt, ta, tn⟩ := tt0
    unfold tbV at hl1 hl2
    simp only [Option.getD_some, Option.isSome_some] at hl1 hl2
    have W3X : ∃ W3, Hid ((W2.alloc (.cells #[.string tp, .int .u32 (tg : Nat), .int .u32 (tt : Nat), .int .u64 (ta : Nat), .int .u64 (tn : Nat)] 41)).drew = W3) := ⟨_, Lib.hid rfl⟩
    obtain ⟨W3, HW3⟩ := W3X
    have h3 : Chg (fun _ => False) W2 W3 := by rw [← HW3.out]; exact ((Chg.refl _ _).alloc _).drew
    have hab3 := (h3.block ab (by have := HS2.out; omega) (fun f => f)).trans HAB.out
    have hob3 := (h3.block ob (by have := HS2.out; have := HAS.out; omega) (fun f => f)).trans HOB.out
    have htb3 : W3.heap[tb]? = some (.cells #[.string tp, .int .u32 (tg : Nat), .int .u32 (tt : Nat), .int .u64 (ta : Nat), .int .u64 (tn : Nat)] 41) := by rw [← HW3.out, ← HTB.out]; exact Go.heap_alloc_new _ _
    have HAB3 := Lib.hid hab3
    have HOB3 := Lib.hid hob3
    have HTB3 := Lib.hid htb3
    have H3 := Lib.hid (H2.out.same h3)
    have HC3 := Lib.hid (HC2.out.trans h3)
    have z0 : W3.cell? ⟨ab, 0, none⟩ = some (.int .i64 0) := cell_of HAB3.out rfl
    have zf0 : W3.frozen? ⟨ab, 0, none⟩ = false := frozen_of HAB3.out
    have z1 : W3.cell? ⟨ab, 1, none⟩ = some (.int .u64 0) := cell_of HAB3.out rfl
    have zf1 : W3.frozen? ⟨ab, 1, none⟩ = false := frozen_of HAB3.out
    have z2 : W3.cell? ⟨ab, 2, none⟩ = some (.int .u64 0) := cell_of HAB3.out rfl
    have zf2 : W3.frozen? ⟨ab, 2, none⟩ = false := frozen_of HAB3.out
    have z3 : W3.cell? ⟨ab, 3, none⟩ = some (.string ⟨#[]⟩) := cell_of HAB3.out rfl
    have zf3 : W3.frozen? ⟨ab, 3, none⟩ = false := frozen_of HAB3.out
    have z4 : W3.cell? ⟨ab, 4, none⟩ = some (.int .u32 0) := cell_of HAB3.out rfl
    have zf4 : W3.frozen? ⟨ab, 4, none⟩ = false := frozen_of HAB3.out
    have z5 : W3.cell? ⟨ab, 5, none⟩ = some (.int .u32 0) := cell_of HAB3.out rfl
    have zf5 : W3.frozen? ⟨ab, 5, none⟩ = false := frozen_of HAB3.out
    have z6 : W3.cell? ⟨ab, 6, none⟩ = some (.int .u64 0) := cell_of HAB3.out rfl
    have zf6 : W3.frozen? ⟨ab, 6, none⟩ = false := frozen_of HAB3.out
    have z7 : W3.cell? ⟨ab, 7, none⟩ = some (.int .u64 0) := cell_of HAB3.out rfl
    have zf7 : W3.frozen? ⟨ab, 7, none⟩ = false := frozen_of HAB3.out
    have y0 : W3.cell? ⟨tb, 0, none⟩ = some (.string tp) := cell_of HTB3.out rfl
    have y1 : W3.cell? ⟨tb, 1, none⟩ = some (.int .u32 (tg : Nat)) := cell_of HTB3.out rfl
    have y2 : W3.cell? ⟨tb, 2, none⟩ = some (.int .u32 (tt : Nat)) := cell_of HTB3.out rfl
    have y3 : W3.cell? ⟨tb, 3, none⟩ = some (.int .u64 (ta : Nat)) := cell_of HTB3.out rfl
    have y4 : W3.cell? ⟨tb, 4, none⟩ = some (.int .u64 (tn : Nat)) := cell_of HTB3.out rfl
    clear h ho htl h3 hab3 hob3 htb3 hps hF
    go_enter Tryz.func76, Tryz.ntmps76
    go_wp2_with fail
    rw [HW2.out, HOS.out, HAS.out]
    go_region
    all_goals
      rw [HW3.out, HTB.out]
      go_wp2
      obtain ⟨hh, hc⟩ := fin8 HAB3.out (.int .i64 202) (.int .u64 0) (.int .u64 0) (.string tp) (.int .u32 (tg : Nat)) (.int .u32 (tt : Nat)) (.int .u64 (ta : Nat)) (.int .u64 (tn : Nat))
      refine bodyPost_ret (results_cell_row (p := 4) (ty := 46) rfl _ _ ab 46 _ (0, 0) _ rfl hh Tryz.underlying46 rfl (by kernel_rfl)) rfl ⟨rfl, ?_⟩
      exact ⟨⟨R, (H3.out.stay hc (fun g hg e => (HFAB.out g hg).1 e)).wide (fun g => Or.inl)⟩, (HC3.out.mono (fun _ f => f.elim)).trans' hc (fun g e => Or.inr (by have := HAS.out; have := HOS.out; omega))⟩
  | none =>
    unfold tbV Tb.zero at hl1 hl2
    simp only [Option.getD_none, Option.isSome_none] at hl1 hl2
    have W3X : ∃ W3, Hid ((W2.alloc (.cells #[.string ⟨#[]⟩, .int .u32 0, .int .u32 0, .int .u64 0, .int .u64 0] 41)).drew = W3) := ⟨_, Lib.hid rfl⟩
    obtain ⟨W3, HW3⟩ := W3X
    have h3 : Chg (fun _ => False) W2 W3 := by rw [← HW3.out]; exact ((Chg.refl _ _).alloc _).drew
    have hab3 := (h3.block ab (by have := HS2.out; omega) (fun f => f)).trans HAB.out
    have hob3 := (h3.block ob (by have := HS2.out; have := HAS.out; omega) (fun f => f)).trans HOB.out
    have htb3 : W3.heap[tb]? = some (.cells #[.string ⟨#[]⟩, .int .u32 0, .int .u32 0, .int .u64 0, .int .u64 0] 41) := by rw [← HW3.out, ← HTB.out]; exact Go.heap_alloc_new _ _
    have HAB3 := Lib.hid hab3
    have HOB3 := Lib.hid hob3
    have HTB3 := Lib.hid htb3
    have H3 := Lib.hid (H2.out.same h3)
    have HC3 := Lib.hid (HC2.out.trans h3)
    have m5 : W3.cell? ⟨ob, 5, none⟩ = some (.string o.pred) := cell_of HOB3.out rfl
    have m6 : W3.cell? ⟨ob, 6, none⟩ = some (.int .u32 (o.g : Nat)) := cell_of HOB3.out rfl
    obtain ⟨nb, HNB⟩ : ∃ nb, Hid (W3.heap.size = nb) := ⟨_, Lib.hid rfl⟩
    obtain ⟨W4, HW4⟩ : ∃ W4, Hid (W3.alloc (.cells #[.string o.pred, .int .u32 (o.g : Nat), .int .u32 0, .int .u64 0, .int .u64 1] 41) = W4) := ⟨_, Lib.hid rfl⟩
    have hs3 : W3.heap.size = tb + 1 := by rw [← HW3.out, ← HTB.out]; simp
    have h4 : Chg (fun _ => False) W3 W4 := by rw [← HW4.out]; exact (Chg.refl _ _).alloc _
    have hnb4 : W4.heap[nb]? = some (.cells #[.string o.pred, .int .u32 (o.g : Nat), .int .u32 0, .int .u64 0, .int .u64 1] 41) := by rw [← HW4.out, ← HNB.out]; exact Go.heap_alloc_new _ _
    have HR4 := H3.out.same h4
    have hab4 := (h4.block ab (by omega) (fun f => f)).trans HAB3.out
    have hob4 := (h4.block ob (by have := HAS.out; omega) (fun f => f)).trans HOB3.out
    have n5 : W4.cell? ⟨ob, 5, none⟩ = some (.string o.pred) := cell_of hob4 rfl
    have n6 := HR4.c6
    have x0 : W4.cell? ⟨nb, 0, none⟩ = some (.string o.pred) := cell_of hnb4 rfl
    have x1 : W4.cell? ⟨nb, 1, none⟩ = some (.int .u32 (o.g : Nat)) := cell_of hnb4 rfl
    have x2 : W4.cell? ⟨nb, 2, none⟩ = some (.int .u32 0) := cell_of hnb4 rfl
    have x3 : W4.cell? ⟨nb, 3, none⟩ = some (.int .u64 0) := cell_of hnb4 rfl
    have x4 : W4.cell? ⟨nb, 4, none⟩ = some (.int .u64 1) := cell_of hnb4 rfl
    obtain ⟨es, ck, hup, HU⟩ := (HR4.same ((Chg.refl _ W4).drew)).upT hps ⟨o.pred, o.g, 0, 0, 1⟩
    unfold tbV at hup
    simp only [show ((0 : Nat) : Int) = 0 from rfl, show ((1 : Nat) : Int) = 1 from rfl] at hup
    obtain ⟨W5, HW5⟩ : ∃ W5, Hid (ChangeMaps.setBlock W4.drew R.t (.map es ck) = W5) := ⟨_, Lib.hid rfl⟩
    rw [HW5.out] at HU
    have hd5 : ∀ g, g ≠ R.t → W5.heap[g]? = W4.heap[g]? := fun g hg => by rw [← HW5.out]; exact heap_setBlock_ne hg
    have htw := HFF.out.fr_lt.2.2.1
    have hab5 := (hd5 ab (by have := HAS.out; have := HOS.out; omega)).trans hab4
    have hnb5 := (hd5 nb (by have := HNB.out; have := HAS.out; have := HOS.out; omega)).trans hnb4
    have HU5 := Lib.hid HU
    have HC5 : Hid (Chg F w W5) := by rw [← HW5.out]; exact Lib.hid ((((HC3.out.trans h4).drew).mono (fun _ f => f.elim)).setBlock (Or.inl HFF.out.ft) _)
    have HAB5 := Lib.hid hab5
    have z0 : W5.cell? ⟨ab, 0, none⟩ = some (.int .i64 0) := cell_of hab5 rfl
    have zf0 : W5.frozen? ⟨ab, 0, none⟩ = false := frozen_of hab5
    have z1 : W5.cell? ⟨ab, 1, none⟩ = some (.int .u64 0) := cell_of hab5 rfl
    have zf1 : W5.frozen? ⟨ab, 1, none⟩ = false := frozen_of hab5
    have z2 : W5.cell? ⟨ab, 2, none⟩ = some (.int .u64 0) := cell_of hab5 rfl
    have zf2 : W5.frozen? ⟨ab, 2, none⟩ = false := frozen_of hab5
    have z3 : W5.cell? ⟨ab, 3, none⟩ = some (.string ⟨#[]⟩) := cell_of hab5 rfl
    have zf3 : W5.frozen? ⟨ab, 3, none⟩ = false := frozen_of hab5
    have z4 : W5.cell? ⟨ab, 4, none⟩ = some (.int .u32 0) := cell_of hab5 rfl
    have zf4 : W5.frozen? ⟨ab, 4, none⟩ = false := frozen_of hab5
    have z5 : W5.cell? ⟨ab, 5, none⟩ = some (.int .u32 0) := cell_of hab5 rfl
    have zf5 : W5.frozen? ⟨ab, 5, none⟩ = false := frozen_of hab5
    have z6 : W5.cell? ⟨ab, 6, none⟩ = some (.int .u64 0) := cell_of hab5 rfl
    have zf6 : W5.frozen? ⟨ab, 6, none⟩ = false := frozen_of hab5
    have z7 : W5.cell? ⟨ab, 7, none⟩ = some (.int .u64 0) := cell_of hab5 rfl
    have zf7 : W5.frozen? ⟨ab, 7, none⟩ = false := frozen_of hab5
    have v0 : W5.cell? ⟨nb, 0, none⟩ = some (.string o.pred) := cell_of hnb5 rfl
    have v1 : W5.cell? ⟨nb, 1, none⟩ = some (.int .u32 (o.g : Nat)) := cell_of hnb5 rfl
    have v2 : W5.cell? ⟨nb, 2, none⟩ = some (.int .u32 0) := cell_of hnb5 rfl
    have v3 : W5.cell? ⟨nb, 3, none⟩ = some (.int .u64 0) := cell_of hnb5 rfl
    have v4 : W5.cell? ⟨nb, 4, none⟩ = some (.int .u64 1) := cell_of hnb5 rfl
    clear h ho htl h3 hab3 hob3 htb3 hps hF h4 hab4 hob4 hnb4 hab5 hnb5 HR4 HU hd5 hs3
    go_enter Tryz.func76, Tryz.ntmps76
    go_wp2_with fail
    rw [HW2.out, HOS.out, HAS.out]
    go_region
    all_goals
      rw [HW3.out, HTB.out]
      go_wp2_with fail
      rw [HW4.out, HNB.out]
      go_region
      rw [HW5.out]
      go_wp2
      obtain ⟨hh, hc⟩ := fin8 HAB5.out (.int .i64 0) (.int .u64 0) (.int .u64 0) (.string o.pred) (.int .u32 (o.g : Nat)) (.int .u32 0) (.int .u64 0) (.int .u64 1)
      refine bodyPost_ret (results_cell_row (p := 4) (ty := 46) rfl _ _ ab 46 _ (0, 0) _ rfl hh Tryz.underlying46 rfl (by kernel_rfl)) rfl ⟨rfl, ?_⟩
      exact ⟨⟨R, (HU5.out.stay hc (fun g hg e => (HFAB.out g hg).1 e)).wide (fun g => Or.inl)⟩, HC5.out.trans' hc (fun g e => Or.inr (by have := HAS.out; have := HOS.out; omega))⟩
end
end Go.Proofs.YtgmmglmokkcgeaaGreat
