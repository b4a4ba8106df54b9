/- Walks: fence, end. -/
import Derived.Test.YtgmmglmokkcgeaaGreatA9
namespace Go.Proofs.YtgmmglmokkcgeaaGreat
set_option linter.unusedVariables false
set_option linter.unusedSimpArgs false
open Go.RowKit Mk Go.Sort
section
variable {w : World} {b : Nat} {R : Loc} {F : Nat → Prop} {n : OM} {o : OpM} {l : OpL}
set_option maxRecDepth 100000 in
set_option maxHeartbeats 8000000 in
theorem fence_any (h : OrRep w b R F n) (hF : ∀ g, F g → g < w.heap.size) (ho : OpAt w o l) (hps : o.pred.size ≤ maxLen) (hlm : Lim n 1099511627776) :
    Calls Tryz.prog 77 #[.pointer (some ⟨b, 0, none⟩), .agg (opC o l)] w fun e w' => e = .returned (anV (fenceM n o).2) ∧ To w b F (fenceM n o).1 w' := by
  have hblt := h.lt
  have HFF := Lib.hid h
  have hto := ho.to
  obtain ⟨W2, HW2⟩ : ∃ W2, Hid ((w.alloc (.cells (opC o l) 28)).alloc (.cells #[.int .i64 0, .int .u64 0, .int .u64 0, .string ⟨#[]⟩, .int .u32 0, .int .u32 0, .int .u64 0, .int .u64 0] 46) = W2) := ⟨_, Lib.hid rfl⟩
  obtain ⟨ob, HOS⟩ : ∃ ob, Hid (w.heap.size = ob) := ⟨_, Lib.hid rfl⟩
  obtain ⟨ab, HAS⟩ : ∃ ab, Hid (ob + 1 = ab) := ⟨_, Lib.hid rfl⟩
  have HC2 : Hid (Chg (fun _ => False) w W2) := by rw [← HW2.out]; exact Lib.hid (((Chg.refl _ _).alloc _).alloc _)
  have HS2 : Hid (W2.heap.size = ab + 1) := by rw [← HW2.out, ← HAS.out, ← HOS.out]; exact Lib.hid (by simp)
  have HOB : Hid (W2.heap[ob]? = some (.cells (opC o l) 28)) := by rw [← HW2.out, ← HOS.out]; exact Lib.hid ((Below.heap_alloc _ _ _ (by simp)).trans (Go.heap_alloc_new w _))
  have HAB : Hid (W2.heap[ab]? = some (.cells #[.int .i64 0, .int .u64 0, .int .u64 0, .string ⟨#[]⟩, .int .u32 0, .int .u32 0, .int .u64 0, .int .u64 0] 46)) := by rw [← HW2.out, ← HAS.out, ← HOS.out]; exact Lib.hid (alloc2_new w _ _)
  have H2 := Lib.hid (h.same HC2.out)
  have hst := ho.st
  have HFAB := Lib.hid (show ∀ g, F g → g ≠ ab ∧ g ≠ ob ∧ g < ob from fun g f => by have := hF g f; have := HAS.out; have := HOS.out; omega)
  have c6 := H2.out.c6
  have k5 : W2.cell? ⟨ob, 5, none⟩ = some (.string o.pred) := cell_of HOB.out rfl
  have hl1 := (H2.out.same ((Chg.refl _ W2).drew)).lookT hps
  have hl2 := (H2.out.same (((Chg.refl _ W2).alloc (.cells #[.string ⟨#[]⟩, .int .u32 0, .int .u32 0, .int .u64 0, .int .u64 0] 41)).drew)).lookT hps
  obtain ⟨tb, HTB⟩ : ∃ tb, Hid (W2.heap.size = tb) := ⟨_, Lib.hid rfl⟩
  have htb : ab + 1 = tb := by rw [← HTB.out, HS2.out]
  have hb2 := H2.out.lt
  have hob2 : ob < W2.heap.size := by have := HS2.out; have := HAS.out; omega
  unfold fenceM
  obtain ⟨tl, htl⟩ : ∃ tl, lk n.tab o.pred = tl := ⟨_, rfl⟩
  rw [htl] at hl1 hl2 ⊢
  have HPS := Lib.hid hps
  cases tl with
  | none =>
    unfold tbV Tb.zero at hl1 hl2
    simp only [Option.getD_none, Option.isSome_none] at hl1 hl2
    have W3X : ∃ W3, Hid ((W2.alloc (.cells #[.string ⟨#[]⟩, .int .u32 0, .int .u32 0, .int .u64 0, .int .u64 0] 41)).drew = W3) := ⟨_, Lib.hid rfl⟩
    obtain ⟨W3, HW3⟩ := W3X
    have h3 : Chg (fun _ => False) W2 W3 := by rw [← HW3.out]; exact ((Chg.refl _ _).alloc _).drew
    have hab3 := (h3.block ab (by have := HS2.out; omega) (fun f => f)).trans HAB.out
    have hob3 := (h3.block ob (by have := HS2.out; have := HAS.out; omega) (fun f => f)).trans HOB.out
    have htb3 : W3.heap[tb]? = some (.cells #[.string ⟨#[]⟩, .int .u32 0, .int .u32 0, .int .u64 0, .int .u64 0] 41) := by rw [← HW3.out, ← HTB.out]; exact Go.heap_alloc_new _ _
    have HAB3 := Lib.hid hab3
    have HOB3 := Lib.hid hob3
    have HTB3 := Lib.hid htb3
    have H3 := Lib.hid (H2.out.same h3)
    have HC3 := Lib.hid (HC2.out.trans h3)
    have z0 : W3.cell? ⟨ab, 0, none⟩ = some (.int .i64 0) := cell_of HAB3.out rfl
    have zf0 : W3.frozen? ⟨ab, 0, none⟩ = false := frozen_of HAB3.out
    have z1 : W3.cell? ⟨ab, 1, none⟩ = some (.int .u64 0) := cell_of HAB3.out rfl
    have zf1 : W3.frozen? ⟨ab, 1, none⟩ = false := frozen_of HAB3.out
    have z2 : W3.cell? ⟨ab, 2, none⟩ = some (.int .u64 0) := cell_of HAB3.out rfl
    have zf2 : W3.frozen? ⟨ab, 2, none⟩ = false := frozen_of HAB3.out
    have z3 : W3.cell? ⟨ab, 3, none⟩ = some (.string ⟨#[]⟩) := cell_of HAB3.out rfl
    have zf3 : W3.frozen? ⟨ab, 3, none⟩ = false := frozen_of HAB3.out
    have z4 : W3.cell? ⟨ab, 4, none⟩ = some (.int .u32 0) := cell_of HAB3.out rfl
    have zf4 : W3.frozen? ⟨ab, 4, none⟩ = false := frozen_of HAB3.out
    have z5 : W3.cell? ⟨ab, 5, none⟩ = some (.int .u32 0) := cell_of HAB3.out rfl
    have zf5 : W3.frozen? ⟨ab, 5, none⟩ = false := frozen_of HAB3.out
    have z6 : W3.cell? ⟨ab, 6, none⟩ = some (.int .u64 0) := cell_of HAB3.out rfl
    have zf6 : W3.frozen? ⟨ab, 6, none⟩ = false := frozen_of HAB3.out
    have z7 : W3.cell? ⟨ab, 7, none⟩ = some (.int .u64 0) := cell_of HAB3.out rfl
    have zf7 : W3.frozen? ⟨ab, 7, none⟩ = false := frozen_of HAB3.out
    have y0 : W3.cell? ⟨tb, 0, none⟩ = some (.string ⟨#[]⟩) := cell_of HTB3.out rfl
    have y1 : W3.cell? ⟨tb, 1, none⟩ = some (.int .u32 0) := cell_of HTB3.out rfl
    have y2 : W3.cell? ⟨tb, 2, none⟩ = some (.int .u32 0) := cell_of HTB3.out rfl
    have y3 : W3.cell? ⟨tb, 3, none⟩ = some (.int .u64 0) := cell_of HTB3.out rfl
    have y4 : W3.cell? ⟨tb, 4, none⟩ = some (.int .u64 0) := cell_of HTB3.out rfl
    clear h ho htl h3 hab3 hob3 htb3 hps hF
    go_enter Tryz.func77, Tryz.ntmps77
    go_wp2_with fail
    rw [HW2.out, HOS.out, HAS.out]
    go_region
    all_goals
      rw [HW3.out, HTB.out]
      go_wp2
      obtain ⟨hh, hc⟩ := fin8 HAB3.out (.int .i64 5) (.int .u64 0) (.int .u64 0) (.string ⟨#[]⟩) (.int .u32 0) (.int .u32 0) (.int .u64 0) (.int .u64 0)
      refine bodyPost_ret (results_cell_row (p := 4) (ty := 46) rfl _ _ ab 46 _ (0, 0) _ rfl hh Tryz.underlying46 rfl (by kernel_rfl)) rfl ⟨rfl, ?_⟩
      exact ⟨⟨R, (H3.out.stay hc (fun g hg e => (HFAB.out g hg).1 e)).wide (fun g => Or.inl)⟩, (HC3.out.mono (fun _ f => f.elim)).trans' hc (fun g e => Or.inr (by have := HAS.out; have := HOS.out; omega))⟩
  | some tt0 =>
    obtain ⟨tp, tg, tt, ta, tn⟩ := tt0
    have htn := hlm.turn _ (lk_mem htl)
    have htm := hlm.time
    simp only at htn
    unfold tbV at hl1 hl2
    simp only [Option.getD_some, Option.isSome_some] at hl1 hl2
    have W3X : ∃ W3, Hid ((W2.alloc (.cells #[.string tp, .int .u32 (tg : Nat), .int .u32 (tt : Nat), .int .u64 (ta : Nat), .int .u64 (tn : Nat)] 41)).drew = W3) := ⟨_, Lib.hid rfl⟩
    obtain ⟨W3, HW3⟩ := W3X
    have h3 : Chg (fun _ => False) W2 W3 := by rw [← HW3.out]; exact ((Chg.refl _ _).alloc _).drew
    have hab3 := (h3.block ab (by have := HS2.out; omega) (fun f => f)).trans HAB.out
    have hob3 := (h3.block ob (by have := HS2.out; have := HAS.out; omega) (fun f => f)).trans HOB.out
    have htb3 : W3.heap[tb]? = some (.cells #[.string tp, .int .u32 (tg : Nat), .int .u32 (tt : Nat), .int .u64 (ta : Nat), .int .u64 (tn : Nat)] 41) := by rw [← HW3.out, ← HTB.out]; exact Go.heap_alloc_new _ _
    have HAB3 := Lib.hid hab3
    have HOB3 := Lib.hid hob3
    have HTB3 := Lib.hid htb3
    have H3 := Lib.hid (H2.out.same h3)
    have HC3 := Lib.hid (HC2.out.trans h3)
    have z0 : W3.cell? ⟨ab, 0, none⟩ = some (.int .i64 0) := cell_of HAB3.out rfl
    have zf0 : W3.frozen? ⟨ab, 0, none⟩ = false := frozen_of HAB3.out
    have z1 : W3.cell? ⟨ab, 1, none⟩ = some (.int .u64 0) := cell_of HAB3.out rfl
    have zf1 : W3.frozen? ⟨ab, 1, none⟩ = false := frozen_of HAB3.out
    have z2 : W3.cell? ⟨ab, 2, none⟩ = some (.int .u64 0) := cell_of HAB3.out rfl
    have zf2 : W3.frozen? ⟨ab, 2, none⟩ = false := frozen_of HAB3.out
    have z3 : W3.cell? ⟨ab, 3, none⟩ = some (.string ⟨#[]⟩) := cell_of HAB3.out rfl
    have zf3 : W3.frozen? ⟨ab, 3, none⟩ = false := frozen_of HAB3.out
    have z4 : W3.cell? ⟨ab, 4, none⟩ = some (.int .u32 0) := cell_of HAB3.out rfl
    have zf4 : W3.frozen? ⟨ab, 4, none⟩ = false := frozen_of HAB3.out
    have z5 : W3.cell? ⟨ab, 5, none⟩ = some (.int .u32 0) := cell_of HAB3.out rfl
    have zf5 : W3.frozen? ⟨ab, 5, none⟩ = false := frozen_of HAB3.out
    have z6 : W3.cell? ⟨ab, 6, none⟩ = some (.int .u64 0) := cell_of HAB3.out rfl
    have zf6 : W3.frozen? ⟨ab, 6, none⟩ = false := frozen_of HAB3.out
    have z7 : W3.cell? ⟨ab, 7, none⟩ = some (.int .u64 0) := cell_of HAB3.out rfl
    have zf7 : W3.frozen? ⟨ab, 7, none⟩ = false := frozen_of HAB3.out
    have y0 : W3.cell? ⟨tb, 0, none⟩ = some (.string tp) := cell_of HTB3.out rfl
    have yf0 : W3.frozen? ⟨tb, 0, none⟩ = false := frozen_of HTB3.out
    have y1 : W3.cell? ⟨tb, 1, none⟩ = some (.int .u32 (tg : Nat)) := cell_of HTB3.out rfl
    have yf1 : W3.frozen? ⟨tb, 1, none⟩ = false := frozen_of HTB3.out
    have y2 : W3.cell? ⟨tb, 2, none⟩ = some (.int .u32 (tt : Nat)) := cell_of HTB3.out rfl
    have yf2 : W3.frozen? ⟨tb, 2, none⟩ = false := frozen_of HTB3.out
    have y3 : W3.cell? ⟨tb, 3, none⟩ = some (.int .u64 (ta : Nat)) := cell_of HTB3.out rfl
    have yf3 : W3.frozen? ⟨tb, 3, none⟩ = false := frozen_of HTB3.out
    have y4 : W3.cell? ⟨tb, 4, none⟩ = some (.int .u64 (tn : Nat)) := cell_of HTB3.out rfl
    have yf4 : W3.frozen? ⟨tb, 4, none⟩ = false := frozen_of HTB3.out
    have k7 : W3.cell? ⟨ob, 7, none⟩ = some (.int .u32 (o.to : Nat)) := cell_of HOB3.out rfl
    simp only
    by_cases e1 : tt = 0
    · have d1 : decide ((tt : Int) = 0) = true := decide_eq_true (by omega)
      have d1' : ((tt : Int) != 0) = false := by simp; omega
      rw [if_neg (by simpa using e1)]
      by_cases e2 : tg = o.to
      · have d2 : decide ((tg : Int) = (o.to : Int)) = true := decide_eq_true (by omega)
        have d2' : ((tg : Int) == (o.to : Int)) = true := beq_iff_eq.2 (by omega)
        rw [if_pos e2]
        clear h ho htl h3 hab3 hob3 htb3 hps hF e1 e2
        go_enter Tryz.func77, Tryz.ntmps77
        go_wp2_with fail
        rw [HW2.out, HOS.out, HAS.out]
        go_region
        all_goals
          rw [HW3.out, HTB.out]
          go_wp2
          obtain ⟨hh, hc⟩ := fin8 HAB3.out (.int .i64 2) (.int .u64 0) (.int .u64 0) (.string tp) (.int .u32 (tg : Nat)) (.int .u32 (tt : Nat)) (.int .u64 (ta : Nat)) (.int .u64 (tn : Nat))
          refine bodyPost_ret (results_cell_row (p := 4) (ty := 46) rfl _ _ ab 46 _ (0, 0) _ rfl hh Tryz.underlying46 rfl (by kernel_rfl)) rfl ⟨rfl, ?_⟩
          exact ⟨⟨R, (H3.out.stay hc (fun g hg e => (HFAB.out g hg).1 e)).wide (fun g => Or.inl)⟩, (HC3.out.mono (fun _ f => f.elim)).trans' hc (fun g e => Or.inr (by have := HAS.out; have := HOS.out; omega))⟩
      · have d2 : decide ((tg : Int) = (o.to : Int)) = false := decide_eq_false (by omega)
        have d2' : ((tg : Int) == (o.to : Int)) = false := beq_eq_false_iff_ne.2 (by omega)
        rw [if_neg e2]
        have b1 := H3.out.c1
        have b1f := H3.out.fr 1
        have hs3 : W3.heap.size = tb + 1 := by rw [← HW3.out, ← HTB.out]; simp
        have htw := HFF.out.fr_lt.2.2.1
        have hob := HOS.out
        have hab := HAS.out
        obtain ⟨W4, HW4⟩ : ∃ W4, Hid (((((W3.setCell ⟨b, 1, none⟩ (.int .u64 ((n.time : Int) + 1))).setCell ⟨tb, 2, none⟩ (.int .u32 (o.to : Nat))).setCell ⟨tb, 3, none⟩ (.int .u64 ((n.time : Int) + 1))).setCell ⟨tb, 4, none⟩ (.int .u64 ((tn : Int) + 1))).drew = W4) := ⟨_, Lib.hid rfl⟩
        have HB1 := H3.out.setBox (i := 1) (v := .int .u64 ((n.time : Int) + 1)) (n' := { n with time := n.time + 1 }) (by simp [stC]) rfl rfl rfl rfl
        have htb4 : W4.heap[tb]? = some (.cells #[.string tp, .int .u32 (tg : Nat), .int .u32 (o.to : Nat), .int .u64 ((n.time : Int) + 1), .int .u64 ((tn : Int) + 1)] 41) := by
          rw [← HW4.out]
          have t0 : (W3.setCell ⟨b, 1, none⟩ (.int .u64 ((n.time : Int) + 1))).heap[tb]? = some (.cells #[.string tp, .int .u32 (tg : Nat), .int .u32 (tt : Nat), .int .u64 (ta : Nat), .int .u64 (tn : Nat)] 41) := (Below.heap_setCell W3 ⟨b, 1, none⟩ _ tb (by show tb ≠ b; omega)).trans HTB3.out
          have t1 := Mk.heap_setCell_same t0 (i := 2) (v := .int .u32 (o.to : Nat))
          have t2 := Mk.heap_setCell_same t1 (i := 3) (v := .int .u64 ((n.time : Int) + 1))
          have t3 := Mk.heap_setCell_same t2 (i := 4) (v := .int .u64 ((tn : Int) + 1))
          exact t3
        have c4 : Chg (fun g => g = tb) (W3.setCell ⟨b, 1, none⟩ (.int .u64 ((n.time : Int) + 1))) W4 := by rw [← HW4.out]; exact ((((Chg.refl (fun g => g = tb) _).setCell (a := ⟨tb, 2, none⟩) (Or.inl rfl) _).setCell (a := ⟨tb, 3, none⟩) (Or.inl rfl) _).setCell (a := ⟨tb, 4, none⟩) (Or.inl rfl) _).drew
        have HR4 := HB1.stay c4 (fun g hg e => by have := (HFAB.out g hg).2.2; omega)
        have hk4 : ∀ g, g < tb → g ≠ b → W4.heap[g]? = W3.heap[g]? := fun g hg hb => (c4.block g (by simp only [setCell_size]; omega) (by omega)).trans (Below.heap_setCell W3 ⟨b, 1, none⟩ _ g hb)
        have hab4 := (hk4 ab (by omega) (by omega)).trans HAB3.out
        have hob4 := (hk4 ob (by omega) (by omega)).trans HOB3.out
        have hc4 : Chg F w W4 := ((HC3.out.mono (fun _ f => f.elim)).setCell (a := ⟨b, 1, none⟩) (Or.inl HFF.out.fb) _).trans' c4 (fun g e => Or.inr (by omega))
        have n5 : W4.cell? ⟨ob, 5, none⟩ = some (.string o.pred) := cell_of hob4 rfl
        have n6 := HR4.c6
        have x0 : W4.cell? ⟨tb, 0, none⟩ = some (.string tp) := cell_of htb4 rfl
        have x1 : W4.cell? ⟨tb, 1, none⟩ = some (.int .u32 (tg : Nat)) := cell_of htb4 rfl
        have x2 : W4.cell? ⟨tb, 2, none⟩ = some (.int .u32 (o.to : Nat)) := cell_of htb4 rfl
        have x3 : W4.cell? ⟨tb, 3, none⟩ = some (.int .u64 ((n.time : Int) + 1)) := cell_of htb4 rfl
        have x4 : W4.cell? ⟨tb, 4, none⟩ = some (.int .u64 ((tn : Int) + 1)) := cell_of htb4 rfl
        obtain ⟨es, ck, hup, HU⟩ := (HR4.same ((Chg.refl _ W4).drew)).upT HPS.out ⟨tp, tg, o.to, n.time + 1, tn + 1⟩
        unfold tbV at hup
        simp only at hup
        have hup' : (Instr.mapUpdate 33 (.map (some R.t)) (.string o.pred) (.agg #[.string tp, .int .u32 (tg : Nat), .int .u32 (o.to : Nat), .int .u64 ((n.time : Int) + 1), .int .u64 ((tn : Int) + 1)])).run Tryz.prog W4.drew = _ := hup
        obtain ⟨W5, HW5⟩ : ∃ W5, Hid (ChangeMaps.setBlock W4.drew R.t (.map es ck) = W5) := ⟨_, Lib.hid rfl⟩
        rw [HW5.out] at HU hup'
        have hd5 : ∀ g, g ≠ R.t → W5.heap[g]? = W4.heap[g]? := fun g hg => by rw [← HW5.out]; exact heap_setBlock_ne hg
        have hab5 := (hd5 ab (by omega)).trans hab4
        have htb5 := (hd5 tb (by omega)).trans htb4
        have HU5 := Lib.hid HU
        have HC5 : Hid (Chg F w W5) := by rw [← HW5.out]; exact Lib.hid (hc4.drew.setBlock (Or.inl HFF.out.ft) _)
        have HAB5 := Lib.hid hab5
        have u0 : W5.cell? ⟨ab, 0, none⟩ = some (.int .i64 0) := cell_of hab5 rfl
        have uf0 : W5.frozen? ⟨ab, 0, none⟩ = false := frozen_of hab5
        have u1 : W5.cell? ⟨ab, 1, none⟩ = some (.int .u64 0) := cell_of hab5 rfl
        have uf1 : W5.frozen? ⟨ab, 1, none⟩ = false := frozen_of hab5
        have u2 : W5.cell? ⟨ab, 2, none⟩ = some (.int .u64 0) := cell_of hab5 rfl
        have uf2 : W5.frozen? ⟨ab, 2, none⟩ = false := frozen_of hab5
        have u3 : W5.cell? ⟨ab, 3, none⟩ = some (.string ⟨#[]⟩) := cell_of hab5 rfl
        have uf3 : W5.frozen? ⟨ab, 3, none⟩ = false := frozen_of hab5
        have u4 : W5.cell? ⟨ab, 4, none⟩ = some (.int .u32 0) := cell_of hab5 rfl
        have uf4 : W5.frozen? ⟨ab, 4, none⟩ = false := frozen_of hab5
        have u5 : W5.cell? ⟨ab, 5, none⟩ = some (.int .u32 0) := cell_of hab5 rfl
        have uf5 : W5.frozen? ⟨ab, 5, none⟩ = false := frozen_of hab5
        have u6 : W5.cell? ⟨ab, 6, none⟩ = some (.int .u64 0) := cell_of hab5 rfl
        have uf6 : W5.frozen? ⟨ab, 6, none⟩ = false := frozen_of hab5
        have u7 : W5.cell? ⟨ab, 7, none⟩ = some (.int .u64 0) := cell_of hab5 rfl
        have uf7 : W5.frozen? ⟨ab, 7, none⟩ = false := frozen_of hab5
        have v0 : W5.cell? ⟨tb, 0, none⟩ = some (.string tp) := cell_of htb5 rfl
        have v1 : W5.cell? ⟨tb, 1, none⟩ = some (.int .u32 (tg : Nat)) := cell_of htb5 rfl
        have v2 : W5.cell? ⟨tb, 2, none⟩ = some (.int .u32 (o.to : Nat)) := cell_of htb5 rfl
        have v3 : W5.cell? ⟨tb, 3, none⟩ = some (.int .u64 ((n.time : Int) + 1)) := cell_of htb5 rfl
        have v4 : W5.cell? ⟨tb, 4, none⟩ = some (.int .u64 ((tn : Int) + 1)) := cell_of htb5 rfl
        rw [← HW5.out] at hup'
        clear c4 HB1 HR4 hk4 hab4 hob4 hc4 hup HU hd5 hab5 htb5 htb4 hs3 htw hob hab
        clear h ho htl h3 hab3 hob3 htb3 hps hF e1 e2
        go_enter Tryz.func77, Tryz.ntmps77
        go_wp2_with fail
        rw [HW2.out, HOS.out, HAS.out]
        go_region
        all_goals
          rw [HW3.out, HTB.out]
          go_wp2_with fail
          go_region
          rw [HW4.out]
          go_wp2_with fail
          go_region
          rw [HW5.out]
          go_wp2
          obtain ⟨hh, hc⟩ := fin8 HAB5.out (.int .i64 0) (.int .u64 0) (.int .u64 0) (.string tp) (.int .u32 (tg : Nat)) (.int .u32 (o.to : Nat)) (.int .u64 ((n.time : Int) + 1)) (.int .u64 ((tn : Int) + 1))
          refine bodyPost_ret (results_cell_row (p := 4) (ty := 46) rfl _ _ ab 46 _ (0, 0) _ rfl hh Tryz.underlying46 rfl (by kernel_rfl)) rfl ⟨rfl, ?_⟩
          exact ⟨⟨R, (HU5.out.stay hc (fun g hg e => (HFAB.out g hg).1 e)).wide (fun g => Or.inl)⟩, HC5.out.trans' hc (fun g e => Or.inr (by have := HAS.out; have := HOS.out; omega))⟩
    · have d1 : decide ((tt : Int) = 0) = false := decide_eq_false (by omega)
      have d1' : ((tt : Int) != 0) = true := by simp; omega
      rw [if_pos (by simpa using e1)]
      clear h ho htl h3 hab3 hob3 htb3 hps hF e1
      go_enter Tryz.func77, Tryz.ntmps77
      go_wp2_with fail
      rw [HW2.out, HOS.out, HAS.out]
      go_region
      all_goals
        rw [HW3.out, HTB.out]
        go_wp2
        obtain ⟨hh, hc⟩ := fin8 HAB3.out (.int .i64 3) (.int .u64 0) (.int .u64 0) (.string tp) (.int .u32 (tg : Nat)) (.int .u32 (tt : Nat)) (.int .u64 (ta : Nat)) (.int .u64 (tn : Nat))
        refine bodyPost_ret (results_cell_row (p := 4) (ty := 46) rfl _ _ ab 46 _ (0, 0) _ rfl hh Tryz.underlying46 rfl (by kernel_rfl)) rfl ⟨rfl, ?_⟩
        exact ⟨⟨R, (H3.out.stay hc (fun g hg e => (HFAB.out g hg).1 e)).wide (fun g => Or.inl)⟩, (HC3.out.mono (fun _ f => f.elim)).trans' hc (fun g e => Or.inr (by have := HAS.out; have := HOS.out; omega))⟩
set_option maxRecDepth 100000 in
set_option maxHeartbeats 8000000 in
theorem end_any (h : OrRep w b R F n) (hF : ∀ g, F g → g < w.heap.size) (ho : OpAt w o l) (hps : o.pred.size ≤ maxLen) (hlm : Lim n 1099511627776) :
    Calls Tryz.prog 78 #[.pointer (some ⟨b, 0, none⟩), .agg (opC o l)] w fun e w' => e = .returned (anV (endM n o).2) ∧ To w b F (endM n o).1 w' := by
  have hblt := h.lt
  have HFF := Lib.hid h
  have hto := ho.to
  obtain ⟨W2, HW2⟩ : ∃ W2, Hid ((w.alloc (.cells (opC o l) 28)).alloc (.cells #[.int .i64 0, .int .u64 0, .int .u64 0, .string ⟨#[]⟩, .int .u32 0, .int .u32 0, .int .u64 0, .int .u64 0] 46) = W2) := ⟨_, Lib.hid rfl⟩
  obtain ⟨ob, HOS⟩ : ∃ ob, Hid (w.heap.size = ob) := ⟨_, Lib.hid rfl⟩
  obtain ⟨ab, HAS⟩ : ∃ ab, Hid (ob + 1 = ab) := ⟨_, Lib.hid rfl⟩
  have HC2 : Hid (Chg (fun _ => False) w W2) := by rw [← HW2.out]; exact Lib.hid (((Chg.refl _ _).alloc _).alloc _)
  have HS2 : Hid (W2.heap.size = ab + 1) := by rw [← HW2.out, ← HAS.out, ← HOS.out]; exact Lib.hid (by simp)
  have HOB : Hid (W2.heap[ob]? = some (.cells (opC o l) 28)) := by rw [← HW2.out, ← HOS.out]; exact Lib.hid ((Below.heap_alloc _ _ _ (by simp)).trans (Go.heap_alloc_new w _))
  have HAB : Hid (W2.heap[ab]? = some (.cells #[.int .i64 0, .int .u64 0, .int .u64 0, .string ⟨#[]⟩, .int .u32 0, .int .u32 0, .int .u64 0, .int .u64 0] 46)) := by rw [← HW2.out, ← HAS.out, ← HOS.out]; exact Lib.hid (alloc2_new w _ _)
  have H2 := Lib.hid (h.same HC2.out)
  have hst := ho.st
  have HFAB := Lib.hid (show ∀ g, F g → g ≠ ab ∧ g ≠ ob ∧ g < ob from fun g f => by have := hF g f; have := HAS.out; have := HOS.out; omega)
  have c6 := H2.out.c6
  have k5 : W2.cell? ⟨ob, 5, none⟩ = some (.string o.pred) := cell_of HOB.out rfl
  have hl1 := (H2.out.same ((Chg.refl _ W2).drew)).lookT hps
  have hl2 := (H2.out.same (((Chg.refl _ W2).alloc (.cells #[.string ⟨#[]⟩, .int .u32 0, .int .u32 0, .int .u64 0, .int .u64 0] 41)).drew)).lookT hps
  obtain ⟨tb, HTB⟩ : ∃ tb, Hid (W2.heap.size = tb) := ⟨_, Lib.hid rfl⟩
  have htb : ab + 1 = tb := by rw [← HTB.out, HS2.out]
  have hb2 := H2.out.lt
  have hob2 : ob < W2.heap.size := by have := HS2.out; have := HAS.out; omega
  unfold endM
  obtain ⟨tl, htl⟩ : ∃ tl, lk n.tab o.pred = tl := ⟨_, rfl⟩
  rw [htl] at hl1 hl2 ⊢
  have HPS := Lib.hid hps
  cases tl with
  | none =>
    unfold tbV Tb.zero at hl1 hl2
    simp only [Option.getD_none, Option.isSome_none] at hl1 hl2
    have W3X : ∃ W3, Hid ((W2.alloc (.cells #[.string ⟨#[]⟩, .int .u32 0, .int .u32 0, .int .u64 0, .int .u64 0] 41)).drew = W3) := ⟨_, Lib.hid rfl⟩
    obtain ⟨W3, HW3⟩ := W3X
    have h3 : Chg (fun _ => False) W2 W3 := by rw [← HW3.out]; exact ((Chg.refl _ _).alloc _).drew
    have hab3 := (h3.block ab (by have := HS2.out; omega) (fun f => f)).trans HAB.out
    have hob3 := (h3.block ob (by have := HS2.out; have := HAS.out; omega) (fun f => f)).trans HOB.out
    have htb3 : W3.heap[tb]? = some (.cells #[.string ⟨#[]⟩, .int .u32 0, .int .u32 0, .int .u64 0, .int .u64 0] 41) := by rw [← HW3.out, ← HTB.out]; exact Go.heap_alloc_new _ _
    have HAB3 := Lib.hid hab3
    have HOB3 := Lib.hid hob3
    have HTB3 := Lib.hid htb3
    have H3 := Lib.hid (H2.out.same h3)
    have HC3 := Lib.hid (HC2.out.trans h3)
    have z0 : W3.cell? ⟨ab, 0, none⟩ = some (.int .i64 0) := cell_of HAB3.out rfl
    have zf0 : W3.frozen? ⟨ab, 0, none⟩ = false := frozen_of HAB3.out
    have z1 : W3.cell? ⟨ab, 1, none⟩ = some (.int .u64 0) := cell_of HAB3.out rfl
    have zf1 : W3.frozen? ⟨ab, 1, none⟩ = false := frozen_of HAB3.out
    have z2 : W3.cell? ⟨ab, 2, none⟩ = some (.int .u64 0) := cell_of HAB3.out rfl
    have zf2 : W3.frozen? ⟨ab, 2, none⟩ = false := frozen_of HAB3.out
    have z3 : W3.cell? ⟨ab, 3, none⟩ = some (.string ⟨#[]⟩) := cell_of HAB3.out rfl
    have zf3 : W3.frozen? ⟨ab, 3, none⟩ = false := frozen_of HAB3.out
    have z4 : W3.cell? ⟨ab, 4, none⟩ = some (.int .u32 0) := cell_of HAB3.out rfl
    have zf4 : W3.frozen? ⟨ab, 4, none⟩ = false := frozen_of HAB3.out
    have z5 : W3.cell? ⟨ab, 5, none⟩ = some (.int .u32 0) := cell_of HAB3.out rfl
    have zf5 : W3.frozen? ⟨ab, 5, none⟩ = false := frozen_of HAB3.out
    have z6 : W3.cell? ⟨ab, 6, none⟩ = some (.int .u64 0) := cell_of HAB3.out rfl
    have zf6 : W3.frozen? ⟨ab, 6, none⟩ = false := frozen_of HAB3.out
    have z7 : W3.cell? ⟨ab, 7, none⟩ = some (.int .u64 0) := cell_of HAB3.out rfl
    have zf7 : W3.frozen? ⟨ab, 7, none⟩ = false := frozen_of HAB3.out
    have y0 : W3.cell? ⟨tb, 0, none⟩ = some (.string ⟨#[]⟩) := cell_of HTB3.out rfl
    have y1 : W3.cell? ⟨tb, 1, none⟩ = some (.int .u32 0) := cell_of HTB3.out rfl
    have y2 : W3.cell? ⟨tb, 2, none⟩ = some (.int .u32 0) := cell_of HTB3.out rfl
    have y3 : W3.cell? ⟨tb, 3, none⟩ = some (.int .u64 0) := cell_of HTB3.out rfl
    have y4 : W3.cell? ⟨tb, 4, none⟩ = some (.int .u64 0) := cell_of HTB3.out rfl
    clear h ho htl h3 hab3 hob3 htb3 hps hF
    go_enter Tryz.func78, Tryz.ntmps78
    go_wp2_with fail
    rw [HW2.out, HOS.out, HAS.out]
    go_region
    all_goals
      rw [HW3.out, HTB.out]
      go_wp2
      obtain ⟨hh, hc⟩ := fin8 HAB3.out (.int .i64 5) (.int .u64 0) (.int .u64 0) (.string ⟨#[]⟩) (.int .u32 0) (.int .u32 0) (.int .u64 0) (.int .u64 0)
      refine bodyPost_ret (results_cell_row (p := 4) (ty := 46) rfl _ _ ab 46 _ (0, 0) _ rfl hh Tryz.underlying46 rfl (by kernel_rfl)) rfl ⟨rfl, ?_⟩
      exact ⟨⟨R, (H3.out.stay hc (fun g hg e => (HFAB.out g hg).1 e)).wide (fun g => Or.inl)⟩, (HC3.out.mono (fun _ f => f.elim)).trans' hc (fun g e => Or.inr (by have := HAS.out; have := HOS.out; omega))⟩
  | some tt0 =>
    obtain ⟨tp, tg, tt, ta, tn⟩ := tt0
    have htn := hlm.turn _ (lk_mem htl)
    simp only at htn
    unfold tbV at hl1 hl2
    simp only [Option.getD_some, Option.isSome_some] at hl1 hl2
    have W3X : ∃ W3, Hid ((W2.alloc (.cells #[.string tp, .int .u32 (tg : Nat), .int .u32 (tt : Nat), .int .u64 (ta : Nat), .int .u64 (tn : Nat)] 41)).drew = W3) := ⟨_, Lib.hid rfl⟩
    obtain ⟨W3, HW3⟩ := W3X
    have h3 : Chg (fun _ => False) W2 W3 := by rw [← HW3.out]; exact ((Chg.refl _ _).alloc _).drew
    have hab3 := (h3.block ab (by have := HS2.out; omega) (fun f => f)).trans HAB.out
    have hob3 := (h3.block ob (by have := HS2.out; have := HAS.out; omega) (fun f => f)).trans HOB.out
    have htb3 : W3.heap[tb]? = some (.cells #[.string tp, .int .u32 (tg : Nat), .int .u32 (tt : Nat), .int .u64 (ta : Nat), .int .u64 (tn : Nat)] 41) := by rw [← HW3.out, ← HTB.out]; exact Go.heap_alloc_new _ _
    have HAB3 := Lib.hid hab3
    have HOB3 := Lib.hid hob3
    have HTB3 := Lib.hid htb3
    have H3 := Lib.hid (H2.out.same h3)
    have HC3 := Lib.hid (HC2.out.trans h3)
    have z0 : W3.cell? ⟨ab, 0, none⟩ = some (.int .i64 0) := cell_of HAB3.out rfl
    have zf0 : W3.frozen? ⟨ab, 0, none⟩ = false := frozen_of HAB3.out
    have z1 : W3.cell? ⟨ab, 1, none⟩ = some (.int .u64 0) := cell_of HAB3.out rfl
    have zf1 : W3.frozen? ⟨ab, 1, none⟩ = false := frozen_of HAB3.out
    have z2 : W3.cell? ⟨ab, 2, none⟩ = some (.int .u64 0) := cell_of HAB3.out rfl
    have zf2 : W3.frozen? ⟨ab, 2, none⟩ = false := frozen_of HAB3.out
    have z3 : W3.cell? ⟨ab, 3, none⟩ = some (.string ⟨#[]⟩) := cell_of HAB3.out rfl
    have zf3 : W3.frozen? ⟨ab, 3, none⟩ = false := frozen_of HAB3.out
    have z4 : W3.cell? ⟨ab, 4, none⟩ = some (.int .u32 0) := cell_of HAB3.out rfl
    have zf4 : W3.frozen? ⟨ab, 4, none⟩ = false := frozen_of HAB3.out
    have z5 : W3.cell? ⟨ab, 5, none⟩ = some (.int .u32 0) := cell_of HAB3.out rfl
    have zf5 : W3.frozen? ⟨ab, 5, none⟩ = false := frozen_of HAB3.out
    have z6 : W3.cell? ⟨ab, 6, none⟩ = some (.int .u64 0) := cell_of HAB3.out rfl
    have zf6 : W3.frozen? ⟨ab, 6, none⟩ = false := frozen_of HAB3.out
    have z7 : W3.cell? ⟨ab, 7, none⟩ = some (.int .u64 0) := cell_of HAB3.out rfl
    have zf7 : W3.frozen? ⟨ab, 7, none⟩ = false := frozen_of HAB3.out
    have y0 : W3.cell? ⟨tb, 0, none⟩ = some (.string tp) := cell_of HTB3.out rfl
    have yf0 : W3.frozen? ⟨tb, 0, none⟩ = false := frozen_of HTB3.out
    have y1 : W3.cell? ⟨tb, 1, none⟩ = some (.int .u32 (tg : Nat)) := cell_of HTB3.out rfl
    have yf1 : W3.frozen? ⟨tb, 1, none⟩ = false := frozen_of HTB3.out
    have y2 : W3.cell? ⟨tb, 2, none⟩ = some (.int .u32 (tt : Nat)) := cell_of HTB3.out rfl
    have yf2 : W3.frozen? ⟨tb, 2, none⟩ = false := frozen_of HTB3.out
    have y3 : W3.cell? ⟨tb, 3, none⟩ = some (.int .u64 (ta : Nat)) := cell_of HTB3.out rfl
    have yf3 : W3.frozen? ⟨tb, 3, none⟩ = false := frozen_of HTB3.out
    have y4 : W3.cell? ⟨tb, 4, none⟩ = some (.int .u64 (tn : Nat)) := cell_of HTB3.out rfl
    have yf4 : W3.frozen? ⟨tb, 4, none⟩ = false := frozen_of HTB3.out
    have k8 : W3.cell? ⟨ob, 8, none⟩ = some (.int .u64 (o.at_ : Nat)) := cell_of HOB3.out rfl
    have k0 : W3.cell? ⟨ob, 0, none⟩ = some (.int .u8 (o.k : Nat)) := cell_of HOB3.out rfl
    simp only
    by_cases e1 : tt = 0
    · have d1 : decide ((tt : Int) = 0) = true := decide_eq_true (by omega)
      have d1' : ((tt : Int) == 0) = true := beq_iff_eq.2 (by omega)
      rw [if_pos (Or.inl e1)]
      clear h ho htl h3 hab3 hob3 htb3 hps hF e1
      go_enter Tryz.func78, Tryz.ntmps78
      go_wp2_with fail
      rw [HW2.out, HOS.out, HAS.out]
      go_region
      all_goals
        rw [HW3.out, HTB.out]
        go_wp2
        obtain ⟨hh, hc⟩ := fin8 HAB3.out (.int .i64 3) (.int .u64 0) (.int .u64 0) (.string tp) (.int .u32 (tg : Nat)) (.int .u32 (tt : Nat)) (.int .u64 (ta : Nat)) (.int .u64 (tn : Nat))
        refine bodyPost_ret (results_cell_row (p := 4) (ty := 46) rfl _ _ ab 46 _ (0, 0) _ rfl hh Tryz.underlying46 rfl (by kernel_rfl)) rfl ⟨rfl, ?_⟩
        exact ⟨⟨R, (H3.out.stay hc (fun g hg e => (HFAB.out g hg).1 e)).wide (fun g => Or.inl)⟩, (HC3.out.mono (fun _ f => f.elim)).trans' hc (fun g e => Or.inr (by have := HAS.out; have := HOS.out; omega))⟩
    · have d1 : decide ((tt : Int) = 0) = false := decide_eq_false (by omega)
      have d1' : ((tt : Int) == 0) = false := beq_eq_false_iff_ne.2 (by omega)
      by_cases e2 : ta = o.at_
      · have d2 : decide ((ta : Int) = (o.at_ : Int)) = true := decide_eq_true (by omega)
        have d2' : ((ta : Int) != (o.at_ : Int)) = false := by simp; omega
        rw [if_neg (by rintro (h | h); exact e1 h; exact h e2)]
        by_cases e3 : o.k = 7
        · have d3 : decide ((o.k : Int) = 7) = true := decide_eq_true (by omega)
          have d3' : ((o.k : Int) == 7) = true := beq_iff_eq.2 (by omega)
          rw [if_pos e3]
          have hs3 : W3.heap.size = tb + 1 := by rw [← HW3.out, ← HTB.out]; simp
          have htw := HFF.out.fr_lt.2.2.1
          have hob := HOS.out
          have hab := HAS.out
          obtain ⟨W4, HW4⟩ : ∃ W4, Hid (((((W3.setCell ⟨tb, 1, none⟩ (.int .u32 (tt : Nat))).setCell ⟨tb, 2, none⟩ (.int .u32 0)).setCell ⟨tb, 3, none⟩ (.int .u64 0)).setCell ⟨tb, 4, none⟩ (.int .u64 ((tn : Int) + 1))) = W4) := ⟨_, Lib.hid rfl⟩
          have htb4 : W4.heap[tb]? = some (.cells #[.string tp, .int .u32 (tt : Nat), .int .u32 0, .int .u64 0, .int .u64 ((tn : Int) + 1)] 41) := by
            rw [← HW4.out]
            have t0 := Mk.heap_setCell_same HTB3.out (i := 1) (v := .int .u32 (tt : Nat))
            have t1 := Mk.heap_setCell_same t0 (i := 2) (v := .int .u32 0)
            have t2 := Mk.heap_setCell_same t1 (i := 3) (v := .int .u64 0)
            have t3 := Mk.heap_setCell_same t2 (i := 4) (v := .int .u64 ((tn : Int) + 1))
            exact t3
          have c4 : Chg (fun g => g = tb) W3 W4 := by rw [← HW4.out]; exact (((((Chg.refl (fun g => g = tb) _).setCell (a := ⟨tb, 1, none⟩) (Or.inl rfl) _).setCell (a := ⟨tb, 2, none⟩) (Or.inl rfl) _).setCell (a := ⟨tb, 3, none⟩) (Or.inl rfl) _).setCell (a := ⟨tb, 4, none⟩) (Or.inl rfl) _)
          have HR4 := H3.out.stay c4 (fun g hg e => by have := (HFAB.out g hg).2.2; omega)
          have hk4 : ∀ g, g < tb → W4.heap[g]? = W3.heap[g]? := fun g hg => c4.block g (by omega) (by omega)
          have hab4 := (hk4 ab (by omega)).trans HAB3.out
          have hob4 := (hk4 ob (by omega)).trans HOB3.out
          have hc4 : Chg F w W4 := (HC3.out.mono (fun _ f => f.elim)).trans' c4 (fun g e => Or.inr (by omega))
          have n5 : W4.cell? ⟨ob, 5, none⟩ = some (.string o.pred) := cell_of hob4 rfl
          have n6 := HR4.c6
          have x0 : W4.cell? ⟨tb, 0, none⟩ = some (.string tp) := cell_of htb4 rfl
          have x1 : W4.cell? ⟨tb, 1, none⟩ = some (.int .u32 (tt : Nat)) := cell_of htb4 rfl
          have x2 : W4.cell? ⟨tb, 2, none⟩ = some (.int .u32 0) := cell_of htb4 rfl
          have x3 : W4.cell? ⟨tb, 3, none⟩ = some (.int .u64 0) := cell_of htb4 rfl
          have x4 : W4.cell? ⟨tb, 4, none⟩ = some (.int .u64 ((tn : Int) + 1)) := cell_of htb4 rfl
          obtain ⟨es, ck, hup, HU⟩ := (HR4.same ((Chg.refl _ W4).drew)).upT HPS.out ⟨tp, tt, 0, 0, tn + 1⟩
          unfold tbV at hup
          simp only [show ((0 : Nat) : Int) = 0 from rfl] at hup
          have hup' : (Instr.mapUpdate 33 (.map (some R.t)) (.string o.pred) (.agg #[.string tp, .int .u32 (tt : Nat), .int .u32 0, .int .u64 0, .int .u64 ((tn : Int) + 1)])).run Tryz.prog W4.drew = _ := hup
          obtain ⟨W5, HW5⟩ : ∃ W5, Hid (ChangeMaps.setBlock W4.drew R.t (.map es ck) = W5) := ⟨_, Lib.hid rfl⟩
          rw [HW5.out] at HU
          have hd5 : ∀ g, g ≠ R.t → W5.heap[g]? = W4.heap[g]? := fun g hg => by rw [← HW5.out]; exact heap_setBlock_ne hg
          have hab5 := (hd5 ab (by omega)).trans hab4
          have htb5 := (hd5 tb (by omega)).trans htb4
          have HU5 := Lib.hid HU
          have HC5 : Hid (Chg F w W5) := by rw [← HW5.out]; exact Lib.hid (hc4.drew.setBlock (Or.inl HFF.out.ft) _)
          have HAB5 := Lib.hid hab5
          have u0 : W5.cell? ⟨ab, 0, none⟩ = some (.int .i64 0) := cell_of hab5 rfl
          have uf0 : W5.frozen? ⟨ab, 0, none⟩ = false := frozen_of hab5
          have u1 : W5.cell? ⟨ab, 1, none⟩ = some (.int .u64 0) := cell_of hab5 rfl
          have uf1 : W5.frozen? ⟨ab, 1, none⟩ = false := frozen_of hab5
          have u2 : W5.cell? ⟨ab, 2, none⟩ = some (.int .u64 0) := cell_of hab5 rfl
          have uf2 : W5.frozen? ⟨ab, 2, none⟩ = false := frozen_of hab5
          have u3 : W5.cell? ⟨ab, 3, none⟩ = some (.string ⟨#[]⟩) := cell_of hab5 rfl
          have uf3 : W5.frozen? ⟨ab, 3, none⟩ = false := frozen_of hab5
          have u4 : W5.cell? ⟨ab, 4, none⟩ = some (.int .u32 0) := cell_of hab5 rfl
          have uf4 : W5.frozen? ⟨ab, 4, none⟩ = false := frozen_of hab5
          have u5 : W5.cell? ⟨ab, 5, none⟩ = some (.int .u32 0) := cell_of hab5 rfl
          have uf5 : W5.frozen? ⟨ab, 5, none⟩ = false := frozen_of hab5
          have u6 : W5.cell? ⟨ab, 6, none⟩ = some (.int .u64 0) := cell_of hab5 rfl
          have uf6 : W5.frozen? ⟨ab, 6, none⟩ = false := frozen_of hab5
          have u7 : W5.cell? ⟨ab, 7, none⟩ = some (.int .u64 0) := cell_of hab5 rfl
          have uf7 : W5.frozen? ⟨ab, 7, none⟩ = false := frozen_of hab5
          have v0 : W5.cell? ⟨tb, 0, none⟩ = some (.string tp) := cell_of htb5 rfl
          have v1 : W5.cell? ⟨tb, 1, none⟩ = some (.int .u32 (tt : Nat)) := cell_of htb5 rfl
          have v2 : W5.cell? ⟨tb, 2, none⟩ = some (.int .u32 0) := cell_of htb5 rfl
          have v3 : W5.cell? ⟨tb, 3, none⟩ = some (.int .u64 0) := cell_of htb5 rfl
          have v4 : W5.cell? ⟨tb, 4, none⟩ = some (.int .u64 ((tn : Int) + 1)) := cell_of htb5 rfl
          clear c4 HR4 hk4 hab4 hob4 hc4 hup HU hd5 hab5 htb5 htb4 hs3 htw hob hab
          clear h ho htl h3 hab3 hob3 htb3 hps hF e1 e2 e3
          go_enter Tryz.func78, Tryz.ntmps78
          go_wp2_with fail
          rw [HW2.out, HOS.out, HAS.out]
          go_region
          all_goals
            rw [HW3.out, HTB.out]
            go_wp2_with fail
            rw [HW4.out]
            go_region
            rw [HW5.out]
            go_wp2
            obtain ⟨hh, hc⟩ := fin8 HAB5.out (.int .i64 0) (.int .u64 0) (.int .u64 0) (.string tp) (.int .u32 (tt : Nat)) (.int .u32 0) (.int .u64 0) (.int .u64 ((tn : Int) + 1))
            refine bodyPost_ret (results_cell_row (p := 4) (ty := 46) rfl _ _ ab 46 _ (0, 0) _ rfl hh Tryz.underlying46 rfl (by kernel_rfl)) rfl ⟨rfl, ?_⟩
            exact ⟨⟨R, (HU5.out.stay hc (fun g hg e => (HFAB.out g hg).1 e)).wide (fun g => Or.inl)⟩, HC5.out.trans' hc (fun g e => Or.inr (by have := HAS.out; have := HOS.out; omega))⟩
        · have d3 : decide ((o.k : Int) = 7) = false := decide_eq_false (by omega)
          have d3' : ((o.k : Int) == 7) = false := beq_eq_false_iff_ne.2 (by omega)
          rw [if_neg e3]
          have hs3 : W3.heap.size = tb + 1 := by rw [← HW3.out, ← HTB.out]; simp
          have htw := HFF.out.fr_lt.2.2.1
          have hob := HOS.out
          have hab := HAS.out
          obtain ⟨W4, HW4⟩ : ∃ W4, Hid ((((W3.setCell ⟨tb, 2, none⟩ (.int .u32 0)).setCell ⟨tb, 3, none⟩ (.int .u64 0)).setCell ⟨tb, 4, none⟩ (.int .u64 ((tn : Int) + 1))) = W4) := ⟨_, Lib.hid rfl⟩
          have htb4 : W4.heap[tb]? = some (.cells #[.string tp, .int .u32 (tg : Nat), .int .u32 0, .int .u64 0, .int .u64 ((tn : Int) + 1)] 41) := by
            rw [← HW4.out]
            have t0 := Mk.heap_setCell_same HTB3.out (i := 2) (v := .int .u32 0)
            have t1 := Mk.heap_setCell_same t0 (i := 3) (v := .int .u64 0)
            have t2 := Mk.heap_setCell_same t1 (i := 4) (v := .int .u64 ((tn : Int) + 1))
            exact t2
          have c4 : Chg (fun g => g = tb) W3 W4 := by rw [← HW4.out]; exact ((((Chg.refl (fun g => g = tb) _).setCell (a := ⟨tb, 2, none⟩) (Or.inl rfl) _).setCell (a := ⟨tb, 3, none⟩) (Or.inl rfl) _).setCell (a := ⟨tb, 4, none⟩) (Or.inl rfl) _)
          have HR4 := H3.out.stay c4 (fun g hg e => by have := (HFAB.out g hg).2.2; omega)
          have hk4 : ∀ g, g < tb → W4.heap[g]? = W3.heap[g]? := fun g hg => c4.block g (by omega) (by omega)
          have hab4 := (hk4 ab (by omega)).trans HAB3.out
          have hob4 := (hk4 ob (by omega)).trans HOB3.out
          have hc4 : Chg F w W4 := (HC3.out.mono (fun _ f => f.elim)).trans' c4 (fun g e => Or.inr (by omega))
          have n5 : W4.cell? ⟨ob, 5, none⟩ = some (.string o.pred) := cell_of hob4 rfl
          have n6 := HR4.c6
          have x0 : W4.cell? ⟨tb, 0, none⟩ = some (.string tp) := cell_of htb4 rfl
          have x1 : W4.cell? ⟨tb, 1, none⟩ = some (.int .u32 (tg : Nat)) := cell_of htb4 rfl
          have x2 : W4.cell? ⟨tb, 2, none⟩ = some (.int .u32 0) := cell_of htb4 rfl
          have x3 : W4.cell? ⟨tb, 3, none⟩ = some (.int .u64 0) := cell_of htb4 rfl
          have x4 : W4.cell? ⟨tb, 4, none⟩ = some (.int .u64 ((tn : Int) + 1)) := cell_of htb4 rfl
          obtain ⟨es, ck, hup, HU⟩ := (HR4.same ((Chg.refl _ W4).drew)).upT HPS.out ⟨tp, tg, 0, 0, tn + 1⟩
          unfold tbV at hup
          simp only [show ((0 : Nat) : Int) = 0 from rfl] at hup
          have hup' : (Instr.mapUpdate 33 (.map (some R.t)) (.string o.pred) (.agg #[.string tp, .int .u32 (tg : Nat), .int .u32 0, .int .u64 0, .int .u64 ((tn : Int) + 1)])).run Tryz.prog W4.drew = _ := hup
          obtain ⟨W5, HW5⟩ : ∃ W5, Hid (ChangeMaps.setBlock W4.drew R.t (.map es ck) = W5) := ⟨_, Lib.hid rfl⟩
          rw [HW5.out] at HU
          have hd5 : ∀ g, g ≠ R.t → W5.heap[g]? = W4.heap[g]? := fun g hg => by rw [← HW5.out]; exact heap_setBlock_ne hg
          have hab5 := (hd5 ab (by omega)).trans hab4
          have htb5 := (hd5 tb (by omega)).trans htb4
          have HU5 := Lib.hid HU
          have HC5 : Hid (Chg F w W5) := by rw [← HW5.out]; exact Lib.hid (hc4.drew.setBlock (Or.inl HFF.out.ft) _)
          have HAB5 := Lib.hid hab5
          have u0 : W5.cell? ⟨ab, 0, none⟩ = some (.int .i64 0) := cell_of hab5 rfl
          have uf0 : W5.frozen? ⟨ab, 0, none⟩ = false := frozen_of hab5
          have u1 : W5.cell? ⟨ab, 1, none⟩ = some (.int .u64 0) := cell_of hab5 rfl
          have uf1 : W5.frozen? ⟨ab, 1, none⟩ = false := frozen_of hab5
          have u2 : W5.cell? ⟨ab, 2, none⟩ = some (.int .u64 0) := cell_of hab5 rfl
          have uf2 : W5.frozen? ⟨ab, 2, none⟩ = false := frozen_of hab5
          have u3 : W5.cell? ⟨ab, 3, none⟩ = some (.string ⟨#[]⟩) := cell_of hab5 rfl
          have uf3 : W5.frozen? ⟨ab, 3, none⟩ = false := frozen_of hab5
          have u4 : W5.cell? ⟨ab, 4, none⟩ = some (.int .u32 0) := cell_of hab5 rfl
          have uf4 : W5.frozen? ⟨ab, 4, none⟩ = false := frozen_of hab5
          have u5 : W5.cell? ⟨ab, 5, none⟩ = some (.int .u32 0) := cell_of hab5 rfl
          have uf5 : W5.frozen? ⟨ab, 5, none⟩ = false := frozen_of hab5
          have u6 : W5.cell? ⟨ab, 6, none⟩ = some (.int .u64 0) := cell_of hab5 rfl
          have uf6 : W5.frozen? ⟨ab, 6, none⟩ = false := frozen_of hab5
          have u7 : W5.cell? ⟨ab, 7, none⟩ = some (.int .u64 0) := cell_of hab5 rfl
          have uf7 : W5.frozen? ⟨ab, 7, none⟩ = false := frozen_of hab5
          have v0 : W5.cell? ⟨tb, 0, none⟩ = some (.string tp) := cell_of htb5 rfl
          have v1 : W5.cell? ⟨tb, 1, none⟩ = some (.int .u32 (tg : Nat)) := cell_of htb5 rfl
          have v2 : W5.cell? ⟨tb, 2, none⟩ = some (.int .u32 0) := cell_of htb5 rfl
          have v3 : W5.cell? ⟨tb, 3, none⟩ = some (.int .u64 0) := cell_of htb5 rfl
          have v4 : W5.cell? ⟨tb, 4, none⟩ = some (.int .u64 ((tn : Int) + 1)) := cell_of htb5 rfl
          clear c4 HR4 hk4 hab4 hob4 hc4 hup HU hd5 hab5 htb5 htb4 hs3 htw hob hab
          clear h ho htl h3 hab3 hob3 htb3 hps hF e1 e2 e3
          go_enter Tryz.func78, Tryz.ntmps78
          go_wp2_with fail
          rw [HW2.out, HOS.out, HAS.out]
          go_region
          all_goals
            rw [HW3.out, HTB.out]
            go_wp2_with fail
            rw [HW4.out]
            go_region
            rw [HW5.out]
            go_wp2
            obtain ⟨hh, hc⟩ := fin8 HAB5.out (.int .i64 0) (.int .u64 0) (.int .u64 0) (.string tp) (.int .u32 (tg : Nat)) (.int .u32 0) (.int .u64 0) (.int .u64 ((tn : Int) + 1))
            refine bodyPost_ret (results_cell_row (p := 4) (ty := 46) rfl _ _ ab 46 _ (0, 0) _ rfl hh Tryz.underlying46 rfl (by kernel_rfl)) rfl ⟨rfl, ?_⟩
            exact ⟨⟨R, (HU5.out.stay hc (fun g hg e => (HFAB.out g hg).1 e)).wide (fun g => Or.inl)⟩, HC5.out.trans' hc (fun g e => Or.inr (by have := HAS.out; have := HOS.out; omega))⟩
      · have d2 : decide ((ta : Int) = (o.at_ : Int)) = false := decide_eq_false (by omega)
        have d2' : ((ta : Int) != (o.at_ : Int)) = true := by simp; omega
        rw [if_pos (Or.inr e2)]
        clear h ho htl h3 hab3 hob3 htb3 hps hF e1 e2
        go_enter Tryz.func78, Tryz.ntmps78
        go_wp2_with fail
        rw [HW2.out, HOS.out, HAS.out]
        go_region
        all_goals
          rw [HW3.out, HTB.out]
          go_wp2
          obtain ⟨hh, hc⟩ := fin8 HAB3.out (.int .i64 3) (.int .u64 0) (.int .u64 0) (.string tp) (.int .u32 (tg : Nat)) (.int .u32 (tt : Nat)) (.int .u64 (ta : Nat)) (.int .u64 (tn : Nat))
          refine bodyPost_ret (results_cell_row (p := 4) (ty := 46) rfl _ _ ab 46 _ (0, 0) _ rfl hh Tryz.underlying46 rfl (by kernel_rfl)) rfl ⟨rfl, ?_⟩
          exact ⟨⟨R, (H3.out.stay hc (fun g hg e => (HFAB.out g hg).1 e)).wide (fun g => Or.inl)⟩, (HC3.out.mono (fun _ f => f.elim)).trans' hc (fun g e => Or.inr (by have := HAS.out; have := HOS.out; omega))⟩
end
end Go.Proofs.YtgmmglmokkcgeaaGreat
