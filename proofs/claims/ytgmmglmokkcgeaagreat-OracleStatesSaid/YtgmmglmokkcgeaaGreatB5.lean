/- Walks: raise (a mark). -/
import Derived.Test.YtgmmglmokkcgeaaGreatB3
import Derived.Test.YtgmmglmokkcgeaaGreatAb
namespace Go.Proofs.YtgmmglmokkcgeaaGreat
set_option linter.unusedVariables false
set_option linter.unusedSimpArgs false
open Go.RowKit Mk Go.Sort
/-- A loop of a mark, with what stands beside it. -/
structure DL (w0 : World) (b : Nat) (R : Loc) (F : Nat → Prop) (n : OM) (q : Nat × Nat → Bool) (r ab : Nat) (left : List (Nat × Nat)) (w : World) : Prop where
  at_ : DecAt b R F n q r left w
  chg : Chg F w0 w
  box : w.heap[ab]? = some (.cells #[.int .i64 0, .int .u64 0, .int .u64 0, .string ⟨#[]⟩, .int .u32 0, .int .u32 0, .int .u64 0, .int .u64 0] 46)
  fw : ∀ g, F g → g < w0.heap.size
  hr : w0.heap.size ≤ r
  ha : w0.heap.size ≤ ab ∧ ab ≠ r
theorem DL.next {w0 w : World} {b : Nat} {R : Loc} {F : Nat → Prop} {n : OM} {q : Nat × Nat → Bool} {r ab : Nat} {left : List (Nat × Nat)} (h : DL w0 b R F n q r ab left w) :
    ((∀ ty, (Instr.next (.pointer (some ⟨r, 0, none⟩)) false ty).run Tryz.prog w = .ok (.tuple #[.bool false]) w) ∧ OrRep w b R F { n with dec := n.dec.filter q }) ∨
    ∃ a0 b0 x c w', left = a0 ++ (x, c) :: b0 ∧ x < 18446744073709551616 ∧ (∀ ty, (Instr.next (.pointer (some ⟨r, 0, none⟩)) false ty).run Tryz.prog w = .ok (.tuple #[.bool true, .int .u64 (x : Nat), .int .u64 (c : Nat)]) w') ∧
      OrRep w' b R F { n with dec := struck n.dec q (a0 ++ (x, c) :: b0) } ∧ ((Instr.entry (.pointer (some ⟨r, 0, none⟩))).run Tryz.prog w' = .ok (.tuple #[.int .u64 (x : Nat), .int .u64 (c : Nat)]) w') ∧
      (q (x, c) = true → DL w0 b R F n q r ab (a0 ++ b0) w') ∧
      (q (x, c) = false → ∃ es ck, (∀ ty, (Builtin.delete_ #[31, 24] ty #[.map (some R.d), .int .u64 (x : Nat)]).run Tryz.prog w' = .ok (.tuple #[]) (ChangeMaps.setBlock w' R.d (.map es ck))) ∧ DL w0 b R F n q r ab (a0 ++ b0) (ChangeMaps.setBlock w' R.d (.map es ck))) := by
  have hnr : ¬ F r := fun f => by have := h.fw _ f; have := h.hr; omega
  have hnd : ab ≠ R.d := fun e => by have := h.fw _ h.at_.rep.fd; have := h.ha.1; omega
  rcases h.at_.next hnr with ⟨h0, hn, hrep⟩ | ⟨a0, b0, x, c, w', h0, hx, hn, hc, hs, hrep, he, hk, hd⟩
  · exact Or.inl ⟨hn, hrep⟩
  · have c1 : Chg F w0 w' := h.chg.trans' hc (fun g e => Or.inr (by rw [e]; exact h.hr))
    have b1 : w'.heap[ab]? = some (.cells #[.int .i64 0, .int .u64 0, .int .u64 0, .string ⟨#[]⟩, .int .u32 0, .int .u32 0, .int .u64 0, .int .u64 0] 46) := (hc.block ab (Array.getElem?_eq_some_iff.1 h.box).1 h.ha.2).trans h.box
    refine Or.inr ⟨a0, b0, x, c, w', h0, hx, hn, hrep, he w' rfl rfl, fun hq => ⟨hk hq, c1, b1, h.fw, h.hr, h.ha⟩, fun hq => ?_⟩
    obtain ⟨es, ck, h1, h2⟩ := hd hq
    exact ⟨es, ck, h1, h2, c1.setBlock (Or.inl h.at_.rep.fd) _, (heap_setBlock_ne hnd).trans b1, h.fw, h.hr, h.ha⟩
/-- A loop of a mark, with what stands beside it. -/
structure LL (w0 : World) (b : Nat) (R : Loc) (F : Nat → Prop) (n : OM) (q : ByteArray × Nat → Bool) (r ab : Nat) (left : List (ByteArray × Nat)) (w : World) : Prop where
  at_ : LasAt b R F n q r left w
  chg : Chg F w0 w
  box : w.heap[ab]? = some (.cells #[.int .i64 0, .int .u64 0, .int .u64 0, .string ⟨#[]⟩, .int .u32 0, .int .u32 0, .int .u64 0, .int .u64 0] 46)
  fw : ∀ g, F g → g < w0.heap.size
  hr : w0.heap.size ≤ r
  ha : w0.heap.size ≤ ab ∧ ab ≠ r
theorem LL.next {w0 w : World} {b : Nat} {R : Loc} {F : Nat → Prop} {n : OM} {q : ByteArray × Nat → Bool} {r ab : Nat} {left : List (ByteArray × Nat)} (h : LL w0 b R F n q r ab left w) :
    ((∀ ty, (Instr.next (.pointer (some ⟨r, 0, none⟩)) false ty).run Tryz.prog w = .ok (.tuple #[.bool false]) w) ∧ OrRep w b R F { n with las := n.las.filter q }) ∨
    ∃ a0 b0 x c w', left = a0 ++ (x, c) :: b0 ∧ (∀ ty, (Instr.next (.pointer (some ⟨r, 0, none⟩)) false ty).run Tryz.prog w = .ok (.tuple #[.bool true, .string x, .int .u64 (c : Nat)]) w') ∧
      OrRep w' b R F { n with las := struck n.las q (a0 ++ (x, c) :: b0) } ∧ ((Instr.entry (.pointer (some ⟨r, 0, none⟩))).run Tryz.prog w' = .ok (.tuple #[.string x, .int .u64 (c : Nat)]) w') ∧
      (q (x, c) = true → LL w0 b R F n q r ab (a0 ++ b0) w') ∧
      (q (x, c) = false → ∃ es ck, (∀ ty, (Builtin.delete_ #[32, 9] ty #[.map (some R.l), .string x]).run Tryz.prog w' = .ok (.tuple #[]) (ChangeMaps.setBlock w' R.l (.map es ck))) ∧ LL w0 b R F n q r ab (a0 ++ b0) (ChangeMaps.setBlock w' R.l (.map es ck))) := by
  have hnr : ¬ F r := fun f => by have := h.fw _ f; have := h.hr; omega
  have hnd : ab ≠ R.l := fun e => by have := h.fw _ h.at_.rep.fl; have := h.ha.1; omega
  rcases h.at_.next hnr with ⟨h0, hn, hrep⟩ | ⟨a0, b0, x, c, w', h0, hn, hc, hs, hrep, he, hk, hd⟩
  · exact Or.inl ⟨hn, hrep⟩
  · have c1 : Chg F w0 w' := h.chg.trans' hc (fun g e => Or.inr (by rw [e]; exact h.hr))
    have b1 : w'.heap[ab]? = some (.cells #[.int .i64 0, .int .u64 0, .int .u64 0, .string ⟨#[]⟩, .int .u32 0, .int .u32 0, .int .u64 0, .int .u64 0] 46) := (hc.block ab (Array.getElem?_eq_some_iff.1 h.box).1 h.ha.2).trans h.box
    refine Or.inr ⟨a0, b0, x, c, w', h0, hn, hrep, he w' rfl rfl, fun hq => ⟨hk hq, c1, b1, h.fw, h.hr, h.ha⟩, fun hq => ?_⟩
    obtain ⟨es, ck, h1, h2⟩ := hd hq
    exact ⟨es, ck, h1, h2, c1.setBlock (Or.inl h.at_.rep.fl) _, (heap_setBlock_ne hnd).trans b1, h.fw, h.hr, h.ha⟩
section
variable {w : World} {b : Nat} {R : Loc} {F : Nat → Prop} {n : OM} {o : OpM} {l : OpL}
set_option maxRecDepth 100000 in
set_option maxHeartbeats 8000000 in
theorem raise_any (h : OrRep w b R F n) (hF : ∀ g, F g → g < w.heap.size) :
    Calls Tryz.prog 79 #[.pointer (some ⟨b, 0, none⟩), .agg (opC o l)] w fun e w' => e = .returned (anV (raiseM n o).2) ∧ To w b F (raiseM n o).1 w' := by
  have HF := Lib.hid hF
  have hblt := h.lt
  obtain ⟨W2, HW2⟩ : ∃ W2, Hid ((w.alloc (.cells (opC o l) 28)).alloc (.cells #[.int .i64 0, .int .u64 0, .int .u64 0, .string ⟨#[]⟩, .int .u32 0, .int .u32 0, .int .u64 0, .int .u64 0] 46) = W2) := ⟨_, Lib.hid rfl⟩
  obtain ⟨ob, HOS⟩ : ∃ ob, Hid (w.heap.size = ob) := ⟨_, Lib.hid rfl⟩
  obtain ⟨ab, HAS⟩ : ∃ ab, Hid (ob + 1 = ab) := ⟨_, Lib.hid rfl⟩
  have HC2 : Hid (Chg (fun _ => False) w W2) := by rw [← HW2.out]; exact Lib.hid (((Chg.refl _ _).alloc _).alloc _)
  have HS2 : Hid (W2.heap.size = ab + 1) := by rw [← HW2.out, ← HAS.out, ← HOS.out]; exact Lib.hid (by simp)
  have HOB : Hid (W2.heap[ob]? = some (.cells (opC o l) 28)) := by rw [← HW2.out, ← HOS.out]; exact Lib.hid ((Below.heap_alloc _ _ _ (by simp)).trans (Go.heap_alloc_new w _))
  have HAB : Hid (W2.heap[ab]? = some (.cells #[.int .i64 0, .int .u64 0, .int .u64 0, .string ⟨#[]⟩, .int .u32 0, .int .u32 0, .int .u64 0, .int .u64 0] 46)) := by rw [← HW2.out, ← HAS.out, ← HOS.out]; exact Lib.hid (alloc2_new w _ _)
  have H2 := Lib.hid (h.same HC2.out)
  have HFAB := Lib.hid (show ∀ g, F g → g ≠ ab ∧ g ≠ ob ∧ g < ob from fun g f => by have := hF g f; have := HAS.out; have := HOS.out; omega)
  obtain ⟨aI, hA⟩ : ∃ aI : Int, (o.at_ : Int) = aI := ⟨_, rfl⟩
  have HA := Lib.hid hA
  obtain ⟨tI, hT⟩ : ∃ tI : Int, (n.time : Int) = tI := ⟨_, rfl⟩
  have HT := Lib.hid hT
  obtain ⟨mI, hM⟩ : ∃ mI : Int, (n.mark : Int) = mI := ⟨_, rfl⟩
  have HM := Lib.hid hM
  clear hA hT hM
  have k8 : W2.cell? ⟨ob, 8, none⟩ = some (.int .u64 aI) := by rw [← HA.out]; exact cell_of HOB.out rfl
  have c1 : W2.cell? ⟨b, 1, none⟩ = some (.int .u64 tI) := by rw [← HT.out]; exact H2.out.c1
  have c3 : W2.cell? ⟨b, 3, none⟩ = some (.int .u64 mI) := by rw [← HM.out]; exact H2.out.c3
  have hb2 := H2.out.lt
  have hob2 : ob < W2.heap.size := by have := HS2.out; have := HAS.out; omega
  obtain ⟨W3, HW3⟩ : ∃ W3, Hid (W2.drew = W3) := ⟨_, Lib.hid rfl⟩
  have h3 : Chg (fun _ => False) W2 W3 := by rw [← HW3.out]; exact (Chg.refl _ _).drew
  have HC3 := Lib.hid (HC2.out.trans h3)
  have H3 := Lib.hid (H2.out.same h3)
  have HAB3 := Lib.hid ((h3.block ab (by have := HS2.out; omega) (fun f => f)).trans HAB.out)
  have HOB3 := Lib.hid ((h3.block ob (by have := HS2.out; have := HAS.out; omega) (fun f => f)).trans HOB.out)
  have j8 : W3.cell? ⟨ob, 8, none⟩ = some (.int .u64 aI) := by rw [← HA.out]; exact cell_of HOB3.out rfl
  have j3 : W3.cell? ⟨b, 3, none⟩ = some (.int .u64 mI) := by rw [← HM.out]; exact H3.out.c3
  unfold raiseM
  by_cases e1 : n.time < o.at_
  · have d1 : decide (tI < aI) = true := decide_eq_true (by have := HA.out; have := HT.out; omega)
    rw [if_pos e1]
    have z0 : W3.cell? ⟨ab, 0, none⟩ = some (.int .i64 0) := cell_of HAB3.out rfl
    have zf0 : W3.frozen? ⟨ab, 0, none⟩ = false := frozen_of HAB3.out
    have z1 : W3.cell? ⟨ab, 1, none⟩ = some (.int .u64 0) := cell_of HAB3.out rfl
    have zf1 : W3.frozen? ⟨ab, 1, none⟩ = false := frozen_of HAB3.out
    have z2 : W3.cell? ⟨ab, 2, none⟩ = some (.int .u64 0) := cell_of HAB3.out rfl
    have zf2 : W3.frozen? ⟨ab, 2, none⟩ = false := frozen_of HAB3.out
    have z3 : W3.cell? ⟨ab, 3, none⟩ = some (.string ⟨#[]⟩) := cell_of HAB3.out rfl
    have zf3 : W3.frozen? ⟨ab, 3, none⟩ = false := frozen_of HAB3.out
    have z4 : W3.cell? ⟨ab, 4, none⟩ = some (.int .u32 0) := cell_of HAB3.out rfl
    have zf4 : W3.frozen? ⟨ab, 4, none⟩ = false := frozen_of HAB3.out
    have z5 : W3.cell? ⟨ab, 5, none⟩ = some (.int .u32 0) := cell_of HAB3.out rfl
    have zf5 : W3.frozen? ⟨ab, 5, none⟩ = false := frozen_of HAB3.out
    have z6 : W3.cell? ⟨ab, 6, none⟩ = some (.int .u64 0) := cell_of HAB3.out rfl
    have zf6 : W3.frozen? ⟨ab, 6, none⟩ = false := frozen_of HAB3.out
    have z7 : W3.cell? ⟨ab, 7, none⟩ = some (.int .u64 0) := cell_of HAB3.out rfl
    have zf7 : W3.frozen? ⟨ab, 7, none⟩ = false := frozen_of HAB3.out
    clear h hF h3 e1
    go_enter Tryz.func79, Tryz.ntmps79
    go_wp2_with fail
    rw [HW2.out, HOS.out, HAS.out]
    go_region
    all_goals
      rw [HW3.out]
      go_wp2
      obtain ⟨hh, hc⟩ := fin8 HAB3.out (.int .i64 2) (.int .u64 0) (.int .u64 0) (.string ⟨#[]⟩) (.int .u32 0) (.int .u32 0) (.int .u64 0) (.int .u64 0)
      refine bodyPost_ret (results_cell_row (p := 4) (ty := 46) rfl _ _ ab 46 _ (0, 0) _ rfl hh Tryz.underlying46 rfl (by kernel_rfl)) rfl ⟨rfl, ?_⟩
      exact ⟨⟨R, (H3.out.stay hc (fun g hg e => (HFAB.out g hg).1 e)).wide (fun g => Or.inl)⟩, (HC3.out.mono (fun _ f => f.elim)).trans' hc (fun g e => Or.inr (by have := HAS.out; have := HOS.out; omega))⟩
  · have d1 : decide (tI < aI) = false := decide_eq_false (by have := HA.out; have := HT.out; omega)
    rw [if_neg e1]
    obtain ⟨W4, HW4⟩ : ∃ W4, Hid (W3.drew = W4) := ⟨_, Lib.hid rfl⟩
    have h4 : Chg (fun _ => False) W3 W4 := by rw [← HW4.out]; exact (Chg.refl _ _).drew
    have HC4 := Lib.hid (HC3.out.trans h4)
    have H4 := Lib.hid (H3.out.same h4)
    have HAB4 := Lib.hid ((h4.block ab (Array.getElem?_eq_some_iff.1 HAB3.out).1 (fun f => f)).trans HAB3.out)
    have HOB4 := Lib.hid ((h4.block ob (Array.getElem?_eq_some_iff.1 HOB3.out).1 (fun f => f)).trans HOB3.out)
    by_cases e2 : n.mark < o.at_
    · have d2 : decide (mI < aI) = true := decide_eq_true (by have := HA.out; have := HM.out; omega)
      rw [if_pos e2]
      have i8 : W4.cell? ⟨ob, 8, none⟩ = some (.int .u64 aI) := by rw [← HA.out]; exact cell_of HOB4.out rfl
      have i3 : W4.cell? ⟨b, 3, none⟩ = some (.int .u64 mI) := by rw [← HM.out]; exact H4.out.c3
      have i3f := H4.out.fr 3
      obtain ⟨W5, HW5⟩ : ∃ W5, Hid (W4.setCell ⟨b, 3, none⟩ (.int .u64 aI) = W5) := ⟨_, Lib.hid rfl⟩
      have H5 : Hid (OrRep W5 b R F { n with mark := o.at_ }) := by rw [← HW5.out, ← HA.out]; exact Lib.hid (H4.out.setBox (i := 3) (v := .int .u64 (o.at_ : Nat)) (n' := { n with mark := o.at_ }) (by simp [stC]) rfl rfl rfl rfl)
      have i4 : W5.cell? ⟨b, 4, none⟩ = some (.map (some R.d)) := H5.out.c4
      have HAB5 : Hid (W5.heap[ab]? = some (.cells #[.int .i64 0, .int .u64 0, .int .u64 0, .string ⟨#[]⟩, .int .u32 0, .int .u32 0, .int .u64 0, .int .u64 0] 46)) := by rw [← HW5.out]; exact Lib.hid ((Below.heap_setCell W4 ⟨b, 3, none⟩ _ ab (fun e => (HFAB.out b H4.out.fb).1 e.symm)).trans HAB4.out)
      have HC5 : Hid (Chg F w W5) := by rw [← HW5.out]; exact Lib.hid ((HC4.out.mono (fun _ f => f.elim)).setCell (a := ⟨b, 3, none⟩) (Or.inl H4.out.fb) _)
      obtain ⟨it, hrg, hD⟩ := H5.out.startD (fun p => !(p.2 == 0) || !decide (p.1 < o.at_))
      have HAR := Lib.hid (Array.getElem?_eq_some_iff.1 HAB5.out).1
      obtain ⟨r1, HR1⟩ : ∃ r1, Hid (W5.heap.size = r1) := ⟨_, Lib.hid rfl⟩
      have HD0 : Hid (DL w b R F { n with mark := o.at_ } (fun p => !(p.2 == 0) || !decide (p.1 < o.at_)) r1 ab n.dec (W5.alloc it)) := by
        rw [HR1.out] at hD
        have hlt := HAR.out
        rw [HR1.out] at hlt
        have hs5 := HC5.out.size
        rw [HR1.out] at hs5
        exact Lib.hid ⟨hD, HC5.out.alloc _, (Below.heap_alloc _ _ _ HAR.out).trans HAB5.out, hF, hs5, by have := HAS.out; have := HOS.out; omega, by omega⟩
      rw [HR1.out, ← HW5.out] at hrg
      rw [← HW5.out] at i4
      clear h hF h3 e1 h4 e2 hD
      go_enter Tryz.func79, Tryz.ntmps79
      go_wp2_with fail
      rw [HW2.out, HOS.out, HAS.out]
      go_region
      all_goals
        rw [HW3.out]
        go_wp2_with fail
        go_region
      all_goals
        rw [HW4.out]
        go_wp2
        rw [HW5.out]
        clear hrg i4 i8 i3 i3f j8 j3 k8 c1 c3 hb2 hob2 hblt
        go_loopw [] (fun wq => ∃ left : List (Nat × Nat), Hid (DL w b R F { n with mark := o.at_ } (fun p => !(p.2 == 0) || !decide (p.1 < o.at_)) r1 ab left wq)) (fun wq => wq.rangeLeft R.d r1)
        case atStart => exact ⟨_, HD0⟩
        case round =>
          clear HD0
          obtain ⟨left, HD⟩ := hrel
          generalize wr = W6 at *
          rcases HD.out.next with ⟨hnx, hrep⟩ | ⟨a0, b0, x, c, W7, h0, hx, hnx, hrep, hen, hkp, hdl⟩
          · have HC6 := Lib.hid HD.out.chg
            have HAB6 := Lib.hid HD.out.box
            have HAH := Lib.hid HD.out.ha.1
            have H6 := Lib.hid hrep
            have i5 : W6.cell? ⟨b, 5, none⟩ = some (.map (some R.l)) := H6.out.c5
            obtain ⟨it2, hrg2, hL⟩ := H6.out.startL (fun p => decide (o.at_ < p.2))
            have hlt := (Array.getElem?_eq_some_iff.1 HAB6.out).1
            have hs6 := HC6.out.size
            have HL0 := Lib.hid (LL.mk hL (HC6.out.alloc _) ((Below.heap_alloc W6 it2 _ hlt).trans HAB6.out) HF.out hs6 ⟨HAH.out, by omega⟩)
            obtain ⟨r2, HR2⟩ : ∃ r2, Hid (W6.heap.size = r2) := ⟨_, Lib.hid rfl⟩
            rw [HR2.out] at hrg2 HL0
            clear hrep hL HD hlt hs6
            go_wp2
            clear hnx i5 hrg2
            go_loopw [] (fun wq => ∃ left : List (ByteArray × Nat), Hid (LL w b R F { n with mark := o.at_, dec := n.dec.filter (fun p => !(p.2 == 0) || !decide (p.1 < o.at_)) } (fun p => decide (o.at_ < p.2)) r2 ab left wq)) (fun wq => wq.rangeLeft R.l r2)
            case atStart => exact ⟨_, HL0⟩
            case round =>
              clear HL0
              obtain ⟨left, HL⟩ := hrel
              generalize wr = W8 at *
              rcases HL.out.next with ⟨hnx, hrep⟩ | ⟨a0, b0, x, c, W9, h0, hnx, hrep, hen, hkp, hdl⟩
              · have HC8 := Lib.hid HL.out.chg
                have HAB8 := Lib.hid HL.out.box
                have H8 := Lib.hid hrep
                have z0 : W8.cell? ⟨ab, 0, none⟩ = some (.int .i64 0) := cell_of HAB8.out rfl
                have zf0 : W8.frozen? ⟨ab, 0, none⟩ = false := frozen_of HAB8.out
                have z1 : W8.cell? ⟨ab, 1, none⟩ = some (.int .u64 0) := cell_of HAB8.out rfl
                have zf1 : W8.frozen? ⟨ab, 1, none⟩ = false := frozen_of HAB8.out
                have z2 : W8.cell? ⟨ab, 2, none⟩ = some (.int .u64 0) := cell_of HAB8.out rfl
                have zf2 : W8.frozen? ⟨ab, 2, none⟩ = false := frozen_of HAB8.out
                have z3 : W8.cell? ⟨ab, 3, none⟩ = some (.string ⟨#[]⟩) := cell_of HAB8.out rfl
                have zf3 : W8.frozen? ⟨ab, 3, none⟩ = false := frozen_of HAB8.out
                have z4 : W8.cell? ⟨ab, 4, none⟩ = some (.int .u32 0) := cell_of HAB8.out rfl
                have zf4 : W8.frozen? ⟨ab, 4, none⟩ = false := frozen_of HAB8.out
                have z5 : W8.cell? ⟨ab, 5, none⟩ = some (.int .u32 0) := cell_of HAB8.out rfl
                have zf5 : W8.frozen? ⟨ab, 5, none⟩ = false := frozen_of HAB8.out
                have z6 : W8.cell? ⟨ab, 6, none⟩ = some (.int .u64 0) := cell_of HAB8.out rfl
                have zf6 : W8.frozen? ⟨ab, 6, none⟩ = false := frozen_of HAB8.out
                have z7 : W8.cell? ⟨ab, 7, none⟩ = some (.int .u64 0) := cell_of HAB8.out rfl
                have zf7 : W8.frozen? ⟨ab, 7, none⟩ = false := frozen_of HAB8.out
                clear hrep HL
                go_wp2
                obtain ⟨hh, hc⟩ := fin8 HAB8.out (.int .i64 0) (.int .u64 0) (.int .u64 0) (.string ⟨#[]⟩) (.int .u32 0) (.int .u32 0) (.int .u64 0) (.int .u64 0)
                refine bodyPost_ret (results_cell_row (p := 4) (ty := 46) rfl _ _ ab 46 _ (0, 0) _ rfl hh Tryz.underlying46 rfl (by kernel_rfl)) rfl ⟨rfl, ?_⟩
                exact ⟨⟨R, (H8.out.stay hc (fun g hg e => (HFAB.out g hg).1 e)).wide (fun g => Or.inl)⟩, HC8.out.trans' hc (fun g e => Or.inr (by have := HAS.out; have := HOS.out; omega))⟩
              · obtain ⟨cI, hcI⟩ : ∃ cI : Int, (c : Int) = cI := ⟨_, rfl⟩
                have HCI := Lib.hid hcI
                rw [hcI] at hnx hen
                clear hcI
                have m3 : W9.cell? ⟨b, 3, none⟩ = some (.int .u64 aI) := by rw [← HA.out]; exact hrep.c3
                have m5 : W9.cell? ⟨b, 5, none⟩ = some (.map (some R.l)) := hrep.c5
                have hb9 := hrep.lt
                have H0 := Lib.hid h0
                clear hrep h0
                by_cases e3 : o.at_ < c
                · have d3 : decide (cI ≤ aI) = false := decide_eq_false (by have := HA.out; have := HCI.out; omega)
                  have HQ := Lib.hid (hkp (decide_eq_true e3))
                  clear hkp hdl e3
                  go_wp2
                  go_roundw
                  case rel => exact ⟨_, HQ⟩
                  case measure => rw [HQ.out.at_.over.left_eq, HL.out.at_.over.left_eq, H0.out]; simp [nv]
                · have d3 : decide (cI ≤ aI) = true := decide_eq_true (by have := HA.out; have := HCI.out; omega)
                  obtain ⟨es, ck, hdr, hQ⟩ := hdl (decide_eq_false e3)
                  have HQ := Lib.hid hQ
                  clear hkp hdl e3 hQ
                  go_wp2
                  go_roundw
                  case rel => exact ⟨_, HQ⟩
                  case measure => rw [HQ.out.at_.over.left_eq, HL.out.at_.over.left_eq, H0.out]; simp [nv]
          · obtain ⟨cI, hcI⟩ : ∃ cI : Int, (c : Int) = cI := ⟨_, rfl⟩
            have HCI := Lib.hid hcI
            obtain ⟨xI, hxI⟩ : ∃ xI : Int, (x : Int) = xI := ⟨_, rfl⟩
            have HXI := Lib.hid hxI
            rw [hcI, hxI] at hnx hen
            rw [hxI] at hdl
            clear hcI hxI hx
            have m3 : W7.cell? ⟨b, 3, none⟩ = some (.int .u64 aI) := by rw [← HA.out]; exact hrep.c3
            have m4 : W7.cell? ⟨b, 4, none⟩ = some (.map (some R.d)) := hrep.c4
            have hb7 := hrep.lt
            have H0 := Lib.hid h0
            clear hrep h0
            by_cases e3 : c = 0
            · have d3 : (cI == 0) = true := beq_iff_eq.2 (by have := HCI.out; omega)
              by_cases e4 : x < o.at_
              · have d4 : decide (xI < aI) = true := decide_eq_true (by have := HA.out; have := HXI.out; omega)
                obtain ⟨es, ck, hdr, hQ⟩ := hdl (by simp [e3, e4])
                have HQ := Lib.hid hQ
                clear hkp hdl e3 e4 hQ
                go_wp2
                go_roundw
                case rel => exact ⟨_, HQ⟩
                case measure => rw [HQ.out.at_.over.left_eq, HD.out.at_.over.left_eq, H0.out]; simp [nv]
              · have d4 : decide (xI < aI) = false := decide_eq_false (by have := HA.out; have := HXI.out; omega)
                have HQ := Lib.hid (hkp (by simp [e4]))
                clear hkp hdl e3 e4
                go_wp2
                go_roundw
                case rel => exact ⟨_, HQ⟩
                case measure => rw [HQ.out.at_.over.left_eq, HD.out.at_.over.left_eq, H0.out]; simp [nv]
            · have d3 : (cI == 0) = false := beq_eq_false_iff_ne.2 (by have := HCI.out; omega)
              have HQ := Lib.hid (hkp (by simp [e3]))
              clear hkp hdl e3
              go_wp2
              go_roundw
              case rel => exact ⟨_, HQ⟩
              case measure => rw [HQ.out.at_.over.left_eq, HD.out.at_.over.left_eq, H0.out]; simp [nv]
    · have d2 : decide (mI < aI) = false := decide_eq_false (by have := HA.out; have := HM.out; omega)
      rw [if_neg e2]
      have z0 : W4.cell? ⟨ab, 0, none⟩ = some (.int .i64 0) := cell_of HAB4.out rfl
      have zf0 : W4.frozen? ⟨ab, 0, none⟩ = false := frozen_of HAB4.out
      have z1 : W4.cell? ⟨ab, 1, none⟩ = some (.int .u64 0) := cell_of HAB4.out rfl
      have zf1 : W4.frozen? ⟨ab, 1, none⟩ = false := frozen_of HAB4.out
      have z2 : W4.cell? ⟨ab, 2, none⟩ = some (.int .u64 0) := cell_of HAB4.out rfl
      have zf2 : W4.frozen? ⟨ab, 2, none⟩ = false := frozen_of HAB4.out
      have z3 : W4.cell? ⟨ab, 3, none⟩ = some (.string ⟨#[]⟩) := cell_of HAB4.out rfl
      have zf3 : W4.frozen? ⟨ab, 3, none⟩ = false := frozen_of HAB4.out
      have z4 : W4.cell? ⟨ab, 4, none⟩ = some (.int .u32 0) := cell_of HAB4.out rfl
      have zf4 : W4.frozen? ⟨ab, 4, none⟩ = false := frozen_of HAB4.out
      have z5 : W4.cell? ⟨ab, 5, none⟩ = some (.int .u32 0) := cell_of HAB4.out rfl
      have zf5 : W4.frozen? ⟨ab, 5, none⟩ = false := frozen_of HAB4.out
      have z6 : W4.cell? ⟨ab, 6, none⟩ = some (.int .u64 0) := cell_of HAB4.out rfl
      have zf6 : W4.frozen? ⟨ab, 6, none⟩ = false := frozen_of HAB4.out
      have z7 : W4.cell? ⟨ab, 7, none⟩ = some (.int .u64 0) := cell_of HAB4.out rfl
      have zf7 : W4.frozen? ⟨ab, 7, none⟩ = false := frozen_of HAB4.out
      clear h hF h3 e1 h4 e2
      go_enter Tryz.func79, Tryz.ntmps79
      go_wp2_with fail
      rw [HW2.out, HOS.out, HAS.out]
      go_region
      all_goals
        rw [HW3.out]
        go_wp2_with fail
        go_region
      all_goals
        rw [HW4.out]
        go_wp2
        obtain ⟨hh, hc⟩ := fin8 HAB4.out (.int .i64 0) (.int .u64 0) (.int .u64 0) (.string ⟨#[]⟩) (.int .u32 0) (.int .u32 0) (.int .u64 0) (.int .u64 0)
        refine bodyPost_ret (results_cell_row (p := 4) (ty := 46) rfl _ _ ab 46 _ (0, 0) _ rfl hh Tryz.underlying46 rfl (by kernel_rfl)) rfl ⟨rfl, ?_⟩
        exact ⟨⟨R, (H4.out.stay hc (fun g hg e => (HFAB.out g hg).1 e)).wide (fun g => Or.inl)⟩, (HC4.out.mono (fun _ f => f.elim)).trans' hc (fun g e => Or.inr (by have := HAS.out; have := HOS.out; omega))⟩
end
end Go.Proofs.YtgmmglmokkcgeaaGreat
