/- Walk: OracleNone. -/
import Derived.Test.YtgmmglmokkcgeaaGreatN2
import Derived.Test.YtgmmglmokkcgeaaGreatAf
import Derived.Shelf.Abstract
namespace Go.Proofs.YtgmmglmokkcgeaaGreat
set_option linter.unusedVariables false
set_option linter.unusedSimpArgs false
open Go.RowKit Mk Go.Sort
/-- What the loop keeps. -/
structure NoneAt (w W : World) (cs : Array Value) (ob rb ab sb : Nat) (L : List Nat) : Prop where
  chg : Chg (fun _ => False) w W
  ob : w.heap.size ≤ ob ∧ W.heap[ob]? = some (.cells cs 28)
  rb : w.heap.size ≤ rb ∧ W.heap[rb]? = some (.cells #[.bool false] 4)
  ab : W.heap[ab]? = some (.cells #[.pointer none, .pointer (some ⟨sb, 0, none⟩)] 37)
  sb : W.heap[sb]? = some (.cells #[.bool false, .int .u64 0, .int .u64 0, .int .u64 0, .map none, .map none, .map none, .map none] 36)
  ds : ∀ D ∈ L, w.heap.size ≤ D ∧ W.heap[D]? = some (.deferred (some []))
  nd : L.Nodup
theorem NoneAt.go {w W W' : World} {cs : Array Value} {ob rb ab sb : Nat} {L : List Nat} (h : NoneAt w W cs ob rb ab sb L) (c : Chg (fun _ => False) W W') : NoneAt w W' cs ob rb ab sb L := by
  have st : ∀ {g : Nat} {o : Obj}, W.heap[g]? = some o → W'.heap[g]? = some o := fun hg => (c.block _ (Array.getElem?_eq_some_iff.1 hg).1 (fun f => f)).trans hg
  exact ⟨h.chg.trans c, ⟨h.ob.1, st h.ob.2⟩, ⟨h.rb.1, st h.rb.2⟩, st h.ab, st h.sb, fun D hD => ⟨(h.ds D hD).1, st (h.ds D hD).2⟩, h.nd⟩
theorem NoneAt.add {w W : World} {cs : Array Value} {ob rb ab sb D : Nat} {L : List Nat} (h : NoneAt w W cs ob rb ab sb L) (h1 : w.heap.size ≤ D) (h2 : W.heap[D]? = some (.deferred (some []))) (h3 : D ∉ L) : NoneAt w W cs ob rb ab sb (D :: L) :=
  ⟨h.chg, h.ob, h.rb, h.ab, h.sb, fun E hE => (List.mem_cons.1 hE).elim (fun e => by subst e; exact ⟨h1, h2⟩) (h.ds E), List.nodup_cons.2 ⟨h3, h.nd⟩⟩
theorem NoneAt.nil {w W : World} {cs : Array Value} {ob rb ab sb : Nat} {L : List Nat} (h : NoneAt w W cs ob rb ab sb L) : NoneV W (.pointer none) := Or.inl rfl
theorem NoneAt.raw {w W : World} {cs : Array Value} {ob rb ab sb : Nat} {L : List Nat} (h : NoneAt w W cs ob rb ab sb L) : NoneV W (.pointer (some ⟨sb, 0, none⟩)) := Or.inr ⟨_, _, _, rfl, h.sb, rfl⟩
set_option maxRecDepth 100000 in
set_option maxHeartbeats 4000000 in
theorem walkOracleNone (c0 c1 c2 c3 c4 c6 c7 c8 : Value) (x : ByteArray) (t : Int) (w : World) :
    Calls Tryz.prog 3 #[.agg #[c0, c1, c2, c3, c4, .string x, c6, c7, c8], .int .u64 t] w fun e w' => e = .returned (.bool true) ∧ Below w.heap.size w w' := by
  refine callsIn_wide.1 (callsIn_of_wp_marks (F := Fence.wide) (n := 3) Tryz.func3 rfl trivial ?_)
  refine wpIn_wide.2 ?_
  simp only [Tryz.ntmps3, List.size_toArray, List.length_cons, List.length_nil, Nat.reduceAdd, Nat.reduceSub, Array.replicate_succ, Array.replicate_zero, List.push_toArray, List.append_toArray, List.nil_append, List.cons_append]
  go_wp2_with fail
  refine (lives_any _).mono ?_
  rintro e w1 ⟨rfl, h1⟩
  go_wp2_with fail
  refine wp_loop_rounds 3 ?_
  rw [rounds_succ]
  go_wp2_with fail
  have H := Lib.hid (show NoneAt w ((w1.alloc (.cells #[.bool false, .int .u64 0, .int .u64 0, .int .u64 0, .map none, .map none, .map none, .map none] 36)).alloc (.cells #[.pointer none, .pointer (some ⟨w1.heap.size, 0, none⟩)] 37)) #[c0, c1, c2, c3, c4, .string x, c6, c7, c8] w.heap.size (w.heap.size + 1) (w1.heap.size + 1) w1.heap.size [] by
    have h2 := ((Chg.refl (fun _ => False) w1).alloc (.cells #[.bool false, .int .u64 0, .int .u64 0, .int .u64 0, .map none, .map none, .map none, .map none] 36)).alloc (.cells #[.pointer none, .pointer (some ⟨w1.heap.size, 0, none⟩)] 37)
    have h3 := h1.trans h2
    have a1 := Go.heap_alloc_new w (.cells #[c0, c1, c2, c3, c4, .string x, c6, c7, c8] 28)
    have a2 := Go.heap_alloc_new (w.alloc (.cells #[c0, c1, c2, c3, c4, .string x, c6, c7, c8] 28)) (.cells #[.bool false] 4)
    rw [World.size_alloc] at a2
    have b1 := Go.heap_alloc_new w1 (.cells #[.bool false, .int .u64 0, .int .u64 0, .int .u64 0, .map none, .map none, .map none, .map none] 36)
    have b2 := Go.heap_alloc_new (w1.alloc (.cells #[.bool false, .int .u64 0, .int .u64 0, .int .u64 0, .map none, .map none, .map none, .map none] 36)) (.cells #[.pointer none, .pointer (some ⟨w1.heap.size, 0, none⟩)] 37)
    rw [World.size_alloc] at b2
    refine ⟨(((Chg.refl _ w).alloc _).alloc _).trans h3, ⟨Nat.le_refl _, ?_⟩, ⟨by omega, ?_⟩, b2, ?_, by simp, List.nodup_nil⟩
    · exact (h3.block _ (by simp; omega) (fun f => f)).trans ((Below.heap_alloc _ _ _ (by simp)).trans a1)
    · exact (h3.block _ (by simp) (fun f => f)).trans a2
    · exact (Below.heap_alloc _ _ _ (by simp)).trans b1)
  clear h1
  generalize ((w1.alloc (.cells #[.bool false, .int .u64 0, .int .u64 0, .int .u64 0, .map none, .map none, .map none, .map none] 36)).alloc (.cells #[.pointer none, .pointer (some ⟨w1.heap.size, 0, none⟩)] 37)) = W0 at *
  generalize w1.heap.size + 1 = ab at *
  generalize w1.heap.size = sb at *
  generalize w.heap.size + 1 = rb at *
  obtain ⟨ob, hob⟩ : ∃ ob, w.heap.size = ob := ⟨_, rfl⟩
  rw [hob]
  rw [hob] at H
  have HOB := Lib.hid hob
  clear hob
  -- round 1
  refine (none_dec (H.out.nil) _).mono ?_
  rintro e V ⟨rfl, rfl⟩
  have lo := (Array.getElem?_eq_some_iff.1 H.out.ob.2).1
  have co : V.cell? ⟨ob, 5, none⟩ = some (.string x) := cell_of H.out.ob.2 rfl
  go_wp2_with fail
  refine (none_tab (H.out.nil) _).mono ?_
  rintro e V ⟨rfl, h1⟩
  have H1 := Lib.hid (H.out.go h1)
  clear h1 co lo H
  have lo := (Array.getElem?_eq_some_iff.1 H1.out.ob.2).1
  have q0 : V.cell? ⟨ob, 0, none⟩ = some (c0) := cell_of H1.out.ob.2 rfl
  have q1 : V.cell? ⟨ob, 1, none⟩ = some (c1) := cell_of H1.out.ob.2 rfl
  have q2 : V.cell? ⟨ob, 2, none⟩ = some (c2) := cell_of H1.out.ob.2 rfl
  have q3 : V.cell? ⟨ob, 3, none⟩ = some (c3) := cell_of H1.out.ob.2 rfl
  have q4 : V.cell? ⟨ob, 4, none⟩ = some (c4) := cell_of H1.out.ob.2 rfl
  have q5 : V.cell? ⟨ob, 5, none⟩ = some (.string x) := cell_of H1.out.ob.2 rfl
  have q6 : V.cell? ⟨ob, 6, none⟩ = some (c6) := cell_of H1.out.ob.2 rfl
  have q7 : V.cell? ⟨ob, 7, none⟩ = some (c7) := cell_of H1.out.ob.2 rfl
  have q8 : V.cell? ⟨ob, 8, none⟩ = some (c8) := cell_of H1.out.ob.2 rfl
  go_wp2_with fail
  have H2 := Lib.hid (H1.out.go ((Chg.refl (fun _ => False) V).alloc (.cells #[.string ⟨#[]⟩, .int .u32 0, .int .u32 0, .int .u64 0, .int .u64 0] 41)))
  have HT0 := Lib.hid (Go.heap_alloc_new V (.cells #[.string ⟨#[]⟩, .int .u32 0, .int .u32 0, .int .u64 0, .int .u64 0] 41))
  clear lo q0 q1 q2 q3 q4 q5 q6 q7 q8 H1
  generalize V.alloc (.cells #[.string ⟨#[]⟩, .int .u32 0, .int .u32 0, .int .u64 0, .int .u64 0] 41) = V2 at *
  generalize V.heap.size = bb at *
  refine (none_apply (H2.out.nil) _ _ _ _ _ _ _ _ _).mono ?_
  rintro e V ⟨rfl, h1⟩
  have H := Lib.hid (H2.out.go h1)
  have HT := Lib.hid ((h1.block _ (Array.getElem?_eq_some_iff.1 HT0.out).1 (fun f => f)).trans HT0.out)
  clear h1 H2 HT0
  have lo := (Array.getElem?_eq_some_iff.1 H.out.ob.2).1
  have co : V.cell? ⟨ob, 5, none⟩ = some (.string x) := cell_of H.out.ob.2 rfl
  have lt := (Array.getElem?_eq_some_iff.1 HT.out).1
  have p0 : V.cell? ⟨bb, 0, none⟩ = some (.string ⟨#[]⟩) := cell_of HT.out rfl
  have p1 : V.cell? ⟨bb, 1, none⟩ = some (.int .u32 0) := cell_of HT.out rfl
  have p2 : V.cell? ⟨bb, 2, none⟩ = some (.int .u32 0) := cell_of HT.out rfl
  have p3 : V.cell? ⟨bb, 3, none⟩ = some (.int .u64 0) := cell_of HT.out rfl
  have p4 : V.cell? ⟨bb, 4, none⟩ = some (.int .u64 0) := cell_of HT.out rfl
  go_wp2_with fail
  refine (none_time (H.out.nil)).mono ?_
  rintro e V ⟨rfl, rfl⟩
  go_wp2_with fail
  refine (none_uid (H.out.nil)).mono ?_
  rintro e V ⟨rfl, rfl⟩
  go_wp2_with fail
  refine (none_mark (H.out.nil)).mono ?_
  rintro e V ⟨rfl, rfl⟩
  go_wp2_with fail
  refine (none_seen (H.out.nil) _ _).mono ?_
  rintro e V ⟨rfl, rfl⟩
  go_wp2_with fail
  refine (none_last (H.out.nil) _).mono ?_
  rintro e V ⟨rfl, rfl⟩
  go_wp2_with fail
  refine (none_copy (H.out.nil)).mono ?_
  rintro e V ⟨rfl, rfl⟩
  go_wp2_with fail
  refine (none_same (H.out.nil)).mono ?_
  rintro e V ⟨rfl, h1⟩
  have H1 := Lib.hid (H.out.go h1)
  clear h1 H
  have H := H1
  clear H1 HT lo co lt p0 p1 p2 p3 p4
  go_wp2_with fail
  refine (none_bytes (H.out.nil)).mono ?_
  rintro e V ⟨rfl, rfl⟩
  go_wp2_with fail
  refine (none_tablets _).mono ?_
  rintro e V' ⟨rfl, rfl⟩
  go_wp2_with fail
  refine range_none (gf := 49) (lb := #[.pointer (some ⟨V.heap.size, 0, none⟩)]) rfl (enters_of Tryz.func49 (by kernel_rfl) rfl) ?_ rfl ?_
  · intro l W hW
    refine none_tab1 ((H.out.go (((Chg.refl (fun _ => False) V).alloc _).trans hW)).nil) ?_ l
    exact cell_of ((hW.block _ (by simp) (fun f => f)).trans (Go.heap_alloc_new V _)) rfl
  intro D W hD hW hK
  have H1 := Lib.hid ((H.out.go (((Chg.refl (fun _ => False) V).alloc _).trans hW)).add (D := D) (by have := H.out.chg.size; simp at hD; omega) hK (fun hm => by
    have := (Array.getElem?_eq_some_iff.1 (H.out.ds D hm).2).1
    simp at hD
    omega))
  clear hD hW hK H
  have H := H1
  clear H1
  generalize D = D1 at *
  go_wp2_with fail
  have la := (Array.getElem?_eq_some_iff.1 H.out.ab).1
  have qa : W.cell? ⟨ab, 1, none⟩ = some (.pointer (some ⟨sb, 0, none⟩)) := cell_of H.out.ab rfl
  rw [rounds_succ]
  go_wp2_with fail
  clear la qa
  -- round 2
  refine (none_dec (H.out.raw) _).mono ?_
  rintro e V ⟨rfl, rfl⟩
  have lo := (Array.getElem?_eq_some_iff.1 H.out.ob.2).1
  have co : V.cell? ⟨ob, 5, none⟩ = some (.string x) := cell_of H.out.ob.2 rfl
  go_wp2_with fail
  refine (none_tab (H.out.raw) _).mono ?_
  rintro e V ⟨rfl, h1⟩
  have H1 := Lib.hid (H.out.go h1)
  clear h1 co lo H
  have lo := (Array.getElem?_eq_some_iff.1 H1.out.ob.2).1
  have q0 : V.cell? ⟨ob, 0, none⟩ = some (c0) := cell_of H1.out.ob.2 rfl
  have q1 : V.cell? ⟨ob, 1, none⟩ = some (c1) := cell_of H1.out.ob.2 rfl
  have q2 : V.cell? ⟨ob, 2, none⟩ = some (c2) := cell_of H1.out.ob.2 rfl
  have q3 : V.cell? ⟨ob, 3, none⟩ = some (c3) := cell_of H1.out.ob.2 rfl
  have q4 : V.cell? ⟨ob, 4, none⟩ = some (c4) := cell_of H1.out.ob.2 rfl
  have q5 : V.cell? ⟨ob, 5, none⟩ = some (.string x) := cell_of H1.out.ob.2 rfl
  have q6 : V.cell? ⟨ob, 6, none⟩ = some (c6) := cell_of H1.out.ob.2 rfl
  have q7 : V.cell? ⟨ob, 7, none⟩ = some (c7) := cell_of H1.out.ob.2 rfl
  have q8 : V.cell? ⟨ob, 8, none⟩ = some (c8) := cell_of H1.out.ob.2 rfl
  go_wp2_with fail
  have H2 := Lib.hid (H1.out.go ((Chg.refl (fun _ => False) V).alloc (.cells #[.string ⟨#[]⟩, .int .u32 0, .int .u32 0, .int .u64 0, .int .u64 0] 41)))
  have HT0 := Lib.hid (Go.heap_alloc_new V (.cells #[.string ⟨#[]⟩, .int .u32 0, .int .u32 0, .int .u64 0, .int .u64 0] 41))
  clear lo q0 q1 q2 q3 q4 q5 q6 q7 q8 H1
  generalize V.alloc (.cells #[.string ⟨#[]⟩, .int .u32 0, .int .u32 0, .int .u64 0, .int .u64 0] 41) = V2 at *
  generalize V.heap.size = bb at *
  refine (none_apply (H2.out.raw) _ _ _ _ _ _ _ _ _).mono ?_
  rintro e V ⟨rfl, h1⟩
  have H := Lib.hid (H2.out.go h1)
  have HT := Lib.hid ((h1.block _ (Array.getElem?_eq_some_iff.1 HT0.out).1 (fun f => f)).trans HT0.out)
  clear h1 H2 HT0
  have lo := (Array.getElem?_eq_some_iff.1 H.out.ob.2).1
  have co : V.cell? ⟨ob, 5, none⟩ = some (.string x) := cell_of H.out.ob.2 rfl
  have lt := (Array.getElem?_eq_some_iff.1 HT.out).1
  have p0 : V.cell? ⟨bb, 0, none⟩ = some (.string ⟨#[]⟩) := cell_of HT.out rfl
  have p1 : V.cell? ⟨bb, 1, none⟩ = some (.int .u32 0) := cell_of HT.out rfl
  have p2 : V.cell? ⟨bb, 2, none⟩ = some (.int .u32 0) := cell_of HT.out rfl
  have p3 : V.cell? ⟨bb, 3, none⟩ = some (.int .u64 0) := cell_of HT.out rfl
  have p4 : V.cell? ⟨bb, 4, none⟩ = some (.int .u64 0) := cell_of HT.out rfl
  go_wp2_with fail
  refine (none_time (H.out.raw)).mono ?_
  rintro e V ⟨rfl, rfl⟩
  go_wp2_with fail
  refine (none_uid (H.out.raw)).mono ?_
  rintro e V ⟨rfl, rfl⟩
  go_wp2_with fail
  refine (none_mark (H.out.raw)).mono ?_
  rintro e V ⟨rfl, rfl⟩
  go_wp2_with fail
  refine (none_seen (H.out.raw) _ _).mono ?_
  rintro e V ⟨rfl, rfl⟩
  go_wp2_with fail
  refine (none_last (H.out.raw) _).mono ?_
  rintro e V ⟨rfl, rfl⟩
  go_wp2_with fail
  refine (none_copy (H.out.raw)).mono ?_
  rintro e V ⟨rfl, rfl⟩
  go_wp2_with fail
  refine (none_same (H.out.raw)).mono ?_
  rintro e V ⟨rfl, h1⟩
  have H1 := Lib.hid (H.out.go h1)
  clear h1 H
  have H := H1
  clear H1 HT lo co lt p0 p1 p2 p3 p4
  go_wp2_with fail
  refine (none_bytes (H.out.raw)).mono ?_
  rintro e V ⟨rfl, rfl⟩
  go_wp2_with fail
  refine (none_tablets _).mono ?_
  rintro e V' ⟨rfl, rfl⟩
  go_wp2_with fail
  refine range_none (gf := 49) (lb := #[.pointer (some ⟨V.heap.size, 0, none⟩)]) rfl (enters_of Tryz.func49 (by kernel_rfl) rfl) ?_ rfl ?_
  · intro l W hW
    refine none_tab1 ((H.out.go (((Chg.refl (fun _ => False) V).alloc _).trans hW)).raw) ?_ l
    exact cell_of ((hW.block _ (by simp) (fun f => f)).trans (Go.heap_alloc_new V _)) rfl
  intro D W hD hW hK
  have H1 := Lib.hid ((H.out.go (((Chg.refl (fun _ => False) V).alloc _).trans hW)).add (D := D) (by have := H.out.chg.size; simp at hD; omega) hK (fun hm => by
    have := (Array.getElem?_eq_some_iff.1 (H.out.ds D hm).2).1
    simp at hD
    omega))
  clear hD hW hK H
  have H := H1
  clear H1
  generalize D = D2 at *
  go_wp2_with fail
  have lr := (Array.getElem?_eq_some_iff.1 H.out.rb.2).1
  have qr : W.cell? ⟨rb, 0, none⟩ = some (.bool false) := cell_of H.out.rb.2 rfl
  have fr : W.frozen? ⟨rb, 0, none⟩ = false := frozen_of H.out.rb.2
  rw [rounds_succ]
  go_wp2_with fail
  have k2 := H.out.ds D2 (by simp)
  have k1 := H.out.ds D1 (by simp)
  have n21 : D1 ≠ D2 := fun e => by
    have := H.out.nd
    rw [e] at this
    simp at this
  have r2 : D2 ≠ rb := fun e => by
    subst e
    have := H.out.rb.2.symm.trans k2.2
    cases this
  have r1 : D1 ≠ rb := fun e => by
    subst e
    have := H.out.rb.2.symm.trans k1.2
    cases this
  have g2 : (W.setCell ⟨rb, 0, none⟩ (.bool true)).heap[D2]? = some (.deferred (some [])) := (Below.heap_setCell W ⟨rb, 0, none⟩ (.bool true) D2 r2).trans k2.2
  have g1 : (W.setCell ⟨rb, 0, none⟩ (.bool true)).heap[D1]? = some (.deferred (some [])) := (Below.heap_setCell W ⟨rb, 0, none⟩ (.bool true) D1 r1).trans k1.2
  have gr : (W.setCell ⟨rb, 0, none⟩ (.bool true)).heap[rb]? = some (.cells #[.bool true] 4) := by rw [Mk.heap_setCell_same H.out.rb.2 (.bool true)]; rfl
  have hc := H.out.chg.setCell (a := ⟨rb, 0, none⟩) (Or.inr H.out.rb.1) (.bool true)
  generalize W.setCell ⟨rb, 0, none⟩ (.bool true) = X at *
  have ne : ∀ (Y : World) (a b : Nat) (o : Obj), a ≠ b → (Y.putObj b o).heap[a]? = Y.heap[a]? := fun Y a b o h => by
    show (Y.heap.setIfInBounds b o)[a]? = _
    rw [Array.getElem?_setIfInBounds_ne (Ne.symm h)]
  have e1 := (ne X D1 D2 (.deferred none) n21).trans g1
  have er := cell_of ((ne (X.putObj D2 (.deferred none)) rb D1 (.deferred none) (Ne.symm r1)).trans ((ne X rb D2 (.deferred none) (Ne.symm r2)).trans gr)) (i := 0) rfl
  refine ⟨by simp, .inl ⟨_, _, rfl, run_takeDeferred g2, ⟨by simp, .inl ⟨_, _, rfl, run_takeDeferred e1, ?_⟩⟩⟩⟩
  refine ⟨.bool true, ?_, rfl, ?_⟩
  · simp [results, Tryz.f3, go_sem, er]
  · exact below_of_chg ((hc.setBlock (Or.inr k2.1) (.deferred none)).setBlock (Or.inr k1.1) (.deferred none))
end Go.Proofs.YtgmmglmokkcgeaaGreat
