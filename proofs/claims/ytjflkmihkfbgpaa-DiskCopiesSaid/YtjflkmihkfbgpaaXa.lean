/- Walks: the document's Do: Trunc. -/
import Derived.Test.YtjflkmihkfbgpaaX9
namespace Go.Proofs.Ytjflkmihkfbgpaa
open Go.RowKit Mk Go.Sort
set_option linter.unusedVariables false
set_option linter.unusedSimpArgs false
section
variable {w : World} {x : Nat} {kv ov nv : Value} {F : Nat → Prop} {S : Nat} {r : RefM}

set_option maxRecDepth 100000 in
set_option maxHeartbeats 4000000 in
theorem rdo_trunc (h : RIs w x F S r) (n : ByteArray) (k : Int) (hS : S + 1 ≤ 1099511627776) :
    Calls Try.prog 36 #[.pointer (some ⟨x, 0, none⟩), .agg #[.int .i64 3, .string n, .string ⟨#[]⟩, .int .i64 k]] w fun e w' => e = .returned (.int .i64 (rtruncM r n k).2) ∧ RTo w x F (S + 1) (rtruncM r n k).1 w' := by
  obtain ⟨kv, ov, nv, h⟩ := h
  obtain ⟨oo, oc, rfl⟩ := sl_shape h.o
  obtain ⟨no, nc, rfl⟩ := h.n.shape
  obtain ⟨W1, HW1⟩ : ∃ W, Hid (w.alloc (.cells #[.int .i64 3, .string n, .string ⟨#[]⟩, .int .i64 k] 68) = W) := ⟨_, Lib.hid rfl⟩
  have hd := DoAt.new h [.int .i64 3, .string n, .string ⟨#[]⟩, .int .i64 k]
  have hd : DoAt w x kv (.slice oo r.T.length oc) (.slice no r.N.length nc) F S r [.int .i64 3, .string n, .string ⟨#[]⟩, .int .i64 k] W1 := by rw [← HW1.out]; exact hd
  have HD1 := Lib.hid hd
  have H0 := Lib.hid h
  have MY := Lib.hid (fun (s : ByteArray) (u : World) => rmay_any s u)
  have hl : r.N.length ≤ 1099511627776 := Nat.le_trans h.len.2 h.size.2.2
  have ht : tot r.N ≤ 1099511627776 := Nat.le_trans h.size.1 h.size.2.2
  obtain ⟨i6, z6, hi6, hz6, hsz6, hby6, hzs6⟩ := info68
  have HTL1 := Lib.hid (show r.T.length + 1 ≤ maxLen by have := h.len; have := h.size; simp only [maxLen]; omega)
  have HTL2 := Lib.hid (show (r.T.length + 1) * 48 ≤ 140737488355328 by have := h.len; have := h.size; omega)
  have hxl : x < W1.heap.size := hd.rep.lt
  have hwl : w.heap.size < W1.heap.size := (Array.getElem?_eq_some_iff.1 hd.box).1
  obtain ⟨E, HE⟩ : ∃ E, Hid (rtruncM r n k = E) := ⟨_, Lib.hid rfl⟩
  rw [HE.out]
  clear hd
  cases hn : named n

  · have e0 : E = (r, 2) := by rw [← HE.out]; simp [rtruncM, hn]
    subst e0
    have MN := MY.out n
    rw [hn] at MN
    clear h HE hn
    go_enter Try.func36, Try.ntmps36
    go_wp2_with fail
    rw [HW1.out]
    refine (MN _).mono ?_
    rintro e w' ⟨rfl, rfl⟩
    go_wp2
    go_ret
    exact ⟨rfl, RTo.larger (HD1.out.same (by omega)) (by omega) hS⟩
  · have MN := MY.out n
    rw [hn] at MN

    obtain ⟨Y, hY⟩ : ∃ Y, (lk r.N n).isSome = Y := ⟨_, rfl⟩
    obtain ⟨z, hz⟩ : ∃ z, findI r.N n 0 = z := ⟨_, rfl⟩
    have qz : decide ((0 : Int) ≤ z) = Y := by
      rw [← hz, ← hY]
      cases hk : lk r.N n with
      | none => rw [findI_none hk]; rfl
      | some s => obtain ⟨j, hj, -⟩ := findI_some hk 0; rw [hj]; simp
    have FI := find_quiet HD1.out.rep.n hl n
    rw [hz] at FI
    have FI := Lib.hid FI

    have hby := byt_le r.N n
    obtain ⟨B, hB⟩ : ∃ B, byt r.N n = B := ⟨_, rfl⟩
    have HBQ := Lib.hid (fun (u : World) (hh : DoAt w x kv (.slice oo r.T.length oc) (.slice no r.N.length nc) F S r [.int .i64 3, .string n, .string ⟨#[]⟩, .int .i64 k] u) => bytes_quiet hh.rep.n hl n)
    rw [hB] at HBQ
    have hBs : B.size ≤ 1099511627776 := by rw [hB] at hby; omega
    cases Y
    · have e0 : E = (r, 5) := by rw [← HE.out]; simp only [rtruncM, hn, hY]; rfl
      subst e0
      clear h HE hn hz hY
      go_enter Try.func36, Try.ntmps36
      go_wp2_with fail
      rw [HW1.out]
      refine (MN _).mono ?_
      rintro e W1 ⟨rfl, rfl⟩

      have a0 : W1.cell? ⟨x, 0, none⟩ = some (.int .i64 r.room) := HD1.out.rep.cells.1
      have a1 : W1.cell? ⟨x, 1, none⟩ = some kv := HD1.out.rep.cells.2.1
      have a2 : W1.cell? ⟨x, 2, none⟩ = some (.slice oo r.T.length oc) := HD1.out.rep.cells.2.2.1
      have a3 : W1.cell? ⟨x, 3, none⟩ = some (.slice no r.N.length nc) := HD1.out.rep.cells.2.2.2
      have b0 : W1.cell? ⟨w.heap.size, 0, none⟩ = some (.int .i64 3) := cell_of HD1.out.box rfl
      have b1 : W1.cell? ⟨w.heap.size, 1, none⟩ = some (.string n) := cell_of HD1.out.box rfl
      have b2 : W1.cell? ⟨w.heap.size, 2, none⟩ = some (.string ⟨#[]⟩) := cell_of HD1.out.box rfl
      have b3 : W1.cell? ⟨w.heap.size, 3, none⟩ = some (.int .i64 k) := cell_of HD1.out.box rfl
      have qa0 := fun p os => cell_regrown a0 p os
      have qa1 := fun p os => cell_regrown a1 p os
      have qa2 := fun p os => cell_regrown a2 p os
      have qa3 := fun p os => cell_regrown a3 p os
      have qb0 := fun p os => cell_regrown b0 p os
      have qb1 := fun p os => cell_regrown b1 p os
      have qb2 := fun p os => cell_regrown b2 p os
      have qb3 := fun p os => cell_regrown b3 p os
      go_wp2_with fail
      refine wp_region_quiet_below (by kernel_rfl) (by kernel_rfl) ?_
      repeat (go_big_quiet_step (exact FI.out _ _))
      refine wpQuiet_nil ?_
      intro _ hw'
      obtain ⟨⟨dq, osq⟩, hw''⟩ := hw'
      subst hw''
      have HD2 := Lib.hid (HD1.out.stay (below_regrown W1 dq osq))
      generalize grow (redrawn W1 dq) osq = W2 at *
      clear qa0 qa1 qa2 qa3 qb0 qb1 qb2 qb3 a0 a1 a2 a3 b0 b1 b2 b3

      have a0 : W2.cell? ⟨x, 0, none⟩ = some (.int .i64 r.room) := HD2.out.rep.cells.1
      have a1 : W2.cell? ⟨x, 1, none⟩ = some kv := HD2.out.rep.cells.2.1
      have a2 : W2.cell? ⟨x, 2, none⟩ = some (.slice oo r.T.length oc) := HD2.out.rep.cells.2.2.1
      have a3 : W2.cell? ⟨x, 3, none⟩ = some (.slice no r.N.length nc) := HD2.out.rep.cells.2.2.2
      have b0 : W2.cell? ⟨w.heap.size, 0, none⟩ = some (.int .i64 3) := cell_of HD2.out.box rfl
      have b1 : W2.cell? ⟨w.heap.size, 1, none⟩ = some (.string n) := cell_of HD2.out.box rfl
      have b2 : W2.cell? ⟨w.heap.size, 2, none⟩ = some (.string ⟨#[]⟩) := cell_of HD2.out.box rfl
      have b3 : W2.cell? ⟨w.heap.size, 3, none⟩ = some (.int .i64 k) := cell_of HD2.out.box rfl

      go_wp2
      go_ret
      exact ⟨rfl, RTo.larger (HD2.out.same (by omega)) (by omega) hS⟩
    · by_cases k0 : k < 0
      · have e0 : E = (r, 2) := by rw [← HE.out]; simp only [rtruncM, hn, hY]; simp [k0]
        subst e0
        have q1 : decide (k < 0) = true := by simpa using k0
        clear h HE hn hz hY k0
        go_enter Try.func36, Try.ntmps36
        go_wp2_with fail
        rw [HW1.out]
        refine (MN _).mono ?_
        rintro e W1 ⟨rfl, rfl⟩

        have a0 : W1.cell? ⟨x, 0, none⟩ = some (.int .i64 r.room) := HD1.out.rep.cells.1
        have a1 : W1.cell? ⟨x, 1, none⟩ = some kv := HD1.out.rep.cells.2.1
        have a2 : W1.cell? ⟨x, 2, none⟩ = some (.slice oo r.T.length oc) := HD1.out.rep.cells.2.2.1
        have a3 : W1.cell? ⟨x, 3, none⟩ = some (.slice no r.N.length nc) := HD1.out.rep.cells.2.2.2
        have b0 : W1.cell? ⟨w.heap.size, 0, none⟩ = some (.int .i64 3) := cell_of HD1.out.box rfl
        have b1 : W1.cell? ⟨w.heap.size, 1, none⟩ = some (.string n) := cell_of HD1.out.box rfl
        have b2 : W1.cell? ⟨w.heap.size, 2, none⟩ = some (.string ⟨#[]⟩) := cell_of HD1.out.box rfl
        have b3 : W1.cell? ⟨w.heap.size, 3, none⟩ = some (.int .i64 k) := cell_of HD1.out.box rfl
        have qa0 := fun p os => cell_regrown a0 p os
        have qa1 := fun p os => cell_regrown a1 p os
        have qa2 := fun p os => cell_regrown a2 p os
        have qa3 := fun p os => cell_regrown a3 p os
        have qb0 := fun p os => cell_regrown b0 p os
        have qb1 := fun p os => cell_regrown b1 p os
        have qb2 := fun p os => cell_regrown b2 p os
        have qb3 := fun p os => cell_regrown b3 p os
        go_wp2_with fail
        refine wp_region_quiet_below (by kernel_rfl) (by kernel_rfl) ?_
        repeat (go_big_quiet_step (exact FI.out _ _))
        refine wpQuiet_nil ?_
        intro _ hw'
        obtain ⟨⟨dq, osq⟩, hw''⟩ := hw'
        subst hw''
        have HD2 := Lib.hid (HD1.out.stay (below_regrown W1 dq osq))
        generalize grow (redrawn W1 dq) osq = W2 at *
        clear qa0 qa1 qa2 qa3 qb0 qb1 qb2 qb3 a0 a1 a2 a3 b0 b1 b2 b3

        have a0 : W2.cell? ⟨x, 0, none⟩ = some (.int .i64 r.room) := HD2.out.rep.cells.1
        have a1 : W2.cell? ⟨x, 1, none⟩ = some kv := HD2.out.rep.cells.2.1
        have a2 : W2.cell? ⟨x, 2, none⟩ = some (.slice oo r.T.length oc) := HD2.out.rep.cells.2.2.1
        have a3 : W2.cell? ⟨x, 3, none⟩ = some (.slice no r.N.length nc) := HD2.out.rep.cells.2.2.2
        have b0 : W2.cell? ⟨w.heap.size, 0, none⟩ = some (.int .i64 3) := cell_of HD2.out.box rfl
        have b1 : W2.cell? ⟨w.heap.size, 1, none⟩ = some (.string n) := cell_of HD2.out.box rfl
        have b2 : W2.cell? ⟨w.heap.size, 2, none⟩ = some (.string ⟨#[]⟩) := cell_of HD2.out.box rfl
        have b3 : W2.cell? ⟨w.heap.size, 3, none⟩ = some (.int .i64 k) := cell_of HD2.out.box rfl
        have F0 : ∀ (p : Nat) (os : Array Obj), True := fun _ _ => trivial
        have qa0 := fun p os => cell_regrown a0 p os
        have qa1 := fun p os => cell_regrown a1 p os
        have qa2 := fun p os => cell_regrown a2 p os
        have qa3 := fun p os => cell_regrown a3 p os
        have qb0 := fun p os => cell_regrown b0 p os
        have qb1 := fun p os => cell_regrown b1 p os
        have qb2 := fun p os => cell_regrown b2 p os
        have qb3 := fun p os => cell_regrown b3 p os
        go_wp2_with fail
        refine wp_region_quiet_below (by kernel_rfl) (by kernel_rfl) ?_
        repeat (go_big_quiet_step (exact F0 _ _))
        refine wpQuiet_nil ?_
        intro _ hw'
        obtain ⟨⟨dq, osq⟩, hw''⟩ := hw'
        subst hw''
        have HD3 := Lib.hid (HD2.out.stay (below_regrown W2 dq osq))
        generalize grow (redrawn W2 dq) osq = W3 at *
        clear qa0 qa1 qa2 qa3 qb0 qb1 qb2 qb3 a0 a1 a2 a3 b0 b1 b2 b3

        go_wp2
        go_ret
        exact ⟨rfl, RTo.larger (HD3.out.same (by omega)) (by omega) hS⟩
      · have q1 : decide (k < 0) = false := by simpa using k0
        by_cases k2 : (B.size : Int) < k
        · have e0 : E = (r, 2) := by rw [← HE.out]; simp only [rtruncM, hn, hY, hB]; simp [k2]
          subst e0
          have q2 : decide ((B.size : Int) < k) = true := by simpa using k2
          clear h HE hn hz hY k0
          go_enter Try.func36, Try.ntmps36
          go_wp2_with fail
          rw [HW1.out]
          refine (MN _).mono ?_
          rintro e W1 ⟨rfl, rfl⟩

          have a0 : W1.cell? ⟨x, 0, none⟩ = some (.int .i64 r.room) := HD1.out.rep.cells.1
          have a1 : W1.cell? ⟨x, 1, none⟩ = some kv := HD1.out.rep.cells.2.1
          have a2 : W1.cell? ⟨x, 2, none⟩ = some (.slice oo r.T.length oc) := HD1.out.rep.cells.2.2.1
          have a3 : W1.cell? ⟨x, 3, none⟩ = some (.slice no r.N.length nc) := HD1.out.rep.cells.2.2.2
          have b0 : W1.cell? ⟨w.heap.size, 0, none⟩ = some (.int .i64 3) := cell_of HD1.out.box rfl
          have b1 : W1.cell? ⟨w.heap.size, 1, none⟩ = some (.string n) := cell_of HD1.out.box rfl
          have b2 : W1.cell? ⟨w.heap.size, 2, none⟩ = some (.string ⟨#[]⟩) := cell_of HD1.out.box rfl
          have b3 : W1.cell? ⟨w.heap.size, 3, none⟩ = some (.int .i64 k) := cell_of HD1.out.box rfl
          have qa0 := fun p os => cell_regrown a0 p os
          have qa1 := fun p os => cell_regrown a1 p os
          have qa2 := fun p os => cell_regrown a2 p os
          have qa3 := fun p os => cell_regrown a3 p os
          have qb0 := fun p os => cell_regrown b0 p os
          have qb1 := fun p os => cell_regrown b1 p os
          have qb2 := fun p os => cell_regrown b2 p os
          have qb3 := fun p os => cell_regrown b3 p os
          go_wp2_with fail
          refine wp_region_quiet_below (by kernel_rfl) (by kernel_rfl) ?_
          repeat (go_big_quiet_step (exact FI.out _ _))
          refine wpQuiet_nil ?_
          intro _ hw'
          obtain ⟨⟨dq, osq⟩, hw''⟩ := hw'
          subst hw''
          have HD2 := Lib.hid (HD1.out.stay (below_regrown W1 dq osq))
          generalize grow (redrawn W1 dq) osq = W2 at *
          clear qa0 qa1 qa2 qa3 qb0 qb1 qb2 qb3 a0 a1 a2 a3 b0 b1 b2 b3

          have a0 : W2.cell? ⟨x, 0, none⟩ = some (.int .i64 r.room) := HD2.out.rep.cells.1
          have a1 : W2.cell? ⟨x, 1, none⟩ = some kv := HD2.out.rep.cells.2.1
          have a2 : W2.cell? ⟨x, 2, none⟩ = some (.slice oo r.T.length oc) := HD2.out.rep.cells.2.2.1
          have a3 : W2.cell? ⟨x, 3, none⟩ = some (.slice no r.N.length nc) := HD2.out.rep.cells.2.2.2
          have b0 : W2.cell? ⟨w.heap.size, 0, none⟩ = some (.int .i64 3) := cell_of HD2.out.box rfl
          have b1 : W2.cell? ⟨w.heap.size, 1, none⟩ = some (.string n) := cell_of HD2.out.box rfl
          have b2 : W2.cell? ⟨w.heap.size, 2, none⟩ = some (.string ⟨#[]⟩) := cell_of HD2.out.box rfl
          have b3 : W2.cell? ⟨w.heap.size, 3, none⟩ = some (.int .i64 k) := cell_of HD2.out.box rfl
          have BQ2 := HBQ.out W2 HD2.out
          have qa0 := fun p os => cell_regrown a0 p os
          have qa1 := fun p os => cell_regrown a1 p os
          have qa2 := fun p os => cell_regrown a2 p os
          have qa3 := fun p os => cell_regrown a3 p os
          have qb0 := fun p os => cell_regrown b0 p os
          have qb1 := fun p os => cell_regrown b1 p os
          have qb2 := fun p os => cell_regrown b2 p os
          have qb3 := fun p os => cell_regrown b3 p os
          go_wp2_with fail
          refine wp_region_quiet_below (by kernel_rfl) (by kernel_rfl) ?_
          repeat (go_big_quiet_step (exact BQ2 _ _))
          refine wpQuiet_nil ?_
          intro _ hw'
          obtain ⟨⟨dq, osq⟩, hw''⟩ := hw'
          subst hw''
          have HD3 := Lib.hid (HD2.out.stay (below_regrown W2 dq osq))
          generalize grow (redrawn W2 dq) osq = W3 at *
          clear qa0 qa1 qa2 qa3 qb0 qb1 qb2 qb3 a0 a1 a2 a3 b0 b1 b2 b3
          clear BQ2

          go_wp2
          go_ret
          exact ⟨rfl, RTo.larger (HD3.out.same (by omega)) (by omega) hS⟩
        · obtain ⟨k, rfl⟩ : ∃ j : Nat, k = j := ⟨k.toNat, by omega⟩
          have e0 : E = (rput r (.trunc n k, ⟨#[]⟩), 0) := by rw [← HE.out]; simp only [rtruncM, hn, hY, hB]; simp; omega
          subst e0
          have q2 : decide ((B.size : Int) < (k : Int)) = false := by simpa using k2
          have q2' : decide (B.size < k) = false := by simp; omega

          have HMAY := Lib.hid (show may (((Do.trunc n k, ⟨#[]⟩) : Thing)).1 r.N from (show k ≤ (byt r.N n).size by rw [hB]; omega))
          have HTOT := Lib.hid (show tot r.N + (((Do.trunc n k, ⟨#[]⟩) : Thing)).2.size ≤ 1099511627776 from ht)
          have HS := Lib.hid (show S + (((Do.trunc n k, ⟨#[]⟩) : Thing)).2.size + 1 ≤ 1099511627776 from hS)
          clear h HE hn hz hY k0
          go_enter Try.func36, Try.ntmps36
          go_wp2_with fail
          rw [HW1.out]
          refine (MN _).mono ?_
          rintro e W1 ⟨rfl, rfl⟩

          have a0 : W1.cell? ⟨x, 0, none⟩ = some (.int .i64 r.room) := HD1.out.rep.cells.1
          have a1 : W1.cell? ⟨x, 1, none⟩ = some kv := HD1.out.rep.cells.2.1
          have a2 : W1.cell? ⟨x, 2, none⟩ = some (.slice oo r.T.length oc) := HD1.out.rep.cells.2.2.1
          have a3 : W1.cell? ⟨x, 3, none⟩ = some (.slice no r.N.length nc) := HD1.out.rep.cells.2.2.2
          have b0 : W1.cell? ⟨w.heap.size, 0, none⟩ = some (.int .i64 3) := cell_of HD1.out.box rfl
          have b1 : W1.cell? ⟨w.heap.size, 1, none⟩ = some (.string n) := cell_of HD1.out.box rfl
          have b2 : W1.cell? ⟨w.heap.size, 2, none⟩ = some (.string ⟨#[]⟩) := cell_of HD1.out.box rfl
          have b3 : W1.cell? ⟨w.heap.size, 3, none⟩ = some (.int .i64 k) := cell_of HD1.out.box rfl
          have qa0 := fun p os => cell_regrown a0 p os
          have qa1 := fun p os => cell_regrown a1 p os
          have qa2 := fun p os => cell_regrown a2 p os
          have qa3 := fun p os => cell_regrown a3 p os
          have qb0 := fun p os => cell_regrown b0 p os
          have qb1 := fun p os => cell_regrown b1 p os
          have qb2 := fun p os => cell_regrown b2 p os
          have qb3 := fun p os => cell_regrown b3 p os
          go_wp2_with fail
          refine wp_region_quiet_below (by kernel_rfl) (by kernel_rfl) ?_
          repeat (go_big_quiet_step (exact FI.out _ _))
          refine wpQuiet_nil ?_
          intro _ hw'
          obtain ⟨⟨dq, osq⟩, hw''⟩ := hw'
          subst hw''
          have HD2 := Lib.hid (HD1.out.stay (below_regrown W1 dq osq))
          generalize grow (redrawn W1 dq) osq = W2 at *
          clear qa0 qa1 qa2 qa3 qb0 qb1 qb2 qb3 a0 a1 a2 a3 b0 b1 b2 b3

          have a0 : W2.cell? ⟨x, 0, none⟩ = some (.int .i64 r.room) := HD2.out.rep.cells.1
          have a1 : W2.cell? ⟨x, 1, none⟩ = some kv := HD2.out.rep.cells.2.1
          have a2 : W2.cell? ⟨x, 2, none⟩ = some (.slice oo r.T.length oc) := HD2.out.rep.cells.2.2.1
          have a3 : W2.cell? ⟨x, 3, none⟩ = some (.slice no r.N.length nc) := HD2.out.rep.cells.2.2.2
          have b0 : W2.cell? ⟨w.heap.size, 0, none⟩ = some (.int .i64 3) := cell_of HD2.out.box rfl
          have b1 : W2.cell? ⟨w.heap.size, 1, none⟩ = some (.string n) := cell_of HD2.out.box rfl
          have b2 : W2.cell? ⟨w.heap.size, 2, none⟩ = some (.string ⟨#[]⟩) := cell_of HD2.out.box rfl
          have b3 : W2.cell? ⟨w.heap.size, 3, none⟩ = some (.int .i64 k) := cell_of HD2.out.box rfl
          have BQ2 := HBQ.out W2 HD2.out
          have qa0 := fun p os => cell_regrown a0 p os
          have qa1 := fun p os => cell_regrown a1 p os
          have qa2 := fun p os => cell_regrown a2 p os
          have qa3 := fun p os => cell_regrown a3 p os
          have qb0 := fun p os => cell_regrown b0 p os
          have qb1 := fun p os => cell_regrown b1 p os
          have qb2 := fun p os => cell_regrown b2 p os
          have qb3 := fun p os => cell_regrown b3 p os
          go_wp2_with fail
          refine wp_region_quiet_below (by kernel_rfl) (by kernel_rfl) ?_
          repeat (go_big_quiet_step (exact BQ2 _ _))
          refine wpQuiet_nil ?_
          intro _ hw'
          obtain ⟨⟨dq, osq⟩, hw''⟩ := hw'
          subst hw''
          have HD3 := Lib.hid (HD2.out.stay (below_regrown W2 dq osq))
          generalize grow (redrawn W2 dq) osq = W3 at *
          clear qa0 qa1 qa2 qa3 qb0 qb1 qb2 qb3 a0 a1 a2 a3 b0 b1 b2 b3
          clear BQ2

          have a0 : W3.cell? ⟨x, 0, none⟩ = some (.int .i64 r.room) := HD3.out.rep.cells.1
          have a1 : W3.cell? ⟨x, 1, none⟩ = some kv := HD3.out.rep.cells.2.1
          have a2 : W3.cell? ⟨x, 2, none⟩ = some (.slice oo r.T.length oc) := HD3.out.rep.cells.2.2.1
          have a3 : W3.cell? ⟨x, 3, none⟩ = some (.slice no r.N.length nc) := HD3.out.rep.cells.2.2.2
          have b0 : W3.cell? ⟨w.heap.size, 0, none⟩ = some (.int .i64 3) := cell_of HD3.out.box rfl
          have b1 : W3.cell? ⟨w.heap.size, 1, none⟩ = some (.string n) := cell_of HD3.out.box rfl
          have b2 : W3.cell? ⟨w.heap.size, 2, none⟩ = some (.string ⟨#[]⟩) := cell_of HD3.out.box rfl
          have b3 : W3.cell? ⟨w.heap.size, 3, none⟩ = some (.int .i64 k) := cell_of HD3.out.box rfl

          have DO := Lib.hid (rdoes_any (w := W3.drew) (HD3.out.rep.n.stay (Below.drew (Below.refl _ _))) (Nat.le_trans HD3.out.rep.len.2 HD3.out.rep.size.2.2) (Do.trunc n k, ⟨#[]⟩) HMAY.out HTOT.out)
          have HDR := Lib.hid (HD3.out.stay (Below.drew (Below.refl _ _)))
          have HMID := Lib.hid (fun (w1 : World) (o : Option Addr) (c : Nat) (hf : FL w1 (.slice o (refAct (Do.trunc n k, ⟨#[]⟩) r.N).length c) (refAct (Do.trunc n k, ⟨#[]⟩) r.N)) (hb : Below W3.drew.heap.size W3.drew w1) (ho : ∀ g, (Value.slice o (refAct (Do.trunc n k, ⟨#[]⟩) r.N).length c).ownBlock = some g → W3.drew.heap.size ≤ g) => do_mid HDR.out hf hb ho)
          have HFIN := Lib.hid (fun (o : Option Addr) (c : Nat) (U : World) (h : DoMid w x kv (.slice oo r.T.length oc) (.slice o (refAct (Do.trunc n k, ⟨#[]⟩) r.N).length c) F r.room r.K r.T (refAct (Do.trunc n k, ⟨#[]⟩) r.N) (opL (Do.trunc n k, ⟨#[]⟩)) U) (v' : Value) (w4 : World) hs hg ha => do_fin H0.out h HMAY.out HS.out (v' := v') (w4 := w4) hs hg ha)
          clear HD3 HDR

          have DO' : Hid (Calls Try.prog 54 #[.slice no r.N.length nc, .agg #[.int .i64 3, .string n, .string ⟨#[]⟩, .int .i64 k]] W3.drew fun e w' => FPost W3.drew (refAct (Do.trunc n k, ⟨#[]⟩) r.N) e w') := DO
          obtain ⟨M, HM⟩ : ∃ M, Hid (refAct (Do.trunc n k, ⟨#[]⟩) r.N = M) := ⟨_, Lib.hid rfl⟩
          rw [HM.out] at DO' HMID HFIN
          clear DO
          go_wp2_with fail
          go_region_law (go_simp; go_at_call 54; refine DO'.out.mono ?_; rintro e w1 hf; obtain ⟨fo, fc, rfl, f1, f2, f3⟩ := hf; obtain ⟨z1, z2, z3⟩ := HMID.out _ _ _ f1 f2 f3; have HZ := Lib.hid z3; clear f1 f2 f3 z3)
          all_goals
            obtain ⟨W5, HW5⟩ : ∃ W, Hid (w1.setCell ⟨x, 3, none⟩ (.slice fo M.length fc) = W) := ⟨_, Lib.hid rfl⟩
            rw [HW5.out] at HZ ⊢
            clear z1 z2 HW5
            have g2 : W5.cell? ⟨x, 2, none⟩ = some (.slice oo r.T.length oc) := cell_of HZ.out.blk rfl
            have b0 : W5.cell? ⟨w.heap.size, 0, none⟩ = some (.int .i64 3) := cell_of HZ.out.box rfl
            have b1 : W5.cell? ⟨w.heap.size, 1, none⟩ = some (.string n) := cell_of HZ.out.box rfl
            have b2 : W5.cell? ⟨w.heap.size, 2, none⟩ = some (.string ⟨#[]⟩) := cell_of HZ.out.box rfl
            have b3 : W5.cell? ⟨w.heap.size, 3, none⟩ = some (.int .i64 k) := cell_of HZ.out.box rfl
            have hx5 : x < W5.heap.size := (Array.getElem?_eq_some_iff.1 HZ.out.blk).1
            have hw5 : w.heap.size < W5.heap.size := (Array.getElem?_eq_some_iff.1 HZ.out.box).1
            have HSL := Lib.hid (show sl (W5.drew.alloc (.cells #[.int .i64 3, .string n, .string ⟨#[]⟩, .int .i64 k] 68)) 68 4 (.slice oo r.T.length oc) r.T.length (ocells r.T) from sl.stay HZ.out.drew.o (fun g hg => Below.heap_alloc _ _ _ (sl.lt HZ.out.drew.o hg)))
            have HCN := Lib.hid (cell_new4 (Go.heap_alloc_new W5.drew (.cells #[.int .i64 3, .string n, .string ⟨#[]⟩, .int .i64 k] 68)))
            have HFI := Lib.hid (fun v' w4 hs hg ha => HFIN.out fo fc W5.drew HZ.out.drew v' w4 hs hg ha)
            clear HFIN HMID
            go_wp2_with fail
            go_region_law (refine step_append_sl (by rfl) _ _ 40 (by rfl) 68 i6 z6 4 48 Try.underlying40 hi6 hz6 hsz6 hby6 hzs6 (by decide) (.slice oo r.T.length oc) r.T.length (ocells r.T) (by rfl) HSL.out (some ⟨W5.heap.size, 0, none⟩) 1 1 [.int .i64 3, .string n, .string ⟨#[]⟩, .int .i64 k] (by rfl) (by rfl) (fun _ => ⟨_, rfl, HCN.out⟩) (fun h => absurd h (by decide)) (by simp [Value.oneCell']) HTL1.out HTL2.out ?_; intro v' w4 hs hg4 ha; obtain ⟨y1, y2, y3⟩ := HFI.out v' w4 hs hg4 ha; have HY := Lib.hid y3; obtain ⟨vo, vc, rfl⟩ := sl_shape hs; clear hs hg4 ha y3)
            all_goals
              go_wp2
              go_ret
              refine ⟨rfl, ?_⟩
              have hY := HY.out
              unfold rput
              rw [HM.out]
              exact hY
end
end Go.Proofs.Ytjflkmihkfbgpaa
