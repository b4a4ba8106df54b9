/- Walks: the document's Do. -/
import Derived.Test.YtjflkmihkfbgpaaX8
namespace Go.Proofs.Ytjflkmihkfbgpaa
open Go.RowKit Mk Go.Sort
set_option linter.unusedVariables false
set_option linter.unusedSimpArgs false

def rput (r : RefM) (t : Thing) : RefM := ⟨r.room, r.K, r.T ++ [t], refAct t r.N⟩
def rroomy (r : RefM) (n : ByteArray) (k : Nat) : Bool := decide (tot r.N + k ≤ r.room) && ((lk r.N n).isSome || decide (r.N.length < 4096))
def rappendM (r : RefM) (n s : ByteArray) : RefM × Int := if named n = false then (r, 2) else if rroomy r n s.size then (rput r (.app n, s), 0) else (r, 6)
def rwriteM (r : RefM) (n s : ByteArray) : RefM × Int := if named n = false then (r, 2) else if decide (tot r.N + s.size ≤ r.room + (byt r.N n).size) && ((lk r.N n).isSome || decide (r.N.length < 4096)) then (rput r (.wr n, s), 0) else (r, 6)
def rtruncM (r : RefM) (n : ByteArray) (k : Int) : RefM × Int := if named n = false then (r, 2) else if (lk r.N n).isSome then (if k < 0 ∨ ((byt r.N n).size : Int) < k then (r, 2) else (rput r (.trunc n k.toNat, ⟨#[]⟩), 0)) else (r, 5)
def rrenameM (r : RefM) (n m : ByteArray) : RefM × Int := if named n = false ∨ named m = false then (r, 2) else if (lk r.N n).isSome then (rput r (.ren n m, ⟨#[]⟩), 0) else (r, 5)
def rremoveM (r : RefM) (n : ByteArray) : RefM × Int := if named n = false then (r, 2) else if (lk r.N n).isSome then (rput r (.rem n, ⟨#[]⟩), 0) else (r, 5)

theorem cell_new4 {w : World} {g : Nat} {a b c d : Value} {t : TypeId} (h : w.heap[g]? = some (.cells #[a, b, c, d] t)) : ∀ j u, [a, b, c, d][j]? = some u → w.cell? ((⟨g, 0, none⟩ : Addr).add j) = some u := by
  intro j u hj
  match j, hj with
  | 0, hj => simp at hj; subst hj; simp [Addr.add, World.cell?, h]
  | 1, hj => simp at hj; subst hj; simp [Addr.add, World.cell?, h]
  | 2, hj => simp at hj; subst hj; simp [Addr.add, World.cell?, h]
  | 3, hj => simp at hj; subst hj; simp [Addr.add, World.cell?, h]
section
variable {w : World} {x : Nat} {kv ov nv : Value} {F : Nat → Prop} {S : Nat} {r : RefM}
theorem DoMid.drew {room : Nat} {K : Files} {T : List Thing} {N' : Files} {nv' : Value} {cs : List Value} {W : World} (h : DoMid w x kv ov nv' F room K T N' cs W) : DoMid w x kv ov nv' F room K T N' cs W.drew :=
  ⟨h.blk, sl.stay h.k (fun _ _ => rfl), sl.stay h.o (fun _ _ => rfl), sl.stay h.n (fun _ _ => rfl), h.box, h.own, h.chg.drew, h.lt⟩
/-- find, in whatever world of the class. -/
theorem find_quiet {W : World} {v : Value} {L : Files} (h : FL W v L) (hL : L.length ≤ 1099511627776) (n : ByteArray) : ∀ (d : Nat) (os : Array Obj), Calls Try.prog 52 #[v, .string n] (grow (redrawn W d) os) fun e w'' => e = .returned (.int .i64 (findI L n 0)) ∧ ∃ p : Regrown, w'' = grow (redrawn W p.d) p.os :=
  regrown_chg (fun w' hw => (find_any (h.stay (below_of_chg hw)) hL n).mono fun e w'' hh => ⟨hh.1, by rw [hh.2]; exact Chg.refl _ _⟩)
theorem bytes_quiet {W : World} {v : Value} {L : Files} (h : FL W v L) (hL : L.length ≤ 1099511627776) (n : ByteArray) : ∀ (d : Nat) (os : Array Obj), Calls Try.prog 53 #[v, .string n] (grow (redrawn W d) os) fun e w'' => e = .returned (.string (byt L n)) ∧ ∃ p : Regrown, w'' = grow (redrawn W p.d) p.os :=
  regrown_chg (fun w' hw => (bytes_any (h.stay (below_of_chg hw)) hL n).mono fun e w'' hh => ⟨hh.1, by rw [hh.2]; exact Chg.refl _ _⟩)
theorem used_quiet {W : World} (h : RIs W x F S r) : ∀ (d : Nat) (os : Array Obj), Calls Try.prog 17 #[.pointer (some ⟨x, 0, none⟩)] (grow (redrawn W d) os) fun e w'' => e = .returned (.int .i64 (tot r.N)) ∧ ∃ p : Regrown, w'' = grow (redrawn W p.d) p.os :=
  regrown_chg (fun w' hw => (rused_any (by obtain ⟨kv, ov, nv, h⟩ := h; exact ⟨kv, ov, nv, h.below (below_of_chg hw)⟩)).mono fun e w'' hh => ⟨hh.1, by rw [hh.2]; exact Chg.refl _ _⟩)

set_option maxRecDepth 100000 in
set_option maxHeartbeats 4000000 in
theorem rdo_rem (h : RIs w x F S r) (n : ByteArray) (hS : S + 1 ≤ 1099511627776) :
    Calls Try.prog 36 #[.pointer (some ⟨x, 0, none⟩), .agg #[.int .i64 5, .string n, .string ⟨#[]⟩, .int .i64 0]] w fun e w' => e = .returned (.int .i64 (rremoveM r n).2) ∧ RTo w x F (S + 1) (rremoveM r n).1 w' := by
  obtain ⟨kv, ov, nv, h⟩ := h
  obtain ⟨oo, oc, rfl⟩ := sl_shape h.o
  obtain ⟨no, nc, rfl⟩ := h.n.shape
  obtain ⟨W1, HW1⟩ : ∃ W, Hid (w.alloc (.cells #[.int .i64 5, .string n, .string ⟨#[]⟩, .int .i64 0] 68) = W) := ⟨_, Lib.hid rfl⟩
  have hd := DoAt.new h [.int .i64 5, .string n, .string ⟨#[]⟩, .int .i64 0]
  have hd : DoAt w x kv (.slice oo r.T.length oc) (.slice no r.N.length nc) F S r [.int .i64 5, .string n, .string ⟨#[]⟩, .int .i64 0] W1 := by rw [← HW1.out]; exact hd
  have HD1 := Lib.hid hd
  have H0 := Lib.hid h
  have MY := Lib.hid (fun (s : ByteArray) (u : World) => rmay_any s u)
  have hl : r.N.length ≤ 1099511627776 := Nat.le_trans h.len.2 h.size.2.2
  have ht : tot r.N ≤ 1099511627776 := Nat.le_trans h.size.1 h.size.2.2
  obtain ⟨i6, z6, hi6, hz6, hsz6, hby6, hzs6⟩ := info68
  have HTL1 := Lib.hid (show r.T.length + 1 ≤ maxLen by have := h.len; have := h.size; simp only [maxLen]; omega)
  have HTL2 := Lib.hid (show (r.T.length + 1) * 48 ≤ 140737488355328 by have := h.len; have := h.size; omega)
  have hxl : x < W1.heap.size := hd.rep.lt
  have hwl : w.heap.size < W1.heap.size := (Array.getElem?_eq_some_iff.1 hd.box).1
  obtain ⟨E, HE⟩ : ∃ E, Hid (rremoveM r n = E) := ⟨_, Lib.hid rfl⟩
  rw [HE.out]
  clear hd
  cases hn : named n

  · have e0 : E = (r, 2) := by rw [← HE.out]; simp [rremoveM, hn]
    subst e0
    have MN := MY.out n
    rw [hn] at MN
    clear h HE hn
    go_enter Try.func36, Try.ntmps36
    go_wp2_with fail
    rw [HW1.out]
    refine (MN _).mono ?_
    rintro e w' ⟨rfl, rfl⟩
    go_wp2
    go_ret
    exact ⟨rfl, RTo.larger (HD1.out.same (by omega)) (by omega) hS⟩
  · have MN := MY.out n
    rw [hn] at MN

    obtain ⟨Y, hY⟩ : ∃ Y, (lk r.N n).isSome = Y := ⟨_, rfl⟩
    obtain ⟨z, hz⟩ : ∃ z, findI r.N n 0 = z := ⟨_, rfl⟩
    have qz : decide ((0 : Int) ≤ z) = Y := by
      rw [← hz, ← hY]
      cases hk : lk r.N n with
      | none => rw [findI_none hk]; rfl
      | some s => obtain ⟨j, hj, -⟩ := findI_some hk 0; rw [hj]; simp
    have FI := find_quiet HD1.out.rep.n hl n
    rw [hz] at FI
    have FI := Lib.hid FI
    cases Y
    · have e0 : E = (r, 5) := by rw [← HE.out]; simp only [rremoveM, hn, hY]; rfl
      subst e0
      clear h HE hn hz hY
      go_enter Try.func36, Try.ntmps36
      go_wp2_with fail
      rw [HW1.out]
      refine (MN _).mono ?_
      rintro e W1 ⟨rfl, rfl⟩

      have a0 : W1.cell? ⟨x, 0, none⟩ = some (.int .i64 r.room) := HD1.out.rep.cells.1
      have a1 : W1.cell? ⟨x, 1, none⟩ = some kv := HD1.out.rep.cells.2.1
      have a2 : W1.cell? ⟨x, 2, none⟩ = some (.slice oo r.T.length oc) := HD1.out.rep.cells.2.2.1
      have a3 : W1.cell? ⟨x, 3, none⟩ = some (.slice no r.N.length nc) := HD1.out.rep.cells.2.2.2
      have b0 : W1.cell? ⟨w.heap.size, 0, none⟩ = some (.int .i64 5) := cell_of HD1.out.box rfl
      have b1 : W1.cell? ⟨w.heap.size, 1, none⟩ = some (.string n) := cell_of HD1.out.box rfl
      have b2 : W1.cell? ⟨w.heap.size, 2, none⟩ = some (.string ⟨#[]⟩) := cell_of HD1.out.box rfl
      have b3 : W1.cell? ⟨w.heap.size, 3, none⟩ = some (.int .i64 0) := cell_of HD1.out.box rfl
      have qa0 := fun p os => cell_regrown a0 p os
      have qa1 := fun p os => cell_regrown a1 p os
      have qa2 := fun p os => cell_regrown a2 p os
      have qa3 := fun p os => cell_regrown a3 p os
      have qb0 := fun p os => cell_regrown b0 p os
      have qb1 := fun p os => cell_regrown b1 p os
      have qb2 := fun p os => cell_regrown b2 p os
      have qb3 := fun p os => cell_regrown b3 p os
      go_wp2_with fail
      refine wp_region_quiet_below (by kernel_rfl) (by kernel_rfl) ?_
      repeat (go_big_quiet_step (exact FI.out _ _))
      refine wpQuiet_nil ?_
      intro _ hw'
      obtain ⟨⟨dq, osq⟩, hw''⟩ := hw'
      subst hw''
      have HD2 := Lib.hid (HD1.out.stay (below_regrown W1 dq osq))
      generalize grow (redrawn W1 dq) osq = W2 at *
      clear qa0 qa1 qa2 qa3 qb0 qb1 qb2 qb3 a0 a1 a2 a3 b0 b1 b2 b3

      have a0 : W2.cell? ⟨x, 0, none⟩ = some (.int .i64 r.room) := HD2.out.rep.cells.1
      have a1 : W2.cell? ⟨x, 1, none⟩ = some kv := HD2.out.rep.cells.2.1
      have a2 : W2.cell? ⟨x, 2, none⟩ = some (.slice oo r.T.length oc) := HD2.out.rep.cells.2.2.1
      have a3 : W2.cell? ⟨x, 3, none⟩ = some (.slice no r.N.length nc) := HD2.out.rep.cells.2.2.2
      have b0 : W2.cell? ⟨w.heap.size, 0, none⟩ = some (.int .i64 5) := cell_of HD2.out.box rfl
      have b1 : W2.cell? ⟨w.heap.size, 1, none⟩ = some (.string n) := cell_of HD2.out.box rfl
      have b2 : W2.cell? ⟨w.heap.size, 2, none⟩ = some (.string ⟨#[]⟩) := cell_of HD2.out.box rfl
      have b3 : W2.cell? ⟨w.heap.size, 3, none⟩ = some (.int .i64 0) := cell_of HD2.out.box rfl

      go_wp2
      go_ret
      exact ⟨rfl, RTo.larger (HD2.out.same (by omega)) (by omega) hS⟩
    · have e0 : E = (rput r (Do.rem n, ⟨#[]⟩), 0) := by rw [← HE.out]; simp only [rremoveM, hn, hY]; rfl
      subst e0

      have HMAY := Lib.hid (show may (((Do.rem n, ⟨#[]⟩) : Thing)).1 r.N from trivial)
      have HTOT := Lib.hid (show tot r.N + (((Do.rem n, ⟨#[]⟩) : Thing)).2.size ≤ 1099511627776 from ht)
      have HS := Lib.hid (show S + (((Do.rem n, ⟨#[]⟩) : Thing)).2.size + 1 ≤ 1099511627776 from hS)
      clear h HE hn hz hY
      go_enter Try.func36, Try.ntmps36
      go_wp2_with fail
      rw [HW1.out]
      refine (MN _).mono ?_
      rintro e W1 ⟨rfl, rfl⟩

      have a0 : W1.cell? ⟨x, 0, none⟩ = some (.int .i64 r.room) := HD1.out.rep.cells.1
      have a1 : W1.cell? ⟨x, 1, none⟩ = some kv := HD1.out.rep.cells.2.1
      have a2 : W1.cell? ⟨x, 2, none⟩ = some (.slice oo r.T.length oc) := HD1.out.rep.cells.2.2.1
      have a3 : W1.cell? ⟨x, 3, none⟩ = some (.slice no r.N.length nc) := HD1.out.rep.cells.2.2.2
      have b0 : W1.cell? ⟨w.heap.size, 0, none⟩ = some (.int .i64 5) := cell_of HD1.out.box rfl
      have b1 : W1.cell? ⟨w.heap.size, 1, none⟩ = some (.string n) := cell_of HD1.out.box rfl
      have b2 : W1.cell? ⟨w.heap.size, 2, none⟩ = some (.string ⟨#[]⟩) := cell_of HD1.out.box rfl
      have b3 : W1.cell? ⟨w.heap.size, 3, none⟩ = some (.int .i64 0) := cell_of HD1.out.box rfl
      have qa0 := fun p os => cell_regrown a0 p os
      have qa1 := fun p os => cell_regrown a1 p os
      have qa2 := fun p os => cell_regrown a2 p os
      have qa3 := fun p os => cell_regrown a3 p os
      have qb0 := fun p os => cell_regrown b0 p os
      have qb1 := fun p os => cell_regrown b1 p os
      have qb2 := fun p os => cell_regrown b2 p os
      have qb3 := fun p os => cell_regrown b3 p os
      go_wp2_with fail
      refine wp_region_quiet_below (by kernel_rfl) (by kernel_rfl) ?_
      repeat (go_big_quiet_step (exact FI.out _ _))
      refine wpQuiet_nil ?_
      intro _ hw'
      obtain ⟨⟨dq, osq⟩, hw''⟩ := hw'
      subst hw''
      have HD2 := Lib.hid (HD1.out.stay (below_regrown W1 dq osq))
      generalize grow (redrawn W1 dq) osq = W2 at *
      clear qa0 qa1 qa2 qa3 qb0 qb1 qb2 qb3 a0 a1 a2 a3 b0 b1 b2 b3

      have a0 : W2.cell? ⟨x, 0, none⟩ = some (.int .i64 r.room) := HD2.out.rep.cells.1
      have a1 : W2.cell? ⟨x, 1, none⟩ = some kv := HD2.out.rep.cells.2.1
      have a2 : W2.cell? ⟨x, 2, none⟩ = some (.slice oo r.T.length oc) := HD2.out.rep.cells.2.2.1
      have a3 : W2.cell? ⟨x, 3, none⟩ = some (.slice no r.N.length nc) := HD2.out.rep.cells.2.2.2
      have b0 : W2.cell? ⟨w.heap.size, 0, none⟩ = some (.int .i64 5) := cell_of HD2.out.box rfl
      have b1 : W2.cell? ⟨w.heap.size, 1, none⟩ = some (.string n) := cell_of HD2.out.box rfl
      have b2 : W2.cell? ⟨w.heap.size, 2, none⟩ = some (.string ⟨#[]⟩) := cell_of HD2.out.box rfl
      have b3 : W2.cell? ⟨w.heap.size, 3, none⟩ = some (.int .i64 0) := cell_of HD2.out.box rfl
      have F0 : ∀ (p : Nat) (os : Array Obj), True := fun _ _ => trivial
      have qa0 := fun p os => cell_regrown a0 p os
      have qa1 := fun p os => cell_regrown a1 p os
      have qa2 := fun p os => cell_regrown a2 p os
      have qa3 := fun p os => cell_regrown a3 p os
      have qb0 := fun p os => cell_regrown b0 p os
      have qb1 := fun p os => cell_regrown b1 p os
      have qb2 := fun p os => cell_regrown b2 p os
      have qb3 := fun p os => cell_regrown b3 p os
      go_wp2_with fail
      refine wp_region_quiet_below (by kernel_rfl) (by kernel_rfl) ?_
      repeat (go_big_quiet_step (exact F0 _ _))
      refine wpQuiet_nil ?_
      intro _ hw'
      obtain ⟨⟨dq, osq⟩, hw''⟩ := hw'
      subst hw''
      have HD3 := Lib.hid (HD2.out.stay (below_regrown W2 dq osq))
      generalize grow (redrawn W2 dq) osq = W3 at *
      clear qa0 qa1 qa2 qa3 qb0 qb1 qb2 qb3 a0 a1 a2 a3 b0 b1 b2 b3

      have a0 : W3.cell? ⟨x, 0, none⟩ = some (.int .i64 r.room) := HD3.out.rep.cells.1
      have a1 : W3.cell? ⟨x, 1, none⟩ = some kv := HD3.out.rep.cells.2.1
      have a2 : W3.cell? ⟨x, 2, none⟩ = some (.slice oo r.T.length oc) := HD3.out.rep.cells.2.2.1
      have a3 : W3.cell? ⟨x, 3, none⟩ = some (.slice no r.N.length nc) := HD3.out.rep.cells.2.2.2
      have b0 : W3.cell? ⟨w.heap.size, 0, none⟩ = some (.int .i64 5) := cell_of HD3.out.box rfl
      have b1 : W3.cell? ⟨w.heap.size, 1, none⟩ = some (.string n) := cell_of HD3.out.box rfl
      have b2 : W3.cell? ⟨w.heap.size, 2, none⟩ = some (.string ⟨#[]⟩) := cell_of HD3.out.box rfl
      have b3 : W3.cell? ⟨w.heap.size, 3, none⟩ = some (.int .i64 0) := cell_of HD3.out.box rfl

      have DO := Lib.hid (rdoes_any (w := W3.drew) (HD3.out.rep.n.stay (Below.drew (Below.refl _ _))) (Nat.le_trans HD3.out.rep.len.2 HD3.out.rep.size.2.2) (Do.rem n, ⟨#[]⟩) HMAY.out HTOT.out)
      have HDR := Lib.hid (HD3.out.stay (Below.drew (Below.refl _ _)))
      have HMID := Lib.hid (fun (w1 : World) (o : Option Addr) (c : Nat) (hf : FL w1 (.slice o (refAct (Do.rem n, ⟨#[]⟩) r.N).length c) (refAct (Do.rem n, ⟨#[]⟩) r.N)) (hb : Below W3.drew.heap.size W3.drew w1) (ho : ∀ g, (Value.slice o (refAct (Do.rem n, ⟨#[]⟩) r.N).length c).ownBlock = some g → W3.drew.heap.size ≤ g) => do_mid HDR.out hf hb ho)
      have HFIN := Lib.hid (fun (o : Option Addr) (c : Nat) (U : World) (h : DoMid w x kv (.slice oo r.T.length oc) (.slice o (refAct (Do.rem n, ⟨#[]⟩) r.N).length c) F r.room r.K r.T (refAct (Do.rem n, ⟨#[]⟩) r.N) (opL (Do.rem n, ⟨#[]⟩)) U) (v' : Value) (w4 : World) hs hg ha => do_fin H0.out h HMAY.out HS.out (v' := v') (w4 := w4) hs hg ha)
      clear HD3 HDR

      have DO' : Hid (Calls Try.prog 54 #[.slice no r.N.length nc, .agg #[.int .i64 5, .string n, .string ⟨#[]⟩, .int .i64 0]] W3.drew fun e w' => FPost W3.drew (refAct (Do.rem n, ⟨#[]⟩) r.N) e w') := DO
      obtain ⟨M, HM⟩ : ∃ M, Hid (refAct (Do.rem n, ⟨#[]⟩) r.N = M) := ⟨_, Lib.hid rfl⟩
      rw [HM.out] at DO' HMID HFIN
      clear DO
      go_wp2_with fail
      go_region_law (go_simp; go_at_call 54; refine DO'.out.mono ?_; rintro e w1 hf; obtain ⟨fo, fc, rfl, f1, f2, f3⟩ := hf; obtain ⟨z1, z2, z3⟩ := HMID.out _ _ _ f1 f2 f3; have HZ := Lib.hid z3; clear f1 f2 f3 z3)
      all_goals
        obtain ⟨W5, HW5⟩ : ∃ W, Hid (w1.setCell ⟨x, 3, none⟩ (.slice fo M.length fc) = W) := ⟨_, Lib.hid rfl⟩
        rw [HW5.out] at HZ ⊢
        clear z1 z2 HW5
        have g2 : W5.cell? ⟨x, 2, none⟩ = some (.slice oo r.T.length oc) := cell_of HZ.out.blk rfl
        have b0 : W5.cell? ⟨w.heap.size, 0, none⟩ = some (.int .i64 5) := cell_of HZ.out.box rfl
        have b1 : W5.cell? ⟨w.heap.size, 1, none⟩ = some (.string n) := cell_of HZ.out.box rfl
        have b2 : W5.cell? ⟨w.heap.size, 2, none⟩ = some (.string ⟨#[]⟩) := cell_of HZ.out.box rfl
        have b3 : W5.cell? ⟨w.heap.size, 3, none⟩ = some (.int .i64 0) := cell_of HZ.out.box rfl
        have hx5 : x < W5.heap.size := (Array.getElem?_eq_some_iff.1 HZ.out.blk).1
        have hw5 : w.heap.size < W5.heap.size := (Array.getElem?_eq_some_iff.1 HZ.out.box).1
        have HSL := Lib.hid (show sl (W5.drew.alloc (.cells #[.int .i64 5, .string n, .string ⟨#[]⟩, .int .i64 0] 68)) 68 4 (.slice oo r.T.length oc) r.T.length (ocells r.T) from sl.stay HZ.out.drew.o (fun g hg => Below.heap_alloc _ _ _ (sl.lt HZ.out.drew.o hg)))
        have HCN := Lib.hid (cell_new4 (Go.heap_alloc_new W5.drew (.cells #[.int .i64 5, .string n, .string ⟨#[]⟩, .int .i64 0] 68)))
        have HFI := Lib.hid (fun v' w4 hs hg ha => HFIN.out fo fc W5.drew HZ.out.drew v' w4 hs hg ha)
        clear HFIN HMID
        go_wp2_with fail
        go_region_law (refine step_append_sl (by rfl) _ _ 40 (by rfl) 68 i6 z6 4 48 Try.underlying40 hi6 hz6 hsz6 hby6 hzs6 (by decide) (.slice oo r.T.length oc) r.T.length (ocells r.T) (by rfl) HSL.out (some ⟨W5.heap.size, 0, none⟩) 1 1 [.int .i64 5, .string n, .string ⟨#[]⟩, .int .i64 0] (by rfl) (by rfl) (fun _ => ⟨_, rfl, HCN.out⟩) (fun h => absurd h (by decide)) (by simp [Value.oneCell']) HTL1.out HTL2.out ?_; intro v' w4 hs hg4 ha; obtain ⟨y1, y2, y3⟩ := HFI.out v' w4 hs hg4 ha; have HY := Lib.hid y3; obtain ⟨vo, vc, rfl⟩ := sl_shape hs; clear hs hg4 ha y3)
        all_goals
          go_wp2
          go_ret
          refine ⟨rfl, ?_⟩
          have hY := HY.out
          unfold rput
          rw [HM.out]
          exact hY

set_option maxRecDepth 100000 in
set_option maxHeartbeats 4000000 in
theorem rdo_ren (h : RIs w x F S r) (n m : ByteArray) (hS : S + 1 ≤ 1099511627776) :
    Calls Try.prog 36 #[.pointer (some ⟨x, 0, none⟩), .agg #[.int .i64 4, .string n, .string m, .int .i64 0]] w fun e w' => e = .returned (.int .i64 (rrenameM r n m).2) ∧ RTo w x F (S + 1) (rrenameM r n m).1 w' := by
  obtain ⟨kv, ov, nv, h⟩ := h
  obtain ⟨oo, oc, rfl⟩ := sl_shape h.o
  obtain ⟨no, nc, rfl⟩ := h.n.shape
  obtain ⟨W1, HW1⟩ : ∃ W, Hid (w.alloc (.cells #[.int .i64 4, .string n, .string m, .int .i64 0] 68) = W) := ⟨_, Lib.hid rfl⟩
  have hd := DoAt.new h [.int .i64 4, .string n, .string m, .int .i64 0]
  have hd : DoAt w x kv (.slice oo r.T.length oc) (.slice no r.N.length nc) F S r [.int .i64 4, .string n, .string m, .int .i64 0] W1 := by rw [← HW1.out]; exact hd
  have HD1 := Lib.hid hd
  have H0 := Lib.hid h
  have MY := Lib.hid (fun (s : ByteArray) (u : World) => rmay_any s u)
  have hl : r.N.length ≤ 1099511627776 := Nat.le_trans h.len.2 h.size.2.2
  have ht : tot r.N ≤ 1099511627776 := Nat.le_trans h.size.1 h.size.2.2
  obtain ⟨i6, z6, hi6, hz6, hsz6, hby6, hzs6⟩ := info68
  have HTL1 := Lib.hid (show r.T.length + 1 ≤ maxLen by have := h.len; have := h.size; simp only [maxLen]; omega)
  have HTL2 := Lib.hid (show (r.T.length + 1) * 48 ≤ 140737488355328 by have := h.len; have := h.size; omega)
  have hxl : x < W1.heap.size := hd.rep.lt
  have hwl : w.heap.size < W1.heap.size := (Array.getElem?_eq_some_iff.1 hd.box).1
  obtain ⟨E, HE⟩ : ∃ E, Hid (rrenameM r n m = E) := ⟨_, Lib.hid rfl⟩
  rw [HE.out]
  clear hd
  cases hn : named n

  · have e0 : E = (r, 2) := by rw [← HE.out]; simp [rrenameM, hn]
    subst e0
    have MN := MY.out n
    rw [hn] at MN
    clear h HE hn
    go_enter Try.func36, Try.ntmps36
    go_wp2_with fail
    rw [HW1.out]
    refine (MN _).mono ?_
    rintro e w' ⟨rfl, rfl⟩
    go_wp2
    go_ret
    exact ⟨rfl, RTo.larger (HD1.out.same (by omega)) (by omega) hS⟩
  · have MN := MY.out n
    rw [hn] at MN
    cases hm : named m
    · have e0 : E = (r, 2) := by rw [← HE.out]; simp [rrenameM, hn, hm]
      subst e0
      have MN2 := MY.out m
      rw [hm] at MN2
      clear h HE hn hm
      go_enter Try.func36, Try.ntmps36
      go_wp2_with fail
      rw [HW1.out]
      refine (MN _).mono ?_
      rintro e W1 ⟨rfl, rfl⟩

      have a0 : W1.cell? ⟨x, 0, none⟩ = some (.int .i64 r.room) := HD1.out.rep.cells.1
      have a1 : W1.cell? ⟨x, 1, none⟩ = some kv := HD1.out.rep.cells.2.1
      have a2 : W1.cell? ⟨x, 2, none⟩ = some (.slice oo r.T.length oc) := HD1.out.rep.cells.2.2.1
      have a3 : W1.cell? ⟨x, 3, none⟩ = some (.slice no r.N.length nc) := HD1.out.rep.cells.2.2.2
      have b0 : W1.cell? ⟨w.heap.size, 0, none⟩ = some (.int .i64 4) := cell_of HD1.out.box rfl
      have b1 : W1.cell? ⟨w.heap.size, 1, none⟩ = some (.string n) := cell_of HD1.out.box rfl
      have b2 : W1.cell? ⟨w.heap.size, 2, none⟩ = some (.string m) := cell_of HD1.out.box rfl
      have b3 : W1.cell? ⟨w.heap.size, 3, none⟩ = some (.int .i64 0) := cell_of HD1.out.box rfl
      go_wp2_with fail
      refine (MN2 _).mono ?_
      rintro e W1 ⟨rfl, rfl⟩
      clear a0 a1 a2 a3 b0 b1 b2 b3

      go_wp2
      go_ret
      exact ⟨rfl, HD1.out.same hS⟩
    · have MN2 := MY.out m
      rw [hm] at MN2

      obtain ⟨Y, hY⟩ : ∃ Y, (lk r.N n).isSome = Y := ⟨_, rfl⟩
      obtain ⟨z, hz⟩ : ∃ z, findI r.N n 0 = z := ⟨_, rfl⟩
      have qz : decide ((0 : Int) ≤ z) = Y := by
        rw [← hz, ← hY]
        cases hk : lk r.N n with
        | none => rw [findI_none hk]; rfl
        | some s => obtain ⟨j, hj, -⟩ := findI_some hk 0; rw [hj]; simp
      have FI := find_quiet HD1.out.rep.n hl n
      rw [hz] at FI
      have FI := Lib.hid FI
      cases Y
      · have e0 : E = (r, 5) := by rw [← HE.out]; simp only [rrenameM, hn, hm, hY]; rfl
        subst e0
        clear h HE hn hz hY
        go_enter Try.func36, Try.ntmps36
        go_wp2_with fail
        rw [HW1.out]
        refine (MN _).mono ?_
        rintro e W1 ⟨rfl, rfl⟩

        have a0 : W1.cell? ⟨x, 0, none⟩ = some (.int .i64 r.room) := HD1.out.rep.cells.1
        have a1 : W1.cell? ⟨x, 1, none⟩ = some kv := HD1.out.rep.cells.2.1
        have a2 : W1.cell? ⟨x, 2, none⟩ = some (.slice oo r.T.length oc) := HD1.out.rep.cells.2.2.1
        have a3 : W1.cell? ⟨x, 3, none⟩ = some (.slice no r.N.length nc) := HD1.out.rep.cells.2.2.2
        have b0 : W1.cell? ⟨w.heap.size, 0, none⟩ = some (.int .i64 4) := cell_of HD1.out.box rfl
        have b1 : W1.cell? ⟨w.heap.size, 1, none⟩ = some (.string n) := cell_of HD1.out.box rfl
        have b2 : W1.cell? ⟨w.heap.size, 2, none⟩ = some (.string m) := cell_of HD1.out.box rfl
        have b3 : W1.cell? ⟨w.heap.size, 3, none⟩ = some (.int .i64 0) := cell_of HD1.out.box rfl
        go_wp2_with fail
        refine (MN2 _).mono ?_
        rintro e W1 ⟨rfl, rfl⟩
        clear a0 a1 a2 a3 b0 b1 b2 b3

        have a0 : W1.cell? ⟨x, 0, none⟩ = some (.int .i64 r.room) := HD1.out.rep.cells.1
        have a1 : W1.cell? ⟨x, 1, none⟩ = some kv := HD1.out.rep.cells.2.1
        have a2 : W1.cell? ⟨x, 2, none⟩ = some (.slice oo r.T.length oc) := HD1.out.rep.cells.2.2.1
        have a3 : W1.cell? ⟨x, 3, none⟩ = some (.slice no r.N.length nc) := HD1.out.rep.cells.2.2.2
        have b0 : W1.cell? ⟨w.heap.size, 0, none⟩ = some (.int .i64 4) := cell_of HD1.out.box rfl
        have b1 : W1.cell? ⟨w.heap.size, 1, none⟩ = some (.string n) := cell_of HD1.out.box rfl
        have b2 : W1.cell? ⟨w.heap.size, 2, none⟩ = some (.string m) := cell_of HD1.out.box rfl
        have b3 : W1.cell? ⟨w.heap.size, 3, none⟩ = some (.int .i64 0) := cell_of HD1.out.box rfl
        have qa0 := fun p os => cell_regrown a0 p os
        have qa1 := fun p os => cell_regrown a1 p os
        have qa2 := fun p os => cell_regrown a2 p os
        have qa3 := fun p os => cell_regrown a3 p os
        have qb0 := fun p os => cell_regrown b0 p os
        have qb1 := fun p os => cell_regrown b1 p os
        have qb2 := fun p os => cell_regrown b2 p os
        have qb3 := fun p os => cell_regrown b3 p os
        go_wp2_with fail
        refine wp_region_quiet_below (by kernel_rfl) (by kernel_rfl) ?_
        repeat (go_big_quiet_step (exact FI.out _ _))
        refine wpQuiet_nil ?_
        intro _ hw'
        obtain ⟨⟨dq, osq⟩, hw''⟩ := hw'
        subst hw''
        have HD2 := Lib.hid (HD1.out.stay (below_regrown W1 dq osq))
        generalize grow (redrawn W1 dq) osq = W2 at *
        clear qa0 qa1 qa2 qa3 qb0 qb1 qb2 qb3 a0 a1 a2 a3 b0 b1 b2 b3

        have a0 : W2.cell? ⟨x, 0, none⟩ = some (.int .i64 r.room) := HD2.out.rep.cells.1
        have a1 : W2.cell? ⟨x, 1, none⟩ = some kv := HD2.out.rep.cells.2.1
        have a2 : W2.cell? ⟨x, 2, none⟩ = some (.slice oo r.T.length oc) := HD2.out.rep.cells.2.2.1
        have a3 : W2.cell? ⟨x, 3, none⟩ = some (.slice no r.N.length nc) := HD2.out.rep.cells.2.2.2
        have b0 : W2.cell? ⟨w.heap.size, 0, none⟩ = some (.int .i64 4) := cell_of HD2.out.box rfl
        have b1 : W2.cell? ⟨w.heap.size, 1, none⟩ = some (.string n) := cell_of HD2.out.box rfl
        have b2 : W2.cell? ⟨w.heap.size, 2, none⟩ = some (.string m) := cell_of HD2.out.box rfl
        have b3 : W2.cell? ⟨w.heap.size, 3, none⟩ = some (.int .i64 0) := cell_of HD2.out.box rfl

        go_wp2
        go_ret
        exact ⟨rfl, RTo.larger (HD2.out.same (by omega)) (by omega) hS⟩
      · have e0 : E = (rput r (Do.ren n m, ⟨#[]⟩), 0) := by rw [← HE.out]; simp only [rrenameM, hn, hm, hY]; rfl
        subst e0

        have HMAY := Lib.hid (show may (((Do.ren n m, ⟨#[]⟩) : Thing)).1 r.N from trivial)
        have HTOT := Lib.hid (show tot r.N + (((Do.ren n m, ⟨#[]⟩) : Thing)).2.size ≤ 1099511627776 from ht)
        have HS := Lib.hid (show S + (((Do.ren n m, ⟨#[]⟩) : Thing)).2.size + 1 ≤ 1099511627776 from hS)
        clear h HE hn hz hY
        go_enter Try.func36, Try.ntmps36
        go_wp2_with fail
        rw [HW1.out]
        refine (MN _).mono ?_
        rintro e W1 ⟨rfl, rfl⟩

        have a0 : W1.cell? ⟨x, 0, none⟩ = some (.int .i64 r.room) := HD1.out.rep.cells.1
        have a1 : W1.cell? ⟨x, 1, none⟩ = some kv := HD1.out.rep.cells.2.1
        have a2 : W1.cell? ⟨x, 2, none⟩ = some (.slice oo r.T.length oc) := HD1.out.rep.cells.2.2.1
        have a3 : W1.cell? ⟨x, 3, none⟩ = some (.slice no r.N.length nc) := HD1.out.rep.cells.2.2.2
        have b0 : W1.cell? ⟨w.heap.size, 0, none⟩ = some (.int .i64 4) := cell_of HD1.out.box rfl
        have b1 : W1.cell? ⟨w.heap.size, 1, none⟩ = some (.string n) := cell_of HD1.out.box rfl
        have b2 : W1.cell? ⟨w.heap.size, 2, none⟩ = some (.string m) := cell_of HD1.out.box rfl
        have b3 : W1.cell? ⟨w.heap.size, 3, none⟩ = some (.int .i64 0) := cell_of HD1.out.box rfl
        go_wp2_with fail
        refine (MN2 _).mono ?_
        rintro e W1 ⟨rfl, rfl⟩
        clear a0 a1 a2 a3 b0 b1 b2 b3

        have a0 : W1.cell? ⟨x, 0, none⟩ = some (.int .i64 r.room) := HD1.out.rep.cells.1
        have a1 : W1.cell? ⟨x, 1, none⟩ = some kv := HD1.out.rep.cells.2.1
        have a2 : W1.cell? ⟨x, 2, none⟩ = some (.slice oo r.T.length oc) := HD1.out.rep.cells.2.2.1
        have a3 : W1.cell? ⟨x, 3, none⟩ = some (.slice no r.N.length nc) := HD1.out.rep.cells.2.2.2
        have b0 : W1.cell? ⟨w.heap.size, 0, none⟩ = some (.int .i64 4) := cell_of HD1.out.box rfl
        have b1 : W1.cell? ⟨w.heap.size, 1, none⟩ = some (.string n) := cell_of HD1.out.box rfl
        have b2 : W1.cell? ⟨w.heap.size, 2, none⟩ = some (.string m) := cell_of HD1.out.box rfl
        have b3 : W1.cell? ⟨w.heap.size, 3, none⟩ = some (.int .i64 0) := cell_of HD1.out.box rfl
        have qa0 := fun p os => cell_regrown a0 p os
        have qa1 := fun p os => cell_regrown a1 p os
        have qa2 := fun p os => cell_regrown a2 p os
        have qa3 := fun p os => cell_regrown a3 p os
        have qb0 := fun p os => cell_regrown b0 p os
        have qb1 := fun p os => cell_regrown b1 p os
        have qb2 := fun p os => cell_regrown b2 p os
        have qb3 := fun p os => cell_regrown b3 p os
        go_wp2_with fail
        refine wp_region_quiet_below (by kernel_rfl) (by kernel_rfl) ?_
        repeat (go_big_quiet_step (exact FI.out _ _))
        refine wpQuiet_nil ?_
        intro _ hw'
        obtain ⟨⟨dq, osq⟩, hw''⟩ := hw'
        subst hw''
        have HD2 := Lib.hid (HD1.out.stay (below_regrown W1 dq osq))
        generalize grow (redrawn W1 dq) osq = W2 at *
        clear qa0 qa1 qa2 qa3 qb0 qb1 qb2 qb3 a0 a1 a2 a3 b0 b1 b2 b3

        have a0 : W2.cell? ⟨x, 0, none⟩ = some (.int .i64 r.room) := HD2.out.rep.cells.1
        have a1 : W2.cell? ⟨x, 1, none⟩ = some kv := HD2.out.rep.cells.2.1
        have a2 : W2.cell? ⟨x, 2, none⟩ = some (.slice oo r.T.length oc) := HD2.out.rep.cells.2.2.1
        have a3 : W2.cell? ⟨x, 3, none⟩ = some (.slice no r.N.length nc) := HD2.out.rep.cells.2.2.2
        have b0 : W2.cell? ⟨w.heap.size, 0, none⟩ = some (.int .i64 4) := cell_of HD2.out.box rfl
        have b1 : W2.cell? ⟨w.heap.size, 1, none⟩ = some (.string n) := cell_of HD2.out.box rfl
        have b2 : W2.cell? ⟨w.heap.size, 2, none⟩ = some (.string m) := cell_of HD2.out.box rfl
        have b3 : W2.cell? ⟨w.heap.size, 3, none⟩ = some (.int .i64 0) := cell_of HD2.out.box rfl
        have F0 : ∀ (p : Nat) (os : Array Obj), True := fun _ _ => trivial
        have qa0 := fun p os => cell_regrown a0 p os
        have qa1 := fun p os => cell_regrown a1 p os
        have qa2 := fun p os => cell_regrown a2 p os
        have qa3 := fun p os => cell_regrown a3 p os
        have qb0 := fun p os => cell_regrown b0 p os
        have qb1 := fun p os => cell_regrown b1 p os
        have qb2 := fun p os => cell_regrown b2 p os
        have qb3 := fun p os => cell_regrown b3 p os
        go_wp2_with fail
        refine wp_region_quiet_below (by kernel_rfl) (by kernel_rfl) ?_
        repeat (go_big_quiet_step (exact F0 _ _))
        refine wpQuiet_nil ?_
        intro _ hw'
        obtain ⟨⟨dq, osq⟩, hw''⟩ := hw'
        subst hw''
        have HD3 := Lib.hid (HD2.out.stay (below_regrown W2 dq osq))
        generalize grow (redrawn W2 dq) osq = W3 at *
        clear qa0 qa1 qa2 qa3 qb0 qb1 qb2 qb3 a0 a1 a2 a3 b0 b1 b2 b3

        have a0 : W3.cell? ⟨x, 0, none⟩ = some (.int .i64 r.room) := HD3.out.rep.cells.1
        have a1 : W3.cell? ⟨x, 1, none⟩ = some kv := HD3.out.rep.cells.2.1
        have a2 : W3.cell? ⟨x, 2, none⟩ = some (.slice oo r.T.length oc) := HD3.out.rep.cells.2.2.1
        have a3 : W3.cell? ⟨x, 3, none⟩ = some (.slice no r.N.length nc) := HD3.out.rep.cells.2.2.2
        have b0 : W3.cell? ⟨w.heap.size, 0, none⟩ = some (.int .i64 4) := cell_of HD3.out.box rfl
        have b1 : W3.cell? ⟨w.heap.size, 1, none⟩ = some (.string n) := cell_of HD3.out.box rfl
        have b2 : W3.cell? ⟨w.heap.size, 2, none⟩ = some (.string m) := cell_of HD3.out.box rfl
        have b3 : W3.cell? ⟨w.heap.size, 3, none⟩ = some (.int .i64 0) := cell_of HD3.out.box rfl

        have DO := Lib.hid (rdoes_any (w := W3.drew) (HD3.out.rep.n.stay (Below.drew (Below.refl _ _))) (Nat.le_trans HD3.out.rep.len.2 HD3.out.rep.size.2.2) (Do.ren n m, ⟨#[]⟩) HMAY.out HTOT.out)
        have HDR := Lib.hid (HD3.out.stay (Below.drew (Below.refl _ _)))
        have HMID := Lib.hid (fun (w1 : World) (o : Option Addr) (c : Nat) (hf : FL w1 (.slice o (refAct (Do.ren n m, ⟨#[]⟩) r.N).length c) (refAct (Do.ren n m, ⟨#[]⟩) r.N)) (hb : Below W3.drew.heap.size W3.drew w1) (ho : ∀ g, (Value.slice o (refAct (Do.ren n m, ⟨#[]⟩) r.N).length c).ownBlock = some g → W3.drew.heap.size ≤ g) => do_mid HDR.out hf hb ho)
        have HFIN := Lib.hid (fun (o : Option Addr) (c : Nat) (U : World) (h : DoMid w x kv (.slice oo r.T.length oc) (.slice o (refAct (Do.ren n m, ⟨#[]⟩) r.N).length c) F r.room r.K r.T (refAct (Do.ren n m, ⟨#[]⟩) r.N) (opL (Do.ren n m, ⟨#[]⟩)) U) (v' : Value) (w4 : World) hs hg ha => do_fin H0.out h HMAY.out HS.out (v' := v') (w4 := w4) hs hg ha)
        clear HD3 HDR

        have DO' : Hid (Calls Try.prog 54 #[.slice no r.N.length nc, .agg #[.int .i64 4, .string n, .string m, .int .i64 0]] W3.drew fun e w' => FPost W3.drew (refAct (Do.ren n m, ⟨#[]⟩) r.N) e w') := DO
        obtain ⟨M, HM⟩ : ∃ M, Hid (refAct (Do.ren n m, ⟨#[]⟩) r.N = M) := ⟨_, Lib.hid rfl⟩
        rw [HM.out] at DO' HMID HFIN
        clear DO
        go_wp2_with fail
        go_region_law (go_simp; go_at_call 54; refine DO'.out.mono ?_; rintro e w1 hf; obtain ⟨fo, fc, rfl, f1, f2, f3⟩ := hf; obtain ⟨z1, z2, z3⟩ := HMID.out _ _ _ f1 f2 f3; have HZ := Lib.hid z3; clear f1 f2 f3 z3)
        all_goals
          obtain ⟨W5, HW5⟩ : ∃ W, Hid (w1.setCell ⟨x, 3, none⟩ (.slice fo M.length fc) = W) := ⟨_, Lib.hid rfl⟩
          rw [HW5.out] at HZ ⊢
          clear z1 z2 HW5
          have g2 : W5.cell? ⟨x, 2, none⟩ = some (.slice oo r.T.length oc) := cell_of HZ.out.blk rfl
          have b0 : W5.cell? ⟨w.heap.size, 0, none⟩ = some (.int .i64 4) := cell_of HZ.out.box rfl
          have b1 : W5.cell? ⟨w.heap.size, 1, none⟩ = some (.string n) := cell_of HZ.out.box rfl
          have b2 : W5.cell? ⟨w.heap.size, 2, none⟩ = some (.string m) := cell_of HZ.out.box rfl
          have b3 : W5.cell? ⟨w.heap.size, 3, none⟩ = some (.int .i64 0) := cell_of HZ.out.box rfl
          have hx5 : x < W5.heap.size := (Array.getElem?_eq_some_iff.1 HZ.out.blk).1
          have hw5 : w.heap.size < W5.heap.size := (Array.getElem?_eq_some_iff.1 HZ.out.box).1
          have HSL := Lib.hid (show sl (W5.drew.alloc (.cells #[.int .i64 4, .string n, .string m, .int .i64 0] 68)) 68 4 (.slice oo r.T.length oc) r.T.length (ocells r.T) from sl.stay HZ.out.drew.o (fun g hg => Below.heap_alloc _ _ _ (sl.lt HZ.out.drew.o hg)))
          have HCN := Lib.hid (cell_new4 (Go.heap_alloc_new W5.drew (.cells #[.int .i64 4, .string n, .string m, .int .i64 0] 68)))
          have HFI := Lib.hid (fun v' w4 hs hg ha => HFIN.out fo fc W5.drew HZ.out.drew v' w4 hs hg ha)
          clear HFIN HMID
          go_wp2_with fail
          go_region_law (refine step_append_sl (by rfl) _ _ 40 (by rfl) 68 i6 z6 4 48 Try.underlying40 hi6 hz6 hsz6 hby6 hzs6 (by decide) (.slice oo r.T.length oc) r.T.length (ocells r.T) (by rfl) HSL.out (some ⟨W5.heap.size, 0, none⟩) 1 1 [.int .i64 4, .string n, .string m, .int .i64 0] (by rfl) (by rfl) (fun _ => ⟨_, rfl, HCN.out⟩) (fun h => absurd h (by decide)) (by simp [Value.oneCell']) HTL1.out HTL2.out ?_; intro v' w4 hs hg4 ha; obtain ⟨y1, y2, y3⟩ := HFI.out v' w4 hs hg4 ha; have HY := Lib.hid y3; obtain ⟨vo, vc, rfl⟩ := sl_shape hs; clear hs hg4 ha y3)
          all_goals
            go_wp2
            go_ret
            refine ⟨rfl, ?_⟩
            have hY := HY.out
            unfold rput
            rw [HM.out]
            exact hY

set_option maxRecDepth 100000 in
set_option maxHeartbeats 4000000 in
theorem rdo_app (h : RIs w x F S r) (n s : ByteArray) (hS : S + s.size + 1 ≤ 1099511627776) :
    Calls Try.prog 36 #[.pointer (some ⟨x, 0, none⟩), .agg #[.int .i64 1, .string n, .string s, .int .i64 0]] w fun e w' => e = .returned (.int .i64 (rappendM r n s).2) ∧ RTo w x F (S + s.size + 1) (rappendM r n s).1 w' := by
  obtain ⟨kv, ov, nv, h⟩ := h
  obtain ⟨oo, oc, rfl⟩ := sl_shape h.o
  obtain ⟨no, nc, rfl⟩ := h.n.shape
  obtain ⟨W1, HW1⟩ : ∃ W, Hid (w.alloc (.cells #[.int .i64 1, .string n, .string s, .int .i64 0] 68) = W) := ⟨_, Lib.hid rfl⟩
  have hd := DoAt.new h [.int .i64 1, .string n, .string s, .int .i64 0]
  have hd : DoAt w x kv (.slice oo r.T.length oc) (.slice no r.N.length nc) F S r [.int .i64 1, .string n, .string s, .int .i64 0] W1 := by rw [← HW1.out]; exact hd
  have HD1 := Lib.hid hd
  have H0 := Lib.hid h
  have MY := Lib.hid (fun (s : ByteArray) (u : World) => rmay_any s u)
  have hl : r.N.length ≤ 1099511627776 := Nat.le_trans h.len.2 h.size.2.2
  have ht : tot r.N ≤ 1099511627776 := Nat.le_trans h.size.1 h.size.2.2
  obtain ⟨i6, z6, hi6, hz6, hsz6, hby6, hzs6⟩ := info68
  have HTL1 := Lib.hid (show r.T.length + 1 ≤ maxLen by have := h.len; have := h.size; simp only [maxLen]; omega)
  have HTL2 := Lib.hid (show (r.T.length + 1) * 48 ≤ 140737488355328 by have := h.len; have := h.size; omega)
  have hxl : x < W1.heap.size := hd.rep.lt
  have hwl : w.heap.size < W1.heap.size := (Array.getElem?_eq_some_iff.1 hd.box).1
  obtain ⟨E, HE⟩ : ∃ E, Hid (rappendM r n s = E) := ⟨_, Lib.hid rfl⟩
  rw [HE.out]
  clear hd
  cases hn : named n

  · have e0 : E = (r, 2) := by rw [← HE.out]; simp [rappendM, hn]
    subst e0
    have MN := MY.out n
    rw [hn] at MN
    clear h HE hn
    go_enter Try.func36, Try.ntmps36
    go_wp2_with fail
    rw [HW1.out]
    refine (MN _).mono ?_
    rintro e w' ⟨rfl, rfl⟩
    go_wp2
    go_ret
    exact ⟨rfl, RTo.larger (HD1.out.same (by omega)) (by omega) hS⟩
  · have MN := MY.out n
    rw [hn] at MN

    obtain ⟨Y, hY⟩ : ∃ Y, (lk r.N n).isSome = Y := ⟨_, rfl⟩
    obtain ⟨z, hz⟩ : ∃ z, findI r.N n 0 = z := ⟨_, rfl⟩
    have qz : decide ((0 : Int) ≤ z) = Y := by
      rw [← hz, ← hY]
      cases hk : lk r.N n with
      | none => rw [findI_none hk]; rfl
      | some s => obtain ⟨j, hj, -⟩ := findI_some hk 0; rw [hj]; simp
    have FI := find_quiet HD1.out.rep.n hl n
    rw [hz] at FI
    have FI := Lib.hid FI

    have US := Lib.hid (used_quiet ⟨kv, _, _, HD1.out.rep⟩)
    have hby := byt_le r.N n
    have hsz : s.size ≤ 1099511627776 := by omega
    obtain ⟨X, hX⟩ : ∃ X, decide (tot r.N + s.size ≤ r.room) = X := ⟨_, rfl⟩
    obtain ⟨Z, hZ⟩ : ∃ Z, decide (r.N.length < 4096) = Z := ⟨_, rfl⟩
    have qZ : decide ((4096 : Int) ≤ r.N.length) = !Z := by rw [← hZ]; rw [Bool.eq_iff_iff]; simp; omega
    have hrm := h.room
    obtain ⟨U, hU⟩ : ∃ U, tot r.N = U := ⟨_, rfl⟩
    have HBS := Lib.hid (fun (u : World) (hh : DoAt w x kv (.slice oo r.T.length oc) (.slice no r.N.length nc) F S r [.int .i64 1, .string n, .string s, .int .i64 0] u) => (show (∀ (d : Nat) (os : Array Obj), Calls Try.prog 17 #[.pointer (some ⟨x, 0, none⟩)] (grow (redrawn u d) os) fun e w'' => e = .returned (.int .i64 (tot r.N)) ∧ ∃ p : Regrown, w'' = grow (redrawn u p.d) p.os) ∧ (∀ (d : Nat) (os : Array Obj), Calls Try.prog 53 #[.slice no r.N.length nc, .string n] (grow (redrawn u d) os) fun e w'' => e = .returned (.string (byt r.N n)) ∧ ∃ p : Regrown, w'' = grow (redrawn u p.d) p.os) from ⟨used_quiet ⟨kv, _, _, hh.rep⟩, bytes_quiet hh.rep.n hl n⟩))
    rw [hU] at HBS
    have w1 : IntKind.i64.wrap ((U : Int) + s.size) = (U : Int) + s.size := by simp only [IntKind.wrap, IntKind.bits, IntKind.signed]; simp; omega

    have qX : decide ((r.room : Int) < (U : Int) + s.size) = !X := by rw [← hX, hU]; rw [Bool.eq_iff_iff]; simp; omega
    clear US
    have D : (X = false) ∨ (X = true ∧ Y = false ∧ Z = false) ∨ (X = true ∧ Y = true) ∨ (X = true ∧ Y = false ∧ Z = true) := by cases X <;> cases Y <;> cases Z <;> simp
    by_cases hok : (X && (Y || Z)) = true
    · have e0 : E = (rput r (Do.app n, s), 0) := by rw [← HE.out]; simp only [rappendM, rroomy, hn, hX, hY, hZ]; simp [hok]
      subst e0
      have D2 : (X = true ∧ Y = true) ∨ (X = true ∧ Y = false ∧ Z = true) := by cases X <;> cases Y <;> cases Z <;> simp at hok <;> simp
      have HMAY := Lib.hid (show may (((Do.app n, s) : Thing)).1 r.N from trivial)
      have HTOT := Lib.hid (show tot r.N + (((Do.app n, s) : Thing)).2.size ≤ 1099511627776 from (by simp only; have := h.size; omega))
      have HS := Lib.hid (show S + (((Do.app n, s) : Thing)).2.size + 1 ≤ 1099511627776 from hS)

      clear h HE hn hz hY hX hZ hok D
      rcases D2 with ⟨rfl, rfl⟩ | ⟨rfl, rfl, rfl⟩
      all_goals
        simp only [Bool.not_true, Bool.not_false] at qX qZ
        go_enter Try.func36, Try.ntmps36
        go_wp2_with fail
        rw [HW1.out]
        refine (MN _).mono ?_
        rintro e W1 ⟨rfl, rfl⟩

        have a0 : W1.cell? ⟨x, 0, none⟩ = some (.int .i64 r.room) := HD1.out.rep.cells.1
        have a1 : W1.cell? ⟨x, 1, none⟩ = some kv := HD1.out.rep.cells.2.1
        have a2 : W1.cell? ⟨x, 2, none⟩ = some (.slice oo r.T.length oc) := HD1.out.rep.cells.2.2.1
        have a3 : W1.cell? ⟨x, 3, none⟩ = some (.slice no r.N.length nc) := HD1.out.rep.cells.2.2.2
        have b0 : W1.cell? ⟨w.heap.size, 0, none⟩ = some (.int .i64 1) := cell_of HD1.out.box rfl
        have b1 : W1.cell? ⟨w.heap.size, 1, none⟩ = some (.string n) := cell_of HD1.out.box rfl
        have b2 : W1.cell? ⟨w.heap.size, 2, none⟩ = some (.string s) := cell_of HD1.out.box rfl
        have b3 : W1.cell? ⟨w.heap.size, 3, none⟩ = some (.int .i64 0) := cell_of HD1.out.box rfl
        have qa0 := fun p os => cell_regrown a0 p os
        have qa1 := fun p os => cell_regrown a1 p os
        have qa2 := fun p os => cell_regrown a2 p os
        have qa3 := fun p os => cell_regrown a3 p os
        have qb0 := fun p os => cell_regrown b0 p os
        have qb1 := fun p os => cell_regrown b1 p os
        have qb2 := fun p os => cell_regrown b2 p os
        have qb3 := fun p os => cell_regrown b3 p os
        go_wp2_with fail
        refine wp_region_quiet_below (by kernel_rfl) (by kernel_rfl) ?_
        repeat (go_big_quiet_step (exact FI.out _ _))
        refine wpQuiet_nil ?_
        intro _ hw'
        obtain ⟨⟨dq, osq⟩, hw''⟩ := hw'
        subst hw''
        have HD2 := Lib.hid (HD1.out.stay (below_regrown W1 dq osq))
        generalize grow (redrawn W1 dq) osq = W2 at *
        clear qa0 qa1 qa2 qa3 qb0 qb1 qb2 qb3 a0 a1 a2 a3 b0 b1 b2 b3

        have a0 : W2.cell? ⟨x, 0, none⟩ = some (.int .i64 r.room) := HD2.out.rep.cells.1
        have a1 : W2.cell? ⟨x, 1, none⟩ = some kv := HD2.out.rep.cells.2.1
        have a2 : W2.cell? ⟨x, 2, none⟩ = some (.slice oo r.T.length oc) := HD2.out.rep.cells.2.2.1
        have a3 : W2.cell? ⟨x, 3, none⟩ = some (.slice no r.N.length nc) := HD2.out.rep.cells.2.2.2
        have b0 : W2.cell? ⟨w.heap.size, 0, none⟩ = some (.int .i64 1) := cell_of HD2.out.box rfl
        have b1 : W2.cell? ⟨w.heap.size, 1, none⟩ = some (.string n) := cell_of HD2.out.box rfl
        have b2 : W2.cell? ⟨w.heap.size, 2, none⟩ = some (.string s) := cell_of HD2.out.box rfl
        have b3 : W2.cell? ⟨w.heap.size, 3, none⟩ = some (.int .i64 0) := cell_of HD2.out.box rfl
        have US2 := (HBS.out W2 HD2.out).1
        have qa0 := fun p os => cell_regrown a0 p os
        have qa1 := fun p os => cell_regrown a1 p os
        have qa2 := fun p os => cell_regrown a2 p os
        have qa3 := fun p os => cell_regrown a3 p os
        have qb0 := fun p os => cell_regrown b0 p os
        have qb1 := fun p os => cell_regrown b1 p os
        have qb2 := fun p os => cell_regrown b2 p os
        have qb3 := fun p os => cell_regrown b3 p os
        go_wp2_with fail
        refine wp_region_quiet_below (by kernel_rfl) (by kernel_rfl) ?_
        repeat (go_big_quiet_step (exact US2 _ _))
        refine wpQuiet_nil ?_
        intro _ hw'
        obtain ⟨⟨dq, osq⟩, hw''⟩ := hw'
        subst hw''
        have HD3 := Lib.hid (HD2.out.stay (below_regrown W2 dq osq))
        generalize grow (redrawn W2 dq) osq = W3 at *
        clear qa0 qa1 qa2 qa3 qb0 qb1 qb2 qb3 a0 a1 a2 a3 b0 b1 b2 b3
        clear US2

        have a0 : W3.cell? ⟨x, 0, none⟩ = some (.int .i64 r.room) := HD3.out.rep.cells.1
        have a1 : W3.cell? ⟨x, 1, none⟩ = some kv := HD3.out.rep.cells.2.1
        have a2 : W3.cell? ⟨x, 2, none⟩ = some (.slice oo r.T.length oc) := HD3.out.rep.cells.2.2.1
        have a3 : W3.cell? ⟨x, 3, none⟩ = some (.slice no r.N.length nc) := HD3.out.rep.cells.2.2.2
        have b0 : W3.cell? ⟨w.heap.size, 0, none⟩ = some (.int .i64 1) := cell_of HD3.out.box rfl
        have b1 : W3.cell? ⟨w.heap.size, 1, none⟩ = some (.string n) := cell_of HD3.out.box rfl
        have b2 : W3.cell? ⟨w.heap.size, 2, none⟩ = some (.string s) := cell_of HD3.out.box rfl
        have b3 : W3.cell? ⟨w.heap.size, 3, none⟩ = some (.int .i64 0) := cell_of HD3.out.box rfl

        have DO := Lib.hid (rdoes_any (w := W3.drew) (HD3.out.rep.n.stay (Below.drew (Below.refl _ _))) (Nat.le_trans HD3.out.rep.len.2 HD3.out.rep.size.2.2) (Do.app n, s) HMAY.out HTOT.out)
        have HDR := Lib.hid (HD3.out.stay (Below.drew (Below.refl _ _)))
        have HMID := Lib.hid (fun (w1 : World) (o : Option Addr) (c : Nat) (hf : FL w1 (.slice o (refAct (Do.app n, s) r.N).length c) (refAct (Do.app n, s) r.N)) (hb : Below W3.drew.heap.size W3.drew w1) (ho : ∀ g, (Value.slice o (refAct (Do.app n, s) r.N).length c).ownBlock = some g → W3.drew.heap.size ≤ g) => do_mid HDR.out hf hb ho)
        have HFIN := Lib.hid (fun (o : Option Addr) (c : Nat) (U : World) (h : DoMid w x kv (.slice oo r.T.length oc) (.slice o (refAct (Do.app n, s) r.N).length c) F r.room r.K r.T (refAct (Do.app n, s) r.N) (opL (Do.app n, s)) U) (v' : Value) (w4 : World) hs hg ha => do_fin H0.out h HMAY.out HS.out (v' := v') (w4 := w4) hs hg ha)
        clear HD3 HDR

        have DO' : Hid (Calls Try.prog 54 #[.slice no r.N.length nc, .agg #[.int .i64 1, .string n, .string s, .int .i64 0]] W3.drew fun e w' => FPost W3.drew (refAct (Do.app n, s) r.N) e w') := DO
        obtain ⟨M, HM⟩ : ∃ M, Hid (refAct (Do.app n, s) r.N = M) := ⟨_, Lib.hid rfl⟩
        rw [HM.out] at DO' HMID HFIN
        clear DO
        go_wp2_with fail
        go_region_law (go_simp; go_at_call 54; refine DO'.out.mono ?_; rintro e w1 hf; obtain ⟨fo, fc, rfl, f1, f2, f3⟩ := hf; obtain ⟨z1, z2, z3⟩ := HMID.out _ _ _ f1 f2 f3; have HZ := Lib.hid z3; clear f1 f2 f3 z3)
        all_goals
          obtain ⟨W5, HW5⟩ : ∃ W, Hid (w1.setCell ⟨x, 3, none⟩ (.slice fo M.length fc) = W) := ⟨_, Lib.hid rfl⟩
          rw [HW5.out] at HZ ⊢
          clear z1 z2 HW5
          have g2 : W5.cell? ⟨x, 2, none⟩ = some (.slice oo r.T.length oc) := cell_of HZ.out.blk rfl
          have b0 : W5.cell? ⟨w.heap.size, 0, none⟩ = some (.int .i64 1) := cell_of HZ.out.box rfl
          have b1 : W5.cell? ⟨w.heap.size, 1, none⟩ = some (.string n) := cell_of HZ.out.box rfl
          have b2 : W5.cell? ⟨w.heap.size, 2, none⟩ = some (.string s) := cell_of HZ.out.box rfl
          have b3 : W5.cell? ⟨w.heap.size, 3, none⟩ = some (.int .i64 0) := cell_of HZ.out.box rfl
          have hx5 : x < W5.heap.size := (Array.getElem?_eq_some_iff.1 HZ.out.blk).1
          have hw5 : w.heap.size < W5.heap.size := (Array.getElem?_eq_some_iff.1 HZ.out.box).1
          have HSL := Lib.hid (show sl (W5.drew.alloc (.cells #[.int .i64 1, .string n, .string s, .int .i64 0] 68)) 68 4 (.slice oo r.T.length oc) r.T.length (ocells r.T) from sl.stay HZ.out.drew.o (fun g hg => Below.heap_alloc _ _ _ (sl.lt HZ.out.drew.o hg)))
          have HCN := Lib.hid (cell_new4 (Go.heap_alloc_new W5.drew (.cells #[.int .i64 1, .string n, .string s, .int .i64 0] 68)))
          have HFI := Lib.hid (fun v' w4 hs hg ha => HFIN.out fo fc W5.drew HZ.out.drew v' w4 hs hg ha)
          clear HFIN HMID
          go_wp2_with fail
          go_region_law (refine step_append_sl (by rfl) _ _ 40 (by rfl) 68 i6 z6 4 48 Try.underlying40 hi6 hz6 hsz6 hby6 hzs6 (by decide) (.slice oo r.T.length oc) r.T.length (ocells r.T) (by rfl) HSL.out (some ⟨W5.heap.size, 0, none⟩) 1 1 [.int .i64 1, .string n, .string s, .int .i64 0] (by rfl) (by rfl) (fun _ => ⟨_, rfl, HCN.out⟩) (fun h => absurd h (by decide)) (by simp [Value.oneCell']) HTL1.out HTL2.out ?_; intro v' w4 hs hg4 ha; obtain ⟨y1, y2, y3⟩ := HFI.out v' w4 hs hg4 ha; have HY := Lib.hid y3; obtain ⟨vo, vc, rfl⟩ := sl_shape hs; clear hs hg4 ha y3)
          all_goals
            go_wp2
            go_ret
            refine ⟨rfl, ?_⟩
            have hY := HY.out
            unfold rput
            rw [HM.out]
            exact hY

    · have e0 : E = (r, 6) := by rw [← HE.out]; simp only [rappendM, rroomy, hn, hX, hY, hZ]; simp [hok]
      subst e0
      have D2 : (X = false) ∨ (X = true ∧ Y = false ∧ Z = false) := by cases X <;> cases Y <;> cases Z <;> simp at hok <;> simp
      clear h HE hn hz hY hX hZ hok D
      rcases D2 with rfl | ⟨rfl, rfl, rfl⟩
      · simp only [Bool.not_true, Bool.not_false] at qX
        go_enter Try.func36, Try.ntmps36
        go_wp2_with fail
        rw [HW1.out]
        refine (MN _).mono ?_
        rintro e W1 ⟨rfl, rfl⟩

        have a0 : W1.cell? ⟨x, 0, none⟩ = some (.int .i64 r.room) := HD1.out.rep.cells.1
        have a1 : W1.cell? ⟨x, 1, none⟩ = some kv := HD1.out.rep.cells.2.1
        have a2 : W1.cell? ⟨x, 2, none⟩ = some (.slice oo r.T.length oc) := HD1.out.rep.cells.2.2.1
        have a3 : W1.cell? ⟨x, 3, none⟩ = some (.slice no r.N.length nc) := HD1.out.rep.cells.2.2.2
        have b0 : W1.cell? ⟨w.heap.size, 0, none⟩ = some (.int .i64 1) := cell_of HD1.out.box rfl
        have b1 : W1.cell? ⟨w.heap.size, 1, none⟩ = some (.string n) := cell_of HD1.out.box rfl
        have b2 : W1.cell? ⟨w.heap.size, 2, none⟩ = some (.string s) := cell_of HD1.out.box rfl
        have b3 : W1.cell? ⟨w.heap.size, 3, none⟩ = some (.int .i64 0) := cell_of HD1.out.box rfl
        have qa0 := fun p os => cell_regrown a0 p os
        have qa1 := fun p os => cell_regrown a1 p os
        have qa2 := fun p os => cell_regrown a2 p os
        have qa3 := fun p os => cell_regrown a3 p os
        have qb0 := fun p os => cell_regrown b0 p os
        have qb1 := fun p os => cell_regrown b1 p os
        have qb2 := fun p os => cell_regrown b2 p os
        have qb3 := fun p os => cell_regrown b3 p os
        go_wp2_with fail
        refine wp_region_quiet_below (by kernel_rfl) (by kernel_rfl) ?_
        repeat (go_big_quiet_step (exact FI.out _ _))
        refine wpQuiet_nil ?_
        intro _ hw'
        obtain ⟨⟨dq, osq⟩, hw''⟩ := hw'
        subst hw''
        have HD2 := Lib.hid (HD1.out.stay (below_regrown W1 dq osq))
        generalize grow (redrawn W1 dq) osq = W2 at *
        clear qa0 qa1 qa2 qa3 qb0 qb1 qb2 qb3 a0 a1 a2 a3 b0 b1 b2 b3

        have a0 : W2.cell? ⟨x, 0, none⟩ = some (.int .i64 r.room) := HD2.out.rep.cells.1
        have a1 : W2.cell? ⟨x, 1, none⟩ = some kv := HD2.out.rep.cells.2.1
        have a2 : W2.cell? ⟨x, 2, none⟩ = some (.slice oo r.T.length oc) := HD2.out.rep.cells.2.2.1
        have a3 : W2.cell? ⟨x, 3, none⟩ = some (.slice no r.N.length nc) := HD2.out.rep.cells.2.2.2
        have b0 : W2.cell? ⟨w.heap.size, 0, none⟩ = some (.int .i64 1) := cell_of HD2.out.box rfl
        have b1 : W2.cell? ⟨w.heap.size, 1, none⟩ = some (.string n) := cell_of HD2.out.box rfl
        have b2 : W2.cell? ⟨w.heap.size, 2, none⟩ = some (.string s) := cell_of HD2.out.box rfl
        have b3 : W2.cell? ⟨w.heap.size, 3, none⟩ = some (.int .i64 0) := cell_of HD2.out.box rfl
        have US2 := (HBS.out W2 HD2.out).1
        have qa0 := fun p os => cell_regrown a0 p os
        have qa1 := fun p os => cell_regrown a1 p os
        have qa2 := fun p os => cell_regrown a2 p os
        have qa3 := fun p os => cell_regrown a3 p os
        have qb0 := fun p os => cell_regrown b0 p os
        have qb1 := fun p os => cell_regrown b1 p os
        have qb2 := fun p os => cell_regrown b2 p os
        have qb3 := fun p os => cell_regrown b3 p os
        go_wp2_with fail
        refine wp_region_quiet_below (by kernel_rfl) (by kernel_rfl) ?_
        repeat (go_big_quiet_step (exact US2 _ _))
        refine wpQuiet_nil ?_
        intro _ hw'
        obtain ⟨⟨dq, osq⟩, hw''⟩ := hw'
        subst hw''
        have HD3 := Lib.hid (HD2.out.stay (below_regrown W2 dq osq))
        generalize grow (redrawn W2 dq) osq = W3 at *
        clear qa0 qa1 qa2 qa3 qb0 qb1 qb2 qb3 a0 a1 a2 a3 b0 b1 b2 b3
        clear US2

        have a0 : W3.cell? ⟨x, 0, none⟩ = some (.int .i64 r.room) := HD3.out.rep.cells.1
        have a1 : W3.cell? ⟨x, 1, none⟩ = some kv := HD3.out.rep.cells.2.1
        have a2 : W3.cell? ⟨x, 2, none⟩ = some (.slice oo r.T.length oc) := HD3.out.rep.cells.2.2.1
        have a3 : W3.cell? ⟨x, 3, none⟩ = some (.slice no r.N.length nc) := HD3.out.rep.cells.2.2.2
        have b0 : W3.cell? ⟨w.heap.size, 0, none⟩ = some (.int .i64 1) := cell_of HD3.out.box rfl
        have b1 : W3.cell? ⟨w.heap.size, 1, none⟩ = some (.string n) := cell_of HD3.out.box rfl
        have b2 : W3.cell? ⟨w.heap.size, 2, none⟩ = some (.string s) := cell_of HD3.out.box rfl
        have b3 : W3.cell? ⟨w.heap.size, 3, none⟩ = some (.int .i64 0) := cell_of HD3.out.box rfl

        go_wp2
        go_ret
        exact ⟨rfl, RTo.larger (HD3.out.same (by omega)) (by omega) hS⟩

      · simp only [Bool.not_true, Bool.not_false] at qX qZ
        go_enter Try.func36, Try.ntmps36
        go_wp2_with fail
        rw [HW1.out]
        refine (MN _).mono ?_
        rintro e W1 ⟨rfl, rfl⟩

        have a0 : W1.cell? ⟨x, 0, none⟩ = some (.int .i64 r.room) := HD1.out.rep.cells.1
        have a1 : W1.cell? ⟨x, 1, none⟩ = some kv := HD1.out.rep.cells.2.1
        have a2 : W1.cell? ⟨x, 2, none⟩ = some (.slice oo r.T.length oc) := HD1.out.rep.cells.2.2.1
        have a3 : W1.cell? ⟨x, 3, none⟩ = some (.slice no r.N.length nc) := HD1.out.rep.cells.2.2.2
        have b0 : W1.cell? ⟨w.heap.size, 0, none⟩ = some (.int .i64 1) := cell_of HD1.out.box rfl
        have b1 : W1.cell? ⟨w.heap.size, 1, none⟩ = some (.string n) := cell_of HD1.out.box rfl
        have b2 : W1.cell? ⟨w.heap.size, 2, none⟩ = some (.string s) := cell_of HD1.out.box rfl
        have b3 : W1.cell? ⟨w.heap.size, 3, none⟩ = some (.int .i64 0) := cell_of HD1.out.box rfl
        have qa0 := fun p os => cell_regrown a0 p os
        have qa1 := fun p os => cell_regrown a1 p os
        have qa2 := fun p os => cell_regrown a2 p os
        have qa3 := fun p os => cell_regrown a3 p os
        have qb0 := fun p os => cell_regrown b0 p os
        have qb1 := fun p os => cell_regrown b1 p os
        have qb2 := fun p os => cell_regrown b2 p os
        have qb3 := fun p os => cell_regrown b3 p os
        go_wp2_with fail
        refine wp_region_quiet_below (by kernel_rfl) (by kernel_rfl) ?_
        repeat (go_big_quiet_step (exact FI.out _ _))
        refine wpQuiet_nil ?_
        intro _ hw'
        obtain ⟨⟨dq, osq⟩, hw''⟩ := hw'
        subst hw''
        have HD2 := Lib.hid (HD1.out.stay (below_regrown W1 dq osq))
        generalize grow (redrawn W1 dq) osq = W2 at *
        clear qa0 qa1 qa2 qa3 qb0 qb1 qb2 qb3 a0 a1 a2 a3 b0 b1 b2 b3

        have a0 : W2.cell? ⟨x, 0, none⟩ = some (.int .i64 r.room) := HD2.out.rep.cells.1
        have a1 : W2.cell? ⟨x, 1, none⟩ = some kv := HD2.out.rep.cells.2.1
        have a2 : W2.cell? ⟨x, 2, none⟩ = some (.slice oo r.T.length oc) := HD2.out.rep.cells.2.2.1
        have a3 : W2.cell? ⟨x, 3, none⟩ = some (.slice no r.N.length nc) := HD2.out.rep.cells.2.2.2
        have b0 : W2.cell? ⟨w.heap.size, 0, none⟩ = some (.int .i64 1) := cell_of HD2.out.box rfl
        have b1 : W2.cell? ⟨w.heap.size, 1, none⟩ = some (.string n) := cell_of HD2.out.box rfl
        have b2 : W2.cell? ⟨w.heap.size, 2, none⟩ = some (.string s) := cell_of HD2.out.box rfl
        have b3 : W2.cell? ⟨w.heap.size, 3, none⟩ = some (.int .i64 0) := cell_of HD2.out.box rfl
        have US2 := (HBS.out W2 HD2.out).1
        have qa0 := fun p os => cell_regrown a0 p os
        have qa1 := fun p os => cell_regrown a1 p os
        have qa2 := fun p os => cell_regrown a2 p os
        have qa3 := fun p os => cell_regrown a3 p os
        have qb0 := fun p os => cell_regrown b0 p os
        have qb1 := fun p os => cell_regrown b1 p os
        have qb2 := fun p os => cell_regrown b2 p os
        have qb3 := fun p os => cell_regrown b3 p os
        go_wp2_with fail
        refine wp_region_quiet_below (by kernel_rfl) (by kernel_rfl) ?_
        repeat (go_big_quiet_step (exact US2 _ _))
        refine wpQuiet_nil ?_
        intro _ hw'
        obtain ⟨⟨dq, osq⟩, hw''⟩ := hw'
        subst hw''
        have HD3 := Lib.hid (HD2.out.stay (below_regrown W2 dq osq))
        generalize grow (redrawn W2 dq) osq = W3 at *
        clear qa0 qa1 qa2 qa3 qb0 qb1 qb2 qb3 a0 a1 a2 a3 b0 b1 b2 b3
        clear US2

        have a0 : W3.cell? ⟨x, 0, none⟩ = some (.int .i64 r.room) := HD3.out.rep.cells.1
        have a1 : W3.cell? ⟨x, 1, none⟩ = some kv := HD3.out.rep.cells.2.1
        have a2 : W3.cell? ⟨x, 2, none⟩ = some (.slice oo r.T.length oc) := HD3.out.rep.cells.2.2.1
        have a3 : W3.cell? ⟨x, 3, none⟩ = some (.slice no r.N.length nc) := HD3.out.rep.cells.2.2.2
        have b0 : W3.cell? ⟨w.heap.size, 0, none⟩ = some (.int .i64 1) := cell_of HD3.out.box rfl
        have b1 : W3.cell? ⟨w.heap.size, 1, none⟩ = some (.string n) := cell_of HD3.out.box rfl
        have b2 : W3.cell? ⟨w.heap.size, 2, none⟩ = some (.string s) := cell_of HD3.out.box rfl
        have b3 : W3.cell? ⟨w.heap.size, 3, none⟩ = some (.int .i64 0) := cell_of HD3.out.box rfl

        go_wp2
        go_ret
        exact ⟨rfl, RTo.larger (HD3.out.same (by omega)) (by omega) hS⟩

set_option maxRecDepth 100000 in
set_option maxHeartbeats 4000000 in
theorem rdo_wr (h : RIs w x F S r) (n s : ByteArray) (hS : S + s.size + 1 ≤ 1099511627776) :
    Calls Try.prog 36 #[.pointer (some ⟨x, 0, none⟩), .agg #[.int .i64 2, .string n, .string s, .int .i64 0]] w fun e w' => e = .returned (.int .i64 (rwriteM r n s).2) ∧ RTo w x F (S + s.size + 1) (rwriteM r n s).1 w' := by
  obtain ⟨kv, ov, nv, h⟩ := h
  obtain ⟨oo, oc, rfl⟩ := sl_shape h.o
  obtain ⟨no, nc, rfl⟩ := h.n.shape
  obtain ⟨W1, HW1⟩ : ∃ W, Hid (w.alloc (.cells #[.int .i64 2, .string n, .string s, .int .i64 0] 68) = W) := ⟨_, Lib.hid rfl⟩
  have hd := DoAt.new h [.int .i64 2, .string n, .string s, .int .i64 0]
  have hd : DoAt w x kv (.slice oo r.T.length oc) (.slice no r.N.length nc) F S r [.int .i64 2, .string n, .string s, .int .i64 0] W1 := by rw [← HW1.out]; exact hd
  have HD1 := Lib.hid hd
  have H0 := Lib.hid h
  have MY := Lib.hid (fun (s : ByteArray) (u : World) => rmay_any s u)
  have hl : r.N.length ≤ 1099511627776 := Nat.le_trans h.len.2 h.size.2.2
  have ht : tot r.N ≤ 1099511627776 := Nat.le_trans h.size.1 h.size.2.2
  obtain ⟨i6, z6, hi6, hz6, hsz6, hby6, hzs6⟩ := info68
  have HTL1 := Lib.hid (show r.T.length + 1 ≤ maxLen by have := h.len; have := h.size; simp only [maxLen]; omega)
  have HTL2 := Lib.hid (show (r.T.length + 1) * 48 ≤ 140737488355328 by have := h.len; have := h.size; omega)
  have hxl : x < W1.heap.size := hd.rep.lt
  have hwl : w.heap.size < W1.heap.size := (Array.getElem?_eq_some_iff.1 hd.box).1
  obtain ⟨E, HE⟩ : ∃ E, Hid (rwriteM r n s = E) := ⟨_, Lib.hid rfl⟩
  rw [HE.out]
  clear hd
  cases hn : named n

  · have e0 : E = (r, 2) := by rw [← HE.out]; simp [rwriteM, hn]
    subst e0
    have MN := MY.out n
    rw [hn] at MN
    clear h HE hn
    go_enter Try.func36, Try.ntmps36
    go_wp2_with fail
    rw [HW1.out]
    refine (MN _).mono ?_
    rintro e w' ⟨rfl, rfl⟩
    go_wp2
    go_ret
    exact ⟨rfl, RTo.larger (HD1.out.same (by omega)) (by omega) hS⟩
  · have MN := MY.out n
    rw [hn] at MN

    obtain ⟨Y, hY⟩ : ∃ Y, (lk r.N n).isSome = Y := ⟨_, rfl⟩
    obtain ⟨z, hz⟩ : ∃ z, findI r.N n 0 = z := ⟨_, rfl⟩
    have qz : decide ((0 : Int) ≤ z) = Y := by
      rw [← hz, ← hY]
      cases hk : lk r.N n with
      | none => rw [findI_none hk]; rfl
      | some s => obtain ⟨j, hj, -⟩ := findI_some hk 0; rw [hj]; simp
    have FI := find_quiet HD1.out.rep.n hl n
    rw [hz] at FI
    have FI := Lib.hid FI

    have US := Lib.hid (used_quiet ⟨kv, _, _, HD1.out.rep⟩)
    have hby := byt_le r.N n
    have hsz : s.size ≤ 1099511627776 := by omega
    obtain ⟨X, hX⟩ : ∃ X, decide (tot r.N + s.size ≤ r.room + (byt r.N n).size) = X := ⟨_, rfl⟩
    obtain ⟨Z, hZ⟩ : ∃ Z, decide (r.N.length < 4096) = Z := ⟨_, rfl⟩
    have qZ : decide ((4096 : Int) ≤ r.N.length) = !Z := by rw [← hZ]; rw [Bool.eq_iff_iff]; simp; omega
    have hrm := h.room
    obtain ⟨U, hU⟩ : ∃ U, tot r.N = U := ⟨_, rfl⟩
    have HBS := Lib.hid (fun (u : World) (hh : DoAt w x kv (.slice oo r.T.length oc) (.slice no r.N.length nc) F S r [.int .i64 2, .string n, .string s, .int .i64 0] u) => (show (∀ (d : Nat) (os : Array Obj), Calls Try.prog 17 #[.pointer (some ⟨x, 0, none⟩)] (grow (redrawn u d) os) fun e w'' => e = .returned (.int .i64 (tot r.N)) ∧ ∃ p : Regrown, w'' = grow (redrawn u p.d) p.os) ∧ (∀ (d : Nat) (os : Array Obj), Calls Try.prog 53 #[.slice no r.N.length nc, .string n] (grow (redrawn u d) os) fun e w'' => e = .returned (.string (byt r.N n)) ∧ ∃ p : Regrown, w'' = grow (redrawn u p.d) p.os) from ⟨used_quiet ⟨kv, _, _, hh.rep⟩, bytes_quiet hh.rep.n hl n⟩))
    rw [hU] at HBS
    have w1 : IntKind.i64.wrap ((U : Int) + s.size) = (U : Int) + s.size := by simp only [IntKind.wrap, IntKind.bits, IntKind.signed]; simp; omega

    obtain ⟨B, hB⟩ : ∃ B, byt r.N n = B := ⟨_, rfl⟩
    rw [hB] at HBS
    have w2 : IntKind.i64.wrap ((U : Int) + s.size - B.size) = (U : Int) + s.size - B.size := by simp only [IntKind.wrap, IntKind.bits, IntKind.signed]; simp; rw [hB] at hby; omega
    have qX : decide ((r.room : Int) < (U : Int) + s.size - B.size) = !X := by rw [← hX, hU, hB]; rw [Bool.eq_iff_iff]; simp; omega
    have hBs : B.size ≤ 1099511627776 := by rw [hB] at hby; omega
    clear US
    have D : (X = false) ∨ (X = true ∧ Y = false ∧ Z = false) ∨ (X = true ∧ Y = true) ∨ (X = true ∧ Y = false ∧ Z = true) := by cases X <;> cases Y <;> cases Z <;> simp
    by_cases hok : (X && (Y || Z)) = true
    · have e0 : E = (rput r (Do.wr n, s), 0) := by rw [← HE.out]; simp only [rwriteM, hn, hX, hY, hZ]; simp [hok]
      subst e0
      have D2 : (X = true ∧ Y = true) ∨ (X = true ∧ Y = false ∧ Z = true) := by cases X <;> cases Y <;> cases Z <;> simp at hok <;> simp
      have HMAY := Lib.hid (show may (((Do.wr n, s) : Thing)).1 r.N from trivial)
      have HTOT := Lib.hid (show tot r.N + (((Do.wr n, s) : Thing)).2.size ≤ 1099511627776 from (by simp only; have := h.size; omega))
      have HS := Lib.hid (show S + (((Do.wr n, s) : Thing)).2.size + 1 ≤ 1099511627776 from hS)

      clear h HE hn hz hY hX hZ hok D
      rcases D2 with ⟨rfl, rfl⟩ | ⟨rfl, rfl, rfl⟩
      all_goals
        simp only [Bool.not_true, Bool.not_false] at qX qZ
        go_enter Try.func36, Try.ntmps36
        go_wp2_with fail
        rw [HW1.out]
        refine (MN _).mono ?_
        rintro e W1 ⟨rfl, rfl⟩

        have a0 : W1.cell? ⟨x, 0, none⟩ = some (.int .i64 r.room) := HD1.out.rep.cells.1
        have a1 : W1.cell? ⟨x, 1, none⟩ = some kv := HD1.out.rep.cells.2.1
        have a2 : W1.cell? ⟨x, 2, none⟩ = some (.slice oo r.T.length oc) := HD1.out.rep.cells.2.2.1
        have a3 : W1.cell? ⟨x, 3, none⟩ = some (.slice no r.N.length nc) := HD1.out.rep.cells.2.2.2
        have b0 : W1.cell? ⟨w.heap.size, 0, none⟩ = some (.int .i64 2) := cell_of HD1.out.box rfl
        have b1 : W1.cell? ⟨w.heap.size, 1, none⟩ = some (.string n) := cell_of HD1.out.box rfl
        have b2 : W1.cell? ⟨w.heap.size, 2, none⟩ = some (.string s) := cell_of HD1.out.box rfl
        have b3 : W1.cell? ⟨w.heap.size, 3, none⟩ = some (.int .i64 0) := cell_of HD1.out.box rfl
        have qa0 := fun p os => cell_regrown a0 p os
        have qa1 := fun p os => cell_regrown a1 p os
        have qa2 := fun p os => cell_regrown a2 p os
        have qa3 := fun p os => cell_regrown a3 p os
        have qb0 := fun p os => cell_regrown b0 p os
        have qb1 := fun p os => cell_regrown b1 p os
        have qb2 := fun p os => cell_regrown b2 p os
        have qb3 := fun p os => cell_regrown b3 p os
        go_wp2_with fail
        refine wp_region_quiet_below (by kernel_rfl) (by kernel_rfl) ?_
        repeat (go_big_quiet_step (exact FI.out _ _))
        refine wpQuiet_nil ?_
        intro _ hw'
        obtain ⟨⟨dq, osq⟩, hw''⟩ := hw'
        subst hw''
        have HD2 := Lib.hid (HD1.out.stay (below_regrown W1 dq osq))
        generalize grow (redrawn W1 dq) osq = W2 at *
        clear qa0 qa1 qa2 qa3 qb0 qb1 qb2 qb3 a0 a1 a2 a3 b0 b1 b2 b3

        have a0 : W2.cell? ⟨x, 0, none⟩ = some (.int .i64 r.room) := HD2.out.rep.cells.1
        have a1 : W2.cell? ⟨x, 1, none⟩ = some kv := HD2.out.rep.cells.2.1
        have a2 : W2.cell? ⟨x, 2, none⟩ = some (.slice oo r.T.length oc) := HD2.out.rep.cells.2.2.1
        have a3 : W2.cell? ⟨x, 3, none⟩ = some (.slice no r.N.length nc) := HD2.out.rep.cells.2.2.2
        have b0 : W2.cell? ⟨w.heap.size, 0, none⟩ = some (.int .i64 2) := cell_of HD2.out.box rfl
        have b1 : W2.cell? ⟨w.heap.size, 1, none⟩ = some (.string n) := cell_of HD2.out.box rfl
        have b2 : W2.cell? ⟨w.heap.size, 2, none⟩ = some (.string s) := cell_of HD2.out.box rfl
        have b3 : W2.cell? ⟨w.heap.size, 3, none⟩ = some (.int .i64 0) := cell_of HD2.out.box rfl
        have US2 := (HBS.out W2 HD2.out).1
        have qa0 := fun p os => cell_regrown a0 p os
        have qa1 := fun p os => cell_regrown a1 p os
        have qa2 := fun p os => cell_regrown a2 p os
        have qa3 := fun p os => cell_regrown a3 p os
        have qb0 := fun p os => cell_regrown b0 p os
        have qb1 := fun p os => cell_regrown b1 p os
        have qb2 := fun p os => cell_regrown b2 p os
        have qb3 := fun p os => cell_regrown b3 p os
        go_wp2_with fail
        refine wp_region_quiet_below (by kernel_rfl) (by kernel_rfl) ?_
        repeat (go_big_quiet_step (exact US2 _ _))
        refine wpQuiet_nil ?_
        intro _ hw'
        obtain ⟨⟨dq, osq⟩, hw''⟩ := hw'
        subst hw''
        have HD3 := Lib.hid (HD2.out.stay (below_regrown W2 dq osq))
        generalize grow (redrawn W2 dq) osq = W3 at *
        clear qa0 qa1 qa2 qa3 qb0 qb1 qb2 qb3 a0 a1 a2 a3 b0 b1 b2 b3
        clear US2

        have a0 : W3.cell? ⟨x, 0, none⟩ = some (.int .i64 r.room) := HD3.out.rep.cells.1
        have a1 : W3.cell? ⟨x, 1, none⟩ = some kv := HD3.out.rep.cells.2.1
        have a2 : W3.cell? ⟨x, 2, none⟩ = some (.slice oo r.T.length oc) := HD3.out.rep.cells.2.2.1
        have a3 : W3.cell? ⟨x, 3, none⟩ = some (.slice no r.N.length nc) := HD3.out.rep.cells.2.2.2
        have b0 : W3.cell? ⟨w.heap.size, 0, none⟩ = some (.int .i64 2) := cell_of HD3.out.box rfl
        have b1 : W3.cell? ⟨w.heap.size, 1, none⟩ = some (.string n) := cell_of HD3.out.box rfl
        have b2 : W3.cell? ⟨w.heap.size, 2, none⟩ = some (.string s) := cell_of HD3.out.box rfl
        have b3 : W3.cell? ⟨w.heap.size, 3, none⟩ = some (.int .i64 0) := cell_of HD3.out.box rfl
        have BY3 := (HBS.out W3 HD3.out).2
        have qa0 := fun p os => cell_regrown a0 p os
        have qa1 := fun p os => cell_regrown a1 p os
        have qa2 := fun p os => cell_regrown a2 p os
        have qa3 := fun p os => cell_regrown a3 p os
        have qb0 := fun p os => cell_regrown b0 p os
        have qb1 := fun p os => cell_regrown b1 p os
        have qb2 := fun p os => cell_regrown b2 p os
        have qb3 := fun p os => cell_regrown b3 p os
        go_wp2_with fail
        refine wp_region_quiet_below (by kernel_rfl) (by kernel_rfl) ?_
        repeat (go_big_quiet_step (exact BY3 _ _))
        refine wpQuiet_nil ?_
        intro _ hw'
        obtain ⟨⟨dq, osq⟩, hw''⟩ := hw'
        subst hw''
        have HD4 := Lib.hid (HD3.out.stay (below_regrown W3 dq osq))
        generalize grow (redrawn W3 dq) osq = W4 at *
        clear qa0 qa1 qa2 qa3 qb0 qb1 qb2 qb3 a0 a1 a2 a3 b0 b1 b2 b3
        clear BY3

        have a0 : W4.cell? ⟨x, 0, none⟩ = some (.int .i64 r.room) := HD4.out.rep.cells.1
        have a1 : W4.cell? ⟨x, 1, none⟩ = some kv := HD4.out.rep.cells.2.1
        have a2 : W4.cell? ⟨x, 2, none⟩ = some (.slice oo r.T.length oc) := HD4.out.rep.cells.2.2.1
        have a3 : W4.cell? ⟨x, 3, none⟩ = some (.slice no r.N.length nc) := HD4.out.rep.cells.2.2.2
        have b0 : W4.cell? ⟨w.heap.size, 0, none⟩ = some (.int .i64 2) := cell_of HD4.out.box rfl
        have b1 : W4.cell? ⟨w.heap.size, 1, none⟩ = some (.string n) := cell_of HD4.out.box rfl
        have b2 : W4.cell? ⟨w.heap.size, 2, none⟩ = some (.string s) := cell_of HD4.out.box rfl
        have b3 : W4.cell? ⟨w.heap.size, 3, none⟩ = some (.int .i64 0) := cell_of HD4.out.box rfl

        have DO := Lib.hid (rdoes_any (w := W4.drew) (HD4.out.rep.n.stay (Below.drew (Below.refl _ _))) (Nat.le_trans HD4.out.rep.len.2 HD4.out.rep.size.2.2) (Do.wr n, s) HMAY.out HTOT.out)
        have HDR := Lib.hid (HD4.out.stay (Below.drew (Below.refl _ _)))
        have HMID := Lib.hid (fun (w1 : World) (o : Option Addr) (c : Nat) (hf : FL w1 (.slice o (refAct (Do.wr n, s) r.N).length c) (refAct (Do.wr n, s) r.N)) (hb : Below W4.drew.heap.size W4.drew w1) (ho : ∀ g, (Value.slice o (refAct (Do.wr n, s) r.N).length c).ownBlock = some g → W4.drew.heap.size ≤ g) => do_mid HDR.out hf hb ho)
        have HFIN := Lib.hid (fun (o : Option Addr) (c : Nat) (U : World) (h : DoMid w x kv (.slice oo r.T.length oc) (.slice o (refAct (Do.wr n, s) r.N).length c) F r.room r.K r.T (refAct (Do.wr n, s) r.N) (opL (Do.wr n, s)) U) (v' : Value) (w4 : World) hs hg ha => do_fin H0.out h HMAY.out HS.out (v' := v') (w4 := w4) hs hg ha)
        clear HD4 HDR

        have DO' : Hid (Calls Try.prog 54 #[.slice no r.N.length nc, .agg #[.int .i64 2, .string n, .string s, .int .i64 0]] W4.drew fun e w' => FPost W4.drew (refAct (Do.wr n, s) r.N) e w') := DO
        obtain ⟨M, HM⟩ : ∃ M, Hid (refAct (Do.wr n, s) r.N = M) := ⟨_, Lib.hid rfl⟩
        rw [HM.out] at DO' HMID HFIN
        clear DO
        go_wp2_with fail
        go_region_law (go_simp; go_at_call 54; refine DO'.out.mono ?_; rintro e w1 hf; obtain ⟨fo, fc, rfl, f1, f2, f3⟩ := hf; obtain ⟨z1, z2, z3⟩ := HMID.out _ _ _ f1 f2 f3; have HZ := Lib.hid z3; clear f1 f2 f3 z3)
        all_goals
          obtain ⟨W5, HW5⟩ : ∃ W, Hid (w1.setCell ⟨x, 3, none⟩ (.slice fo M.length fc) = W) := ⟨_, Lib.hid rfl⟩
          rw [HW5.out] at HZ ⊢
          clear z1 z2 HW5
          have g2 : W5.cell? ⟨x, 2, none⟩ = some (.slice oo r.T.length oc) := cell_of HZ.out.blk rfl
          have b0 : W5.cell? ⟨w.heap.size, 0, none⟩ = some (.int .i64 2) := cell_of HZ.out.box rfl
          have b1 : W5.cell? ⟨w.heap.size, 1, none⟩ = some (.string n) := cell_of HZ.out.box rfl
          have b2 : W5.cell? ⟨w.heap.size, 2, none⟩ = some (.string s) := cell_of HZ.out.box rfl
          have b3 : W5.cell? ⟨w.heap.size, 3, none⟩ = some (.int .i64 0) := cell_of HZ.out.box rfl
          have hx5 : x < W5.heap.size := (Array.getElem?_eq_some_iff.1 HZ.out.blk).1
          have hw5 : w.heap.size < W5.heap.size := (Array.getElem?_eq_some_iff.1 HZ.out.box).1
          have HSL := Lib.hid (show sl (W5.drew.alloc (.cells #[.int .i64 2, .string n, .string s, .int .i64 0] 68)) 68 4 (.slice oo r.T.length oc) r.T.length (ocells r.T) from sl.stay HZ.out.drew.o (fun g hg => Below.heap_alloc _ _ _ (sl.lt HZ.out.drew.o hg)))
          have HCN := Lib.hid (cell_new4 (Go.heap_alloc_new W5.drew (.cells #[.int .i64 2, .string n, .string s, .int .i64 0] 68)))
          have HFI := Lib.hid (fun v' w4 hs hg ha => HFIN.out fo fc W5.drew HZ.out.drew v' w4 hs hg ha)
          clear HFIN HMID
          go_wp2_with fail
          go_region_law (refine step_append_sl (by rfl) _ _ 40 (by rfl) 68 i6 z6 4 48 Try.underlying40 hi6 hz6 hsz6 hby6 hzs6 (by decide) (.slice oo r.T.length oc) r.T.length (ocells r.T) (by rfl) HSL.out (some ⟨W5.heap.size, 0, none⟩) 1 1 [.int .i64 2, .string n, .string s, .int .i64 0] (by rfl) (by rfl) (fun _ => ⟨_, rfl, HCN.out⟩) (fun h => absurd h (by decide)) (by simp [Value.oneCell']) HTL1.out HTL2.out ?_; intro v' w4 hs hg4 ha; obtain ⟨y1, y2, y3⟩ := HFI.out v' w4 hs hg4 ha; have HY := Lib.hid y3; obtain ⟨vo, vc, rfl⟩ := sl_shape hs; clear hs hg4 ha y3)
          all_goals
            go_wp2
            go_ret
            refine ⟨rfl, ?_⟩
            have hY := HY.out
            unfold rput
            rw [HM.out]
            exact hY

    · have e0 : E = (r, 6) := by rw [← HE.out]; simp only [rwriteM, hn, hX, hY, hZ]; simp [hok]
      subst e0
      have D2 : (X = false) ∨ (X = true ∧ Y = false ∧ Z = false) := by cases X <;> cases Y <;> cases Z <;> simp at hok <;> simp
      clear h HE hn hz hY hX hZ hok D
      rcases D2 with rfl | ⟨rfl, rfl, rfl⟩
      · simp only [Bool.not_true, Bool.not_false] at qX
        go_enter Try.func36, Try.ntmps36
        go_wp2_with fail
        rw [HW1.out]
        refine (MN _).mono ?_
        rintro e W1 ⟨rfl, rfl⟩

        have a0 : W1.cell? ⟨x, 0, none⟩ = some (.int .i64 r.room) := HD1.out.rep.cells.1
        have a1 : W1.cell? ⟨x, 1, none⟩ = some kv := HD1.out.rep.cells.2.1
        have a2 : W1.cell? ⟨x, 2, none⟩ = some (.slice oo r.T.length oc) := HD1.out.rep.cells.2.2.1
        have a3 : W1.cell? ⟨x, 3, none⟩ = some (.slice no r.N.length nc) := HD1.out.rep.cells.2.2.2
        have b0 : W1.cell? ⟨w.heap.size, 0, none⟩ = some (.int .i64 2) := cell_of HD1.out.box rfl
        have b1 : W1.cell? ⟨w.heap.size, 1, none⟩ = some (.string n) := cell_of HD1.out.box rfl
        have b2 : W1.cell? ⟨w.heap.size, 2, none⟩ = some (.string s) := cell_of HD1.out.box rfl
        have b3 : W1.cell? ⟨w.heap.size, 3, none⟩ = some (.int .i64 0) := cell_of HD1.out.box rfl
        have qa0 := fun p os => cell_regrown a0 p os
        have qa1 := fun p os => cell_regrown a1 p os
        have qa2 := fun p os => cell_regrown a2 p os
        have qa3 := fun p os => cell_regrown a3 p os
        have qb0 := fun p os => cell_regrown b0 p os
        have qb1 := fun p os => cell_regrown b1 p os
        have qb2 := fun p os => cell_regrown b2 p os
        have qb3 := fun p os => cell_regrown b3 p os
        go_wp2_with fail
        refine wp_region_quiet_below (by kernel_rfl) (by kernel_rfl) ?_
        repeat (go_big_quiet_step (exact FI.out _ _))
        refine wpQuiet_nil ?_
        intro _ hw'
        obtain ⟨⟨dq, osq⟩, hw''⟩ := hw'
        subst hw''
        have HD2 := Lib.hid (HD1.out.stay (below_regrown W1 dq osq))
        generalize grow (redrawn W1 dq) osq = W2 at *
        clear qa0 qa1 qa2 qa3 qb0 qb1 qb2 qb3 a0 a1 a2 a3 b0 b1 b2 b3

        have a0 : W2.cell? ⟨x, 0, none⟩ = some (.int .i64 r.room) := HD2.out.rep.cells.1
        have a1 : W2.cell? ⟨x, 1, none⟩ = some kv := HD2.out.rep.cells.2.1
        have a2 : W2.cell? ⟨x, 2, none⟩ = some (.slice oo r.T.length oc) := HD2.out.rep.cells.2.2.1
        have a3 : W2.cell? ⟨x, 3, none⟩ = some (.slice no r.N.length nc) := HD2.out.rep.cells.2.2.2
        have b0 : W2.cell? ⟨w.heap.size, 0, none⟩ = some (.int .i64 2) := cell_of HD2.out.box rfl
        have b1 : W2.cell? ⟨w.heap.size, 1, none⟩ = some (.string n) := cell_of HD2.out.box rfl
        have b2 : W2.cell? ⟨w.heap.size, 2, none⟩ = some (.string s) := cell_of HD2.out.box rfl
        have b3 : W2.cell? ⟨w.heap.size, 3, none⟩ = some (.int .i64 0) := cell_of HD2.out.box rfl
        have US2 := (HBS.out W2 HD2.out).1
        have qa0 := fun p os => cell_regrown a0 p os
        have qa1 := fun p os => cell_regrown a1 p os
        have qa2 := fun p os => cell_regrown a2 p os
        have qa3 := fun p os => cell_regrown a3 p os
        have qb0 := fun p os => cell_regrown b0 p os
        have qb1 := fun p os => cell_regrown b1 p os
        have qb2 := fun p os => cell_regrown b2 p os
        have qb3 := fun p os => cell_regrown b3 p os
        go_wp2_with fail
        refine wp_region_quiet_below (by kernel_rfl) (by kernel_rfl) ?_
        repeat (go_big_quiet_step (exact US2 _ _))
        refine wpQuiet_nil ?_
        intro _ hw'
        obtain ⟨⟨dq, osq⟩, hw''⟩ := hw'
        subst hw''
        have HD3 := Lib.hid (HD2.out.stay (below_regrown W2 dq osq))
        generalize grow (redrawn W2 dq) osq = W3 at *
        clear qa0 qa1 qa2 qa3 qb0 qb1 qb2 qb3 a0 a1 a2 a3 b0 b1 b2 b3
        clear US2

        have a0 : W3.cell? ⟨x, 0, none⟩ = some (.int .i64 r.room) := HD3.out.rep.cells.1
        have a1 : W3.cell? ⟨x, 1, none⟩ = some kv := HD3.out.rep.cells.2.1
        have a2 : W3.cell? ⟨x, 2, none⟩ = some (.slice oo r.T.length oc) := HD3.out.rep.cells.2.2.1
        have a3 : W3.cell? ⟨x, 3, none⟩ = some (.slice no r.N.length nc) := HD3.out.rep.cells.2.2.2
        have b0 : W3.cell? ⟨w.heap.size, 0, none⟩ = some (.int .i64 2) := cell_of HD3.out.box rfl
        have b1 : W3.cell? ⟨w.heap.size, 1, none⟩ = some (.string n) := cell_of HD3.out.box rfl
        have b2 : W3.cell? ⟨w.heap.size, 2, none⟩ = some (.string s) := cell_of HD3.out.box rfl
        have b3 : W3.cell? ⟨w.heap.size, 3, none⟩ = some (.int .i64 0) := cell_of HD3.out.box rfl
        have BY3 := (HBS.out W3 HD3.out).2
        have qa0 := fun p os => cell_regrown a0 p os
        have qa1 := fun p os => cell_regrown a1 p os
        have qa2 := fun p os => cell_regrown a2 p os
        have qa3 := fun p os => cell_regrown a3 p os
        have qb0 := fun p os => cell_regrown b0 p os
        have qb1 := fun p os => cell_regrown b1 p os
        have qb2 := fun p os => cell_regrown b2 p os
        have qb3 := fun p os => cell_regrown b3 p os
        go_wp2_with fail
        refine wp_region_quiet_below (by kernel_rfl) (by kernel_rfl) ?_
        repeat (go_big_quiet_step (exact BY3 _ _))
        refine wpQuiet_nil ?_
        intro _ hw'
        obtain ⟨⟨dq, osq⟩, hw''⟩ := hw'
        subst hw''
        have HD4 := Lib.hid (HD3.out.stay (below_regrown W3 dq osq))
        generalize grow (redrawn W3 dq) osq = W4 at *
        clear qa0 qa1 qa2 qa3 qb0 qb1 qb2 qb3 a0 a1 a2 a3 b0 b1 b2 b3
        clear BY3

        have a0 : W4.cell? ⟨x, 0, none⟩ = some (.int .i64 r.room) := HD4.out.rep.cells.1
        have a1 : W4.cell? ⟨x, 1, none⟩ = some kv := HD4.out.rep.cells.2.1
        have a2 : W4.cell? ⟨x, 2, none⟩ = some (.slice oo r.T.length oc) := HD4.out.rep.cells.2.2.1
        have a3 : W4.cell? ⟨x, 3, none⟩ = some (.slice no r.N.length nc) := HD4.out.rep.cells.2.2.2
        have b0 : W4.cell? ⟨w.heap.size, 0, none⟩ = some (.int .i64 2) := cell_of HD4.out.box rfl
        have b1 : W4.cell? ⟨w.heap.size, 1, none⟩ = some (.string n) := cell_of HD4.out.box rfl
        have b2 : W4.cell? ⟨w.heap.size, 2, none⟩ = some (.string s) := cell_of HD4.out.box rfl
        have b3 : W4.cell? ⟨w.heap.size, 3, none⟩ = some (.int .i64 0) := cell_of HD4.out.box rfl

        go_wp2
        go_ret
        exact ⟨rfl, RTo.larger (HD4.out.same (by omega)) (by omega) hS⟩

      · simp only [Bool.not_true, Bool.not_false] at qX qZ
        go_enter Try.func36, Try.ntmps36
        go_wp2_with fail
        rw [HW1.out]
        refine (MN _).mono ?_
        rintro e W1 ⟨rfl, rfl⟩

        have a0 : W1.cell? ⟨x, 0, none⟩ = some (.int .i64 r.room) := HD1.out.rep.cells.1
        have a1 : W1.cell? ⟨x, 1, none⟩ = some kv := HD1.out.rep.cells.2.1
        have a2 : W1.cell? ⟨x, 2, none⟩ = some (.slice oo r.T.length oc) := HD1.out.rep.cells.2.2.1
        have a3 : W1.cell? ⟨x, 3, none⟩ = some (.slice no r.N.length nc) := HD1.out.rep.cells.2.2.2
        have b0 : W1.cell? ⟨w.heap.size, 0, none⟩ = some (.int .i64 2) := cell_of HD1.out.box rfl
        have b1 : W1.cell? ⟨w.heap.size, 1, none⟩ = some (.string n) := cell_of HD1.out.box rfl
        have b2 : W1.cell? ⟨w.heap.size, 2, none⟩ = some (.string s) := cell_of HD1.out.box rfl
        have b3 : W1.cell? ⟨w.heap.size, 3, none⟩ = some (.int .i64 0) := cell_of HD1.out.box rfl
        have qa0 := fun p os => cell_regrown a0 p os
        have qa1 := fun p os => cell_regrown a1 p os
        have qa2 := fun p os => cell_regrown a2 p os
        have qa3 := fun p os => cell_regrown a3 p os
        have qb0 := fun p os => cell_regrown b0 p os
        have qb1 := fun p os => cell_regrown b1 p os
        have qb2 := fun p os => cell_regrown b2 p os
        have qb3 := fun p os => cell_regrown b3 p os
        go_wp2_with fail
        refine wp_region_quiet_below (by kernel_rfl) (by kernel_rfl) ?_
        repeat (go_big_quiet_step (exact FI.out _ _))
        refine wpQuiet_nil ?_
        intro _ hw'
        obtain ⟨⟨dq, osq⟩, hw''⟩ := hw'
        subst hw''
        have HD2 := Lib.hid (HD1.out.stay (below_regrown W1 dq osq))
        generalize grow (redrawn W1 dq) osq = W2 at *
        clear qa0 qa1 qa2 qa3 qb0 qb1 qb2 qb3 a0 a1 a2 a3 b0 b1 b2 b3

        have a0 : W2.cell? ⟨x, 0, none⟩ = some (.int .i64 r.room) := HD2.out.rep.cells.1
        have a1 : W2.cell? ⟨x, 1, none⟩ = some kv := HD2.out.rep.cells.2.1
        have a2 : W2.cell? ⟨x, 2, none⟩ = some (.slice oo r.T.length oc) := HD2.out.rep.cells.2.2.1
        have a3 : W2.cell? ⟨x, 3, none⟩ = some (.slice no r.N.length nc) := HD2.out.rep.cells.2.2.2
        have b0 : W2.cell? ⟨w.heap.size, 0, none⟩ = some (.int .i64 2) := cell_of HD2.out.box rfl
        have b1 : W2.cell? ⟨w.heap.size, 1, none⟩ = some (.string n) := cell_of HD2.out.box rfl
        have b2 : W2.cell? ⟨w.heap.size, 2, none⟩ = some (.string s) := cell_of HD2.out.box rfl
        have b3 : W2.cell? ⟨w.heap.size, 3, none⟩ = some (.int .i64 0) := cell_of HD2.out.box rfl
        have US2 := (HBS.out W2 HD2.out).1
        have qa0 := fun p os => cell_regrown a0 p os
        have qa1 := fun p os => cell_regrown a1 p os
        have qa2 := fun p os => cell_regrown a2 p os
        have qa3 := fun p os => cell_regrown a3 p os
        have qb0 := fun p os => cell_regrown b0 p os
        have qb1 := fun p os => cell_regrown b1 p os
        have qb2 := fun p os => cell_regrown b2 p os
        have qb3 := fun p os => cell_regrown b3 p os
        go_wp2_with fail
        refine wp_region_quiet_below (by kernel_rfl) (by kernel_rfl) ?_
        repeat (go_big_quiet_step (exact US2 _ _))
        refine wpQuiet_nil ?_
        intro _ hw'
        obtain ⟨⟨dq, osq⟩, hw''⟩ := hw'
        subst hw''
        have HD3 := Lib.hid (HD2.out.stay (below_regrown W2 dq osq))
        generalize grow (redrawn W2 dq) osq = W3 at *
        clear qa0 qa1 qa2 qa3 qb0 qb1 qb2 qb3 a0 a1 a2 a3 b0 b1 b2 b3
        clear US2

        have a0 : W3.cell? ⟨x, 0, none⟩ = some (.int .i64 r.room) := HD3.out.rep.cells.1
        have a1 : W3.cell? ⟨x, 1, none⟩ = some kv := HD3.out.rep.cells.2.1
        have a2 : W3.cell? ⟨x, 2, none⟩ = some (.slice oo r.T.length oc) := HD3.out.rep.cells.2.2.1
        have a3 : W3.cell? ⟨x, 3, none⟩ = some (.slice no r.N.length nc) := HD3.out.rep.cells.2.2.2
        have b0 : W3.cell? ⟨w.heap.size, 0, none⟩ = some (.int .i64 2) := cell_of HD3.out.box rfl
        have b1 : W3.cell? ⟨w.heap.size, 1, none⟩ = some (.string n) := cell_of HD3.out.box rfl
        have b2 : W3.cell? ⟨w.heap.size, 2, none⟩ = some (.string s) := cell_of HD3.out.box rfl
        have b3 : W3.cell? ⟨w.heap.size, 3, none⟩ = some (.int .i64 0) := cell_of HD3.out.box rfl
        have BY3 := (HBS.out W3 HD3.out).2
        have qa0 := fun p os => cell_regrown a0 p os
        have qa1 := fun p os => cell_regrown a1 p os
        have qa2 := fun p os => cell_regrown a2 p os
        have qa3 := fun p os => cell_regrown a3 p os
        have qb0 := fun p os => cell_regrown b0 p os
        have qb1 := fun p os => cell_regrown b1 p os
        have qb2 := fun p os => cell_regrown b2 p os
        have qb3 := fun p os => cell_regrown b3 p os
        go_wp2_with fail
        refine wp_region_quiet_below (by kernel_rfl) (by kernel_rfl) ?_
        repeat (go_big_quiet_step (exact BY3 _ _))
        refine wpQuiet_nil ?_
        intro _ hw'
        obtain ⟨⟨dq, osq⟩, hw''⟩ := hw'
        subst hw''
        have HD4 := Lib.hid (HD3.out.stay (below_regrown W3 dq osq))
        generalize grow (redrawn W3 dq) osq = W4 at *
        clear qa0 qa1 qa2 qa3 qb0 qb1 qb2 qb3 a0 a1 a2 a3 b0 b1 b2 b3
        clear BY3

        have a0 : W4.cell? ⟨x, 0, none⟩ = some (.int .i64 r.room) := HD4.out.rep.cells.1
        have a1 : W4.cell? ⟨x, 1, none⟩ = some kv := HD4.out.rep.cells.2.1
        have a2 : W4.cell? ⟨x, 2, none⟩ = some (.slice oo r.T.length oc) := HD4.out.rep.cells.2.2.1
        have a3 : W4.cell? ⟨x, 3, none⟩ = some (.slice no r.N.length nc) := HD4.out.rep.cells.2.2.2
        have b0 : W4.cell? ⟨w.heap.size, 0, none⟩ = some (.int .i64 2) := cell_of HD4.out.box rfl
        have b1 : W4.cell? ⟨w.heap.size, 1, none⟩ = some (.string n) := cell_of HD4.out.box rfl
        have b2 : W4.cell? ⟨w.heap.size, 2, none⟩ = some (.string s) := cell_of HD4.out.box rfl
        have b3 : W4.cell? ⟨w.heap.size, 3, none⟩ = some (.int .i64 0) := cell_of HD4.out.box rfl

        go_wp2
        go_ret
        exact ⟨rfl, RTo.larger (HD4.out.same (by omega)) (by omega) hS⟩
end
end Go.Proofs.Ytjflkmihkfbgpaa
