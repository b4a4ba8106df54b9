/- Walks: stands: both disks look the same. -/
import Derived.Test.YtjflkmihkfbgpaaY2
namespace Go.Proofs.Ytjflkmihkfbgpaa
open Go.RowKit Mk Go.Sort
set_option linter.unusedVariables false
set_option linter.unusedSimpArgs false
section
variable {w : World} {b x n0 S : Nat} {d : DiskM} {r : RefM}
theorem disk_used_quiet {W : World} {F : Nat → Prop} (h : DiskIs W b F S d) : ∀ (p : Nat) (os : Array Obj), Calls Try.prog 16 #[.pointer (some ⟨b, 0, none⟩)] (grow (redrawn W p) os) fun e w'' => e = .returned (.int .i64 (tot d.now)) ∧ ∃ p : Regrown, w'' = grow (redrawn W p.d) p.os :=
  regrown_chg (fun w' hw => by obtain ⟨r1, r2, v, ts, h⟩ := h; exact used_any (h.same hw))
theorem disk_loose_quiet {W : World} {F : Nat → Prop} (h : DiskIs W b F S d) : ∀ (p : Nat) (os : Array Obj), Calls Try.prog 18 #[.pointer (some ⟨b, 0, none⟩)] (grow (redrawn W p) os) fun e w'' => e = .returned (.int .i64 d.T.length) ∧ ∃ p : Regrown, w'' = grow (redrawn W p.d) p.os :=
  regrown_chg (fun w' hw => (loose_any (h.same hw)).mono fun e w'' hh => ⟨hh.1, by rw [hh.2]; exact Chg.refl _ _⟩)
set_option maxRecDepth 100000 in
set_option maxHeartbeats 4000000 in
theorem stands_any (T : Two n0 w b x S d r) :
    Calls Try.prog 19 #[.pointer (some ⟨b, 0, none⟩), .pointer (some ⟨x, 0, none⟩)] w fun e w' => e = .returned (.bool true) ∧ Chg (fun _ => False) w w' := by
  have H0 := Lib.hid T
  have hlim := T.lim
  have hlen : r.N.length ≤ 1099511627776 := by obtain ⟨-, ⟨kv, ov, nv, hr⟩, -⟩ := T; exact Nat.le_trans hr.len.2 hlim
  have hTl : d.T.length ≤ 1099511627776 := by obtain ⟨⟨r1, r2, v, ts, ha⟩, -, -⟩ := T; exact Nat.le_trans ha.len hlim
  have hdl : d.now.length ≤ 1099511627776 := by rw [← T.like.len]; exact hlen
  have hlk := Lib.hid T.like
  have NM : Hid (Calls Try.prog 27 #[.pointer (some ⟨b, 0, none⟩)] w fun e w' => ∃ o c, e = .returned (.slice o (sortN (d.now.map (·.1))).length c) ∧ NL w' (.slice o (sortN (d.now.map (·.1))).length c) (sortN (d.now.map (·.1))) ∧ Chg (fun _ => False) w w' ∧ ∀ g, (Value.slice o (sortN (d.now.map (·.1))).length c).ownBlock = some g → w.heap.size ≤ g) := by
    obtain ⟨⟨r1, r2, v, ts, ha⟩, -, -⟩ := T
    exact Lib.hid (names_any ha hdl)
  rw [like_names T.like] at NM
  obtain ⟨ns, hns⟩ : ∃ ns, r.N.map (·.1) = ns := ⟨_, rfl⟩
  have hnl : ns.length = r.N.length := by rw [← hns, List.length_map]
  have HAT := Lib.hid (show ∀ (j : Nat) (p : ByteArray × ByteArray), r.N[j]? = some p → ns[j]? = some p.1 from fun j p hp => by rw [← hns, List.getElem?_map, hp]; rfl)
  rw [hns, hnl] at NM
  have e1 : r.T.length = d.T.length := by rw [T.like.t]
  have e2 := T.like.tot
  clear T hns hdl
  go_enter Try.func19, Try.ntmps19
  go_wp2_with fail
  refine NM.out.mono ?_
  rintro e w1 ⟨lo, lc, rfl, hN1, hC1, -⟩
  have T1 := Lib.hid (H0.out.same hC1)
  have HC1 := Lib.hid hC1
  have HN1 := Lib.hid hN1
  clear hN1 hC1 NM
  obtain ⟨kv, ov, nv, hr⟩ := T1.out.rr
  obtain ⟨oo, oc, rfl⟩ := sl_shape hr.o
  obtain ⟨no, nc, rfl⟩ := hr.n.shape
  have a2 := hr.cells.2.2.1
  have a3 := hr.cells.2.2.2
  have qa2 := fun p os => cell_regrown a2 p os
  have qa3 := fun p os => cell_regrown a3 p os
  have U1 := Lib.hid (disk_used_quiet T1.out.a)
  have U2 := Lib.hid (used_quiet T1.out.rr)
  have U3 := Lib.hid (disk_loose_quiet T1.out.a)
  rw [e2] at U2
  rw [e1] at a2 qa2
  have HRR := Lib.hid hr
  clear hr e1 e2
  go_wp2_with fail
  refine wp_region_quiet_below (by kernel_rfl) (by kernel_rfl) ?_
  repeat (go_big_quiet_step (first | exact U1.out _ _ | exact U2.out _ _ | exact U3.out _ _))
  refine wpQuiet_nil ?_
  intro _ hw'
  obtain ⟨⟨dq, osq⟩, hw''⟩ := hw'
  subst hw''
  have hC2 := chg_of_below (below_regrown w1 dq osq)
  have HC2 := Lib.hid (HC1.out.trans hC2)
  have HN2 : Hid (NL (grow (redrawn w1 dq) osq) (.slice lo r.N.length lc) ns) := Lib.hid (HN1.out.stay (below_regrown w1 dq osq))
  have HX2 := Lib.hid (HRR.out.below (below_regrown w1 dq osq))
  clear U1 U2 U3 a2 a3 qa2 qa3 HC1 HN1 HRR hC2 T1
  generalize grow (redrawn w1 dq) osq = W2 at *
  clear dq osq w1
  go_wp2
  go_loopw [6] (fun i wq => ∃ j : Nat, j ≤ r.N.length ∧ i = .int .i64 j ∧ Hid (Chg (fun _ => False) w wq) ∧ Hid (NL wq (.slice lo r.N.length lc) ns) ∧ Hid (RRep wq x kv (.slice oo r.T.length oc) (.slice no r.N.length nc) (fun g => n0 ≤ g) S r)) (fun i _ => r.N.length - (intOf i).toNat)
  case atStart => exact ⟨0, by omega, rfl, HC2, HN2, HX2⟩
  case round =>
    obtain ⟨j, hj, rfl, HC3, HN3, HX3⟩ := hrel
    clear HC2 HN2 HX2
    by_cases hlj : j < r.N.length
    · have hdj : decide ((j : Int) < r.N.length) = true := by simp; omega
      have hdj' : decide (j < r.N.length) = true := by simp; omega
      obtain ⟨⟨pn, ps⟩, hp⟩ : ∃ p, r.N[j]? = some p := ⟨r.N[j]'hlj, List.getElem?_eq_getElem hlj⟩
      have hnj := HAT.out j _ hp
      simp only at hnj
      obtain ⟨gl, cl, el, l0⟩ := HN3.out.cell hnj
      rw [hnl] at el
      cases el
      obtain ⟨gf, cf, ef, f0, f1⟩ := HX3.out.n.cells hp
      cases ef
      simp only at f0 f1
      have a3 := HX3.out.cells.2.2.2
      have RD := read_any (H0.out.a.same HC3.out) pn
      rw [like_at hlk.out hp] at RD
      have RD := Lib.hid RD
      have q0 : (0 : Int) ≤ j := by omega
      have q1 : (j : Int) < r.N.length := by omega
      have v1 : (pn.toList == pn.toList) = true := by simp
      have v2 : (ps.toList == ps.toList) = true := by simp
      clear hp hnj
      go_wp2_with fail
      refine RD.out.mono ?_
      rintro e w3 ⟨rfl, hC4⟩
      have hb4 := below_of_chg hC4
      have l0' := (World.cell?_of_block (a := ⟨gl, j, none⟩) (hb4.block gl (HN3.out.lt rfl))).trans l0
      have hX4 := HX3.out.below hb4
      have HN4 : Hid (NL w3 _ ns) := Lib.hid (HN3.out.stay hb4)
      have HC4 := Lib.hid (HC3.out.trans hC4)
      have hfl : gf < wr.heap.size := sl.lt HX3.out.n rfl
      have f0' := (World.cell?_of_block (a := ⟨gf, j * 2, none⟩) (hb4.block gf hfl)).trans f0
      have f1' := (World.cell?_of_block (a := ⟨gf, j * 2 + 1, none⟩) (hb4.block gf hfl)).trans f1
      have a3' := hX4.cells.2.2.2
      have HX4 := Lib.hid hX4
      clear RD hC4 hb4 hX4 l0 f0 f1 a3 HX3 HN3 HC3 hfl
      go_wp2
      go_region
      have HC5 := Lib.hid HC4.out.drew
      have HN5 : Hid (NL w3.drew (.slice (some ⟨gl, 0, none⟩) r.N.length lc) ns) := HN4
      have HX5 : Hid (RRep w3.drew x kv (.slice oo r.T.length oc) (.slice (some ⟨gf, 0, none⟩) r.N.length nc) (fun g => n0 ≤ g) S r) := Lib.hid (HX4.out.below (below_of_chg (Chg.refl _ w3).drew))
      go_wp2
      go_roundw
      case rel => exact ⟨j + 1, by omega, by go_num, HC5, HN5, HX5⟩
      case measure => simp [intOf]; omega
    · have hdj : decide ((j : Int) < r.N.length) = false := by simp; omega
      have hdj' : decide (j < r.N.length) = false := by simp; omega
      clear HN3 HX3
      go_wp2
      go_ret
      exact ⟨rfl, HC3.out⟩
end
end Go.Proofs.Ytjflkmihkfbgpaa
