/- Walks: Read's closures: a number, a text. -/
import Derived.Test.YtcaemfogknaioaaP1
import Derived.Test.YtcaemfogknaioaaE2
namespace Go.Proofs.Ytcaemfogknaioaa
set_option linter.unusedVariables false
set_option linter.unusedSimpArgs false
open Go.RowKit Mk Go.Sort

/-- What is still to be read, and whether all was well. -/
structure RdB (w : World) (sb bb : Nat) (r : RdS) : Prop where
  s : w.heap[sb]? = some (.cells #[.string r.s] 9)
  b : w.heap[bb]? = some (.cells #[.bool r.bad] 4)
section
variable {w w' : World} {sb bb : Nat} {r : RdS}
theorem RdB.ne (h : RdB w sb bb r) : sb ≠ bb := by
  rintro rfl
  have h1 := h.s
  rw [h.b] at h1
  injection h1 with h1
  injection h1 with h1 h2
  exact absurd h2 (by decide)
theorem RdB.lt (h : RdB w sb bb r) : sb < w.heap.size ∧ bb < w.heap.size := ⟨(Array.getElem?_eq_some_iff.1 h.s).1, (Array.getElem?_eq_some_iff.1 h.b).1⟩
theorem RdB.stay {G : Nat → Prop} (h : RdB w sb bb r) (c : Chg G w w') (h1 : ¬ G sb) (h2 : ¬ G bb) : RdB w' sb bb r :=
  ⟨(c.block sb h.lt.1 h1).trans h.s, (c.block bb h.lt.2 h2).trans h.b⟩
theorem RdB.same (h : RdB w sb bb r) (c : Chg (fun _ => False) w w') : RdB w' sb bb r := h.stay c (fun f => f) (fun f => f)
theorem RdB.put (h : RdB w sb bb r) {w1 : World} (c : Chg (fun _ => False) w w1) (bd : Bool) (s' : ByteArray) :
    w1.cell? ⟨sb, 0, none⟩ = some (.string r.s) ∧ w1.cell? ⟨bb, 0, none⟩ = some (.bool r.bad) ∧ w1.frozen? ⟨sb, 0, none⟩ = false ∧ (w1.setCell ⟨sb, 0, none⟩ (.string s')).frozen? ⟨bb, 0, none⟩ = false ∧ (w1.setCell ⟨sb, 0, none⟩ (.string s')).cell? ⟨bb, 0, none⟩ = some (.bool r.bad) ∧
    RdB ((w1.setCell ⟨sb, 0, none⟩ (.string s')).setCell ⟨bb, 0, none⟩ (.bool bd)) sb bb ⟨s', bd⟩ ∧ Chg (fun g => g = sb ∨ g = bb) w ((w1.setCell ⟨sb, 0, none⟩ (.string s')).setCell ⟨bb, 0, none⟩ (.bool bd)) := by
  have h1 := h.same c
  have g1 := Mk.heap_setCell_same (i := 0) h1.s (.string s')
  have g2 : (w1.setCell ⟨sb, 0, none⟩ (.string s')).heap[bb]? = some (.cells #[.bool r.bad] 4) := (Below.heap_setCell _ _ _ _ (fun e => h.ne e.symm)).trans h1.b
  have g3 := Mk.heap_setCell_same (i := 0) g2 (.bool bd)
  have g4 : ((w1.setCell ⟨sb, 0, none⟩ (.string s')).setCell ⟨bb, 0, none⟩ (.bool bd)).heap[sb]? = some (.cells #[.string s'] 9) := (Below.heap_setCell _ _ _ _ (fun e => h.ne e)).trans g1
  exact ⟨cell_of h1.s rfl, cell_of h1.b rfl, frozen_of h1.s, frozen_of g2, cell_of g2 rfl, ⟨g4, g3⟩, ((c.mono (G := fun g => g = sb ∨ g = bb) (fun _ f => f.elim)).setCell (a := ⟨sb, 0, none⟩) (Or.inl (Or.inl rfl)) _).setCell (a := ⟨bb, 0, none⟩) (Or.inl (Or.inr rfl)) _⟩
/-- The second is set alone. -/
theorem RdB.set (h : RdB w sb bb r) (bd : Bool) : w.cell? ⟨bb, 0, none⟩ = some (.bool r.bad) ∧ w.frozen? ⟨bb, 0, none⟩ = false ∧ RdB (w.setCell ⟨bb, 0, none⟩ (.bool bd)) sb bb ⟨r.s, bd⟩ ∧ Chg (fun g => g = sb ∨ g = bb) w (w.setCell ⟨bb, 0, none⟩ (.bool bd)) :=
  ⟨cell_of h.b rfl, frozen_of h.b, ⟨(Below.heap_setCell _ _ _ _ (fun e => h.ne e)).trans h.s, Mk.heap_setCell_same (i := 0) h.b _⟩, (Chg.refl (fun g => g = sb ∨ g = bb) w).setCell (a := ⟨bb, 0, none⟩) (Or.inl (Or.inr rfl)) _⟩
set_option maxRecDepth 100000 in
theorem num39_any (h : RdB w sb bb r) (hs : r.s.size ≤ 1099511627776) :
    Calls Try.prog 39 #[.pointer (some ⟨sb, 0, none⟩), .pointer (some ⟨bb, 0, none⟩)] w fun e w' => e = .returned (.int .u64 ((numR r).1 : Nat)) ∧ RdB w' sb bb (numR r).2 ∧ Chg (fun g => g = sb ∨ g = bb) w w' := by
  have N := readNum_any r.s (by simp only [maxLen]; omega) w
  have he := rnum_code r.s.data.toList
  unfold rnumV at N
  have hE : numR r = ((Cod.rnum r.s.data.toList).1, ⟨str (Cod.rnum r.s.data.toList).2.1, r.bad || decide ((Cod.rnum r.s.data.toList).2.2 ≠ 0)⟩) := rfl
  rw [hE]
  generalize (Cod.rnum r.s.data.toList).1 = x at *
  generalize str (Cod.rnum r.s.data.toList).2.1 = R at *
  generalize (Cod.rnum r.s.data.toList).2.2 = e at *
  have N := Lib.hid N
  have HP := Lib.hid (fun (w1 : World) (c : Chg (fun _ => False) w w1) (bd : Bool) => h.put c bd R)
  have c0 : w.cell? ⟨sb, 0, none⟩ = some (.string r.s) := cell_of h.s rfl
  clear h hE
  obtain ⟨s, bd⟩ := r
  simp only at *
  rcases he with rfl | rfl | rfl <;> cases bd
  all_goals
    simp only [Bool.false_or, Bool.true_or, ne_eq, not_true_eq_false, decide_false, Nat.reduceEqDiff, not_false_eq_true, decide_true]
    go_enter Try.func39, Try.ntmps39
    go_wp2_with fail
    refine N.out.mono ?_
    rintro e w1 ⟨rfl, hb⟩
    obtain ⟨y0, y1, y2, y3, y4, -, -⟩ := HP.out w1 (chg_of_below hb) true
    have HF := Lib.hid (fun bd => (HP.out w1 (chg_of_below hb) bd).2.2.2.2.2)
    clear hb N HP
    go_wp2
    go_ret
    exact ⟨rfl, HF.out _⟩
set_option maxRecDepth 100000 in
theorem text40_any (h : RdB w sb bb r) (hs : r.s.size ≤ 1099511627776) :
    Calls Try.prog 40 #[.pointer (some ⟨sb, 0, none⟩), .pointer (some ⟨bb, 0, none⟩)] w fun e w' => e = .returned (.string (textR r).1) ∧ RdB w' sb bb (textR r).2 ∧ Chg (fun g => g = sb ∨ g = bb) w w' := by
  have N := readText_any r.s (by simp only [maxLen]; omega) w
  have he := rtext_code r.s.data.toList
  unfold rtextV at N
  have hE : textR r = (str (Cod.rtext r.s.data.toList).1, ⟨str (Cod.rtext r.s.data.toList).2.1, r.bad || decide ((Cod.rtext r.s.data.toList).2.2 ≠ 0)⟩) := rfl
  rw [hE]
  generalize str (Cod.rtext r.s.data.toList).1 = T at *
  generalize str (Cod.rtext r.s.data.toList).2.1 = R at *
  generalize (Cod.rtext r.s.data.toList).2.2 = e at *
  have N := Lib.hid N
  have HP := Lib.hid (fun (w1 : World) (c : Chg (fun _ => False) w w1) (bd : Bool) => h.put c bd R)
  have c0 : w.cell? ⟨sb, 0, none⟩ = some (.string r.s) := cell_of h.s rfl
  clear h hE
  obtain ⟨s, bd⟩ := r
  simp only at *
  rcases he with rfl | rfl | rfl <;> cases bd
  all_goals
    simp only [Bool.false_or, Bool.true_or, ne_eq, not_true_eq_false, decide_false, Nat.reduceEqDiff, not_false_eq_true, decide_true]
    go_enter Try.func40, Try.ntmps40
    go_wp2_with fail
    refine N.out.mono ?_
    rintro e w1 ⟨rfl, hb⟩
    obtain ⟨y0, y1, y2, y3, y4, -, -⟩ := HP.out w1 (chg_of_below hb) true
    have HF := Lib.hid (fun bd => (HP.out w1 (chg_of_below hb) bd).2.2.2.2.2)
    clear hb N HP
    go_wp2
    go_ret
    exact ⟨rfl, HF.out _⟩
theorem enters_of {P : Program} {f : FuncId} {fn : Func} {c : Code} (hf : P.funcs[f]? = some fn) (hname : (fn.name == "runtime.NumGoroutine") = false) (hb : fn.body = some c) : ∀ args u, (callFunc f args).run P u = .ok (.enter f args) u := by
  intro args w
  have h1 : fn.name ≠ "runtime.NumGoroutine" := by simpa using hname
  simp [callFunc, hf, h1, hb, mark]
theorem enters39 : ∀ args u, (callFunc 39 args).run Try.prog u = .ok (.enter 39 args) u := enters_of Try.func39 (by kernel_rfl) rfl
theorem enters40 : ∀ args u, (callFunc 40 args).run Try.prog u = .ok (.enter 40 args) u := enters_of Try.func40 (by kernel_rfl) rfl
theorem enters21 : ∀ args u, (callFunc 21 args).run Try.prog u = .ok (.enter 21 args) u := enters_of Try.func21 (by kernel_rfl) rfl
theorem enters24 : ∀ args u, (callFunc 24 args).run Try.prog u = .ok (.enter 24 args) u := enters_of Try.func24 (by kernel_rfl) rfl
/-- The statements' own readers and writers of states. -/
theorem whole_any (s : ByteArray) (w : World) : Calls Try.prog 24 #[.string s] w fun e w' => e = .returned (.string s) ∧ w' = w := by
  go_enter Try.func24, Try.ntmps24
  go_wp2
  go_ret
  exact ⟨rfl, rfl⟩
set_option maxRecDepth 100000 in
theorem unwhole_any (s : ByteArray) (hs : s.size ≤ maxLen) (w : World) : Calls Try.prog 21 #[.string s] w fun e w' => e = .returned (.tuple #[.string s, .bool (okS s)]) ∧ Chg (fun _ => False) w w' := by
  unfold okS
  by_cases h0 : s.size = 0
  · have q0 : decide ((s.size : Int) = 0) = true := by simp [h0]
    rw [dif_neg (by omega)]
    go_enter Try.func21, Try.ntmps21
    go_wp2
    go_quiet (fail)
    go_wp2
    go_ret2
    exact ⟨rfl, chg_of_below (below_drewN _ _)⟩
  · have h1 : 0 < s.size := by omega
    have q0 : decide ((s.size : Int) = 0) = false := decide_eq_false (by omega)
    have q1 : ((s.size : Int) == 0) = false := by have := h0; simp only [beq_eq_false_iff_ne, ne_eq]; omega
    have l1 : decide (s.size = 0) = false := decide_eq_false h0
    have b2 : (0 : Int) < s.size := by omega
    rw [dif_pos h1]
    obtain ⟨z, hz⟩ : ∃ z, decide (s[0].toNat ≠ 33) = z := ⟨_, rfl⟩
    have q2 : (((s[0].toNat : Nat) : Int) != 33) = z := by rw [← hz]; simp only [bne, ne_eq]; by_cases e : s[0].toNat = 33 <;> simp [e] <;> omega
    rw [hz]
    clear hz
    go_enter Try.func21, Try.ntmps21
    go_wp2
    go_quiet (fail)
    go_wp2
    go_ret2
    exact ⟨rfl, chg_of_below (below_drewN _ _)⟩
end
end Go.Proofs.Ytcaemfogknaioaa
