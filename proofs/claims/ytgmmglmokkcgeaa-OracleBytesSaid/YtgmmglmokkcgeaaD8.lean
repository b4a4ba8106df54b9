/- Walks: the readers. -/
import Derived.Test.YtgmmglmokkcgeaaD6
namespace Go.Proofs.Ytgmmglmokkcgeaa
set_option linter.unusedVariables false
set_option linter.unusedSimpArgs false
open Go.RowKit Mk Go.Sort

/-- What is left of bytes; were they not as they must be? -/
structure RdS where
  s : ByteArray
  bad : Bool
def RdAt (t : TypeId) (w : World) (b : Nat) (r : RdS) : Prop := w.heap[b]? = some (.cells #[.string r.s, .bool r.bad] t)
def numR (r : RdS) : Nat × RdS := ((Cod.rnum r.s.data.toList).1, ⟨str (Cod.rnum r.s.data.toList).2.1, r.bad || decide ((Cod.rnum r.s.data.toList).2.2 ≠ 0)⟩)
def smallR (r : RdS) : Nat × RdS := ((numR r).1 % 4294967296, ⟨(numR r).2.s, (numR r).2.bad || decide (4294967295 < (numR r).1)⟩)
def textR (r : RdS) : ByteArray × RdS := (str (Cod.rtext r.s.data.toList).1, ⟨str (Cod.rtext r.s.data.toList).2.1, r.bad || decide ((Cod.rtext r.s.data.toList).2.2 ≠ 0)⟩)
theorem rtext_le (l : List UInt8) : (Cod.rtext l).2.1.length ≤ l.length ∧ (Cod.rtext l).1.length ≤ l.length := by
  have h := rnum_le l
  unfold Cod.rtext
  split
  · simp
  · split
    · simp
    · simp only [List.length_drop, List.length_take]; omega
theorem rtext_code (l : List UInt8) : (Cod.rtext l).2.2 = 0 ∨ (Cod.rtext l).2.2 = 20 ∨ (Cod.rtext l).2.2 = 21 := by
  have h := rnum_code l
  unfold Cod.rtext
  split
  · exact h
  · split
    · simp
    · simp
theorem numR_le (r : RdS) : (numR r).2.s.size ≤ r.s.size ∧ (numR r).1 < 18446744073709551616 := by
  have := rnum_le r.s.data.toList
  rw [len_list] at this
  exact ⟨this, rnum_lt _⟩
theorem smallR_le (r : RdS) : (smallR r).2.s.size ≤ r.s.size ∧ (smallR r).1 < 4294967296 := ⟨(numR_le r).1, by unfold smallR; simp only; omega⟩
theorem textR_le (r : RdS) : (textR r).2.s.size ≤ r.s.size ∧ (textR r).1.size ≤ r.s.size := by
  have := rtext_le r.s.data.toList
  rw [len_list] at this
  exact this
section
variable {w : World} {b : Nat} {r : RdS} {t : TypeId}
theorem RdAt.lt (h : RdAt t w b r) : b < w.heap.size := (Array.getElem?_eq_some_iff.1 h).1
theorem RdAt.stay {w' : World} (h : RdAt t w b r) (c : Chg (fun _ => False) w w') : RdAt t w' b r := (c.block b h.lt (fun f => f)).trans h
theorem RdAt.put (h : RdAt t w b r) {w1 : World} (c : Chg (fun _ => False) w w1) (bd : Bool) (s' : ByteArray) :
    w1.cell? ⟨b, 1, none⟩ = some (.bool r.bad) ∧ w1.frozen? ⟨b, 1, none⟩ = false ∧ (w1.setCell ⟨b, 1, none⟩ (.bool bd)).frozen? ⟨b, 0, none⟩ = false ∧ (w1.setCell ⟨b, 1, none⟩ (.bool bd)).cell? ⟨b, 0, none⟩ = some (.string r.s) ∧
    RdAt t ((w1.setCell ⟨b, 1, none⟩ (.bool bd)).setCell ⟨b, 0, none⟩ (.string s')) b ⟨s', bd⟩ ∧ Chg (fun g => g = b) w ((w1.setCell ⟨b, 1, none⟩ (.bool bd)).setCell ⟨b, 0, none⟩ (.string s')) := by
  have h1 := h.stay c
  have g1 := Mk.heap_setCell_same (i := 1) h1 (.bool bd)
  have g2 := Mk.heap_setCell_same (i := 0) g1 (.string s')
  exact ⟨cell_of h1 rfl, frozen_of h1, frozen_of g1, cell_of g1 rfl, g2, ((c.mono (G := fun g => g = b) (fun _ f => f.elim)).setCell (a := ⟨b, 1, none⟩) (Or.inl rfl) _).setCell (a := ⟨b, 0, none⟩) (Or.inl rfl) _⟩
theorem RdAt.set1 (h : RdAt t w b r) (bd : Bool) : w.cell? ⟨b, 1, none⟩ = some (.bool r.bad) ∧ w.frozen? ⟨b, 1, none⟩ = false ∧ RdAt t (w.setCell ⟨b, 1, none⟩ (.bool bd)) b ⟨r.s, bd⟩ ∧ Chg (fun g => g = b) w (w.setCell ⟨b, 1, none⟩ (.bool bd)) :=
  ⟨cell_of h rfl, frozen_of h, Mk.heap_setCell_same (i := 1) h _, (Chg.refl (fun g => g = b) w).setCell (a := ⟨b, 1, none⟩) (Or.inl rfl) _⟩
set_option maxRecDepth 100000 in
theorem rdnum_any (h : RdAt 94 w b r) (hs : r.s.size ≤ 1099511627776) :
    Calls Try.prog 40 #[.pointer (some ⟨b, 0, none⟩)] w fun e w' => e = .returned (.int .u64 ((numR r).1 : Nat)) ∧ RdAt 94 w' b (numR r).2 ∧ Chg (fun g => g = b) w w' := by
  have N := readNum_any r.s (by simp only [maxLen]; omega) w
  obtain ⟨x, R, e, h1, hx, hR, he, h2, -⟩ := rnum_parts r.s (by simp only [maxLen]; omega)
  obtain ⟨e1, e2, e3⟩ := h2.out
  rw [h1] at N
  have N := Lib.hid N
  have hE : numR r = (x, ⟨R, r.bad || decide (e ≠ 0)⟩) := by unfold numR; rw [e1, e2, e3]
  rw [hE]
  have HP := Lib.hid (fun (w1 : World) (c : Chg (fun _ => False) w w1) (bd : Bool) => h.put c bd R)
  have c0 : w.cell? ⟨b, 0, none⟩ = some (.string r.s) := cell_of h rfl
  clear h e1 e2 e3 h1 hE
  obtain ⟨s, bd⟩ := r
  simp only at *
  rcases he with rfl | rfl | rfl <;> cases bd
  all_goals
    simp only [Bool.false_or, Bool.true_or, ne_eq, not_true_eq_false, decide_false, Nat.reduceEqDiff, not_false_eq_true, decide_true]
    go_enter Try.func40, Try.ntmps40
    go_wp2_with fail
    refine N.out.mono ?_
    rintro e w1 ⟨rfl, hb⟩
    obtain ⟨y1, y2, y3, y4, -, -⟩ := HP.out w1 (chg_of_below hb) true
    obtain ⟨-, -, z3, z4, -, -⟩ := HP.out w1 (chg_of_below hb) false
    have HF := Lib.hid (fun bd => (HP.out w1 (chg_of_below hb) bd).2.2.2.2)
    clear hb N HP
    go_wp2
    go_ret
    exact ⟨rfl, HF.out _⟩
set_option maxRecDepth 100000 in
theorem rdsmall_any (h : RdAt 94 w b r) (hs : r.s.size ≤ 1099511627776) :
    Calls Try.prog 39 #[.pointer (some ⟨b, 0, none⟩)] w fun e w' => e = .returned (.int .u32 ((smallR r).1 : Nat)) ∧ RdAt 94 w' b (smallR r).2 ∧ Chg (fun g => g = b) w w' := by
  have N := Lib.hid (rdnum_any h hs)
  have hx := (numR_le r).2
  unfold smallR
  obtain ⟨x, q, hq⟩ : ∃ x q, numR r = (x, q) := ⟨_, _, rfl⟩
  rw [hq] at N hx ⊢
  simp only at N hx ⊢
  have wx : IntKind.u32.wrap (x : Int) = ((x % 4294967296 : Nat) : Int) := by simp only [IntKind.wrap, IntKind.bits, IntKind.signed]; simp
  obtain ⟨z, hz⟩ : ∃ z, decide (4294967295 < x) = z := ⟨_, rfl⟩
  have dx : decide ((4294967295 : Int) < x) = z := by rw [← hz]; simp only [decide_eq_decide]; omega
  rw [hz]
  obtain ⟨qs, qb⟩ := q
  clear hq h hs hz
  cases z <;> cases qb
  all_goals
    go_enter Try.func39, Try.ntmps39
    go_wp2_with fail
    refine N.out.mono ?_
    rintro e w1 ⟨rfl, h1, hc⟩
    obtain ⟨y1, y2, -, -⟩ := h1.set1 true
    have HF := Lib.hid (fun bd => (h1.set1 bd).2.2)
    have HC := Lib.hid hc
    clear h1 hc N
    go_wp2
    go_ret
    exact ⟨rfl, (HF.out _).1, HC.out.trans (HF.out _).2⟩
set_option maxRecDepth 100000 in
theorem rdtext_any (h : RdAt 94 w b r) (hs : r.s.size ≤ 1099511627776) :
    Calls Try.prog 43 #[.pointer (some ⟨b, 0, none⟩)] w fun e w' => e = .returned (.string (textR r).1) ∧ RdAt 94 w' b (textR r).2 ∧ Chg (fun g => g = b) w w' := by
  have N := readText_any r.s (by simp only [maxLen]; omega) w
  have he := rtext_code r.s.data.toList
  unfold rtextV at N
  have hE : textR r = (str (Cod.rtext r.s.data.toList).1, ⟨str (Cod.rtext r.s.data.toList).2.1, r.bad || decide ((Cod.rtext r.s.data.toList).2.2 ≠ 0)⟩) := rfl
  rw [hE]
  generalize str (Cod.rtext r.s.data.toList).1 = T at *
  generalize str (Cod.rtext r.s.data.toList).2.1 = R at *
  generalize (Cod.rtext r.s.data.toList).2.2 = e at *
  have N := Lib.hid N
  have HP := Lib.hid (fun (w1 : World) (c : Chg (fun _ => False) w w1) (bd : Bool) => h.put c bd R)
  have c0 : w.cell? ⟨b, 0, none⟩ = some (.string r.s) := cell_of h rfl
  clear h hE
  obtain ⟨s, bd⟩ := r
  simp only at *
  rcases he with rfl | rfl | rfl <;> cases bd
  all_goals
    simp only [Bool.false_or, Bool.true_or, ne_eq, not_true_eq_false, decide_false, Nat.reduceEqDiff, not_false_eq_true, decide_true]
    go_enter Try.func43, Try.ntmps43
    go_wp2_with fail
    refine N.out.mono ?_
    rintro e w1 ⟨rfl, hb⟩
    obtain ⟨y1, y2, y3, y4, -, -⟩ := HP.out w1 (chg_of_below hb) true
    obtain ⟨-, -, z3, z4, -, -⟩ := HP.out w1 (chg_of_below hb) false
    have HF := Lib.hid (fun bd => (HP.out w1 (chg_of_below hb) bd).2.2.2.2)
    clear hb N HP
    go_wp2
    go_ret
    exact ⟨rfl, HF.out _⟩
set_option maxRecDepth 100000 in
theorem rrnum_any (h : RdAt 100 w b r) (hs : r.s.size ≤ 1099511627776) :
    Calls Try.prog 46 #[.pointer (some ⟨b, 0, none⟩)] w fun e w' => e = .returned (.int .u64 ((numR r).1 : Nat)) ∧ RdAt 100 w' b (numR r).2 ∧ Chg (fun g => g = b) w w' := by
  have N := rreadNum_any r.s (by simp only [maxLen]; omega) w
  obtain ⟨x, R, e, h1, hx, hR, he, h2, -⟩ := rnum_parts r.s (by simp only [maxLen]; omega)
  obtain ⟨e1, e2, e3⟩ := h2.out
  rw [h1] at N
  have N := Lib.hid N
  have hE : numR r = (x, ⟨R, r.bad || decide (e ≠ 0)⟩) := by unfold numR; rw [e1, e2, e3]
  rw [hE]
  have HP := Lib.hid (fun (w1 : World) (c : Chg (fun _ => False) w w1) (bd : Bool) => h.put c bd R)
  have c0 : w.cell? ⟨b, 0, none⟩ = some (.string r.s) := cell_of h rfl
  clear h e1 e2 e3 h1 hE
  obtain ⟨s, bd⟩ := r
  simp only at *
  rcases he with rfl | rfl | rfl <;> cases bd
  all_goals
    simp only [Bool.false_or, Bool.true_or, ne_eq, not_true_eq_false, decide_false, Nat.reduceEqDiff, not_false_eq_true, decide_true]
    go_enter Try.func46, Try.ntmps46
    go_wp2_with fail
    refine N.out.mono ?_
    rintro e w1 ⟨rfl, hb⟩
    obtain ⟨y1, y2, y3, y4, -, -⟩ := HP.out w1 (chg_of_below hb) true
    obtain ⟨-, -, z3, z4, -, -⟩ := HP.out w1 (chg_of_below hb) false
    have HF := Lib.hid (fun bd => (HP.out w1 (chg_of_below hb) bd).2.2.2.2)
    clear hb N HP
    go_wp2
    go_ret
    exact ⟨rfl, HF.out _⟩
set_option maxRecDepth 100000 in
theorem rrsmall_any (h : RdAt 100 w b r) (hs : r.s.size ≤ 1099511627776) :
    Calls Try.prog 45 #[.pointer (some ⟨b, 0, none⟩)] w fun e w' => e = .returned (.int .u32 ((smallR r).1 : Nat)) ∧ RdAt 100 w' b (smallR r).2 ∧ Chg (fun g => g = b) w w' := by
  have N := Lib.hid (rrnum_any h hs)
  have hx := (numR_le r).2
  unfold smallR
  obtain ⟨x, q, hq⟩ : ∃ x q, numR r = (x, q) := ⟨_, _, rfl⟩
  rw [hq] at N hx ⊢
  simp only at N hx ⊢
  have wx : IntKind.u32.wrap (x : Int) = ((x % 4294967296 : Nat) : Int) := by simp only [IntKind.wrap, IntKind.bits, IntKind.signed]; simp
  obtain ⟨z, hz⟩ : ∃ z, decide (4294967295 < x) = z := ⟨_, rfl⟩
  have dx : decide ((4294967295 : Int) < x) = z := by rw [← hz]; simp only [decide_eq_decide]; omega
  rw [hz]
  obtain ⟨qs, qb⟩ := q
  clear hq h hs hz
  cases z <;> cases qb
  all_goals
    go_enter Try.func45, Try.ntmps45
    go_wp2_with fail
    refine N.out.mono ?_
    rintro e w1 ⟨rfl, h1, hc⟩
    obtain ⟨y1, y2, -, -⟩ := h1.set1 true
    have HF := Lib.hid (fun bd => (h1.set1 bd).2.2)
    have HC := Lib.hid hc
    clear h1 hc N
    go_wp2
    go_ret
    exact ⟨rfl, (HF.out _).1, HC.out.trans (HF.out _).2⟩
set_option maxRecDepth 100000 in
theorem rrtext_any (h : RdAt 100 w b r) (hs : r.s.size ≤ 1099511627776) :
    Calls Try.prog 47 #[.pointer (some ⟨b, 0, none⟩)] w fun e w' => e = .returned (.string (textR r).1) ∧ RdAt 100 w' b (textR r).2 ∧ Chg (fun g => g = b) w w' := by
  have N := rreadText_any r.s (by simp only [maxLen]; omega) w
  have he := rtext_code r.s.data.toList
  unfold rtextV at N
  have hE : textR r = (str (Cod.rtext r.s.data.toList).1, ⟨str (Cod.rtext r.s.data.toList).2.1, r.bad || decide ((Cod.rtext r.s.data.toList).2.2 ≠ 0)⟩) := rfl
  rw [hE]
  generalize str (Cod.rtext r.s.data.toList).1 = T at *
  generalize str (Cod.rtext r.s.data.toList).2.1 = R at *
  generalize (Cod.rtext r.s.data.toList).2.2 = e at *
  have N := Lib.hid N
  have HP := Lib.hid (fun (w1 : World) (c : Chg (fun _ => False) w w1) (bd : Bool) => h.put c bd R)
  have c0 : w.cell? ⟨b, 0, none⟩ = some (.string r.s) := cell_of h rfl
  clear h hE
  obtain ⟨s, bd⟩ := r
  simp only at *
  rcases he with rfl | rfl | rfl <;> cases bd
  all_goals
    simp only [Bool.false_or, Bool.true_or, ne_eq, not_true_eq_false, decide_false, Nat.reduceEqDiff, not_false_eq_true, decide_true]
    go_enter Try.func47, Try.ntmps47
    go_wp2_with fail
    refine N.out.mono ?_
    rintro e w1 ⟨rfl, hb⟩
    obtain ⟨y1, y2, y3, y4, -, -⟩ := HP.out w1 (chg_of_below hb) true
    obtain ⟨-, -, z3, z4, -, -⟩ := HP.out w1 (chg_of_below hb) false
    have HF := Lib.hid (fun bd => (HP.out w1 (chg_of_below hb) bd).2.2.2.2)
    clear hb N HP
    go_wp2
    go_ret
    exact ⟨rfl, HF.out _⟩
end
end Go.Proofs.Ytgmmglmokkcgeaa
