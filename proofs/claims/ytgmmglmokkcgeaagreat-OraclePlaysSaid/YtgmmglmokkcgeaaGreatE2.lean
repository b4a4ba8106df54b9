/- Walks: the document's May. -/
import Derived.Test.YtgmmglmokkcgeaaGreatE1
import Derived.Test.YtgmmglmokkcgeaaGreatA4
namespace Go.Proofs.YtgmmglmokkcgeaaGreat
set_option linter.unusedVariables false
set_option linter.unusedSimpArgs false
open Go.RowKit Mk Go.Sort

theorem lists_two (o : OpM) : listsM o = (rkeysM o.keys && rneedsM o.needs) := by
  rw [listsM_eq]
  unfold rkeysM rneedsM
  generalize o.keys.all keyP = a
  generalize o.needs.all needP = b
  generalize decide (o.keys.length ≤ 256) = c
  generalize decide (1 ≤ o.needs.length) = d
  generalize decide (o.needs.length ≤ 256) = e
  generalize risingM o.keys = f
  generalize risingM (o.needs.map (·.1)) = g
  revert a b c d e f g
  decide
theorem pos_of {x : Nat} {b : Bool} (h : decide (x = 0) = !b) : decide (0 < x) = b := by
  by_cases e : x = 0
  · subst e
    cases b
    · rfl
    · simp at h
  · have h2 : decide (x = 0) = false := by simp [e]
    rw [h2] at h
    cases b
    · simp at h
    · simp; omega
/-- What is asked of a command's fields. -/
structure Asks (o : OpM) (bn bst be bg bto bat ke ne bl bnm p1 p2 kM nM : Bool) : Prop where
  n : decide (o.n = 0) = !bn
  st : decide (o.st = 0) = !bst
  e : decide (o.pred.toList = []) = be
  g : decide (o.g = 0) = !bg
  t2 : decide (o.to = 0) = !bto
  at_ : decide (o.at_ = 0) = !bat
  kE : o.keys.isEmpty = ke
  nE : o.needs.isEmpty = ne
  l : bl = !(ke && ne)
  nm : predOk o.pred = bnm
  p1 : decide (1 ≤ o.n) = p1
  p2 : decide (o.n ≤ 4096) = p2
  k : rkeysM o.keys = kM
  nd : rneedsM o.needs = nM
section
variable {o : OpM} {bn bst be bg bto bat ke ne bl bnm p1 p2 kM nM : Bool}
theorem may_1 (h : Asks o bn bst be bg bto bat ke ne bl bnm p1 p2 kM nM) (hk : o.k = 1) : mayM o = (p1 && p2 && !bst && be && !bg && !bto && !bat && !bl) := by
  have f1 := pos_of h.st
  have f2 := pos_of h.g
  have f3 := pos_of h.t2
  have f4 := pos_of h.at_
  have hl := h.l
  unfold mayM kindM leftM
  rw [hk]
  simp only [lists_two, h.n, h.st, h.e, h.g, h.t2, h.at_, h.kE, h.nE, h.nm, h.p1, h.p2, h.k, h.nd, f1, f2, f3, f4]
  subst hl
  clear f1 f2 f3 f4 h hk
  revert bn bst be bg bto bat ke ne bnm p1 p2 kM nM
  decide
theorem may_2 (h : Asks o bn bst be bg bto bat ke ne bl bnm p1 p2 kM nM) (hk : o.k = 2) : mayM o = (p1 && p2 && !bst && be && !bg && !bto && !bat && !bl) := by
  have f1 := pos_of h.st
  have f2 := pos_of h.g
  have f3 := pos_of h.t2
  have f4 := pos_of h.at_
  have hl := h.l
  unfold mayM kindM leftM
  rw [hk]
  simp only [lists_two, h.n, h.st, h.e, h.g, h.t2, h.at_, h.kE, h.nE, h.nm, h.p1, h.p2, h.k, h.nd, f1, f2, f3, f4]
  subst hl
  clear f1 f2 f3 f4 h hk
  revert bn bst be bg bto bat ke ne bnm p1 p2 kM nM
  decide
theorem may_3 (h : Asks o bn bst be bg bto bat ke ne bl bnm p1 p2 kM nM) (hk : o.k = 3) : mayM o = (bst && kM && nM && !bn && be && !bg && !bto && !bat) := by
  have f1 := pos_of h.st
  have f2 := pos_of h.g
  have f3 := pos_of h.t2
  have f4 := pos_of h.at_
  have hl := h.l
  unfold mayM kindM leftM
  rw [hk]
  simp only [lists_two, h.n, h.st, h.e, h.g, h.t2, h.at_, h.kE, h.nE, h.nm, h.p1, h.p2, h.k, h.nd, f1, f2, f3, f4]
  subst hl
  clear f1 f2 f3 f4 h hk
  revert bn bst be bg bto bat ke ne bnm p1 p2 kM nM
  decide
theorem may_4 (h : Asks o bn bst be bg bto bat ke ne bl bnm p1 p2 kM nM) (hk : o.k = 4) : mayM o = (bst && !bn && be && !bg && !bto && !bat && !bl) := by
  have f1 := pos_of h.st
  have f2 := pos_of h.g
  have f3 := pos_of h.t2
  have f4 := pos_of h.at_
  have hl := h.l
  unfold mayM kindM leftM
  rw [hk]
  simp only [lists_two, h.n, h.st, h.e, h.g, h.t2, h.at_, h.kE, h.nE, h.nm, h.p1, h.p2, h.k, h.nd, f1, f2, f3, f4]
  subst hl
  clear f1 f2 f3 f4 h hk
  revert bn bst be bg bto bat ke ne bnm p1 p2 kM nM
  decide
theorem may_5 (h : Asks o bn bst be bg bto bat ke ne bl bnm p1 p2 kM nM) (hk : o.k = 5) : mayM o = (bnm && bg && !bn && !bst && !bto && !bat && !bl) := by
  have f1 := pos_of h.st
  have f2 := pos_of h.g
  have f3 := pos_of h.t2
  have f4 := pos_of h.at_
  have hl := h.l
  unfold mayM kindM leftM
  rw [hk]
  simp only [lists_two, h.n, h.st, h.e, h.g, h.t2, h.at_, h.kE, h.nE, h.nm, h.p1, h.p2, h.k, h.nd, f1, f2, f3, f4]
  subst hl
  clear f1 f2 f3 f4 h hk
  revert bn bst be bg bto bat ke ne bnm p1 p2 kM nM
  decide
theorem may_6 (h : Asks o bn bst be bg bto bat ke ne bl bnm p1 p2 kM nM) (hk : o.k = 6) : mayM o = (bnm && bto && !bn && !bst && !bg && !bat && !bl) := by
  have f1 := pos_of h.st
  have f2 := pos_of h.g
  have f3 := pos_of h.t2
  have f4 := pos_of h.at_
  have hl := h.l
  unfold mayM kindM leftM
  rw [hk]
  simp only [lists_two, h.n, h.st, h.e, h.g, h.t2, h.at_, h.kE, h.nE, h.nm, h.p1, h.p2, h.k, h.nd, f1, f2, f3, f4]
  subst hl
  clear f1 f2 f3 f4 h hk
  revert bn bst be bg bto bat ke ne bnm p1 p2 kM nM
  decide
theorem may_7 (h : Asks o bn bst be bg bto bat ke ne bl bnm p1 p2 kM nM) (hk : o.k = 7) : mayM o = (bnm && bat && !bn && !bst && !bg && !bto && !bl) := by
  have f1 := pos_of h.st
  have f2 := pos_of h.g
  have f3 := pos_of h.t2
  have f4 := pos_of h.at_
  have hl := h.l
  unfold mayM kindM leftM
  rw [hk]
  simp only [lists_two, h.n, h.st, h.e, h.g, h.t2, h.at_, h.kE, h.nE, h.nm, h.p1, h.p2, h.k, h.nd, f1, f2, f3, f4]
  subst hl
  clear f1 f2 f3 f4 h hk
  revert bn bst be bg bto bat ke ne bnm p1 p2 kM nM
  decide
theorem may_8 (h : Asks o bn bst be bg bto bat ke ne bl bnm p1 p2 kM nM) (hk : o.k = 8) : mayM o = (bnm && bat && !bn && !bst && !bg && !bto && !bl) := by
  have f1 := pos_of h.st
  have f2 := pos_of h.g
  have f3 := pos_of h.t2
  have f4 := pos_of h.at_
  have hl := h.l
  unfold mayM kindM leftM
  rw [hk]
  simp only [lists_two, h.n, h.st, h.e, h.g, h.t2, h.at_, h.kE, h.nE, h.nm, h.p1, h.p2, h.k, h.nd, f1, f2, f3, f4]
  subst hl
  clear f1 f2 f3 f4 h hk
  revert bn bst be bg bto bat ke ne bnm p1 p2 kM nM
  decide
theorem may_9 (h : Asks o bn bst be bg bto bat ke ne bl bnm p1 p2 kM nM) (hk : o.k = 9) : mayM o = (bat && !bn && !bst && be && !bg && !bto && !bl) := by
  have f1 := pos_of h.st
  have f2 := pos_of h.g
  have f3 := pos_of h.t2
  have f4 := pos_of h.at_
  have hl := h.l
  unfold mayM kindM leftM
  rw [hk]
  simp only [lists_two, h.n, h.st, h.e, h.g, h.t2, h.at_, h.kE, h.nE, h.nm, h.p1, h.p2, h.k, h.nd, f1, f2, f3, f4]
  subst hl
  clear f1 f2 f3 f4 h hk
  revert bn bst be bg bto bat ke ne bnm p1 p2 kM nM
  decide
theorem may_else (h : ∀ k, 1 ≤ k → k ≤ 9 → o.k ≠ k) : mayM o = false := by
  unfold mayM kindM
  split <;> first | (exfalso; rename_i e; exact h _ (by decide) (by decide) e) | rfl
end
end Go.Proofs.YtgmmglmokkcgeaaGreat
