/- Walks: what Scan hands over. -/
import Derived.Test.YtnhookblhckmlaaKm
import Derived.Test.YtnhookblhckmlaaKn
namespace Go.Proofs.Ytnhookblhckmlaa
set_option linter.unusedVariables false
set_option linter.unusedSimpArgs false
open Go.RowKit Mk Go.Shelf
attribute [local go_sem] Oper.semAt_some

/-- What the scan keeps: W0 the world in which it began, n1 the heap's size when its own loop began; l0 the loop that it serves. -/
structure ScanAt (J : List CellM → (Nat → Prop) → World → Prop) (R : Nat → Prop) (W0 : World) (l0 : Nat) (lo hi : ByteArray) (t : Nat) (pre : List CellM) (F : Nat → Prop) (W : World) : Prop where
  fo : ∃ FO, J (scanM lo hi t pre) FO W ∧ (∀ g, F g ↔ (FO g ∨ g = W0.heap.size + 1 ∨ g = W0.heap.size + 2)) ∧ ∀ g, FO g → (g < W0.heap.size ∧ ¬ R g) ∨ W0.heap.size + 4 ≤ g
  last : W.heap[W0.heap.size + 1]? = some (.cells #[.string (scSt lo hi t ⟨⟨#[]⟩, false⟩ pre).last] 9)
  any : W.heap[W0.heap.size + 2]? = some (.cells #[.bool (scSt lo hi t ⟨⟨#[]⟩, false⟩ pre).any] 4)
  yld : W.heap[W0.heap.size]? = some (.cells #[.func (.yield l0) #[] #[]] 72)
  read : ∀ g, R g → W.heap[g]? = W0.heap[g]?
  size : W0.heap.size + 4 ≤ W.heap.size
structure ScanX (Jx : List CellM → (Nat → Prop) → World → Prop) (R : Nat → Prop) (W0 : World) (lo hi : ByteArray) (t : Nat) (pre : List CellM) (F : Nat → Prop) (W : World) : Prop where
  fo : ∃ FO, Jx (scanM lo hi t pre) FO W ∧ (∀ g, F g ↔ (FO g ∨ g = W0.heap.size + 1 ∨ g = W0.heap.size + 2))
theorem ScanX.go {Jx : List CellM → (Nat → Prop) → World → Prop} {R : Nat → Prop} {W0 : World} {lo hi : ByteArray} {t : Nat} {pre : List CellM} {F : Nat → Prop} {W W' : World}
    (hJ : ∀ pre F W1 W2, Jx pre F W1 → Chg (fun g => W0.heap.size ≤ g ∧ ¬ F g) W1 W2 → Jx pre F W2) (h : ScanX Jx R W0 lo hi t pre F W) (c : Chg (fun g => W0.heap.size + 4 ≤ g ∧ ¬ F g) W W') : ScanX Jx R W0 lo hi t pre F W' := by
  obtain ⟨FO, h1, h2⟩ := h.fo
  exact ⟨FO, hJ _ _ _ _ h1 (c.mono (fun g f => ⟨by omega, fun hf => f.2 ((h2 g).2 (Or.inl hf))⟩)), h2⟩
theorem ScanAt.go {J : List CellM → (Nat → Prop) → World → Prop} {R : Nat → Prop} {W0 : World} {l0 : Nat} {lo hi : ByteArray} {t : Nat} {pre : List CellM} {F : Nat → Prop} {W W' : World}
    (hJ : ∀ pre F W1 W2, J pre F W1 → Chg (fun g => W0.heap.size ≤ g ∧ ¬ F g) W1 W2 → J pre F W2) (hR : ∀ g, R g → g < W0.heap.size)
    (h : ScanAt J R W0 l0 lo hi t pre F W) (c : Chg (fun g => W0.heap.size + 4 ≤ g ∧ ¬ F g) W W') : ScanAt J R W0 l0 lo hi t pre F W' := by
  obtain ⟨FO, h1, h2, h3⟩ := h.fo
  have hs := h.size
  refine ⟨⟨FO, hJ _ _ _ _ h1 (c.mono (fun g f => ⟨by omega, fun hf => f.2 ((h2 g).2 (Or.inl hf))⟩)), h2, h3⟩, ?_, ?_, ?_, fun g hg => ?_, Nat.le_trans hs c.size⟩
  · exact (c.block _ (by omega) (fun f => f.2 ((h2 _).2 (Or.inr (Or.inl rfl))))).trans h.last
  · exact (c.block _ (by omega) (fun f => f.2 ((h2 _).2 (Or.inr (Or.inr rfl))))).trans h.any
  · exact (c.block _ (by omega) (fun f => by omega)).trans h.yld
  · have := hR g hg
    exact (c.block _ (by omega) (fun f => by omega)).trans (h.read g hg)
/-- A cell that is passed over. -/
theorem ScanAt.skip {J : List CellM → (Nat → Prop) → World → Prop} {R : Nat → Prop} {W0 : World} {l0 : Nat} {lo hi : ByteArray} {t : Nat} {pre : List CellM} {F : Nat → Prop} {W : World} (h : ScanAt J R W0 l0 lo hi t pre F W)
    {x : CellM} (e : scStep lo hi t (scSt lo hi t ⟨⟨#[]⟩, false⟩ pre) x = (false, scSt lo hi t ⟨⟨#[]⟩, false⟩ pre)) : ScanAt J R W0 l0 lo hi t (pre ++ [x]) F W := by
  have e1 : scSt lo hi t ⟨⟨#[]⟩, false⟩ (pre ++ [x]) = scSt lo hi t ⟨⟨#[]⟩, false⟩ pre := by
    rw [scSt_append]; show (scStep lo hi t _ x).2 = _; rw [e]
  have e2 : scanM lo hi t (pre ++ [x]) = scanM lo hi t pre := by rw [scanM_snoc, e]; simp
  obtain ⟨h1, h2, h3, h4, h5, h6⟩ := h
  exact ⟨by rw [e2]; exact h1, by rw [e1]; exact h2, by rw [e1]; exact h3, h4, h5, h6⟩
/-- Its state behind a cell that is met first. -/
theorem ScanAt.met {J : List CellM → (Nat → Prop) → World → Prop} {R : Nat → Prop} {W0 : World} {l0 : Nat} {lo hi : ByteArray} {t : Nat} {pre : List CellM} {F : Nat → Prop} {W : World} (h : ScanAt J R W0 l0 lo hi t pre F W)
    (hJ : ∀ pre F W1 W2, J pre F W1 → Chg (fun g => W0.heap.size ≤ g ∧ ¬ F g) W1 W2 → J pre F W2) (hR : ∀ g, R g → g < W0.heap.size) {x : CellM} :
    ∃ FO, J (scanM lo hi t pre) FO ((W.setCell ⟨W0.heap.size + 1, 0, none⟩ (.string x.key)).setCell ⟨W0.heap.size + 2, 0, none⟩ (.bool true)) ∧ (∀ g, F g ↔ (FO g ∨ g = W0.heap.size + 1 ∨ g = W0.heap.size + 2)) ∧ (∀ g, FO g → (g < W0.heap.size ∧ ¬ R g) ∨ W0.heap.size + 4 ≤ g) ∧
    ∀ (FO' : Nat → Prop) (W' : World) (pre' : List CellM), Wider FO FO' ((W.setCell ⟨W0.heap.size + 1, 0, none⟩ (.string x.key)).setCell ⟨W0.heap.size + 2, 0, none⟩ (.bool true)) → Chg FO ((W.setCell ⟨W0.heap.size + 1, 0, none⟩ (.string x.key)).setCell ⟨W0.heap.size + 2, 0, none⟩ (.bool true)) W' → J (scanM lo hi t pre') FO' W' → scSt lo hi t ⟨⟨#[]⟩, false⟩ pre' = ⟨x.key, true⟩ →
      ScanAt J R W0 l0 lo hi t pre' (fun g => FO' g ∨ g = W0.heap.size + 1 ∨ g = W0.heap.size + 2) W' := by
  obtain ⟨FO, h1, h2, h3⟩ := h.fo
  have hs := h.size
  have n1 : ¬ FO (W0.heap.size + 1) := fun f => by rcases h3 _ f with f | f <;> omega
  have n2 : ¬ FO (W0.heap.size + 2) := fun f => by rcases h3 _ f with f | f <;> omega
  have c0 : Chg (fun g => g = W0.heap.size + 1 ∨ g = W0.heap.size + 2) W ((W.setCell ⟨W0.heap.size + 1, 0, none⟩ (.string x.key)).setCell ⟨W0.heap.size + 2, 0, none⟩ (.bool true)) :=
    ((Chg.refl _ W).setCell (a := ⟨W0.heap.size + 1, 0, none⟩) (Or.inl (Or.inl rfl)) (.string x.key)).setCell (a := ⟨W0.heap.size + 2, 0, none⟩) (Or.inl (Or.inr rfl)) (.bool true)
  have g6 := Mk.heap_setCell_same (i := 0) h.last (.string x.key)
  have e6 : (W.setCell ⟨W0.heap.size + 1, 0, none⟩ (.string x.key)).heap[W0.heap.size + 2]? = W.heap[W0.heap.size + 2]? := Below.heap_setCell _ _ _ _ (by show W0.heap.size + 2 ≠ W0.heap.size + 1; omega)
  have g7 := Mk.heap_setCell_same (i := 0) (e6.trans h.any) (.bool true)
  have g6' : ((W.setCell ⟨W0.heap.size + 1, 0, none⟩ (.string x.key)).setCell ⟨W0.heap.size + 2, 0, none⟩ (.bool true)).heap[W0.heap.size + 1]? = some (.cells #[.string x.key] 9) := by
    rw [Below.heap_setCell _ _ _ _ (by show W0.heap.size + 1 ≠ W0.heap.size + 2; omega)]; exact g6
  refine ⟨FO, hJ _ _ _ _ h1 (c0.mono (fun g e => by rcases e with rfl | rfl; exact ⟨by omega, n1⟩; exact ⟨by omega, n2⟩)), h2, h3, fun FO' W' pre' hw hc hj hst => ?_⟩
  generalize hX : (W.setCell ⟨W0.heap.size + 1, 0, none⟩ (.string x.key)).setCell ⟨W0.heap.size + 2, 0, none⟩ (.bool true) = X at *
  have hXs := c0.size
  refine ⟨⟨FO', hj, fun g => Iff.rfl, fun g f => ?_⟩, ?_, ?_, ?_, fun g hg => ?_, by have := hc.size; omega⟩
  · rcases hw g f with f | f
    · exact h3 g f
    · exact Or.inr (by omega)
  · rw [hst]
    exact (hc.block _ (by omega) n1).trans g6'
  · rw [hst]
    exact (hc.block _ (by omega) n2).trans g7
  · exact (hc.block _ (by omega) (fun f => by rcases h3 _ f with f | f <;> omega)).trans ((c0.block _ (by omega) (fun f => by omega)).trans h.yld)
  · have hg0 := hR g hg
    exact (hc.block _ (by omega) (fun f => by rcases h3 _ f with f | f; exact f.2 hg; omega)).trans ((c0.block _ (by omega) (fun f => by omega)).trans (h.read g hg))
end Go.Proofs.Ytnhookblhckmlaa
