/- A range over a function that hands over nothing; the tablets of a state that is not there. -/
import Derived.Test.YtgmmglmokkcgeaaGreatN1
import Derived.RangeFuncFrom
import Derived.RangeFuncLeaves
import Derived.ControlIn
import Derived.LoopN
namespace Go.Proofs.YtgmmglmokkcgeaaGreat
set_option linter.unusedVariables false
set_option linter.unusedSimpArgs false
open Go.RowKit Mk Go.Sort
theorem below_of {w w' : World} (h : Chg (fun _ => False) w w') : Below w.heap.size w w' := h.below (fun _ f => f.elim) (Nat.le_refl _)
/-- A loop over a function that hands over nothing: on it goes, with a mark and a new block. -/
theorem range_none {P : Program} {g : Operand} {ps : Array Tmp} {assign body : Code} {Q : Exit → Act → World → Prop} {a : Act} {w : World} {gf : Nat} {lb : Array Value}
    (hg : a.eval g = .func (.func gf) #[] lb) (eg : ∀ args w, (callFunc gf args).run P w = .ok (.enter gf args) w)
    (hc : ∀ (l : Nat) (W : World), Chg (fun _ => False) w W → Calls P gf (#[.func (.yield l) #[] #[]] ++ lb) W fun e W' => (∃ v, e = .returned v) ∧ W' = W) (hps : ps.size = 1)
    (hdone : ∀ (D : Nat) (W : World), w.heap.size ≤ D → Chg (fun _ => False) w W → W.heap[D]? = some (.deferred (some [])) → Q .normal { a with defers := { target := .collected D, args := #[] } :: a.defers } W) :
    (Code.rangeFunc g ps assign body).wp P Q a w := by
  refine (wpIn_wide (n := 3)).1 ?_
  refine wpIn_rangeFunc_ownF (α := Empty) rfl (by decide) hg trivial eg (encs := fun _ => #[undef]) (Kp := fun _ _ => True) (S := fun xs => xs = []) (Sp := fun _ => False) (N := 0) (w0 := w) ?_ (fun _ _ => trivial) (fun _ _ _ _ _ _ _ _ => trivial) (Below.refl _ _) (fun x => x.elim)
    (fun _ W => Below w.heap.size w W) (fun _ _ _ => False) (ownFrom_below (Nat.le_refl _) (Nat.le_refl _)) (fun _ _ _ _ _ hs _ _ => hs) (Below.refl _ _) (fun x => x.elim) (fun _ x => x.elim) (fun _ _ x => x.elim) ?_ ?_
  · intro l J Jx W hB hJ hJx hY h0
    refine (callsIn_wide (n := 2)).2 ((hc l W (chg_of_below hB)).mono ?_)
    rintro e W' ⟨hv, rfl⟩
    exact ⟨hv, Or.inl ⟨[], rfl, h0⟩⟩
  · intro D xs W hD _ hB hK
    exact hdone D W hD (chg_of_below hB) hK
  · intro D c pre W _ h
    exact h.elim
theorem none_tab1 {w : World} {cb : Nat} {v : Value} (h : NoneV w v) (hc : w.cell? ⟨cb, 0, none⟩ = some v) (l : Nat) : Calls Tryz.prog 49 (#[.func (.yield l) #[] #[]] ++ #[.pointer (some ⟨cb, 0, none⟩)]) w fun e w' => (∃ v, e = .returned v) ∧ w' = w := by
  have N := Lib.hid (none_of h)
  clear h
  go_enter Tryz.func49, Tryz.ntmps49
  go_wp2_with fail
  refine N.out.mono ?_
  rintro e w' ⟨rfl, rfl⟩
  go_wp2
  refine bodyPost_ret (results_none rfl _ _ _) rfl ?_
  exact ⟨⟨_, rfl⟩, rfl⟩
end Go.Proofs.YtgmmglmokkcgeaaGreat
