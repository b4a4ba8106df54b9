/- The command that comes in. -/
import Derived.Test.YtgmmglmokkcgeaaGreatN3
import Derived.Deep.Slices
import Derived.ChangeArms
import Derived.WideShapes
namespace Go.Proofs.YtgmmglmokkcgeaaGreat
set_option linter.unusedVariables false
set_option linter.unusedSimpArgs false
open Go.RowKit Mk Go.Sort Go.WideShapes
theorem cells28z : Tryz.prog.cellsOf 28 = 9 := by kernel_rfl
theorem cells9z : Tryz.prog.cellsOf 9 = 1 := by kernel_rfl
theorem nineZ {cs : List Value} (h : cs.length = 9) : ∃ a b c d e f g i j, cs = [a, b, c, d, e, f, g, i, j] := by
  match cs, h with
  | [a, b, c, d, e, f, g, i, j], _ => exact ⟨a, b, c, d, e, f, g, i, j, rfl⟩
set_option maxRecDepth 100000 in
theorem open_cmd {H : Type} {enc : TypeId × Value → H} {W w : World} {r : Reach} {b0 base : Nat} {spare : Nat → Bool} {held : Bool} {v : Value} {d : DataW H} {p : List MemPlace}
    (hv : Value.okWide Tryz.prog W r b0 28 v) (h : DataW.Trod enc Tryz.prog w base spare held 28 v d p) : ∃ c0 c1 c2 c3 c4 x c6 c7 c8, v = .agg #[c0, c1, c2, c3, c4, .string x, c6, c7, c8] := by
  obtain ⟨cs, rfl, hcs⟩ := okWide_struct Tryz.underlying28 hv
  rw [cells28z] at hcs
  obtain ⟨c0, c1, c2, c3, c4, c5, c6, c7, c8, e⟩ := nineZ (cs := cs.toList) (by simpa using hcs)
  obtain rfl : cs = #[c0, c1, c2, c3, c4, c5, c6, c7, c8] := by rw [← e]
  obtain ⟨m0, hm0⟩ := h
  have hm1 : DataW.trod enc Tryz.prog w base spare held m0 28 [c0, c1, c2, c3, c4, c5, c6, c7, c8] = some (d, p) := hm0
  obtain ⟨ys, n', _, hxe, _, hyl, hf⟩ := DataW.trod_struct Tryz.underlying28 hm1
  have hyl : ys.length = 9 := hyl
  obtain ⟨y5, e5⟩ : ∃ y, ys[5]? = some y := ⟨ys[5]'(by omega), List.getElem?_eq_getElem (by omega)⟩
  have f5 : DataW.trod enc Tryz.prog w base spare held n' 9 [c5] = some y5 := by simpa [cells9z] using (hf 5 _ rfl).trans e5
  obtain ⟨s5, h5, _, w5⟩ := DataW.trod_string Tryz.underlying9 f5
  simp at h5
  subst h5
  exact ⟨_, _, _, _, _, _, _, _, _, rfl⟩
end Go.Proofs.YtgmmglmokkcgeaaGreat
