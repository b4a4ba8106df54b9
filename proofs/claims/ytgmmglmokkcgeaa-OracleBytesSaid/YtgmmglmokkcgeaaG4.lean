/- The command that comes in. -/
import Derived.Test.YtgmmglmokkcgeaaAk
import Derived.WideShapes
namespace Go.Proofs.Ytgmmglmokkcgeaa
set_option linter.unusedVariables false
set_option linter.unusedSimpArgs false
open Go.RowKit Mk Go.Sort Go.WideShapes
set_option maxRecDepth 100000 in
theorem open_op {H : Type} {enc : TypeId × Value → H} {W w : World} {r : Reach} {b0 base : Nat} {spare : Nat → Bool} {held : Bool} {v : Value} {d : DataW H} {p : List MemPlace}
    (hv : Value.okWide Try.prog W r b0 34 v) (h : DataW.Trod enc Try.prog w base spare held 34 v d p) : ∃ o l, v = .agg (opC o l) ∧ OpAt w o l ∧ o.pred.size ≤ maxLen := by
  obtain ⟨cs, rfl, hcs⟩ := okWide_struct Try.underlying34 hv
  rw [cells34] at hcs
  obtain ⟨c0, c1, c2, c3, c4, c5, c6, c7, c8, e⟩ := nine (cs := cs.toList) (by simpa using hcs)
  obtain rfl : cs = #[c0, c1, c2, c3, c4, c5, c6, c7, c8] := by rw [← e]
  obtain ⟨m0, hm0⟩ := h
  have hm1 : DataW.trod enc Try.prog w base spare held m0 34 [c0, c1, c2, c3, c4, c5, c6, c7, c8] = some (d, p) := hm0
  obtain ⟨ys, n', _, hxe, _, hyl, hf⟩ := DataW.trod_struct Try.underlying34 hm1
  have hyl : ys.length = 9 := hyl
  have hy : ∀ j, j < 9 → ∃ y, ys[j]? = some y := fun j hj => ⟨ys[j]'(by omega), List.getElem?_eq_getElem (by omega)⟩
  obtain ⟨y0, e0⟩ := hy 0 (by omega)
  obtain ⟨y1, e1⟩ := hy 1 (by omega)
  obtain ⟨y2, e2⟩ := hy 2 (by omega)
  obtain ⟨y3, e3⟩ := hy 3 (by omega)
  obtain ⟨y4, e4⟩ := hy 4 (by omega)
  obtain ⟨y5, e5⟩ := hy 5 (by omega)
  obtain ⟨y6, e6⟩ := hy 6 (by omega)
  obtain ⟨y7, e7⟩ := hy 7 (by omega)
  obtain ⟨y8, e8⟩ := hy 8 (by omega)
  have f0 : DataW.trod enc Try.prog w base spare held n' 28 [c0] = some y0 := by simpa [cells28] using (hf 0 _ rfl).trans e0
  have f1 : DataW.trod enc Try.prog w base spare held n' 29 [c1] = some y1 := by simpa [cells29] using (hf 1 _ rfl).trans e1
  have f2 : DataW.trod enc Try.prog w base spare held n' 30 [c2] = some y2 := by simpa [cells30] using (hf 2 _ rfl).trans e2
  have f3 : DataW.trod enc Try.prog w base spare held n' 31 [c3] = some y3 := by simpa [cells31] using (hf 3 _ rfl).trans e3
  have f4 : DataW.trod enc Try.prog w base spare held n' 32 [c4] = some y4 := by simpa [cells32] using (hf 4 _ rfl).trans e4
  have f5 : DataW.trod enc Try.prog w base spare held n' 9 [c5] = some y5 := by simpa [cells9] using (hf 5 _ rfl).trans e5
  have f6 : DataW.trod enc Try.prog w base spare held n' 29 [c6] = some y6 := by simpa [cells29] using (hf 6 _ rfl).trans e6
  have f7 : DataW.trod enc Try.prog w base spare held n' 29 [c7] = some y7 := by simpa [cells29] using (hf 7 _ rfl).trans e7
  have f8 : DataW.trod enc Try.prog w base spare held n' 30 [c8] = some y8 := by simpa [cells30] using (hf 8 _ rfl).trans e8
  obtain ⟨ko, kl, kc, ks, h3, hkl, hks⟩ := open_strs f3
  obtain ⟨no, nl, nc, ns, h4, hnl, hns⟩ := open_needs f4
  obtain ⟨n0, h0, _, w0⟩ := DataW.trod_int Try.underlying28 f0
  obtain ⟨n1, h1, _, w1⟩ := DataW.trod_int Try.underlying29 f1
  obtain ⟨n2, h2, _, w2⟩ := DataW.trod_int Try.underlying30 f2
  obtain ⟨s5, h5, _, w5⟩ := DataW.trod_string Try.underlying9 f5
  obtain ⟨n6, h6, _, w6⟩ := DataW.trod_int Try.underlying29 f6
  obtain ⟨n7, h7, _, w7⟩ := DataW.trod_int Try.underlying29 f7
  obtain ⟨n8, h8, _, w8⟩ := DataW.trod_int Try.underlying30 f8
  simp at h0 h1 h2 h5 h6 h7 h8
  subst h0 h1 h2 h3 h4 h5 h6 h7 h8
  obtain ⟨k0, z0, rfl⟩ := u8_of w0
  obtain ⟨k1, z1, rfl⟩ := u32_of w1
  obtain ⟨k2, z2, rfl⟩ := u64_of w2
  obtain ⟨k6, z6, rfl⟩ := u32_of w6
  obtain ⟨k7, z7, rfl⟩ := u32_of w7
  obtain ⟨k8, z8, rfl⟩ := u64_of w8
  subst hkl hnl
  exact ⟨⟨k0, k1, k2, ks, ns, s5, k6, k7, k8⟩, ⟨ko, kc, no, nc⟩, rfl, ⟨hks, hns, z0, z1, z2, z6, z7, z8⟩, w5⟩
end Go.Proofs.Ytgmmglmokkcgeaa
