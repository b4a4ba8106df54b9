/- The cells that come in. -/
import Derived.Test.YtnhookblhckmlaaKj
import Derived.Deep.Slices
import Derived.Deep.MidRow
import Derived.ChangeArms
namespace Go.Proofs.Ytnhookblhckmlaa
set_option linter.unusedVariables false
set_option linter.unusedSimpArgs false
open Go.RowKit Mk Go.Sort

theorem choose_list {α : Type} {n : Nat} {P : Nat → α → Prop} (h : ∀ i, i < n → ∃ x, P i x) : ∃ xs : List α, xs.length = n ∧ ∀ i (hi : i < xs.length), P i xs[i] := by
  refine ⟨List.ofFn (fun i : Fin n => Classical.choose (h i i.2)), by simp, fun i hi => ?_⟩
  rw [List.getElem_ofFn]
  exact Classical.choose_spec (h i (by simpa using hi))
theorem cells24 : Try.prog.cellsOf 24 = 4 := by kernel_rfl
theorem cells9 : Try.prog.cellsOf 9 = 1 := by kernel_rfl
theorem cells22 : Try.prog.cellsOf 22 = 1 := by kernel_rfl
theorem cells4 : Try.prog.cellsOf 4 = 1 := by kernel_rfl
theorem spot_none {w : World} {a : Addr} {v : Value} (h : w.cell? a = some v) : a.spot = none := by
  unfold World.cell? at h
  split at h
  · split at h
    · cases h
    · rename_i hn
      cases hs : a.spot with
      | none => rfl
      | some x => rw [hs] at hn; simp at hn
  · cases h
theorem four {cs : List Value} (h : cs.length = 4) : ∃ a b c d, cs = [a, b, c, d] := by
  match cs, h with
  | [a, b, c, d], _ => exact ⟨a, b, c, d, rfl⟩
section
variable {H : Type} {enc : TypeId × Value → H} {w : World} {base : Nat} {spare : Nat → Bool} {held : Bool}
theorem open_cells1 {c : Value} {m0 : Nat} {y : DataW H × List MemPlace}
    (h : DataW.trod enc Try.prog w base spare held m0 28 [c] = some y) : ∃ so n cp L, c = Value.slice so n cp ∧ L.length = n ∧ At w so L := by
  rcases Go.Deep.open_slice Try.underlying28 h with ⟨e, _⟩ | ⟨a, len, cap, m, n, D, Pl, e, _, hle, hcap, hm, hx, hi⟩
  · simp only [List.cons.injEq, and_true] at e
    exact ⟨_, _, _, [], e, rfl, ⟨by simp, fun i c h => by simp at h⟩⟩
  · simp only [List.cons.injEq, and_true] at e
    subst e
    have hlm : len ≤ m := by rw [hm]; split <;> omega
    have hi : ∀ i, i < m → ∃ cs', w.cells? base (a.add (i * 4)) 4 = some cs' ∧ DataW.trod enc Try.prog w base spare held n 24 cs' = some (D i, Pl i) := fun i h => by
      have := hi i h
      rw [cells24] at this
      exact this
    obtain ⟨xs, hxl, hxs⟩ := choose_list (n := len) (P := fun i (q : CellM) => ∃ g o, (some a : Option Addr) = some ⟨g, o, none⟩ ∧ g < w.heap.size ∧ w.cell? ⟨g, o + i * 4, none⟩ = some (.string q.key) ∧ w.cell? ⟨g, o + i * 4 + 1, none⟩ = some (.int .u64 q.time) ∧ w.cell? ⟨g, o + i * 4 + 2, none⟩ = some (.bool q.del) ∧ w.cell? ⟨g, o + i * 4 + 3, none⟩ = some (.string q.val)) (fun i hil => by
      obtain ⟨cs, hc, ht⟩ := hi i (by omega)
      obtain ⟨_, hcl, hcell⟩ := World.cells?_some hc
      obtain ⟨ys, n', _, hxe, _, hyl, hf⟩ := DataW.trod_struct Try.underlying24 ht
      have hyl : ys.length = 4 := hyl
      obtain ⟨c0, c1, c2, c3, rfl⟩ := four hcl
      have hy : ∀ j, j < 4 → ∃ y, ys[j]? = some y := fun j hj => ⟨ys[j]'(by omega), List.getElem?_eq_getElem (by omega)⟩
      obtain ⟨y0, e0⟩ := hy 0 (by omega)
      obtain ⟨y1, e1⟩ := hy 1 (by omega)
      obtain ⟨y2, e2⟩ := hy 2 (by omega)
      obtain ⟨y3, e3⟩ := hy 3 (by omega)
      have f0 : DataW.trod enc Try.prog w base spare held n' 9 [c0] = some y0 := by simpa [cells9] using (hf 0 _ rfl).trans e0
      have f1 : DataW.trod enc Try.prog w base spare held n' 22 [c1] = some y1 := by simpa [cells22] using (hf 1 _ rfl).trans e1
      have f2 : DataW.trod enc Try.prog w base spare held n' 4 [c2] = some y2 := by simpa [cells4] using (hf 2 _ rfl).trans e2
      have f3 : DataW.trod enc Try.prog w base spare held n' 9 [c3] = some y3 := by simpa [cells9] using (hf 3 _ rfl).trans e3
      obtain ⟨s0, h0, _, w0⟩ := DataW.trod_string Try.underlying9 f0
      obtain ⟨n1, h1, _, w1⟩ := DataW.trod_int Try.underlying22 f1
      obtain ⟨b2, h2, _⟩ := DataW.trod_bool Try.underlying4 f2
      obtain ⟨s3, h3, _, w3⟩ := DataW.trod_string Try.underlying9 f3
      simp at h0 h1 h2 h3
      subst h0 h1 h2 h3
      obtain ⟨k1, rfl, z1⟩ := u64_of w1
      have hsp : a.spot = none := by
        obtain ⟨cs0, hc0, _⟩ := hi 0 (by omega)
        obtain ⟨_, hcl0, hcell0⟩ := World.cells?_some hc0
        have h6 := hcell0 0 (by omega)
        rw [List.getElem?_eq_getElem (by omega)] at h6
        exact spot_none (a := a) h6
      obtain ⟨g, o, sp⟩ := a
      simp only at hsp
      subst hsp
      have hgl : g < w.heap.size := by
        have h7 := hcell 0 (by omega)
        rw [List.getElem?_cons_zero] at h7
        have h8 := World.block_lt_of_cell? w _ h7
        have e8 : (((⟨g, o, none⟩ : Addr).add (i * 4)).add 0).block = g := by rw [Addr.add_mid, Addr.add_mid]
        rw [e8] at h8
        exact h8
      have key : ∀ j, j < 4 → ∀ u, [Value.string s0, .int .u64 (k1 : Nat), .bool b2, .string s3][j]? = some u → w.cell? ⟨g, o + i * 4 + j, none⟩ = some u := fun j hj u hu => by
        have := hcell j hj
        rw [Addr.add_mid, Addr.add_mid] at this
        rw [this]
        exact hu
      exact ⟨⟨s0, k1, b2, s3⟩, g, o, rfl, hgl, key 0 (by omega) _ rfl, key 1 (by omega) _ rfl, key 2 (by omega) _ rfl, key 3 (by omega) _ rfl⟩)
    refine ⟨_, _, _, xs, rfl, hxl, ⟨by rw [hxl]; simp only [maxLen] at hcap ⊢; omega, fun i c hc => ?_⟩⟩
    obtain ⟨hi', rfl⟩ := List.getElem?_eq_some_iff.1 hc
    exact hxs i hi'
theorem openT28 {v : Value} {d : DataW H} {p : List MemPlace} (hv1 : v.cells.toList = [v])
    (h : DataW.Trod enc Try.prog w base spare held 28 v d p) : ∃ so n cp L, v = .slice so n cp ∧ L.length = n ∧ At w so L := by
  obtain ⟨m0, hm0⟩ := h
  rw [hv1] at hm0
  exact open_cells1 hm0
end
theorem walkCellsTime' {w : World} {v0 v1 : Value} (h0 : ∃ so n cp L, v0 = .slice so n cp ∧ L.length = n ∧ At w so L) (h1 : ∃ so n cp L, v1 = .slice so n cp ∧ L.length = n ∧ At w so L) (key : ByteArray) {t below : Int} (ht : (Lit.int .u64 t).wf = true) (hb : (Lit.int .u64 below).wf = true) :
    Calls Try.prog 4 #[v0, v1, .string key, .int .u64 t, .int .u64 below] w fun e w' => e = .returned (.bool true) ∧ RowKit.Below w.heap.size w w' := by
  obtain ⟨so, n, cp, L, rfl, rfl, hL⟩ := h0
  obtain ⟨so1, n1, cp1, L1, rfl, rfl, hL1⟩ := h1
  obtain ⟨t, rfl, -⟩ := u64_of ht
  obtain ⟨b, rfl, -⟩ := u64_of hb
  exact walkCellsTime hL hL1 key t b
end Go.Proofs.Ytnhookblhckmlaa
