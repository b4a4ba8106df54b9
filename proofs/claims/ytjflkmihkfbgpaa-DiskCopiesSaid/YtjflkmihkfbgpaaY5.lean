/- Steps as an argument. -/
import Derived.Test.YtjflkmihkfbgpaaW1
import Derived.Deep.Slices
import Derived.Deep.MidRow
import Derived.ChangeArms
namespace Go.Proofs.Ytjflkmihkfbgpaa
open Go.RowKit Mk

structure StepV where
  d : Int
  n : ByteArray
  t : ByteArray
  k : Int
  m : Int
def StepV.cells (x : StepV) : List Value := [.int .i64 x.d, .string x.n, .string x.t, .int .i64 x.k, .int .i64 x.m]
def i64ok (a : Int) : Prop := -9223372036854775808 ≤ a ∧ a ≤ 9223372036854775807
structure StepV.ok (x : StepV) : Prop where
  d : i64ok x.d
  n : x.n.size ≤ maxLen
  t : x.t.size ≤ maxLen
  k : i64ok x.k
  m : i64ok x.m

/-- The slice v has these steps in the world w. -/
def stepsAt (w : World) (v : Value) (len : Nat) (f : Nat → StepV) : Prop :=
  (∃ ao cap, v = .slice ao len cap) ∧ len ≤ maxLen ∧ ∀ i, i < len → (f i).ok ∧ ∃ g o cap, v = .slice (some ⟨g, o, none⟩) len cap ∧ g < w.heap.size ∧ w.rangeAt g (o + i * 5) (f i).cells

theorem Try.cells36 : Try.prog.cellsOf 36 = 5 := by kernel_rfl
theorem Try.cells9 : Try.prog.cellsOf 9 = 1 := by kernel_rfl
theorem Try.cells3 : Try.prog.cellsOf 3 = 1 := by kernel_rfl
theorem five {cs : List Value} (h : cs.length = 5) : ∃ a b c d e, cs = [a, b, c, d, e] := by
  match cs, h with
  | [a, b, c, d, e], _ => exact ⟨a, b, c, d, e, rfl⟩
theorem spot_none {w : World} {a : Addr} {v : Value} (h : w.cell? a = some v) : a.spot = none := by
  unfold World.cell? at h
  split at h
  · split at h
    · cases h
    · rename_i hn
      cases hs : a.spot with
      | none => rfl
      | some x => rw [hs] at hn; simp at hn
  · cases h
theorem i64_of {a : Int} (h : (Lit.int .i64 a).wf = true) : i64ok a := by
  simp [Lit.wf, IntKind.min, IntKind.max, IntKind.bits, IntKind.signed] at h
  unfold i64ok
  omega

theorem open_steps {H : Type} {enc : TypeId × Value → H} {w : World} {base : Nat} {spare : Nat → Bool} {held : Bool} {v : Value} {d : DataW H} {p : List MemPlace} (hv1 : v.cells.toList = [v])
    (h : DataW.Trod enc Try.prog w base spare held 32 v d p) : ∃ len f, stepsAt w v len f := by
  obtain ⟨m0, hm0⟩ := h
  rw [hv1] at hm0
  rcases Go.Deep.open_slice Try.underlying32 hm0 with ⟨e, _⟩ | ⟨a, len, cap, m, n, D, Pl, e, _, hle, hcap, hm, _, hi⟩
  · cases e
    exact ⟨0, fun _ => ⟨0, ⟨#[]⟩, ⟨#[]⟩, 0, 0⟩, ⟨_, _, rfl⟩, Nat.zero_le _, fun i hi => by omega⟩
  · simp only [List.cons.injEq, and_true] at e
    subst e
    have hlm : len ≤ m := by rw [hm]; split <;> omega
    have hi : ∀ i, i < m → ∃ cs', w.cells? base (a.add (i * 5)) 5 = some cs' ∧ DataW.trod enc Try.prog w base spare held n 36 cs' = some (D i, Pl i) := fun i h => by
      have := hi i h
      rw [Try.cells36] at this
      exact this
    have key : ∀ i, i < len → ∃ x : StepV, x.ok ∧ ∃ g o, a = ⟨g, o, none⟩ ∧ g < w.heap.size ∧ w.rangeAt g (o + i * 5) x.cells := by
      intro i hil
      obtain ⟨cs, hc, ht⟩ := hi i (by omega)
      obtain ⟨_, hcl, hcell⟩ := World.cells?_some hc
      obtain ⟨ys, n', _, _, _, hyl, hf⟩ := DataW.trod_struct Try.underlying36 ht
      have hyl : ys.length = 5 := hyl
      obtain ⟨c0, c1, c2, c3, c4, rfl⟩ := five hcl
      have hy : ∀ j, j < 5 → ∃ y, ys[j]? = some y := fun j hj => ⟨ys[j]'(by omega), List.getElem?_eq_getElem (by omega)⟩
      obtain ⟨y0, e0⟩ := hy 0 (by omega)
      obtain ⟨y1, e1⟩ := hy 1 (by omega)
      obtain ⟨y2, e2⟩ := hy 2 (by omega)
      obtain ⟨y3, e3⟩ := hy 3 (by omega)
      obtain ⟨y4, e4⟩ := hy 4 (by omega)
      have f0 : DataW.trod enc Try.prog w base spare held n' 3 [c0] = some y0 := by simpa [Try.cells3] using (hf 0 _ rfl).trans e0
      have f1 : DataW.trod enc Try.prog w base spare held n' 9 [c1] = some y1 := by simpa [Try.cells9] using (hf 1 _ rfl).trans e1
      have f2 : DataW.trod enc Try.prog w base spare held n' 9 [c2] = some y2 := by simpa [Try.cells9] using (hf 2 _ rfl).trans e2
      have f3 : DataW.trod enc Try.prog w base spare held n' 3 [c3] = some y3 := by simpa [Try.cells3] using (hf 3 _ rfl).trans e3
      have f4 : DataW.trod enc Try.prog w base spare held n' 3 [c4] = some y4 := by simpa [Try.cells3] using (hf 4 _ rfl).trans e4
      obtain ⟨n0, h0, _, w0⟩ := DataW.trod_int Try.underlying3 f0
      obtain ⟨s1, h1, _, w1⟩ := DataW.trod_string Try.underlying9 f1
      obtain ⟨s2, h2, _, w2⟩ := DataW.trod_string Try.underlying9 f2
      obtain ⟨n3, h3, _, w3⟩ := DataW.trod_int Try.underlying3 f3
      obtain ⟨n4, h4, _, w4⟩ := DataW.trod_int Try.underlying3 f4
      simp at h0 h1 h2 h3 h4
      subst h0 h1 h2 h3 h4
      have hsp : a.spot = none := by
        obtain ⟨cs0, hc0, _⟩ := hi 0 (by omega)
        obtain ⟨_, hcl0, hcell0⟩ := World.cells?_some hc0
        have h6 := hcell0 0 (by omega)
        rw [List.getElem?_eq_getElem (by omega)] at h6
        exact spot_none (a := a) h6
      obtain ⟨g, o, sp⟩ := a
      simp only at hsp
      subst hsp
      have hgl : g < w.heap.size := by
        have h7 := hcell 0 (by omega)
        rw [List.getElem?_cons_zero] at h7
        have h8 := World.block_lt_of_cell? w _ h7
        have e8 : (((⟨g, o, none⟩ : Addr).add (i * 5)).add 0).block = g := by rw [Addr.add_mid, Addr.add_mid]
        rw [e8] at h8
        exact h8
      refine ⟨⟨n0, s1, s2, n3, n4⟩, ⟨i64_of w0, w1, w2, i64_of w3, i64_of w4⟩, g, o, rfl, hgl, fun j v hj => ?_⟩
      have hj6 : j < 5 := by
        have := (List.getElem?_eq_some_iff.1 hj).1
        simpa [StepV.cells] using this
      have := hcell j hj6
      rw [Addr.add_mid, Addr.add_mid] at this
      rw [this]
      exact hj
    refine ⟨len, fun i => if h : i < len then Classical.choose (key i h) else ⟨0, ⟨#[]⟩, ⟨#[]⟩, 0, 0⟩, ⟨_, _, rfl⟩, by omega, fun i hil => ?_⟩
    obtain ⟨hok, g, o, ha, hg, hr⟩ := Classical.choose_spec (key i hil)
    simp only [dif_pos hil]
    exact ⟨hok, g, o, cap, by rw [ha], hg, hr⟩

/-- The cells of a step. -/
theorem stepsAt.load {w v0 : World} {ao : Option Addr} {cap len : Nat} {f : Nat → StepV} (h : stepsAt w (.slice ao len cap) len f) {i : Nat} (hi : i < len) (hs : ∀ g, g < w.heap.size → v0.heap[g]? = w.heap[g]?) :
    ∃ g o, ao = some ⟨g, o, none⟩ ∧ g < w.heap.size ∧ v0.cell? ⟨g, o + i * 5, none⟩ = some (.int .i64 (f i).d) ∧ v0.cell? ⟨g, o + i * 5 + 1, none⟩ = some (.string (f i).n) ∧ v0.cell? ⟨g, o + i * 5 + 2, none⟩ = some (.string (f i).t) ∧
      v0.cell? ⟨g, o + i * 5 + 3, none⟩ = some (.int .i64 (f i).k) ∧ v0.cell? ⟨g, o + i * 5 + 4, none⟩ = some (.int .i64 (f i).m) := by
  obtain ⟨_, hlm, h⟩ := h
  obtain ⟨_, g, o, cap', e, hg, hr⟩ := h i hi
  simp only [Value.slice.injEq] at e
  have key : ∀ j x, (f i).cells[j]? = some x → v0.cell? ⟨g, o + i * 5 + j, none⟩ = some x := fun j x hj => by
    rw [← hr j x hj]
    exact World.cell?_of_block (hs g hg)
  exact ⟨g, o, e.1, hg, key 0 _ rfl, key 1 _ rfl, key 2 _ rfl, key 3 _ rfl, key 4 _ rfl⟩
end Go.Proofs.Ytjflkmihkfbgpaa
