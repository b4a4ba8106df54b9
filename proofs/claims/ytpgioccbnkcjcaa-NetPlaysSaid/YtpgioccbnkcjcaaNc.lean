/- An argument that is a slice of steps. -/
import Derived.Test.YtpgioccbnkcjcaaNb
import Derived.Deep.Slices
import Derived.Deep.MidRow
import Derived.ChangeArms
namespace Go.Proofs.Ytpgioccbnkcjcaa
open Go.RowKit Mk

structure StepV where
  d : Int
  a : Int
  b : Int
  n : Int
  s : ByteArray
  so : Option Addr
  sl : Nat
  sc : Nat
def StepV.cells (x : StepV) : List Value := [.int .i64 x.d, .int .i64 x.a, .int .i64 x.b, .int .i64 x.n, .string x.s, .slice x.so x.sl x.sc]
structure StepV.ok (x : StepV) : Prop where
  d : i64 x.d
  a : i64 x.a
  b : i64 x.b
  n : i64 x.n
  s : x.s.size ≤ maxLen

/-- The slice v has these steps in the world w. -/
def stepsAt (w : World) (v : Value) (len : Nat) (f : Nat → StepV) : Prop :=
  (∃ ao cap, v = .slice ao len cap) ∧ len ≤ maxLen ∧ ∀ i, i < len → (f i).ok ∧ ∃ g o cap, v = .slice (some ⟨g, o, none⟩) len cap ∧ g < w.heap.size ∧ w.rangeAt g (o + i * 6) (f i).cells

theorem Try.cells35 : Try.prog.cellsOf 35 = 6 := by kernel_rfl
theorem Try.cells9 : Try.prog.cellsOf 9 = 1 := by kernel_rfl
theorem Try.cells33 : Try.prog.cellsOf 33 = 1 := by kernel_rfl

theorem six {cs : List Value} (h : cs.length = 6) : ∃ a b c d e f, cs = [a, b, c, d, e, f] := by
  match cs, h with
  | [a, b, c, d, e, f], _ => exact ⟨a, b, c, d, e, f, rfl⟩

theorem spot_none {w : World} {a : Addr} {v : Value} (h : w.cell? a = some v) : a.spot = none := by
  unfold World.cell? at h
  split at h
  · split at h
    · cases h
    · rename_i hn
      cases hs : a.spot with
      | none => rfl
      | some x => rw [hs] at hn; simp at hn
  · cases h

theorem open_steps {H : Type} {enc : TypeId × Value → H} {w : World} {base : Nat} {spare : Nat → Bool} {held : Bool} {v : Value} {d : DataW H} {p : List MemPlace} (hv1 : v.cells.toList = [v])
    (h : DataW.Trod enc Try.prog w base spare held 32 v d p) : ∃ len f, stepsAt w v len f := by
  obtain ⟨m0, hm0⟩ := h
  rw [hv1] at hm0
  rcases Go.Deep.open_slice Try.underlying32 hm0 with ⟨e, _⟩ | ⟨a, len, cap, m, n, D, Pl, e, _, hle, hcap, hm, _, hi⟩
  · cases e
    exact ⟨0, fun _ => ⟨0, 0, 0, 0, ⟨#[]⟩, none, 0, 0⟩, ⟨_, _, rfl⟩, Nat.zero_le _, fun i hi => by omega⟩
  · simp only [List.cons.injEq, and_true] at e
    subst e
    have hlm : len ≤ m := by rw [hm]; split <;> omega
    have hi : ∀ i, i < m → ∃ cs', w.cells? base (a.add (i * 6)) 6 = some cs' ∧ DataW.trod enc Try.prog w base spare held n 35 cs' = some (D i, Pl i) := fun i h => by
      have := hi i h
      rw [Try.cells35] at this
      exact this
    have key : ∀ i, i < len → ∃ x : StepV, x.ok ∧ ∃ g o, a = ⟨g, o, none⟩ ∧ g < w.heap.size ∧ w.rangeAt g (o + i * 6) x.cells := by
      intro i hil
      obtain ⟨cs, hc, ht⟩ := hi i (by omega)
      obtain ⟨_, hcl, hcell⟩ := World.cells?_some hc
      obtain ⟨ys, n', _, _, _, hyl, hf⟩ := DataW.trod_struct Try.underlying35 ht
      have hyl : ys.length = 6 := hyl
      obtain ⟨c0, c1, c2, c3, c4, c5, rfl⟩ := six hcl
      have hy : ∀ j, j < 6 → ∃ y, ys[j]? = some y := fun j hj => ⟨ys[j]'(by omega), List.getElem?_eq_getElem (by omega)⟩
      obtain ⟨y0, e0⟩ := hy 0 (by omega)
      obtain ⟨y1, e1⟩ := hy 1 (by omega)
      obtain ⟨y2, e2⟩ := hy 2 (by omega)
      obtain ⟨y3, e3⟩ := hy 3 (by omega)
      obtain ⟨y4, e4⟩ := hy 4 (by omega)
      obtain ⟨y5, e5⟩ := hy 5 (by omega)
      have f0 : DataW.trod enc Try.prog w base spare held n' 3 [c0] = some y0 := by simpa [Try.cells3] using (hf 0 _ rfl).trans e0
      have f1 : DataW.trod enc Try.prog w base spare held n' 3 [c1] = some y1 := by simpa [Try.cells3] using (hf 1 _ rfl).trans e1
      have f2 : DataW.trod enc Try.prog w base spare held n' 3 [c2] = some y2 := by simpa [Try.cells3] using (hf 2 _ rfl).trans e2
      have f3 : DataW.trod enc Try.prog w base spare held n' 3 [c3] = some y3 := by simpa [Try.cells3] using (hf 3 _ rfl).trans e3
      have f4 : DataW.trod enc Try.prog w base spare held n' 9 [c4] = some y4 := by simpa [Try.cells9] using (hf 4 _ rfl).trans e4
      have f5 : DataW.trod enc Try.prog w base spare held n' 33 [c5] = some y5 := by simpa [Try.cells33] using (hf 5 _ rfl).trans e5
      obtain ⟨so, sln, sc, h5⟩ : ∃ so sln sc, c5 = Value.slice so sln sc := by
        rcases Go.Deep.open_slice Try.underlying33 f5 with ⟨e, _⟩ | ⟨a', l', c', _, _, _, _, e, _⟩
        · exact ⟨_, _, _, by simpa using e⟩
        · exact ⟨_, _, _, by simpa using e⟩
      obtain ⟨n0, h0, _, w0⟩ := DataW.trod_int Try.underlying3 f0
      obtain ⟨n1, h1, _, w1⟩ := DataW.trod_int Try.underlying3 f1
      obtain ⟨n2, h2, _, w2⟩ := DataW.trod_int Try.underlying3 f2
      obtain ⟨n3, h3, _, w3⟩ := DataW.trod_int Try.underlying3 f3
      obtain ⟨s4, h4, _, w4⟩ := DataW.trod_string Try.underlying9 f4
      simp at h0 h1 h2 h3 h4
      subst h0 h1 h2 h3 h4 h5
      have hsp : a.spot = none := by
        obtain ⟨cs0, hc0, _⟩ := hi 0 (by omega)
        obtain ⟨_, hcl0, hcell0⟩ := World.cells?_some hc0
        have h6 := hcell0 0 (by omega)
        rw [List.getElem?_eq_getElem (by omega)] at h6
        exact spot_none (a := a) h6
      obtain ⟨g, o, sp⟩ := a
      simp only at hsp
      subst hsp
      have hgl : g < w.heap.size := by
        have h7 := hcell 0 (by omega)
        rw [List.getElem?_cons_zero] at h7
        have h8 := World.block_lt_of_cell? w _ h7
        have e8 : (((⟨g, o, none⟩ : Addr).add (i * 6)).add 0).block = g := by rw [Addr.add_mid, Addr.add_mid]
        rw [e8] at h8
        exact h8
      refine ⟨⟨n0, n1, n2, n3, s4, so, sln, sc⟩, ⟨i64_of w0, i64_of w1, i64_of w2, i64_of w3, w4⟩, g, o, rfl, hgl, fun j v hj => ?_⟩
      have hj6 : j < 6 := by
        have := (List.getElem?_eq_some_iff.1 hj).1
        simpa [StepV.cells] using this
      have := hcell j hj6
      rw [Addr.add_mid, Addr.add_mid] at this
      rw [this]
      exact hj
    refine ⟨len, fun i => if h : i < len then Classical.choose (key i h) else ⟨0, 0, 0, 0, ⟨#[]⟩, none, 0, 0⟩, ⟨_, _, rfl⟩, by omega, fun i hil => ?_⟩
    obtain ⟨hok, g, o, ha, hg, hr⟩ := Classical.choose_spec (key i hil)
    simp only [dif_pos hil]
    exact ⟨hok, g, o, cap, by rw [ha], hg, hr⟩

/-- The cells of a step. -/
theorem stepsAt.load {w v0 : World} {ao : Option Addr} {cap len : Nat} {f : Nat → StepV} (h : stepsAt w (.slice ao len cap) len f) {i : Nat} (hi : i < len) (hs : ∀ g, g < w.heap.size → v0.heap[g]? = w.heap[g]?) :
    ∃ g o, ao = some ⟨g, o, none⟩ ∧ g < w.heap.size ∧ v0.cell? ⟨g, o + i * 6, none⟩ = some (.int .i64 (f i).d) ∧ v0.cell? ⟨g, o + i * 6 + 1, none⟩ = some (.int .i64 (f i).a) ∧ v0.cell? ⟨g, o + i * 6 + 2, none⟩ = some (.int .i64 (f i).b) ∧
      v0.cell? ⟨g, o + i * 6 + 3, none⟩ = some (.int .i64 (f i).n) ∧ v0.cell? ⟨g, o + i * 6 + 4, none⟩ = some (.string (f i).s) ∧ v0.cell? ⟨g, o + i * 6 + 5, none⟩ = some (.slice (f i).so (f i).sl (f i).sc) := by
  obtain ⟨_, hlm, h⟩ := h
  obtain ⟨_, g, o, cap', e, hg, hr⟩ := h i hi
  simp only [Value.slice.injEq] at e
  have key : ∀ j x, (f i).cells[j]? = some x → v0.cell? ⟨g, o + i * 6 + j, none⟩ = some x := fun j x hj => by
    rw [← hr j x hj]
    exact World.cell?_of_block (hs g hg)
  exact ⟨g, o, e.1, hg, key 0 _ rfl, key 1 _ rfl, key 2 _ rfl, key 3 _ rfl, key 4 _ rfl, key 5 _ rfl⟩
end Go.Proofs.Ytpgioccbnkcjcaa
