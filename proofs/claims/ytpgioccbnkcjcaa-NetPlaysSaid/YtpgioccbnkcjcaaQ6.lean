/- The steps that come in, and how long their slices are. -/
import Derived.Test.YtpgioccbnkcjcaaQ5
import Derived.SizedLaws
namespace Go.Proofs.Ytpgioccbnkcjcaa
open Go.RowKit Mk
theorem Try.bytes3 : Try.prog.bytesOf 3 = 8 := by kernel_rfl
theorem weightsAll_mem {H : Type} {P : Program} {e : TypeId} {l : List (DataW H)} {d : DataW H} {u : Nat} (hd : d ∈ l) (hu : u ∈ d.weights P e) : u ∈ DataW.weightsAll P e l := by
  induction l with
  | nil => cases hd
  | cons x l ih =>
    unfold DataW.weightsAll
    rcases List.mem_cons.1 hd with rfl | hd
    · exact List.mem_append_left _ hu
    · exact List.mem_append_right _ (ih hd)
theorem open_ints' {H : Type} {enc : TypeId × Value → H} {w : World} {base : Nat} {spare : Nat → Bool} {held : Bool} {c : Value} {m0 : Nat} {y : DataW H × List MemPlace}
    (h : DataW.trod enc Try.prog w base spare held m0 33 [c] = some y) : ∃ so sln sc, c = Value.slice so sln sc ∧ ∃ xs, xs.length = sln ∧ IntsAt w so xs ∧ (so = none → sc = 0) ∧ ((∀ u ∈ y.1.weights Try.prog 33, u ≤ reachBytes) → sln * 8 ≤ reachBytes) := by
  rcases Go.Deep.open_slice Try.underlying33 h with ⟨e, _⟩ | ⟨a, len, cap, m, n, D, Pl, e, _, hle, hcap, hm, hx, hi⟩
  · refine ⟨_, _, _, by simpa using e, [], rfl, ⟨by simp, by simp, fun i h => by simp at h⟩, fun _ => rfl, fun _ => Nat.zero_le _⟩
  · simp only [List.cons.injEq, and_true] at e
    subst e
    have hlm : len ≤ m := by rw [hm]; split <;> omega
    have hi : ∀ i, i < m → ∃ cs', w.cells? base (a.add (i * 1)) 1 = some cs' ∧ DataW.trod enc Try.prog w base spare held n 3 cs' = some (D i, Pl i) := fun i h => by
      have := hi i h
      rw [Try.cells3] at this
      exact this
    have key : ∀ i, i < len → ∃ x : Int, i64 x ∧ ∃ g o, a = ⟨g, o, none⟩ ∧ g < w.heap.size ∧ w.cell? ⟨g, o + i, none⟩ = some (.int .i64 x) := by
      intro i hil
      obtain ⟨cs, hc, ht⟩ := hi i (by omega)
      obtain ⟨_, hcl, hcell⟩ := World.cells?_some hc
      obtain ⟨c0, rfl⟩ : ∃ c, cs = [c] := by
        match cs, hcl with
        | [c], _ => exact ⟨c, rfl⟩
      obtain ⟨n0, h0, _, w0⟩ := DataW.trod_int Try.underlying3 ht
      simp at h0
      subst h0
      have hsp : a.spot = none := by
        obtain ⟨cs0, hc0, _⟩ := hi 0 (by omega)
        obtain ⟨_, hcl0, hcell0⟩ := World.cells?_some hc0
        have h6 := hcell0 0 (by omega)
        rw [List.getElem?_eq_getElem (by omega)] at h6
        exact spot_none (a := a) h6
      obtain ⟨g, o, sp⟩ := a
      simp only at hsp
      subst hsp
      have h7 := hcell 0 (by omega)
      rw [List.getElem?_cons_zero] at h7
      have h8 := World.block_lt_of_cell? w _ h7
      have e8 : (((⟨g, o, none⟩ : Addr).add (i * 1)).add 0) = ⟨g, o + i, none⟩ := by rw [Addr.add_mid, Addr.add_mid]; simp
      rw [e8] at h7 h8
      exact ⟨n0, i64_of w0, g, o, rfl, h8, h7⟩
    refine ⟨_, _, _, rfl, List.ofFn (fun i : Fin len => Classical.choose (key i i.2)), by simp, ⟨?_, ?_, ?_⟩, (fun h => by cases h), fun hw => ?_⟩
    · intro x hx
      obtain ⟨i, rfl⟩ := (List.mem_ofFn).1 hx
      exact (Classical.choose_spec (key i i.2)).1
    · simp
      have := hle
      have := hcap
      simp only [maxLen] at *
      omega
    · intro i hil
      have hil' : i < len := by simpa using hil
      obtain ⟨_, g, o, ha, hg, hc⟩ := Classical.choose_spec (key i hil')
      refine ⟨g, o, by rw [ha], hg, ?_⟩
      rw [List.getElem_ofFn]
      exact hc
    · subst hx
      have h1 := hw ((((List.range len).map D).length + (((List.range (m - len)).map fun j => D (len + j))).length) * Try.prog.bytesOf 3) (by simp [DataW.weights, Try.underlying33])
      rw [Try.bytes3] at h1
      simp only [List.length_map, List.length_range] at h1
      have : len * 8 ≤ (len + (m - len)) * 8 := Nat.mul_le_mul_right _ (by omega)
      omega

theorem open_sides' {H : Type} {enc : TypeId × Value → H} {w : World} {base : Nat} {spare : Nat → Bool} {held : Bool} {v : Value} {d : DataW H} {p : List MemPlace} (hv1 : v.cells.toList = [v])
    (h : DataW.Trod enc Try.prog w base spare held 32 v d p) (hw : ∀ u ∈ d.weights Try.prog 32, u ≤ reachBytes) : ∃ len f, stepsAt w v len f ∧ ∀ i, i < len → ∃ xs, xs.length = (f i).sl ∧ IntsAt w (f i).so xs ∧ ((f i).so = none → (f i).sc = 0) ∧ (f i).sl * 8 ≤ reachBytes := by
  obtain ⟨m0, hm0⟩ := h
  rw [hv1] at hm0
  rcases Go.Deep.open_slice Try.underlying32 hm0 with ⟨e, _⟩ | ⟨a, len, cap, m, n, D, Pl, e, _, hle, hcap, hm, hx, hi⟩
  · cases e
    exact ⟨0, fun _ => ⟨0, 0, 0, 0, ⟨#[]⟩, none, 0, 0⟩, ⟨⟨_, _, rfl⟩, Nat.zero_le _, fun i hi => by omega⟩, fun i hi => by omega⟩
  · simp only [List.cons.injEq, and_true] at e
    subst e
    have hlm : len ≤ m := by rw [hm]; split <;> omega
    have hi : ∀ i, i < m → ∃ cs', w.cells? base (a.add (i * 6)) 6 = some cs' ∧ DataW.trod enc Try.prog w base spare held n 35 cs' = some (D i, Pl i) := fun i h => by
      have := hi i h
      rw [Try.cells35] at this
      exact this
    have key : ∀ i, i < len → ∃ x : StepV, (x.ok ∧ ∃ xs, xs.length = x.sl ∧ IntsAt w x.so xs ∧ (x.so = none → x.sc = 0) ∧ x.sl * 8 ≤ reachBytes) ∧ ∃ g o, a = ⟨g, o, none⟩ ∧ g < w.heap.size ∧ w.rangeAt g (o + i * 6) x.cells := by
      intro i hil
      obtain ⟨cs, hc, ht⟩ := hi i (by omega)
      obtain ⟨_, hcl, hcell⟩ := World.cells?_some hc
      obtain ⟨ys, n', _, hxe, _, hyl, hf⟩ := DataW.trod_struct Try.underlying35 ht
      have hyl : ys.length = 6 := hyl
      obtain ⟨c0, c1, c2, c3, c4, c5, rfl⟩ := six hcl
      have hy : ∀ j, j < 6 → ∃ y, ys[j]? = some y := fun j hj => ⟨ys[j]'(by omega), List.getElem?_eq_getElem (by omega)⟩
      obtain ⟨y0, e0⟩ := hy 0 (by omega)
      obtain ⟨y1, e1⟩ := hy 1 (by omega)
      obtain ⟨y2, e2⟩ := hy 2 (by omega)
      obtain ⟨y3, e3⟩ := hy 3 (by omega)
      obtain ⟨y4, e4⟩ := hy 4 (by omega)
      obtain ⟨y5, e5⟩ := hy 5 (by omega)
      have f0 : DataW.trod enc Try.prog w base spare held n' 3 [c0] = some y0 := by simpa [Try.cells3] using (hf 0 _ rfl).trans e0
      have f1 : DataW.trod enc Try.prog w base spare held n' 3 [c1] = some y1 := by simpa [Try.cells3] using (hf 1 _ rfl).trans e1
      have f2 : DataW.trod enc Try.prog w base spare held n' 3 [c2] = some y2 := by simpa [Try.cells3] using (hf 2 _ rfl).trans e2
      have f3 : DataW.trod enc Try.prog w base spare held n' 3 [c3] = some y3 := by simpa [Try.cells3] using (hf 3 _ rfl).trans e3
      have f4 : DataW.trod enc Try.prog w base spare held n' 9 [c4] = some y4 := by simpa [Try.cells9] using (hf 4 _ rfl).trans e4
      have f5 : DataW.trod enc Try.prog w base spare held n' 33 [c5] = some y5 := by simpa [Try.cells33] using (hf 5 _ rfl).trans e5
      obtain ⟨so, sln, sc, h5, xs, hxl, hxs, hz5, hb5⟩ := open_ints' f5
      obtain ⟨n0, h0, _, w0⟩ := DataW.trod_int Try.underlying3 f0
      obtain ⟨n1, h1, _, w1⟩ := DataW.trod_int Try.underlying3 f1
      obtain ⟨n2, h2, _, w2⟩ := DataW.trod_int Try.underlying3 f2
      obtain ⟨n3, h3, _, w3⟩ := DataW.trod_int Try.underlying3 f3
      obtain ⟨s4, h4, _, w4⟩ := DataW.trod_string Try.underlying9 f4
      simp at h0 h1 h2 h3 h4
      subst h0 h1 h2 h3 h4 h5
      have hsp : a.spot = none := by
        obtain ⟨cs0, hc0, _⟩ := hi 0 (by omega)
        obtain ⟨_, hcl0, hcell0⟩ := World.cells?_some hc0
        have h6 := hcell0 0 (by omega)
        rw [List.getElem?_eq_getElem (by omega)] at h6
        exact spot_none (a := a) h6
      obtain ⟨g, o, sp⟩ := a
      simp only at hsp
      subst hsp
      have hgl : g < w.heap.size := by
        have h7 := hcell 0 (by omega)
        rw [List.getElem?_cons_zero] at h7
        have h8 := World.block_lt_of_cell? w _ h7
        have e8 : (((⟨g, o, none⟩ : Addr).add (i * 6)).add 0).block = g := by rw [Addr.add_mid, Addr.add_mid]
        rw [e8] at h8
        exact h8
      refine ⟨⟨n0, n1, n2, n3, s4, so, sln, sc⟩, ⟨⟨i64_of w0, i64_of w1, i64_of w2, i64_of w3, w4⟩, xs, hxl, hxs, hz5, hb5 (fun u hu => hw u ?_)⟩, g, o, rfl, hgl, fun j v hj => ?_⟩
      · have hd : d = .slice ((List.range len).map D) ((List.range (m - len)).map fun j => D (len + j)) := congrArg (·.1) hx
        have hDi : D i = .agg (ys.map (·.1)) := congrArg (·.1) hxe
        rw [hd]
        simp only [DataW.weights, Try.underlying32, List.mem_cons, List.mem_append]
        refine Or.inr (Or.inl (weightsAll_mem (d := D i) (List.mem_map.2 ⟨i, by simpa using hil, rfl⟩) ?_))
        rw [hDi]
        simp only [DataW.weights, Try.underlying35]
        exact DataW.weights_mem_each (j := 5) (t := 33) rfl (by rw [List.getElem?_map, e5]; rfl) u hu
      have hj6 : j < 6 := by
        have := (List.getElem?_eq_some_iff.1 hj).1
        simpa [StepV.cells] using this
      have := hcell j hj6
      rw [Addr.add_mid, Addr.add_mid] at this
      rw [this]
      exact hj
    refine ⟨len, fun i => if h : i < len then Classical.choose (key i h) else ⟨0, 0, 0, 0, ⟨#[]⟩, none, 0, 0⟩, ⟨⟨_, _, rfl⟩, by omega, fun i hil => ?_⟩, fun i hil => ?_⟩
    · obtain ⟨hok, g, o, ha, hg, hr⟩ := Classical.choose_spec (key i hil)
      simp only [dif_pos hil]
      exact ⟨hok.1, g, o, cap, by rw [ha], hg, hr⟩
    · have := (Classical.choose_spec (key i hil)).1.2
      simp only [dif_pos hil]
      exact this

end Go.Proofs.Ytpgioccbnkcjcaa
