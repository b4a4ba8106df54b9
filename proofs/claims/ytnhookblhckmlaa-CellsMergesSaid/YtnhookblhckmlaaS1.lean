/- The steps that come in; what tells the cells. -/
import Derived.Test.YtnhookblhckmlaaKp
import Derived.Test.YtnhookblhckmlaaR5
namespace Go.Proofs.Ytnhookblhckmlaa
set_option linter.unusedVariables false
set_option linter.unusedSimpArgs false
open Go.RowKit Mk Go.Sort

/-- A step, and where its cells lie. -/
structure StepM where
  d : Int
  so : Option Addr
  cap : Nat
  P : List CellM
  fr : ByteArray
  ti : ByteArray
  t : Nat
def stepL (s : StepM) : List Value := [.int .i64 s.d, .slice s.so s.P.length s.cap, .string s.fr, .string s.ti, .int .u64 s.t]
def StepsAt (w : World) (so : Option Addr) (S : List StepM) : Prop :=
  S.length ≤ maxLen ∧ ∀ i s, S[i]? = some s → At w s.so s.P ∧ ∃ g o, so = some ⟨g, o, none⟩ ∧ g < w.heap.size ∧ ∀ j u, (stepL s)[j]? = some u → w.cell? ⟨g, o + i * 5 + j, none⟩ = some u
theorem StepsAt.below {w w' : World} {so : Option Addr} {S : List StepM} (h : StepsAt w so S) (k : RowKit.Below w.heap.size w w') : StepsAt w' so S := by
  refine ⟨h.1, fun i s hs => ?_⟩
  obtain ⟨h1, g, o, e, h2, h3⟩ := h.2 i s hs
  exact ⟨h1.below k, g, o, e, Nat.lt_of_lt_of_le h2 k.size, fun j u hu => by rw [cell_block (k.block _ h2)]; exact h3 j u hu⟩
theorem cells40 : Try.prog.cellsOf 40 = 5 := by kernel_rfl
theorem cells28 : Try.prog.cellsOf 28 = 1 := by kernel_rfl
theorem cells3 : Try.prog.cellsOf 3 = 1 := by kernel_rfl
theorem five {cs : List Value} (h : cs.length = 5) : ∃ a b c d e, cs = [a, b, c, d, e] := by
  match cs, h with
  | [a, b, c, d, e], _ => exact ⟨a, b, c, d, e, rfl⟩
section
variable {H : Type} {enc : TypeId × Value → H} {w : World} {base : Nat} {spare : Nat → Bool} {held : Bool}
theorem open_steps1 {c : Value} {m0 : Nat} {y : DataW H × List MemPlace}
    (h : DataW.trod enc Try.prog w base spare held m0 38 [c] = some y) : ∃ so n cp S, c = Value.slice so n cp ∧ S.length = n ∧ StepsAt w so S := by
  rcases Go.Deep.open_slice Try.underlying38 h with ⟨e, _⟩ | ⟨a, len, cap, m, n, D, Pl, e, _, hle, hcap, hm, hx, hi⟩
  · simp only [List.cons.injEq, and_true] at e
    exact ⟨_, _, _, [], e, rfl, ⟨by simp, fun i c h => by simp at h⟩⟩
  · simp only [List.cons.injEq, and_true] at e
    subst e
    have hlm : len ≤ m := by rw [hm]; split <;> omega
    have hi : ∀ i, i < m → ∃ cs', w.cells? base (a.add (i * 5)) 5 = some cs' ∧ DataW.trod enc Try.prog w base spare held n 40 cs' = some (D i, Pl i) := fun i h => by
      have := hi i h
      rw [cells40] at this
      exact this
    obtain ⟨xs, hxl, hxs⟩ := choose_list (n := len) (P := fun i (q : StepM) => At w q.so q.P ∧ ∃ g o, (some a : Option Addr) = some ⟨g, o, none⟩ ∧ g < w.heap.size ∧ ∀ j u, (stepL q)[j]? = some u → w.cell? ⟨g, o + i * 5 + j, none⟩ = some u) (fun i hil => by
      obtain ⟨cs, hc, ht⟩ := hi i (by omega)
      obtain ⟨_, hcl, hcell⟩ := World.cells?_some hc
      obtain ⟨ys, n', _, hxe, _, hyl, hf⟩ := DataW.trod_struct Try.underlying40 ht
      have hyl : ys.length = 5 := hyl
      obtain ⟨c0, c1, c2, c3, c4, rfl⟩ := five hcl
      have hy : ∀ j, j < 5 → ∃ y, ys[j]? = some y := fun j hj => ⟨ys[j]'(by omega), List.getElem?_eq_getElem (by omega)⟩
      obtain ⟨y0, e0⟩ := hy 0 (by omega)
      obtain ⟨y1, e1⟩ := hy 1 (by omega)
      obtain ⟨y2, e2⟩ := hy 2 (by omega)
      obtain ⟨y3, e3⟩ := hy 3 (by omega)
      obtain ⟨y4, e4⟩ := hy 4 (by omega)
      have f0 : DataW.trod enc Try.prog w base spare held n' 3 [c0] = some y0 := by simpa [cells3] using (hf 0 _ rfl).trans e0
      have f1 : DataW.trod enc Try.prog w base spare held n' 28 [c1] = some y1 := by simpa [cells28] using (hf 1 _ rfl).trans e1
      have f2 : DataW.trod enc Try.prog w base spare held n' 9 [c2] = some y2 := by simpa [cells9] using (hf 2 _ rfl).trans e2
      have f3 : DataW.trod enc Try.prog w base spare held n' 9 [c3] = some y3 := by simpa [cells9] using (hf 3 _ rfl).trans e3
      have f4 : DataW.trod enc Try.prog w base spare held n' 22 [c4] = some y4 := by simpa [cells22] using (hf 4 _ rfl).trans e4
      obtain ⟨n0, h0, _, w0⟩ := DataW.trod_int Try.underlying3 f0
      obtain ⟨so1, n1, cp1, L1, rfl, rfl, hat⟩ := open_cells1 f1
      obtain ⟨s2, h2, _, w2⟩ := DataW.trod_string Try.underlying9 f2
      obtain ⟨s3, h3, _, w3⟩ := DataW.trod_string Try.underlying9 f3
      obtain ⟨n4, h4, _, w4⟩ := DataW.trod_int Try.underlying22 f4
      simp at h0 h2 h3 h4
      subst h0 h2 h3 h4
      obtain ⟨k4, rfl, z4⟩ := u64_of w4
      have hsp : a.spot = none := by
        obtain ⟨cs0, hc0, _⟩ := hi 0 (by omega)
        obtain ⟨_, hcl0, hcell0⟩ := World.cells?_some hc0
        have h6 := hcell0 0 (by omega)
        rw [List.getElem?_eq_getElem (by omega)] at h6
        exact spot_none (a := a) h6
      obtain ⟨g, o, sp⟩ := a
      simp only at hsp
      subst hsp
      have hgl : g < w.heap.size := by
        have h7 := hcell 0 (by omega)
        rw [List.getElem?_cons_zero] at h7
        have h8 := World.block_lt_of_cell? w _ h7
        have e8 : (((⟨g, o, none⟩ : Addr).add (i * 5)).add 0).block = g := by rw [Addr.add_mid, Addr.add_mid]
        rw [e8] at h8
        exact h8
      refine ⟨⟨n0, so1, cp1, L1, s2, s3, k4⟩, hat, g, o, rfl, hgl, fun j u hu => ?_⟩
      have hj : j < 5 := (List.getElem?_eq_some_iff.1 hu).1
      have := hcell j hj
      rw [Addr.add_mid, Addr.add_mid] at this
      rw [this]
      exact hu)
    refine ⟨_, _, _, xs, rfl, hxl, ⟨by rw [hxl]; simp only [maxLen] at hcap ⊢; omega, fun i c hc => ?_⟩⟩
    obtain ⟨hi', rfl⟩ := List.getElem?_eq_some_iff.1 hc
    exact hxs i hi'
theorem openT38 {v : Value} {d : DataW H} {p : List MemPlace} (hv1 : v.cells.toList = [v])
    (h : DataW.Trod enc Try.prog w base spare held 38 v d p) : ∃ so n cp S, v = .slice so n cp ∧ S.length = n ∧ StepsAt w so S := by
  obtain ⟨m0, hm0⟩ := h
  rw [hv1] at hm0
  exact open_steps1 hm0
end

/-- A function value that tells these cells. -/
def Tells (w : World) (g : Nat) (lb : Array Value) (L : List CellM) : Prop :=
  L.length ≤ 1099511627776 ∧ ∃ R, SeqF Try.prog g lb (fun x : CellM => #[cellV x]) (fun pre => pre <+: L) (fun xs => xs = L) R w ∧ ∀ g, R g → g < w.heap.size
theorem Tells.below {w w' : World} {g : Nat} {lb : Array Value} {L : List CellM} (h : Tells w g lb L) (k : RowKit.Below w.heap.size w w') : Tells w' g lb L := by
  obtain ⟨h0, R, h1, h2⟩ := h
  refine ⟨h0, R, fun l J Jx W F0 hs hR hF hJ hJx hY hj => h1 l J Jx W F0 (Nat.le_trans k.size hs) (fun g hg => (hR g hg).trans (k.block _ (h2 g hg))) hF hJ hJx hY hj, fun g hg => Nat.lt_of_lt_of_le (h2 g hg) k.size⟩
theorem CS.tells {B : Nat} {K : Nat → Prop} {b : Nat} {M : List CellM} {W : World} (h : CS B K b M W) (hL : M.length ≤ 1099511627776) :
    Calls Try.prog 23 #[.pointer (some ⟨b, 0, none⟩)] W fun e w' => ∃ lb, e = .returned (.func (.func 41) #[] lb) ∧ Tells w' 41 lb M ∧ RowKit.Below W.heap.size W w' := by
  obtain ⟨⟨lv, h1, h2⟩, h3, h4⟩ := h
  refine (all_makes (some ⟨b, 0, none⟩) W).mono ?_
  rintro e w' ⟨rfl, rfl⟩
  have hb : RowKit.Below W.heap.size W (W.alloc (.cells #[.pointer (some ⟨b, 0, none⟩)] 29)) := (Below.refl _ W).alloc (Nat.le_refl _) _
  refine ⟨_, rfl, ⟨hL, _, all_seq (h1.stay hb) hL (Go.heap_alloc_new _ _), fun g hg => ?_⟩, hb⟩
  have := h1.lt
  simp only [World.size_alloc]
  rcases hg with rfl | rfl | hg
  · omega
  · omega
  · have := sl.lt h1.has hg; omega
theorem CS.scans {B : Nat} {K : Nat → Prop} {b : Nat} {M : List CellM} {W : World} (h : CS B K b M W) (hL : M.length ≤ 1099511627776) (lo hi : ByteArray) (t : Nat) :
    Calls Try.prog 19 #[.pointer (some ⟨b, 0, none⟩), .string lo, .string hi, .int .u64 t] W fun e w' => ∃ lb, e = .returned (.func (.func 40) #[] lb) ∧ Tells w' 40 lb (refGo lo hi t none M) ∧ RowKit.Below W.heap.size W w' := by
  obtain ⟨⟨lv, h1, h2⟩, h3, h4⟩ := h
  rw [← scanM_ref h3]
  refine (scan_makes (some ⟨b, 0, none⟩) lo hi t W).mono ?_
  rintro e w' ⟨rfl, rfl⟩
  have hb : RowKit.Below W.heap.size W ((((W.alloc (.cells #[.pointer (some ⟨b, 0, none⟩)] 29)).alloc (.cells #[.string lo] 9)).alloc (.cells #[.string hi] 9)).alloc (.cells #[.int .u64 t] 22)) :=
    ((((Below.refl _ W).alloc (Nat.le_refl _) _).alloc (by simp) _).alloc (by simp <;> omega) _).alloc (by simp <;> omega) _
  have hlen := scanM_len lo hi t M
  have n1 := Go.heap_alloc_new W (.cells #[.pointer (some ⟨b, 0, none⟩)] 29)
  have n2 := Go.heap_alloc_new (W.alloc (.cells #[.pointer (some ⟨b, 0, none⟩)] 29)) (.cells #[.string lo] 9)
  have n3 := Go.heap_alloc_new ((W.alloc (.cells #[.pointer (some ⟨b, 0, none⟩)] 29)).alloc (.cells #[.string lo] 9)) (.cells #[.string hi] 9)
  have n4 := Go.heap_alloc_new (((W.alloc (.cells #[.pointer (some ⟨b, 0, none⟩)] 29)).alloc (.cells #[.string lo] 9)).alloc (.cells #[.string hi] 9)) (.cells #[.int .u64 t] 22)
  simp only [World.size_alloc] at n2 n3 n4
  refine ⟨_, rfl, ⟨by omega, _, scan_seq (h1.stay hb) hL lo hi t ?_ n4 ?_ ?_, fun g hg => ?_⟩, hb⟩
  · rw [RowKit.Below.heap_alloc _ _ _ (by simp <;> omega), RowKit.Below.heap_alloc _ _ _ (by simp <;> omega), RowKit.Below.heap_alloc _ _ _ (by simp)]; exact n1
  · rw [RowKit.Below.heap_alloc _ _ _ (by simp <;> omega), RowKit.Below.heap_alloc _ _ _ (by simp)]; exact n2
  · rw [RowKit.Below.heap_alloc _ _ _ (by simp)]; exact n3
  · have := h1.lt
    simp only [World.size_alloc]
    rcases hg with (rfl | rfl | rfl | rfl) | rfl | hg
    · omega
    · omega
    · omega
    · omega
    · omega
    · have := sl.lt h1.has hg; omega
theorem Tells.took {w : World} {g : Nat} (hg : g = 40 ∨ g = 41) {lb : Array Value} {L : List CellM} (h : Tells w g lb L) :
    Calls Try.prog 21 #[.func (.func g) #[] lb, .int .i64 (-1)] w fun e w' => ∃ v, e = .returned v ∧ Has w' v L ∧ RowKit.Below w.heap.size w w' := by
  obtain ⟨h0, R, h1, h2⟩ := h
  rcases hg with rfl | rfl
  · refine (took_any (enters_of Try.func40 (by kernel_rfl) rfl) h0 h1 h2 (-1)).mono ?_
    rintro e w' ⟨v, rfl, h3, h4, h5⟩
    exact ⟨v, rfl, by unfold tookM at h3; simpa using h3, h4⟩
  · refine (took_any (enters_of Try.func41 (by kernel_rfl) rfl) h0 h1 h2 (-1)).mono ?_
    rintro e w' ⟨v, rfl, h3, h4, h5⟩
    exact ⟨v, rfl, by unfold tookM at h3; simpa using h3, h4⟩
end Go.Proofs.Ytnhookblhckmlaa
