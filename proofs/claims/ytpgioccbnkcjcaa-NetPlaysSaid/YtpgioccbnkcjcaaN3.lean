/- Walks: Tick, Draw. -/
import Derived.Test.YtpgioccbnkcjcaaN2
namespace Go.Proofs.Ytpgioccbnkcjcaa
open Go.RowKit Mk

def wrap64M (x : Int) : Int := IntKind.i64.wrap x
/-- The machines behind another one at j. -/
def setM (n : NetM) (j : Nat) (m : Mach) : NetM := ⟨n.ms.set j m, n.l⟩

theorem mcells_set (ms : List Mach) (j : Nat) (h : j < ms.length) (m : Mach) : mcells (ms.set j m) = (((mcells ms).set (3 * j) (.int .i64 m.ticks)).set (3 * j + 1) (.int .u64 m.draws)).set (3 * j + 2) (.bool m.side) := by
  induction ms generalizing j with
  | nil => simp at h
  | cons a ms ih =>
    cases j with
    | zero => simp [mcells]
    | succ j =>
      simp only [mcells, List.set_cons_succ, List.flatMap_cons] at ih ⊢
      rw [ih j (by simpa using h)]
      rw [show 3 * (j + 1) = 3 * j + 1 + 1 + 1 by omega, show 3 * j + 1 + 1 + 1 + 1 = (3 * j + 1) + 1 + 1 + 1 by omega, show 3 * j + 1 + 1 + 1 + 2 = (3 * j + 2) + 1 + 1 + 1 by omega]
      simp

theorem mcells_ticks (ms : List Mach) (j : Nat) (h : j < ms.length) (t : Int) : (mcells ms).set (3 * j) (.int .i64 t) = mcells (ms.set j { ms[j] with ticks := t }) := by
  have g1 := mcells_get ms j h 1 (by omega)
  have g2 := mcells_get ms j h 2 (by omega)
  simp only [List.getElem?_cons_succ, List.getElem?_cons_zero] at g1 g2
  rw [mcells_set _ _ h]
  simp only
  rw [WideElems.set_self _ (3 * j + 1) _ (by rw [List.getElem?_set_ne (by omega)]; exact g1), WideElems.set_self _ (3 * j + 2) _ (by rw [List.getElem?_set_ne (by omega)]; exact g2)]
theorem mcells_draws (ms : List Mach) (j : Nat) (h : j < ms.length) (t : Nat) : (mcells ms).set (3 * j + 1) (.int .u64 t) = mcells (ms.set j { ms[j] with draws := t }) := by
  have g1 := mcells_get ms j h 0 (by omega)
  have g2 := mcells_get ms j h 2 (by omega)
  simp only [List.getElem?_cons_succ, List.getElem?_cons_zero, Nat.add_zero] at g1 g2
  rw [mcells_set _ _ h]
  simp only
  rw [WideElems.set_self _ (3 * j) _ g1, WideElems.set_self _ (3 * j + 2) _ (by rw [List.getElem?_set_ne (by omega)]; exact g2)]
theorem mcells_side (ms : List Mach) (j : Nat) (h : j < ms.length) (t : Bool) : (mcells ms).set (3 * j + 2) (.bool t) = mcells (ms.set j { ms[j] with side := t }) := by
  have g1 := mcells_get ms j h 0 (by omega)
  have g2 := mcells_get ms j h 1 (by omega)
  simp only [List.getElem?_cons_succ, List.getElem?_cons_zero, Nat.add_zero] at g1 g2
  rw [mcells_set _ _ h]
  simp only
  rw [WideElems.set_self _ (3 * j) _ g1, WideElems.set_self _ (3 * j + 1) _ g2]

/-- One cell of a machine is other than it was. -/
theorem NetRep.setM {w w' : World} {b r : Nat} {mb : MB} {L : List (Lnk × Value)} {F : Nat → Prop} {n : NetM} (h : NetRep w b r mb L F n) {j : Nat} {m : Mach} (hm : w'.heap[mb.b]? = some (.cells (mcells (n.ms.set j m) ++ mb.rest).toArray 69))
    (hw : ∀ i : Nat, i ≠ mb.b → w'.heap[i]? = w.heap[i]?) : NetRep w' b r mb L F (setM n j m) where
  net := by rw [hw b h.ne.1, h.net]; simp [Ytpgioccbnkcjcaa.setM]
  mach := hm
  map := h.map.stay (hw r h.ne.2.2.symm)
  rows p hp := (h.rows p hp).stay (fun g hg => hw g (h.row_ne hp hg).2.1)
  gone := h.gone
  apart := h.apart
  few := by simpa [Ytpgioccbnkcjcaa.setM] using h.few
  under := h.under
  fb := h.fb
  fmb := h.fmb
  fr := h.fr
  frow := h.frow

def tickM (n : NetM) (i : Int) : NetM × Int × Int := match may n.ms.length i, n.ms[(i - 1).toNat]? with
  | true, some m => (setM n (i - 1).toNat { m with ticks := wrap64M (m.ticks + 1) }, wrap64M (m.ticks + 1), 0)
  | _, _ => (n, 0, 2)

theorem tickM_out {n : NetM} {i : Int} (h : may n.ms.length i = false) : tickM n i = (n, 0, 2) := by simp [tickM, h]
theorem tickM_in {n : NetM} {j : Nat} (hj : j < n.ms.length) : tickM n ((j : Int) + 1) = (setM n j { n.ms[j] with ticks := wrap64M (n.ms[j].ticks + 1) }, wrap64M (n.ms[j].ticks + 1), 0) := by
  have : may n.ms.length ((j : Int) + 1) = true := by simp [may]; omega
  simp [tickM, this, hj]

theorem tick_any {w : World} {b r : Nat} {mb : MB} {L : List (Lnk × Value)} {F : Nat → Prop} {n : NetM} (h : NetRep w b r mb L F n) (i : Int) (hi : i64 i) :
    Calls Try.prog 14 #[.pointer (some ⟨b, 0, none⟩), .int .i64 i] w fun e w' => e = .returned (.tuple #[.int .i64 (tickM n i).2.1, .int .i64 (tickM n i).2.2]) ∧ NetRep w' b r mb L F (tickM n i).1 ∧ Chg F w w' := by
  have A := Lib.hid (between_any h.net i i hi hi)
  have B := Lib.hid (at_any h.net i hi)
  have H := Lib.hid h
  cases hm : may n.ms.length i
  · rw [tickM_out hm]
    rw [hm] at A
    clear hi h
    go_enter Try.func14, Try.ntmps14
    go_wp2_with fail
    refine A.out.mono ?_
    rintro e w' ⟨rfl, rfl⟩
    clear hm
    go_wp2
    go_ret2
    exact ⟨rfl, H.out, Chg.refl _ _⟩
  · obtain ⟨j, hj, rfl, _, ea⟩ := atv_in (mb := mb) hm
    rw [tickM_in hj]
    rw [hm] at A
    rw [ea] at B
    have c1 := (cell_mach h.mach hj).1
    have f1 : w.frozen? ⟨mb, 3 * j, none⟩ = false := frozen_of h.mach
    obtain ⟨t, HT⟩ : ∃ t, Hid (n.ms[j].ticks = t) := ⟨_, Lib.hid rfl⟩
    rw [HT.out] at c1 ⊢
    obtain ⟨t2, HT2⟩ : ∃ t2, Hid (wrap64M (t + 1) = t2) := ⟨_, Lib.hid rfl⟩
    have HT3 : IntKind.i64.wrap (t + 1) = t2 := HT2.out
    rw [HT2.out]
    clear hi h hm ea
    go_enter Try.func14, Try.ntmps14
    go_wp2_with fail
    refine A.out.mono ?_
    rintro e w' ⟨rfl, rfl⟩
    go_wp2_with fail
    refine B.out.mono ?_
    rintro e w' ⟨rfl, rfl⟩
    go_wp2
    go_ret2
    refine ⟨rfl, H.out.setM ?_ (fun i hi => Below.heap_setCell _ _ _ _ hi), (Chg.refl _ _).setCell (Or.inl H.out.fmb) _⟩
    rw [Mk.heap_setCell_same H.out.mach]
    rw [List.setIfInBounds_toArray, List.set_append_left _ _ (by rw [mcells_len]; omega), mcells_ticks _ _ hj]
end Go.Proofs.Ytpgioccbnkcjcaa
