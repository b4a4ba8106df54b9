/- Walks: no two overlap: what the law keeps. -/
import Derived.Test.YtgmmglmokkcgeaaAi
namespace Go.Proofs.Ytgmmglmokkcgeaa
set_option linter.unusedVariables false
set_option linter.unusedSimpArgs false
open Go.RowKit Mk Go.Sort

def doneV (D : List (OpM × OpL)) : List Value := D.flatMap fun p => (opC p.1 p.2).toList
theorem doneV_len (D : List (OpM × OpL)) : (doneV D).length = D.length * 9 := by
  induction D with
  | nil => rfl
  | cons p D ih =>
    show ((opC p.1 p.2).toList ++ doneV D).length = _
    rw [List.length_append, ih, List.length_cons]
    simp [opC]; omega
theorem doneV_snoc (D : List (OpM × OpL)) (p : OpM × OpL) : doneV (D ++ [p]) = doneV D ++ (opC p.1 p.2).toList := by simp [doneV]
theorem doneV_get {D : List (OpM × OpL)} : ∀ {k : Nat} {p : OpM × OpL}, D[k]? = some p → ∀ {c : Nat} {v : Value}, c < 9 → (opC p.1 p.2)[c]? = some v → (doneV D)[k * 9 + c]? = some v := by
  induction D with
  | nil => intro k p h; simp at h
  | cons q D ih =>
    intro k p h c v hc hv
    show ((opC q.1 q.2).toList ++ doneV D)[k * 9 + c]? = _
    have hl : (opC q.1 q.2).toList.length = 9 := by simp [opC]
    cases k with
    | zero =>
      simp only [List.getElem?_cons_zero, Option.some.injEq] at h
      subst h
      rw [List.getElem?_append_left (by rw [hl]; omega), Nat.zero_mul, Nat.zero_add]
      simpa using hv
    | succ k =>
      rw [List.getElem?_cons_succ] at h
      rw [List.getElem?_append_right (by rw [hl]; omega), hl, show (k + 1) * 9 + c - 9 = k * 9 + c by omega]
      exact ih h hc hv
theorem opC_one (p : OpM × OpL) : ∀ u ∈ (opC p.1 p.2).toList, u.oneCell' = true := by
  intro u hu
  simp [opC] at hu
  rcases hu with rfl | rfl | rfl | rfl | rfl | rfl | rfl | rfl | rfl <;> rfl
theorem info34 : ∃ (i : TypeInfo) (z : Value), Try.prog.info? 34 = some i ∧ i.zero = some z ∧ i.size = 9 ∧ i.bytes = 96 ∧ z.cells.size = 9 := by
  have h : ((Try.prog.info? 34).map fun i => (i.size, i.bytes, i.zero.map (·.cells.size))) = some (9, 96, some 9) := by kernel_rfl
  cases hi : Try.prog.info? 34 with
  | none => rw [hi] at h; cases h
  | some i =>
    rw [hi] at h
    simp only [Option.map_some, Option.some.injEq, Prod.mk.injEq] at h
    obtain ⟨h1, h2, h3⟩ := h
    cases hz : i.zero with
    | none => rw [hz] at h3; cases h3
    | some z =>
      rw [hz] at h3
      simp only [Option.map_some, Option.some.injEq] at h3
      exact ⟨i, z, rfl, hz, h1, h2, h3⟩

/-- What the law keeps: the state n, the commits E that were let in (command, time). -/
structure ApAt (w : World) (L : List (OpM × OpL)) (b j : Nat) (dv av : Value) (n : OM) (E : List ((OpM × OpL) × Nat)) (F : Nat → Prop) (wr : World) : Prop where
  chg : Chg (fun _ => False) w wr
  is : OrIs wr b F n
  fb : ∀ g, F g → w.heap.size ≤ g ∧ g < wr.heap.size
  inv : OInv n
  lim : Lim n (4096 * j)
  mem : ∀ e ∈ E, e.1 ∈ L
  done : sl wr 34 9 dv E.length (doneV (E.map (·.1)))
  at_ : sl wr 30 1 av E.length (timesV (E.map (·.2)))
  dn : ∀ g, dv.ownBlock = some g → w.heap.size ≤ g ∧ ¬ F g
  an : ∀ g, av.ownBlock = some g → w.heap.size ≤ g ∧ ¬ F g
  apart : ApartI n (E.map fun e => (e.1.1.keys, e.2))
  up : (E.map (·.2)).Pairwise (· < ·)
  cnt : E.length ≤ j
section
variable {w wr w1 w2 w3 : World} {L : List (OpM × OpL)} {b j : Nat} {dv av : Value} {n : OM} {E : List ((OpM × OpL) × Nat)} {F : Nat → Prop}
theorem ApAt.same (h : ApAt w L b j dv av n E F wr) (c : Chg (fun _ => False) wr w1) : ApAt w L b j dv av n E F w1 where
  chg := h.chg.trans c
  is := h.is.same c
  fb g f := ⟨(h.fb g f).1, Nat.lt_of_lt_of_le (h.fb g f).2 c.size⟩
  inv := h.inv
  lim := h.lim
  mem := h.mem
  done := h.done.stay fun g e => c.block g (h.done.lt e) (fun f => f)
  at_ := h.at_.stay fun g e => c.block g (h.at_.lt e) (fun f => f)
  dn := h.dn
  an := h.an
  apart := h.apart
  up := h.up
  cnt := h.cnt
theorem ApAt.skip (h : ApAt w L b j dv av n E F wr) : ApAt w L b (j + 1) dv av n E F wr :=
  { h with lim := h.lim.mono (by omega), cnt := Nat.le_succ_of_le h.cnt }
theorem ApAt.apply (h : ApAt w L b j dv av n E F wr) {so : Option Addr} (hL : OpsAt w so L) {p : OpM × OpL} (hp : p ∈ L) (hj : j ≤ 1000) (h9 : p.1.k ≠ 9) :
    Calls Try.prog 10 #[.pointer (some ⟨b, 0, none⟩), .agg (opC p.1 p.2)] wr fun e w' => e = .returned (anV (applyM n p.1).2) ∧ ∃ F', ApAt w L b (j + 1) dv av (applyM n p.1).1 E F' w' := by
  have ho := ((hL.stay h.chg).ops p hp)
  have ho0 := (hL.ops p hp).1
  refine (apply_is h.is (Chg.refl _ _) ho.1 ho.2 (h.lim.mono (by omega)) (fun g o' e f => ?_) h9).mono ?_
  · have hf := h.fb g f
    rcases e with ⟨e1, e2⟩ | ⟨e1, e2⟩
    · obtain ⟨g', o2, e3, h4, -⟩ := ho0.keys.cell 0 (List.length_pos_iff.2 e1)
      rw [e2] at e3
      cases e3
      omega
    · obtain ⟨g', o2, e3, h4, -⟩ := ho0.needs.cell 0 (List.length_pos_iff.2 e1)
      rw [e2] at e3
      cases e3
      omega
  · rintro e w' ⟨rfl, hT⟩
    refine ⟨rfl, _, { chg := h.chg.trans' hT.chg (fun g f => Or.inr (h.fb g f).1), is := hT.is.tight, fb := ?_, inv := h.inv.apply _, lim := (h.lim.apply _).mono (by omega), mem := h.mem, done := ?_, at_ := ?_, dn := ?_, an := ?_, apart := h.apart.keep h9, up := h.up, cnt := Nat.le_succ_of_le h.cnt }⟩
    · rintro g ⟨a | a, e⟩
      · exact ⟨(h.fb g a).1, e⟩
      · exact ⟨Nat.le_trans h.chg.size a, e⟩
    · exact h.done.stay fun g e => hT.chg.block g (h.done.lt e) (h.dn g e).2
    · exact h.at_.stay fun g e => hT.chg.block g (h.at_.lt e) (h.an g e).2
    · intro g e
      refine ⟨(h.dn g e).1, ?_⟩
      rintro ⟨a | a, -⟩
      · exact (h.dn g e).2 a
      · have := h.done.lt e; omega
    · intro g e
      refine ⟨(h.an g e).1, ?_⟩
      rintro ⟨a | a, -⟩
      · exact (h.an g e).2 a
      · have := h.at_.lt e; omega
end
end Go.Proofs.Ytgmmglmokkcgeaa
