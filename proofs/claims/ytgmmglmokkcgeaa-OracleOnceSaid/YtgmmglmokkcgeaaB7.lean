/- A transaction is decided once: what a command leaves; the law's two loops over its maps. -/
import Derived.Test.YtgmmglmokkcgeaaB4
import Derived.Test.YtgmmglmokkcgeaaB6
namespace Go.Proofs.Ytgmmglmokkcgeaa
set_option linter.unusedVariables false
set_option linter.unusedSimpArgs false
open Go.RowKit Mk Go.Sort
section
variable {w wr : World} {x : ByteArray} {b j r1 r2 : Nat} {n : OM} {D S : List (Nat × Nat)} {F : Nat → Prop} {L : List (OpM × OpL)}
theorem OnAt.apply (h : OnAt w x b j r1 r2 n D S F wr) {so : Option Addr} (hL : OpsAt w so L) {p : OpM × OpL} (hp : p ∈ L) (hj : j ≤ 1000) :
    Calls Try.prog 10 #[.pointer (some ⟨b, 0, none⟩), .agg (opC p.1 p.2)] wr fun e w' => e = .returned (anV (applyM n p.1).2) ∧ ∃ F', OnAt w x b (j + 1) r1 r2 (applyM n p.1).1 D S F' w' := by
  have ho := ((hL.stay h.chg).ops p hp)
  have ho0 := (hL.ops p hp).1
  refine (apply_is_all h.is (Chg.refl _ _) ho.1 ho.2 (h.lim.mono (by omega)) (fun g o' e f => ?_)).mono ?_
  · have hf := h.fb g f
    rcases e with ⟨e1, e2⟩ | ⟨e1, e2⟩
    · obtain ⟨g', o2, e3, h4, -⟩ := ho0.keys.cell 0 (List.length_pos_iff.2 e1)
      rw [e2] at e3
      cases e3
      omega
    · obtain ⟨g', o2, e3, h4, -⟩ := ho0.needs.cell 0 (List.length_pos_iff.2 e1)
      rw [e2] at e3
      cases e3
      omega
  · rintro e w' ⟨rfl, hT⟩
    have l1 := h.decm.lt
    have l2 := h.seem.lt
    refine ⟨rfl, _, { chg := h.chg.trans' hT.chg (fun g f => Or.inr (h.fb g f).1), is := hT.is.tight, fb := ?_, inv := h.inv.apply _, lim := (h.lim.apply _).mono (by omega), decm := h.decm.stay (hT.chg.block _ h.decm.lt h.f1.1), seem := h.seem.stay (hT.chg.block _ h.seem.lt h.f2.1), f1 := ⟨?_, h.f1.2⟩, f2 := ⟨?_, h.f2.2⟩, ne := h.ne, once := h.once.keep h.inv _, seen := ?_ }⟩
    · rintro g ⟨a | a, e⟩
      · exact ⟨(h.fb g a).1, e⟩
      · exact ⟨Nat.le_trans h.chg.size a, e⟩
    · rintro ⟨a | a, -⟩
      · exact h.f1.1 a
      · omega
    · rintro ⟨a | a, -⟩
      · exact h.f2.1 a
      · omega
    · intro q hq
      obtain ⟨s1, s2⟩ := h.seen q hq
      exact ⟨Nat.le_trans s1 (time_le n p.1), by rw [s2, seen_keep x n p.1 q.1 s1]⟩
theorem iv_cut {left : List (Nat × Nat)} {a b : List (Nat × Value)} {p : Nat × Value} (h : iv left = a ++ p :: b) : ∃ a0 p0 b0, left = a0 ++ p0 :: b0 ∧ a = iv a0 ∧ p = (p0.1, iV p0.2) ∧ b = iv b0 := by
  unfold iv at h
  obtain ⟨a0, c, rfl, h1, h2⟩ := List.map_eq_append_iff.1 h
  obtain ⟨p0, b0, rfl, h3, h4⟩ := List.map_eq_cons_iff.1 h2
  exact ⟨a0, p0, b0, rfl, h1.symm, h3.symm, h4.symm⟩
/-- The loop over decided. -/
structure DAt (w : World) (x : ByteArray) (b j r1 r2 : Nat) (n : OM) (D S : List (Nat × Nat)) (F : Nat → Prop) (r : Nat) (left : List (Nat × Nat)) (wr : World) : Prop where
  at_ : OnAt w x b j r1 r2 n D S F wr
  over : rangeAt okU kvU wr r r1 (nv D) (nv left)
  hr : ¬ F r ∧ w.heap.size ≤ r ∧ r ≠ r2
theorem OnAt.rangeDAt (h : OnAt w x b j r1 r2 n D S F wr) : ∃ it, (Instr.range 45 (.map (some r1))).run Try.prog wr = .ok (.pointer (some ⟨wr.heap.size, 0, none⟩)) (wr.alloc it) ∧ DAt w x b j r1 r2 n D S F wr.heap.size D (wr.alloc it) := by
  obtain ⟨it, h1, h2⟩ := h.decm.range (P := Try.prog) Try.underlying45
  refine ⟨it, h1, h.same ((Chg.refl _ _).alloc _), h2, fun f => ?_, h.chg.size, fun e => ?_⟩
  · have := (h.fb _ f).2; omega
  · have := h.seem.lt; omega
theorem DAt.same {w1 : World} {r : Nat} {left : List (Nat × Nat)} (h : DAt w x b j r1 r2 n D S F r left wr) (c : Chg (fun _ => False) wr w1) : DAt w x b j r1 r2 n D S F r left w1 :=
  ⟨h.at_.same c, h.over.stay (c.block _ h.over.lt.1 (fun f => f)) (c.block _ h.over.lt.2.1 (fun f => f)), h.hr⟩
theorem DAt.next {r : Nat} {left : List (Nat × Nat)} (h : DAt w x b j r1 r2 n D S F r left wr) :
    (∀ ty, (Instr.next (.pointer (some ⟨r, 0, none⟩)) false ty).run Try.prog wr = .ok (.tuple #[.bool false]) wr) ∨
    ∃ a0 b0 y c w', left = a0 ++ (y, c) :: b0 ∧ y < 18446744073709551616 ∧ (y, c) ∈ D ∧ (∀ ty, (Instr.next (.pointer (some ⟨r, 0, none⟩)) false ty).run Try.prog wr = .ok (.tuple #[.bool true, .int .u64 (y : Nat), .int .u64 (c : Nat)]) w') ∧
      ((Instr.entry (.pointer (some ⟨r, 0, none⟩))).run Try.prog w' = .ok (.tuple #[.int .u64 (y : Nat), .int .u64 (c : Nat)]) w') ∧ DAt w x b j r1 r2 n D S F r (a0 ++ b0) w' := by
  rcases h.over.next (P := Try.prog) with ⟨_, hn⟩ | ⟨a, p, bb, w', h0, hn, hc, hs, ho, he⟩
  · exact Or.inl hn
  · obtain ⟨a0, ⟨y, c⟩, b0, rfl, rfl, rfl, rfl⟩ := nv_cut h0
    obtain ⟨es0, ck0, hb0, E0⟩ := h.over.map
    have hm := h.over.sub.subset (show (y, nV c) ∈ nv (a0 ++ (y, c) :: b0) by rw [h0]; simp)
    have hy : y < 18446744073709551616 := E0.ok (y, nV c) hm
    obtain ⟨y', c', e, hm'⟩ := mem_nv hm
    obtain ⟨rfl, rfl⟩ : y = y' ∧ c = c' := by
      simp only [Prod.mk.injEq, nV, Value.int.injEq, true_and] at e
      exact ⟨e.1, by omega⟩
    have hcat : nv a0 ++ nv b0 = nv (a0 ++ b0) := by unfold nv; rw [List.map_append]
    rw [hcat] at ho
    refine Or.inr ⟨a0, b0, y, c, w', rfl, hy, hm', hn, he w' rfl rfl, ⟨h.at_.stay hc (fun e => h.over.lt.2.2 e) (fun e => h.hr.2.2 e.symm) (fun i hi e => h.hr.1 (by rw [← e]; exact hi)) (fun i e => by rw [e]; exact h.hr.2.1), ho, h.hr⟩⟩
/-- The loop over seen. -/
structure SAt (w : World) (x : ByteArray) (b j r1 r2 : Nat) (n : OM) (D S : List (Nat × Nat)) (F : Nat → Prop) (r : Nat) (left : List (Nat × Nat)) (wr : World) : Prop where
  at_ : OnAt w x b j r1 r2 n D S F wr
  over : rangeAt okU kvU wr r r2 (iv S) (iv left)
  hr : ¬ F r ∧ w.heap.size ≤ r ∧ r ≠ r1
theorem OnAt.rangeSAt (h : OnAt w x b j r1 r2 n D S F wr) : ∃ it, (Instr.range 46 (.map (some r2))).run Try.prog wr = .ok (.pointer (some ⟨wr.heap.size, 0, none⟩)) (wr.alloc it) ∧ SAt w x b j r1 r2 n D S F wr.heap.size S (wr.alloc it) := by
  obtain ⟨it, h1, h2⟩ := h.seem.range (P := Try.prog) Try.underlying46
  refine ⟨it, h1, h.same ((Chg.refl _ _).alloc _), h2, fun f => ?_, h.chg.size, fun e => ?_⟩
  · have := (h.fb _ f).2; omega
  · have := h.decm.lt; omega
theorem SAt.same {w1 : World} {r : Nat} {left : List (Nat × Nat)} (h : SAt w x b j r1 r2 n D S F r left wr) (c : Chg (fun _ => False) wr w1) : SAt w x b j r1 r2 n D S F r left w1 :=
  ⟨h.at_.same c, h.over.stay (c.block _ h.over.lt.1 (fun f => f)) (c.block _ h.over.lt.2.1 (fun f => f)), h.hr⟩
theorem SAt.next {r : Nat} {left : List (Nat × Nat)} (h : SAt w x b j r1 r2 n D S F r left wr) :
    (∀ ty, (Instr.next (.pointer (some ⟨r, 0, none⟩)) false ty).run Try.prog wr = .ok (.tuple #[.bool false]) wr) ∨
    ∃ a0 b0 y c w', left = a0 ++ (y, c) :: b0 ∧ y < 18446744073709551616 ∧ (y, c) ∈ S ∧ (∀ ty, (Instr.next (.pointer (some ⟨r, 0, none⟩)) false ty).run Try.prog wr = .ok (.tuple #[.bool true, .int .u64 (y : Nat), .int .i64 (c : Nat)]) w') ∧
      ((Instr.entry (.pointer (some ⟨r, 0, none⟩))).run Try.prog w' = .ok (.tuple #[.int .u64 (y : Nat), .int .i64 (c : Nat)]) w') ∧ SAt w x b j r1 r2 n D S F r (a0 ++ b0) w' := by
  rcases h.over.next (P := Try.prog) with ⟨_, hn⟩ | ⟨a, p, bb, w', h0, hn, hc, hs, ho, he⟩
  · exact Or.inl hn
  · obtain ⟨a0, ⟨y, c⟩, b0, rfl, rfl, rfl, rfl⟩ := iv_cut h0
    obtain ⟨es0, ck0, hb0, E0⟩ := h.over.map
    have hm := h.over.sub.subset (show (y, iV c) ∈ iv (a0 ++ (y, c) :: b0) by rw [h0]; simp)
    have hy : y < 18446744073709551616 := E0.ok (y, iV c) hm
    obtain ⟨y', c', e, hm'⟩ := mem_iv hm
    obtain ⟨rfl, rfl⟩ : y = y' ∧ c = c' := by
      simp only [Prod.mk.injEq, iV, Value.int.injEq, true_and] at e
      exact ⟨e.1, by omega⟩
    have hcat : iv a0 ++ iv b0 = iv (a0 ++ b0) := by unfold iv; rw [List.map_append]
    rw [hcat] at ho
    refine Or.inr ⟨a0, b0, y, c, w', rfl, hy, hm', hn, he w' rfl rfl, ⟨h.at_.stay hc (fun e => h.hr.2.2 e.symm) (fun e => h.over.lt.2.2 e) (fun i hi e => h.hr.1 (by rw [← e]; exact hi)) (fun i e => by rw [e]; exact h.hr.2.1), ho, h.hr⟩⟩
end
end Go.Proofs.Ytgmmglmokkcgeaa
