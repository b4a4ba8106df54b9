/- Walks: at, between, Parted, Len, Nodes, Ticks. -/
import Derived.Test.YtpgioccbnkcjcaaRep
import Derived.WalkKit
import Derived.Lib.Hide
import Derived.BigQuiet
namespace Go.Proofs.Ytpgioccbnkcjcaa
open Go.RowKit Mk

def i64 (i : Int) : Prop := -9223372036854775808 ≤ i ∧ i ≤ 9223372036854775807
theorem i64_wf {i : Int} (h : i64 i) : (Lit.int .i64 i).wf = true := by obtain ⟨a, b⟩ := h; simp [Lit.wf, IntKind.min, IntKind.max, IntKind.bits, IntKind.signed]; omega
theorem i64_of {i : Int} (h : (Lit.int .i64 i).wf = true) : i64 i := by simp [Lit.wf, IntKind.min, IntKind.max, IntKind.bits, IntKind.signed] at h; unfold i64; omega
def may (n : Nat) (i : Int) : Bool := decide (1 ≤ i) && decide (i ≤ n)
def atv (mb n : Nat) (i : Int) : Value := if may n i then .pointer (some ⟨mb, 3 * (i - 1).toNat, none⟩) else .pointer none

theorem at_any {w : World} {b mb n cp : Nat} {m f : Value} {t : TypeId} (h : w.heap[b]? = some (.cells #[m, .slice (some ⟨mb, 0, none⟩) n cp, f] t)) (i : Int) (hi : i64 i) :
    Calls Try.prog 29 #[.pointer (some ⟨b, 0, none⟩), .int .i64 i] w fun e w' => e = .returned (atv mb n i) ∧ w' = w := by
  have hc1 : w.cell? ⟨b, 1, none⟩ = some (.slice (some ⟨mb, 0, none⟩) n cp) := cell_of h (by simp)
  have hw1 := hi.1
  have hw2 := hi.2
  clear hi
  go_enter Try.func29, Try.ntmps29
  by_cases h1 : i < 1
  · have hv : atv mb n i = .pointer none := by simp [atv, may]; omega
    rw [hv]
    have h1' : decide (i < 1) = true := by simpa using h1
    clear hv
    go_wp2
    go_ret
    exact ⟨rfl, rfl⟩
  · have h1' : decide (i < 1) = false := by simpa using h1
    by_cases h2 : (n : Int) < i
    · have hv : atv mb n i = .pointer none := by simp [atv, may]; omega
      rw [hv]
      have h2' : decide ((n : Int) < i) = true := by simpa using h2
      clear hv
      go_wp2
      go_ret
      exact ⟨rfl, rfl⟩
    · have h2' : decide ((n : Int) < i) = false := by simpa using h2
      obtain ⟨j, rfl⟩ : ∃ j : Nat, i = (j : Int) + 1 := ⟨(i - 1).toNat, by omega⟩
      have hv : atv mb n ((j : Int) + 1) = .pointer (some ⟨mb, 3 * j, none⟩) := by
        have : (1 : Int) ≤ (j : Int) + 1 := by omega
        simp [atv, may]
        omega
      rw [hv]
      have hb1 : (j : Int) < n := by omega
      have hb0 : (0 : Int) ≤ j := by omega
      clear hv h2
      go_wp2
      go_ret
      exact ⟨by simp, rfl⟩

theorem atv_out {mb n : Nat} {i : Int} (h : may n i = false) : atv mb n i = .pointer none := by simp [atv, h]
theorem atv_in' {mb n : Nat} {i : Int} (h : may n i = true) : ∃ j : Nat, i = (j : Int) + 1 ∧ atv mb n i = .pointer (some ⟨mb, 3 * j, none⟩) := by
  have h' := h
  simp [may] at h
  exact ⟨(i - 1).toNat, by omega, by simp [atv, h']⟩
theorem not_nil (mb n c : Nat) (w : World) : (binOp .eql 65 (.slice (some ⟨mb, 0, none⟩) n c) (.slice none 0 0)).run Try.prog w = .ok (.bool false) w := by
  simp only [binOp]
  simp [run_equal_slice_nil w 65 69 _ _ _ Try.underlying65]

theorem between_any {w : World} {b mb n cp : Nat} {m f : Value} {t : TypeId} (h : w.heap[b]? = some (.cells #[m, .slice (some ⟨mb, 0, none⟩) n cp, f] t)) (i k : Int) (hi : i64 i) (hk : i64 k) :
    Calls Try.prog 28 #[.pointer (some ⟨b, 0, none⟩), .int .i64 i, .int .i64 k] w fun e w' => e = .returned (.int .i64 (if may n i && may n k then 0 else 2)) ∧ w' = w := by
  have hc1 : w.cell? ⟨b, 1, none⟩ = some (.slice (some ⟨mb, 0, none⟩) n cp) := cell_of h (by simp)
  have A1 := Lib.hid (at_any h i hi)
  have A2 := Lib.hid (at_any h k hk)
  have hnn := not_nil mb n cp
  obtain ⟨E, HE⟩ : ∃ E : Int, Hid (E = if may n i && may n k then 0 else 2) := ⟨_, Lib.hid rfl⟩
  rw [← HE.out]
  clear hi hk h
  go_enter Try.func28, Try.ntmps28
  go_wp2_with fail
  refine A1.out.mono ?_
  rintro e w' ⟨rfl, rfl⟩
  cases h1 : may n i
  · rw [atv_out h1]
    have HE2 := Lib.hid (show E = 2 by rw [HE.out, h1]; simp)
    clear h1
    go_wp2
    go_ret
    exact ⟨by rw [HE2.out]; rfl, rfl⟩
  · obtain ⟨j, _, ea⟩ := atv_in' (mb := mb) h1
    rw [ea]
    cases h2 : may n k
    · have HE2 := Lib.hid (show E = 2 by rw [HE.out, h2]; simp)
      clear h1 ea
      go_wp2_with fail
      refine A2.out.mono ?_
      rintro e w' ⟨rfl, rfl⟩
      rw [atv_out h2]
      clear h2
      go_wp2
      go_ret
      exact ⟨by rw [HE2.out]; rfl, rfl⟩
    · have HE2 := Lib.hid (show E = 0 by rw [HE.out, h1, h2]; simp)
      clear h1 ea
      go_wp2_with fail
      refine A2.out.mono ?_
      rintro e w' ⟨rfl, rfl⟩
      obtain ⟨j2, _, eb⟩ := atv_in' (mb := mb) h2
      rw [eb]
      clear h2 eb
      go_wp2
      go_ret
      exact ⟨by rw [HE2.out]; rfl, rfl⟩

/-- The side of a machine that there is. -/
def sideOf (ms : List Mach) (i : Int) : Option Bool := if may ms.length i then (ms[(i - 1).toNat]?).map (·.side) else none
def partedM (ms : List Mach) (i k : Int) : Bool := match sideOf ms i, sideOf ms k with
  | some a, some b => a != b
  | _, _ => false

theorem atv_in {mb : Nat} {ms : List Mach} {i : Int} (h : may ms.length i = true) : ∃ j : Nat, ∃ hj : j < ms.length, i = (j : Int) + 1 ∧ (i - 1).toNat = j ∧ atv mb ms.length i = .pointer (some ⟨mb, 3 * j, none⟩) := by
  have h' := h
  simp [may] at h
  refine ⟨(i - 1).toNat, by omega, by omega, rfl, by simp [atv, h']⟩

theorem mcells_left (ms : List Mach) (rest : List Value) (j : Nat) (h : j < ms.length) (i : Nat) (hi : i < 3) : (mcells ms ++ rest)[3 * j + i]? = (mcells ms)[3 * j + i]? := List.getElem?_append_left (by rw [mcells_len]; omega)
theorem cell_mach {w : World} {mb : Nat} {ms : List Mach} {rest : List Value} (h : w.heap[mb]? = some (.cells (mcells ms ++ rest).toArray 69)) {j : Nat} (hj : j < ms.length) :
    w.cell? ⟨mb, 3 * j, none⟩ = some (.int .i64 ms[j].ticks) ∧ w.cell? ⟨mb, 3 * j + 1, none⟩ = some (.int .u64 ms[j].draws) ∧ w.cell? ⟨mb, 3 * j + 2, none⟩ = some (.bool ms[j].side) :=
  ⟨cell_of h (by simpa using (mcells_left ms rest j hj 0 (by omega)).trans (mcells_get ms j hj 0 (by omega))), cell_of h (by simpa using (mcells_left ms rest j hj 1 (by omega)).trans (mcells_get ms j hj 1 (by omega))), cell_of h (by simpa using (mcells_left ms rest j hj 2 (by omega)).trans (mcells_get ms j hj 2 (by omega)))⟩

theorem Mk.Chg.drewN (w : World) (m : Nat) : Chg (fun _ => False) w (w.drewN m) := ⟨rfl, rfl, rfl, Nat.le_refl _, fun _ _ _ => rfl⟩

theorem parted_any {w : World} {b r : Nat} {mb : MB} {L : List (Lnk × Value)} {F : Nat → Prop} {n : NetM} (h : NetRep w b r mb L F n) (i k : Int) (hi : i64 i) (hk : i64 k) :
    Calls Try.prog 17 #[.pointer (some ⟨b, 0, none⟩), .int .i64 i, .int .i64 k] w fun e w' => e = .returned (.bool (partedM n.ms i k)) ∧ Chg (fun _ => False) w w' := by
  have A1 := Lib.hid (at_any h.net i hi)
  have A2 := Lib.hid (at_any h.net k hk)
  have hm := Lib.hid h.mach
  obtain ⟨E, HE⟩ : ∃ E : Bool, Hid (E = partedM n.ms i k) := ⟨_, Lib.hid rfl⟩
  rw [← HE.out]
  clear hi hk h
  go_enter Try.func17, Try.ntmps17
  go_wp2_with fail
  refine A1.out.mono ?_
  rintro e w' ⟨rfl, rfl⟩
  go_wp2_with fail
  refine A2.out.mono ?_
  rintro e w' ⟨rfl, rfl⟩
  cases h1 : may n.ms.length i
  · have HE2 := Lib.hid (show E = false by rw [HE.out]; simp [partedM, sideOf, h1])
    rw [atv_out h1]
    clear h1
    cases h2 : may n.ms.length k
    · rw [atv_out h2]
      clear h2
      go_wp2
      go_quiet (fail)
      go_wp2
      go_ret
      exact ⟨by rw [HE2.out]; rfl, Chg.drewN _ _⟩
    · obtain ⟨j2, hj2, _, _, ea⟩ := atv_in (mb := mb) h2
      rw [ea]
      clear h2 ea hj2
      go_wp2
      go_quiet (fail)
      go_wp2
      go_ret
      exact ⟨by rw [HE2.out]; rfl, Chg.drewN _ _⟩
  · cases h2 : may n.ms.length k
    · have HE2 := Lib.hid (show E = false by rw [HE.out]; unfold partedM; cases sideOf n.ms i <;> simp [sideOf, h2])
      obtain ⟨j, hj, _, _, ea⟩ := atv_in (mb := mb) h1
      rw [atv_out h2, ea]
      clear h1 ea h2 hj
      go_wp2
      go_quiet (fail)
      go_wp2
      go_ret
      exact ⟨by rw [HE2.out]; rfl, Chg.drewN _ _⟩
    · obtain ⟨j, hj, ei, ei2, ea⟩ := atv_in (mb := mb) h1
      obtain ⟨j2, hj2, ek, ek2, eb⟩ := atv_in (mb := mb) h2
      have HE2 := Lib.hid (show E = (n.ms[j].side != n.ms[j2].side) by rw [HE.out]; simp [partedM, sideOf, h1, h2, ei2, ek2, hj, hj2])
      have c1 := (cell_mach hm.out hj).2.2
      have c2 := (cell_mach hm.out hj2).2.2
      rw [ea, eb]
      generalize n.ms[j].side = x at *
      generalize n.ms[j2].side = y at *
      have HE3 := Lib.hid (show E = (!(x == y)) by rw [HE2.out]; rfl)
      clear h1 ea h2 eb ei ei2 ek ek2 hj hj2
      go_wp2
      go_quiet (fail)
      go_wp2
      go_ret
      exact ⟨by rw [HE3.out]; rfl, Chg.drewN _ _⟩
end Go.Proofs.Ytpgioccbnkcjcaa
