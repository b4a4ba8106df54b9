/- Clones; New and Copy of the document's net. -/
import Derived.Test.YtpgioccbnkcjcaaP6
namespace Go.Proofs.Ytpgioccbnkcjcaa
open Go.RowKit Mk
theorem info69b : ∃ i z, Try.prog.info? 69 = some i ∧ i.zero = some z ∧ i.size = 3 ∧ i.bytes = 24 ∧ z.cells.size = 3 := by
  obtain ⟨i, hi, hzz⟩ := Option.map_eq_some_iff.1 info69
  simp only [Prod.mk.injEq] at hzz
  exact ⟨i, _, hi, hzz.1, hzz.2.1, hzz.2.2, rfl⟩

theorem nil73 (g n c : Nat) (w : World) : (binOp .eql 73 (.slice (some ⟨g, 0, none⟩) n c) (.slice none 0 0)).run Try.prog w = .ok (.bool false) w := by
  simp only [binOp]
  simp [run_equal_slice_nil w 73 9 _ _ _ Try.underlying73]
theorem nilnil73 (w : World) : (binOp .eql 73 (.slice none 0 0) (.slice none 0 0)).run Try.prog w = .ok (.bool true) w := by
  simp only [binOp]
  simp [run_equal_slice_nil w 73 9 _ _ _ Try.underlying73]
set_option maxRecDepth 100000 in
theorem clone_strs {w : World} {so : Option Addr} {m sc : Nat} {xs : List Value} (h : sl w 9 1 (.slice so m sc) m xs) (hm : m ≤ 16384) (h1 : ∀ u ∈ xs, u.oneCell' = true) :
    Calls Try.prog 43 #[.slice so m sc] w fun e w' => ∃ lo lc, e = .returned (.slice lo m lc) ∧ sl w' 9 1 (.slice lo m lc) m xs ∧ (∀ g, (Value.slice lo m lc).ownBlock = some g → w.heap.size ≤ g) ∧ Chg (fun _ => False) w w' ∧ (so ≠ none → lo ≠ none) := by
  obtain ⟨ie, ze, hie, hze, hsze, hbye, hzse⟩ := info9
  have HH := Lib.hid h
  rcases h.2 with ⟨e0, rfl⟩ | ⟨g, cap, cur, e0, hb, hnc, hcm, hcs, htk⟩
  · simp only [Value.slice.injEq] at e0
    obtain ⟨rfl, -, rfl⟩ := e0
    clear h h1
    have hnn := nilnil73 w
    go_enter Try.func43, Try.ntmps43
    go_wp2
    go_ret
    exact ⟨none, 0, rfl, HH.out, fun g hg => by simp [Value.ownBlock] at hg, Chg.refl _ _, fun h => absurd rfl h⟩
  · simp only [Value.slice.injEq] at e0
    obtain ⟨rfl, -, rfl⟩ := e0
    have hnn := nil73 g m sc w
    have HN := Lib.hid (show sl (w.alloc (.cells #[] 9)) 9 1 (.slice (some ⟨w.heap.size, 0, none⟩) 0 0) 0 [] from ⟨by simp, Or.inr ⟨w.heap.size, 0, #[], rfl, Go.heap_alloc_new _ _, Nat.le_refl _, by simp, by simp, by simp⟩⟩)
    have HC := Lib.hid (show 0 < m → ∃ a, (some ⟨g, 0, none⟩ : Option Addr) = some a ∧ ∀ j v, xs[j]? = some v → (w.alloc (.cells #[] 9)).cell? (a.add j) = some v from fun _ => ⟨_, rfl, fun j v hj => by
      rw [addr_add, Nat.zero_add]
      exact (World.cell?_of_block (a := ⟨g, j, none⟩) (Below.heap_alloc _ _ _ (HH.out.lt rfl))).trans (HH.out.at hj)⟩)
    have HL := Lib.hid h.1
    have H1 := Lib.hid h1
    clear h h1 hb hcs htk
    go_enter Try.func43, Try.ntmps43
    go_wp2_with (refine wpList_append_sl (by rfl) _ _ 73 (by rfl) 9 ie ze 1 16 Try.underlying73 hie hze hsze hbye hzse (by decide) (.slice (some ⟨w.heap.size, 0, none⟩) 0 0) 0 [] (by rfl) HN.out (some ⟨g, 0, none⟩) m sc xs (by rfl) HL.out HC.out (fun _ e => by cases e) H1.out (by simp only [maxLen]; omega) (by omega) ?_; intro v' w2 hsl hgrow hat; rw [Nat.zero_add, List.nil_append] at hsl; obtain ⟨lo2, lc2, rfl, hz2⟩ := sl_shape hsl; have HSL := Lib.hid hsl; have HAT := Lib.hid hat; have HGR := Lib.hid hgrow; clear hsl hgrow hat hz2)
    go_ret
    refine ⟨lo2, lc2, rfl, HSL.out, fun g' hg => ?_, ((Chg.refl _ _).alloc _).grown HGR.out (fun i hi => by simp [Value.ownBlock] at hi; exact Or.inr (by omega)), fun _ e => ?_⟩
    · rcases HAT.out with e | e
      · rw [e] at hg; simp [Value.ownBlock] at hg; omega
      · rw [e] at hg; simp at hg; omega
    · rcases HAT.out with e' | e'
      · rw [e] at e'; simp [Value.ownBlock] at e'
      · rw [e] at e'; simp [Value.ownBlock] at e'

theorem nil65 (g n c : Nat) (w : World) : (binOp .eql 65 (.slice (some ⟨g, 0, none⟩) n c) (.slice none 0 0)).run Try.prog w = .ok (.bool false) w := by
  simp only [binOp]
  simp [run_equal_slice_nil w 65 69 _ _ _ Try.underlying65]
theorem nilnil65 (w : World) : (binOp .eql 65 (.slice none 0 0) (.slice none 0 0)).run Try.prog w = .ok (.bool true) w := by
  simp only [binOp]
  simp [run_equal_slice_nil w 65 69 _ _ _ Try.underlying65]
set_option maxRecDepth 100000 in
theorem clone_machs {w : World} {so : Option Addr} {m sc : Nat} {xs : List Value} (h : sl w 69 3 (.slice so m sc) m xs) (hm : m ≤ 16384) (h1 : ∀ u ∈ xs, u.oneCell' = true) :
    Calls Try.prog 42 #[.slice so m sc] w fun e w' => ∃ lo lc, e = .returned (.slice lo m lc) ∧ sl w' 69 3 (.slice lo m lc) m xs ∧ (∀ g, (Value.slice lo m lc).ownBlock = some g → w.heap.size ≤ g) ∧ Chg (fun _ => False) w w' ∧ (so ≠ none → lo ≠ none) := by
  obtain ⟨ie, ze, hie, hze, hsze, hbye, hzse⟩ := info69b
  have HH := Lib.hid h
  rcases h.2 with ⟨e0, rfl⟩ | ⟨g, cap, cur, e0, hb, hnc, hcm, hcs, htk⟩
  · simp only [Value.slice.injEq] at e0
    obtain ⟨rfl, -, rfl⟩ := e0
    clear h h1
    have hnn := nilnil65 w
    go_enter Try.func42, Try.ntmps42
    go_wp2
    go_ret
    exact ⟨none, 0, rfl, HH.out, fun g hg => by simp [Value.ownBlock] at hg, Chg.refl _ _, fun h => absurd rfl h⟩
  · simp only [Value.slice.injEq] at e0
    obtain ⟨rfl, -, rfl⟩ := e0
    have hnn := nil65 g m sc w
    have HN := Lib.hid (show sl (w.alloc (.cells #[] 69)) 69 3 (.slice (some ⟨w.heap.size, 0, none⟩) 0 0) 0 [] from ⟨by simp, Or.inr ⟨w.heap.size, 0, #[], rfl, Go.heap_alloc_new _ _, Nat.le_refl _, by simp, by simp, by simp⟩⟩)
    have HC := Lib.hid (show 0 < m → ∃ a, (some ⟨g, 0, none⟩ : Option Addr) = some a ∧ ∀ j v, xs[j]? = some v → (w.alloc (.cells #[] 69)).cell? (a.add j) = some v from fun _ => ⟨_, rfl, fun j v hj => by
      rw [addr_add, Nat.zero_add]
      exact (World.cell?_of_block (a := ⟨g, j, none⟩) (Below.heap_alloc _ _ _ (HH.out.lt rfl))).trans (HH.out.at hj)⟩)
    have HL := Lib.hid h.1
    have H1 := Lib.hid h1
    clear h h1 hb hcs htk
    go_enter Try.func42, Try.ntmps42
    go_wp2_with (refine wpList_append_sl (by rfl) _ _ 65 (by rfl) 69 ie ze 3 24 Try.underlying65 hie hze hsze hbye hzse (by decide) (.slice (some ⟨w.heap.size, 0, none⟩) 0 0) 0 [] (by rfl) HN.out (some ⟨g, 0, none⟩) m sc xs (by rfl) HL.out HC.out (fun _ e => by cases e) H1.out (by simp only [maxLen]; omega) (by omega) ?_; intro v' w2 hsl hgrow hat; rw [Nat.zero_add, List.nil_append] at hsl; obtain ⟨lo2, lc2, rfl, hz2⟩ := sl_shape hsl; have HSL := Lib.hid hsl; have HAT := Lib.hid hat; have HGR := Lib.hid hgrow; clear hsl hgrow hat hz2)
    go_ret
    refine ⟨lo2, lc2, rfl, HSL.out, fun g' hg => ?_, ((Chg.refl _ _).alloc _).grown HGR.out (fun i hi => by simp [Value.ownBlock] at hi; exact Or.inr (by omega)), fun _ e => ?_⟩
    · rcases HAT.out with e | e
      · rw [e] at hg; simp [Value.ownBlock] at hg; omega
      · rw [e] at hg; simp at hg; omega
    · rcases HAT.out with e' | e'
      · rw [e] at e'; simp [Value.ownBlock] at e'
      · rw [e] at e'; simp [Value.ownBlock] at e'

end Go.Proofs.Ytpgioccbnkcjcaa
