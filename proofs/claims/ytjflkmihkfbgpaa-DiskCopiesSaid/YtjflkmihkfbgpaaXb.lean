/- Walks: the document's Sync. -/
import Derived.Test.YtjflkmihkfbgpaaXa
namespace Go.Proofs.Ytjflkmihkfbgpaa
open Go.RowKit Mk Go.Sort
set_option linter.unusedVariables false
set_option linter.unusedSimpArgs false

/-- 'append([]File{}, l...)'. -/
theorem fl_copy {W w4 : World} {v' : Value} {L : Files} (hs : sl w4 73 2 v' (0 + L.length) ([] ++ fcells L)) (hg : (W.alloc (.cells #[] 73)).grownBy w4 (Value.slice (some ⟨W.heap.size, 0, none⟩) 0 0).ownBlock) (ha : v'.ownBlock = (Value.slice (some ⟨W.heap.size, 0, none⟩) 0 0).ownBlock ∨ v'.ownBlock = some (W.alloc (.cells #[] 73)).heap.size) :
    ∃ o c, v' = .slice o L.length c ∧ FL w4 (.slice o L.length c) L ∧ Below W.heap.size W w4 ∧ ∀ g, (Value.slice o L.length c).ownBlock = some g → W.heap.size ≤ g := by
  have h : FL w4 v' L := by unfold FL; simpa using hs
  obtain ⟨o, c, rfl⟩ := h.shape
  refine ⟨o, c, rfl, h, ?_, fun g hg' => ?_⟩
  · have h1 : Below W.heap.size W (W.alloc (.cells #[] 73)) := (Below.refl _ W).alloc (Nat.le_refl _) _
    exact h1.trans ⟨hg.os, hg.tape, hg.output, hg.size, fun i hi => hg.block i (by rw [World.size_alloc]; omega) (fun e => by simp only [Value.ownBlock, Option.some.injEq] at e; omega)⟩
  · rcases ha with e | e
    · rw [e] at hg'; simp only [Value.ownBlock, Option.some.injEq] at hg'; omega
    · rw [e] at hg'; have := Option.some.inj hg'; simp only [World.size_alloc] at this; omega
theorem sl_empty (W : World) : sl (W.alloc (.cells #[] 73)) 73 2 (.slice (some ⟨W.heap.size, 0, none⟩) 0 0) 0 [] :=
  ⟨rfl, Or.inr ⟨W.heap.size, 0, #[], rfl, Go.heap_alloc_new _ _, Nat.le_refl _, Nat.zero_le _, by simp, rfl⟩⟩
theorem fl_src {w : World} {o : Option Addr} {c : Nat} {L : Files} (h : FL w (.slice o L.length c) L) : (0 < L.length → ∃ a, o = some a ∧ ∀ j u, (fcells L)[j]? = some u → w.cell? (a.add j) = some u) ∧ (L.length = 0 → o = none → c = 0) := by
  refine ⟨fun h0 => ?_, fun h0 e => ?_⟩
  · rcases h.2 with ⟨e, e0⟩ | ⟨g, cap, cur, e, hg, _⟩
    · omega
    · simp only [Value.slice.injEq] at e
      obtain ⟨rfl, -, rfl⟩ := e
      refine ⟨_, rfl, fun j u hj => ?_⟩
      obtain ⟨g', cap', e1, e2⟩ := sl.cell h hj
      cases e1
      by_cases hj0 : j = 0
      · subst hj0; exact e2
      · simpa [Addr.add, hj0] using e2
  · rcases h.2 with ⟨e', _⟩ | ⟨g, cap, cur, e', hg, _⟩
    · simp only [Value.slice.injEq] at e'; exact e'.2.2
    · simp only [Value.slice.injEq] at e'; rw [e] at e'; simp at e'
theorem fcells_one (L : Files) : ∀ u ∈ fcells L, u.oneCell' = true := by
  intro u hu
  unfold fcells at hu
  obtain ⟨p, hp, hu⟩ := List.mem_flatMap.1 hu
  simp only [fileL, List.mem_cons, List.not_mem_nil, or_false] at hu
  rcases hu with rfl | rfl <;> rfl
section
variable {w : World} {x : Nat} {kv ov nv : Value} {F : Nat → Prop} {S : Nat} {r : RefM}
def rsyncM (r : RefM) : RefM := ⟨r.room, r.N, [], r.N⟩
theorem r_sync {w4 : World} {o : Option Addr} {c : Nat} (h : RRep w x kv ov nv F S r) (hf : FL w4 (.slice o r.N.length c) r.N) (hb : Below w.heap.size w w4) (ho : ∀ g, (Value.slice o r.N.length c).ownBlock = some g → w.heap.size ≤ g) :
    w4.frozen? ⟨x, 1, none⟩ = false ∧ w4.cell? ⟨x, 1, none⟩ = some kv ∧ (w4.setCell ⟨x, 1, none⟩ (.slice o r.N.length c)).frozen? ⟨x, 2, none⟩ = false ∧ (w4.setCell ⟨x, 1, none⟩ (.slice o r.N.length c)).cell? ⟨x, 2, none⟩ = some ov ∧ RTo w x F S (rsyncM r) ((w4.setCell ⟨x, 1, none⟩ (.slice o r.N.length c)).setCell ⟨x, 2, none⟩ (.slice none 0 0)) := by
  have h4 := h.below hb
  have hl := h.lt
  have g1 := Mk.heap_setCell_same (i := 1) h4.blk (.slice o r.N.length c)
  have g2 := Mk.heap_setCell_same (i := 2) g1 (.slice none 0 0)
  obtain ⟨n1, n2, n3, n4⟩ := h4.nes
  have e : ∀ i, i ≠ x → ((w4.setCell ⟨x, 1, none⟩ (.slice o r.N.length c)).setCell ⟨x, 2, none⟩ (.slice none 0 0)).heap[i]? = w4.heap[i]? := fun i hi => (Below.heap_setCell _ _ _ _ hi).trans (Below.heap_setCell _ _ _ _ hi)
  refine ⟨frozen_of h4.blk, cell_of h4.blk rfl, frozen_of g1, cell_of g1 rfl, ⟨.slice o r.N.length c, .slice none 0 0, nv, g2, ?_, sl_nil _ _ _, ?_, Or.inl h.fx, fun g hg => Or.inr (ho g hg), fun g hg => by simp [Value.ownBlock] at hg, fun g hg => Or.inl (h.fn g hg), h.room, ?_, ?_, rfl, trivial⟩, ?_⟩
  · exact sl.stay hf (fun g hg => e g (by have := ho g hg; omega))
  · exact sl.stay h4.n (fun g hg => e g (n3 g hg))
  · have := h.len; simp only [rsyncM, List.length_nil]; omega
  · have := h.size; simp only [rsyncM]; have : bulk [] = 0 := rfl; omega
  · exact (((chg_of_below hb).mono (fun _ f => f.elim)).setCell (Or.inl h.fx) _).setCell (Or.inl h.fx) _

set_option maxRecDepth 100000 in
theorem rsync_any (h : RIs w x F S r) : Calls Try.prog 37 #[.pointer (some ⟨x, 0, none⟩)] w fun e w' => e = .returned (.tuple #[]) ∧ RTo w x F S (rsyncM r) w' := by
  obtain ⟨kv, ov, nv, h⟩ := h
  obtain ⟨i6, z6, hi6, hz6, hsz6, hby6, hzs6⟩ := info73
  obtain ⟨no, nc, rfl⟩ := h.n.shape
  have hl : r.N.length ≤ 1099511627776 := Nat.le_trans h.len.2 h.size.2.2
  have hxl := h.lt
  have c3 := h.cells.2.2.2
  have c1 := h.cells.2.1
  have HSL := Lib.hid (sl_empty w)
  have hn1 : FL (w.alloc (.cells #[] 73)) (.slice no r.N.length nc) r.N := h.n.stay ((Below.refl _ w).alloc (Nat.le_refl _) _)
  have HSR := Lib.hid (fl_src hn1)
  have HEND := Lib.hid (fun (w4 : World) (o : Option Addr) (c : Nat) hf hb ho => r_sync h (w4 := w4) (o := o) (c := c) hf hb ho)
  have bb1 : 0 + r.N.length ≤ maxLen := by simp only [maxLen]; omega
  have bb2 : (0 + r.N.length) * 32 ≤ 140737488355328 := by omega
  have hfl : (fcells r.N).length = r.N.length * 2 := fcells_len _
  have HF1 := Lib.hid (fcells_one r.N)
  generalize r.N = L at *
  clear h hn1
  go_enter Try.func37, Try.ntmps37
  go_wp2_with (refine wpList_append_sl (by rfl) (.tmp 3) (.tmp 7) 39 (by rfl) 73 i6 z6 2 32 Try.underlying39 hi6 hz6 hsz6 hby6 hzs6 (by decide) (.slice (some ⟨w.heap.size, 0, none⟩) 0 0) 0 [] (by rfl) HSL.out no L.length nc (fcells L) (by rfl) hfl HSR.out.1 HSR.out.2 HF1.out bb1 bb2 ?_; intro v' w4 hs hg4 ha; obtain ⟨o', c', hv', f1, f2, f3⟩ := fl_copy hs hg4 ha; obtain ⟨y1, y2, y3, y4, y5⟩ := HEND.out w4 o' c' f1 f2 f3; have HY := Lib.hid y5; clear hs hg4 ha f1 f2 f3 y5; subst hv')
  go_end0
  exact ⟨rfl, HY.out⟩
end
end Go.Proofs.Ytjflkmihkfbgpaa
