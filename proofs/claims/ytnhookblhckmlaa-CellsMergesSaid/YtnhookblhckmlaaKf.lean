/- Walks: Clone, Copy; the trimming predicate; the search for the first that goes. -/
import Derived.Test.YtnhookblhckmlaaKe
import Derived.Lib.SliceRun
namespace Go.Proofs.Ytnhookblhckmlaa
open Go.RowKit Mk Go.Sort

set_option maxRecDepth 100000 in
set_option maxHeartbeats 1000000 in
theorem clone_any {w : World} {lv : Value} {L : List CellM} (h : Has w lv L) (hL : L.length ≤ 1099511627776) :
    Calls Try.prog 35 #[lv] w fun e w' => ∃ v', e = .returned v' ∧ Has w' v' L ∧ RowKit.Below w.heap.size w w' ∧ (∀ g, v'.ownBlock = some g → w.heap.size ≤ g) := by
  obtain ⟨i6, z6, hi6, hz6, hsz6, hby6, hzs6⟩ := info24
  rcases h.2 with ⟨rfl, e0⟩ | ⟨g, cap, cur, rfl, hg, hnc, hcm, hcs, ht⟩
  · obtain rfl := List.eq_nil_of_length_eq_zero e0
    have q := fun (w : World) => Lib.run_eql_slice_nil (P := Try.prog) w 28 24 none 0 0 0 0 Try.underlying28
    go_enter Try.func35, Try.ntmps35
    go_wp2
    go_ret
    exact ⟨_, rfl, h, Below.refl _ _, fun g e => by simp [Value.ownBlock] at e⟩
  · have hB : RowKit.Below w.heap.size w (w.alloc (.cells #[] 24)) := (Below.refl _ w).alloc (Nat.le_refl _) _
    have hS := h.stay hB
    have hE : sl (w.alloc (.cells #[] 24)) 24 4 (.slice (some ⟨w.heap.size, 0, none⟩) 0 0) 0 [] := ⟨rfl, Or.inr ⟨w.heap.size, 0, #[], rfl, Go.heap_alloc_new _ _, Nat.le_refl _, Nat.zero_le _, by simp, rfl⟩⟩
    have hN : ∀ j u, (cellsL L)[j]? = some u → (w.alloc (.cells #[] 24)).cell? ((⟨g, 0, none⟩ : Addr).add j) = some u := fun j u hj => by
      obtain ⟨g', cap', e, hc⟩ := sl.cell hS hj
      cases e
      rw [Addr.add_lit, Nat.zero_add]
      exact hc
    have hone := cellsL_cell L
    have hlen : (cellsL L).length = L.length * 4 := h.1
    have HN := Lib.hid hN
    have HE := Lib.hid hE
    have HO := Lib.hid hone
    have HL := Lib.hid hlen
    have HB := Lib.hid hB
    have HX := Lib.hid (fun (v' : Value) (w2 : World) (hs : sl w2 24 4 v' (0 + L.length) ([] ++ cellsL L)) => (show Has w2 v' L by unfold Has; simpa using hs))
    clear hN hE hone hlen hB hS h hg hcs ht
    have l1 : L.length ≤ maxLen := by simp only [maxLen]; omega
    have q := fun (w : World) => Lib.run_eql_slice_nil (P := Try.prog) w 28 24 (some ⟨g, 0, none⟩) L.length cap 0 0 Try.underlying28
    go_enter Try.func35, Try.ntmps35
    go_wp2_with (refine wpList_append_sl (by rfl) _ _ 28 (by rfl) 24 i6 z6 4 48 Try.underlying28 hi6 hz6 hsz6 hby6 hzs6 (by decide) (.slice (some ⟨w.heap.size, 0, none⟩) 0 0) 0 [] (by rfl) HE.out (some ⟨g, 0, none⟩) L.length cap (cellsL L) (by rfl) HL.out (fun _ => ⟨_, rfl, HN.out⟩) (fun _ h => by cases h) HO.out (by omega) (by omega) ?_; intro v' w2 hsl hgrow hat)
    go_ret
    refine ⟨v', rfl, HX.out _ _ hsl, ?_, fun i e => ?_⟩
    · refine HB.out.trans ⟨hgrow.os, hgrow.tape, hgrow.output, hgrow.size, fun i hi => hgrow.block i (by simp; omega) (fun e => ?_)⟩
      simp [Value.ownBlock] at e
      omega
    · rcases hat with e2 | e2
      · rw [e2] at e; simp [Value.ownBlock] at e; omega
      · rw [e2] at e; simp at e; omega

set_option maxRecDepth 100000 in
set_option maxHeartbeats 1000000 in
theorem copy_any {w : World} {b : Nat} {lv : Value} {L : List CellM} (h : CR w b lv L) (hL : L.length ≤ 1099511627776) :
    Calls Try.prog 14 #[.pointer (some ⟨b, 0, none⟩)] w fun e w' => ∃ d lv', e = .returned (.pointer (some ⟨d, 0, none⟩)) ∧ w.heap.size ≤ d ∧ CR w' d lv' L ∧ RowKit.Below w.heap.size w w' ∧ (∀ g, lv'.ownBlock = some g → w.heap.size ≤ g) := by
  have N := Lib.hid (not_some h.blk)
  have C := Lib.hid (clone_any h.has hL)
  have d0 : w.cell? ⟨b, 0, none⟩ = some lv := cell_of h.blk rfl
  obtain ⟨lo, lc, rfl⟩ := h.has.shape
  clear h
  go_enter Try.func14, Try.ntmps14
  go_wp2_with fail
  refine N.out.mono ?_
  rintro e w' ⟨rfl, rfl⟩
  go_wp2_with fail
  refine C.out.mono ?_
  rintro e w1 ⟨v', rfl, h1, h2, h3⟩
  obtain ⟨o1, c1, rfl⟩ := h1.shape
  have H1 := Lib.hid h1
  have H2 := Lib.hid h2
  have H3 := Lib.hid h3
  clear h1 h2 h3
  go_wp2
  go_ret
  have hB : RowKit.Below w1.heap.size w1 (w1.alloc (.cells #[.slice o1 L.length c1, .bool true] 65)) := (Below.refl _ w1).alloc (Nat.le_refl _) _
  refine ⟨w1.heap.size, .slice o1 L.length c1, rfl, H2.out.size, ⟨Go.heap_alloc_new _ _, H1.out.stay hB, fun e => absurd (sl.lt H1.out e) (Nat.lt_irrefl _)⟩, H2.out.trans (hB.mono H2.out.size), H3.out⟩

/-- The three captured cells of the trimming predicate. -/
structure TrAt (w : World) (b3 b7 b6 below : Nat) (s : TrS) : Prop where
  h3 : w.heap[b3]? = some (.cells #[.int .u64 below] 22)
  h7 : w.heap[b7]? = some (.cells #[.bool s.any] 4)
  h6 : w.heap[b6]? = some (.cells #[.string s.last] 9)
  n36 : b3 ≠ b6
  n37 : b3 ≠ b7
  n67 : b6 ≠ b7
theorem TrAt.stay {w w' : World} {b3 b7 b6 below : Nat} {s : TrS} (h : TrAt w b3 b7 b6 below s) (k : ∀ g, g = b3 ∨ g = b6 ∨ g = b7 → w'.heap[g]? = w.heap[g]?) : TrAt w' b3 b7 b6 below s :=
  ⟨(k _ (by simp)).trans h.h3, (k _ (by simp)).trans h.h7, (k _ (by simp)).trans h.h6, h.n36, h.n37, h.n67⟩
theorem TrAt.lt {w : World} {b3 b7 b6 below : Nat} {s : TrS} (h : TrAt w b3 b7 b6 below s) : ∀ g, g = b3 ∨ g = b6 ∨ g = b7 → g < w.heap.size := by
  rintro g (rfl | rfl | rfl)
  · exact (Array.getElem?_eq_some_iff.1 h.h3).1
  · exact (Array.getElem?_eq_some_iff.1 h.h6).1
  · exact (Array.getElem?_eq_some_iff.1 h.h7).1
theorem TrAt.below {w w' : World} {b3 b7 b6 below : Nat} {s : TrS} (h : TrAt w b3 b7 b6 below s) (k : RowKit.Below w.heap.size w w') : TrAt w' b3 b7 b6 below s := h.stay (fun g hg => k.block g (h.lt g hg))
def TrPost (w : World) (b3 b7 b6 below : Nat) (r : Bool × TrS) (w' : World) : Prop := TrAt w' b3 b7 b6 below r.2 ∧ Chg (fun g => g = b6 ∨ g = b7) w w'

set_option maxRecDepth 100000 in
set_option maxHeartbeats 1000000 in
theorem trim1_any {w : World} {b3 b7 b6 below : Nat} {s : TrS} (h : TrAt w b3 b7 b6 below s) (x : CellM) :
    Calls Try.prog 37 #[cellV x, .pointer (some ⟨b3, 0, none⟩), .pointer (some ⟨b7, 0, none⟩), .pointer (some ⟨b6, 0, none⟩)] w fun e w' => e = .returned (.bool (trStep below s x).1) ∧ TrPost w b3 b7 b6 below (trStep below s x) w' := by
  obtain ⟨k, t, d, v⟩ := x
  obtain ⟨last, any⟩ := s
  unfold cellV
  simp only
  have t3 : w.cell? ⟨b3, 0, none⟩ = some (.int .u64 below) := cell_of h.h3 rfl
  have t7 : w.cell? ⟨b7, 0, none⟩ = some (.bool any) := cell_of h.h7 rfl
  have t6 : w.cell? ⟨b6, 0, none⟩ = some (.string last) := cell_of h.h6 rfl
  have f7 : w.frozen? ⟨b7, 0, none⟩ = false := frozen_of h.h7
  have f6 : w.frozen? ⟨b6, 0, none⟩ = false := frozen_of h.h6
  have l3 : b3 < w.heap.size := h.lt b3 (by simp)
  have l6 : b6 < w.heap.size := h.lt b6 (by simp)
  have l7 : b7 < w.heap.size := h.lt b7 (by simp)
  have n67 := h.n67
  have hkeep : TrPost w b3 b7 b6 below (false, ⟨last, any⟩) (w.alloc (.cells #[.string k, .int .u64 t, .bool d, .string v] 24)) := ⟨h.below ((Below.refl _ w).alloc (Nat.le_refl _) _), (Chg.refl _ w).alloc _⟩
  have hgo : ∀ (bb : Bool), TrPost w b3 b7 b6 below (bb, ⟨k, true⟩) (((w.setCell ⟨b6, 0, none⟩ (.string k)).setCell ⟨b7, 0, none⟩ (.bool true)).alloc (.cells #[.string k, .int .u64 t, .bool d, .string v] 24)) := fun bb => by
    have g6 := Mk.heap_setCell_same (i := 0) h.h6 (.string k)
    have e6 : (w.setCell ⟨b6, 0, none⟩ (.string k)).heap[b7]? = w.heap[b7]? := Below.heap_setCell _ _ _ _ (Ne.symm n67)
    have g7 := Mk.heap_setCell_same (i := 0) (e6.trans h.h7) (.bool true)
    have sz : ((w.setCell ⟨b6, 0, none⟩ (.string k)).setCell ⟨b7, 0, none⟩ (.bool true)).heap.size = w.heap.size := by simp [World.setCell]
    refine ⟨⟨?_, ?_, ?_, h.n36, h.n37, n67⟩, (((Chg.refl (fun g => g = b6 ∨ g = b7) w).setCell (a := ⟨b6, 0, none⟩) (Or.inl (Or.inl rfl)) (.string k)).setCell (a := ⟨b7, 0, none⟩) (Or.inl (Or.inr rfl)) (.bool true)).alloc _⟩
    · rw [Below.heap_alloc _ _ _ (by omega), Below.heap_setCell _ _ _ _ (by exact h.n37), Below.heap_setCell _ _ _ _ (by exact h.n36)]; exact h.h3
    · rw [Below.heap_alloc _ _ _ (by omega)]; exact g7
    · rw [Below.heap_alloc _ _ _ (by omega), Below.heap_setCell _ _ _ _ (by exact n67)]; exact g6
  have HK := Lib.hid hkeep
  have HG := Lib.hid hgo
  clear hkeep hgo h
  unfold trStep
  by_cases hlt : below < t
  · have q : decide (below < t) = true := by simpa using hlt
    simp only [hlt, if_true]
    go_enter Try.func37, Try.ntmps37
    go_wp2
    go_ret
    exact ⟨rfl, HK.out⟩
  · have q : decide (below < t) = false := by simpa using hlt
    simp only [hlt, if_false]
    generalize hz : (k.toList == last.toList) = z
    have hz2 := hz
    clear hlt
    cases any
    · cases d
      · go_enter Try.func37, Try.ntmps37
        go_wp2
        go_ret
        exact ⟨by simp, HG.out _⟩
      · go_enter Try.func37, Try.ntmps37
        go_wp2
        go_ret
        exact ⟨by simp, HG.out _⟩
    · cases z
      · cases d
        · go_enter Try.func37, Try.ntmps37
          go_wp2
          go_ret
          exact ⟨by simp, HG.out _⟩
        · go_enter Try.func37, Try.ntmps37
          go_wp2
          go_ret
          exact ⟨by simp, HG.out _⟩
      · go_enter Try.func37, Try.ntmps37
        go_wp2
        go_ret
        exact ⟨by simp, HG.out _⟩
end Go.Proofs.Ytnhookblhckmlaa
