/- Walks: the law's merged. -/
import Derived.Test.YtnhookblhckmlaaVE
import Derived.Deep.RegionHeld3
namespace Go.Proofs.Ytnhookblhckmlaa
set_option linter.unusedVariables false
set_option linter.unusedSimpArgs false
open Go.RowKit Mk Go.Sort

/-- Cells at a block. -/
def CP (w : World) (p : Nat × List CellM) : Prop := (∃ lv, CR w p.1 lv p.2) ∧ Ord p.2 ∧ p.2.length ≤ 1099511627776
theorem CP.below {w w' : World} {p : Nat × List CellM} (h : CP w p) (k : RowKit.Below w.heap.size w w') : CP w' p := by
  obtain ⟨⟨lv, h1⟩, h2⟩ := h
  exact ⟨⟨lv, h1.stay k⟩, h2⟩
theorem CP.tells {w : World} {p : Nat × List CellM} (h : CP w p) : Calls Try.prog 23 #[.pointer (some ⟨p.1, 0, none⟩)] w fun e w' => ∃ lb, e = .returned (.func (.func 41) #[] lb) ∧ ItOk w' ⟨41, lb, p.2⟩ ∧ RowKit.Below w.heap.size w w' := by
  obtain ⟨⟨lv, h1⟩, h2, h3⟩ := h
  refine (CS.tells (B := 0) (K := fun _ => False) ⟨⟨lv, h1, fun g _ => ⟨Nat.zero_le _, id⟩⟩, h2, Nat.zero_le _, id⟩ h3).mono ?_
  rintro e w' ⟨lb, rfl, ht, hb⟩
  exact ⟨lb, rfl, ⟨.inl rfl, ht, h2⟩, hb⟩
theorem ItOk.below {w w' : World} {x : ItM} (h : ItOk w x) (k : RowKit.Below w.heap.size w w') : ItOk w' x := h.move k.size (fun i hi => k.block i hi)
def PsAt (w : World) (so : Option Addr) (ps : List (Nat × List CellM)) : Prop :=
  ∀ i p, ps[i]? = some p → CP w p ∧ ∃ g o, so = some ⟨g, o, none⟩ ∧ g < w.heap.size ∧ w.cell? ⟨g, o + i, none⟩ = some (.pointer (some ⟨p.1, 0, none⟩))
theorem PsAt.below {w w' : World} {so : Option Addr} {ps : List (Nat × List CellM)} (h : PsAt w so ps) (k : RowKit.Below w.heap.size w w') : PsAt w' so ps := fun i p hp => by
  obtain ⟨h1, g, o, e, hg, hc⟩ := h i p hp
  exact ⟨h1.below k, g, o, e, Nat.lt_of_lt_of_le hg k.size, by rw [cell_block (k.block _ hg)]; exact hc⟩
theorem mergeM_len : ∀ (ls : List (List CellM)), (mergeM ls).length ≤ ls.flatten.length := by
  intro ls
  induction ls with
  | nil => simp [mergeM]
  | cons l ls ih =>
    have : mergeM (l :: ls) = l.foldl layM (mergeM ls) := rfl
    rw [this]
    have := fold_len (mergeM ls) l
    simp only [List.flatten_cons, List.length_append]
    omega
/-- Merge of a row just made. -/
theorem merge_row {w : World} (its : List (Option ItM)) (hn : its.length ≤ 1048576) (hits : ∀ x, some x ∈ its → ItOk w x) (hM : (its.map itL).flatten.length ≤ 1099511627776) :
    Calls Try.prog 42 #[.slice (some ⟨w.heap.size, 0, none⟩) its.length its.length] (w.alloc (.cells (its.map itV).toArray 46)) fun e w' => ∃ lb, e = .returned (.func (.func 49) #[] lb) ∧ ItOk w' ⟨49, lb, mergeM (its.map itL)⟩ ∧ RowKit.Below w.heap.size w w' := by
  have hB : RowKit.Below w.heap.size w (w.alloc (.cells (its.map itV).toArray 46)) := (Below.refl _ w).alloc (Nat.le_refl _) _
  have hq : SQ (w.alloc (.cells (its.map itV).toArray 46)) (.slice (some ⟨w.heap.size, 0, none⟩) its.length its.length) its :=
    ⟨by simp, Or.inr ⟨_, _, _, rfl, Go.heap_alloc_new _ _, Nat.le_refl _, by simp only [maxLen]; omega, by simp, by simp [List.take_of_length_le]⟩⟩
  have hl := mergeM_len (its.map itL)
  refine (merge_any hq hn (fun x hx => (hits x hx).below hB) (by omega)).mono ?_
  rintro e w' ⟨lb, rfl, ht, hb⟩
  exact ⟨lb, rfl, ⟨.inr rfl, ht, mergeM_ord _⟩, hB.trans (hb.mono hB.size)⟩
def MergedPost (w : World) (Ms : List (List CellM)) (e : Ending) (w' : World) : Prop := ∃ lb, e = .returned (.func (.func 49) #[] lb) ∧ ItOk w' ⟨49, lb, mergeM Ms⟩ ∧ RowKit.Below w.heap.size w w'
set_option maxRecDepth 100000 in
set_option maxHeartbeats 1000000 in
theorem merged0 (w : World) (so : Option Addr) (cap : Nat) : Calls Try.prog 26 #[.slice so 0 cap] w fun e w' => MergedPost w [] e w' := by
  have hq : SQ w (.slice none 0 0) [] := sl_nil _ _ _
  have M := merge_any hq (by simp) (fun x hx => by simp at hx) (by simp [mergeM])
  clear hq
  go_enter Try.func26, Try.ntmps26
  go_wp2_with fail
  refine M.mono ?_
  rintro e w2 ⟨lb, rfl, ht, hb⟩
  have HQ := Lib.hid (And.intro ht hb)
  clear ht hb M
  go_wp2
  go_ret
  exact ⟨lb, rfl, ⟨.inr rfl, HQ.out.1, mergeM_ord _⟩, HQ.out.2⟩
set_option maxRecDepth 100000 in
set_option maxHeartbeats 1000000 in
theorem merged1 {w : World} {so : Option Addr} {cap : Nat} {p : Nat × List CellM} (h : PsAt w so [p]) (hl : p.2.length ≤ 1099511627776) : Calls Try.prog 26 #[.slice so 1 cap] w fun e w' => MergedPost w [p.2] e w' := by
  obtain ⟨hp, g, o, e, hg, hc⟩ := h 0 p rfl
  subst e
  simp only [Nat.add_zero] at hc
  have T := hp.tells
  have HL := Lib.hid hl
  clear h hp hl
  go_enter Try.func26, Try.ntmps26
  go_wp2_with fail
  refine T.mono ?_
  rintro e w2 ⟨lb, rfl, ht, hb⟩
  have M : Calls Try.prog 42 #[.slice (some ⟨w2.heap.size, 0, none⟩) 1 1] (w2.alloc (.cells #[.func (.func 41) #[] lb] 46)) _ := merge_row (w := w2) [some ⟨41, lb, p.2⟩] (by simp) (fun x hx => by simp at hx; subst hx; exact ht) (by simpa [itL] using HL.out)
  have HB := Lib.hid hb
  clear ht hb T hc
  go_wp2_with fail
  refine M.mono ?_
  rintro e w3 ⟨lb2, rfl, ht, hb⟩
  have HQ := Lib.hid (And.intro ht hb)
  clear ht hb M
  go_wp2
  go_ret
  exact ⟨lb2, rfl, HQ.out.1, HB.out.trans (HQ.out.2.mono HB.out.size)⟩
set_option maxRecDepth 100000 in
set_option maxHeartbeats 4000000 in
theorem merged2 {w : World} {so : Option Addr} {cap : Nat} {p q : Nat × List CellM} (h : PsAt w so [p, q]) (hl : p.2.length + q.2.length ≤ 1099511627776) : Calls Try.prog 26 #[.slice so 2 cap] w fun e w' => MergedPost w [p.2, q.2] e w' := by
  obtain ⟨hp, g, o, e0, hg0, c0⟩ := h 0 p rfl
  obtain ⟨hq, g1, o1, e1, hg1, c1⟩ := h 1 q rfl
  subst e0
  cases e1
  simp only [Nat.add_zero] at c0
  have T := Lib.hid (fun (u : World) (e : u.heap = w.heap) => (show CP u p from by
    obtain ⟨⟨lv, h1⟩, h2⟩ := hp
    exact ⟨⟨lv, by rw [e]; exact h1.blk, sl.stay h1.has (fun g _ => by rw [e]), h1.apart⟩, h2⟩).tells)
  have HG := Lib.hid hg0
  have HQ1 := Lib.hid (fun w' (k : RowKit.Below w.heap.size w w') => (hq.below k).tells)
  have HM := Lib.hid (fun (u : World) (lb0 lb1 : Array Value) (h0 : ItOk u ⟨41, lb0, p.2⟩) (h1 : ItOk u ⟨41, lb1, q.2⟩) =>
    (merge_row (w := u) [some ⟨41, lb0, p.2⟩, none, some ⟨41, lb1, q.2⟩] (by simp) (fun x hx => by
      simp at hx
      rcases hx with rfl | rfl
      · exact h0
      · exact h1
      ) (by simp [itL]; omega) :
      Calls Try.prog 42 #[.slice (some ⟨u.heap.size, 0, none⟩) 3 3] (u.alloc (.cells #[.func (.func 41) #[] lb0, .nilFunc, .func (.func 41) #[] lb1] 46)) _))
  clear h hl hp hq hg0 hg1
  go_enter Try.func26, Try.ntmps26
  go_wp2_with fail
  go_region_held3 (fun v => v.cell? ⟨g, o, none⟩ = some (.pointer (some ⟨p.1, 0, none⟩)) ∧ v.cell? ⟨g, o + 1, none⟩ = some (.pointer (some ⟨q.1, 0, none⟩)))
    (first | (refine ⟨?_, ?_⟩ <;> with_reducible assumption) | (refine ⟨?_, ?_⟩ <;> (rw [World.cell?_alloc_lt _ _ _ _ (by have := HG.out; have := HB1.out.size; simp at *; omega)]; with_reducible assumption)) | go_keep)
    (first
      | (go_at_call 23; refine (T.out w.drew rfl).mono ?_; rintro e w1 ⟨lb0, rfl, t0, b0'⟩; have HB0 := Lib.hid (show RowKit.Below w.heap.size w w1 from ⟨b0'.os, b0'.tape, b0'.output, b0'.size, b0'.block⟩); have HT0 := Lib.hid t0; have T1 := HQ1.out _ HB0.out; have k00 := (HB0.out.cell (p := ⟨g, o, none⟩) HG.out).trans c0; have k01 := (HB0.out.cell (p := ⟨g, o + 1, none⟩) HG.out).trans c1; clear t0 b0')
      | (go_at_call 23; refine T1.mono ?_; rintro e w2 ⟨lb1, rfl, t1, b1⟩; have HB1 := Lib.hid (HB0.out.trans (b1.mono HB0.out.size)); have HT1 := Lib.hid (And.intro (HT0.out.below b1) t1); have k10 := (HB1.out.cell (p := ⟨g, o, none⟩) HG.out).trans c0; have k11 := (HB1.out.cell (p := ⟨g, o + 1, none⟩) HG.out).trans c1; have M := HM.out w2 lb0 lb1 HT1.out.1 HT1.out.2; clear t1 b1)
      | (go_at_call 42; refine M.mono ?_; rintro e w9 ⟨lb9, rfl, t9, b9⟩; have HT9 := Lib.hid t9; have HB9 := Lib.hid (HB1.out.trans (b9.mono HB1.out.size)); have n0 := (HB9.out.cell (p := ⟨g, o, none⟩) HG.out).trans c0; have n1 := (HB9.out.cell (p := ⟨g, o + 1, none⟩) HG.out).trans c1; clear t9 b9))
  all_goals
    go_wp2
    go_ret
    have ht := HT9.out
    have heq : mergeM [p.2, [], q.2] = mergeM [p.2, q.2] := (show mergeM ([p.2] ++ [] :: [q.2]) = mergeM ([p.2] ++ [q.2]) from mergeM_skip)
    exact ⟨lb9, rfl, by rw [← heq]; exact ht, HB9.out⟩
set_option maxRecDepth 100000 in
set_option maxHeartbeats 4000000 in
theorem merged3 {w : World} {so : Option Addr} {cap : Nat} {p q r : Nat × List CellM} (h : PsAt w so [p, q, r]) (hl : p.2.length + q.2.length + r.2.length ≤ 1099511627776) : Calls Try.prog 26 #[.slice so 3 cap] w fun e w' => MergedPost w [p.2, q.2, r.2] e w' := by
  obtain ⟨hp, g, o, e0, hg0, c0⟩ := h 0 p rfl
  obtain ⟨hq, g1, o1, e1, hg1, c1⟩ := h 1 q rfl
  obtain ⟨hr, g2, o2, e2, hg2, c2⟩ := h 2 r rfl
  subst e0
  cases e1
  cases e2
  simp only [Nat.add_zero] at c0
  have T := Lib.hid (fun (u : World) (e : u.heap = w.heap) => (show CP u p from by
    obtain ⟨⟨lv, h1⟩, h2⟩ := hp
    exact ⟨⟨lv, by rw [e]; exact h1.blk, sl.stay h1.has (fun g _ => by rw [e]), h1.apart⟩, h2⟩).tells)
  have HG := Lib.hid hg0
  have HQ1 := Lib.hid (fun w' (k : RowKit.Below w.heap.size w w') => (hq.below k).tells)
  have HQ2 := Lib.hid (fun w' (k : RowKit.Below w.heap.size w w') => (hr.below k).tells)
  have HM := Lib.hid (fun (u : World) (lb0 lb1 lb2 : Array Value) (h0 : ItOk u ⟨41, lb0, p.2⟩) (h1 : ItOk u ⟨41, lb1, q.2⟩) (h2 : ItOk u ⟨41, lb2, r.2⟩) =>
    (merge_row (w := u) [some ⟨41, lb0, p.2⟩, some ⟨41, lb1, q.2⟩, some ⟨41, lb2, r.2⟩] (by simp) (fun x hx => by
      simp at hx
      rcases hx with rfl | rfl | rfl
      · exact h0
      · exact h1
      · exact h2
      ) (by simp [itL]; omega) :
      Calls Try.prog 42 #[.slice (some ⟨u.heap.size, 0, none⟩) 3 3] (u.alloc (.cells #[.func (.func 41) #[] lb0, .func (.func 41) #[] lb1, .func (.func 41) #[] lb2] 46)) _))
  clear h hl hp hq hr hg0 hg1 hg2
  go_enter Try.func26, Try.ntmps26
  go_wp2_with fail
  go_region_held3 (fun v => v.cell? ⟨g, o, none⟩ = some (.pointer (some ⟨p.1, 0, none⟩)) ∧ v.cell? ⟨g, o + 1, none⟩ = some (.pointer (some ⟨q.1, 0, none⟩)) ∧ v.cell? ⟨g, o + 2, none⟩ = some (.pointer (some ⟨r.1, 0, none⟩)))
    (first | (refine ⟨?_, ?_, ?_⟩ <;> with_reducible assumption) | (refine ⟨?_, ?_, ?_⟩ <;> (rw [World.cell?_alloc_lt _ _ _ _ (by have := HG.out; have := HB2.out.size; simp at *; omega)]; with_reducible assumption)) | go_keep)
    (first
      | (go_at_call 23; refine (T.out w.drew rfl).mono ?_; rintro e w1 ⟨lb0, rfl, t0, b0'⟩; have HB0 := Lib.hid (show RowKit.Below w.heap.size w w1 from ⟨b0'.os, b0'.tape, b0'.output, b0'.size, b0'.block⟩); have HT0 := Lib.hid t0; have T1 := HQ1.out _ HB0.out; have k00 := (HB0.out.cell (p := ⟨g, o, none⟩) HG.out).trans c0; have k01 := (HB0.out.cell (p := ⟨g, o + 1, none⟩) HG.out).trans c1; have k02 := (HB0.out.cell (p := ⟨g, o + 2, none⟩) HG.out).trans c2; clear t0 b0')
      | (go_at_call 23; refine T1.mono ?_; rintro e w2 ⟨lb1, rfl, t1, b1⟩; have HB1 := Lib.hid (HB0.out.trans (b1.mono HB0.out.size)); have HT1 := Lib.hid (And.intro (HT0.out.below b1) t1); have T2 := HQ2.out _ HB1.out; have k10 := (HB1.out.cell (p := ⟨g, o, none⟩) HG.out).trans c0; have k11 := (HB1.out.cell (p := ⟨g, o + 1, none⟩) HG.out).trans c1; have k12 := (HB1.out.cell (p := ⟨g, o + 2, none⟩) HG.out).trans c2; clear t1 b1)
      | (go_at_call 23; refine T2.mono ?_; rintro e w3 ⟨lb2, rfl, t2, b2⟩; have HB2 := Lib.hid (HB1.out.trans (b2.mono HB1.out.size)); have HT2 := Lib.hid (And.intro (HT1.out.1.below b2) (And.intro (HT1.out.2.below b2) t2)); have k20 := (HB2.out.cell (p := ⟨g, o, none⟩) HG.out).trans c0; have k21 := (HB2.out.cell (p := ⟨g, o + 1, none⟩) HG.out).trans c1; have k22 := (HB2.out.cell (p := ⟨g, o + 2, none⟩) HG.out).trans c2; have M := HM.out w3 lb0 lb1 lb2 HT2.out.1 HT2.out.2.1 HT2.out.2.2; clear t2 b2)
      | (go_at_call 42; refine M.mono ?_; rintro e w9 ⟨lb9, rfl, t9, b9⟩; have HT9 := Lib.hid t9; have HB9 := Lib.hid (HB2.out.trans (b9.mono HB2.out.size)); have n0 := (HB9.out.cell (p := ⟨g, o, none⟩) HG.out).trans c0; have n1 := (HB9.out.cell (p := ⟨g, o + 1, none⟩) HG.out).trans c1; have n2 := (HB9.out.cell (p := ⟨g, o + 2, none⟩) HG.out).trans c2; clear t9 b9))
  all_goals
    go_wp2
    go_ret
    have ht := HT9.out
    have heq : mergeM [p.2, q.2, r.2] = mergeM [p.2, q.2, r.2] := rfl
    exact ⟨lb9, rfl, by rw [← heq]; exact ht, HB9.out⟩
end Go.Proofs.Ytnhookblhckmlaa
