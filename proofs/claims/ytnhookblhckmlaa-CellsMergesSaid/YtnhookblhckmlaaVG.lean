/- Walks: merged of more than three. -/
import Derived.Test.YtnhookblhckmlaaVF
namespace Go.Proofs.Ytnhookblhckmlaa
set_option linter.unusedVariables false
set_option linter.unusedSimpArgs false
open Go.RowKit Mk Go.Sort

set_option maxRecDepth 100000 in
set_option maxHeartbeats 4000000 in
theorem mergedN {w : World} {so : Option Addr} {cap m : Nat} {p q r : Nat × List CellM} {s : List (Nat × List CellM)} (hs : s.length = m - 3) (h4 : 4 ≤ m) (h : PsAt w so (p :: q :: r :: s)) (hcap : m ≤ cap) (hcm : cap ≤ maxLen) (hm : m ≤ 1048576) (hl : p.2.length + q.2.length + r.2.length + (s.map (·.2)).flatten.length ≤ 1099511627776)
    (IH : ∀ (u : World) (o' : Option Addr), PsAt u o' s → Calls Try.prog 26 #[.slice o' (m - 3) (cap - 3)] u fun e w' => MergedPost u (s.map (·.2)) e w') :
    Calls Try.prog 26 #[.slice so m cap] w fun e w' => MergedPost w (p.2 :: q.2 :: r.2 :: s.map (·.2)) e w' := by
  obtain ⟨hp, g, o, e0, hg0, c0⟩ := h 0 p rfl
  obtain ⟨hq, g1, o1, e1, hg1, c1⟩ := h 1 q rfl
  obtain ⟨hr, g2, o2, e2, hg2, c2⟩ := h 2 r rfl
  subst e0
  cases e1
  cases e2
  simp only [Nat.add_zero] at c0
  have T := Lib.hid (fun (u : World) (e : u.heap = w.heap) => (show CP u p from by
    obtain ⟨⟨lv, h1⟩, h2⟩ := hp
    exact ⟨⟨lv, by rw [e]; exact h1.blk, sl.stay h1.has (fun g _ => by rw [e]), h1.apart⟩, h2⟩).tells)
  have HG := Lib.hid hg0
  have HQ1 := Lib.hid (fun w' (k : RowKit.Below w.heap.size w w') => (hq.below k).tells)
  have HQ2 := Lib.hid (fun w' (k : RowKit.Below w.heap.size w w') => (hr.below k).tells)
  have HM := Lib.hid (fun (u : World) (lb0 lb1 lb2 lb3 : Array Value) (h0 : ItOk u ⟨41, lb0, p.2⟩) (h1 : ItOk u ⟨41, lb1, q.2⟩) (h2 : ItOk u ⟨41, lb2, r.2⟩) (h3 : ItOk u ⟨49, lb3, mergeM (s.map (·.2))⟩) =>
    (merge_row (w := u) [some ⟨41, lb0, p.2⟩, some ⟨41, lb1, q.2⟩, some ⟨41, lb2, r.2⟩, some ⟨49, lb3, mergeM (s.map (·.2))⟩] (by simp) (fun x hx => by
      simp at hx
      rcases hx with rfl | rfl | rfl | rfl
      · exact h0
      · exact h1
      · exact h2
      · exact h3
      ) (by have := mergeM_len (s.map (·.2)); simp [itL]; omega) :
      Calls Try.prog 42 #[.slice (some ⟨u.heap.size, 0, none⟩) 4 4] (u.alloc (.cells #[.func (.func 41) #[] lb0, .func (.func 41) #[] lb1, .func (.func 41) #[] lb2, .func (.func 49) #[] lb3] 46)) _))
  have HS := Lib.hid (fun (u : World) (k : RowKit.Below w.heap.size w u) => (show PsAt u (some ⟨g, o + 3, none⟩) s from fun i x hx => by
    obtain ⟨h1, g', o', e, hg', hc⟩ := h (i + 3) x (by simpa using hx)
    cases e
    exact ⟨h1.below k, g, o + 3, rfl, Nat.lt_of_lt_of_le hg' k.size, by rw [cell_block (k.block _ hg'), Nat.add_assoc, Nat.add_comm 3 i]; exact hc⟩))
  have HIH := Lib.hid (fun (u : World) (k : RowKit.Below w.heap.size w u) => IH u (some ⟨g, o + 3, none⟩) (HS.out u k))
  have HSL := Lib.hid hs
  simp only [maxLen] at hcm
  have i1 : (3 : Int) ≤ (m : Int) := by omega
  have i2 : (m : Int) ≤ cap := by omega
  have i3 : ¬ (cap = 3) := by omega
  have i4 : ¬ (cap - 3 = 0) := by omega
  have i5 : (0 : Int) < (m : Int) := by omega
  have i6 : (1 : Int) < (m : Int) := by omega
  have i7 : (2 : Int) < (m : Int) := by omega
  have i8 : (3 : Int) ≤ cap := by omega
  have i9 : 0 < m := by omega
  have q0 : ((m : Int) == 0) = false := by simp; omega
  have q1 : ((m : Int) == 1) = false := by simp; omega
  have q2 : ((m : Int) == 2) = false := by simp; omega
  have q3 : ((m : Int) == 3) = false := by simp; omega
  clear IH hs
  have HOA := Lib.hid (show ∀ l ∈ [p.2, q.2, r.2], Ord l from fun l hl => by
    simp at hl
    rcases hl with rfl | rfl | rfl
    · exact hp.2.1
    · exact hq.2.1
    · exact hr.2.1)
  have HOB := Lib.hid (show ∀ l ∈ s.map (·.2), Ord l from fun l hl => by
    obtain ⟨x, hx, rfl⟩ := List.mem_map.1 hl
    obtain ⟨i, hi⟩ := List.getElem?_of_mem hx
    exact (h (i + 3) x (by simpa using hi)).1.2.1)
  clear h hl hp hq hr hg0 hg1 hg2
  go_enter Try.func26, Try.ntmps26
  go_wp2_with fail
  go_region_held3 (fun v => v.cell? ⟨g, o, none⟩ = some (.pointer (some ⟨p.1, 0, none⟩)) ∧ v.cell? ⟨g, o + 1, none⟩ = some (.pointer (some ⟨q.1, 0, none⟩)) ∧ v.cell? ⟨g, o + 2, none⟩ = some (.pointer (some ⟨r.1, 0, none⟩)))
    (first | (refine ⟨?_, ?_, ?_⟩ <;> with_reducible assumption) | (refine ⟨?_, ?_, ?_⟩ <;> (rw [World.cell?_alloc_lt _ _ _ _ (by have := HG.out; have := HB3.out.size; simp at *; omega)]; with_reducible assumption)) | go_keep)
    (first
      | (go_at_call 23; refine (T.out w.drew rfl).mono ?_; rintro e w1 ⟨lb0, rfl, t0, b0'⟩; have HB0 := Lib.hid (show RowKit.Below w.heap.size w w1 from ⟨b0'.os, b0'.tape, b0'.output, b0'.size, b0'.block⟩); have HT0 := Lib.hid t0; have T1 := HQ1.out _ HB0.out; have k00 := (HB0.out.cell (p := ⟨g, o, none⟩) HG.out).trans c0; have k01 := (HB0.out.cell (p := ⟨g, o + 1, none⟩) HG.out).trans c1; have k02 := (HB0.out.cell (p := ⟨g, o + 2, none⟩) HG.out).trans c2; clear t0 b0')
      | (go_at_call 23; refine T1.mono ?_; rintro e w2 ⟨lb1, rfl, t1, b1⟩; have HB1 := Lib.hid (HB0.out.trans (b1.mono HB0.out.size)); have HT1 := Lib.hid (And.intro (HT0.out.below b1) t1); have T2 := HQ2.out _ HB1.out; have k10 := (HB1.out.cell (p := ⟨g, o, none⟩) HG.out).trans c0; have k11 := (HB1.out.cell (p := ⟨g, o + 1, none⟩) HG.out).trans c1; have k12 := (HB1.out.cell (p := ⟨g, o + 2, none⟩) HG.out).trans c2; clear t1 b1)
      | (go_at_call 23; refine T2.mono ?_; rintro e w3 ⟨lb2, rfl, t2, b2⟩; have HB2 := Lib.hid (HB1.out.trans (b2.mono HB1.out.size)); have HT2 := Lib.hid (And.intro (HT1.out.1.below b2) (And.intro (HT1.out.2.below b2) t2)); have k20 := (HB2.out.cell (p := ⟨g, o, none⟩) HG.out).trans c0; have k21 := (HB2.out.cell (p := ⟨g, o + 1, none⟩) HG.out).trans c1; have k22 := (HB2.out.cell (p := ⟨g, o + 2, none⟩) HG.out).trans c2; have T3 := HIH.out _ HB2.out; clear t2 b2)
      | (go_at_call 26; refine T3.mono ?_; rintro e w4 ⟨lb3, rfl, t3, b3⟩; have HB3 := Lib.hid (HB2.out.trans (b3.mono HB2.out.size)); have M := HM.out w4 lb0 lb1 lb2 lb3 (HT2.out.1.below b3) (HT2.out.2.1.below b3) (HT2.out.2.2.below b3) t3; have k30 := (HB3.out.cell (p := ⟨g, o, none⟩) HG.out).trans c0; have k31 := (HB3.out.cell (p := ⟨g, o + 1, none⟩) HG.out).trans c1; have k32 := (HB3.out.cell (p := ⟨g, o + 2, none⟩) HG.out).trans c2; clear t3 b3)
      | (go_at_call 42; refine M.mono ?_; rintro e w9 ⟨lb9, rfl, t9, b9⟩; have HT9 := Lib.hid t9; have HB9 := Lib.hid (HB3.out.trans (b9.mono HB3.out.size)); have n0 := (HB9.out.cell (p := ⟨g, o, none⟩) HG.out).trans c0; have n1 := (HB9.out.cell (p := ⟨g, o + 1, none⟩) HG.out).trans c1; have n2 := (HB9.out.cell (p := ⟨g, o + 2, none⟩) HG.out).trans c2; clear t9 b9))
  all_goals
    go_wp2
    go_ret
    have ht := HT9.out
    have heq : mergeM [p.2, q.2, r.2, mergeM (s.map (·.2))] = mergeM (p.2 :: q.2 :: r.2 :: s.map (·.2)) := (mergeM_nest (A := [p.2, q.2, r.2]) (B := s.map (fun x : Nat × List CellM => x.2)) HOA.out HOB.out)
    exact ⟨lb9, rfl, by rw [← heq]; exact ht, HB9.out⟩
theorem merged_any : ∀ (n : Nat) {ps : List (Nat × List CellM)}, ps.length = n → n ≤ 1048576 → ∀ {w : World} {so : Option Addr} {cap : Nat}, PsAt w so ps → n ≤ cap → cap ≤ maxLen → (ps.map (·.2)).flatten.length ≤ 1099511627776 →
    Calls Try.prog 26 #[.slice so n cap] w fun e w' => MergedPost w (ps.map (·.2)) e w' := by
  intro n
  induction n using Nat.strongRecOn with
  | ind n ih =>
    intro ps hn hn2 w so cap h hc hcm hl
    match ps, hn with
    | [], hn => subst hn; exact merged0 w so cap
    | [p], hn => subst hn; exact merged1 h (by simpa using hl)
    | [p, q], hn => subst hn; exact merged2 h (by simpa using hl)
    | [p, q, r], hn => subst hn; exact merged3 h (by simp at hl; omega)
    | p :: q :: r :: x :: s, hn =>
      have hm : n = s.length + 4 := by rw [← hn]; simp
      exact mergedN (s := x :: s) (by simp; omega) (by omega) h hc hcm (by omega) (by simp at hl ⊢; omega) (fun u o' hu => ih (n - 3) (by omega) (by simp; omega) (by omega) hu (by omega) (by omega) (by simp at hl ⊢; omega))
end Go.Proofs.Ytnhookblhckmlaa
