/- Walks: Swap of heads. -/
import Derived.Test.YtnhookblhckmlaaV3
import Derived.RegionTactic
import Derived.BigRegion
import Derived.ChangeAlike
namespace Go.Proofs.Ytnhookblhckmlaa
set_option linter.unusedVariables false
set_option linter.unusedSimpArgs false
open Go.RowKit Mk Go.Sort

/-- A head laid at place p of block g. -/
@[reducible] def set6 (w : World) (g p : Nat) (x : HdM) : World :=
  (((((w.setCell ⟨g, p, none⟩ (.string x.c.key)).setCell ⟨g, p + 1, none⟩ (.int .u64 x.c.time)).setCell ⟨g, p + 2, none⟩ (.bool x.c.del)).setCell ⟨g, p + 3, none⟩ (.string x.c.val)).setCell ⟨g, p + 4, none⟩ (.int .i64 x.fr)).setCell ⟨g, p + 5, none⟩ (.func (.func 56) #[] #[.pointer (some ⟨x.nb, 0, none⟩)])
theorem set6_list (L : List HdM) (i : Nat) (x : HdM) : ((((((hdsL L).set (i * 6) (.string x.c.key)).set (i * 6 + 1) (.int .u64 x.c.time)).set (i * 6 + 2) (.bool x.c.del)).set (i * 6 + 3) (.string x.c.val)).set (i * 6 + 4) (.int .i64 x.fr)).set (i * 6 + 5) (.func (.func 56) #[] #[.pointer (some ⟨x.nb, 0, none⟩)]) = hdsL (L.set i x) := by
  induction L generalizing i with
  | nil => simp [hdsL]
  | cons c L ih =>
    cases i with
    | zero => simp [hdsL, hdL]
    | succ i =>
      have := ih i
      simp only [hdsL, List.flatMap_cons, List.set_cons_succ] at *
      rw [← this]
      have e : (i + 1) * 6 = i * 6 + 6 := by omega
      simp [hdL, e]
theorem set6_HB {w : World} {g n cap : Nat} {H : List HdM} (h : HB w (.slice (some ⟨g, 0, none⟩) n cap) H) (i : Nat) (x : HdM) : HB (set6 w g (i * 6) x) (.slice (some ⟨g, 0, none⟩) n cap) (H.set i x) := by
  rcases h.2 with ⟨e, e0⟩ | ⟨g', cap', cur, e, hg, hnc, hcm, hcs, ht⟩
  · cases e
  · cases e
    have h4 := Mk.heap_setCell_same (Mk.heap_setCell_same (Mk.heap_setCell_same (Mk.heap_setCell_same (Mk.heap_setCell_same (Mk.heap_setCell_same (i := i * 6) hg (.string x.c.key)) (i := i * 6 + 1) (.int .u64 x.c.time)) (i := i * 6 + 2) (.bool x.c.del)) (i := i * 6 + 3) (.string x.c.val)) (i := i * 6 + 4) (.int .i64 x.fr)) (i := i * 6 + 5) (.func (.func 56) #[] #[.pointer (some ⟨x.nb, 0, none⟩)])
    refine ⟨by rw [hdsL_len], Or.inr ⟨g, cap, _, by rw [List.length_set], h4, by rw [List.length_set]; omega, hcm, by simpa using hcs, ?_⟩⟩
    rw [List.length_set, ← set6_list]
    simp only [Array.toList_setIfInBounds, List.take_set, ht]
theorem set6_chg {F : Nat → Prop} {w w1 : World} {g : Nat} (h : Chg F w w1) (hF : F g) (p : Nat) (x : HdM) : Chg F w (set6 w1 g p x) :=
  (((((h.setCell (a := ⟨g, p, none⟩) (Or.inl hF) _).setCell (a := ⟨g, p + 1, none⟩) (Or.inl hF) _).setCell (a := ⟨g, p + 2, none⟩) (Or.inl hF) _).setCell (a := ⟨g, p + 3, none⟩) (Or.inl hF) _).setCell (a := ⟨g, p + 4, none⟩) (Or.inl hF) _).setCell (a := ⟨g, p + 5, none⟩) (Or.inl hF) _
theorem HB.drew {w : World} {v : Value} {H : List HdM} (h : HB w v H) : HB w.drew v H := sl.stay h (fun _ _ => rfl)
theorem swp_of {H : List HdM} {i k : Nat} {a b : HdM} (ha : H[i]? = some a) (hb : H[k]? = some b) : swp H i k = (H.set i b).set k a := by unfold swp; rw [ha, hb]

set_option maxRecDepth 100000 in
set_option maxHeartbeats 8000000 in
theorem hswap_ne {w : World} {v : Value} {H : List HdM} (h : HB w v H) {i k : Nat} {a b : HdM} (ha : H[i]? = some a) (hb : H[k]? = some b) (hik : i ≠ k) (hl : H.length ≤ 1099511627776) :
    Calls Try.prog 80 #[v, .int .i64 i, .int .i64 k] w fun e w' => e = .returned (.tuple #[]) ∧ HB w' v (swp H i k) ∧ Chg (fun x => v.ownBlock = some x) w w' := by
  obtain ⟨g, cap, rfl, hg, c0, c1, c2, c3, c4, c5⟩ := h.cells ha
  obtain ⟨g', cap', e, hg', d0, d1, d2, d3, d4, d5⟩ := h.cells hb
  cases e
  have hi := (List.getElem?_eq_some_iff.1 ha).1
  have hk := (List.getElem?_eq_some_iff.1 hb).1
  have hf : ∀ q, w.frozen? ⟨g, q, none⟩ = false := fun q => by
    rcases h.2 with ⟨e, _⟩ | ⟨g2, c2, cur, e, hh, _⟩
    · cases e
    · cases e; exact frozen_of hh
  have f0 : w.frozen? ⟨g, i * 6, none⟩ = false := hf _
  have e0 : w.frozen? ⟨g, k * 6, none⟩ = false := hf _
  have f1 : w.frozen? ⟨g, i * 6 + 1, none⟩ = false := hf _
  have e1 : w.frozen? ⟨g, k * 6 + 1, none⟩ = false := hf _
  have f2 : w.frozen? ⟨g, i * 6 + 2, none⟩ = false := hf _
  have e2 : w.frozen? ⟨g, k * 6 + 2, none⟩ = false := hf _
  have f3 : w.frozen? ⟨g, i * 6 + 3, none⟩ = false := hf _
  have e3 : w.frozen? ⟨g, k * 6 + 3, none⟩ = false := hf _
  have f4 : w.frozen? ⟨g, i * 6 + 4, none⟩ = false := hf _
  have e4 : w.frozen? ⟨g, k * 6 + 4, none⟩ = false := hf _
  have f5 : w.frozen? ⟨g, i * 6 + 5, none⟩ = false := hf _
  have e5 : w.frozen? ⟨g, k * 6 + 5, none⟩ = false := hf _
  have n00 : ¬ (i * 6 = k * 6) := by omega
  have m00 : ¬ (k * 6 = i * 6) := by omega
  have n01 : ¬ (i * 6 = k * 6 + 1) := by omega
  have m01 : ¬ (k * 6 = i * 6 + 1) := by omega
  have n02 : ¬ (i * 6 = k * 6 + 2) := by omega
  have m02 : ¬ (k * 6 = i * 6 + 2) := by omega
  have n03 : ¬ (i * 6 = k * 6 + 3) := by omega
  have m03 : ¬ (k * 6 = i * 6 + 3) := by omega
  have n04 : ¬ (i * 6 = k * 6 + 4) := by omega
  have m04 : ¬ (k * 6 = i * 6 + 4) := by omega
  have n05 : ¬ (i * 6 = k * 6 + 5) := by omega
  have m05 : ¬ (k * 6 = i * 6 + 5) := by omega
  have n10 : ¬ (i * 6 + 1 = k * 6) := by omega
  have m10 : ¬ (k * 6 + 1 = i * 6) := by omega
  have n11 : ¬ (i * 6 + 1 = k * 6 + 1) := by omega
  have m11 : ¬ (k * 6 + 1 = i * 6 + 1) := by omega
  have n12 : ¬ (i * 6 + 1 = k * 6 + 2) := by omega
  have m12 : ¬ (k * 6 + 1 = i * 6 + 2) := by omega
  have n13 : ¬ (i * 6 + 1 = k * 6 + 3) := by omega
  have m13 : ¬ (k * 6 + 1 = i * 6 + 3) := by omega
  have n14 : ¬ (i * 6 + 1 = k * 6 + 4) := by omega
  have m14 : ¬ (k * 6 + 1 = i * 6 + 4) := by omega
  have n15 : ¬ (i * 6 + 1 = k * 6 + 5) := by omega
  have m15 : ¬ (k * 6 + 1 = i * 6 + 5) := by omega
  have n20 : ¬ (i * 6 + 2 = k * 6) := by omega
  have m20 : ¬ (k * 6 + 2 = i * 6) := by omega
  have n21 : ¬ (i * 6 + 2 = k * 6 + 1) := by omega
  have m21 : ¬ (k * 6 + 2 = i * 6 + 1) := by omega
  have n22 : ¬ (i * 6 + 2 = k * 6 + 2) := by omega
  have m22 : ¬ (k * 6 + 2 = i * 6 + 2) := by omega
  have n23 : ¬ (i * 6 + 2 = k * 6 + 3) := by omega
  have m23 : ¬ (k * 6 + 2 = i * 6 + 3) := by omega
  have n24 : ¬ (i * 6 + 2 = k * 6 + 4) := by omega
  have m24 : ¬ (k * 6 + 2 = i * 6 + 4) := by omega
  have n25 : ¬ (i * 6 + 2 = k * 6 + 5) := by omega
  have m25 : ¬ (k * 6 + 2 = i * 6 + 5) := by omega
  have n30 : ¬ (i * 6 + 3 = k * 6) := by omega
  have m30 : ¬ (k * 6 + 3 = i * 6) := by omega
  have n31 : ¬ (i * 6 + 3 = k * 6 + 1) := by omega
  have m31 : ¬ (k * 6 + 3 = i * 6 + 1) := by omega
  have n32 : ¬ (i * 6 + 3 = k * 6 + 2) := by omega
  have m32 : ¬ (k * 6 + 3 = i * 6 + 2) := by omega
  have n33 : ¬ (i * 6 + 3 = k * 6 + 3) := by omega
  have m33 : ¬ (k * 6 + 3 = i * 6 + 3) := by omega
  have n34 : ¬ (i * 6 + 3 = k * 6 + 4) := by omega
  have m34 : ¬ (k * 6 + 3 = i * 6 + 4) := by omega
  have n35 : ¬ (i * 6 + 3 = k * 6 + 5) := by omega
  have m35 : ¬ (k * 6 + 3 = i * 6 + 5) := by omega
  have n40 : ¬ (i * 6 + 4 = k * 6) := by omega
  have m40 : ¬ (k * 6 + 4 = i * 6) := by omega
  have n41 : ¬ (i * 6 + 4 = k * 6 + 1) := by omega
  have m41 : ¬ (k * 6 + 4 = i * 6 + 1) := by omega
  have n42 : ¬ (i * 6 + 4 = k * 6 + 2) := by omega
  have m42 : ¬ (k * 6 + 4 = i * 6 + 2) := by omega
  have n43 : ¬ (i * 6 + 4 = k * 6 + 3) := by omega
  have m43 : ¬ (k * 6 + 4 = i * 6 + 3) := by omega
  have n44 : ¬ (i * 6 + 4 = k * 6 + 4) := by omega
  have m44 : ¬ (k * 6 + 4 = i * 6 + 4) := by omega
  have n45 : ¬ (i * 6 + 4 = k * 6 + 5) := by omega
  have m45 : ¬ (k * 6 + 4 = i * 6 + 5) := by omega
  have n50 : ¬ (i * 6 + 5 = k * 6) := by omega
  have m50 : ¬ (k * 6 + 5 = i * 6) := by omega
  have n51 : ¬ (i * 6 + 5 = k * 6 + 1) := by omega
  have m51 : ¬ (k * 6 + 5 = i * 6 + 1) := by omega
  have n52 : ¬ (i * 6 + 5 = k * 6 + 2) := by omega
  have m52 : ¬ (k * 6 + 5 = i * 6 + 2) := by omega
  have n53 : ¬ (i * 6 + 5 = k * 6 + 3) := by omega
  have m53 : ¬ (k * 6 + 5 = i * 6 + 3) := by omega
  have n54 : ¬ (i * 6 + 5 = k * 6 + 4) := by omega
  have m54 : ¬ (k * 6 + 5 = i * 6 + 4) := by omega
  have n55 : ¬ (i * 6 + 5 = k * 6 + 5) := by omega
  have m55 : ¬ (k * 6 + 5 = i * 6 + 5) := by omega
  have l0 : (0 : Int) ≤ i := by omega
  have l1 : (i : Int) < H.length := by omega
  have l2 : (0 : Int) ≤ k := by omega
  have l3 : (k : Int) < H.length := by omega
  have HQ := Lib.hid (show HB (set6 (set6 w g (i * 6) b) g (k * 6) a) (.slice (some ⟨g, 0, none⟩) H.length cap) (swp H i k) ∧ Chg (fun x => (Value.slice (some ⟨g, 0, none⟩) H.length cap).ownBlock = some x) w (set6 (set6 w g (i * 6) b) g (k * 6) a) from
    ⟨by rw [swp_of ha hb]; exact set6_HB (set6_HB h i b) k a, set6_chg (F := fun x => (Value.slice (some ⟨g, 0, none⟩) H.length cap).ownBlock = some x) (set6_chg (F := fun x => (Value.slice (some ⟨g, 0, none⟩) H.length cap).ownBlock = some x) (Chg.refl _ w) rfl _ _) rfl _ _⟩)
  clear h ha hb hg hg' hi hk hf hik
  obtain ⟨⟨ak, at_, ad, av⟩, af, an⟩ := a
  obtain ⟨⟨bk, bt, bd, bv⟩, bf, bn⟩ := b
  simp only [set6] at c0 c1 c2 c3 c4 c5 d0 d1 d2 d3 d4 d5 HQ
  obtain ⟨n, hn⟩ : ∃ n, H.length = n := ⟨_, rfl⟩
  rw [hn] at l1 l3 HQ ⊢
  clear hn
  go_enter Try.func80, Try.ntmps80
  go_wp2_with fail
  go_region
  all_goals
    go_wp2
    go_end0
    have HQ1 := HQ.out
    exact ⟨rfl, HB.drew HQ1.1, Chg.drew HQ1.2⟩
set_option maxRecDepth 100000 in
set_option maxHeartbeats 8000000 in
theorem hswap_eq {w : World} {v : Value} {H : List HdM} (h : HB w v H) {i : Nat} {a : HdM} (ha : H[i]? = some a) (hl : H.length ≤ 1099511627776) :
    Calls Try.prog 80 #[v, .int .i64 i, .int .i64 i] w fun e w' => e = .returned (.tuple #[]) ∧ HB w' v (swp H i i) ∧ Chg (fun x => v.ownBlock = some x) w w' := by
  obtain ⟨g, cap, rfl, hg, c0, c1, c2, c3, c4, c5⟩ := h.cells ha
  have hi := (List.getElem?_eq_some_iff.1 ha).1
  have hf : ∀ q, w.frozen? ⟨g, q, none⟩ = false := fun q => by
    rcases h.2 with ⟨e, _⟩ | ⟨g2, c2, cur, e, hh, _⟩
    · cases e
    · cases e; exact frozen_of hh
  have f0 : w.frozen? ⟨g, i * 6, none⟩ = false := hf _
  have f1 : w.frozen? ⟨g, i * 6 + 1, none⟩ = false := hf _
  have f2 : w.frozen? ⟨g, i * 6 + 2, none⟩ = false := hf _
  have f3 : w.frozen? ⟨g, i * 6 + 3, none⟩ = false := hf _
  have f4 : w.frozen? ⟨g, i * 6 + 4, none⟩ = false := hf _
  have f5 : w.frozen? ⟨g, i * 6 + 5, none⟩ = false := hf _
  have l0 : (0 : Int) ≤ i := by omega
  have l1 : (i : Int) < H.length := by omega
  have HQ := Lib.hid (show HB (set6 (set6 w g (i * 6) a) g (i * 6) a) (.slice (some ⟨g, 0, none⟩) H.length cap) (swp H i i) ∧ Chg (fun x => (Value.slice (some ⟨g, 0, none⟩) H.length cap).ownBlock = some x) w (set6 (set6 w g (i * 6) a) g (i * 6) a) from
    ⟨by rw [swp_of ha ha]; exact set6_HB (set6_HB h i a) i a, set6_chg (F := fun x => (Value.slice (some ⟨g, 0, none⟩) H.length cap).ownBlock = some x) (set6_chg (F := fun x => (Value.slice (some ⟨g, 0, none⟩) H.length cap).ownBlock = some x) (Chg.refl _ w) rfl _ _) rfl _ _⟩)
  clear h ha hg hi hf
  obtain ⟨⟨ak, at_, ad, av⟩, af, an⟩ := a
  simp only [set6] at c0 c1 c2 c3 c4 c5 HQ
  obtain ⟨n, hn⟩ : ∃ n, H.length = n := ⟨_, rfl⟩
  rw [hn] at l1 HQ ⊢
  clear hn
  go_enter Try.func80, Try.ntmps80
  go_wp2_with fail
  go_region
  all_goals
    go_wp2
    go_end0
    have HQ1 := HQ.out
    exact ⟨rfl, HB.drew HQ1.1, Chg.drew HQ1.2⟩
theorem hswap_any {w : World} {v : Value} {H : List HdM} (h : HB w v H) {i k : Nat} {a b : HdM} (ha : H[i]? = some a) (hb : H[k]? = some b) (hl : H.length ≤ 1099511627776) :
    Calls Try.prog 80 #[v, .int .i64 i, .int .i64 k] w fun e w' => e = .returned (.tuple #[]) ∧ HB w' v (swp H i k) ∧ Chg (fun x => v.ownBlock = some x) w w' := by
  by_cases e : i = k
  · subst e; exact hswap_eq h ha hl
  · exact hswap_ne h ha hb e hl
end Go.Proofs.Ytnhookblhckmlaa
