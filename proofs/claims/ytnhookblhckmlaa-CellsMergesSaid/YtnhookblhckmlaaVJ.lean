/- The law's state: what the document has laid, the cells, the iterators. -/
import Derived.Test.YtnhookblhckmlaaVI
import Derived.Test.YtnhookblhckmlaaS2
namespace Go.Proofs.Ytnhookblhckmlaa
set_option linter.unusedVariables false
set_option linter.unusedSimpArgs false
open Go.RowKit Mk Go.Sort

theorem sl.kind {w : World} {e : TypeId} {size : Nat} {v : Value} {n : Nat} {xs : List Value} (h : sl w e size v n xs) {g : Nat} (hg : v.ownBlock = some g) : ∃ cs, w.heap[g]? = some (.cells cs e) := by
  rcases h.2 with ⟨rfl, _⟩ | ⟨g', cap, cur, rfl, hh, _⟩
  · simp [Value.ownBlock] at hg
  · simp [Value.ownBlock] at hg; subst hg; exact ⟨_, hh⟩
theorem kinds {w : World} {i : Nat} {a b : Array Value} {s t : TypeId} (ha : w.heap[i]? = some (.cells a s)) (hb : w.heap[i]? = some (.cells b t)) : s = t := by
  rw [ha] at hb
  injection hb with h
  injection h
theorem sl.apart {w w' : World} {e e5 : TypeId} {size size5 : Nat} {v v5 : Value} {n n5 : Nat} {xs xs5 : List Value} (h : sl w e size v n xs) (h5 : sl w e5 size5 v5 n5 xs5) (hne : e ≠ e5) (hg : w.grownBy w' v5.ownBlock) : sl w' e size v n xs :=
  sl.stay h (fun g e1 => hg.block g (sl.lt h e1) (fun e2 => by
    obtain ⟨cs, k1⟩ := sl.kind h e1
    obtain ⟨cs2, k2⟩ := sl.kind h5 e2.symm
    exact hne (kinds k1 k2)))
theorem CR.apart' {w w' : World} {b : Nat} {lv v5 : Value} {M : List CellM} {e5 : TypeId} {size5 n5 : Nat} {xs5 : List Value} (h : CR w b lv M) (h5 : sl w e5 size5 v5 n5 xs5) (h1 : e5 ≠ 24) (h2 : e5 ≠ 65) (hg : w.grownBy w' v5.ownBlock) : CR w' b lv M :=
  ⟨(hg.block b h.lt (fun e => by
    obtain ⟨cs2, k2⟩ := sl.kind h5 e.symm
    exact h2 (kinds k2 h.blk))).trans h.blk, sl.apart h.has h5 (Ne.symm h1) hg, h.apart⟩
theorem CP.apart {w w' : World} {p : Nat × List CellM} {v5 : Value} {e5 : TypeId} {size5 n5 : Nat} {xs5 : List Value} (h : CP w p) (h5 : sl w e5 size5 v5 n5 xs5) (h1 : e5 ≠ 24) (h2 : e5 ≠ 65) (hg : w.grownBy w' v5.ownBlock) : CP w' p := by
  obtain ⟨⟨lv, h3⟩, h4⟩ := h
  exact ⟨⟨lv, h3.apart' h5 h1 h2 hg⟩, h4⟩
/-- What the document has laid: a slice of slices. -/
structure OutsAt (v : Value) (A : List (List CellM)) (us : List Value) (w : World) : Prop where
  is : sl w 28 1 v A.length us
  each : ∀ (i : Nat) (M : List CellM), A[i]? = some M → ∃ si ci, us[i]? = some (Value.slice si M.length ci) ∧ Has w (Value.slice si M.length ci) M
structure PtrsAt (v : Value) (B : List (Nat × List CellM)) (w : World) : Prop where
  is : sl w 29 1 v B.length (B.map fun p => Value.pointer (some ⟨p.1, 0, none⟩))
  each : ∀ p ∈ B, CP w p
/-- The law's state. -/
structure LwAt (w : World) (A : List (List CellM)) (us : List Value) (B : List (Nat × List CellM)) (fs : List Value) (n : Nat) (v5 v7 v6 : Value) (wr : World) : Prop where
  below : RowKit.Below w.heap.size w wr
  outs : OutsAt v5 A us wr
  ptrs : PtrsAt v7 B wr
  seqs : sl wr 45 1 v6 n fs
  o5 : ∀ g, v5.ownBlock = some g → w.heap.size ≤ g
  o7 : ∀ g, v7.ownBlock = some g → w.heap.size ≤ g
  o6 : ∀ g, v6.ownBlock = some g → w.heap.size ≤ g
theorem sl.below' {w w' : World} {e : TypeId} {size : Nat} {v : Value} {n : Nat} {xs : List Value} (h : sl w e size v n xs) (k : RowKit.Below w.heap.size w w') : sl w' e size v n xs := sl.stay h (fun g hg => k.block g (sl.lt h hg))
theorem LwAt.stay {w wr w2 : World} {A : List (List CellM)} {us : List Value} {B : List (Nat × List CellM)} {fs : List Value} {n : Nat} {v5 v7 v6 : Value} (h : LwAt w A us B fs n v5 v7 v6 wr) (k : RowKit.Below wr.heap.size wr w2) : LwAt w A us B fs n v5 v7 v6 w2 :=
  ⟨h.below.trans (k.mono h.below.size), ⟨sl.below' h.outs.is k, fun i M hM => by
    obtain ⟨si, ci, e, hh⟩ := h.outs.each i M hM
    exact ⟨si, ci, e, hh.stay k⟩⟩, ⟨sl.below' h.ptrs.is k, fun p hp => (h.ptrs.each p hp).below k⟩, sl.below' h.seqs k, h.o5, h.o7, h.o6⟩
theorem below_grown {w wr w2 : World} {v : Value} (h : RowKit.Below w.heap.size w wr) (hg : wr.grownBy w2 v.ownBlock) (ho : ∀ g, v.ownBlock = some g → w.heap.size ≤ g) : RowKit.Below w.heap.size w w2 :=
  h.trans ⟨hg.os, hg.tape, hg.output, hg.size, fun i hi => hg.block i (Nat.lt_of_lt_of_le hi h.size) (fun e => by have := ho i e.symm; omega)⟩
theorem own_grown {w wr : World} {v v' : Value} (h : w.heap.size ≤ wr.heap.size) (ho : ∀ g, v.ownBlock = some g → w.heap.size ≤ g) (ha : v'.ownBlock = v.ownBlock ∨ v'.ownBlock = some wr.heap.size) : ∀ g, v'.ownBlock = some g → w.heap.size ≤ g := fun g e => by
  rcases ha with e2 | e2
  · exact ho g (by rw [← e2]; exact e)
  · rw [e2] at e; cases e; exact h
theorem LwAt.out {w wr w2 : World} {A : List (List CellM)} {us : List Value} {B : List (Nat × List CellM)} {fs : List Value} {n : Nat} {v5 v7 v6 v' : Value} (h : LwAt w A us B fs n v5 v7 v6 wr) {M : List CellM} {si : Option Addr} {ci : Nat} (hM : Has wr (Value.slice si M.length ci) M)
    (hs : sl w2 28 1 v' (A.length + 1) (us ++ [Value.slice si M.length ci])) (hg : wr.grownBy w2 v5.ownBlock) (ha : v'.ownBlock = v5.ownBlock ∨ v'.ownBlock = some wr.heap.size) : LwAt w (A ++ [M]) (us ++ [Value.slice si M.length ci]) B fs n v' v7 v6 w2 := by
  have hul : us.length = A.length := by have := h.outs.is.1; simpa using this
  refine ⟨below_grown h.below hg h.o5, ⟨by simpa using hs, fun i M' hM' => ?_⟩, ⟨sl.apart h.ptrs.is h.outs.is (by decide) hg, fun p hp => (h.ptrs.each p hp).apart h.outs.is (by decide) (by decide) hg⟩, sl.apart h.seqs h.outs.is (by decide) hg, own_grown h.below.size h.o5 ha, h.o7, h.o6⟩
  by_cases hi : i < A.length
  · rw [List.getElem?_append_left hi] at hM'
    obtain ⟨s2, c2, e, hh⟩ := h.outs.each i M' hM'
    exact ⟨s2, c2, by rw [List.getElem?_append_left (by omega)]; exact e, sl.apart hh h.outs.is (by decide) hg⟩
  · have hi2 : i = A.length := by have := (List.getElem?_eq_some_iff.1 hM').1; simp at this; omega
    subst hi2
    rw [List.getElem?_append_right (Nat.le_refl _)] at hM'
    simp at hM'
    subst hM'
    exact ⟨si, ci, by rw [List.getElem?_append_right (by omega)]; simp [hul], sl.apart hM h.outs.is (by decide) hg⟩
theorem LwAt.ptr {w wr w2 : World} {A : List (List CellM)} {us : List Value} {B : List (Nat × List CellM)} {fs : List Value} {n : Nat} {v5 v7 v6 v' : Value} (h : LwAt w A us B fs n v5 v7 v6 wr) {b : Nat} {M : List CellM} (hb : CP wr (b, M))
    (hs : sl w2 29 1 v' (B.length + 1) ((B.map fun p => Value.pointer (some ⟨p.1, 0, none⟩)) ++ [Value.pointer (some ⟨b, 0, none⟩)])) (hg : wr.grownBy w2 v7.ownBlock) (ha : v'.ownBlock = v7.ownBlock ∨ v'.ownBlock = some wr.heap.size) : LwAt w A us (B ++ [(b, M)]) fs n v5 v' v6 w2 := by
  refine ⟨below_grown h.below hg h.o7, ⟨sl.apart h.outs.is h.ptrs.is (by decide) hg, fun i M' hM' => ?_⟩, ⟨by simpa using hs, fun p hp => ?_⟩, sl.apart h.seqs h.ptrs.is (by decide) hg, h.o5, own_grown h.below.size h.o7 ha, h.o6⟩
  · obtain ⟨s2, c2, e, hh⟩ := h.outs.each i M' hM'
    exact ⟨s2, c2, e, sl.apart hh h.ptrs.is (by decide) hg⟩
  · rcases List.mem_append.1 hp with hp | hp
    · exact (h.ptrs.each p hp).apart h.ptrs.is (by decide) (by decide) hg
    · simp at hp; subst hp
      exact hb.apart h.ptrs.is (by decide) (by decide) hg
theorem LwAt.seq {w wr w2 : World} {A : List (List CellM)} {us : List Value} {B : List (Nat × List CellM)} {fs : List Value} {n : Nat} {v5 v7 v6 v' : Value} (h : LwAt w A us B fs n v5 v7 v6 wr) {u : Value}
    (hs : sl w2 45 1 v' (n + 1) (fs ++ [u])) (hg : wr.grownBy w2 v6.ownBlock) (ha : v'.ownBlock = v6.ownBlock ∨ v'.ownBlock = some wr.heap.size) : LwAt w A us B (fs ++ [u]) (n + 1) v5 v7 v' w2 :=
  ⟨below_grown h.below hg h.o6, ⟨sl.apart h.outs.is h.seqs (by decide) hg, fun i M' hM' => by
    obtain ⟨s2, c2, e, hh⟩ := h.outs.each i M' hM'
    exact ⟨s2, c2, e, sl.apart hh h.seqs (by decide) hg⟩⟩, ⟨sl.apart h.ptrs.is h.seqs (by decide) hg, fun p hp => (h.ptrs.each p hp).apart h.seqs (by decide) (by decide) hg⟩, hs, h.o5, h.o7, own_grown h.below.size h.o6 ha⟩
/-- The slices as the document's Merge and the law's merged take them. -/
theorem OutsAt.ls {v : Value} {A : List (List CellM)} {us : List Value} {w : World} (h : OutsAt v A us w) : ∃ so c, v = .slice so A.length c ∧ LsAt w so A := by
  rcases h.is.2 with ⟨rfl, e⟩ | ⟨g, cap, cur, rfl, hg, _⟩
  · obtain rfl := List.eq_nil_of_length_eq_zero e
    exact ⟨none, 0, rfl, fun i L hL => by simp at hL⟩
  · refine ⟨_, cap, rfl, fun i M hM => ?_⟩
    obtain ⟨si, ci, e, hh⟩ := h.each i M hM
    obtain ⟨g2, c2, e2, hc⟩ := sl.cell h.is e
    cases e2
    obtain ⟨so', cap', e3, hat, _⟩ := hh.at
    cases e3
    exact ⟨g, 0, si, ci, rfl, (Array.getElem?_eq_some_iff.1 hg).1, by simpa using hc, hat⟩
theorem PtrsAt.ps {v : Value} {B : List (Nat × List CellM)} {w : World} (h : PtrsAt v B w) : ∃ so c, v = .slice so B.length c ∧ B.length ≤ c ∧ c ≤ maxLen ∧ PsAt w so B := by
  rcases h.is.2 with ⟨rfl, e⟩ | ⟨g, cap, cur, rfl, hg, hnc, hcm, _⟩
  · obtain rfl := List.eq_nil_of_length_eq_zero e
    exact ⟨none, 0, rfl, Nat.le_refl _, Nat.zero_le _, fun i L hL => by simp at hL⟩
  · refine ⟨_, cap, rfl, hnc, hcm, fun i p hp => ⟨h.each p (List.mem_of_getElem? hp), g, 0, rfl, (Array.getElem?_eq_some_iff.1 hg).1, ?_⟩⟩
    obtain ⟨g2, c2, e2, hc⟩ := sl.cell (i := i) (u := Value.pointer (some ⟨p.1, 0, none⟩)) h.is (by simp [hp])
    cases e2
    simpa using hc
end Go.Proofs.Ytnhookblhckmlaa
