/- Walks: Put of any cells. -/
import Derived.Test.YtnhookblhckmlaaKc
import Derived.BigRegion
namespace Go.Proofs.Ytnhookblhckmlaa
open Go.RowKit Mk Go.Sort

theorem insert_any {w : World} {lv : Value} {L : List CellM} (h : Has w lv L) (hL : L.length ≤ 1099511627776) (x : CellM) {xb : Nat} {t : TypeId} (hx : w.heap[xb]? = some (.cells (cellL x).toArray t)) (hne : lv.ownBlock ≠ some xb) {i : Nat} (hi : i ≤ L.length) :
    Calls Try.prog 33 #[lv, .int .i64 i, .slice (some ⟨xb, 0, none⟩) 1 1] w fun e w' => ∃ v', e = .returned v' ∧ Has w' v' (atM L i x) ∧ w.grownBy w' lv.ownBlock ∧ (v'.ownBlock = lv.ownBlock ∨ v'.ownBlock = some w.heap.size) := by
  by_cases he : i = L.length
  · subst he
    have e : atM L L.length x = L ++ [x] := by unfold atM; simp
    rw [e]
    exact insert_end h hL x hx
  · have hlt : i < L.length := by omega
    have hlen := atM_len L x hi
    have hcl : (cellsL (atM L i x)).length = (atM L i x).length * 4 := by rw [cellsL_len]; omega
    rcases h.2 with ⟨rfl, e0⟩ | ⟨g, cap, cur, rfl, hg, hnc, hcm, hcs, ht⟩
    · omega
    · have hxg : xb ≠ g := fun e => hne (by simp [Value.ownBlock, e])
      have hcu : cur.toList.length = cur.size := Array.length_toList
      by_cases hr : L.length + 1 ≤ cap
      · refine (insert_shift hg hcm hcs ht x hx hxg hlt hr).mono ?_
        rintro e w' ⟨rfl, r, rfl, hr1, hr2⟩
        refine ⟨_, rfl, ⟨hcl, Or.inr ⟨g, cap, r.toArray, by rw [hlen], setRow_heap _ g cur _ 24 _ hg, by omega, hcm, by rw [List.size_toArray]; omega, by rw [hlen]; exact hr2⟩⟩, ?_, Or.inl rfl⟩
        exact ⟨rfl, rfl, rfl, by simp [World.setRow], fun k _ hk => setRow_other _ g k _ (fun e => hk (by simp [Value.ownBlock, e]))⟩
      · refine (insert_grow hg hcs ht x hx hlt hnc (by omega) hL).mono ?_
        rintro e w' ⟨G, rfl, hG1, hG2, R, r, rfl, hr1, hr2⟩
        have hN : ((w.alloc (.cells R.toArray 24)).drew.drew).heap[w.heap.size]? = some (.cells R.toArray 24) := Go.heap_alloc_new w _
        refine ⟨_, rfl, ⟨hcl, Or.inr ⟨w.heap.size, G, r.toArray, by rw [hlen], setRow_heap _ _ _ _ 24 _ hN, by omega, hG2, by rw [List.size_toArray]; omega, by rw [hlen]; exact hr2⟩⟩, ?_, Or.inr rfl⟩
        refine ⟨rfl, rfl, rfl, by simp [World.setRow], fun k hk _ => (setRow_other _ _ k _ (by omega)).trans (Below.heap_alloc w _ k hk)⟩

/-- The slice at so holds the cells P, wherever it lies. -/
def At (w : World) (so : Option Addr) (P : List CellM) : Prop :=
  P.length ≤ maxLen ∧ ∀ i c, P[i]? = some c → ∃ g o, so = some ⟨g, o, none⟩ ∧ g < w.heap.size ∧ w.cell? ⟨g, o + i * 4, none⟩ = some (.string c.key) ∧ w.cell? ⟨g, o + i * 4 + 1, none⟩ = some (.int .u64 c.time) ∧ w.cell? ⟨g, o + i * 4 + 2, none⟩ = some (.bool c.del) ∧ w.cell? ⟨g, o + i * 4 + 3, none⟩ = some (.string c.val)
theorem cell_block {w w' : World} {g o : Nat} (h : w'.heap[g]? = w.heap[g]?) : w'.cell? ⟨g, o, none⟩ = w.cell? ⟨g, o, none⟩ := by simp [World.cell?, h]
theorem At.stay {w w' : World} {so : Option Addr} {P : List CellM} (h : At w so P) (k : ∀ g o, so = some ⟨g, o, none⟩ → g < w.heap.size → P ≠ [] → w'.heap[g]? = w.heap[g]?) (hs : w.heap.size ≤ w'.heap.size) : At w' so P := by
  refine ⟨h.1, fun i c hc => ?_⟩
  obtain ⟨g, o, e, h0, h1, h2, h3, h4⟩ := h.2 i c hc
  have hk := k g o e h0 (by rintro rfl; simp at hc)
  exact ⟨g, o, e, by omega, by rw [cell_block hk]; exact h1, by rw [cell_block hk]; exact h2, by rw [cell_block hk]; exact h3, by rw [cell_block hk]; exact h4⟩
theorem At.below {w w' : World} {so : Option Addr} {P : List CellM} (h : At w so P) (k : RowKit.Below w.heap.size w w') : At w' so P := h.stay (fun _ _ _ hg _ => k.block _ hg) k.size
theorem At.lt {w : World} {so : Option Addr} {P : List CellM} (h : At w so P) (hne : P ≠ []) {g o : Nat} (e : so = some ⟨g, o, none⟩) : g < w.heap.size := by
  obtain ⟨x, P', rfl⟩ := List.exists_cons_of_ne_nil hne
  obtain ⟨g', o', e', h0, _⟩ := h.2 0 x rfl
  rw [e] at e'
  cases e'
  exact h0
theorem Has.at {w : World} {lv : Value} {P : List CellM} (h : Has w lv P) : ∃ so cap, lv = .slice so P.length cap ∧ At w so P ∧ ∀ g o, so = some ⟨g, o, none⟩ → lv.ownBlock = some g := by
  obtain ⟨so, cap, rfl⟩ := h.shape
  refine ⟨so, cap, rfl, ⟨by have := sl.le h; exact this, fun i c hc => ?_⟩, fun g o e => by subst e; rfl⟩
  obtain ⟨g, cap', e, h0, h1, h2, h3⟩ := h.cells hc
  cases e
  exact ⟨g, 0, rfl, sl.lt h rfl, by simpa using h0, by simpa using h1, by simpa using h2, by simpa using h3⟩

theorem set4_list (L : List CellM) (i : Nat) (x : CellM) : ((((cellsL L).set (i * 4) (.string x.key)).set (i * 4 + 1) (.int .u64 x.time)).set (i * 4 + 2) (.bool x.del)).set (i * 4 + 3) (.string x.val) = cellsL (L.set i x) := by
  induction L generalizing i with
  | nil => simp [cellsL]
  | cons c L ih =>
    cases i with
    | zero => simp [cellsL, cellL]
    | succ i =>
      have := ih i
      simp only [cellsL, List.flatMap_cons, List.set_cons_succ] at *
      rw [← this]
      have e : (i + 1) * 4 = i * 4 + 4 := by omega
      simp [cellL, e]
theorem set4_has {w : World} {lv : Value} {L : List CellM} (h : Has w lv L) {i : Nat} (hi : i < L.length) (x : CellM) : ∃ g cap, lv = .slice (some ⟨g, 0, none⟩) L.length cap ∧ w.frozen? ⟨g, i * 4, none⟩ = false ∧ w.frozen? ⟨g, i * 4 + 1, none⟩ = false ∧ w.frozen? ⟨g, i * 4 + 2, none⟩ = false ∧ w.frozen? ⟨g, i * 4 + 3, none⟩ = false ∧
    ∀ w' : World, w'.heap = (((((w.setCell ⟨g, i * 4, none⟩ (.string x.key)).setCell ⟨g, i * 4 + 1, none⟩ (.int .u64 x.time)).setCell ⟨g, i * 4 + 2, none⟩ (.bool x.del)).setCell ⟨g, i * 4 + 3, none⟩ (.string x.val))).heap → Has w' lv (L.set i x) := by
  rcases h.2 with ⟨rfl, e0⟩ | ⟨g, cap, cur, rfl, hg, hnc, hcm, hcs, ht⟩
  · omega
  · refine ⟨g, cap, rfl, frozen_of hg, frozen_of hg, frozen_of hg, frozen_of hg, fun w' hw' => ?_⟩
    have h4 := Mk.heap_setCell_same (Mk.heap_setCell_same (Mk.heap_setCell_same (Mk.heap_setCell_same (i := i * 4) hg (.string x.key)) (i := i * 4 + 1) (.int .u64 x.time)) (i := i * 4 + 2) (.bool x.del)) (i := i * 4 + 3) (.string x.val)
    refine ⟨by rw [cellsL_len]; omega, Or.inr ⟨g, cap, _, by rw [List.length_set], by rw [hw']; exact h4, by rw [List.length_set]; omega, hcm, by simpa using hcs, ?_⟩⟩
    rw [List.length_set, ← set4_list]
    simp only [Array.toList_setIfInBounds, List.take_set, ht]

/-- What a Put has done when k cells are laid. -/
structure PutF (w : World) (b : Nat) (lv : Value) (L P : List CellM) (k : Nat) (wr : World) : Prop where
  is : ∃ lv', CR wr b lv' ((P.take k).foldl layM L) ∧ (lv'.ownBlock = lv.ownBlock ∨ ∃ g, lv'.ownBlock = some g ∧ w.heap.size ≤ g)
  chg : Chg (fun g => g = b ∨ lv.ownBlock = some g) w wr
theorem PutF.below {w wr w2 : World} {b k : Nat} {lv : Value} {L P : List CellM} (h : PutF w b lv L P k wr) (k2 : RowKit.Below wr.heap.size wr w2) : PutF w b lv L P k w2 := by
  obtain ⟨⟨lv', h1, h2⟩, h3⟩ := h
  exact ⟨⟨lv', h1.stay k2, h2⟩, h3.trans' (chg_of_below k2) (fun _ f => f.elim)⟩
theorem PutF.at {w wr : World} {b k : Nat} {lv : Value} {L P Q : List CellM} {so : Option Addr} (h : PutF w b lv L P k wr) (hp : At w so Q) (hs : Q ≠ [] → ∀ g o, so = some ⟨g, o, none⟩ → g ≠ b ∧ lv.ownBlock ≠ some g) : At wr so Q :=
  hp.stay (fun g o e hg hne => h.chg.block g hg (fun f => f.elim (fun f => (hs hne g o e).1 f) (fun f => (hs hne g o e).2 f))) h.chg.size
theorem fold_take {L P : List CellM} {k : Nat} {y : CellM} (hy : P[k]? = some y) : (P.take (k + 1)).foldl layM L = layM ((P.take k).foldl layM L) y := by
  rw [List.take_add_one, hy]
  simp
theorem putF_ins {w w4 w5 : World} {b k : Nat} {lv lv' v' : Value} {L P : List CellM} (hb : b < w.heap.size) (hc : Chg (fun g => g = b ∨ lv.ownBlock = some g) w w4) (h : CR w4 b lv' ((P.take k).foldl layM L))
    (hlv : lv'.ownBlock = lv.ownBlock ∨ ∃ g, lv'.ownBlock = some g ∧ w.heap.size ≤ g) {y : CellM} (hy : P[k]? = some y) {M : List CellM} (hM : M = layM ((P.take k).foldl layM L) y)
    (h5 : Has w5 v' M) (hg : w4.grownBy w5 lv'.ownBlock) (hv : v'.ownBlock = lv'.ownBlock ∨ v'.ownBlock = some w4.heap.size) :
    PutF w b lv L P (k + 1) (w5.setCell ⟨b, 0, none⟩ v') := by
  subst hM
  have hb4 := h.lt
  have hnb : v'.ownBlock ≠ some b := by
    rcases hv with e | e
    · rw [e]; exact h.apart
    · rw [e]; intro e2; cases e2; omega
  have hblk : w5.heap[b]? = some (.cells #[lv', .bool true] 65) := (hg.block b hb4 (fun e => h.apart e.symm |>.elim)).trans h.blk
  refine ⟨⟨v', ⟨?_, ?_, hnb⟩, ?_⟩, ?_⟩
  · rw [Mk.heap_setCell_same hblk]; rfl
  · rw [fold_take hy]
    exact sl.stay h5 (fun g hg' => Below.heap_setCell _ _ _ _ (fun e => hnb (by rw [hg', e])))
  · rcases hv with e | e
    · rw [e]; exact hlv
    · exact Or.inr ⟨_, e, hc.size⟩
  · refine (hc.grown hg (fun i e => ?_)).setCell (Or.inl (Or.inl rfl)) _
    rcases hlv with e2 | ⟨g, e2, e3⟩
    · exact Or.inl (Or.inr (by rw [← e2, e]))
    · rw [e2] at e; cases e; exact Or.inr e3
theorem putF_set {w w4 w5 : World} {b k g : Nat} {lv lv' : Value} {L P : List CellM} (hc : Chg (fun g => g = b ∨ lv.ownBlock = some g) w w4) (h : CR w4 b lv' ((P.take k).foldl layM L))
    (hlv : lv'.ownBlock = lv.ownBlock ∨ ∃ g, lv'.ownBlock = some g ∧ w.heap.size ≤ g) {y : CellM} (hy : P[k]? = some y) {M : List CellM} (hM : M = layM ((P.take k).foldl layM L) y)
    (h5 : Has w5 lv' M) (hg : lv'.ownBlock = some g) (hch : Chg (fun i => i = g) w4 w5) : PutF w b lv L P (k + 1) w5 := by
  subst hM
  refine ⟨⟨lv', ⟨?_, ?_, h.apart⟩, hlv⟩, ?_⟩
  · exact (hch.block b h.lt (fun e => h.apart (by rw [hg, e]))).trans h.blk
  · rw [fold_take hy]; exact h5
  · refine hc.trans' hch (fun i e => ?_)
    subst e
    rcases hlv with e2 | ⟨g', e2, e3⟩
    · exact Or.inl (Or.inr (by rw [← e2, hg]))
    · rw [hg] at e2; cases e2; exact Or.inr e3
end Go.Proofs.Ytnhookblhckmlaa
