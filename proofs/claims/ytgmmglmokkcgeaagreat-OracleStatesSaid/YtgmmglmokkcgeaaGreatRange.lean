/- Which blocks a run has turned; slices in rows of their own. Holds of any program. -/
import Derived.Test.YtgmmglmokkcgeaaGreatO2
import Derived.Maps.AppendAt
import Derived.Laws.CopyOwn
import Derived.Deep.RegionHeld3
import Derived.Deep.DrawnRows
import Derived.Maps.Range
namespace Go.Proofs.YtgmmglmokkcgeaaGreat.Mk
set_option linter.unusedVariables false
set_option linter.unusedSimpArgs false
open Go Go.ChangeMaps Go.MapKept Go.RowKit

/-- No old block but those of F is other than it was. -/
structure Chg (F : Nat → Prop) (w w' : World) : Prop where
  os : w'.os = w.os
  tape : w'.tape = w.tape
  output : w'.output = w.output
  size : w.heap.size ≤ w'.heap.size
  block : ∀ i, i < w.heap.size → ¬ F i → w'.heap[i]? = w.heap[i]?

variable {F G : Nat → Prop} {w w1 w2 w' : World}

theorem Chg.refl (F : Nat → Prop) (w : World) : Chg F w w := ⟨rfl, rfl, rfl, Nat.le_refl _, fun _ _ _ => rfl⟩
theorem Chg.trans' (h : Chg F w w1) (k : Chg G w1 w2) (hG : ∀ i, G i → F i ∨ w.heap.size ≤ i) : Chg F w w2 :=
  ⟨k.os.trans h.os, k.tape.trans h.tape, k.output.trans h.output, Nat.le_trans h.size k.size, fun i hi hF => (k.block i (Nat.lt_of_lt_of_le hi h.size) (fun g => by rcases hG i g with a | a; exact hF a; omega)).trans (h.block i hi hF)⟩
theorem Chg.trans (h : Chg F w w1) (k : Chg F w1 w2) : Chg F w w2 := h.trans' k (fun _ g => Or.inl g)
theorem Chg.mono (h : Chg F w w') (hG : ∀ i, F i → G i) : Chg G w w' := ⟨h.os, h.tape, h.output, h.size, fun i hi g => h.block i hi (fun f => g (hG i f))⟩
theorem Chg.alloc (h : Chg F w w1) (o : Obj) : Chg F w (w1.alloc o) := ⟨h.os, h.tape, h.output, Nat.le_trans h.size (by simp), fun i hi hF => (Below.heap_alloc _ _ _ (Nat.lt_of_lt_of_le hi h.size)).trans (h.block i hi hF)⟩
theorem Chg.drew (h : Chg F w w1) : Chg F w w1.drew := ⟨h.os, h.tape, h.output, h.size, h.block⟩
theorem Chg.setBlock (h : Chg F w w1) {r : Nat} (hr : F r ∨ w.heap.size ≤ r) (o : Obj) : Chg F w (setBlock w1 r o) := ⟨h.os, h.tape, h.output, Nat.le_trans h.size (by simp [ChangeMaps.setBlock]), fun i hi hF => by
  have : i ≠ r := fun e => by subst e; rcases hr with a | a; exact hF a; omega
  show (w1.heap.setIfInBounds r o)[i]? = _
  rw [Array.getElem?_setIfInBounds_ne (Ne.symm this)]; exact h.block i hi hF⟩
theorem Chg.setRow (h : Chg F w w1) {r : Nat} (hr : F r ∨ w.heap.size ≤ r) (cs : Array Value) : Chg F w (w1.setRow r cs) := ⟨h.os, h.tape, h.output, Nat.le_trans h.size (by simp [World.setRow]), fun i hi hF => by
  have : i ≠ r := fun e => by subst e; rcases hr with a | a; exact hF a; omega
  rw [setRow_other _ _ _ _ this]; exact h.block i hi hF⟩
theorem Chg.setCell (h : Chg F w w1) {a : Addr} (hr : F a.block ∨ w.heap.size ≤ a.block) (v : Value) : Chg F w (w1.setCell a v) := ⟨h.os, h.tape, h.output, Nat.le_trans h.size (by simp [World.setCell]), fun i hi hF => by
  have : i ≠ a.block := fun e => by subst e; rcases hr with a | a; exact hF a; omega
  rw [Below.heap_setCell _ _ _ _ this]; exact h.block i hi hF⟩
theorem Chg.grown (h : Chg F w w1) {row : Option Nat} (hg : w1.grownBy w2 row) (hr : ∀ i, row = some i → F i ∨ w.heap.size ≤ i) : Chg F w w2 :=
  h.trans' (G := fun i => row = some i) ⟨hg.os, hg.tape, hg.output, hg.size, fun i hi g => hg.block i hi (fun e => g e.symm)⟩ hr
theorem Chg.below (h : Chg F w w') {B : Nat} (hF : ∀ i, F i → B ≤ i) (hB : B ≤ w.heap.size) : Below B w w' :=
  ⟨h.os, h.tape, h.output, h.size, fun i hi => h.block i (by omega) (fun f => by have := hF i f; omega)⟩
theorem heap_setCell_same {w : World} {g i : Nat} {cs : Array Value} {t : TypeId} {fr : Nat × Nat} (h : w.heap[g]? = some (.cells cs t fr)) (v : Value) : (w.setCell ⟨g, i, none⟩ v).heap[g]? = some (.cells (cs.setIfInBounds i v) t fr) := by
  have hlt : g < w.heap.size := (Array.getElem?_eq_some_iff.1 h).1
  have hv : w.heap[g] = .cells cs t fr := (Array.getElem?_eq_some_iff.1 h).2
  unfold World.setCell
  rw [Array.getElem?_eq_getElem (by simpa using hlt), Array.getElem_modify]
  simp [hv]
theorem cell_of {w : World} {g i : Nat} {cs : Array Value} {t : TypeId} {fr : Nat × Nat} {v : Value} (h : w.heap[g]? = some (.cells cs t fr)) (hi : cs[i]? = some v) : w.cell? ⟨g, i, none⟩ = some v := by simp [World.cell?, h, hi]
theorem frozen_of {w : World} {g i : Nat} {cs : Array Value} {t : TypeId} (h : w.heap[g]? = some (.cells cs t)) : w.frozen? ⟨g, i, none⟩ = false := by simp [World.frozen?, h]

/-- The slice v has the cells xs of n elements, at the front of a row. -/
def sl (w : World) (e : TypeId) (size : Nat) (v : Value) (n : Nat) (xs : List Value) : Prop :=
  xs.length = n * size ∧ ((v = .slice none 0 0 ∧ n = 0) ∨ ∃ g cap cur, v = .slice (some ⟨g, 0, none⟩) n cap ∧ w.heap[g]? = some (.cells cur e) ∧ n ≤ cap ∧ cap ≤ maxLen ∧ cap * size ≤ cur.size ∧ cur.toList.take (n * size) = xs)

theorem sl_nil (w : World) (e : TypeId) (size : Nat) : sl w e size (.slice none 0 0) 0 [] := ⟨by simp, Or.inl ⟨rfl, rfl⟩⟩
theorem sl.stay {e : TypeId} {size : Nat} {v : Value} {n : Nat} {xs : List Value} (h : sl w e size v n xs) (hb : ∀ g, v.ownBlock = some g → w'.heap[g]? = w.heap[g]?) : sl w' e size v n xs := by
  obtain ⟨h1, h2⟩ := h
  refine ⟨h1, h2.imp id ?_⟩
  rintro ⟨g, cap, cur, rfl, hg, r⟩
  exact ⟨g, cap, cur, rfl, (hb g rfl).trans hg, r⟩
theorem sl.lt {e : TypeId} {size : Nat} {v : Value} {n : Nat} {xs : List Value} (h : sl w e size v n xs) {g : Nat} (hg : v.ownBlock = some g) : g < w.heap.size := by
  rcases h.2 with ⟨rfl, _⟩ | ⟨g', cap, cur, rfl, hh, _⟩
  · simp [Value.ownBlock] at hg
  · simp [Value.ownBlock] at hg; subst hg; exact (Array.getElem?_eq_some_iff.1 hh).1
theorem sl.le {e : TypeId} {size : Nat} {v : Value} {n : Nat} {xs : List Value} (h : sl w e size v n xs) : n ≤ maxLen := by
  rcases h.2 with ⟨_, rfl⟩ | ⟨g', cap, cur, rfl, hh, a, b, _⟩
  · exact Nat.zero_le _
  · omega
/-- One cell of it. -/
theorem sl.cell {e : TypeId} {size : Nat} {v : Value} {n : Nat} {xs : List Value} (h : sl w e size v n xs) {i : Nat} {u : Value} (hi : xs[i]? = some u) : ∃ g cap, v = .slice (some ⟨g, 0, none⟩) n cap ∧ w.cell? ⟨g, i, none⟩ = some u := by
  have hlt : i < xs.length := (List.getElem?_eq_some_iff.1 hi).1
  rcases h with ⟨h1, ⟨_, rfl⟩ | ⟨g', cap, cur, rfl, hh, a, b, c, d⟩⟩
  · simp at h1; subst h1; simp at hlt
  · refine ⟨g', cap, rfl, cell_of hh ?_⟩
    rw [← d, List.getElem?_take] at hi
    split at hi
    · simpa using hi
    · cases hi
/-- 'l[:i:i]'. -/
theorem sl.cut {e : TypeId} {size : Nat} {g n cap : Nat} {xs : List Value} (h : sl w e size (.slice (some ⟨g, 0, none⟩) n cap) n xs) {i : Nat} (hi : i ≤ n) : sl w e size (.slice (some ⟨g, 0, none⟩) i i) i (xs.take (i * size)) := by
  rcases h with ⟨h1, ⟨h0, _⟩ | ⟨g', cap', cur, hv, hh, a, b, c, d⟩⟩
  · cases h0
  · cases hv
    have hle : i * size ≤ n * size := Nat.mul_le_mul_right _ hi
    have hle2 : n * size ≤ cap * size := Nat.mul_le_mul_right _ a
    refine ⟨by rw [List.length_take, h1]; omega, Or.inr ⟨g, i, cur, rfl, hh, Nat.le_refl _, by omega, by omega, ?_⟩⟩
    rw [← d, List.take_take, Nat.min_eq_left hle]

section
variable {P : Program}
theorem run_append_sl (w : World) (t ty e : TypeId) (i : TypeInfo) (z : Value) (size bytes : Nat) (ht : P.underlying t = some (.slice e)) (hi : P.info? e = some i) (hz : i.zero = some z)
    (hsize : i.size = size) (hby : i.bytes = bytes) (hzs : z.cells.size = size) (hsz : 0 < size)
    (v : Value) (n : Nat) (xs : List Value) (hown : sl w e size v n xs)
    (x : Option Addr) (m c : Nat) (news : List Value) (hl : news.length = m * size) (hx : 0 < m → ∃ a, x = some a ∧ ∀ j u, news[j]? = some u → w.cell? (a.add j) = some u) (hx0 : m = 0 → x = none → c = 0) (h1 : ∀ u ∈ news, u.oneCell' = true)
    (h63 : n + m ≤ maxLen) (hbytes : (n + m) * bytes ≤ 140737488355328) :
    ∃ v' w', (Builtin.append_ #[t, t] ty #[v, .slice x m c]).run P w = .ok v' w' ∧ sl w' e size v' (n + m) (xs ++ news) ∧ w.grownBy w' v.ownBlock ∧
      (v'.ownBlock = v.ownBlock ∨ v'.ownBlock = some w.heap.size) := by
  subst hsize
  subst hby
  have hsmall : n + m ≤ 9223372036854775807 := by simp only [maxLen] at h63; omega
  have hlen : (xs ++ news).length = (n + m) * i.size := by rw [List.length_append, hown.1, hl, Nat.add_mul]
  by_cases hm : m = 0
  · subst hm
    have hn : news = [] := List.eq_nil_of_length_eq_zero (by simpa using hl)
    subst hn
    refine ⟨v, w, ?_, by simpa using hown, ⟨rfl, rfl, rfl, Nat.le_refl _, fun _ _ _ => rfl⟩, Or.inl rfl⟩
    rcases hown.2 with ⟨rfl, rfl⟩ | ⟨g, cap, cur, rfl, hg, hnc, _⟩
    · cases x with
      | none =>
        simp [Builtin.append_, run_underlying ht, sizeOf, typeInfo, hi, Builtin.lenOf, Builtin.firstCells, loadCells, loadCellsFrom]
      | some a =>
        simp [Builtin.append_, run_underlying ht, sizeOf, typeInfo, hi, Builtin.lenOf, Builtin.firstCells, loadCells, loadCellsFrom]
    · cases x with
      | none =>
        simp [Builtin.append_, run_underlying ht, sizeOf, typeInfo, hi, Builtin.lenOf, Builtin.firstCells, loadCells, loadCellsFrom, storeCells, hnc]
      | some a =>
        simp [Builtin.append_, run_underlying ht, sizeOf, typeInfo, hi, Builtin.lenOf, Builtin.firstCells, loadCells, loadCellsFrom, storeCells, hnc]
  · obtain ⟨a, rfl, hnews⟩ := hx (by omega)
    have grown : ∀ (old : Nat), old < n + m → ∀ (row : Option Nat),
        sl (w.drew.alloc (.cells (xs.toArray ++ news.toArray ++ Builtin.zeroCells z.cells (grownCap w (n + m) old e - (n + m))) e)) e i.size
          (.slice (some ⟨w.heap.size, 0, none⟩) (n + m) (grownCap w (n + m) old e)) (n + m) (xs ++ news) ∧
        w.grownBy (w.drew.alloc (.cells (xs.toArray ++ news.toArray ++ Builtin.zeroCells z.cells (grownCap w (n + m) old e - (n + m))) e)) row := by
      intro old ho row
      have hge := grownCap_ge w (n + m) old e
      have hcm : grownCap w (n + m) old e ≤ maxLen := grownCap_le_maxLen w (n + m) old e h63
      refine ⟨⟨hlen, .inr ⟨w.heap.size, _, _, rfl, Go.heap_alloc_new w.drew _, hge, hcm, ?_, ?_⟩⟩, ⟨rfl, rfl, rfl, by simp, fun k hk _ => Below.heap_alloc w.drew _ k hk⟩⟩
      · simp only [Array.size_append, List.size_toArray, size_zeroCells, hzs, hown.1, hl, ← Nat.add_mul]
        apply Nat.le_of_eq
        congr 1
        omega
      · simp only [Array.toList_append, List.append_assoc]
        rw [← List.append_assoc, ← hlen]
        exact List.take_left
    rcases hown.2 with ⟨rfl, rfl⟩ | ⟨g, cap, cur, rfl, hg, hnc, hcm, hcs, htake⟩
    · have hx : xs = [] := List.eq_nil_of_length_eq_zero (by simpa using hown.1)
      subst hx
      have hr := run_append_nil (P := P) w t ty e i z ht hi hz a m c news hl hnews (by omega) (by omega) (by have hb := hbytes; simp only [Nat.zero_add] at hb; omega)
      have hgr := grown 0 (by omega) (Value.ownBlock (.slice none 0 0))
      simp only [Nat.zero_add, List.nil_append, Array.empty_append] at hgr ⊢
      exact ⟨_, _, hr, hgr.1, hgr.2, Or.inr rfl⟩
    · by_cases hroom : n + m ≤ cap
      · have hfit : n * i.size + news.length ≤ cur.size := by rw [hl, ← Nat.add_mul]; exact Nat.le_trans (Nat.mul_le_mul_right _ hroom) hcs
        have hr := run_append_room (P := P) w t ty e i ht hi g n cap cur hg a m c news hl hnews h1 hroom hfit
        refine ⟨_, _, hr, ⟨hlen, .inr ⟨g, cap, _, rfl, setRow_heap w g cur _ e _ hg, hroom, hcm, ?_, ?_⟩⟩, ⟨rfl, rfl, rfl, by simp [World.setRow], fun k _ hk => setRow_other w g k _ (fun e => hk (by simp [Value.ownBlock, e]))⟩, Or.inl rfl⟩
        · simp only [List.size_toArray, List.length_append, List.length_take, List.length_drop, Array.length_toList]
          omega
        · rw [htake, ← hlen]
          exact List.take_left
      · have holds : ∀ j u, xs[j]? = some u → w.cell? ((⟨g, 0, none⟩ : Addr).add j) = some u := fun j u hj => by
          obtain ⟨g', cap', e1, e2⟩ := hown.cell hj
          cases e1
          by_cases h0 : j = 0
          · subst h0; exact e2
          · simpa [Addr.add, h0] using e2
        have hr := run_append_grow (P := P) w t ty e i z ht hi hz ⟨g, 0, none⟩ n cap xs hown.1 holds a m c news hl hnews (by omega) (by omega) (growslice_fits (by omega) hbytes)
        have hgr := grown cap (by omega) (Value.ownBlock (.slice (some ⟨g, 0, none⟩) n cap))
        exact ⟨_, _, hr, hgr.1, hgr.2, Or.inr rfl⟩
end
end Go.Proofs.YtgmmglmokkcgeaaGreat.Mk
/- At a step of a region that draws its order. Holds of any program. -/
namespace Go.Proofs.YtgmmglmokkcgeaaGreat.Mk
set_option linter.unusedVariables false
set_option linter.unusedSimpArgs false
open Go Go.ChangeMaps Go.MapKept Go.RowKit

theorem cell_setBlock {w : World} {r : Nat} {o : Obj} {a : Addr} (h : a.block ≠ r) : (setBlock w r o).cell? a = w.cell? a := by
  unfold World.cell? setBlock
  rw [Array.getElem?_setIfInBounds_ne (Ne.symm h)]
theorem heap_setBlock_ne {w : World} {r i : Nat} {o : Obj} (h : i ≠ r) : (setBlock w r o).heap[i]? = w.heap[i]? := by
  unfold setBlock
  rw [Array.getElem?_setIfInBounds_ne (Ne.symm h)]
theorem heap_setBlock_eq {w : World} {r : Nat} {o : Obj} (h : r < w.heap.size) : (setBlock w r o).heap[r]? = some o := by
  unfold setBlock
  simp [h]
theorem size_setBlock {w : World} {r : Nat} {o : Obj} : (setBlock w r o).heap.size = w.heap.size := by simp [setBlock]

section
variable {P : Program} {w : World}
theorem wp_append_sl {o : Oper} {a : Act} {K : Act → World → Prop} {Q : Exit → Act → World → Prop} (s x : Operand) (t : TypeId)
    (ho : o.op = .call { callee := .builtin .append, args := #[s, x], argTypes := #[t, t] })
    (e : TypeId) (i : TypeInfo) (z : Value) (size bytes : Nat) (ht : P.underlying t = some (.slice e)) (hi : P.info? e = some i) (hz : i.zero = some z)
    (hsize : i.size = size) (hby : i.bytes = bytes) (hzs : z.cells.size = size) (hsz : 0 < size)
    (v : Value) (n : Nat) (xs : List Value) (hs : a.eval s = v) (hown : sl w e size v n xs)
    (ad : Option Addr) (m c : Nat) (news : List Value) (hx : a.eval x = .slice ad m c) (hl : news.length = m * size) (hnews : 0 < m → ∃ a, ad = some a ∧ ∀ j u, news[j]? = some u → w.cell? (a.add j) = some u) (hx0 : m = 0 → ad = none → c = 0)
    (h1 : ∀ u ∈ news, u.oneCell' = true) (h63 : n + m ≤ maxLen) (hbytes : (n + m) * bytes ≤ 140737488355328)
    (h : ∀ v' w', sl w' e size v' (n + m) (xs ++ news) → w.grownBy w' v.ownBlock → (v'.ownBlock = v.ownBlock ∨ v'.ownBlock = some w.heap.size) → K (a.put o.dst v') w') :
    Oper.wp P o a w K Q := by
  obtain ⟨v', w', hr, h2, h3, h4⟩ := run_append_sl (P := P) w t o.type e i z size bytes ht hi hz hsize hby hzs hsz v n xs hown ad m c news hl hnews hx0 h1 h63 hbytes
  unfold Oper.wp execOp
  simp only [ho, resolve, invoke, builtin, Sem.run_bind, Sem.run_pure, Result.andThen_ok, List.map_toArray, List.map_cons, List.map_nil, hs, hx, hr]
  exact h v' w' h2 h3 h4

theorem step_append_sl {ops : Array Oper} {o : Oper} {a : Act} {K : Act → World → Prop} {Q : Exit → Act → World → Prop} {E : Prop} (hgd : o.guard = none) (s x : Operand) (t : TypeId)
    (ho : o.op = .call { callee := .builtin .append, args := #[s, x], argTypes := #[t, t] })
    (e : TypeId) (i : TypeInfo) (z : Value) (size bytes : Nat) (ht : P.underlying t = some (.slice e)) (hi : P.info? e = some i) (hz : i.zero = some z)
    (hsize : i.size = size) (hby : i.bytes = bytes) (hzs : z.cells.size = size) (hsz : 0 < size)
    (v : Value) (n : Nat) (xs : List Value) (hs : a.eval s = v) (hown : sl w e size v n xs)
    (ad : Option Addr) (m c : Nat) (news : List Value) (hx : a.eval x = .slice ad m c) (hl : news.length = m * size) (hnews : 0 < m → ∃ a, ad = some a ∧ ∀ j u, news[j]? = some u → w.cell? (a.add j) = some u) (hx0 : m = 0 → ad = none → c = 0)
    (h1 : ∀ u ∈ news, u.oneCell' = true) (h63 : n + m ≤ maxLen) (hbytes : (n + m) * bytes ≤ 140737488355328)
    (h : ∀ v' w', sl w' e size v' (n + m) (xs ++ news) → w.grownBy w' v.ownBlock → (v'.ownBlock = v.ownBlock ∨ v'.ownBlock = some w.heap.size) → K (a.put o.dst v') w') :
    if Region.wanted o (yielded ops a.tmps) = true then Oper.wp P o a w K Q else E := by
  have hw : Region.wanted o (yielded ops a.tmps) = true := by simp [Region.wanted, hgd]
  rw [if_pos hw]
  exact wp_append_sl s x t ho e i z size bytes ht hi hz hsize hby hzs hsz v n xs hs hown ad m c news hx hl hnews hx0 h1 h63 hbytes h
theorem wpList_append_sl {ops : Array Oper} {rest : List Oper} {o : Oper} {a : Act} {Q : Exit → Act → World → Prop} (hgd : o.guard = none) (s x : Operand) (t : TypeId)
    (ho : o.op = .call { callee := .builtin .append, args := #[s, x], argTypes := #[t, t] })
    (e : TypeId) (i : TypeInfo) (z : Value) (size bytes : Nat) (ht : P.underlying t = some (.slice e)) (hi : P.info? e = some i) (hz : i.zero = some z)
    (hsize : i.size = size) (hby : i.bytes = bytes) (hzs : z.cells.size = size) (hsz : 0 < size)
    (v : Value) (n : Nat) (xs : List Value) (hs : a.eval s = v) (hown : sl w e size v n xs)
    (ad : Option Addr) (m c : Nat) (news : List Value) (hx : a.eval x = .slice ad m c) (hl : news.length = m * size) (hnews : 0 < m → ∃ a, ad = some a ∧ ∀ j u, news[j]? = some u → w.cell? (a.add j) = some u) (hx0 : m = 0 → ad = none → c = 0)
    (h1 : ∀ u ∈ news, u.oneCell' = true) (h63 : n + m ≤ maxLen) (hbytes : (n + m) * bytes ≤ 140737488355328)
    (h : ∀ v' w', sl w' e size v' (n + m) (xs ++ news) → w.grownBy w' v.ownBlock → (v'.ownBlock = v.ownBlock ∨ v'.ownBlock = some w.heap.size) → wpList P ops Q rest (a.put o.dst v') w') :
    wpList P ops Q (o :: rest) a w := by
  refine wpList_plain hgd fun K' hK' => ?_
  exact wp_append_sl s x t ho e i z size bytes ht hi hz hsize hby hzs hsz v n xs hs hown ad m c news hx hl hnews hx0 h1 h63 hbytes (fun v' w' a1 a2 a3 => hK' _ _ (h v' w' a1 a2 a3))
theorem cell_new_one {w : World} {g : Nat} {v : Value} {t : TypeId} (h : w.heap[g]? = some (.cells #[v] t)) : ∀ j u, [v][j]? = some u → w.cell? ((⟨g, 0, none⟩ : Addr).add j) = some u := by
  intro j u hj
  match j, hj with
  | 0, hj =>
    simp at hj
    subst hj
    simp [Addr.add, World.cell?, h]
end
end Go.Proofs.YtgmmglmokkcgeaaGreat.Mk
/- A loop over a map by its pairs. Holds of any program. -/
namespace Go.Proofs.YtgmmglmokkcgeaaGreat.Mk
set_option linter.unusedVariables false
set_option linter.unusedSimpArgs false
open Go Go.ChangeMaps Go.MapKept Go.RowKit

section
variable {K : Type} {ok : K → Prop} {kv : K → Value}

/-- Block r is a loop's place over the map in block bm, of the pairs L; those of 'left' are still to come. -/
def rangeAt (ok : K → Prop) (kv : K → Value) (w : World) (r bm : Nat) (L left : List (K × Value)) : Prop :=
  ∃ es clock since seen c0, w.heap[bm]? = some (.map es clock) ∧ Ent ok kv es clock L ∧ w.heap[r]? = some (.mapIter (some bm) since seen c0) ∧ (∀ x ∈ es.toList, x.born < since) ∧ since ≤ c0 ∧ since ≤ clock ∧
    (leftOf es seen).toList.map (fun e => (e.key, e.val)) = left.map (fun p => (kv p.1, p.2)) ∧ left.Sublist L

theorem rangeAt.stay {w w' : World} {r bm : Nat} {L left : List (K × Value)} (h : rangeAt ok kv w r bm L left) (e1 : w'.heap[bm]? = w.heap[bm]?) (e2 : w'.heap[r]? = w.heap[r]?) : rangeAt ok kv w' r bm L left := by
  obtain ⟨es, c, s, sn, c0, h1, h2, h3, h4⟩ := h
  exact ⟨es, c, s, sn, c0, e1.trans h1, h2, e2.trans h3, h4⟩
theorem rangeAt.map {w : World} {r bm : Nat} {L left : List (K × Value)} (h : rangeAt ok kv w r bm L left) : mapAt ok kv w bm L := by
  obtain ⟨es, c, s, sn, c0, h1, h2, h3, h4⟩ := h
  exact ⟨es, c, h1, h2⟩
theorem rangeAt.lt {w : World} {r bm : Nat} {L left : List (K × Value)} (h : rangeAt ok kv w r bm L left) : bm < w.heap.size ∧ r < w.heap.size ∧ bm ≠ r := by
  obtain ⟨es, c, s, sn, c0, h1, h2, h3, h4⟩ := h
  refine ⟨(Array.getElem?_eq_some_iff.1 h1).1, (Array.getElem?_eq_some_iff.1 h3).1, fun e => ?_⟩
  subst e
  rw [h1] at h3
  cases h3
theorem rangeAt.sub {w : World} {r bm : Nat} {L left : List (K × Value)} (h : rangeAt ok kv w r bm L left) : left.Sublist L := by
  obtain ⟨es, c, s, sn, c0, h1, h2, h3, h4, h5, h5', h6, h7⟩ := h
  exact h7

theorem pairs_cut {es : List MapEntry} {left : List (K × Value)} {A B : List MapEntry} {e : MapEntry} (h : (A ++ e :: B).map (fun e => (e.key, e.val)) = left.map (fun p => (kv p.1, p.2))) :
    ∃ a p b, left = a ++ p :: b ∧ A.map (fun e => (e.key, e.val)) = a.map (fun p => (kv p.1, p.2)) ∧ B.map (fun e => (e.key, e.val)) = b.map (fun p => (kv p.1, p.2)) ∧ e.key = kv p.1 ∧ e.val = p.2 := by
  rw [List.map_append, List.map_cons] at h
  obtain ⟨a, c, rfl, h1, h2⟩ := List.map_eq_append_iff.1 h.symm
  obtain ⟨p, b, rfl, h3, h4⟩ := List.map_eq_cons_iff.1 h2
  simp only [Prod.mk.injEq] at h3
  exact ⟨a, p, b, rfl, h1.symm, h4.symm, h3.1.symm, h3.2.symm⟩

theorem left_push {es : Array MapEntry} {seen : Array Nat} {A B : List MapEntry} {e : MapEntry} (hn : (es.toList.map (·.born)).Nodup) (h : (leftOf es seen).toList = A ++ e :: B) : (leftOf es (seen.push e.born)).toList = A ++ B := by
  have h1 : (leftOf es (seen.push e.born)).toList = (leftOf es seen).toList.filter (fun x => !(x.born == e.born)) := by
    unfold leftOf
    rw [Array.toList_filter, Array.toList_filter, List.filter_filter]
    refine List.filter_congr (fun x _ => ?_)
    rw [contains_push, Bool.not_or, Bool.and_comm]
  have h2 : ((leftOf es seen).toList.map (·.born)).Nodup := by
    unfold leftOf
    rw [Array.toList_filter]
    exact hn.sublist (List.filter_sublist.map _)
  rw [h, List.map_append, List.map_cons] at h2
  have h3 := List.nodup_append.1 h2
  have h4 := List.nodup_cons.1 h3.2.1
  rw [h1, h, List.filter_append, List.filter_cons]
  have f1 : A.filter (fun x => !(x.born == e.born)) = A := List.filter_eq_self.2 (fun x hx => by
    have := h3.2.2 x.born (List.mem_map.2 ⟨x, hx, rfl⟩) e.born (by simp)
    simp [this])
  have f2 : B.filter (fun x => !(x.born == e.born)) = B := List.filter_eq_self.2 (fun x hx => by
    have : x.born ≠ e.born := fun he => h4.1 (by rw [← he]; exact List.mem_map.2 ⟨x, hx, rfl⟩)
    simp [this])
  simp [f1, f2]

theorem rangeAt.left_eq {w : World} {r bm : Nat} {L left : List (K × Value)} (h : rangeAt ok kv w r bm L left) : w.rangeLeft bm r = left.length := by
  obtain ⟨es, c, s, sn, c0, h1, h2, h3, h4, h5, h6, h7, h8⟩ := h
  have := congrArg List.length h7
  simp only [List.length_map, Array.length_toList] at this
  unfold World.rangeLeft
  rw [h1, h3]
  exact this

variable {P : Program} {w : World} {t k e : TypeId} {r bm : Nat} {L left : List (K × Value)}

theorem mapAt.range (h : mapAt ok kv w bm L) (ht : P.underlying t = some (.map k e)) :
    ∃ it, (Instr.range t (.map (some bm))).run P w = .ok (.pointer (some ⟨w.heap.size, 0, none⟩)) (w.alloc it) ∧ rangeAt ok kv (w.alloc it) w.heap.size bm L L := by
  obtain ⟨es, clock, hb, E⟩ := h
  have hlt := (Array.getElem?_eq_some_iff.1 hb).1
  refine ⟨_, run_range_map w t k e bm es clock ht hb, es, clock, clock, #[], clock, (heap_alloc_old w _ hlt).trans hb, E, heap_alloc_new w _, ?_, Nat.le_refl _, Nat.le_refl _, ?_, List.Sublist.refl _⟩
  · exact E.stamped.1
  · have : leftOf es #[] = es := by simp [leftOf]
    rw [this, E.is]

/-- A step: nothing is left, or a pair of those left comes, whichever. -/
theorem rangeAt.next (h : rangeAt ok kv w r bm L left) :
    (left = [] ∧ ∀ ty, (Instr.next (.pointer (some ⟨r, 0, none⟩)) false ty).run P w = .ok (.tuple #[.bool false]) w) ∨
    ∃ a p b w', left = a ++ p :: b ∧ (∀ ty, (Instr.next (.pointer (some ⟨r, 0, none⟩)) false ty).run P w = .ok (.tuple #[.bool true, kv p.1, p.2]) w') ∧ Chg (fun i => i = r) w w' ∧ w'.heap.size = w.heap.size ∧ rangeAt ok kv w' r bm L (a ++ b) ∧
      ∀ u : World, u.heap[r]? = w'.heap[r]? → u.heap[bm]? = w'.heap[bm]? → (Instr.entry (.pointer (some ⟨r, 0, none⟩))).run P u = .ok (.tuple #[kv p.1, p.2]) u := by
  obtain ⟨hl1, hl2, hl3⟩ := h.lt
  obtain ⟨es, clock, since, seen, c0, hb, E, hr, hold, hsc, hsc', hleft, hsub⟩ := h
  by_cases h0 : (leftOf es seen).size = 0
  · refine Or.inl ⟨?_, fun ty => ?_⟩
    · have : leftOf es seen = #[] := Array.eq_empty_of_size_eq_zero h0
      rw [this] at hleft
      simpa using hleft.symm
    · rcases run_next_at (P := P) w ty r bm since c0 seen es clock hr hb hold hsc with ⟨_, hn⟩ | ⟨e, he, _⟩
      · exact hn
      · have : leftOf es seen = #[] := Array.eq_empty_of_size_eq_zero h0
        rw [this] at he
        simp at he
  · refine Or.inr ?_
    rcases run_next_at (P := P) w 0 r bm since c0 seen es clock hr hb hold hsc with ⟨h1, _⟩ | ⟨e, he, w1, hw1, hrun⟩
    · exact absurd h1 h0
    · obtain ⟨A, B, hAB⟩ := List.append_of_mem he
      rw [hAB] at hleft
      obtain ⟨a, p, b, rfl, ha, hbb, hk, hv⟩ := pairs_cut (es := es.toList) hleft
      have hr' : ∀ i, (setBlock w1 r (.mapIter (some bm) since (seen.push e.born) clock)).heap[i]? = if i = r then some (.mapIter (some bm) since (seen.push e.born) clock) else w.heap[i]? := by
        intro i
        have hw : w1.heap = w.heap := by rcases hw1 with rfl | rfl <;> rfl
        by_cases hi : i = r
        · subst hi
          rw [if_pos rfl]
          unfold setBlock
          rw [hw]
          simp [hl2]
        · rw [if_neg hi]
          unfold setBlock
          rw [hw, Array.getElem?_setIfInBounds_ne (Ne.symm hi)]
      have hs' : (setBlock w1 r (.mapIter (some bm) since (seen.push e.born) clock)).heap.size = w.heap.size := by
        have hw : w1.heap = w.heap := by rcases hw1 with rfl | rfl <;> rfl
        simp [setBlock, hw]
      refine ⟨a, p, b, _, rfl, fun ty => ?_, ?_, hs', ?_, ?_⟩
      · rw [← hk, ← hv]
        exact hrun
      · refine ⟨?_, ?_, ?_, ?_, fun i hi hF => ?_⟩
        · rcases hw1 with rfl | rfl <;> rfl
        · rcases hw1 with rfl | rfl <;> rfl
        · rcases hw1 with rfl | rfl <;> rfl
        · omega
        · rw [hr', if_neg hF]
      · refine ⟨es, clock, since, seen.push e.born, clock, by rw [hr', if_neg hl3]; exact hb, E, by rw [hr', if_pos rfl], hold, hsc', hsc', ?_, ?_⟩
        · rw [left_push E.stamped.2.1 hAB, List.map_append, List.map_append, ha, hbb]
        · exact (List.Sublist.append_left (List.sublist_cons_self _ _) _).trans hsub
      · intro u hu1 hu2
        rw [hr', if_pos rfl] at hu1
        rw [hr', if_neg hl3] at hu2
        rw [run_entry_at (P := P) u r bm since seen es clock e hu1 (hu2.trans hb) (mem_left he).1 E.stamped.2.1, hk, hv]
end
end Go.Proofs.YtgmmglmokkcgeaaGreat.Mk
