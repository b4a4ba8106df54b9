/- Walks: DeleteFunc; Trim. -/
import Derived.Test.YtnhookblhckmlaaKg
import Derived.Laws.CopyRow
namespace Go.Proofs.Ytnhookblhckmlaa
open Go.RowKit Mk Go.Sort

theorem ones24 : ∃ z i, Try.prog.info? 24 = some i ∧ i.zero = some z ∧ z.cells.size = 4 ∧ ∀ v ∈ z.cells, v.oneCell' = true := by
  have h : ((Try.prog.info? 24).bind fun i => i.zero.map fun z => (z.cells.size, z.cells.all (·.oneCell'))) = some (4, true) := by kernel_rfl
  cases hi : Try.prog.info? 24 with
  | none => rw [hi] at h; cases h
  | some i =>
    rw [hi] at h
    simp only [Option.bind_some] at h
    cases hz : i.zero with
    | none => rw [hz] at h; cases h
    | some z =>
      rw [hz] at h
      simp only [Option.map_some, Option.some.injEq, Prod.mk.injEq] at h
      exact ⟨z, i, rfl, hz, h.1, fun v hv => by have := Array.all_eq_true'.1 h.2 v hv; exact this⟩
theorem zeroCells_one {zc : Array Value} (h0 : 0 < zc.size) (h : ∀ v ∈ zc, v.oneCell' = true) (n : Nat) : ∀ v ∈ (Builtin.zeroCells zc n).toList, v.oneCell' = true := by
  intro v hv
  unfold Builtin.zeroCells at hv
  simp only [Array.toList_map, List.mem_map] at hv
  obtain ⟨i, _, rfl⟩ := hv
  have : i % zc.size < zc.size := Nat.mod_lt _ h0
  rw [getElem!_pos zc (i % zc.size) this]
  exact h _ (Array.getElem_mem this)
theorem run_clear_row24 (w : World) (g o n c : Nat) (cur : Array Value) (hg : w.heap[g]? = some (.cells cur 24)) (hn : 0 < n) (hfit : o + n * 4 ≤ cur.size) :
    ∃ r : Array Value, (∀ ty, (Builtin.clear_ #[28] ty #[.slice (some ⟨g, o, none⟩) n c]).run Try.prog w = .ok (.tuple #[]) (w.setRow g r)) ∧ r.size = cur.size ∧ r.toList.take o = cur.toList.take o := by
  obtain ⟨z, i, hi, hz, hzs, hone⟩ := ones24
  have hl : (Builtin.zeroCells z.cells n).toList.length = n * 4 := by rw [Array.length_toList, size_zeroCells, hzs]
  have hst := run_storeCells_at Try.prog g o 24 (Builtin.zeroCells z.cells n).toList 0 cur w hg (by rw [hl]; omega) (zeroCells_one (by omega) hone n)
  refine ⟨(cur.toList.take (o + 0) ++ (Builtin.zeroCells z.cells n).toList ++ cur.toList.drop (o + 0 + (Builtin.zeroCells z.cells n).toList.length)).toArray, fun ty => ?_, ?_, ?_⟩
  · obtain ⟨m, rfl⟩ : ∃ m, n = m + 1 := ⟨n - 1, by omega⟩
    simp only [Nat.add_zero] at hst ⊢
    simp [Builtin.clear_, run_underlying Try.underlying28, zeroValue, typeInfo, hi, hz, hst]
  · simp only [List.size_toArray, List.length_append, List.length_take, List.length_drop, Array.length_toList, hl] at *
    omega
  · simp only [Nat.add_zero]
    rw [List.append_assoc, List.take_append_of_le_length (by rw [List.length_take, Array.length_toList]; omega), List.take_take, Nat.min_self]

theorem set4_take {C X : List Value} {i : Nat} (h : C.take (i * 4) = X) (hl : i * 4 + 4 ≤ C.length) (a b c d : Value) :
    ((((C.set (i * 4) a).set (i * 4 + 1) b).set (i * 4 + 2) c).set (i * 4 + 3) d).take ((i + 1) * 4) = X ++ [a, b, c, d] := by
  subst h
  apply List.ext_getElem?
  intro j
  have hX : (C.take (i * 4)).length = i * 4 := by rw [List.length_take]; omega
  by_cases h1 : j < i * 4
  · rw [List.getElem?_append_left (by omega), List.getElem?_take, List.getElem?_take, if_pos (by omega), if_pos h1]
    simp only [List.getElem?_set]
    rw [if_neg (by omega), if_neg (by omega), if_neg (by omega), if_neg (by omega)]
  · rw [List.getElem?_append_right (by omega), hX, List.getElem?_take]
    by_cases h2 : j < (i + 1) * 4
    · rw [if_pos h2]
      obtain ⟨k, hk, rfl⟩ : ∃ k, k < 4 ∧ j = i * 4 + k := ⟨j - i * 4, by omega, by omega⟩
      rw [show i * 4 + k - i * 4 = k by omega]
      have e : ∀ p q : Nat, (i * 4 + p = i * 4 + q) = (p = q) := fun p q => by simp
      match k, hk with
      | 0, _ => simp [List.getElem?_set]; omega
      | 1, _ => simp [List.getElem?_set]; omega
      | 2, _ => simp [List.getElem?_set]; omega
      | 3, _ => simp [List.getElem?_set]; omega
    · rw [if_neg h2, List.getElem?_eq_none]
      simp; omega
theorem set4_drop {C : List Value} {p m : Nat} (h : p + 4 ≤ m) (a b c d : Value) :
    ((((C.set p a).set (p + 1) b).set (p + 2) c).set (p + 3) d).drop m = C.drop m := by
  rw [List.drop_set_of_lt (by omega), List.drop_set_of_lt (by omega), List.drop_set_of_lt (by omega), List.drop_set_of_lt (by omega)]

/-- DeleteFunc, q elements gone through. -/
structure DelAt (w : World) (g cap b3 b7 b6 below : Nat) (s : TrS) (L : List CellM) (cur0 : Array Value) (q i : Nat) (wr : World) : Prop where
  tr : TrAt wr b3 b7 b6 below (stGo below s (L.take q))
  chg : Chg (fun i => i = b6 ∨ i = b7 ∨ i = g) w wr
  len : i = (delGo below s (L.take q)).length
  lt : i < q
  row : ∃ cur, wr.heap[g]? = some (.cells cur 24) ∧ cur.size = cur0.size ∧ cur.toList.take (i * 4) = cellsL (delGo below s (L.take q)) ∧ cur.toList.drop (q * 4) = cur0.toList.drop (q * 4)
theorem row_cells {cur cur0 : Array Value} {w : World} {g q n : Nat} {L : List CellM} (hg : w.heap[g]? = some (.cells cur 24)) (ht : cur0.toList.take (n * 4) = cellsL L) (hd : cur.toList.drop (q * 4) = cur0.toList.drop (q * 4)) (hn : n = L.length) {x : CellM} (hx : L[q]? = some x) :
    w.cell? ⟨g, q * 4, none⟩ = some (.string x.key) ∧ w.cell? ⟨g, q * 4 + 1, none⟩ = some (.int .u64 x.time) ∧ w.cell? ⟨g, q * 4 + 2, none⟩ = some (.bool x.del) ∧ w.cell? ⟨g, q * 4 + 3, none⟩ = some (.string x.val) := by
  have key : ∀ j, j < 4 → ∀ u, (cellL x)[j]? = some u → w.cell? ⟨g, q * 4 + j, none⟩ = some u := fun j hj u hu => by
    refine cell_of hg ?_
    have h1 := cellsL_get hx j hj
    rw [hu, ← ht, List.getElem?_take] at h1
    split at h1
    · have h2 : (cur.toList.drop (q * 4))[j]? = (cur0.toList.drop (q * 4))[j]? := by rw [hd]
      rw [List.getElem?_drop, List.getElem?_drop, h1] at h2
      simpa using h2
    · cases h1
  exact ⟨key 0 (by omega) _ rfl, key 1 (by omega) _ rfl, key 2 (by omega) _ rfl, key 3 (by omega) _ rfl⟩

theorem DelAt.keep {w wr : World} {g cap b3 b7 b6 below : Nat} {s : TrS} {L : List CellM} {cur0 : Array Value} {q i : Nat} (h : DelAt w g cap b3 b7 b6 below s L cur0 q i wr) (hq : q < L.length) (hcs : L.length * 4 ≤ cur0.size) {x : CellM} (hx : L[q]? = some x) {w2 w3 w4 : World}
    (h3 : w3.heap[g]? = wr.heap[g]?) (hc3 : Chg (fun i => i = b6 ∨ i = b7 ∨ i = g) wr w3) (hT : TrAt w3 b3 b7 b6 below (trStep below (stGo below s (L.take q)) x).2) (hne : b3 ≠ g ∧ b6 ≠ g ∧ b7 ≠ g) (hr : (trStep below (stGo below s (L.take q)) x).1 = false)
    (h4 : w4.heap = ((((w3.setCell ⟨g, i * 4, none⟩ (.string x.key)).setCell ⟨g, i * 4 + 1, none⟩ (.int .u64 x.time)).setCell ⟨g, i * 4 + 2, none⟩ (.bool x.del)).setCell ⟨g, i * 4 + 3, none⟩ (.string x.val)).heap) (e2 : w4.os = w3.os) (e3 : w4.tape = w3.tape) (e4 : w4.output = w3.output) :
    DelAt w g cap b3 b7 b6 below s L cur0 (q + 1) (i + 1) w4 := by
  obtain ⟨cur, hg, hsz, ht, hd⟩ := h.row
  have hg3 := h3.trans hg
  have hq4 := Mk.heap_setCell_same (Mk.heap_setCell_same (Mk.heap_setCell_same (Mk.heap_setCell_same (i := i * 4) hg3 (.string x.key)) (i := i * 4 + 1) (.int .u64 x.time)) (i := i * 4 + 2) (.bool x.del)) (i := i * 4 + 3) (.string x.val)
  have hl := h.lt
  have hcl : cur.toList.length = cur.size := Array.length_toList
  have eK : delGo below s (L.take (q + 1)) = delGo below s (L.take q) ++ [x] := by rw [delGo_step hx, hr]; rfl
  have hc4 := (((((Chg.refl (fun i => i = b6 ∨ i = b7 ∨ i = g) w3).setCell (a := ⟨g, i * 4, none⟩) (Or.inl (Or.inr (Or.inr rfl))) (.string x.key)).setCell (a := ⟨g, i * 4 + 1, none⟩) (Or.inl (Or.inr (Or.inr rfl))) (.int .u64 x.time)).setCell (a := ⟨g, i * 4 + 2, none⟩) (Or.inl (Or.inr (Or.inr rfl))) (.bool x.del)).setCell (a := ⟨g, i * 4 + 3, none⟩) (Or.inl (Or.inr (Or.inr rfl))) (.string x.val))
  have hc5 : Chg (fun i => i = b6 ∨ i = b7 ∨ i = g) w3 w4 := ⟨e2, e3, e4, by rw [h4]; exact hc4.size, fun j hj hf => by rw [h4]; exact hc4.block j hj hf⟩
  refine ⟨?_, (h.chg.trans hc3).trans hc5, by rw [eK, List.length_append, ← h.len]; rfl, by omega, _, by rw [h4]; exact hq4, by simpa using hsz, ?_, ?_⟩
  · rw [stGo_step hx]
    refine hT.stay (fun j hj => ?_)
    rw [h4]
    have : j ≠ g := by rcases hj with rfl | rfl | rfl; exact hne.1; exact hne.2.1; exact hne.2.2
    rw [Below.heap_setCell _ _ _ _ this, Below.heap_setCell _ _ _ _ this, Below.heap_setCell _ _ _ _ this, Below.heap_setCell _ _ _ _ this]
  · rw [eK, cellsL_append, cellsL_one]
    simp only [Array.toList_setIfInBounds]
    exact set4_take ht (by omega) _ _ _ _
  · simp only [Array.toList_setIfInBounds]
    rw [set4_drop (by omega)]
    have h6 : (cur.toList.drop (q * 4)).drop 4 = (cur0.toList.drop (q * 4)).drop 4 := by rw [hd]
    rw [List.drop_drop, List.drop_drop] at h6
    rw [show (q + 1) * 4 = q * 4 + 4 by omega]
    exact h6
theorem DelAt.skip {w wr : World} {g cap b3 b7 b6 below : Nat} {s : TrS} {L : List CellM} {cur0 : Array Value} {q i : Nat} (h : DelAt w g cap b3 b7 b6 below s L cur0 q i wr) {x : CellM} (hx : L[q]? = some x) {w3 : World}
    (h3 : w3.heap[g]? = wr.heap[g]?) (hc3 : Chg (fun i => i = b6 ∨ i = b7 ∨ i = g) wr w3) (hT : TrAt w3 b3 b7 b6 below (trStep below (stGo below s (L.take q)) x).2) (hr : (trStep below (stGo below s (L.take q)) x).1 = true) :
    DelAt w g cap b3 b7 b6 below s L cur0 (q + 1) i w3 := by
  obtain ⟨cur, hg, hsz, ht, hd⟩ := h.row
  have eK : delGo below s (L.take (q + 1)) = delGo below s (L.take q) := by rw [delGo_step hx, hr]; simp
  refine ⟨by rw [stGo_step hx]; exact hT, h.chg.trans hc3, by rw [eK]; exact h.len, by have := h.lt; omega, cur, h3.trans hg, hsz, by rw [eK]; exact ht, ?_⟩
  have h6 : (cur.toList.drop (q * 4)).drop 4 = (cur0.toList.drop (q * 4)).drop 4 := by rw [hd]
  rw [List.drop_drop, List.drop_drop] at h6
  rw [show (q + 1) * 4 = q * 4 + 4 by omega]
  exact h6

def DelPost (w : World) (lv : Value) (b3 b7 b6 below : Nat) (s : TrS) (L : List CellM) (e : Ending) (w' : World) : Prop :=
  ∃ v', e = .returned v' ∧ Has w' v' (delGo below s L) ∧ Chg (fun i => i = b6 ∨ i = b7 ∨ lv.ownBlock = some i) w w' ∧ v'.ownBlock = lv.ownBlock

set_option maxRecDepth 100000 in
set_option maxHeartbeats 4000000 in
theorem delete_any {w : World} {lv : Value} {L : List CellM} (h : Has w lv L) (hL : L.length ≤ 1099511627776) {b3 b7 b6 below : Nat} {s : TrS} (hT : TrAt w b3 b7 b6 below s) (hs : ∀ g, lv.ownBlock = some g → g ≠ b3 ∧ g ≠ b6 ∧ g ≠ b7) :
    Calls Try.prog 36 #[lv, .func (.func 37) #[] #[.pointer (some ⟨b3, 0, none⟩), .pointer (some ⟨b7, 0, none⟩), .pointer (some ⟨b6, 0, none⟩)]] w fun e w' => DelPost w lv b3 b7 b6 below s L e w' := by
  have ID := Lib.hid (idx_any h hL hT (fun g hg => (hs g hg).2))
  have TR := Lib.hid (fun (w : World) (s : TrS) (h : TrAt w b3 b7 b6 below s) (x : CellM) => trim1_any h x)
  have HH := Lib.hid h
  have HS := Lib.hid hs
  obtain ⟨o, c, rfl⟩ := h.shape
  clear hT hs
  go_enter Try.func36, Try.ntmps36
  go_wp2_with fail
  refine ID.out.mono ?_
  rintro e w1 ⟨hc1, ⟨k, x, hx, hr, hk, rfl, hT1⟩ | ⟨hk, rfl, hT1⟩⟩
  · have hkl : k < L.length := (List.getElem?_eq_some_iff.1 hx).1
    rcases h.2 with ⟨e1, e0⟩ | ⟨g, cap, cur, e1, hg, hnc, hcm, hcs, ht⟩
    · omega
    cases e1
    obtain ⟨s3, s6, s7⟩ := HS.out g rfl
    have hg1 : w1.heap[g]? = some (.cells cur 24) := (hc1.block g (Array.getElem?_eq_some_iff.1 hg).1 (fun e => e.elim s6 s7)).trans hg
    have hD : DelAt w g c b3 b7 b6 below s L cur (k + 1) k w1 := by
      have hkl2 : (L.take k).length = k := by rw [List.length_take]; omega
      refine ⟨hT1, hc1.mono (fun i e => e.elim Or.inl (fun e => Or.inr (Or.inl e))), ?_, by omega, cur, hg1, rfl, ?_, rfl⟩
      · rw [delGo_step hx, hr, hk]; simp [hkl2]
      · rw [delGo_step hx, hr, hk]
        simp only [if_true, List.append_nil]
        rw [cellsL_take, ← ht, List.take_take]
        congr 1
        omega
    have HD := Lib.hid hD
    have HT0 := Lib.hid ht
    have q0 : ((k : Int) == -1) = false := by rw [beq_eq_false_iff_ne]; omega
    have b0 : k ≤ 1099511627776 := by omega
    have hcs4 : L.length * 4 ≤ cur.size := by omega
    have HCS := Lib.hid hcs4
    clear hD hg1 hg ht hT1 hk hr hx hc1 ID h HH
    go_wp2
    go_loopw [5, 6] (fun i j wr => ∃ a q : Nat, i = .int .i64 a ∧ j = .int .i64 q ∧ a ≤ 1099511627776 ∧ q ≤ L.length ∧ a < q ∧ Hid (DelAt w g c b3 b7 b6 below s L cur q a wr)) (fun _ j _ => L.length - (intOf j).toNat)
    case atStart => exact ⟨k, k + 1, rfl, by go_num, b0, by omega, by omega, HD⟩
    case round =>
      obtain ⟨a, q, rfl, rfl, ha, hq, haq, HA⟩ := hrel
      by_cases hlt : q < L.length
      · obtain ⟨x, hx⟩ : ∃ x, L[q]? = some x := ⟨L[q]'hlt, List.getElem?_eq_getElem hlt⟩
        obtain ⟨cur1, hg1, hsz1, ht1, hd1⟩ := HA.out.row
        obtain ⟨h0, h1, h2, h3⟩ := row_cells hg1 HT0.out hd1 rfl hx
        have hgl := (Array.getElem?_eq_some_iff.1 hg1).1
        obtain ⟨W2, HW2⟩ : ∃ W, Hid (wr.alloc (.cells #[.string x.key, .int .u64 x.time, .bool x.del, .string x.val] 24) = W) := ⟨_, Lib.hid rfl⟩
        have hk2 : RowKit.Below wr.heap.size wr W2 := by rw [← HW2.out]; exact (Below.refl _ wr).alloc (Nat.le_refl _) _
        have hn2 : W2.heap[wr.heap.size]? = some (.cells #[.string x.key, .int .u64 x.time, .bool x.del, .string x.val] 24) := by rw [← HW2.out]; exact Go.heap_alloc_new _ _
        have C := TR.out W2 _ (HA.out.tr.below hk2) x
        have n3 : b3 < wr.heap.size ∧ b6 < wr.heap.size ∧ b7 < wr.heap.size := ⟨HA.out.tr.lt _ (by simp), HA.out.tr.lt _ (by simp), HA.out.tr.lt _ (by simp)⟩
        have HN := Lib.hid hn2
        have l0 : (0 : Int) ≤ q := by omega
        have l1 : (q : Int) < L.length := by omega
        have a0 : (0 : Int) ≤ a := by omega
        have a1 : (a : Int) < L.length := by omega
        have q1 : decide (q < L.length) = true := by simpa using hlt
        have HB := Lib.hid (chg_of_below hk2)
        have HG1 := Lib.hid ((hk2.block g hgl).trans hg1)
        have HKEEP := Lib.hid (fun (w3 w4 : World) (hp : TrPost W2 b3 b7 b6 below (trStep below (stGo below s (L.take q)) x) w3) => HA.out.keep (w2 := W2) (w3 := w3) (w4 := w4) hlt HCS.out hx
          ((hp.2.block g (by have := hk2.size; omega) (fun e => e.elim s6 s7)).trans (hk2.block g hgl)) (((chg_of_below hk2).mono (fun _ f => f.elim)).trans (hp.2.mono (fun i e => e.elim Or.inl (fun e => Or.inr (Or.inl e))))) hp.1 ⟨Ne.symm s3, Ne.symm s6, Ne.symm s7⟩)
        have HSKIP := Lib.hid (fun (w3 : World) (hp : TrPost W2 b3 b7 b6 below (trStep below (stGo below s (L.take q)) x) w3) => HA.out.skip hx
          ((hp.2.block g (by have := hk2.size; omega) (fun e => e.elim s6 s7)).trans (hk2.block g hgl)) (((chg_of_below hk2).mono (fun _ f => f.elim)).trans (hp.2.mono (fun i e => e.elim Or.inl (fun e => Or.inr (Or.inl e))))) hp.1)
        have HBLK := Lib.hid (fun (w3 : World) (hp : TrPost W2 b3 b7 b6 below (trStep below (stGo below s (L.take q)) x) w3) => (show w3.heap[wr.heap.size]? = some (.cells #[.string x.key, .int .u64 x.time, .bool x.del, .string x.val] 24) ∧ w3.heap[g]? = some (.cells cur1 24) from
          ⟨(hp.2.block _ (Array.getElem?_eq_some_iff.1 hn2).1 (fun e => e.elim (by omega) (by omega))).trans hn2, (hp.2.block g (by have := hk2.size; omega) (fun e => e.elim s6 s7)).trans HG1.out⟩))
        have hfit : a * 4 + 3 < cur1.size := by have := HCS.out; omega
        generalize hr : trStep below (stGo below s (L.take q)) x = r at *
        obtain ⟨xk, xt, xd, xv⟩ := x
        unfold cellV at C
        simp only at C h0 h1 h2 h3
        clear hx hr hk2 hn2 hg1 hd1 ht1 hsz1 n3
        obtain ⟨rb, s'⟩ := r
        cases rb
        · go_wp2_with fail
          rw [HW2.out]
          refine C.mono ?_
          rintro e w3 ⟨rfl, hp⟩
          obtain ⟨m1, m2⟩ := HBLK.out w3 hp
          have x0 : w3.cell? ⟨wr.heap.size, 0, none⟩ = some (.string xk) := cell_of m1 rfl
          have x1 : w3.cell? ⟨wr.heap.size, 1, none⟩ = some (.int .u64 xt) := cell_of m1 rfl
          have x2 : w3.cell? ⟨wr.heap.size, 2, none⟩ = some (.bool xd) := cell_of m1 rfl
          have x3 : w3.cell? ⟨wr.heap.size, 3, none⟩ = some (.string xv) := cell_of m1 rfl
          have y0 : w3.cell? ⟨g, a * 4, none⟩ = some (cur1[a * 4]'(by omega)) := cell_of m2 (Array.getElem?_eq_getElem _)
          have y1 : w3.cell? ⟨g, a * 4 + 1, none⟩ = some (cur1[a * 4 + 1]'(by omega)) := cell_of m2 (Array.getElem?_eq_getElem _)
          have y2 : w3.cell? ⟨g, a * 4 + 2, none⟩ = some (cur1[a * 4 + 2]'(by omega)) := cell_of m2 (Array.getElem?_eq_getElem _)
          have y3 : w3.cell? ⟨g, a * 4 + 3, none⟩ = some (cur1[a * 4 + 3]'(by omega)) := cell_of m2 (Array.getElem?_eq_getElem _)
          have f0 : w3.frozen? ⟨g, a * 4, none⟩ = false := frozen_of m2
          have f1 : w3.frozen? ⟨g, a * 4 + 1, none⟩ = false := frozen_of m2
          have f2 : w3.frozen? ⟨g, a * 4 + 2, none⟩ = false := frozen_of m2
          have f3 : w3.frozen? ⟨g, a * 4 + 3, none⟩ = false := frozen_of m2
          have HP := Lib.hid hp
          clear hp C m1 m2 h0 h1 h2 h3
          go_wp2
          go_round
          case rel => exact ⟨a + 1, q + 1, by go_num, by go_num, by omega, by omega, by omega, Lib.hid (HKEEP.out w3 _ HP.out trivial rfl rfl rfl rfl)⟩
          case measure => simp [intOf]; omega
        · go_wp2_with fail
          rw [HW2.out]
          refine C.mono ?_
          rintro e w3 ⟨rfl, hp⟩
          have HP := Lib.hid hp
          clear hp C h0 h1 h2 h3
          go_wp2
          go_round
          case rel => exact ⟨a, q + 1, rfl, by go_num, by omega, by omega, by omega, Lib.hid (HSKIP.out w3 HP.out trivial)⟩
          case measure => simp [intOf]; omega
      · obtain rfl : q = L.length := by omega
        obtain ⟨cur1, hg1, hsz1, ht1, hd1⟩ := HA.out.row
        rw [List.take_length] at ht1
        have hlen := HA.out.len
        rw [List.take_length] at hlen
        obtain ⟨r, hr1, hr2, hr3⟩ := run_clear_row24 wr g (a * 4) (L.length - a) (c - a) cur1 hg1 (by omega) (by have := HCS.out; omega)
        have q1 : decide (L.length < L.length) = false := by simp
        have a0 : (0 : Int) ≤ a := by omega
        have a1 : (a : Int) ≤ L.length := by omega
        have a2 : ¬ (c = a) := by omega
        have a3 : a ≤ L.length := by omega
        have a4 : (a : Int) ≤ c := by omega
        have a5 : c ≤ 9223372036854775807 := by simp only [maxLen] at hcm; omega
        have HF := Lib.hid (show DelPost w (.slice (some ⟨g, 0, none⟩) L.length c) b3 b7 b6 below s L (.returned (.slice (some ⟨g, 0, none⟩) a c)) (wr.setRow g r) from by
          refine ⟨_, rfl, ⟨by rw [cellsL_len]; omega, Or.inr ⟨g, c, r, by rw [hlen], setRow_heap wr g cur1 _ 24 _ hg1, by omega, hcm, by rw [hr2, hsz1]; exact hcs, ?_⟩⟩, ?_, rfl⟩
          · rw [← hlen, hr3, ht1]
          · refine (HA.out.chg.mono (fun i e => ?_)).setRow (Or.inl (Or.inr (Or.inr rfl))) _
            rcases e with e | e | e
            · exact Or.inl e
            · exact Or.inr (Or.inl e)
            · exact Or.inr (Or.inr (by rw [e]; rfl)))
        clear hg1 hsz1 ht1 hd1 hlen hr2 hr3
        go_wp2
        go_ret
        exact HF.out
  · have q0 : ((-1 : Int) == -1) = true := rfl
    have HF := Lib.hid (show DelPost w (.slice o L.length c) b3 b7 b6 below s L (.returned (.slice o L.length c)) w1 from by
      refine ⟨_, rfl, ?_, hc1.mono (fun i e => e.elim Or.inl (fun e => Or.inr (Or.inl e))), rfl⟩
      rw [hk]
      exact sl.stay HH.out (fun g hg => hc1.block g (sl.lt HH.out hg) (fun e => e.elim (HS.out g hg).2.1 (HS.out g hg).2.2)))
    clear hc1 hk hT1 ID h HH
    go_wp2
    go_ret
    exact HF.out
end Go.Proofs.Ytnhookblhckmlaa
