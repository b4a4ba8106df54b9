/- Walks: Insert, wherever. -/
import Derived.Test.YtnhookblhckmlaaKb
import Derived.Lib.AppendZerosOnto
import Derived.Lib.Overlaps
import Derived.Laws.CopyRow
import Derived.Shelf.Spec.SlicesInsert
namespace Go.Proofs.Ytnhookblhckmlaa
open Go.RowKit Mk Go.Sort Go.Shelf Go.Lib

/-- copy onto a row, of elements of whatever size. -/
theorem run_copy_rowK {P : Program} (w : World) (dT sT ty elem : TypeId) (size : Nat) (g o dLen dCap : Nat) (a : Addr) (sLen sCap : Nat) (cur : Array Value) (t : TypeId) (cs : List Value)
    (hu : P.underlying dT = some (.slice elem)) (hs : (P.info? elem).map (·.size) = some size)
    (hg : w.heap[g]? = some (.cells cur t (0, 0))) (hn : cs.length = Nat.min sLen dLen * size)
    (hsrc : ∀ j v, cs[j]? = some v → w.cell? (a.add j) = some v) (hfit : o + cs.length ≤ cur.size) (h1 : ∀ v ∈ cs, v.oneCell' = true) :
    (Builtin.copy_ #[dT, sT] ty #[.slice (some ⟨g, o, none⟩) dLen dCap, .slice (some a) sLen sCap]).run P w =
      .ok (goInt (Nat.min sLen dLen)) (w.setRow g (cur.toList.take o ++ cs ++ cur.toList.drop (o + cs.length)).toArray) := by
  have hl := run_loadCells_list (P := P) w a cs hsrc
  have hst := run_storeCells_at P g o t cs 0 cur w hg (by simpa using hfit) h1
  cases hq : P.info? elem with
  | none => simp [hq] at hs
  | some i =>
    have hi : i.size = size := by simpa [hq] using hs
    simp [Builtin.copy_, run_underlying hu, Builtin.lenOf, Builtin.firstCells, sizeOf, typeInfo, hq, hi, ← hn, hl, hst]

theorem cellsL_append (A B : List CellM) : cellsL (A ++ B) = cellsL A ++ cellsL B := by simp [cellsL]
theorem cellsL_one (x : CellM) : cellsL [x] = cellL x := by simp [cellsL]
theorem cellsL_take (L : List CellM) (i : Nat) : cellsL (L.take i) = (cellsL L).take (i * 4) := by
  induction L generalizing i with
  | nil => simp [cellsL]
  | cons c L ih =>
    cases i with
    | zero => simp [cellsL]
    | succ i =>
      have := ih i
      simp only [cellsL, List.take_succ_cons, List.flatMap_cons] at *
      have h4 : (cellL c).length = 4 := by simp [cellL]
      rw [this, List.take_append, List.take_of_length_le (l := cellL c) (by omega), h4, show (i + 1) * 4 - 4 = i * 4 by omega]
theorem cellsL_drop (L : List CellM) (i : Nat) : cellsL (L.drop i) = (cellsL L).drop (i * 4) := by
  by_cases hi : i ≤ L.length
  · have h := cellsL_append (L.take i) (L.drop i)
    rw [List.take_append_drop, cellsL_take] at h
    generalize cellsL (L.drop i) = D at *
    have hl := cellsL_len L
    rw [h, List.drop_append_of_le_length (by rw [List.length_take]; omega), List.drop_of_length_le (l := List.take (i * 4) (cellsL L)) (by rw [List.length_take]; omega), List.nil_append]
  · have e : L.drop i = [] := List.drop_of_length_le (by omega)
    rw [e, List.drop_of_length_le (l := cellsL L) (by rw [cellsL_len]; omega)]
    rfl
theorem cellsL_cell (L : List CellM) : ∀ v ∈ cellsL L, v.oneCell' = true := by
  intro v hv
  simp only [cellsL, List.mem_flatMap] at hv
  obtain ⟨c, _, hv⟩ := hv
  simp [cellL] at hv
  rcases hv with rfl | rfl | rfl | rfl <;> simp [Value.oneCell']
theorem size24 : (Try.prog.info? 24).map (·.size) = some 4 := by kernel_rfl
theorem sizeOf24 (w : World) : (Go.sizeOf 24).run Try.prog w = .ok 4 w := by
  obtain ⟨i6, z6, hi6, hz6, hsz6, hby6, hzs6⟩ := info24
  simp [Go.sizeOf, typeInfo, hi6, hsz6]

/-- Where a cell is put in at i. -/
def atM (L : List CellM) (i : Nat) (x : CellM) : List CellM := L.take i ++ x :: L.drop i
theorem cells_at (L : List CellM) (i : Nat) (x : CellM) : cellsL (atM L i x) = (cellsL L).take (i * 4) ++ (cellL x ++ (cellsL L).drop (i * 4)) := by
  unfold atM
  rw [cellsL_append, cellsL_take]
  show _ ++ cellsL ([x] ++ L.drop i) = _
  rw [cellsL_append, cellsL_one, cellsL_drop]
theorem atM_len (L : List CellM) {i : Nat} (x : CellM) (h : i ≤ L.length) : (atM L i x).length = L.length + 1 := by
  unfold atM
  simp only [List.length_append, List.length_take, List.length_cons, List.length_drop]
  omega

/-- The row when all that stood from i on has gone one place on. -/
theorem shift_row {cur : List Value} {X A : List Value} {n i : Nat} (hi : i ≤ n) (hX : X.length = n * 4) (hA : A.length = 4) (hcur : (n + 1) * 4 ≤ cur.length) (ht : cur.take (n * 4) = X) :
    let r1 := cur.take ((i + 1) * 4) ++ X.drop (i * 4) ++ cur.drop ((i + 1) * 4 + (X.drop (i * 4)).length)
    let r2 := r1.take (i * 4) ++ A ++ r1.drop (i * 4 + A.length)
    r1.length = cur.length ∧ r2.length = cur.length ∧ r2.take ((n + 1) * 4) = X.take (i * 4) ++ (A ++ X.drop (i * 4)) := by
  intro r1 r2
  have l1 : r1.length = cur.length := by
    simp only [r1, List.length_append, List.length_take, List.length_drop, hX]
    omega
  have l2 : r2.length = cur.length := by
    simp only [r2, List.length_append, List.length_take, List.length_drop, l1, hA]
    omega
  refine ⟨l1, l2, ?_⟩
  have e1 : r1.take (i * 4) = X.take (i * 4) := by
    simp only [r1]
    rw [List.append_assoc, List.take_append_of_le_length (by rw [List.length_take]; omega), List.take_take, ← ht, List.take_take]
    congr 1
    omega
  have e2 : (r1.drop (i * 4 + 4)) = X.drop (i * 4) ++ cur.drop ((i + 1) * 4 + (X.drop (i * 4)).length) := by
    simp only [r1]
    rw [List.append_assoc, List.drop_append_of_le_length (by rw [List.length_take]; omega), List.drop_of_length_le (by rw [List.length_take]; omega), List.nil_append]
  show (r1.take (i * 4) ++ A ++ r1.drop (i * 4 + A.length)).take ((n + 1) * 4) = _
  rw [hA, e1, e2, List.append_assoc, ← List.append_assoc A, ← List.append_assoc]
  rw [List.take_append_of_le_length (by simp only [List.length_append, List.length_take, List.length_drop, hX, hA]; omega)]
  rw [List.take_of_length_le (by simp only [List.length_append, List.length_take, List.length_drop, hX, hA]; omega)]

set_option maxRecDepth 100000 in
set_option maxHeartbeats 4000000 in
theorem insert_shift {w : World} {g cap : Nat} {L : List CellM} {cur : Array Value} (hg : w.heap[g]? = some (.cells cur 24)) (hcm : cap ≤ maxLen) (hcs : cap * 4 ≤ cur.size) (ht : cur.toList.take (L.length * 4) = cellsL L)
    (x : CellM) {xb : Nat} {t : TypeId} (hx : w.heap[xb]? = some (.cells (cellL x).toArray t)) (hne : xb ≠ g) {i : Nat} (hi : i < L.length) (hroom : L.length + 1 ≤ cap) :
    Calls Try.prog 33 #[.slice (some ⟨g, 0, none⟩) L.length cap, .int .i64 i, .slice (some ⟨xb, 0, none⟩) 1 1] w fun e w' => e = .returned (.slice (some ⟨g, 0, none⟩) (L.length + 1) cap) ∧
      ∃ r : List Value, w' = w.drew.setRow g r.toArray ∧ r.length = cur.size ∧ r.take ((L.length + 1) * 4) = cellsL (atM L i x) := by
  have hXl : (cellsL L).length = L.length * 4 := by rw [cellsL_len]; omega
  obtain ⟨S1, S2, S3⟩ := shift_row (cur := cur.toList) (X := cellsL L) (A := cellL x) (n := L.length) (i := i) (by omega) hXl (by simp [cellL]) (by have := Array.length_toList (xs := cur); omega) ht
  rw [← cells_at] at S3
  generalize hr1 : (List.take ((i + 1) * 4) cur.toList ++ List.drop (i * 4) (cellsL L) ++ List.drop ((i + 1) * 4 + (List.drop (i * 4) (cellsL L)).length) cur.toList) = r1 at *
  have hcells : ∀ j u, (cellsL L)[j]? = some u → w.cell? ⟨g, j, none⟩ = some u := fun j u hj => by
    refine cell_of hg ?_
    rw [← ht, List.getElem?_take] at hj
    split at hj
    · simpa using hj
    · cases hj
  have hcp1 : ∀ ty dc sc, (Builtin.copy_ #[28, 28] ty #[.slice (some ⟨g, (i + 1) * 4, none⟩) (L.length - i) dc, .slice (some ⟨g, i * 4, none⟩) (L.length + 1 - i) sc]).run Try.prog w.drew = .ok (goInt (Nat.min (L.length + 1 - i) (L.length - i))) (w.drew.setRow g r1.toArray) := fun ty dc sc => by
    have := run_copy_rowK (P := Try.prog) w.drew 28 28 ty 24 4 g ((i + 1) * 4) (L.length - i) dc ⟨g, i * 4, none⟩ (L.length + 1 - i) sc cur 24 ((cellsL L).drop (i * 4)) Try.underlying28 size24 hg
      (by rw [List.length_drop, hXl]; simp only [Nat.min_def]; split <;> omega) (fun j v hj => by
        rw [List.getElem?_drop] at hj
        rw [Addr.add_lit]
        exact hcells _ _ hj) (by rw [List.length_drop, hXl]; omega) (fun v hv => cellsL_cell L v (List.mem_of_mem_drop hv))
    rw [hr1] at this
    exact this
  have hg1 : (w.drew.setRow g r1.toArray).heap[g]? = some (.cells r1.toArray 24) := setRow_heap w.drew g cur _ 24 _ hg
  have hxb : w.heap[xb]? = (w.drew.setRow g r1.toArray).heap[xb]? := (setRow_other w.drew g xb _ hne).symm
  have hcp2 : ∀ (W : World), W.heap = (w.drew.setRow g r1.toArray).heap → ∀ ty dc, (Builtin.copy_ #[28, 28] ty #[.slice (some ⟨g, i * 4, none⟩) (L.length + 1 - i) dc, .slice (some ⟨xb, 0, none⟩) 1 1]).run Try.prog W = .ok (goInt (Nat.min 1 (L.length + 1 - i))) (W.setRow g (r1.take (i * 4) ++ cellL x ++ r1.drop (i * 4 + (cellL x).length)).toArray) := fun W hW ty dc => by
    have := run_copy_rowK (P := Try.prog) W 28 28 ty 24 4 g (i * 4) (L.length + 1 - i) dc ⟨xb, 0, none⟩ 1 1 r1.toArray 24 (cellL x) Try.underlying28 size24 (by rw [hW]; exact hg1)
      (by simp only [Nat.min_def]; split <;> simp [cellL] <;> omega) (fun j v hj => by
        rw [Addr.add_lit, Nat.zero_add]
        refine cell_of (by rw [hW, ← hxb]; exact hx) ?_
        simpa using hj) (by rw [List.size_toArray, S1, Array.length_toList]; simp [cellL]; omega) (fun v hv => cellsL_cell [x] v (by rw [cellsL_one]; exact hv))
    simpa using this
  have hov : ∀ lb cb, (callFunc 45 #[.slice (some ⟨xb, 0, none⟩) 1 1, .slice (some ⟨g, (i + 1) * 4, none⟩) lb cb]).run Try.prog w = .ok (.value (.bool false)) w := fun lb cb => by
    rw [run_callFunc_extern Try.func45 (by kernel_rfl) (by kernel_rfl) (by kernel_rfl) (e := Extern.SlicesOverlaps.overlaps #[28, 28] #[4]) (by kernel_rfl),
      Lib.run_overlaps_apart w 28 4 24 Try.underlying28 4 sizeOf24 ⟨xb, 0, none⟩ ⟨g, (i + 1) * 4, none⟩ 1 1 lb cb hne t 24 4 cur.size (by simp [World.shape?, hx, cellL]) (by simp [World.shape?, hg]) (by omega) (by simp [World.frozen?, hx]) (by simp [World.frozen?, hx])]
    rfl
  have hz1 : ¬ ((1 : Int) = 0) := by omega
  have hz2 : ¬ ((i : Int) = (L.length : Int)) := by omega
  have hb1 : (0 : Int) ≤ (i : Int) + 1 := by omega
  have hin : i ≤ L.length := by omega
  have hb2 : ¬ (cap = i + 1) := by omega
  have hb3 : (i : Int) ≤ (L.length : Int) + 1 := by omega
  have hb4 : ¬ (cap = i) := by omega
  have hb5 : cap ≤ 9223372036854775807 := by simp only [maxLen] at hcm; omega
  have hw1 : IntKind.i64.wrap ((i : Int) + 1) = (i : Int) + 1 := by rw [IntKind.wrap_i64]; omega
  have htn : ((i : Int) + 1).toNat = i + 1 := by omega
  obtain ⟨xl, HXL⟩ : ∃ xl, Hid (cellL x = xl) := ⟨_, Lib.hid rfl⟩
  rw [HXL.out] at hcp2 S2 S3
  generalize hLn : L.length = n at *
  have HN := Lib.hid hLn
  clear hLn
  have HS2 := Lib.hid S2
  have HS3 := Lib.hid S3
  have HCP1 := Lib.hid hcp1
  have HCP2 := Lib.hid hcp2
  have HR1 := Lib.hid hr1
  have HX := Lib.hid hx
  have HG := Lib.hid hg
  clear hr1 S1 S2 S3 hcp1 hcp2 hg1 hxb hg hx hcs ht hcells hXl hcm
  go_enter Try.func33, Try.ntmps33
  go_wp2_with (simp only [hov])
  go_region_law (refine step_copy_runI rfl _ _ 28 28 rfl (.slice (some ⟨g, (i + 1) * 4, none⟩) (n - i) (cap - (i + 1))) (.slice (some ⟨g, i * 4, none⟩) (n + 1 - i) (cap - i)) (by simp [Act.eval, Act.put]) (by simp [Act.eval, Act.put]) (HCP1.out 3 _ _) ?_)
  have q := HCP2.out (w.drew.setRow g r1.toArray) rfl 3 (cap - i)
  clear HCP1 HR1 HX HG hov
  go_wp2
  go_ret
  refine ⟨rfl, _, ?_, by rw [HS2.out, Array.length_toList], HS3.out⟩
  rw [setRow_setRow, List.append_assoc]

/-- The new row: what stood ahead, the cell, what stood behind. -/
theorem grow_row {R : List Value} {X A : List Value} {n i G : Nat} (hi : i ≤ n) (hX : X.length = n * 4) (hA : A.length = 4) (hR : R.length = G * 4) (hG : n + 1 ≤ G) (ht : R.take (i * 4) = X.take (i * 4)) :
    let r1 := R.take (i * 4) ++ A ++ R.drop (i * 4 + A.length)
    let r2 := r1.take ((i + 1) * 4) ++ X.drop (i * 4) ++ r1.drop ((i + 1) * 4 + (X.drop (i * 4)).length)
    r1.length = G * 4 ∧ r2.length = G * 4 ∧ r2.take ((n + 1) * 4) = X.take (i * 4) ++ (A ++ X.drop (i * 4)) := by
  intro r1 r2
  have l1 : r1.length = G * 4 := by
    simp only [r1, List.length_append, List.length_take, List.length_drop, hR, hA]
    omega
  have l2 : r2.length = G * 4 := by
    simp only [r2, List.length_append, List.length_take, List.length_drop, l1, hX]
    omega
  refine ⟨l1, l2, ?_⟩
  have e1 : r1.take ((i + 1) * 4) = X.take (i * 4) ++ A := by
    simp only [r1]
    rw [ht, List.take_append_of_le_length (by simp only [List.length_append, List.length_take, hX, hA]; omega), List.take_of_length_le (by simp only [List.length_append, List.length_take, hX, hA]; omega)]
  show (r1.take ((i + 1) * 4) ++ X.drop (i * 4) ++ r1.drop ((i + 1) * 4 + (X.drop (i * 4)).length)).take ((n + 1) * 4) = _
  rw [e1, List.take_append_of_le_length (by simp only [List.length_append, List.length_take, List.length_drop, hX, hA]; omega), List.take_of_length_le (by simp only [List.length_append, List.length_take, List.length_drop, hX, hA]; omega), List.append_assoc]

set_option maxRecDepth 100000 in
set_option maxHeartbeats 4000000 in
theorem insert_grow {w : World} {g cap : Nat} {L : List CellM} {cur : Array Value} (hg : w.heap[g]? = some (.cells cur 24)) (hcs : cap * 4 ≤ cur.size) (ht : cur.toList.take (L.length * 4) = cellsL L)
    (x : CellM) {xb : Nat} {t : TypeId} (hx : w.heap[xb]? = some (.cells (cellL x).toArray t)) {i : Nat} (hi : i < L.length) (hnc : L.length ≤ cap) (hroom : cap < L.length + 1) (hL : L.length ≤ 1099511627776) :
    Calls Try.prog 33 #[.slice (some ⟨g, 0, none⟩) L.length cap, .int .i64 i, .slice (some ⟨xb, 0, none⟩) 1 1] w fun e w' => ∃ G, e = .returned (.slice (some ⟨w.heap.size, 0, none⟩) (L.length + 1) G) ∧ L.length + 1 ≤ G ∧ G ≤ maxLen ∧
      ∃ (R r : List Value), w' = ((w.alloc (.cells R.toArray 24)).drew.drew).setRow w.heap.size r.toArray ∧ r.length = G * 4 ∧ r.take ((L.length + 1) * 4) = cellsL (atM L i x) := by
  have hXl : (cellsL L).length = L.length * 4 := by rw [cellsL_len]; omega
  obtain ⟨i6, z6, hi6, hz6, hsz6, hby6, hzs6⟩ := info24
  have hcells : ∀ j u, (cellsL L)[j]? = some u → w.cell? ⟨g, j, none⟩ = some u := fun j u hj => by
    refine cell_of hg ?_
    rw [← ht, List.getElem?_take] at hj
    split at hj
    · simpa using hj
    · cases hj
  have hold : (Builtin.firstCells i6.size i (.slice (some ⟨g, 0, none⟩) i cap)).run Try.prog w.drew = .ok ((cellsL L).take (i * 4)).toArray w.drew := by
    rw [hsz6]
    exact run_firstCells_some w.drew 4 i ⟨g, 0, none⟩ i cap ((cellsL L).take (i * 4)) (by rw [List.length_take]; omega) (fun j v hj => by
      rw [Addr.add_lit, Nat.zero_add]
      rw [List.getElem?_take] at hj
      split at hj
      · exact hcells j v hj
      · cases hj)
  have hik : i + (L.length + 1 - i) = L.length + 1 := by omega
  have hkk : (L.length : Int) + 1 - (i : Int) = ((L.length + 1 - i : Nat) : Int) := by omega
  obtain ⟨G, hG⟩ : ∃ G, G = grownCap w (L.length + 1) cap 24 := ⟨_, rfl⟩
  have hGn : L.length + 1 ≤ G := by rw [hG]; exact grownCap_ge w _ _ _
  have hGm : G ≤ maxLen := by rw [hG]; exact grownCap_le_maxLen w (L.length + 1) cap 24 (by simp only [maxLen]; omega)
  obtain ⟨R, hR⟩ : ∃ R : List Value, R = (((cellsL L).take (i * 4)).toArray ++ Builtin.zeroCells z6.cells (L.length + 1 - i) ++ Builtin.zeroCells z6.cells (G - (L.length + 1))).toList := ⟨_, rfl⟩
  have hRl : R.length = G * 4 := by
    rw [hR]
    simp only [Array.toList_append, List.length_append, Array.length_toList, size_zeroCells, hzs6, List.size_toArray, List.length_take, hXl]
    omega
  have hRt : R.take (i * 4) = (cellsL L).take (i * 4) := by
    rw [hR]
    simp only [Array.toList_append, List.append_assoc]
    rw [List.take_append_of_le_length (by simp only [List.length_take, hXl]; omega), List.take_of_length_le (by simp only [List.length_take, hXl]; omega)]
  have hrz : ∀ ty, (Builtin.append_ #[28, 3] ty #[.slice (some ⟨g, 0, none⟩) i cap, .int .i64 ((L.length : Int) + 1 - (i : Int))]).run Try.prog w =
      .ok (.slice (some ⟨w.heap.size, 0, none⟩) (L.length + 1) G) (w.alloc (.cells R.toArray 24)).drew := fun ty => by
    have h := Lib.run_append_grow_zeros w 28 3 ty 24 i6 z6 .i64 .i64 Try.underlying28 Try.underlying3 hi6 hz6 (some ⟨g, 0, none⟩) i cap ((cellsL L).take (i * 4)) hold (L.length + 1 - i) (by omega) (by omega) (by omega) (by omega) (by rw [hby6]; omega) (by rw [hby6, hik]; exact growslice_fits hroom (by omega))
    rw [hik, ← hG] at h
    rw [hkk, hR]
    exact h
  obtain ⟨S1, S2, S3⟩ := grow_row (R := R) (X := cellsL L) (A := cellL x) (n := L.length) (i := i) (G := G) (by omega) hXl (by simp [cellL]) hRl hGn hRt
  rw [← cells_at] at S3
  generalize hr1 : R.take (i * 4) ++ cellL x ++ R.drop (i * 4 + (cellL x).length) = r1 at *
  obtain ⟨N, hN⟩ : ∃ N, N = w.heap.size := ⟨_, rfl⟩
  have hgN : g < N := by rw [hN]; exact (Array.getElem?_eq_some_iff.1 hg).1
  have hxN : xb < N := by rw [hN]; exact (Array.getElem?_eq_some_iff.1 hx).1
  have hW1 : (w.alloc (.cells R.toArray 24)).drew.heap[N]? = some (.cells R.toArray 24) := by rw [hN]; exact Go.heap_alloc_new w _
  have hWx : (w.alloc (.cells R.toArray 24)).drew.heap[xb]? = some (.cells (cellL x).toArray t) := (Below.heap_alloc w _ xb (by omega)).trans hx
  have hWg : (w.alloc (.cells R.toArray 24)).drew.heap[g]? = some (.cells cur 24) := (Below.heap_alloc w _ g (by omega)).trans hg
  have hcp1 : (Builtin.copy_ #[28, 28] 3 #[.slice (some ⟨N, i * 4, none⟩) (L.length + 1 - i) (G - i), .slice (some ⟨xb, 0, none⟩) 1 1]).run Try.prog (w.alloc (.cells R.toArray 24)).drew = .ok (goInt (Nat.min 1 (L.length + 1 - i))) ((w.alloc (.cells R.toArray 24)).drew.setRow N r1.toArray) := by
    have := run_copy_rowK (P := Try.prog) (w.alloc (.cells R.toArray 24)).drew 28 28 3 24 4 N (i * 4) (L.length + 1 - i) (G - i) ⟨xb, 0, none⟩ 1 1 R.toArray 24 (cellL x) Try.underlying28 size24 hW1
      (by simp only [Nat.min_def]; split <;> simp [cellL] <;> omega) (fun j v hj => by
        rw [Addr.add_lit, Nat.zero_add]
        refine cell_of hWx ?_
        simpa using hj) (by rw [List.size_toArray, hRl]; simp [cellL]; omega) (fun v hv => cellsL_cell [x] v (by rw [cellsL_one]; exact hv))
    rw [← hr1]
    simpa using this
  have hcp2 : ∀ (W : World), W.heap = ((w.alloc (.cells R.toArray 24)).drew.setRow N r1.toArray).heap → (Builtin.copy_ #[28, 28] 3 #[.slice (some ⟨N, (i + 1) * 4, none⟩) (L.length - i) (G - (i + 1)), .slice (some ⟨g, i * 4, none⟩) (L.length - i) (cap - i)]).run Try.prog W = .ok (goInt (Nat.min (L.length - i) (L.length - i))) (W.setRow N (r1.take ((i + 1) * 4) ++ (cellsL L).drop (i * 4) ++ r1.drop ((i + 1) * 4 + ((cellsL L).drop (i * 4)).length)).toArray) := fun W hW => by
    have := run_copy_rowK (P := Try.prog) W 28 28 3 24 4 N ((i + 1) * 4) (L.length - i) (G - (i + 1)) ⟨g, i * 4, none⟩ (L.length - i) (cap - i) r1.toArray 24 ((cellsL L).drop (i * 4)) Try.underlying28 size24 (by rw [hW]; exact setRow_heap _ N _ _ 24 _ hW1)
      (by rw [List.length_drop, hXl]; simp only [Nat.min_def]; split <;> omega) (fun j v hj => by
        rw [List.getElem?_drop] at hj
        rw [Addr.add_lit]
        have h1 := hcells _ _ hj
        have h2 : W.heap[g]? = some (.cells cur 24) := by rw [hW]; exact (setRow_other _ N g _ (by omega)).trans hWg
        unfold World.cell? at h1 ⊢
        rw [hg] at h1
        rw [h2]
        exact h1) (by rw [List.size_toArray, S1, List.length_drop, hXl]; omega) (fun v hv => cellsL_cell L v (List.mem_of_mem_drop hv))
    simpa using this
  have hz1 : ¬ ((1 : Int) = 0) := by omega
  have hz2 : ¬ ((i : Int) = (L.length : Int)) := by omega
  have hz3 : (cap : Int) < (L.length : Int) + 1 := by omega
  have hb1 : (0 : Int) ≤ (i : Int) + 1 := by omega
  have hin : i ≤ L.length := by omega
  have hb3 : (i : Int) ≤ (L.length : Int) := by omega
  have hb5 : G ≤ 9223372036854775807 := by simp only [maxLen] at hGm; omega
  have hGi : ¬ (G = i) := by omega
  have hGim : ¬ (G = i + 1) := by omega
  have hci : ¬ (cap = i) := by omega
  have hw1 : IntKind.i64.wrap ((i : Int) + 1) = (i : Int) + 1 := by rw [IntKind.wrap_i64]; omega
  have htn : ((i : Int) + 1).toNat = i + 1 := by omega
  obtain ⟨xl, HXL⟩ : ∃ xl, Hid (cellL x = xl) := ⟨_, Lib.hid rfl⟩
  rw [← hN] at hrz ⊢
  generalize hLn : L.length = n at *
  have HN := Lib.hid hLn
  have HS2 := Lib.hid S2
  have HS3 := Lib.hid S3
  have HCP2 := Lib.hid hcp2
  clear hLn hr1 S1 S2 S3 hcp2 hg hx hcs ht hcells hXl hold hik hkk hG hR hRl hRt hW1 hWx hWg hi6 hz6 hsz6 hby6 hzs6 hN
  go_enter Try.func33, Try.ntmps33
  go_wp2_with (at_builtin; refine Lib.wpList_append_run _ rfl _ _ _ _ rfl _ _ rfl rfl _ _ (hrz _) ?_)
  go_region_law (refine step_copy_runI rfl _ _ 28 28 rfl (.slice (some ⟨N, (i + 1) * 4, none⟩) (n - i) (G - (i + 1))) (.slice (some ⟨g, i * 4, none⟩) (n - i) (cap - i)) (by simp [Act.eval, Act.put]) (by simp [Act.eval, Act.put]) (HCP2.out _ rfl) ?_)
  go_wp2
  go_ret
  refine ⟨_, rfl, hGn, hGm, R, _, ?_, HS2.out, HS3.out⟩
  rw [List.append_assoc (List.take ((i + 1) * 4) r1), List.length_drop]
  show ((w.alloc (.cells R.toArray 24)).drew.drew.setRow N r1.toArray).setRow N _ = _
  rw [setRow_setRow]
end Go.Proofs.Ytnhookblhckmlaa
