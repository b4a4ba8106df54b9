/- Walks: the document's Lay. -/
import Derived.Test.YtnhookblhckmlaaR1
import Derived.Lib.QuietBelow
import Derived.Deep.CutBlock
import Derived.Deep.CutRange
namespace Go.Proofs.Ytnhookblhckmlaa
open Go.RowKit Mk Go.Sort

theorem layM_at {L : List CellM} {x : CellM} {i : Nat} (hi : i ≤ L.length) (h1 : ∀ (j : Nat) c, j < i → L[j]? = some c → cmpM c x < 0) (h2 : ∀ c, L[i]? = some c → ¬ cmpM c x < 0) :
    layM L x = L.take i ++ ([x] ++ L.drop (if (∃ c, L[i]? = some c ∧ cmpM c x = 0) then i + 1 else i)) := by
  have hA : ∀ c ∈ L.take i, cmpM c x < 0 := fun c hc => by
    obtain ⟨p, hp, rfl⟩ := List.getElem_of_mem hc
    simp only [List.length_take] at hp
    rw [List.getElem_take]
    exact h1 p _ (by omega) (List.getElem?_eq_getElem (by omega))
  conv => lhs; rw [← List.take_append_drop i L]
  have key : ∀ (A B : List CellM), (∀ c ∈ A, cmpM c x < 0) → (∀ b B', B = b :: B' → ¬ cmpM b x < 0) → layM (A ++ B) x = A ++ putB B x := by
    intro A
    induction A with
    | nil =>
      intro B _ hB
      cases B with
      | nil => rfl
      | cons b B => simp only [List.nil_append, layM, putB]; rw [if_neg (hB b B rfl)]
    | cons a A ih =>
      intro B hA hB
      simp only [List.cons_append, layM]
      rw [if_pos (hA a (by simp)), ih B (fun c hc => hA c (List.mem_cons_of_mem _ hc)) hB]
  rw [key _ _ hA (fun b B' e => h2 b (by have := congrArg (·[0]?) e; simpa using this))]
  congr 1
  by_cases hl : i < L.length
  · have hy := List.getElem?_eq_getElem hl
    have hd : L.drop i = L[i] :: L.drop (i + 1) := List.drop_eq_getElem_cons hl
    rw [hd]
    unfold putB
    simp only
    by_cases hc : cmpM L[i] x = 0
    · rw [if_pos hc, if_pos ⟨_, hy, hc⟩]; rfl
    · rw [if_neg hc, if_neg (fun ⟨c, h3, h4⟩ => hc (by rw [hy] at h3; cases h3; exact h4)), hd]; rfl
  · obtain rfl : i = L.length := by omega
    have hn : L[L.length]? = none := List.getElem?_eq_none (by omega)
    rw [if_neg (fun ⟨c, h3, _⟩ => by rw [hn] at h3; cases h3), List.drop_length]
    rfl

/-- The cells of a part of a row. -/
theorem part_cells {w : World} {g cap : Nat} {L : List CellM} (h : Has w (.slice (some ⟨g, 0, none⟩) L.length cap) L) (i : Nat) : ∀ j u, (cellsL (L.drop i))[j]? = some u → w.cell? ((⟨g, i * 4, none⟩ : Addr).add j) = some u := by
  intro j u hj
  rw [cellsL_drop, List.getElem?_drop] at hj
  obtain ⟨g', cap', e, hc⟩ := sl.cell h hj
  cases e
  rw [Addr.add_lit]
  exact hc
theorem front_cells {w : World} {g cap : Nat} {L : List CellM} (h : Has w (.slice (some ⟨g, 0, none⟩) L.length cap) L) (i : Nat) : ∀ j u, (cellsL (L.take i))[j]? = some u → w.cell? ((⟨g, 0, none⟩ : Addr).add j) = some u := by
  intro j u hj
  rw [cellsL_take, List.getElem?_take] at hj
  split at hj
  · obtain ⟨g', cap', e, hc⟩ := sl.cell h hj
    cases e
    rw [Addr.add_lit, Nat.zero_add]
    exact hc
  · cases hj

def LayPost (w : World) (L : List CellM) (x : CellM) (e : Ending) (w' : World) : Prop :=
  ∃ v', e = .returned v' ∧ Has w' v' (layM L x) ∧ RowKit.Below w.heap.size w w' ∧ ∀ g, v'.ownBlock = some g → w.heap.size ≤ g


/-- Behind the two appends. -/
structure MidAt (w : World) (L : List CellM) (x : CellM) (k : Nat) (v : Value) (wr : World) : Prop where
  has : Has wr v (L.take k ++ [x])
  own : ∀ g, v.ownBlock = some g → w.heap.size ≤ g
  below : RowKit.Below w.heap.size w wr

theorem MidAt.stay {w : World} {L : List CellM} {x : CellM} {k : Nat} {v : Value} {wr w2 : World} (h : MidAt w L x k v wr) (b : RowKit.Below wr.heap.size wr w2) : MidAt w L x k v w2 :=
  ⟨h.has.stay b, h.own, h.below.trans (b.mono h.below.size)⟩
theorem MidAt.sl {w : World} {L : List CellM} {x : CellM} {k : Nat} {v : Value} {wr : World} (h : MidAt w L x k v wr) (hk : k ≤ L.length) : sl wr 24 4 v (k + 1) (cellsL (L.take k ++ [x])) := by
  have h1 := h.has
  unfold Has at h1
  have hl : (L.take k ++ [x]).length = k + 1 := by simp only [List.length_append, List.length_take, List.length_singleton]; omega
  rw [hl] at h1
  exact h1
theorem lay_fin {w w8 w9 : World} {L : List CellM} {y : CellM} {k j : Nat} {v2 v3 : Value} (hm : MidAt w L y k v2 w8) (hk : k ≤ L.length) (hj : j ≤ L.length) (e : layM L y = L.take k ++ ([y] ++ L.drop j))
    (hs : sl w9 24 4 v3 (k + 1 + (L.length - j)) (cellsL (L.take k ++ [y]) ++ cellsL (L.drop j))) (hg : w8.grownBy w9 v2.ownBlock) (ha : v3.ownBlock = v2.ownBlock ∨ v3.ownBlock = some w8.heap.size) : LayPost w L y (.returned v3) w9 := by
  refine ⟨v3, rfl, ?_, ?_, fun i hi => ?_⟩
  · have hlen : (layM L y).length = k + 1 + (L.length - j) := by
      rw [e]
      simp only [List.length_append, List.length_take, List.length_singleton, List.length_drop]
      omega
    unfold Has
    rw [hlen, e, ← List.append_assoc, cellsL_append]
    exact hs
  · have hsz := hm.below.size
    exact hm.below.trans ⟨hg.os, hg.tape, hg.output, hg.size, fun i hi => hg.block i (by omega) (fun e => by have := hm.own i e.symm; omega)⟩
  · rcases ha with h | h
    · exact hm.own i (by rw [← h]; exact hi)
    · rw [h] at hi
      have := Option.some.inj hi
      have := hm.below.size
      omega

set_option maxRecDepth 100000 in
set_option maxHeartbeats 8000000 in
theorem lay_some {w : World} {g cap : Nat} {L : List CellM} (h : Has w (.slice (some ⟨g, 0, none⟩) L.length cap) L) (hL : L.length ≤ 1099511627776) (hcap : L.length ≤ cap) (hcm : cap ≤ maxLen) (x : CellM) :
    Calls Try.prog 39 #[.slice (some ⟨g, 0, none⟩) L.length cap, cellV x] w fun e w' => LayPost w L x e w' := by
  obtain ⟨i6, z6, hi6, hz6, hsz6, hby6, hzs6⟩ := info24
  have HC := Lib.hid (fun (a : CellM) (w : World) => rcmp_any a x w)
  have LM := Lib.hid (fun (i : Nat) (hi : i ≤ L.length) h1 h2 => layM_at (L := L) (x := x) hi h1 h2)
  have hxl : cellL x = [.string x.key, .int .u64 x.time, .bool x.del, .string x.val] := rfl
  obtain ⟨y, hy⟩ : ∃ y, x = y := ⟨_, rfl⟩
  obtain ⟨xk, xt, xd, xv⟩ := x
  simp only at hxl
  unfold cellV
  simp only
  obtain ⟨W1, HW1⟩ : ∃ W, Hid (w.alloc (.cells #[.string xk, .int .u64 xt, .bool xd, .string xv] 24) = W) := ⟨_, Lib.hid rfl⟩
  have hB : RowKit.Below w.heap.size w W1 := by rw [← HW1.out]; exact (Below.refl w.heap.size w).alloc (Nat.le_refl _) _
  have hX : W1.heap[w.heap.size]? = some (.cells #[.string xk, .int .u64 xt, .bool xd, .string xv] 24) := by rw [← HW1.out]; exact Go.heap_alloc_new _ _
  have HX := Lib.hid hX
  have HB := Lib.hid hB
  have HH := Lib.hid (h.stay hB)
  have hgl := sl.lt h rfl
  have HGL := Lib.hid hgl
  have hc5 : cap ≤ 9223372036854775807 := by simp only [maxLen] at hcm; omega
  have HY := Lib.hid hy
  have HXL := Lib.hid hxl
  clear hB hX h hgl hcm hy hxl
  go_enter Try.func39, Try.ntmps39
  go_upto_block 0 with fail
  rw [HW1.out]
  go_cut [5] from 7 to 21 (fun i wc => ∃ k : Nat, k ≤ L.length ∧ i = .int .i64 k ∧ Hid (RowKit.Below W1.heap.size W1 wc ∧ (∀ (j : Nat) c, j < k → L[j]? = some c → cmpM c y < 0) ∧ ∀ c, L[k]? = some c → ¬ cmpM c y < 0))
  case first => as_aux_lemma =>
    go_wp2_with fail
    go_loopw [5] (fun i wr => ∃ k : Nat, k ≤ L.length ∧ i = .int .i64 k ∧ Hid (RowKit.Below W1.heap.size W1 wr ∧ (∀ (j : Nat) c, j < k → L[j]? = some c → cmpM c y < 0))) (fun i _ => L.length - (intOf i).toNat)
    case atStart => exact ⟨0, by omega, rfl, Lib.hid ⟨Below.refl _ _, fun j c hj => by omega⟩⟩
    case round =>
      obtain ⟨k, hk, rfl, HI⟩ := hrel
      have l0 : (0 : Int) ≤ k := by omega
      have hx1 := cell_alloc_keep HX.out HI.out.1
      have x0 := fun p os => cell_regrown (cell_of (i := 0) (v := .string xk) hx1 rfl) p os
      have x1 := fun p os => cell_regrown (cell_of (i := 1) (v := .int .u64 xt) hx1 rfl) p os
      have x2 := fun p os => cell_regrown (cell_of (i := 2) (v := .bool xd) hx1 rfl) p os
      have x3 := fun p os => cell_regrown (cell_of (i := 3) (v := .string xv) hx1 rfl) p os
      by_cases hlt : k < L.length
      · obtain ⟨c, hc⟩ : ∃ c, L[k]? = some c := ⟨L[k]'hlt, List.getElem?_eq_getElem hlt⟩
        obtain ⟨g', cap', e, h0, h1, h2, h3⟩ := (HH.out.stay HI.out.1).cells hc
        cases e
        have d0 := fun p os => cell_regrown h0 p os
        have d1 := fun p os => cell_regrown h1 p os
        have d2 := fun p os => cell_regrown h2 p os
        have d3 := fun p os => cell_regrown h3 p os
        have FC := regrown_below wr (fun u => HC.out c u)
        obtain ⟨z, hz⟩ : ∃ z, cmpM c ⟨xk, xt, xd, xv⟩ = z := ⟨_, rfl⟩
        rw [hz] at FC
        unfold cellV at FC
        simp only at FC
        have hz' : cmpM c y = z := by rw [← HY.out]; exact hz
        have l1 : (k : Int) < L.length := by omega
        have q : decide (k < L.length) = true := by simpa using hlt
        have HCC := Lib.hid hc
        have HZ := Lib.hid hz'
        clear hc hz hz' hx1 h0 h1 h2 h3
        by_cases hz0 : z < 0
        · have q2 : decide (z < 0) = true := by simpa using hz0
          go_wp2_with fail
          refine wp_region_quiet_below (by kernel_rfl) (by kernel_rfl) ?_
          repeat (go_big_quiet_step (exact FC _ _))
          refine wpQuiet_nil ?_
          intro _ hw'
          obtain ⟨⟨dq, osq⟩, hw''⟩ := hw'
          subst hw''
          have K5 := Lib.hid (HI.out.1.trans ((below_regrown wr dq osq).mono HI.out.1.size))
          clear x0 x1 x2 x3 d0 d1 d2 d3 FC
          generalize grow (redrawn wr dq) osq = w5 at *
          have HG := Lib.hid (show RowKit.Below W1.heap.size W1 w5 ∧ (∀ (j : Nat) c, j < k + 1 → L[j]? = some c → cmpM c y < 0) from ⟨K5.out, fun j d hj hd => by
            by_cases e : j = k
            · subst e; rw [HCC.out] at hd; cases hd; rw [HZ.out]; exact hz0
            · exact HI.out.2 j d (by omega) hd⟩)
          clear hz0
          go_wp2
          go_round
          case rel => exact ⟨k + 1, by omega, by go_num, HG⟩
          case measure => simp [intOf]; omega
        · have q2 : decide (z < 0) = false := by simpa using hz0
          go_wp2_with fail
          refine wp_region_quiet_below (by kernel_rfl) (by kernel_rfl) ?_
          repeat (go_big_quiet_step (exact FC _ _))
          refine wpQuiet_nil ?_
          intro _ hw'
          obtain ⟨⟨dq, osq⟩, hw''⟩ := hw'
          subst hw''
          have K5 := Lib.hid (HI.out.1.trans ((below_regrown wr dq osq).mono HI.out.1.size))
          clear x0 x1 x2 x3 d0 d1 d2 d3 FC
          generalize grow (redrawn wr dq) osq = w5 at *
          have HG := Lib.hid (show RowKit.Below W1.heap.size W1 w5 ∧ (∀ (j : Nat) c, j < k → L[j]? = some c → cmpM c y < 0) ∧ ∀ c, L[k]? = some c → ¬ cmpM c y < 0 from ⟨K5.out, HI.out.2, fun d hd => by rw [HCC.out] at hd; cases hd; rw [HZ.out]; omega⟩)
          clear hz0
          go_wp2
          go_meet
          case rel => exact ⟨k, hk, rfl, HG⟩
      · obtain rfl : k = L.length := by omega
        have q : decide (L.length < L.length) = false := by simp
        have FC : ∀ (p : Nat) (os : Array Obj), True := fun _ _ => trivial
        clear hx1 hlt
        go_wp2_with fail
        refine wp_region_quiet_below (by kernel_rfl) (by kernel_rfl) ?_
        repeat (go_big_quiet_step (exact FC _ _))
        refine wpQuiet_nil ?_
        intro _ hw'
        obtain ⟨⟨dq, osq⟩, hw''⟩ := hw'
        subst hw''
        have HG := Lib.hid (show RowKit.Below W1.heap.size W1 (grow (redrawn wr dq) osq) ∧ (∀ (j : Nat) c, j < L.length → L[j]? = some c → cmpM c y < 0) ∧ ∀ c, L[L.length]? = some c → ¬ cmpM c y < 0 from ⟨HI.out.1.trans ((below_regrown wr dq osq).mono HI.out.1.size), HI.out.2, fun d hd => by rw [List.getElem?_eq_none (Nat.le_refl _)] at hd; cases hd⟩)
        clear x0 x1 x2 x3 FC
        go_wp2
        go_meet
        case rel => exact ⟨L.length, Nat.le_refl _, rfl, HG⟩
  case rest =>
    obtain ⟨k, hk, rfl, HI⟩ := hcut
    generalize wc = w5 at *
    have hh5 := HH.out.stay HI.out.1
    have hx5 := cell_alloc_keep HX.out HI.out.1
    have HL1 := Lib.hid (show (cellsL (L.take k)).length = k * 4 from by rw [cellsL_len, List.length_take]; omega)
    have HF1 := Lib.hid (front_cells hh5 k)
    have HO1 := Lib.hid (cellsL_cell (L.take k))
    have bb1 : 0 + k ≤ maxLen := by simp only [maxLen]; omega
    have bb2 : (0 + k) * 48 ≤ 140737488355328 := by omega
    have bb3 : k + 1 ≤ maxLen := by simp only [maxLen]; omega
    have bb4 : (k + 1) * 48 ≤ 140737488355328 := by omega
    have l0 : (0 : Int) ≤ k := by omega
    have l1 : (k : Int) ≤ cap := by omega
    have l2 : k ≤ cap := by omega
    have ST1 := Lib.hid (fun (v1 : Value) (w6 : World) (hs1 : sl w6 24 4 v1 (0 + k) ([] ++ cellsL (L.take k))) (hg1 : w5.grownBy w6 (Value.slice none 0 0).ownBlock) (ha1 : v1.ownBlock = (Value.slice none 0 0).ownBlock ∨ v1.ownBlock = some w5.heap.size) =>
      (show (w6.cell? ⟨w.heap.size, 0, none⟩ = some (.string xk) ∧ w6.cell? ⟨w.heap.size, 1, none⟩ = some (.int .u64 xt) ∧ w6.cell? ⟨w.heap.size, 2, none⟩ = some (.bool xd) ∧ w6.cell? ⟨w.heap.size, 3, none⟩ = some (.string xv)) ∧
        (sl (w6.alloc (.cells #[.string xk, .int .u64 xt, .bool xd, .string xv] 24)) 24 4 v1 k (cellsL (L.take k)) ∧
          (∀ j u, [Value.string xk, .int .u64 xt, .bool xd, .string xv][j]? = some u → (w6.alloc (.cells #[.string xk, .int .u64 xt, .bool xd, .string xv] 24)).cell? ((⟨w6.heap.size, 0, none⟩ : Addr).add j) = some u) ∧
          ∀ (v2 : Value) (w7 : World), sl w7 24 4 v2 (k + 1) (cellsL (L.take k) ++ [.string xk, .int .u64 xt, .bool xd, .string xv]) → (w6.alloc (.cells #[.string xk, .int .u64 xt, .bool xd, .string xv] 24)).grownBy w7 v1.ownBlock → (v2.ownBlock = v1.ownBlock ∨ v2.ownBlock = some (w6.alloc (.cells #[.string xk, .int .u64 xt, .bool xd, .string xv] 24)).heap.size) →
            (MidAt w L y k v2 w7 ∧ RowKit.Below W1.heap.size W1 w7 ∧ ∃ o' c', v2 = .slice o' (k + 1) c')) from by
        rw [Nat.zero_add, List.nil_append] at hs1
        have hB6 : RowKit.Below w5.heap.size w5 w6 := ⟨hg1.os, hg1.tape, hg1.output, hg1.size, fun i hi => hg1.block i hi (fun e => by simp [Value.ownBlock] at e)⟩
        have hx6 := cell_alloc_keep hx5 hB6
        have hB7 : RowKit.Below w6.heap.size w6 (w6.alloc (.cells #[.string xk, .int .u64 xt, .bool xd, .string xv] 24)) := (Below.refl _ w6).alloc (Nat.le_refl _) _
        have hs7 := sl.stay hs1 (fun g hg => hB7.block g (sl.lt hs1 hg))
        have hsz1 := HB.out.size
        have hsz5 := HI.out.1.size
        refine ⟨⟨cell_of hx6 rfl, cell_of hx6 rfl, cell_of hx6 rfl, cell_of hx6 rfl⟩, hs7, cell_new_four (Go.heap_alloc_new _ _), fun v2 w7 hs2 hg2 ha2 => ?_⟩
        have o1 : ∀ i, v1.ownBlock = some i → w5.heap.size ≤ i := fun i e => by
          rcases ha1 with e2 | e2
          · rw [e2] at e; simp [Value.ownBlock] at e
          · rw [e2] at e; cases e; exact Nat.le_refl _
        have hlen : (L.take k ++ [y]).length = k + 1 := by simp only [List.length_append, List.length_take, List.length_singleton]; omega
        have hhas : Has w7 v2 (L.take k ++ [y]) := by
          unfold Has
          rw [cellsL_append, cellsL_one, hlen, ← HY.out]
          exact hs2
        obtain ⟨o', c', e'⟩ := hhas.shape
        rw [hlen] at e'
        have hBw : RowKit.Below w5.heap.size w5 w7 := hB6.trans ((hB7.mono hB6.size).trans ⟨hg2.os, hg2.tape, hg2.output, hg2.size, fun i hi => hg2.block i (by have := hB6.size; have := hB7.size; omega) (fun e => by have := o1 i e.symm; omega)⟩)
        refine ⟨⟨hhas, fun i e => ?_, (HB.out.trans (HI.out.1.mono HB.out.size)).trans (hBw.mono (by omega))⟩, HI.out.1.trans (hBw.mono hsz5), o', c', e'⟩
        rcases ha2 with e2 | e2
        · have := o1 i (by rw [← e2, e]); omega
        · rw [e] at e2
          have := Option.some.inj e2
          have := hB6.size
          have := hB7.size
          omega))
    clear hh5 hx5
    go_upto_if 43 with (first | (refine wpList_append_sl (by rfl) (.tmp 22) (.tmp 25) 28 (by rfl) 24 i6 z6 4 48 Try.underlying28 hi6 hz6 hsz6 hby6 hzs6 (by decide) (.slice none 0 0) 0 [] (by rfl) (sl_nil _ _ _) (some ⟨g, 0, none⟩) k cap (cellsL (L.take k)) (by rfl) HL1.out (fun _ => ⟨_, rfl, HF1.out⟩) (fun _ h => by cases h) HO1.out bb1 bb2 ?_; intro v1 w6 hs1 hg1 ha1; obtain ⟨⟨q0, q1, q2, q3⟩, hs6⟩ := ST1.out v1 w6 hs1 hg1 ha1; have HS6 := Lib.hid hs6; clear hs1 hg1 ha1 hs6) | (refine wpList_append_sl (by rfl) (.tmp 27) (.tmp 29) 28 (by rfl) 24 i6 z6 4 48 Try.underlying28 hi6 hz6 hsz6 hby6 hzs6 (by decide) v1 k (cellsL (L.take k)) (by rfl) (HS6.out.1) (some ⟨w6.heap.size, 0, none⟩) 1 1 [.string xk, .int .u64 xt, .bool xd, .string xv] (by rfl) (by rfl) (fun _ => ⟨_, rfl, HS6.out.2.1⟩) (fun h => absurd h (by decide)) (by simp [Value.oneCell']) bb3 bb4 ?_; intro v2 w7 hs2 hg2 ha2; obtain ⟨hm7, hb7, o', c', rfl⟩ := HS6.out.2.2 v2 w7 hs2 hg2 ha2; have HM7 := Lib.hid hm7; have HB7 := Lib.hid hb7; clear hs2 hg2 ha2 q0 q1 q2 q3 hm7 hb7))
    have hx7 := cell_alloc_keep HX.out HB7.out
    have x0 := fun p os => cell_regrown (cell_of (i := 0) (v := .string xk) hx7 rfl) p os
    have x1 := fun p os => cell_regrown (cell_of (i := 1) (v := .int .u64 xt) hx7 rfl) p os
    have x2 := fun p os => cell_regrown (cell_of (i := 2) (v := .bool xd) hx7 rfl) p os
    have x3 := fun p os => cell_regrown (cell_of (i := 3) (v := .string xv) hx7 rfl) p os
    have LMk := Lib.hid (fun h2 => LM.out k hk (by rw [HY.out]; exact HI.out.2.1) h2)
    clear hx7 HS6 ST1 HF1 HL1 HO1
    by_cases hlt : k < L.length
    · obtain ⟨c, hc⟩ : ∃ c, L[k]? = some c := ⟨L[k]'hlt, List.getElem?_eq_getElem hlt⟩
      obtain ⟨g', cap', e, h0, h1, h2, h3⟩ := (HH.out.stay HB7.out).cells hc
      cases e
      have d0 := fun p os => cell_regrown h0 p os
      have d1 := fun p os => cell_regrown h1 p os
      have d2 := fun p os => cell_regrown h2 p os
      have d3 := fun p os => cell_regrown h3 p os
      have FC := regrown_below w7 (fun u => HC.out c u)
      obtain ⟨z, hz⟩ : ∃ z, cmpM c ⟨xk, xt, xd, xv⟩ = z := ⟨_, rfl⟩
      rw [hz] at FC
      unfold cellV at FC
      simp only at FC
      have hz' : cmpM c y = z := by rw [← HY.out]; exact hz
      have hE : layM L y = L.take k ++ ([y] ++ L.drop (if z = 0 then k + 1 else k)) := by
        have h := LMk.out (by rw [HY.out]; exact HI.out.2.2)
        rw [HY.out] at h
        rw [h]
        by_cases e : z = 0
        · rw [if_pos ⟨c, hc, by rw [hz', e]⟩, if_pos e]
        · rw [if_neg (fun ⟨d, h5, h6⟩ => e (by rw [hc] at h5; cases h5; rw [← hz']; exact h6)), if_neg e]
      have HEE := Lib.hid hE
      have l3 : (k : Int) < L.length := by omega
      have q : decide (k < L.length) = true := by simpa using hlt
      clear hc hz hz' h0 h1 h2 h3 hE
      by_cases hz0 : z = 0
      · have q2 : (z == 0) = true := by simpa using hz0
        have hE := HEE.out
        rw [if_pos hz0] at hE
        clear hz0
        go_wp2_with fail
        refine wp_region_quiet_below (by kernel_rfl) (by kernel_rfl) ?_
        repeat (go_big_quiet_step (exact FC _ _))
        refine wpQuiet_nil ?_
        intro _ hw'
        obtain ⟨⟨dq, osq⟩, hw''⟩ := hw'
        subst hw''
        have K8 := Lib.hid (below_regrown w7 dq osq)
        clear x0 x1 x2 x3 d0 d1 d2 d3 FC
        generalize grow (redrawn w7 dq) osq = w8 at *
        have m1 : ((k : Int) + 1).toNat = k + 1 := by omega
        have m2 : (0 : Int) ≤ (k : Int) + 1 := by omega
        have m3 : (k : Int) + 1 ≤ L.length := by omega
        have m4 : (k : Int) + 1 ≤ cap := by omega
        have HE := Lib.hid hE
        have HM8 := Lib.hid (HM7.out.stay K8.out)
        have HH8 := Lib.hid ((HH.out.stay HB7.out).stay K8.out)
        have HD := Lib.hid (show (cellsL (L.drop (k + 1))).length = (L.length - (k + 1)) * 4 from by rw [cellsL_len, List.length_drop]; omega)
        have HO := Lib.hid (cellsL_cell (L.drop (k + 1)))
        have HMS := Lib.hid (HM8.out.sl hk)
        have cc1 : k + 1 + (L.length - (k + 1)) ≤ maxLen := by simp only [maxLen]; omega
        have cc2 : (k + 1 + (L.length - (k + 1))) * 48 ≤ 140737488355328 := by omega
        by_cases hcj : cap = k + 1
        · have HPC : L.length - (k + 1) = 0 := by omega
          have HPD := Lib.hid HPC
          have HCD := Lib.hid (show cellsL (L.drop (k + 1)) = [] from by rw [List.drop_of_length_le (by omega)]; rfl)
          have HF := Lib.hid (fun (v3 : Value) (w9 : World) (hs3 : sl w9 24 4 v3 (k + 1 + 0) (cellsL (L.take k ++ [y]) ++ [])) (hg3 : w8.grownBy w9 (Value.slice o' (k + 1) c').ownBlock) (ha3 : v3.ownBlock = (Value.slice o' (k + 1) c').ownBlock ∨ v3.ownBlock = some w8.heap.size) => lay_fin HM8.out hk (j := k + 1) (by omega) HE.out (by rw [HPD.out, HCD.out]; exact hs3) hg3 ha3)
          have HJ := Lib.hid hcj
          clear HPC
          obtain rfl := hcj
          go_wp2_with (refine wpList_append_sl (by rfl) (.tmp 46) (.tmp 49) 28 (by rfl) 24 i6 z6 4 48 Try.underlying28 hi6 hz6 hsz6 hby6 hzs6 (by decide) (.slice o' (k + 1) c') (k + 1) (cellsL (L.take k ++ [y])) (by rfl) HMS.out (some ⟨g, 0, none⟩) 0 0 [] (by rfl) (by rfl) (fun h => absurd h (by decide)) (fun _ h => by cases h) (by simp) bb3 bb4 ?_; intro v3 w9 hs3 hg3 ha3; have HL := Lib.hid (HF.out v3 w9 hs3 hg3 ha3); clear hs3 hg3 ha3)
          go_ret
          have hl := HL.out
          rw [← HY.out] at hl
          obtain ⟨v', e', r⟩ := hl
          exact ⟨v', e', r⟩
        · have HPC := Lib.hid (part_cells HH8.out (k + 1))
          have HF := Lib.hid (fun (v3 : Value) (w9 : World) (hs3 : sl w9 24 4 v3 (k + 1 + (L.length - (k + 1))) (cellsL (L.take k ++ [y]) ++ cellsL (L.drop (k + 1)))) (hg3 : w8.grownBy w9 (Value.slice o' (k + 1) c').ownBlock) (ha3 : v3.ownBlock = (Value.slice o' (k + 1) c').ownBlock ∨ v3.ownBlock = some w8.heap.size) => lay_fin HM8.out hk (j := k + 1) (by omega) HE.out hs3 hg3 ha3)
          go_wp2_with (refine wpList_append_sl (by rfl) (.tmp 46) (.tmp 49) 28 (by rfl) 24 i6 z6 4 48 Try.underlying28 hi6 hz6 hsz6 hby6 hzs6 (by decide) (.slice o' (k + 1) c') (k + 1) (cellsL (L.take k ++ [y])) (by rfl) HMS.out (some ⟨g, (k + 1) * 4, none⟩) (L.length - (k + 1)) (cap - (k + 1)) (cellsL (L.drop (k + 1))) (by rfl) HD.out (fun _ => ⟨_, rfl, HPC.out⟩) (fun _ h => by cases h) HO.out cc1 cc2 ?_; intro v3 w9 hs3 hg3 ha3; have HL := Lib.hid (HF.out v3 w9 hs3 hg3 ha3); clear hs3 hg3 ha3)
          go_ret
          have hl := HL.out
          rw [← HY.out] at hl
          obtain ⟨v', e', r⟩ := hl
          exact ⟨v', e', r⟩
      · have q2 : (z == 0) = false := by simpa using hz0
        have hE := HEE.out
        rw [if_neg hz0] at hE
        clear hz0
        go_wp2_with fail
        refine wp_region_quiet_below (by kernel_rfl) (by kernel_rfl) ?_
        repeat (go_big_quiet_step (exact FC _ _))
        refine wpQuiet_nil ?_
        intro _ hw'
        obtain ⟨⟨dq, osq⟩, hw''⟩ := hw'
        subst hw''
        have K8 := Lib.hid (below_regrown w7 dq osq)
        clear x0 x1 x2 x3 d0 d1 d2 d3 FC
        generalize grow (redrawn w7 dq) osq = w8 at *
        have HE := Lib.hid hE
        have HM8 := Lib.hid (HM7.out.stay K8.out)
        have HH8 := Lib.hid ((HH.out.stay HB7.out).stay K8.out)
        have HD := Lib.hid (show (cellsL (L.drop (k))).length = (L.length - (k)) * 4 from by rw [cellsL_len, List.length_drop]; omega)
        have HO := Lib.hid (cellsL_cell (L.drop (k)))
        have HMS := Lib.hid (HM8.out.sl hk)
        have cc1 : k + 1 + (L.length - (k)) ≤ maxLen := by simp only [maxLen]; omega
        have cc2 : (k + 1 + (L.length - (k))) * 48 ≤ 140737488355328 := by omega
        by_cases hcj : cap = k
        · exact absurd hcj (by omega)
        · have HPC := Lib.hid (part_cells HH8.out (k))
          have HF := Lib.hid (fun (v3 : Value) (w9 : World) (hs3 : sl w9 24 4 v3 (k + 1 + (L.length - (k))) (cellsL (L.take k ++ [y]) ++ cellsL (L.drop (k)))) (hg3 : w8.grownBy w9 (Value.slice o' (k + 1) c').ownBlock) (ha3 : v3.ownBlock = (Value.slice o' (k + 1) c').ownBlock ∨ v3.ownBlock = some w8.heap.size) => lay_fin HM8.out hk (j := k) (by omega) HE.out hs3 hg3 ha3)
          go_wp2_with (refine wpList_append_sl (by rfl) (.tmp 46) (.tmp 49) 28 (by rfl) 24 i6 z6 4 48 Try.underlying28 hi6 hz6 hsz6 hby6 hzs6 (by decide) (.slice o' (k + 1) c') (k + 1) (cellsL (L.take k ++ [y])) (by rfl) HMS.out (some ⟨g, (k) * 4, none⟩) (L.length - (k)) (cap - (k)) (cellsL (L.drop (k))) (by rfl) HD.out (fun _ => ⟨_, rfl, HPC.out⟩) (fun _ h => by cases h) HO.out cc1 cc2 ?_; intro v3 w9 hs3 hg3 ha3; have HL := Lib.hid (HF.out v3 w9 hs3 hg3 ha3); clear hs3 hg3 ha3)
          go_ret
          have hl := HL.out
          rw [← HY.out] at hl
          obtain ⟨v', e', r⟩ := hl
          exact ⟨v', e', r⟩
    · obtain rfl : k = L.length := by omega
      have q : decide (L.length < L.length) = false := by simp
      have hE : layM L y = L.take L.length ++ ([y] ++ L.drop L.length) := by
        have h := LMk.out (by rw [HY.out]; exact HI.out.2.2)
        rw [HY.out] at h
        rw [h, if_neg (fun ⟨d, h5, h6⟩ => by rw [List.getElem?_eq_none (Nat.le_refl _)] at h5; cases h5)]
      have FC : ∀ (p : Nat) (os : Array Obj), True := fun _ _ => trivial
      go_wp2_with fail
      refine wp_region_quiet_below (by kernel_rfl) (by kernel_rfl) ?_
      repeat (go_big_quiet_step (exact FC _ _))
      refine wpQuiet_nil ?_
      intro _ hw'
      obtain ⟨⟨dq, osq⟩, hw''⟩ := hw'
      subst hw''
      have K8 := Lib.hid (below_regrown w7 dq osq)
      clear x0 x1 x2 x3 FC
      generalize grow (redrawn w7 dq) osq = w8 at *
      have HE := Lib.hid hE
      have HM8 := Lib.hid (HM7.out.stay K8.out)
      have HH8 := Lib.hid ((HH.out.stay HB7.out).stay K8.out)
      have HD := Lib.hid (show (cellsL (L.drop (L.length))).length = (L.length - (L.length)) * 4 from by rw [cellsL_len, List.length_drop]; omega)
      have HO := Lib.hid (cellsL_cell (L.drop (L.length)))
      have HMS := Lib.hid (HM8.out.sl hk)
      have cc1 : L.length + 1 + (L.length - (L.length)) ≤ maxLen := by simp only [maxLen]; omega
      have cc2 : (L.length + 1 + (L.length - (L.length))) * 48 ≤ 140737488355328 := by omega
      by_cases hcj : cap = L.length
      · have HPC : L.length - (L.length) = 0 := by omega
        have HPD := Lib.hid HPC
        have HCD := Lib.hid (show cellsL (L.drop (L.length)) = [] from by rw [List.drop_of_length_le (by omega)]; rfl)
        have HF := Lib.hid (fun (v3 : Value) (w9 : World) (hs3 : sl w9 24 4 v3 (L.length + 1 + 0) (cellsL (L.take L.length ++ [y]) ++ [])) (hg3 : w8.grownBy w9 (Value.slice o' (L.length + 1) c').ownBlock) (ha3 : v3.ownBlock = (Value.slice o' (L.length + 1) c').ownBlock ∨ v3.ownBlock = some w8.heap.size) => lay_fin HM8.out hk (j := L.length) (by omega) HE.out (by rw [HPD.out, HCD.out]; exact hs3) hg3 ha3)
        have HJ := Lib.hid hcj
        clear HPC
        obtain rfl := hcj
        go_wp2_with (refine wpList_append_sl (by rfl) (.tmp 46) (.tmp 49) 28 (by rfl) 24 i6 z6 4 48 Try.underlying28 hi6 hz6 hsz6 hby6 hzs6 (by decide) (.slice o' (L.length + 1) c') (L.length + 1) (cellsL (L.take L.length ++ [y])) (by rfl) HMS.out (some ⟨g, 0, none⟩) 0 0 [] (by rfl) (by rfl) (fun h => absurd h (by decide)) (fun _ h => by cases h) (by simp) bb3 bb4 ?_; intro v3 w9 hs3 hg3 ha3; have HL := Lib.hid (HF.out v3 w9 hs3 hg3 ha3); clear hs3 hg3 ha3)
        go_ret
        have hl := HL.out
        rw [← HY.out] at hl
        obtain ⟨v', e', r⟩ := hl
        exact ⟨v', e', r⟩
      · have HPD := Lib.hid (show L.length - (L.length) = 0 from by omega)
        have HCD := Lib.hid (show cellsL (L.drop (L.length)) = [] from by rw [List.drop_of_length_le (by omega)]; rfl)
        have HF := Lib.hid (fun (v3 : Value) (w9 : World) (hs3 : sl w9 24 4 v3 (L.length + 1 + 0) (cellsL (L.take L.length ++ [y]) ++ [])) (hg3 : w8.grownBy w9 (Value.slice o' (L.length + 1) c').ownBlock) (ha3 : v3.ownBlock = (Value.slice o' (L.length + 1) c').ownBlock ∨ v3.ownBlock = some w8.heap.size) => lay_fin HM8.out hk (j := L.length) (by omega) HE.out (by rw [HPD.out, HCD.out]; exact hs3) hg3 ha3)
        go_wp2_with (refine wpList_append_sl (by rfl) (.tmp 46) (.tmp 49) 28 (by rfl) 24 i6 z6 4 48 Try.underlying28 hi6 hz6 hsz6 hby6 hzs6 (by decide) (.slice o' (L.length + 1) c') (L.length + 1) (cellsL (L.take L.length ++ [y])) (by rfl) HMS.out (some ⟨g, L.length * 4, none⟩) 0 (cap - L.length) [] (by rfl) (by rfl) (fun h => absurd h (by decide)) (fun _ h => by cases h) (by simp) bb3 bb4 ?_; intro v3 w9 hs3 hg3 ha3; have HL := Lib.hid (HF.out v3 w9 hs3 hg3 ha3); clear hs3 hg3 ha3)
        go_ret
        have hl := HL.out
        rw [← HY.out] at hl
        obtain ⟨v', e', r⟩ := hl
        exact ⟨v', e', r⟩
end Go.Proofs.Ytnhookblhckmlaa
