/- Walks: OracleBytes. -/
import Derived.Test.YtgmmglmokkcgeaaG3
import Derived.Test.YtgmmglmokkcgeaaG4
import Derived.Test.YtgmmglmokkcgeaaE4
namespace Go.Proofs.Ytgmmglmokkcgeaa
set_option linter.unusedVariables false
set_option linter.unusedSimpArgs false
open Go.RowKit Mk Go.Sort

theorem ops_one {w : World} {o : OpM} {l : OpL} (h : OpAt w o l) (hp : o.pred.size ≤ maxLen) : OpsAt (w.alloc (.cells (opC o l) 34)) (some ⟨w.heap.size, 0, none⟩) [(o, l)] where
  len := by simp
  cell i hi := by
    obtain rfl : i = 0 := by simpa using hi
    refine ⟨_, _, rfl, by simp, fun c v hc => ?_⟩
    have := cell_of (i := c) (Go.heap_alloc_new w (.cells (opC o l) 34)) hc
    simpa using this
  ops p hp' := by
    obtain rfl : p = (o, l) := by simpa using hp'
    exact ⟨h.same ((Chg.refl _ w).alloc _), hp⟩
theorem box_keep {W W' : World} {kb : Nat} {x : Obj} (h : W.heap[kb]? = some x) (c : Chg (fun _ => False) W W') : W'.heap[kb]? = some x := (c.block kb (Array.getElem?_eq_some_iff.1 h).1 (fun f => f)).trans h
theorem bytesM_yes {o : OpM} (h : mayM o = true) : str (bytesL o) = bytesM o := by unfold bytesM; rw [h]; rfl
theorem bytesM_no {o : OpM} (h : mayM o = false) : bytesM o = ⟨#[]⟩ := by unfold bytesM; rw [h]; rfl

set_option maxRecDepth 100000 in
set_option maxHeartbeats 8000000 in
theorem walkBytes {w : World} {o : OpM} {l : OpL} (h : OpAt w o l) (hp : o.pred.size ≤ maxLen) (b : ByteArray) (hb : b.size ≤ 140737488351232) :
    Calls Try.prog 5 #[.agg (opC o l), .string b] w fun e w' => e = .returned (.bool true) ∧ Chg (fun _ => False) w w' := by
  have HA := Lib.hid (h.same ((Chg.refl _ w).alloc (.cells (opC o l) 34)))
  have HC := Lib.hid ((Chg.refl (fun _ => False) w).alloc (.cells (opC o l) 34))
  have HB := Lib.hid (Go.heap_alloc_new w (.cells (opC o l) 34))
  have HP := Lib.hid hp
  have HS := Lib.hid (show b.size ≤ 30000 → b.size ≤ 1099511627776 by omega)
  clear h hp
  obtain ⟨kb, HKB⟩ : ∃ k, Hid (w.heap.size = k) := ⟨_, Lib.hid rfl⟩
  obtain ⟨W0, HW0⟩ : ∃ W, Hid (w.alloc (.cells (opC o l) 34) = W) := ⟨_, Lib.hid rfl⟩
  rw [HW0.out] at HA HC HB
  rw [HKB.out] at HB
  go_enter Try.func5, Try.ntmps5
  go_upto_region 1 with fail
  rw [HW0.out, HKB.out]
  go_wp2_with fail
  refine (lives_any _).mono ?_
  rintro e W1 ⟨rfl, c1⟩
  replace HA := Lib.hid (HA.out.same c1)
  replace HC := Lib.hid (HC.out.trans c1)
  replace HB := Lib.hid (box_keep HB.out c1)
  clear c1
  have x0 : W1.cell? ⟨kb, 0, none⟩ = some (.int .u8 (o.k : Nat)) := cell_of HB.out rfl
  have x1 : W1.cell? ⟨kb, 1, none⟩ = some (.int .u32 (o.n : Nat)) := cell_of HB.out rfl
  have x2 : W1.cell? ⟨kb, 2, none⟩ = some (.int .u64 (o.st : Nat)) := cell_of HB.out rfl
  have x3 : W1.cell? ⟨kb, 3, none⟩ = some (.slice l.ko o.keys.length l.kc) := cell_of HB.out rfl
  have x4 : W1.cell? ⟨kb, 4, none⟩ = some (.slice l.no o.needs.length l.nc) := cell_of HB.out rfl
  have x5 : W1.cell? ⟨kb, 5, none⟩ = some (.string o.pred) := cell_of HB.out rfl
  have x6 : W1.cell? ⟨kb, 6, none⟩ = some (.int .u32 (o.g : Nat)) := cell_of HB.out rfl
  have x7 : W1.cell? ⟨kb, 7, none⟩ = some (.int .u32 (o.to : Nat)) := cell_of HB.out rfl
  have x8 : W1.cell? ⟨kb, 8, none⟩ = some (.int .u64 (o.at_ : Nat)) := cell_of HB.out rfl
  go_wp2_with fail
  refine (small_any (L := [(o, l)]) (ops_one HA.out HP.out) rfl).mono ?_
  rintro e W2 ⟨z, rfl, -, c2⟩
  have c2' := ((Chg.refl (fun _ => False) W1).alloc (.cells (opC o l) 34)).trans c2
  replace HA := Lib.hid (HA.out.same c2')
  replace HC := Lib.hid (HC.out.trans c2')
  replace HB := Lib.hid (box_keep HB.out c2')
  clear c2 c2'
  clear x0 x1 x2 x3 x4 x5 x6 x7 x8
  have x0 : W2.cell? ⟨kb, 0, none⟩ = some (.int .u8 (o.k : Nat)) := cell_of HB.out rfl
  have x1 : W2.cell? ⟨kb, 1, none⟩ = some (.int .u32 (o.n : Nat)) := cell_of HB.out rfl
  have x2 : W2.cell? ⟨kb, 2, none⟩ = some (.int .u64 (o.st : Nat)) := cell_of HB.out rfl
  have x3 : W2.cell? ⟨kb, 3, none⟩ = some (.slice l.ko o.keys.length l.kc) := cell_of HB.out rfl
  have x4 : W2.cell? ⟨kb, 4, none⟩ = some (.slice l.no o.needs.length l.nc) := cell_of HB.out rfl
  have x5 : W2.cell? ⟨kb, 5, none⟩ = some (.string o.pred) := cell_of HB.out rfl
  have x6 : W2.cell? ⟨kb, 6, none⟩ = some (.int .u32 (o.g : Nat)) := cell_of HB.out rfl
  have x7 : W2.cell? ⟨kb, 7, none⟩ = some (.int .u32 (o.to : Nat)) := cell_of HB.out rfl
  have x8 : W2.cell? ⟨kb, 8, none⟩ = some (.int .u64 (o.at_ : Nat)) := cell_of HB.out rfl
  cases z
  case false =>
    go_wp2_with fail
    go_ret
    exact ⟨rfl, HC.out⟩
  case true =>
  by_cases hl : 30000 < b.size
  · have q1 : decide ((30000 : Int) < b.size) = true := by simp; omega
    go_wp2_with fail
    go_ret
    exact ⟨rfl, HC.out⟩
  have q1 : decide ((30000 : Int) < b.size) = false := by simp; omega
  have HS := Lib.hid (HS.out (by omega))
  clear hl
  go_wp2_with fail
  refine (bytes_any HA.out).mono ?_
  rintro e W3 ⟨rfl, c3⟩
  replace HA := Lib.hid (HA.out.same c3)
  replace HC := Lib.hid (HC.out.trans c3)
  replace HB := Lib.hid (box_keep HB.out c3)
  clear c3
  clear x0 x1 x2 x3 x4 x5 x6 x7 x8
  have x0 : W3.cell? ⟨kb, 0, none⟩ = some (.int .u8 (o.k : Nat)) := cell_of HB.out rfl
  have x1 : W3.cell? ⟨kb, 1, none⟩ = some (.int .u32 (o.n : Nat)) := cell_of HB.out rfl
  have x2 : W3.cell? ⟨kb, 2, none⟩ = some (.int .u64 (o.st : Nat)) := cell_of HB.out rfl
  have x3 : W3.cell? ⟨kb, 3, none⟩ = some (.slice l.ko o.keys.length l.kc) := cell_of HB.out rfl
  have x4 : W3.cell? ⟨kb, 4, none⟩ = some (.slice l.no o.needs.length l.nc) := cell_of HB.out rfl
  have x5 : W3.cell? ⟨kb, 5, none⟩ = some (.string o.pred) := cell_of HB.out rfl
  have x6 : W3.cell? ⟨kb, 6, none⟩ = some (.int .u32 (o.g : Nat)) := cell_of HB.out rfl
  have x7 : W3.cell? ⟨kb, 7, none⟩ = some (.int .u32 (o.to : Nat)) := cell_of HB.out rfl
  have x8 : W3.cell? ⟨kb, 8, none⟩ = some (.int .u64 (o.at_ : Nat)) := cell_of HB.out rfl
  obtain ⟨my, hmy⟩ : ∃ m, mayM o = m := ⟨_, rfl⟩
  have RM := Lib.hid (rmay_any HA.out)
  rw [hmy] at RM ⊢
  obtain ⟨E, hE⟩ : ∃ E : Int, Hid ((if my = true then (0 : Int) else 200) = E) := ⟨_, Lib.hid rfl⟩
  rw [hE.out]
  go_wp2_with fail
  refine RM.out.mono ?_
  rintro e W4 ⟨rfl, c4⟩
  replace HA := Lib.hid (HA.out.same c4)
  replace HC := Lib.hid (HC.out.trans c4)
  replace HB := Lib.hid (box_keep HB.out c4)
  clear c4 RM
  clear x0 x1 x2 x3 x4 x5 x6 x7 x8
  have x0 : W4.cell? ⟨kb, 0, none⟩ = some (.int .u8 (o.k : Nat)) := cell_of HB.out rfl
  have x1 : W4.cell? ⟨kb, 1, none⟩ = some (.int .u32 (o.n : Nat)) := cell_of HB.out rfl
  have x2 : W4.cell? ⟨kb, 2, none⟩ = some (.int .u64 (o.st : Nat)) := cell_of HB.out rfl
  have x3 : W4.cell? ⟨kb, 3, none⟩ = some (.slice l.ko o.keys.length l.kc) := cell_of HB.out rfl
  have x4 : W4.cell? ⟨kb, 4, none⟩ = some (.slice l.no o.needs.length l.nc) := cell_of HB.out rfl
  have x5 : W4.cell? ⟨kb, 5, none⟩ = some (.string o.pred) := cell_of HB.out rfl
  have x6 : W4.cell? ⟨kb, 6, none⟩ = some (.int .u32 (o.g : Nat)) := cell_of HB.out rfl
  have x7 : W4.cell? ⟨kb, 7, none⟩ = some (.int .u32 (o.to : Nat)) := cell_of HB.out rfl
  have x8 : W4.cell? ⟨kb, 8, none⟩ = some (.int .u64 (o.at_ : Nat)) := cell_of HB.out rfl
  cases my
  case false =>
    obtain rfl : (200 : Int) = E := hE.out
    rw [bytesM_no hmy]
    obtain ⟨R, hR⟩ : ∃ R, Hid (readW b = R) := ⟨_, Lib.hid rfl⟩
    have R1 := Lib.hid (read_any (w := W4) HS.out)
    rw [hR.out] at R1
    go_wp2_with fail
    refine R1.out.mono ?_
    rintro e W5 ⟨l1, rfl, a1, c5⟩
    replace HA := Lib.hid (HA.out.same c5)
    replace HC := Lib.hid (HC.out.trans c5)
    replace HB := Lib.hid (box_keep HB.out c5)
    have c5' := (Chg.refl (fun _ => False) W5).alloc (.cells (opC R.1 l1) 34)
    replace HA := Lib.hid (HA.out.same c5')
    replace HC := Lib.hid (HC.out.trans c5')
    replace HB := Lib.hid (box_keep HB.out c5')
    have A1 := Lib.hid (a1.same c5')
    have B1 := Lib.hid (Go.heap_alloc_new W5 (.cells (opC R.1 l1) 34))
    obtain ⟨k1, hk1⟩ : ∃ k, Hid (W5.heap.size = k) := ⟨_, Lib.hid rfl⟩
    rw [hk1.out] at B1
    obtain ⟨W6, hW6⟩ : ∃ W, Hid (W5.alloc (.cells (opC R.1 l1) 34) = W) := ⟨_, Lib.hid rfl⟩
    rw [hW6.out] at HA HC HB A1 B1
    clear c5 c5' a1 R1
    clear x0 x1 x2 x3 x4 x5 x6 x7 x8
    go_upto_region 11 with fail
    rw [hW6.out, hk1.out]
    clear hW6 hk1
    have R2 := Lib.hid (rread_any (w := W6) HS.out)
    rw [hR.out] at R2
    go_wp2_with fail
    refine R2.out.mono ?_
    rintro e W7 ⟨l2, rfl, a2, c7⟩
    replace HA := Lib.hid (HA.out.same c7)
    replace HC := Lib.hid (HC.out.trans c7)
    replace HB := Lib.hid (box_keep HB.out c7)
    replace A1 := Lib.hid (A1.out.same c7)
    replace B1 := Lib.hid (box_keep B1.out c7)
    have c7' := (Chg.refl (fun _ => False) W7).alloc (.cells (opC R.1 l2) 34)
    replace HA := Lib.hid (HA.out.same c7')
    replace HC := Lib.hid (HC.out.trans c7')
    replace HB := Lib.hid (box_keep HB.out c7')
    replace A1 := Lib.hid (A1.out.same c7')
    replace B1 := Lib.hid (box_keep B1.out c7')
    have A2 := Lib.hid (a2.same c7')
    have B2 := Lib.hid (Go.heap_alloc_new W7 (.cells (opC R.1 l2) 34))
    obtain ⟨k2, hk2⟩ : ∃ k, Hid (W7.heap.size = k) := ⟨_, Lib.hid rfl⟩
    rw [hk2.out] at B2
    obtain ⟨W8, hW8⟩ : ∃ W, Hid (W7.alloc (.cells (opC R.1 l2) 34) = W) := ⟨_, Lib.hid rfl⟩
    rw [hW8.out] at HA HC HB A1 B1 A2 B2
    clear c7 c7' a2 R2
    go_upto_region 12 with fail
    rw [hW8.out, hk2.out]
    clear hW8 hk2
    have x0 : W8.cell? ⟨kb, 0, none⟩ = some (.int .u8 (o.k : Nat)) := cell_of HB.out rfl
    have x1 : W8.cell? ⟨kb, 1, none⟩ = some (.int .u32 (o.n : Nat)) := cell_of HB.out rfl
    have x2 : W8.cell? ⟨kb, 2, none⟩ = some (.int .u64 (o.st : Nat)) := cell_of HB.out rfl
    have x3 : W8.cell? ⟨kb, 3, none⟩ = some (.slice l.ko o.keys.length l.kc) := cell_of HB.out rfl
    have x4 : W8.cell? ⟨kb, 4, none⟩ = some (.slice l.no o.needs.length l.nc) := cell_of HB.out rfl
    have x5 : W8.cell? ⟨kb, 5, none⟩ = some (.string o.pred) := cell_of HB.out rfl
    have x6 : W8.cell? ⟨kb, 6, none⟩ = some (.int .u32 (o.g : Nat)) := cell_of HB.out rfl
    have x7 : W8.cell? ⟨kb, 7, none⟩ = some (.int .u32 (o.to : Nat)) := cell_of HB.out rfl
    have x8 : W8.cell? ⟨kb, 8, none⟩ = some (.int .u64 (o.at_ : Nat)) := cell_of HB.out rfl
    have M := Lib.hid (may_any HA.out)
    rw [hmy] at M
    replace M : Hid (Calls Try.prog 23 #[.agg (opC o l)] W8 fun e w' => e = .returned (.int .i64 200) ∧ Chg (fun _ => False) W8 w') := M
    go_wp2_with fail
    refine M.out.mono ?_
    rintro e W9 ⟨rfl, c9⟩
    replace HC := Lib.hid (HC.out.trans c9)
    replace A1 := Lib.hid (A1.out.same c9)
    replace B1 := Lib.hid (box_keep B1.out c9)
    replace A2 := Lib.hid (A2.out.same c9)
    replace B2 := Lib.hid (box_keep B2.out c9)
    clear M c9 HB HA
    clear x0 x1 x2 x3 x4 x5 x6 x7 x8
    have y0 : W9.cell? ⟨k1, 0, none⟩ = some (.int .u8 (R.1.k : Nat)) := cell_of B1.out rfl
    have y1 : W9.cell? ⟨k1, 1, none⟩ = some (.int .u32 (R.1.n : Nat)) := cell_of B1.out rfl
    have y2 : W9.cell? ⟨k1, 2, none⟩ = some (.int .u64 (R.1.st : Nat)) := cell_of B1.out rfl
    have y3 : W9.cell? ⟨k1, 3, none⟩ = some (.slice l1.ko R.1.keys.length l1.kc) := cell_of B1.out rfl
    have y4 : W9.cell? ⟨k1, 4, none⟩ = some (.slice l1.no R.1.needs.length l1.nc) := cell_of B1.out rfl
    have y5 : W9.cell? ⟨k1, 5, none⟩ = some (.string R.1.pred) := cell_of B1.out rfl
    have y6 : W9.cell? ⟨k1, 6, none⟩ = some (.int .u32 (R.1.g : Nat)) := cell_of B1.out rfl
    have y7 : W9.cell? ⟨k1, 7, none⟩ = some (.int .u32 (R.1.to : Nat)) := cell_of B1.out rfl
    have y8 : W9.cell? ⟨k1, 8, none⟩ = some (.int .u64 (R.1.at_ : Nat)) := cell_of B1.out rfl
    have z0 : W9.cell? ⟨k2, 0, none⟩ = some (.int .u8 (R.1.k : Nat)) := cell_of B2.out rfl
    have z1 : W9.cell? ⟨k2, 1, none⟩ = some (.int .u32 (R.1.n : Nat)) := cell_of B2.out rfl
    have z2 : W9.cell? ⟨k2, 2, none⟩ = some (.int .u64 (R.1.st : Nat)) := cell_of B2.out rfl
    have z3 : W9.cell? ⟨k2, 3, none⟩ = some (.slice l2.ko R.1.keys.length l2.kc) := cell_of B2.out rfl
    have z4 : W9.cell? ⟨k2, 4, none⟩ = some (.slice l2.no R.1.needs.length l2.nc) := cell_of B2.out rfl
    have z5 : W9.cell? ⟨k2, 5, none⟩ = some (.string R.1.pred) := cell_of B2.out rfl
    have z6 : W9.cell? ⟨k2, 6, none⟩ = some (.int .u32 (R.1.g : Nat)) := cell_of B2.out rfl
    have z7 : W9.cell? ⟨k2, 7, none⟩ = some (.int .u32 (R.1.to : Nat)) := cell_of B2.out rfl
    have z8 : W9.cell? ⟨k2, 8, none⟩ = some (.int .u64 (R.1.at_ : Nat)) := cell_of B2.out rfl
    go_wp2_with fail
    refine (sameop_any A1.out A2.out).mono ?_
    rintro e Wa ⟨rfl, ca⟩
    go_wp2_with fail
    go_ret
    exact ⟨rfl, HC.out.trans ca⟩
  case true =>
    obtain rfl : (0 : Int) = E := hE.out
    have RB := Lib.hid (rbytes_any HA.out hmy)
    rw [bytesM_yes hmy] at RB
    generalize bytesM o = B at *
    go_wp2_with fail
    refine RB.out.mono ?_
    rintro e W4b ⟨rfl, c4⟩
    replace HA := Lib.hid (HA.out.same c4)
    replace HC := Lib.hid (HC.out.trans c4)
    replace HB := Lib.hid (box_keep HB.out c4)
    clear c4 RB
    clear x0 x1 x2 x3 x4 x5 x6 x7 x8
    have x0 : W4b.cell? ⟨kb, 0, none⟩ = some (.int .u8 (o.k : Nat)) := cell_of HB.out rfl
    have x1 : W4b.cell? ⟨kb, 1, none⟩ = some (.int .u32 (o.n : Nat)) := cell_of HB.out rfl
    have x2 : W4b.cell? ⟨kb, 2, none⟩ = some (.int .u64 (o.st : Nat)) := cell_of HB.out rfl
    have x3 : W4b.cell? ⟨kb, 3, none⟩ = some (.slice l.ko o.keys.length l.kc) := cell_of HB.out rfl
    have x4 : W4b.cell? ⟨kb, 4, none⟩ = some (.slice l.no o.needs.length l.nc) := cell_of HB.out rfl
    have x5 : W4b.cell? ⟨kb, 5, none⟩ = some (.string o.pred) := cell_of HB.out rfl
    have x6 : W4b.cell? ⟨kb, 6, none⟩ = some (.int .u32 (o.g : Nat)) := cell_of HB.out rfl
    have x7 : W4b.cell? ⟨kb, 7, none⟩ = some (.int .u32 (o.to : Nat)) := cell_of HB.out rfl
    have x8 : W4b.cell? ⟨kb, 8, none⟩ = some (.int .u64 (o.at_ : Nat)) := cell_of HB.out rfl
    obtain ⟨R, hR⟩ : ∃ R, Hid (readW b = R) := ⟨_, Lib.hid rfl⟩
    have R1 := Lib.hid (read_any (w := W4b) HS.out)
    rw [hR.out] at R1
    go_wp2_with fail
    refine R1.out.mono ?_
    rintro e W5 ⟨l1, rfl, a1, c5⟩
    replace HA := Lib.hid (HA.out.same c5)
    replace HC := Lib.hid (HC.out.trans c5)
    replace HB := Lib.hid (box_keep HB.out c5)
    have c5' := (Chg.refl (fun _ => False) W5).alloc (.cells (opC R.1 l1) 34)
    replace HA := Lib.hid (HA.out.same c5')
    replace HC := Lib.hid (HC.out.trans c5')
    replace HB := Lib.hid (box_keep HB.out c5')
    have A1 := Lib.hid (a1.same c5')
    have B1 := Lib.hid (Go.heap_alloc_new W5 (.cells (opC R.1 l1) 34))
    obtain ⟨k1, hk1⟩ : ∃ k, Hid (W5.heap.size = k) := ⟨_, Lib.hid rfl⟩
    rw [hk1.out] at B1
    obtain ⟨W6, hW6⟩ : ∃ W, Hid (W5.alloc (.cells (opC R.1 l1) 34) = W) := ⟨_, Lib.hid rfl⟩
    rw [hW6.out] at HA HC HB A1 B1
    clear c5 c5' a1 R1
    clear x0 x1 x2 x3 x4 x5 x6 x7 x8
    go_upto_region 11 with fail
    rw [hW6.out, hk1.out]
    clear hW6 hk1
    have R2 := Lib.hid (rread_any (w := W6) HS.out)
    rw [hR.out] at R2
    go_wp2_with fail
    refine R2.out.mono ?_
    rintro e W7 ⟨l2, rfl, a2, c7⟩
    replace HA := Lib.hid (HA.out.same c7)
    replace HC := Lib.hid (HC.out.trans c7)
    replace HB := Lib.hid (box_keep HB.out c7)
    replace A1 := Lib.hid (A1.out.same c7)
    replace B1 := Lib.hid (box_keep B1.out c7)
    have c7' := (Chg.refl (fun _ => False) W7).alloc (.cells (opC R.1 l2) 34)
    replace HA := Lib.hid (HA.out.same c7')
    replace HC := Lib.hid (HC.out.trans c7')
    replace HB := Lib.hid (box_keep HB.out c7')
    replace A1 := Lib.hid (A1.out.same c7')
    replace B1 := Lib.hid (box_keep B1.out c7')
    have A2 := Lib.hid (a2.same c7')
    have B2 := Lib.hid (Go.heap_alloc_new W7 (.cells (opC R.1 l2) 34))
    obtain ⟨k2, hk2⟩ : ∃ k, Hid (W7.heap.size = k) := ⟨_, Lib.hid rfl⟩
    rw [hk2.out] at B2
    obtain ⟨W8, hW8⟩ : ∃ W, Hid (W7.alloc (.cells (opC R.1 l2) 34) = W) := ⟨_, Lib.hid rfl⟩
    rw [hW8.out] at HA HC HB A1 B1 A2 B2
    clear c7 c7' a2 R2
    go_upto_region 12 with fail
    rw [hW8.out, hk2.out]
    clear hW8 hk2
    have x0 : W8.cell? ⟨kb, 0, none⟩ = some (.int .u8 (o.k : Nat)) := cell_of HB.out rfl
    have x1 : W8.cell? ⟨kb, 1, none⟩ = some (.int .u32 (o.n : Nat)) := cell_of HB.out rfl
    have x2 : W8.cell? ⟨kb, 2, none⟩ = some (.int .u64 (o.st : Nat)) := cell_of HB.out rfl
    have x3 : W8.cell? ⟨kb, 3, none⟩ = some (.slice l.ko o.keys.length l.kc) := cell_of HB.out rfl
    have x4 : W8.cell? ⟨kb, 4, none⟩ = some (.slice l.no o.needs.length l.nc) := cell_of HB.out rfl
    have x5 : W8.cell? ⟨kb, 5, none⟩ = some (.string o.pred) := cell_of HB.out rfl
    have x6 : W8.cell? ⟨kb, 6, none⟩ = some (.int .u32 (o.g : Nat)) := cell_of HB.out rfl
    have x7 : W8.cell? ⟨kb, 7, none⟩ = some (.int .u32 (o.to : Nat)) := cell_of HB.out rfl
    have x8 : W8.cell? ⟨kb, 8, none⟩ = some (.int .u64 (o.at_ : Nat)) := cell_of HB.out rfl
    have M := Lib.hid (may_any HA.out)
    rw [hmy] at M
    replace M : Hid (Calls Try.prog 23 #[.agg (opC o l)] W8 fun e w' => e = .returned (.int .i64 0) ∧ Chg (fun _ => False) W8 w') := M
    go_wp2_with fail
    refine M.out.mono ?_
    rintro e W9 ⟨rfl, c9⟩
    replace HC := Lib.hid (HC.out.trans c9)
    replace A1 := Lib.hid (A1.out.same c9)
    replace B1 := Lib.hid (box_keep B1.out c9)
    replace A2 := Lib.hid (A2.out.same c9)
    replace B2 := Lib.hid (box_keep B2.out c9)
    clear M c9 HB HA
    clear x0 x1 x2 x3 x4 x5 x6 x7 x8
    have y0 : W9.cell? ⟨k1, 0, none⟩ = some (.int .u8 (R.1.k : Nat)) := cell_of B1.out rfl
    have y1 : W9.cell? ⟨k1, 1, none⟩ = some (.int .u32 (R.1.n : Nat)) := cell_of B1.out rfl
    have y2 : W9.cell? ⟨k1, 2, none⟩ = some (.int .u64 (R.1.st : Nat)) := cell_of B1.out rfl
    have y3 : W9.cell? ⟨k1, 3, none⟩ = some (.slice l1.ko R.1.keys.length l1.kc) := cell_of B1.out rfl
    have y4 : W9.cell? ⟨k1, 4, none⟩ = some (.slice l1.no R.1.needs.length l1.nc) := cell_of B1.out rfl
    have y5 : W9.cell? ⟨k1, 5, none⟩ = some (.string R.1.pred) := cell_of B1.out rfl
    have y6 : W9.cell? ⟨k1, 6, none⟩ = some (.int .u32 (R.1.g : Nat)) := cell_of B1.out rfl
    have y7 : W9.cell? ⟨k1, 7, none⟩ = some (.int .u32 (R.1.to : Nat)) := cell_of B1.out rfl
    have y8 : W9.cell? ⟨k1, 8, none⟩ = some (.int .u64 (R.1.at_ : Nat)) := cell_of B1.out rfl
    have z0 : W9.cell? ⟨k2, 0, none⟩ = some (.int .u8 (R.1.k : Nat)) := cell_of B2.out rfl
    have z1 : W9.cell? ⟨k2, 1, none⟩ = some (.int .u32 (R.1.n : Nat)) := cell_of B2.out rfl
    have z2 : W9.cell? ⟨k2, 2, none⟩ = some (.int .u64 (R.1.st : Nat)) := cell_of B2.out rfl
    have z3 : W9.cell? ⟨k2, 3, none⟩ = some (.slice l2.ko R.1.keys.length l2.kc) := cell_of B2.out rfl
    have z4 : W9.cell? ⟨k2, 4, none⟩ = some (.slice l2.no R.1.needs.length l2.nc) := cell_of B2.out rfl
    have z5 : W9.cell? ⟨k2, 5, none⟩ = some (.string R.1.pred) := cell_of B2.out rfl
    have z6 : W9.cell? ⟨k2, 6, none⟩ = some (.int .u32 (R.1.g : Nat)) := cell_of B2.out rfl
    have z7 : W9.cell? ⟨k2, 7, none⟩ = some (.int .u32 (R.1.to : Nat)) := cell_of B2.out rfl
    have z8 : W9.cell? ⟨k2, 8, none⟩ = some (.int .u64 (R.1.at_ : Nat)) := cell_of B2.out rfl
    go_wp2_with fail
    refine (sameop_any A1.out A2.out).mono ?_
    rintro e Wa ⟨rfl, ca⟩
    go_wp2_with fail
    go_ret
    exact ⟨rfl, HC.out.trans ca⟩

theorem walkOracleBytes {W : World} (b : ByteArray) (hb : b.size ≤ 140737488351232) {v : Value} (h : ∃ o l, v = .agg (opC o l) ∧ OpAt W o l ∧ o.pred.size ≤ maxLen) :
    Calls Try.prog 5 #[v, .string b] W fun e w' => e = .returned (.bool true) ∧ Below W.heap.size W w' := by
  obtain ⟨o, l, rfl, ho, hp⟩ := h
  exact (walkBytes ho hp b hb).mono fun e w' h => ⟨h.1, below_of_chg h.2⟩
end Go.Proofs.Ytgmmglmokkcgeaa
