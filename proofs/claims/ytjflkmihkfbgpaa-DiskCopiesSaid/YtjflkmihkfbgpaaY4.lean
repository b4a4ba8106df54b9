/- Walks: does: one call of both. -/
import Derived.Test.YtjflkmihkfbgpaaY3
namespace Go.Proofs.Ytjflkmihkfbgpaa
open Go.RowKit Mk Go.Sort
set_option linter.unusedVariables false
set_option linter.unusedSimpArgs false
section
variable {w w0 w1 w2 : World} {b x n0 S S' : Nat} {d d' : DiskM} {r r' : RefM} {F : Nat → Prop} {xk xm : Int} {nm tx : ByteArray}
abbrev stepArg (xd : Int) (nm tx : ByteArray) (xk xm : Int) : Value := .agg #[.int .i64 xd, .string nm, .string tx, .int .i64 xk, .int .i64 xm]
theorem RTo.behind (c : Chg (fun _ => False) w0 w) (h : RTo w x F S r w1) : RTo w0 x F S r w1 :=
  ⟨h.is.foot (fun g hg => hg.imp id (fun e => Nat.le_trans c.size e)), (c.mono (fun _ f => f.elim)).trans h.chg⟩
theorem TwoP.larger (h : TwoP n0 w b x S d r w1) (hS : S ≤ S') (h' : S' ≤ 1099511627776) : TwoP n0 w b x S' d r w1 := ⟨h.two.larger hS h', h.chg, h.keep⟩
theorem TwoP.of_same (h : Two n0 w b x S d r) (c : Chg (fun _ => False) w w1) : TwoP n0 w b x S d r w1 := ⟨h.same c, c.mono (fun _ f => f.elim), Keep.of_none c⟩
theorem crash_any (h : DiskIs w b F S d) (k t : Int) (hk : k ≤ 9223372036854775807) (ht : t ≤ 9223372036854775807) :
    Calls Try.prog 12 #[.pointer (some ⟨b, 0, none⟩), .int .i64 k, .int .i64 t] w fun e w' => e = .returned (.int .i64 (crashM d k t).2) ∧ To w b F S (crashM d k t).1 w' := by
  unfold crashM
  by_cases hb : k < 0 ∨ (d.T.length : Int) < k ∨ t < 0
  · rw [if_pos hb]
    exact (crash_bad h k t hb).mono fun e w' ⟨h1, h2⟩ => ⟨h1, by rw [h2]; exact To.of_same h (Chg.refl _ _)⟩
  · rw [if_neg hb]
    obtain ⟨kn, rfl⟩ : ∃ kn : Nat, k = kn := ⟨k.toNat, by omega⟩
    obtain ⟨tn, rfl⟩ : ∃ tn : Nat, t = tn := ⟨t.toNat, by omega⟩
    obtain ⟨r1, r2, v, ts, h⟩ := h
    exact crash_good h kn tn (by omega) (by omega)
theorem rcrash_any (h : RIs w x F S r) (k t : Int) :
    Calls Try.prog 38 #[.pointer (some ⟨x, 0, none⟩), .int .i64 k, .int .i64 t] w fun e w' => e = .returned (.int .i64 (rcrashM r k t).2) ∧ RTo w x F S (rcrashM r k t).1 w' := by
  unfold rcrashM
  by_cases hb : k < 0 ∨ (r.T.length : Int) < k ∨ t < 0
  · rw [if_pos hb]
    exact (rcrash_bad h k t hb).mono fun e w' ⟨h1, h2⟩ => ⟨h1, by rw [h2]; exact RTo.of_below h (Below.refl _ _)⟩
  · rw [if_neg hb]
    obtain ⟨kn, rfl⟩ : ∃ kn : Nat, k = kn := ⟨k.toNat, by omega⟩
    obtain ⟨tn, rfl⟩ : ∃ tn : Nat, t = tn := ⟨t.toNat, by omega⟩
    exact rcrash_good h kn tn (by omega)
set_option maxRecDepth 100000 in
set_option maxHeartbeats 4000000 in
theorem does_1 (T : Two n0 w b x S d r) (hS : S + tx.size + 1 ≤ 1099511627776) (hk : xk ≤ 9223372036854775807) (hm : xm ≤ 9223372036854775807) (hn0 : n0 ≤ w.heap.size) :
    Calls Try.prog 15 #[.pointer (some ⟨b, 0, none⟩), .pointer (some ⟨x, 0, none⟩), stepArg 1 nm tx xk xm] w fun e w' => e = .returned (.bool true) ∧ TwoP n0 w b x (S + tx.size + 1) (appendM d nm tx).1 (rappendM r nm tx).1 w' := by
  obtain ⟨W0, HW0⟩ : ∃ W0, Hid (w.alloc (.cells #[.int .i64 1, .string nm, .string tx, .int .i64 xk, .int .i64 xm] 36) = W0) := ⟨_, Lib.hid rfl⟩
  obtain ⟨kb, HKB⟩ : ∃ kb, Hid (w.heap.size = kb) := ⟨_, Lib.hid rfl⟩
  have HC0 : Hid (Chg (fun _ => False) w W0) := by rw [← HW0.out]; exact Lib.hid ((Chg.refl _ _).alloc _)
  have HN0 : Hid (n0 ≤ W0.heap.size) := Lib.hid (Nat.le_trans hn0 HC0.out.size)
  obtain ⟨FA, FB, TT⟩ := T.side
  have HKA : Hid (¬ FA kb) := Lib.hid (fun f => by have := (TT.la kb f).2; have := HKB.out; omega)
  have HKF : Hid (¬ FB kb) := Lib.hid (fun f => by have := (TT.lb kb f).2; have := HKB.out; omega)
  have T0 := Lib.hid (TT.same HC0.out)
  have HT := Lib.hid T
  have hkc : W0.heap[kb]? = some (.cells #[.int .i64 1, .string nm, .string tx, .int .i64 xk, .int .i64 xm] 36) := by rw [← HW0.out, ← HKB.out]; exact Go.heap_alloc_new _ _
  have HKC := Lib.hid hkc
  have HKL := Lib.hid (Array.getElem?_eq_some_iff.1 hkc).1
  have k1 : W0.cell? ⟨kb, 1, none⟩ = some (.string nm) := cell_of hkc rfl
  have k2 : W0.cell? ⟨kb, 2, none⟩ = some (.string tx) := cell_of hkc rfl
  clear hkc TT
  obtain ⟨d', hd'⟩ : ∃ d', (appendM d nm tx).1 = d' := ⟨_, rfl⟩
  obtain ⟨r', hr'⟩ : ∃ r', (rappendM r nm tx).1 = r' := ⟨_, rfl⟩
  obtain ⟨c, hc⟩ : ∃ c, (appendM d nm tx).2 = c := ⟨_, rfl⟩
  have HLK := Lib.hid (like_append HT.out.like nm tx).1
  have hc2 := (like_append HT.out.like nm tx).2
  have AA := Lib.hid (fun (v : World) (cg : Chg FB W0 v) => append_any (T0.out.seeA cg) nm tx hS)
  have BB := Lib.hid (fun (v : World) (cg : Chg FA W0 v) => rdo_app (T0.out.seeB cg) nm tx hS)
  rw [← hc2, hc, hr'] at BB
  rw [hc, hd'] at AA
  rw [hd', hr'] at HLK
  rw [hd', hr']
  have z1 := HKA.out
  have z2 := HKF.out
  clear T hS hk hm hn0 hc hc2 hd' hr'
  go_enter Try.func15, Try.ntmps15
  go_wp2_with fail
  rw [HW0.out, HKB.out]
  go_region_held3 (fun v => v.cell? ⟨kb, 1, none⟩ = some (.string nm) ∧ v.cell? ⟨kb, 2, none⟩ = some (.string tx)) (first | go_keep | (go_split_ands; refine ⟨?_, ?_⟩ <;> assumption)) (first | (go_at_call 11; with_reducible refine (AA.out _ hB.chg).mono ?_; rintro e w2 ⟨rfl, hA⟩; have q1 := (World.cell?_of_block (a := ⟨kb, 1, none⟩) (hA.chg.block kb (Nat.lt_of_lt_of_le HKL.out hB.chg.size) z1)).trans p1; have q2 := (World.cell?_of_block (a := ⟨kb, 2, none⟩) (hA.chg.block kb (Nat.lt_of_lt_of_le HKL.out hB.chg.size) z1)).trans p2) | (go_at_call 36; with_reducible refine (BB.out _ hA.chg).mono ?_; rintro e w2 ⟨rfl, hB⟩; have q1 := (World.cell?_of_block (a := ⟨kb, 1, none⟩) (hB.chg.block kb (Nat.lt_of_lt_of_le HKL.out hA.chg.size) z2)).trans p1; have q2 := (World.cell?_of_block (a := ⟨kb, 2, none⟩) (hB.chg.block kb (Nat.lt_of_lt_of_le HKL.out hA.chg.size) z2)).trans p2) | (go_at_call 11; with_reducible refine (AA.out _ (Chg.refl FB W0).drew).mono ?_; rintro e w1 ⟨rfl, hA0⟩; have hA := To.behind ((Chg.refl _ W0).drew) hA0; have p1 := (World.cell?_of_block (a := ⟨kb, 1, none⟩) (hA.chg.block kb HKL.out z1)).trans k1; have p2 := (World.cell?_of_block (a := ⟨kb, 2, none⟩) (hA.chg.block kb HKL.out z1)).trans k2) | (go_at_call 36; with_reducible refine (BB.out _ (Chg.refl FA W0).drew).mono ?_; rintro e w1 ⟨rfl, hB0⟩; have hB := RTo.behind ((Chg.refl _ W0).drew) hB0; have p1 := (World.cell?_of_block (a := ⟨kb, 1, none⟩) (hB.chg.block kb HKL.out z2)).trans k1; have p2 := (World.cell?_of_block (a := ⟨kb, 2, none⟩) (hB.chg.block kb HKL.out z2)).trans k2))
  all_goals
    have HF : Hid (TwoP n0 W0 b x (S + tx.size + 1) d' r' w2) := Lib.hid (by first | exact T0.out.fin_ab HN0.out hA hB HLK.out | exact T0.out.fin_ba HN0.out hB hA HLK.out)
    clear hA hB
    go_wp2
    go_ret
    exact ⟨rfl, HF.out.pre HC0.out⟩
set_option maxRecDepth 100000 in
set_option maxHeartbeats 4000000 in
theorem does_2 (T : Two n0 w b x S d r) (hS : S + tx.size + 1 ≤ 1099511627776) (hk : xk ≤ 9223372036854775807) (hm : xm ≤ 9223372036854775807) (hn0 : n0 ≤ w.heap.size) :
    Calls Try.prog 15 #[.pointer (some ⟨b, 0, none⟩), .pointer (some ⟨x, 0, none⟩), stepArg 2 nm tx xk xm] w fun e w' => e = .returned (.bool true) ∧ TwoP n0 w b x (S + tx.size + 1) (writeM d nm tx).1 (rwriteM r nm tx).1 w' := by
  obtain ⟨W0, HW0⟩ : ∃ W0, Hid (w.alloc (.cells #[.int .i64 2, .string nm, .string tx, .int .i64 xk, .int .i64 xm] 36) = W0) := ⟨_, Lib.hid rfl⟩
  obtain ⟨kb, HKB⟩ : ∃ kb, Hid (w.heap.size = kb) := ⟨_, Lib.hid rfl⟩
  have HC0 : Hid (Chg (fun _ => False) w W0) := by rw [← HW0.out]; exact Lib.hid ((Chg.refl _ _).alloc _)
  have HN0 : Hid (n0 ≤ W0.heap.size) := Lib.hid (Nat.le_trans hn0 HC0.out.size)
  obtain ⟨FA, FB, TT⟩ := T.side
  have HKA : Hid (¬ FA kb) := Lib.hid (fun f => by have := (TT.la kb f).2; have := HKB.out; omega)
  have HKF : Hid (¬ FB kb) := Lib.hid (fun f => by have := (TT.lb kb f).2; have := HKB.out; omega)
  have T0 := Lib.hid (TT.same HC0.out)
  have HT := Lib.hid T
  have hkc : W0.heap[kb]? = some (.cells #[.int .i64 2, .string nm, .string tx, .int .i64 xk, .int .i64 xm] 36) := by rw [← HW0.out, ← HKB.out]; exact Go.heap_alloc_new _ _
  have HKC := Lib.hid hkc
  have HKL := Lib.hid (Array.getElem?_eq_some_iff.1 hkc).1
  have k1 : W0.cell? ⟨kb, 1, none⟩ = some (.string nm) := cell_of hkc rfl
  have k2 : W0.cell? ⟨kb, 2, none⟩ = some (.string tx) := cell_of hkc rfl
  clear hkc TT
  obtain ⟨d', hd'⟩ : ∃ d', (writeM d nm tx).1 = d' := ⟨_, rfl⟩
  obtain ⟨r', hr'⟩ : ∃ r', (rwriteM r nm tx).1 = r' := ⟨_, rfl⟩
  obtain ⟨c, hc⟩ : ∃ c, (writeM d nm tx).2 = c := ⟨_, rfl⟩
  have HLK := Lib.hid (like_write HT.out.like nm tx).1
  have hc2 := (like_write HT.out.like nm tx).2
  have AA := Lib.hid (fun (v : World) (cg : Chg FB W0 v) => write_any (T0.out.seeA cg) nm tx hS)
  have BB := Lib.hid (fun (v : World) (cg : Chg FA W0 v) => rdo_wr (T0.out.seeB cg) nm tx hS)
  rw [← hc2, hc, hr'] at BB
  rw [hc, hd'] at AA
  rw [hd', hr'] at HLK
  rw [hd', hr']
  have z1 := HKA.out
  have z2 := HKF.out
  clear T hS hk hm hn0 hc hc2 hd' hr'
  go_enter Try.func15, Try.ntmps15
  go_wp2_with fail
  rw [HW0.out, HKB.out]
  go_region_held3 (fun v => v.cell? ⟨kb, 1, none⟩ = some (.string nm) ∧ v.cell? ⟨kb, 2, none⟩ = some (.string tx)) (first | go_keep | (go_split_ands; refine ⟨?_, ?_⟩ <;> assumption)) (first | (go_at_call 9; with_reducible refine (AA.out _ hB.chg).mono ?_; rintro e w2 ⟨rfl, hA⟩; have q1 := (World.cell?_of_block (a := ⟨kb, 1, none⟩) (hA.chg.block kb (Nat.lt_of_lt_of_le HKL.out hB.chg.size) z1)).trans p1; have q2 := (World.cell?_of_block (a := ⟨kb, 2, none⟩) (hA.chg.block kb (Nat.lt_of_lt_of_le HKL.out hB.chg.size) z1)).trans p2) | (go_at_call 36; with_reducible refine (BB.out _ hA.chg).mono ?_; rintro e w2 ⟨rfl, hB⟩; have q1 := (World.cell?_of_block (a := ⟨kb, 1, none⟩) (hB.chg.block kb (Nat.lt_of_lt_of_le HKL.out hA.chg.size) z2)).trans p1; have q2 := (World.cell?_of_block (a := ⟨kb, 2, none⟩) (hB.chg.block kb (Nat.lt_of_lt_of_le HKL.out hA.chg.size) z2)).trans p2) | (go_at_call 9; with_reducible refine (AA.out _ (Chg.refl FB W0).drew).mono ?_; rintro e w1 ⟨rfl, hA0⟩; have hA := To.behind ((Chg.refl _ W0).drew) hA0; have p1 := (World.cell?_of_block (a := ⟨kb, 1, none⟩) (hA.chg.block kb HKL.out z1)).trans k1; have p2 := (World.cell?_of_block (a := ⟨kb, 2, none⟩) (hA.chg.block kb HKL.out z1)).trans k2) | (go_at_call 36; with_reducible refine (BB.out _ (Chg.refl FA W0).drew).mono ?_; rintro e w1 ⟨rfl, hB0⟩; have hB := RTo.behind ((Chg.refl _ W0).drew) hB0; have p1 := (World.cell?_of_block (a := ⟨kb, 1, none⟩) (hB.chg.block kb HKL.out z2)).trans k1; have p2 := (World.cell?_of_block (a := ⟨kb, 2, none⟩) (hB.chg.block kb HKL.out z2)).trans k2))
  all_goals
    have HF : Hid (TwoP n0 W0 b x (S + tx.size + 1) d' r' w2) := Lib.hid (by first | exact T0.out.fin_ab HN0.out hA hB HLK.out | exact T0.out.fin_ba HN0.out hB hA HLK.out)
    clear hA hB
    go_wp2
    go_ret
    exact ⟨rfl, HF.out.pre HC0.out⟩
set_option maxRecDepth 100000 in
set_option maxHeartbeats 4000000 in
theorem does_3 (T : Two n0 w b x S d r) (hS : S + tx.size + 1 ≤ 1099511627776) (hk : xk ≤ 9223372036854775807) (hm : xm ≤ 9223372036854775807) (hn0 : n0 ≤ w.heap.size) :
    Calls Try.prog 15 #[.pointer (some ⟨b, 0, none⟩), .pointer (some ⟨x, 0, none⟩), stepArg 3 nm tx xk xm] w fun e w' => e = .returned (.bool true) ∧ TwoP n0 w b x (S + 1) (truncM d nm xk).1 (rtruncM r nm xk).1 w' := by
  obtain ⟨W0, HW0⟩ : ∃ W0, Hid (w.alloc (.cells #[.int .i64 3, .string nm, .string tx, .int .i64 xk, .int .i64 xm] 36) = W0) := ⟨_, Lib.hid rfl⟩
  obtain ⟨kb, HKB⟩ : ∃ kb, Hid (w.heap.size = kb) := ⟨_, Lib.hid rfl⟩
  have HC0 : Hid (Chg (fun _ => False) w W0) := by rw [← HW0.out]; exact Lib.hid ((Chg.refl _ _).alloc _)
  have HN0 : Hid (n0 ≤ W0.heap.size) := Lib.hid (Nat.le_trans hn0 HC0.out.size)
  obtain ⟨FA, FB, TT⟩ := T.side
  have HKA : Hid (¬ FA kb) := Lib.hid (fun f => by have := (TT.la kb f).2; have := HKB.out; omega)
  have HKF : Hid (¬ FB kb) := Lib.hid (fun f => by have := (TT.lb kb f).2; have := HKB.out; omega)
  have T0 := Lib.hid (TT.same HC0.out)
  have HT := Lib.hid T
  have hkc : W0.heap[kb]? = some (.cells #[.int .i64 3, .string nm, .string tx, .int .i64 xk, .int .i64 xm] 36) := by rw [← HW0.out, ← HKB.out]; exact Go.heap_alloc_new _ _
  have HKC := Lib.hid hkc
  have HKL := Lib.hid (Array.getElem?_eq_some_iff.1 hkc).1
  have k1 : W0.cell? ⟨kb, 1, none⟩ = some (.string nm) := cell_of hkc rfl
  have k3 : W0.cell? ⟨kb, 3, none⟩ = some (.int .i64 xk) := cell_of hkc rfl
  clear hkc TT
  obtain ⟨d', hd'⟩ : ∃ d', (truncM d nm xk).1 = d' := ⟨_, rfl⟩
  obtain ⟨r', hr'⟩ : ∃ r', (rtruncM r nm xk).1 = r' := ⟨_, rfl⟩
  obtain ⟨c, hc⟩ : ∃ c, (truncM d nm xk).2 = c := ⟨_, rfl⟩
  have HLK := Lib.hid (like_trunc HT.out.like nm xk).1
  have hc2 := (like_trunc HT.out.like nm xk).2
  have AA := Lib.hid (fun (v : World) (cg : Chg FB W0 v) => trunc_any (T0.out.seeA cg) nm xk (by omega))
  have BB := Lib.hid (fun (v : World) (cg : Chg FA W0 v) => rdo_trunc (T0.out.seeB cg) nm xk (by omega))
  rw [← hc2, hc, hr'] at BB
  rw [hc, hd'] at AA
  rw [hd', hr'] at HLK
  rw [hd', hr']
  have z1 := HKA.out
  have z2 := HKF.out
  clear T hS hk hm hn0 hc hc2 hd' hr'
  go_enter Try.func15, Try.ntmps15
  go_wp2_with fail
  rw [HW0.out, HKB.out]
  go_region_held3 (fun v => v.cell? ⟨kb, 1, none⟩ = some (.string nm) ∧ v.cell? ⟨kb, 3, none⟩ = some (.int .i64 xk)) (first | go_keep | (go_split_ands; refine ⟨?_, ?_⟩ <;> assumption)) (first | (go_at_call 24; with_reducible refine (AA.out _ hB.chg).mono ?_; rintro e w2 ⟨rfl, hA⟩; have q1 := (World.cell?_of_block (a := ⟨kb, 1, none⟩) (hA.chg.block kb (Nat.lt_of_lt_of_le HKL.out hB.chg.size) z1)).trans p1; have q3 := (World.cell?_of_block (a := ⟨kb, 3, none⟩) (hA.chg.block kb (Nat.lt_of_lt_of_le HKL.out hB.chg.size) z1)).trans p3) | (go_at_call 36; with_reducible refine (BB.out _ hA.chg).mono ?_; rintro e w2 ⟨rfl, hB⟩; have q1 := (World.cell?_of_block (a := ⟨kb, 1, none⟩) (hB.chg.block kb (Nat.lt_of_lt_of_le HKL.out hA.chg.size) z2)).trans p1; have q3 := (World.cell?_of_block (a := ⟨kb, 3, none⟩) (hB.chg.block kb (Nat.lt_of_lt_of_le HKL.out hA.chg.size) z2)).trans p3) | (go_at_call 24; with_reducible refine (AA.out _ (Chg.refl FB W0).drew).mono ?_; rintro e w1 ⟨rfl, hA0⟩; have hA := To.behind ((Chg.refl _ W0).drew) hA0; have p1 := (World.cell?_of_block (a := ⟨kb, 1, none⟩) (hA.chg.block kb HKL.out z1)).trans k1; have p3 := (World.cell?_of_block (a := ⟨kb, 3, none⟩) (hA.chg.block kb HKL.out z1)).trans k3) | (go_at_call 36; with_reducible refine (BB.out _ (Chg.refl FA W0).drew).mono ?_; rintro e w1 ⟨rfl, hB0⟩; have hB := RTo.behind ((Chg.refl _ W0).drew) hB0; have p1 := (World.cell?_of_block (a := ⟨kb, 1, none⟩) (hB.chg.block kb HKL.out z2)).trans k1; have p3 := (World.cell?_of_block (a := ⟨kb, 3, none⟩) (hB.chg.block kb HKL.out z2)).trans k3))
  all_goals
    have HF : Hid (TwoP n0 W0 b x (S + 1) d' r' w2) := Lib.hid (by first | exact T0.out.fin_ab HN0.out hA hB HLK.out | exact T0.out.fin_ba HN0.out hB hA HLK.out)
    clear hA hB
    go_wp2
    go_ret
    exact ⟨rfl, HF.out.pre HC0.out⟩
set_option maxRecDepth 100000 in
set_option maxHeartbeats 4000000 in
theorem does_4 (T : Two n0 w b x S d r) (hS : S + tx.size + 1 ≤ 1099511627776) (hk : xk ≤ 9223372036854775807) (hm : xm ≤ 9223372036854775807) (hn0 : n0 ≤ w.heap.size) :
    Calls Try.prog 15 #[.pointer (some ⟨b, 0, none⟩), .pointer (some ⟨x, 0, none⟩), stepArg 4 nm tx xk xm] w fun e w' => e = .returned (.bool true) ∧ TwoP n0 w b x (S + 1) (renameM d nm tx).1 (rrenameM r nm tx).1 w' := by
  obtain ⟨W0, HW0⟩ : ∃ W0, Hid (w.alloc (.cells #[.int .i64 4, .string nm, .string tx, .int .i64 xk, .int .i64 xm] 36) = W0) := ⟨_, Lib.hid rfl⟩
  obtain ⟨kb, HKB⟩ : ∃ kb, Hid (w.heap.size = kb) := ⟨_, Lib.hid rfl⟩
  have HC0 : Hid (Chg (fun _ => False) w W0) := by rw [← HW0.out]; exact Lib.hid ((Chg.refl _ _).alloc _)
  have HN0 : Hid (n0 ≤ W0.heap.size) := Lib.hid (Nat.le_trans hn0 HC0.out.size)
  obtain ⟨FA, FB, TT⟩ := T.side
  have HKA : Hid (¬ FA kb) := Lib.hid (fun f => by have := (TT.la kb f).2; have := HKB.out; omega)
  have HKF : Hid (¬ FB kb) := Lib.hid (fun f => by have := (TT.lb kb f).2; have := HKB.out; omega)
  have T0 := Lib.hid (TT.same HC0.out)
  have HT := Lib.hid T
  have hkc : W0.heap[kb]? = some (.cells #[.int .i64 4, .string nm, .string tx, .int .i64 xk, .int .i64 xm] 36) := by rw [← HW0.out, ← HKB.out]; exact Go.heap_alloc_new _ _
  have HKC := Lib.hid hkc
  have HKL := Lib.hid (Array.getElem?_eq_some_iff.1 hkc).1
  have k1 : W0.cell? ⟨kb, 1, none⟩ = some (.string nm) := cell_of hkc rfl
  have k2 : W0.cell? ⟨kb, 2, none⟩ = some (.string tx) := cell_of hkc rfl
  clear hkc TT
  obtain ⟨d', hd'⟩ : ∃ d', (renameM d nm tx).1 = d' := ⟨_, rfl⟩
  obtain ⟨r', hr'⟩ : ∃ r', (rrenameM r nm tx).1 = r' := ⟨_, rfl⟩
  obtain ⟨c, hc⟩ : ∃ c, (renameM d nm tx).2 = c := ⟨_, rfl⟩
  have HLK := Lib.hid (like_rename HT.out.like nm tx).1
  have hc2 := (like_rename HT.out.like nm tx).2
  have AA := Lib.hid (fun (v : World) (cg : Chg FB W0 v) => rename_any (T0.out.seeA cg) nm tx (by omega))
  have BB := Lib.hid (fun (v : World) (cg : Chg FA W0 v) => rdo_ren (T0.out.seeB cg) nm tx (by omega))
  rw [← hc2, hc, hr'] at BB
  rw [hc, hd'] at AA
  rw [hd', hr'] at HLK
  rw [hd', hr']
  have z1 := HKA.out
  have z2 := HKF.out
  clear T hS hk hm hn0 hc hc2 hd' hr'
  go_enter Try.func15, Try.ntmps15
  go_wp2_with fail
  rw [HW0.out, HKB.out]
  go_region_held3 (fun v => v.cell? ⟨kb, 1, none⟩ = some (.string nm) ∧ v.cell? ⟨kb, 2, none⟩ = some (.string tx)) (first | go_keep | (go_split_ands; refine ⟨?_, ?_⟩ <;> assumption)) (first | (go_at_call 25; with_reducible refine (AA.out _ hB.chg).mono ?_; rintro e w2 ⟨rfl, hA⟩; have q1 := (World.cell?_of_block (a := ⟨kb, 1, none⟩) (hA.chg.block kb (Nat.lt_of_lt_of_le HKL.out hB.chg.size) z1)).trans p1; have q2 := (World.cell?_of_block (a := ⟨kb, 2, none⟩) (hA.chg.block kb (Nat.lt_of_lt_of_le HKL.out hB.chg.size) z1)).trans p2) | (go_at_call 36; with_reducible refine (BB.out _ hA.chg).mono ?_; rintro e w2 ⟨rfl, hB⟩; have q1 := (World.cell?_of_block (a := ⟨kb, 1, none⟩) (hB.chg.block kb (Nat.lt_of_lt_of_le HKL.out hA.chg.size) z2)).trans p1; have q2 := (World.cell?_of_block (a := ⟨kb, 2, none⟩) (hB.chg.block kb (Nat.lt_of_lt_of_le HKL.out hA.chg.size) z2)).trans p2) | (go_at_call 25; with_reducible refine (AA.out _ (Chg.refl FB W0).drew).mono ?_; rintro e w1 ⟨rfl, hA0⟩; have hA := To.behind ((Chg.refl _ W0).drew) hA0; have p1 := (World.cell?_of_block (a := ⟨kb, 1, none⟩) (hA.chg.block kb HKL.out z1)).trans k1; have p2 := (World.cell?_of_block (a := ⟨kb, 2, none⟩) (hA.chg.block kb HKL.out z1)).trans k2) | (go_at_call 36; with_reducible refine (BB.out _ (Chg.refl FA W0).drew).mono ?_; rintro e w1 ⟨rfl, hB0⟩; have hB := RTo.behind ((Chg.refl _ W0).drew) hB0; have p1 := (World.cell?_of_block (a := ⟨kb, 1, none⟩) (hB.chg.block kb HKL.out z2)).trans k1; have p2 := (World.cell?_of_block (a := ⟨kb, 2, none⟩) (hB.chg.block kb HKL.out z2)).trans k2))
  all_goals
    have HF : Hid (TwoP n0 W0 b x (S + 1) d' r' w2) := Lib.hid (by first | exact T0.out.fin_ab HN0.out hA hB HLK.out | exact T0.out.fin_ba HN0.out hB hA HLK.out)
    clear hA hB
    go_wp2
    go_ret
    exact ⟨rfl, HF.out.pre HC0.out⟩
set_option maxRecDepth 100000 in
set_option maxHeartbeats 4000000 in
theorem does_5 (T : Two n0 w b x S d r) (hS : S + tx.size + 1 ≤ 1099511627776) (hk : xk ≤ 9223372036854775807) (hm : xm ≤ 9223372036854775807) (hn0 : n0 ≤ w.heap.size) :
    Calls Try.prog 15 #[.pointer (some ⟨b, 0, none⟩), .pointer (some ⟨x, 0, none⟩), stepArg 5 nm tx xk xm] w fun e w' => e = .returned (.bool true) ∧ TwoP n0 w b x (S + 1) (removeM d nm).1 (rremoveM r nm).1 w' := by
  obtain ⟨W0, HW0⟩ : ∃ W0, Hid (w.alloc (.cells #[.int .i64 5, .string nm, .string tx, .int .i64 xk, .int .i64 xm] 36) = W0) := ⟨_, Lib.hid rfl⟩
  obtain ⟨kb, HKB⟩ : ∃ kb, Hid (w.heap.size = kb) := ⟨_, Lib.hid rfl⟩
  have HC0 : Hid (Chg (fun _ => False) w W0) := by rw [← HW0.out]; exact Lib.hid ((Chg.refl _ _).alloc _)
  have HN0 : Hid (n0 ≤ W0.heap.size) := Lib.hid (Nat.le_trans hn0 HC0.out.size)
  obtain ⟨FA, FB, TT⟩ := T.side
  have HKA : Hid (¬ FA kb) := Lib.hid (fun f => by have := (TT.la kb f).2; have := HKB.out; omega)
  have HKF : Hid (¬ FB kb) := Lib.hid (fun f => by have := (TT.lb kb f).2; have := HKB.out; omega)
  have T0 := Lib.hid (TT.same HC0.out)
  have HT := Lib.hid T
  have hkc : W0.heap[kb]? = some (.cells #[.int .i64 5, .string nm, .string tx, .int .i64 xk, .int .i64 xm] 36) := by rw [← HW0.out, ← HKB.out]; exact Go.heap_alloc_new _ _
  have HKC := Lib.hid hkc
  have HKL := Lib.hid (Array.getElem?_eq_some_iff.1 hkc).1
  have k1 : W0.cell? ⟨kb, 1, none⟩ = some (.string nm) := cell_of hkc rfl
  clear hkc TT
  obtain ⟨d', hd'⟩ : ∃ d', (removeM d nm).1 = d' := ⟨_, rfl⟩
  obtain ⟨r', hr'⟩ : ∃ r', (rremoveM r nm).1 = r' := ⟨_, rfl⟩
  obtain ⟨c, hc⟩ : ∃ c, (removeM d nm).2 = c := ⟨_, rfl⟩
  have HLK := Lib.hid (like_remove HT.out.like nm).1
  have hc2 := (like_remove HT.out.like nm).2
  have AA := Lib.hid (fun (v : World) (cg : Chg FB W0 v) => remove_any (T0.out.seeA cg) nm (by omega))
  have BB := Lib.hid (fun (v : World) (cg : Chg FA W0 v) => rdo_rem (T0.out.seeB cg) nm (by omega))
  rw [← hc2, hc, hr'] at BB
  rw [hc, hd'] at AA
  rw [hd', hr'] at HLK
  rw [hd', hr']
  have z1 := HKA.out
  have z2 := HKF.out
  clear T hS hk hm hn0 hc hc2 hd' hr'
  go_enter Try.func15, Try.ntmps15
  go_wp2_with fail
  rw [HW0.out, HKB.out]
  go_region_held3 (fun v => v.cell? ⟨kb, 1, none⟩ = some (.string nm)) (first | go_keep | assumption) (first | (go_at_call 26; with_reducible refine (AA.out _ hB.chg).mono ?_; rintro e w2 ⟨rfl, hA⟩; have q1 := (World.cell?_of_block (a := ⟨kb, 1, none⟩) (hA.chg.block kb (Nat.lt_of_lt_of_le HKL.out hB.chg.size) z1)).trans p1) | (go_at_call 36; with_reducible refine (BB.out _ hA.chg).mono ?_; rintro e w2 ⟨rfl, hB⟩; have q1 := (World.cell?_of_block (a := ⟨kb, 1, none⟩) (hB.chg.block kb (Nat.lt_of_lt_of_le HKL.out hA.chg.size) z2)).trans p1) | (go_at_call 26; with_reducible refine (AA.out _ (Chg.refl FB W0).drew).mono ?_; rintro e w1 ⟨rfl, hA0⟩; have hA := To.behind ((Chg.refl _ W0).drew) hA0; have p1 := (World.cell?_of_block (a := ⟨kb, 1, none⟩) (hA.chg.block kb HKL.out z1)).trans k1) | (go_at_call 36; with_reducible refine (BB.out _ (Chg.refl FA W0).drew).mono ?_; rintro e w1 ⟨rfl, hB0⟩; have hB := RTo.behind ((Chg.refl _ W0).drew) hB0; have p1 := (World.cell?_of_block (a := ⟨kb, 1, none⟩) (hB.chg.block kb HKL.out z2)).trans k1))
  all_goals
    have HF : Hid (TwoP n0 W0 b x (S + 1) d' r' w2) := Lib.hid (by first | exact T0.out.fin_ab HN0.out hA hB HLK.out | exact T0.out.fin_ba HN0.out hB hA HLK.out)
    clear hA hB
    go_wp2
    go_ret
    exact ⟨rfl, HF.out.pre HC0.out⟩
set_option maxRecDepth 100000 in
set_option maxHeartbeats 4000000 in
theorem does_7 (T : Two n0 w b x S d r) (hS : S + tx.size + 1 ≤ 1099511627776) (hk : xk ≤ 9223372036854775807) (hm : xm ≤ 9223372036854775807) (hn0 : n0 ≤ w.heap.size) :
    Calls Try.prog 15 #[.pointer (some ⟨b, 0, none⟩), .pointer (some ⟨x, 0, none⟩), stepArg 7 nm tx xk xm] w fun e w' => e = .returned (.bool true) ∧ TwoP n0 w b x (S) (crashM d xk xm).1 (rcrashM r xk xm).1 w' := by
  obtain ⟨W0, HW0⟩ : ∃ W0, Hid (w.alloc (.cells #[.int .i64 7, .string nm, .string tx, .int .i64 xk, .int .i64 xm] 36) = W0) := ⟨_, Lib.hid rfl⟩
  obtain ⟨kb, HKB⟩ : ∃ kb, Hid (w.heap.size = kb) := ⟨_, Lib.hid rfl⟩
  have HC0 : Hid (Chg (fun _ => False) w W0) := by rw [← HW0.out]; exact Lib.hid ((Chg.refl _ _).alloc _)
  have HN0 : Hid (n0 ≤ W0.heap.size) := Lib.hid (Nat.le_trans hn0 HC0.out.size)
  obtain ⟨FA, FB, TT⟩ := T.side
  have HKA : Hid (¬ FA kb) := Lib.hid (fun f => by have := (TT.la kb f).2; have := HKB.out; omega)
  have HKF : Hid (¬ FB kb) := Lib.hid (fun f => by have := (TT.lb kb f).2; have := HKB.out; omega)
  have T0 := Lib.hid (TT.same HC0.out)
  have HT := Lib.hid T
  have hkc : W0.heap[kb]? = some (.cells #[.int .i64 7, .string nm, .string tx, .int .i64 xk, .int .i64 xm] 36) := by rw [← HW0.out, ← HKB.out]; exact Go.heap_alloc_new _ _
  have HKC := Lib.hid hkc
  have HKL := Lib.hid (Array.getElem?_eq_some_iff.1 hkc).1
  have k3 : W0.cell? ⟨kb, 3, none⟩ = some (.int .i64 xk) := cell_of hkc rfl
  have k4 : W0.cell? ⟨kb, 4, none⟩ = some (.int .i64 xm) := cell_of hkc rfl
  clear hkc TT
  obtain ⟨d', hd'⟩ : ∃ d', (crashM d xk xm).1 = d' := ⟨_, rfl⟩
  obtain ⟨r', hr'⟩ : ∃ r', (rcrashM r xk xm).1 = r' := ⟨_, rfl⟩
  obtain ⟨c, hc⟩ : ∃ c, (crashM d xk xm).2 = c := ⟨_, rfl⟩
  have HLK := Lib.hid (like_crash HT.out.like xk xm).1
  have hc2 := (like_crash HT.out.like xk xm).2
  have AA := Lib.hid (fun (v : World) (cg : Chg FB W0 v) => crash_any (T0.out.seeA cg) xk xm hk hm)
  have BB := Lib.hid (fun (v : World) (cg : Chg FA W0 v) => rcrash_any (T0.out.seeB cg) xk xm)
  rw [← hc2, hc, hr'] at BB
  rw [hc, hd'] at AA
  rw [hd', hr'] at HLK
  rw [hd', hr']
  have z1 := HKA.out
  have z2 := HKF.out
  clear T hS hk hm hn0 hc hc2 hd' hr'
  go_enter Try.func15, Try.ntmps15
  go_wp2_with fail
  rw [HW0.out, HKB.out]
  go_region_held3 (fun v => v.cell? ⟨kb, 3, none⟩ = some (.int .i64 xk) ∧ v.cell? ⟨kb, 4, none⟩ = some (.int .i64 xm)) (first | go_keep | (go_split_ands; refine ⟨?_, ?_⟩ <;> assumption)) (first | (go_at_call 12; with_reducible refine (AA.out _ hB.chg).mono ?_; rintro e w2 ⟨rfl, hA⟩; have q3 := (World.cell?_of_block (a := ⟨kb, 3, none⟩) (hA.chg.block kb (Nat.lt_of_lt_of_le HKL.out hB.chg.size) z1)).trans p3; have q4 := (World.cell?_of_block (a := ⟨kb, 4, none⟩) (hA.chg.block kb (Nat.lt_of_lt_of_le HKL.out hB.chg.size) z1)).trans p4) | (go_at_call 38; with_reducible refine (BB.out _ hA.chg).mono ?_; rintro e w2 ⟨rfl, hB⟩; have q3 := (World.cell?_of_block (a := ⟨kb, 3, none⟩) (hB.chg.block kb (Nat.lt_of_lt_of_le HKL.out hA.chg.size) z2)).trans p3; have q4 := (World.cell?_of_block (a := ⟨kb, 4, none⟩) (hB.chg.block kb (Nat.lt_of_lt_of_le HKL.out hA.chg.size) z2)).trans p4) | (go_at_call 12; with_reducible refine (AA.out _ (Chg.refl FB W0).drew).mono ?_; rintro e w1 ⟨rfl, hA0⟩; have hA := To.behind ((Chg.refl _ W0).drew) hA0; have p3 := (World.cell?_of_block (a := ⟨kb, 3, none⟩) (hA.chg.block kb HKL.out z1)).trans k3; have p4 := (World.cell?_of_block (a := ⟨kb, 4, none⟩) (hA.chg.block kb HKL.out z1)).trans k4) | (go_at_call 38; with_reducible refine (BB.out _ (Chg.refl FA W0).drew).mono ?_; rintro e w1 ⟨rfl, hB0⟩; have hB := RTo.behind ((Chg.refl _ W0).drew) hB0; have p3 := (World.cell?_of_block (a := ⟨kb, 3, none⟩) (hB.chg.block kb HKL.out z2)).trans k3; have p4 := (World.cell?_of_block (a := ⟨kb, 4, none⟩) (hB.chg.block kb HKL.out z2)).trans k4))
  all_goals
    have HF : Hid (TwoP n0 W0 b x (S) d' r' w2) := Lib.hid (by first | exact T0.out.fin_ab HN0.out hA hB HLK.out | exact T0.out.fin_ba HN0.out hB hA HLK.out)
    clear hA hB
    go_wp2
    go_ret
    exact ⟨rfl, HF.out.pre HC0.out⟩
set_option maxRecDepth 100000 in
set_option maxHeartbeats 4000000 in
theorem does_6 (T : Two n0 w b x S d r) (hS : S + tx.size + 1 ≤ 1099511627776) (hk : xk ≤ 9223372036854775807) (hm : xm ≤ 9223372036854775807) (hn0 : n0 ≤ w.heap.size) :
    Calls Try.prog 15 #[.pointer (some ⟨b, 0, none⟩), .pointer (some ⟨x, 0, none⟩), stepArg 6 nm tx xk xm] w fun e w' => e = .returned (.bool true) ∧ TwoP n0 w b x S (syncM d) (rsyncM r) w' := by
  obtain ⟨W0, HW0⟩ : ∃ W0, Hid (w.alloc (.cells #[.int .i64 6, .string nm, .string tx, .int .i64 xk, .int .i64 xm] 36) = W0) := ⟨_, Lib.hid rfl⟩
  obtain ⟨kb, HKB⟩ : ∃ kb, Hid (w.heap.size = kb) := ⟨_, Lib.hid rfl⟩
  have HC0 : Hid (Chg (fun _ => False) w W0) := by rw [← HW0.out]; exact Lib.hid ((Chg.refl _ _).alloc _)
  have HN0 : Hid (n0 ≤ W0.heap.size) := Lib.hid (Nat.le_trans hn0 HC0.out.size)
  obtain ⟨FA, FB, TT⟩ := T.side
  have HKA : Hid (¬ FA kb) := Lib.hid (fun f => by have := (TT.la kb f).2; have := HKB.out; omega)
  have HKF : Hid (¬ FB kb) := Lib.hid (fun f => by have := (TT.lb kb f).2; have := HKB.out; omega)
  have T0 := Lib.hid (TT.same HC0.out)
  have HT := Lib.hid T
  have hkc : W0.heap[kb]? = some (.cells #[.int .i64 6, .string nm, .string tx, .int .i64 xk, .int .i64 xm] 36) := by rw [← HW0.out, ← HKB.out]; exact Go.heap_alloc_new _ _
  have HKC := Lib.hid hkc
  have HKL := Lib.hid (Array.getElem?_eq_some_iff.1 hkc).1
  clear hkc TT
  have HLK := Lib.hid (like_sync HT.out.like)
  have BB := Lib.hid (rsync_any T0.out.rr)
  have AA := Lib.hid (fun (v : World) (cg : Chg FB W0 v) => sync_any (T0.out.seeA cg))
  clear T hS hk hm hn0
  go_enter Try.func15, Try.ntmps15
  go_wp2_with fail
  rw [HW0.out]
  refine BB.out.mono ?_
  rintro e w1 ⟨rfl, hB⟩
  have A1 := Lib.hid (AA.out w1 hB.chg)
  have HB := Lib.hid hB
  clear hB AA BB
  go_wp2_with fail
  refine A1.out.mono ?_
  rintro e w2 ⟨rfl, hA⟩
  have HF : Hid (TwoP n0 W0 b x S (syncM d) (rsyncM r) w2) := Lib.hid (T0.out.fin_ba HN0.out HB.out hA HLK.out)
  clear hA A1 HB
  go_wp2
  go_ret
  exact ⟨rfl, HF.out.pre HC0.out⟩
set_option maxRecDepth 100000 in
set_option maxHeartbeats 4000000 in
theorem does_8 (T : Two n0 w b x S d r) (hS : S + tx.size + 1 ≤ 1099511627776) (hk : xk ≤ 9223372036854775807) (hm : xm ≤ 9223372036854775807) (hn0 : n0 ≤ w.heap.size) :
    Calls Try.prog 15 #[.pointer (some ⟨b, 0, none⟩), .pointer (some ⟨x, 0, none⟩), stepArg 8 nm tx xk xm] w fun e w' => e = .returned (.bool true) ∧ TwoP n0 w b x S d r w' := by
  obtain ⟨W0, HW0⟩ : ∃ W0, Hid (w.alloc (.cells #[.int .i64 8, .string nm, .string tx, .int .i64 xk, .int .i64 xm] 36) = W0) := ⟨_, Lib.hid rfl⟩
  obtain ⟨kb, HKB⟩ : ∃ kb, Hid (w.heap.size = kb) := ⟨_, Lib.hid rfl⟩
  have HC0 : Hid (Chg (fun _ => False) w W0) := by rw [← HW0.out]; exact Lib.hid ((Chg.refl _ _).alloc _)
  have HN0 : Hid (n0 ≤ W0.heap.size) := Lib.hid (Nat.le_trans hn0 HC0.out.size)
  obtain ⟨FA, FB, TT⟩ := T.side
  have HKA : Hid (¬ FA kb) := Lib.hid (fun f => by have := (TT.la kb f).2; have := HKB.out; omega)
  have HKF : Hid (¬ FB kb) := Lib.hid (fun f => by have := (TT.lb kb f).2; have := HKB.out; omega)
  have T0 := Lib.hid (TT.same HC0.out)
  have HT := Lib.hid T
  have hkc : W0.heap[kb]? = some (.cells #[.int .i64 8, .string nm, .string tx, .int .i64 xk, .int .i64 xm] 36) := by rw [← HW0.out, ← HKB.out]; exact Go.heap_alloc_new _ _
  have HKC := Lib.hid hkc
  have HKL := Lib.hid (Array.getElem?_eq_some_iff.1 hkc).1
  have k1 : W0.cell? ⟨kb, 1, none⟩ = some (.string nm) := cell_of hkc rfl
  clear hkc TT
  obtain ⟨⟨rs, re⟩, hre⟩ : ∃ p, readM d nm = p := ⟨_, rfl⟩
  have AA := read_any T0.out.a nm
  have BB := Lib.hid (fun (v : World) (cg : Chg FA W0 v) => rread_any (T0.out.seeB cg) nm)
  rw [← like_read HT.out.like nm, hre] at BB
  rw [hre] at AA
  have AA := Lib.hid AA
  have v1 : (rs.toList == rs.toList) = true := by simp
  have v2 : decide (re = re) = true := by simp
  have z1 := HKA.out
  clear T hS hk hm hn0 hre
  go_enter Try.func15, Try.ntmps15
  go_wp2_with fail
  rw [HW0.out, HKB.out]
  refine AA.out.mono ?_
  rintro e w1 ⟨rfl, hC⟩
  have p1 := (World.cell?_of_block (a := ⟨kb, 1, none⟩) (hC.block kb HKL.out (fun f => f))).trans k1
  have B1 := Lib.hid (BB.out w1 (hC.mono (fun _ f => f.elim)))
  have HC1 := Lib.hid hC
  have hkl1 := Nat.lt_of_lt_of_le HKL.out hC.size
  clear hC AA BB k1
  go_wp2_with fail
  refine B1.out.mono ?_
  rintro e w2 ⟨rfl, rfl⟩
  clear B1
  go_wp2
  all_goals first | done | (go_region; go_wp2) | skip
  go_ret
  exact ⟨rfl, (TwoP.of_same HT.out (HC0.out.trans HC1.out))⟩
set_option maxRecDepth 100000 in
set_option maxHeartbeats 4000000 in
theorem does_else (T : Two n0 w b x S d r) (hS : S + tx.size + 1 ≤ 1099511627776) (hk : xk ≤ 9223372036854775807) (hm : xm ≤ 9223372036854775807) (hn0 : n0 ≤ w.heap.size) {xd : Int} (h1 : xd ≠ 1) (h2 : xd ≠ 2) (h3 : xd ≠ 3) (h4 : xd ≠ 4) (h5 : xd ≠ 5) (h6 : xd ≠ 6) (h7 : xd ≠ 7) (h8 : xd ≠ 8) :
    Calls Try.prog 15 #[.pointer (some ⟨b, 0, none⟩), .pointer (some ⟨x, 0, none⟩), stepArg xd nm tx xk xm] w fun e w' => e = .returned (.bool true) ∧ TwoP n0 w b x S d r w' := by
  obtain ⟨W0, HW0⟩ : ∃ W0, Hid (w.alloc (.cells #[.int .i64 xd, .string nm, .string tx, .int .i64 xk, .int .i64 xm] 36) = W0) := ⟨_, Lib.hid rfl⟩
  obtain ⟨kb, HKB⟩ : ∃ kb, Hid (w.heap.size = kb) := ⟨_, Lib.hid rfl⟩
  have HC0 : Hid (Chg (fun _ => False) w W0) := by rw [← HW0.out]; exact Lib.hid ((Chg.refl _ _).alloc _)
  have HN0 : Hid (n0 ≤ W0.heap.size) := Lib.hid (Nat.le_trans hn0 HC0.out.size)
  obtain ⟨FA, FB, TT⟩ := T.side
  have HKA : Hid (¬ FA kb) := Lib.hid (fun f => by have := (TT.la kb f).2; have := HKB.out; omega)
  have HKF : Hid (¬ FB kb) := Lib.hid (fun f => by have := (TT.lb kb f).2; have := HKB.out; omega)
  have T0 := Lib.hid (TT.same HC0.out)
  have HT := Lib.hid T
  have hkc : W0.heap[kb]? = some (.cells #[.int .i64 xd, .string nm, .string tx, .int .i64 xk, .int .i64 xm] 36) := by rw [← HW0.out, ← HKB.out]; exact Go.heap_alloc_new _ _
  have HKC := Lib.hid hkc
  have HKL := Lib.hid (Array.getElem?_eq_some_iff.1 hkc).1
  clear hkc TT
  have k0 : W0.cell? ⟨kb, 0, none⟩ = some (.int .i64 xd) := cell_of HKC.out rfl
  have ST := Lib.hid (stands_any (HT.out.same HC0.out))
  have q1 : (xd == 1) = false := beq_eq_false_iff_ne.2 h1
  have q2 : (xd == 2) = false := beq_eq_false_iff_ne.2 h2
  have q3 : (xd == 3) = false := beq_eq_false_iff_ne.2 h3
  have q4 : (xd == 4) = false := beq_eq_false_iff_ne.2 h4
  have q5 : (xd == 5) = false := beq_eq_false_iff_ne.2 h5
  have q6 : (xd == 6) = false := beq_eq_false_iff_ne.2 h6
  have q7 : (xd == 7) = false := beq_eq_false_iff_ne.2 h7
  have q8 : (xd == 8) = false := beq_eq_false_iff_ne.2 h8
  clear T hS hk hm hn0 h1 h2 h3 h4 h5 h6 h7 h8
  go_enter Try.func15, Try.ntmps15
  go_wp2_with fail
  rw [HW0.out]
  refine ST.out.mono ?_
  rintro e w1 ⟨rfl, hC⟩
  have HC1 := Lib.hid hC
  clear hC ST
  go_wp2
  go_ret
  exact ⟨rfl, TwoP.of_same HT.out (HC0.out.trans HC1.out)⟩

theorem step_any (T : Two n0 w b x S d r) {xd : Int} (hS : S + tx.size + 1 ≤ 1099511627776) (hk : xk ≤ 9223372036854775807) (hm : xm ≤ 9223372036854775807) (hn0 : n0 ≤ w.heap.size) :
    Calls Try.prog 15 #[.pointer (some ⟨b, 0, none⟩), .pointer (some ⟨x, 0, none⟩), stepArg xd nm tx xk xm] w fun e w' => e = .returned (.bool true) ∧ ∃ d' r', TwoP n0 w b x (S + tx.size + 1) d' r' w' := by
  by_cases h1 : xd = 1
  · subst h1; exact (does_1 T hS hk hm hn0).mono fun e w' h => ⟨h.1, _, _, h.2⟩
  by_cases h2 : xd = 2
  · subst h2; exact (does_2 T hS hk hm hn0).mono fun e w' h => ⟨h.1, _, _, h.2⟩
  by_cases h3 : xd = 3
  · subst h3; exact (does_3 T hS hk hm hn0).mono fun e w' h => ⟨h.1, _, _, h.2.larger (by omega) hS⟩
  by_cases h4 : xd = 4
  · subst h4; exact (does_4 T hS hk hm hn0).mono fun e w' h => ⟨h.1, _, _, h.2.larger (by omega) hS⟩
  by_cases h5 : xd = 5
  · subst h5; exact (does_5 T hS hk hm hn0).mono fun e w' h => ⟨h.1, _, _, h.2.larger (by omega) hS⟩
  by_cases h6 : xd = 6
  · subst h6; exact (does_6 T hS hk hm hn0).mono fun e w' h => ⟨h.1, _, _, h.2.larger (by omega) hS⟩
  by_cases h7 : xd = 7
  · subst h7; exact (does_7 T hS hk hm hn0).mono fun e w' h => ⟨h.1, _, _, h.2.larger (by omega) hS⟩
  by_cases h8 : xd = 8
  · subst h8; exact (does_8 T hS hk hm hn0).mono fun e w' h => ⟨h.1, _, _, h.2.larger (by omega) hS⟩
  exact (does_else T hS hk hm hn0 h1 h2 h3 h4 h5 h6 h7 h8).mono fun e w' h => ⟨h.1, _, _, h.2.larger (by omega) hS⟩
end
end Go.Proofs.Ytjflkmihkfbgpaa
