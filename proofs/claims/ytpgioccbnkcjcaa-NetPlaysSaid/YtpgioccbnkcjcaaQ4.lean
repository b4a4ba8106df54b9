/- does: one call of both. -/
import Derived.Test.YtpgioccbnkcjcaaQ3
namespace Go.Proofs.Ytpgioccbnkcjcaa
open Go.RowKit Mk
section
variable {w : World} {b x : Nat} {Fa Fb : Nat → Prop} {n : NetM} {xa xb xn : Int} {xt : ByteArray} {so : Option Addr} {ls sc : Nat}
abbrev stepArg (xd xa xb xn : Int) (xt : ByteArray) (so : Option Addr) (ls sc : Nat) : Value := .agg #[.int .i64 xd, .int .i64 xa, .int .i64 xb, .int .i64 xn, .string xt, .slice so ls sc]
set_option maxRecDepth 100000 in
set_option maxHeartbeats 4000000 in
theorem does_0 (T : Two w b x Fa Fb n) (ha : i64 xa) (hb : i64 xb) (hn : i64 xn) :
    Calls Try.prog 21 #[.pointer (some ⟨b, 0, none⟩), .pointer (some ⟨x, 0, none⟩), stepArg 0 xa xb xn xt so ls sc] w fun e w' => e = .returned (.bool true) ∧ TwoP w b x Fa Fb w' := by
  obtain ⟨W0, HW0⟩ : ∃ W0, Hid (w.alloc (.cells #[.int .i64 0, .int .i64 xa, .int .i64 xb, .int .i64 xn, .string xt, .slice so ls sc] 35) = W0) := ⟨_, Lib.hid rfl⟩
  obtain ⟨kb, HKB⟩ : ∃ kb, Hid (w.heap.size = kb) := ⟨_, Lib.hid rfl⟩
  have HC0 : Hid (Chg (fun _ => False) w W0) := by rw [← HW0.out]; exact Lib.hid ((Chg.refl _ _).alloc _)
  have T0 := Lib.hid (T.same HC0.out)
  have hkc : W0.heap[kb]? = some (.cells #[.int .i64 0, .int .i64 xa, .int .i64 xb, .int .i64 xn, .string xt, .slice so ls sc] 35) := by rw [← HW0.out, ← HKB.out]; exact Go.heap_alloc_new _ _
  have HKC := Lib.hid hkc
  have HKL := Lib.hid (Array.getElem?_eq_some_iff.1 hkc).1
  have HKA : Hid (¬ Fa kb) := Lib.hid (fun f => by have := T.lt kb (Or.inl f); have := HKB.out; omega)
  have HKF : Hid (¬ Fb kb) := Lib.hid (fun f => by have := T.lt kb (Or.inr f); have := HKB.out; omega)
  have k1 : W0.cell? ⟨kb, 1, none⟩ = some (.int .i64 xa) := cell_of hkc rfl
  have k2 : W0.cell? ⟨kb, 2, none⟩ = some (.int .i64 xb) := cell_of hkc rfl
  have k4 : W0.cell? ⟨kb, 4, none⟩ = some (.string xt) := cell_of hkc rfl
  clear hkc
  obtain ⟨c, hc⟩ : ∃ c, (sendM n xa xb xt).2 = c := ⟨_, rfl⟩
  have AA := Lib.hid (fun (v : World) (cg : Chg Fb W0 v) => send_is (T0.out.a.stay cg (fun g f f' => T0.out.sep g f f')) xa xb xt ha hb)
  have BB := Lib.hid (fun (v : World) (cg : Chg Fa W0 v) => by obtain ⟨R, hR⟩ := (T0.out.r.stay cg (fun g f f' => T0.out.sep g f' f)); exact rsend_any hR xa xb xt)
  rw [hc] at AA BB
  have HLM := Lib.hid (lim_send T.lim xa xb xt)
  have z1 := HKA.out
  have z2 := HKF.out
  clear T ha hb hn hc
  go_enter Try.func21, Try.ntmps21
  go_wp2_with fail
  rw [HW0.out, HKB.out]
  go_region_held3 (fun v => v.cell? ⟨kb, 1, none⟩ = some (.int .i64 xa) ∧ v.cell? ⟨kb, 2, none⟩ = some (.int .i64 xb) ∧ v.cell? ⟨kb, 4, none⟩ = some (.string xt)) (first | go_keep | (go_split_ands; refine ⟨?_, ?_, ?_⟩ <;> assumption)) (first | (go_at_call 9; with_reducible refine (AA.out _ hcB).mono ?_; rintro e w2 ⟨rfl, hA, hcA⟩; have q1 := (World.cell?_of_block (a := ⟨kb, 1, none⟩) (hcA.block kb (Nat.lt_of_lt_of_le HKL.out hcB.size) z1)).trans p1; have q2 := (World.cell?_of_block (a := ⟨kb, 2, none⟩) (hcA.block kb (Nat.lt_of_lt_of_le HKL.out hcB.size) z1)).trans p2; have q4 := (World.cell?_of_block (a := ⟨kb, 4, none⟩) (hcA.block kb (Nat.lt_of_lt_of_le HKL.out hcB.size) z1)).trans p4) | (go_at_call 34; with_reducible refine (BB.out _ hcA).mono ?_; rintro e w2 ⟨rfl, hB, hcB⟩; have q1 := (World.cell?_of_block (a := ⟨kb, 1, none⟩) (hcB.block kb (Nat.lt_of_lt_of_le HKL.out hcA.size) z2)).trans p1; have q2 := (World.cell?_of_block (a := ⟨kb, 2, none⟩) (hcB.block kb (Nat.lt_of_lt_of_le HKL.out hcA.size) z2)).trans p2; have q4 := (World.cell?_of_block (a := ⟨kb, 4, none⟩) (hcB.block kb (Nat.lt_of_lt_of_le HKL.out hcA.size) z2)).trans p4) | (go_at_call 9; with_reducible refine (AA.out _ (Chg.refl Fb W0).drew).mono ?_; rintro e w1 ⟨rfl, hA, hcA0⟩; have hcA := ((Chg.refl Fa W0).drew).trans hcA0; have p1 := (World.cell?_of_block (a := ⟨kb, 1, none⟩) (hcA.block kb HKL.out z1)).trans k1; have p2 := (World.cell?_of_block (a := ⟨kb, 2, none⟩) (hcA.block kb HKL.out z1)).trans k2; have p4 := (World.cell?_of_block (a := ⟨kb, 4, none⟩) (hcA.block kb HKL.out z1)).trans k4) | (go_at_call 34; with_reducible refine (BB.out _ (Chg.refl Fa W0).drew).mono ?_; rintro e w1 ⟨rfl, hB, hcB0⟩; have hcB := ((Chg.refl Fb W0).drew).trans hcB0; have p1 := (World.cell?_of_block (a := ⟨kb, 1, none⟩) (hcB.block kb HKL.out z2)).trans k1; have p2 := (World.cell?_of_block (a := ⟨kb, 2, none⟩) (hcB.block kb HKL.out z2)).trans k2; have p4 := (World.cell?_of_block (a := ⟨kb, 4, none⟩) (hcB.block kb HKL.out z2)).trans k4))
  all_goals
    have HF : Hid (TwoP W0 b x Fa Fb w2) := Lib.hid (by first | exact T0.out.fin_ab hA hcA (Chg.refl _ _) hB hcB HLM.out | exact T0.out.fin_ba hB hcB hA hcA HLM.out)
    clear hA hB hcA hcB
    go_wp2
    go_ret
    exact ⟨rfl, HF.out.pre HC0.out⟩
set_option maxRecDepth 100000 in
set_option maxHeartbeats 4000000 in
theorem does_2 (T : Two w b x Fa Fb n) (ha : i64 xa) (hb : i64 xb) (hn : i64 xn) :
    Calls Try.prog 21 #[.pointer (some ⟨b, 0, none⟩), .pointer (some ⟨x, 0, none⟩), stepArg 2 xa xb xn xt so ls sc] w fun e w' => e = .returned (.bool true) ∧ TwoP w b x Fa Fb w' := by
  obtain ⟨W0, HW0⟩ : ∃ W0, Hid (w.alloc (.cells #[.int .i64 2, .int .i64 xa, .int .i64 xb, .int .i64 xn, .string xt, .slice so ls sc] 35) = W0) := ⟨_, Lib.hid rfl⟩
  obtain ⟨kb, HKB⟩ : ∃ kb, Hid (w.heap.size = kb) := ⟨_, Lib.hid rfl⟩
  have HC0 : Hid (Chg (fun _ => False) w W0) := by rw [← HW0.out]; exact Lib.hid ((Chg.refl _ _).alloc _)
  have T0 := Lib.hid (T.same HC0.out)
  have hkc : W0.heap[kb]? = some (.cells #[.int .i64 2, .int .i64 xa, .int .i64 xb, .int .i64 xn, .string xt, .slice so ls sc] 35) := by rw [← HW0.out, ← HKB.out]; exact Go.heap_alloc_new _ _
  have HKC := Lib.hid hkc
  have HKL := Lib.hid (Array.getElem?_eq_some_iff.1 hkc).1
  have HKA : Hid (¬ Fa kb) := Lib.hid (fun f => by have := T.lt kb (Or.inl f); have := HKB.out; omega)
  have HKF : Hid (¬ Fb kb) := Lib.hid (fun f => by have := T.lt kb (Or.inr f); have := HKB.out; omega)
  have k1 : W0.cell? ⟨kb, 1, none⟩ = some (.int .i64 xa) := cell_of hkc rfl
  have k2 : W0.cell? ⟨kb, 2, none⟩ = some (.int .i64 xb) := cell_of hkc rfl
  have k3 : W0.cell? ⟨kb, 3, none⟩ = some (.int .i64 xn) := cell_of hkc rfl
  clear hkc
  obtain ⟨c, hc⟩ : ∃ c, (dropM n xa xb xn).2 = c := ⟨_, rfl⟩
  have AA := Lib.hid (fun (v : World) (cg : Chg Fb W0 v) => drop_is (T0.out.a.stay cg (fun g f f' => T0.out.sep g f f')) xa xb xn ha hb hn)
  have BB := Lib.hid (fun (v : World) (cg : Chg Fa W0 v) => by obtain ⟨R, hR⟩ := (T0.out.r.stay cg (fun g f f' => T0.out.sep g f' f)); exact rdrop_any hR xa xb xn hn)
  rw [hc] at AA BB
  have HLM := Lib.hid (lim_drop T.lim xa xb xn)
  have z1 := HKA.out
  have z2 := HKF.out
  clear T ha hb hn hc
  go_enter Try.func21, Try.ntmps21
  go_wp2_with fail
  rw [HW0.out, HKB.out]
  go_region_held3 (fun v => v.cell? ⟨kb, 1, none⟩ = some (.int .i64 xa) ∧ v.cell? ⟨kb, 2, none⟩ = some (.int .i64 xb) ∧ v.cell? ⟨kb, 3, none⟩ = some (.int .i64 xn)) (first | go_keep | (go_split_ands; refine ⟨?_, ?_, ?_⟩ <;> assumption)) (first | (go_at_call 12; with_reducible refine (AA.out _ hcB).mono ?_; rintro e w2 ⟨rfl, hA, hcA⟩; have q1 := (World.cell?_of_block (a := ⟨kb, 1, none⟩) (hcA.block kb (Nat.lt_of_lt_of_le HKL.out hcB.size) z1)).trans p1; have q2 := (World.cell?_of_block (a := ⟨kb, 2, none⟩) (hcA.block kb (Nat.lt_of_lt_of_le HKL.out hcB.size) z1)).trans p2; have q3 := (World.cell?_of_block (a := ⟨kb, 3, none⟩) (hcA.block kb (Nat.lt_of_lt_of_le HKL.out hcB.size) z1)).trans p3) | (go_at_call 36; with_reducible refine (BB.out _ hcA).mono ?_; rintro e w2 ⟨rfl, hB, hcB⟩; have q1 := (World.cell?_of_block (a := ⟨kb, 1, none⟩) (hcB.block kb (Nat.lt_of_lt_of_le HKL.out hcA.size) z2)).trans p1; have q2 := (World.cell?_of_block (a := ⟨kb, 2, none⟩) (hcB.block kb (Nat.lt_of_lt_of_le HKL.out hcA.size) z2)).trans p2; have q3 := (World.cell?_of_block (a := ⟨kb, 3, none⟩) (hcB.block kb (Nat.lt_of_lt_of_le HKL.out hcA.size) z2)).trans p3) | (go_at_call 12; with_reducible refine (AA.out _ (Chg.refl Fb W0).drew).mono ?_; rintro e w1 ⟨rfl, hA, hcA0⟩; have hcA := ((Chg.refl Fa W0).drew).trans hcA0; have p1 := (World.cell?_of_block (a := ⟨kb, 1, none⟩) (hcA.block kb HKL.out z1)).trans k1; have p2 := (World.cell?_of_block (a := ⟨kb, 2, none⟩) (hcA.block kb HKL.out z1)).trans k2; have p3 := (World.cell?_of_block (a := ⟨kb, 3, none⟩) (hcA.block kb HKL.out z1)).trans k3) | (go_at_call 36; with_reducible refine (BB.out _ (Chg.refl Fa W0).drew).mono ?_; rintro e w1 ⟨rfl, hB, hcB0⟩; have hcB := ((Chg.refl Fb W0).drew).trans hcB0; have p1 := (World.cell?_of_block (a := ⟨kb, 1, none⟩) (hcB.block kb HKL.out z2)).trans k1; have p2 := (World.cell?_of_block (a := ⟨kb, 2, none⟩) (hcB.block kb HKL.out z2)).trans k2; have p3 := (World.cell?_of_block (a := ⟨kb, 3, none⟩) (hcB.block kb HKL.out z2)).trans k3))
  all_goals
    have HF : Hid (TwoP W0 b x Fa Fb w2) := Lib.hid (by first | exact T0.out.fin_ab hA hcA (Chg.refl _ _) hB hcB HLM.out | exact T0.out.fin_ba hB hcB hA hcA HLM.out)
    clear hA hB hcA hcB
    go_wp2
    go_ret
    exact ⟨rfl, HF.out.pre HC0.out⟩
set_option maxRecDepth 100000 in
set_option maxHeartbeats 4000000 in
theorem does_3 (T : Two w b x Fa Fb n) (ha : i64 xa) (hb : i64 xb) (hn : i64 xn) :
    Calls Try.prog 21 #[.pointer (some ⟨b, 0, none⟩), .pointer (some ⟨x, 0, none⟩), stepArg 3 xa xb xn xt so ls sc] w fun e w' => e = .returned (.bool true) ∧ TwoP w b x Fa Fb w' := by
  obtain ⟨W0, HW0⟩ : ∃ W0, Hid (w.alloc (.cells #[.int .i64 3, .int .i64 xa, .int .i64 xb, .int .i64 xn, .string xt, .slice so ls sc] 35) = W0) := ⟨_, Lib.hid rfl⟩
  obtain ⟨kb, HKB⟩ : ∃ kb, Hid (w.heap.size = kb) := ⟨_, Lib.hid rfl⟩
  have HC0 : Hid (Chg (fun _ => False) w W0) := by rw [← HW0.out]; exact Lib.hid ((Chg.refl _ _).alloc _)
  have T0 := Lib.hid (T.same HC0.out)
  have hkc : W0.heap[kb]? = some (.cells #[.int .i64 3, .int .i64 xa, .int .i64 xb, .int .i64 xn, .string xt, .slice so ls sc] 35) := by rw [← HW0.out, ← HKB.out]; exact Go.heap_alloc_new _ _
  have HKC := Lib.hid hkc
  have HKL := Lib.hid (Array.getElem?_eq_some_iff.1 hkc).1
  have HKA : Hid (¬ Fa kb) := Lib.hid (fun f => by have := T.lt kb (Or.inl f); have := HKB.out; omega)
  have HKF : Hid (¬ Fb kb) := Lib.hid (fun f => by have := T.lt kb (Or.inr f); have := HKB.out; omega)
  have k1 : W0.cell? ⟨kb, 1, none⟩ = some (.int .i64 xa) := cell_of hkc rfl
  have k2 : W0.cell? ⟨kb, 2, none⟩ = some (.int .i64 xb) := cell_of hkc rfl
  have k3 : W0.cell? ⟨kb, 3, none⟩ = some (.int .i64 xn) := cell_of hkc rfl
  clear hkc
  obtain ⟨c, hc⟩ : ∃ c, (doubleM n xa xb xn).2 = c := ⟨_, rfl⟩
  have AA := Lib.hid (fun (v : World) (cg : Chg Fb W0 v) => double_is (T0.out.a.stay cg (fun g f f' => T0.out.sep g f f')) xa xb xn ha hb hn)
  have BB := Lib.hid (fun (v : World) (cg : Chg Fa W0 v) => by obtain ⟨R, hR⟩ := (T0.out.r.stay cg (fun g f f' => T0.out.sep g f' f)); exact rdouble_any hR xa xb xn hn)
  rw [hc] at AA BB
  have HLM := Lib.hid (lim_double T.lim xa xb xn)
  have z1 := HKA.out
  have z2 := HKF.out
  clear T ha hb hn hc
  go_enter Try.func21, Try.ntmps21
  go_wp2_with fail
  rw [HW0.out, HKB.out]
  go_region_held3 (fun v => v.cell? ⟨kb, 1, none⟩ = some (.int .i64 xa) ∧ v.cell? ⟨kb, 2, none⟩ = some (.int .i64 xb) ∧ v.cell? ⟨kb, 3, none⟩ = some (.int .i64 xn)) (first | go_keep | (go_split_ands; refine ⟨?_, ?_, ?_⟩ <;> assumption)) (first | (go_at_call 11; with_reducible refine (AA.out _ hcB).mono ?_; rintro e w2 ⟨rfl, hA, hcA⟩; have q1 := (World.cell?_of_block (a := ⟨kb, 1, none⟩) (hcA.block kb (Nat.lt_of_lt_of_le HKL.out hcB.size) z1)).trans p1; have q2 := (World.cell?_of_block (a := ⟨kb, 2, none⟩) (hcA.block kb (Nat.lt_of_lt_of_le HKL.out hcB.size) z1)).trans p2; have q3 := (World.cell?_of_block (a := ⟨kb, 3, none⟩) (hcA.block kb (Nat.lt_of_lt_of_le HKL.out hcB.size) z1)).trans p3) | (go_at_call 37; with_reducible refine (BB.out _ hcA).mono ?_; rintro e w2 ⟨rfl, hB, hcB⟩; have q1 := (World.cell?_of_block (a := ⟨kb, 1, none⟩) (hcB.block kb (Nat.lt_of_lt_of_le HKL.out hcA.size) z2)).trans p1; have q2 := (World.cell?_of_block (a := ⟨kb, 2, none⟩) (hcB.block kb (Nat.lt_of_lt_of_le HKL.out hcA.size) z2)).trans p2; have q3 := (World.cell?_of_block (a := ⟨kb, 3, none⟩) (hcB.block kb (Nat.lt_of_lt_of_le HKL.out hcA.size) z2)).trans p3) | (go_at_call 11; with_reducible refine (AA.out _ (Chg.refl Fb W0).drew).mono ?_; rintro e w1 ⟨rfl, hA, hcA0⟩; have hcA := ((Chg.refl Fa W0).drew).trans hcA0; have p1 := (World.cell?_of_block (a := ⟨kb, 1, none⟩) (hcA.block kb HKL.out z1)).trans k1; have p2 := (World.cell?_of_block (a := ⟨kb, 2, none⟩) (hcA.block kb HKL.out z1)).trans k2; have p3 := (World.cell?_of_block (a := ⟨kb, 3, none⟩) (hcA.block kb HKL.out z1)).trans k3) | (go_at_call 37; with_reducible refine (BB.out _ (Chg.refl Fa W0).drew).mono ?_; rintro e w1 ⟨rfl, hB, hcB0⟩; have hcB := ((Chg.refl Fb W0).drew).trans hcB0; have p1 := (World.cell?_of_block (a := ⟨kb, 1, none⟩) (hcB.block kb HKL.out z2)).trans k1; have p2 := (World.cell?_of_block (a := ⟨kb, 2, none⟩) (hcB.block kb HKL.out z2)).trans k2; have p3 := (World.cell?_of_block (a := ⟨kb, 3, none⟩) (hcB.block kb HKL.out z2)).trans k3))
  all_goals
    have HF : Hid (TwoP W0 b x Fa Fb w2) := Lib.hid (by first | exact T0.out.fin_ab hA hcA (Chg.refl _ _) hB hcB HLM.out | exact T0.out.fin_ba hB hcB hA hcA HLM.out)
    clear hA hB hcA hcB
    go_wp2
    go_ret
    exact ⟨rfl, HF.out.pre HC0.out⟩
set_option maxRecDepth 100000 in
set_option maxHeartbeats 4000000 in
theorem does_1 (T : Two w b x Fa Fb n) (ha : i64 xa) (hb : i64 xb) (hn : i64 xn) :
    Calls Try.prog 21 #[.pointer (some ⟨b, 0, none⟩), .pointer (some ⟨x, 0, none⟩), stepArg 1 xa xb xn xt so ls sc] w fun e w' => e = .returned (.bool true) ∧ TwoP w b x Fa Fb w' := by
  obtain ⟨W0, HW0⟩ : ∃ W0, Hid (w.alloc (.cells #[.int .i64 1, .int .i64 xa, .int .i64 xb, .int .i64 xn, .string xt, .slice so ls sc] 35) = W0) := ⟨_, Lib.hid rfl⟩
  obtain ⟨kb, HKB⟩ : ∃ kb, Hid (w.heap.size = kb) := ⟨_, Lib.hid rfl⟩
  have HC0 : Hid (Chg (fun _ => False) w W0) := by rw [← HW0.out]; exact Lib.hid ((Chg.refl _ _).alloc _)
  have T0 := Lib.hid (T.same HC0.out)
  have hkc : W0.heap[kb]? = some (.cells #[.int .i64 1, .int .i64 xa, .int .i64 xb, .int .i64 xn, .string xt, .slice so ls sc] 35) := by rw [← HW0.out, ← HKB.out]; exact Go.heap_alloc_new _ _
  have HKC := Lib.hid hkc
  have HKL := Lib.hid (Array.getElem?_eq_some_iff.1 hkc).1
  have HKA : Hid (¬ Fa kb) := Lib.hid (fun f => by have := T.lt kb (Or.inl f); have := HKB.out; omega)
  have HKF : Hid (¬ Fb kb) := Lib.hid (fun f => by have := T.lt kb (Or.inr f); have := HKB.out; omega)
  have k1 : W0.cell? ⟨kb, 1, none⟩ = some (.int .i64 xa) := cell_of hkc rfl
  have k2 : W0.cell? ⟨kb, 2, none⟩ = some (.int .i64 xb) := cell_of hkc rfl
  have k3 : W0.cell? ⟨kb, 3, none⟩ = some (.int .i64 xn) := cell_of hkc rfl
  clear hkc
  obtain ⟨c, hc⟩ : ∃ c, (takeM n xa xb xn).2.2 = c := ⟨_, rfl⟩
  obtain ⟨pa, pb, ps, hp⟩ := take_pkt n xa xb xn
  have AA := Lib.hid (take_is T0.out.a xa xb xn ha hb hn)
  have BB := Lib.hid (fun (v : World) (cg : Chg Fa W0 v) => show Calls Try.prog 35 _ v _ from by obtain ⟨R, hR⟩ := (T0.out.r.stay cg (fun g f f' => T0.out.sep g f' f)); exact rtake_any hR xa xb xn hn)
  rw [hc, hp] at AA BB
  have HLM := Lib.hid (lim_take T.lim xa xb xn)
  have z1 := HKA.out
  have z2 := HKF.out
  clear T ha hb hn hc hp
  go_enter Try.func21, Try.ntmps21
  go_wp2_with fail
  rw [HW0.out, HKB.out]
  refine AA.out.mono ?_
  rintro e w1 ⟨rfl, hA, hcA⟩
  obtain ⟨w1', HW1⟩ : ∃ v, Hid (w1.alloc (.cells #[.int .i64 pa, .int .i64 pb, .string ps] 42) = v) := ⟨_, Lib.hid rfl⟩
  obtain ⟨b1, HB1⟩ : ∃ v, Hid (w1.heap.size = v) := ⟨_, Lib.hid rfl⟩
  have hc1 : Chg (fun _ => False) w1 w1' := by rw [← HW1.out]; exact (Chg.refl _ _).alloc _
  have hcA' := hcA.trans (hc1.mono (fun _ f => f.elim))
  have p1 := (World.cell?_of_block (a := ⟨kb, 1, none⟩) (hcA.block kb HKL.out z1)).trans k1
  have hkl1 : kb < w1.heap.size := Nat.lt_of_lt_of_le HKL.out hcA.size
  have p2 := (World.cell?_of_block (a := ⟨kb, 2, none⟩) (hcA.block kb HKL.out z1)).trans k2
  have p3 := (World.cell?_of_block (a := ⟨kb, 3, none⟩) (hcA.block kb HKL.out z1)).trans k3
  have hbx : w1'.heap[b1]? = some (.cells #[.int .i64 pa, .int .i64 pb, .string ps] 42) := by rw [← HW1.out, ← HB1.out]; exact Go.heap_alloc_new _ _
  have hbl := (Array.getElem?_eq_some_iff.1 hbx).1
  have hbf : ¬ Fb b1 := fun f => by have := T0.out.lt b1 (Or.inr f); have := hcA.size; have := HB1.out; omega
  have HA := Lib.hid hA
  have HCA := Lib.hid hcA
  have HC1 := Lib.hid hc1
  have HBX := Lib.hid hbx
  have BB1 := Lib.hid (BB.out w1' hcA')
  clear hA hcA hc1 hcA' hbx BB AA
  go_wp2_with fail
  rw [HW1.out, HB1.out]
  refine BB1.out.mono ?_
  rintro e w2 ⟨rfl, hB, hcB⟩
  have hbx2 := (hcB.block b1 hbl hbf).trans HBX.out
  have HF : Hid (TwoP W0 b x Fa Fb w2) := Lib.hid (T0.out.fin_ab HA.out HCA.out HC1.out hB hcB HLM.out)
  have r0 : w2.cell? ⟨b1, 0, none⟩ = some (.int .i64 pa) := cell_of hbx2 rfl
  have r1 : w2.cell? ⟨b1, 1, none⟩ = some (.int .i64 pb) := cell_of hbx2 rfl
  have r2 : w2.cell? ⟨b1, 2, none⟩ = some (.string ps) := cell_of hbx2 rfl
  have hbl2 : b1 < w2.heap.size := Nat.lt_of_lt_of_le hbl hcB.size
  clear hB hcB hbx2
  go_wp2
  go_ret
  exact ⟨rfl, (HF.out.pre HC0.out).same ((Chg.refl _ _).alloc _)⟩
end
end Go.Proofs.Ytpgioccbnkcjcaa
