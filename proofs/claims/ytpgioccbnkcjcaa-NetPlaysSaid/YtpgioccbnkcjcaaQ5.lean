/- does: the other calls of both. -/
import Derived.Test.YtpgioccbnkcjcaaQ4
namespace Go.Proofs.Ytpgioccbnkcjcaa
open Go.RowKit Mk
section
variable {w : World} {b x : Nat} {Fa Fb : Nat → Prop} {n : NetM} {xa xb xn : Int} {xt : ByteArray} {so : Option Addr} {ls sc : Nat}
set_option maxRecDepth 100000 in
set_option maxHeartbeats 4000000 in
theorem does_4 (T : Two w b x Fa Fb n) (ha : i64 xa) (hb : i64 xb) (hn : i64 xn) :
    Calls Try.prog 21 #[.pointer (some ⟨b, 0, none⟩), .pointer (some ⟨x, 0, none⟩), stepArg 4 xa xb xn xt so ls sc] w fun e w' => e = .returned (.bool true) ∧ TwoP w b x Fa Fb w' := by
  obtain ⟨W0, HW0⟩ : ∃ W0, Hid (w.alloc (.cells #[.int .i64 4, .int .i64 xa, .int .i64 xb, .int .i64 xn, .string xt, .slice so ls sc] 35) = W0) := ⟨_, Lib.hid rfl⟩
  obtain ⟨kb, HKB⟩ : ∃ kb, Hid (w.heap.size = kb) := ⟨_, Lib.hid rfl⟩
  have HC0 : Hid (Chg (fun _ => False) w W0) := by rw [← HW0.out]; exact Lib.hid ((Chg.refl _ _).alloc _)
  have T0 := Lib.hid (T.same HC0.out)
  have hkc : W0.heap[kb]? = some (.cells #[.int .i64 4, .int .i64 xa, .int .i64 xb, .int .i64 xn, .string xt, .slice so ls sc] 35) := by rw [← HW0.out, ← HKB.out]; exact Go.heap_alloc_new _ _
  have HKC := Lib.hid hkc
  have HKL := Lib.hid (Array.getElem?_eq_some_iff.1 hkc).1
  have HKA : Hid (¬ Fa kb) := Lib.hid (fun f => by have := T.lt kb (Or.inl f); have := HKB.out; omega)
  have HKF : Hid (¬ Fb kb) := Lib.hid (fun f => by have := T.lt kb (Or.inr f); have := HKB.out; omega)
  have k1 : W0.cell? ⟨kb, 1, none⟩ = some (.int .i64 xa) := cell_of hkc rfl
  have k2 : W0.cell? ⟨kb, 2, none⟩ = some (.int .i64 xb) := cell_of hkc rfl
  have k3 : W0.cell? ⟨kb, 3, none⟩ = some (.int .i64 xn) := cell_of hkc rfl
  clear hkc
  have AA := Lib.hid (show Calls Try.prog 15 _ W0 _ from by obtain ⟨r, mb, L, hR⟩ := T0.out.a; exact peek_any hR xa xb xn ha hb hn)
  have BB := Lib.hid (show Calls Try.prog 38 _ W0 _ from by obtain ⟨R, hR⟩ := T0.out.r; exact rpeek_any hR xa xb xn hn)
  have HF : Hid (TwoP w b x Fa Fb W0) := Lib.hid (TwoP.refl T0.out HC0.out)
  generalize (peekM n xa xb xn).1 = ps at AA BB
  generalize (peekM n xa xb xn).2 = pc at AA BB
  clear T ha hb hn
  go_enter Try.func21, Try.ntmps21
  go_wp2_with fail
  rw [HW0.out, HKB.out]
  refine AA.out.mono ?_
  rintro e w1 ⟨rfl, rfl⟩
  go_wp2_with fail
  refine BB.out.mono ?_
  rintro e w1 ⟨rfl, rfl⟩
  go_wp2
  go_ret
  exact ⟨rfl, HF.out⟩
set_option maxRecDepth 100000 in
set_option maxHeartbeats 4000000 in
theorem does_6 (T : Two w b x Fa Fb n) (ha : i64 xa) (hb : i64 xb) (hn : i64 xn) :
    Calls Try.prog 21 #[.pointer (some ⟨b, 0, none⟩), .pointer (some ⟨x, 0, none⟩), stepArg 6 xa xb xn xt so ls sc] w fun e w' => e = .returned (.bool true) ∧ TwoP w b x Fa Fb w' := by
  obtain ⟨W0, HW0⟩ : ∃ W0, Hid (w.alloc (.cells #[.int .i64 6, .int .i64 xa, .int .i64 xb, .int .i64 xn, .string xt, .slice so ls sc] 35) = W0) := ⟨_, Lib.hid rfl⟩
  obtain ⟨kb, HKB⟩ : ∃ kb, Hid (w.heap.size = kb) := ⟨_, Lib.hid rfl⟩
  have HC0 : Hid (Chg (fun _ => False) w W0) := by rw [← HW0.out]; exact Lib.hid ((Chg.refl _ _).alloc _)
  have T0 := Lib.hid (T.same HC0.out)
  have hkc : W0.heap[kb]? = some (.cells #[.int .i64 6, .int .i64 xa, .int .i64 xb, .int .i64 xn, .string xt, .slice so ls sc] 35) := by rw [← HW0.out, ← HKB.out]; exact Go.heap_alloc_new _ _
  have HKC := Lib.hid hkc
  have HKL := Lib.hid (Array.getElem?_eq_some_iff.1 hkc).1
  have HKA : Hid (¬ Fa kb) := Lib.hid (fun f => by have := T.lt kb (Or.inl f); have := HKB.out; omega)
  have HKF : Hid (¬ Fb kb) := Lib.hid (fun f => by have := T.lt kb (Or.inr f); have := HKB.out; omega)
  have k1 : W0.cell? ⟨kb, 1, none⟩ = some (.int .i64 xa) := cell_of hkc rfl
  have k3 : W0.cell? ⟨kb, 3, none⟩ = some (.int .i64 xn) := cell_of hkc rfl
  clear hkc
  have AA := Lib.hid (tick_is T0.out.a xa ha)
  have BB := Lib.hid (fun (v : World) (cg : Chg Fa W0 v) => show Calls Try.prog 40 _ v _ from by obtain ⟨R, hR⟩ := (T0.out.r.stay cg (fun g f f' => T0.out.sep g f' f)); exact (rtick_any hR xa).mono (fun e w' h => show _ ∧ RefIs w' x Fb (tickM n xa).1 ∧ Chg Fb v w' from ⟨h.1, ⟨R, h.2.1⟩, h.2.2⟩))
  have HLM := Lib.hid (lim_tick T.lim xa)
  have z1 := HKA.out
  have z2 := HKF.out
  obtain ⟨n', hn'⟩ : ∃ n', (tickM n xa).1 = n' := ⟨_, rfl⟩
  obtain ⟨c1, hc1⟩ : ∃ c, (tickM n xa).2.1 = c := ⟨_, rfl⟩
  obtain ⟨c2, hc2⟩ : ∃ c, (tickM n xa).2.2 = c := ⟨_, rfl⟩
  rw [hn'] at HLM
  rw [hn', hc1, hc2] at AA
  simp only [hn', hc1, hc2] at BB
  clear T ha hb hn hn' hc1 hc2
  go_enter Try.func21, Try.ntmps21
  go_wp2_with fail
  rw [HW0.out, HKB.out]
  refine AA.out.mono ?_
  rintro e w1 ⟨rfl, hA, hcA⟩
  have p1 := (World.cell?_of_block (a := ⟨kb, 1, none⟩) (hcA.block kb HKL.out z1)).trans k1
  have p3 := (World.cell?_of_block (a := ⟨kb, 3, none⟩) (hcA.block kb HKL.out z1)).trans k3
  have HA := Lib.hid hA
  have HCA := Lib.hid hcA
  have BB1 := Lib.hid (BB.out w1 hcA)
  clear hA hcA BB AA
  go_wp2_with fail
  refine BB1.out.mono ?_
  rintro e w2 ⟨rfl, hB, hcB⟩
  have HF : Hid (TwoP W0 b x Fa Fb w2) := Lib.hid (T0.out.fin_ab (HA.out.wide (fun _ => Or.inl)) HCA.out (Chg.refl _ _) (hB.wide (fun _ => Or.inl)) hcB HLM.out)
  clear hB hcB
  go_wp2
  go_ret
  exact ⟨rfl, HF.out.pre HC0.out⟩
set_option maxRecDepth 100000 in
set_option maxHeartbeats 4000000 in
theorem does_7 (T : Two w b x Fa Fb n) (ha : i64 xa) (hb : i64 xb) (hn : i64 xn) :
    Calls Try.prog 21 #[.pointer (some ⟨b, 0, none⟩), .pointer (some ⟨x, 0, none⟩), stepArg 7 xa xb xn xt so ls sc] w fun e w' => e = .returned (.bool true) ∧ TwoP w b x Fa Fb w' := by
  obtain ⟨W0, HW0⟩ : ∃ W0, Hid (w.alloc (.cells #[.int .i64 7, .int .i64 xa, .int .i64 xb, .int .i64 xn, .string xt, .slice so ls sc] 35) = W0) := ⟨_, Lib.hid rfl⟩
  obtain ⟨kb, HKB⟩ : ∃ kb, Hid (w.heap.size = kb) := ⟨_, Lib.hid rfl⟩
  have HC0 : Hid (Chg (fun _ => False) w W0) := by rw [← HW0.out]; exact Lib.hid ((Chg.refl _ _).alloc _)
  have T0 := Lib.hid (T.same HC0.out)
  have hkc : W0.heap[kb]? = some (.cells #[.int .i64 7, .int .i64 xa, .int .i64 xb, .int .i64 xn, .string xt, .slice so ls sc] 35) := by rw [← HW0.out, ← HKB.out]; exact Go.heap_alloc_new _ _
  have HKC := Lib.hid hkc
  have HKL := Lib.hid (Array.getElem?_eq_some_iff.1 hkc).1
  have HKA : Hid (¬ Fa kb) := Lib.hid (fun f => by have := T.lt kb (Or.inl f); have := HKB.out; omega)
  have HKF : Hid (¬ Fb kb) := Lib.hid (fun f => by have := T.lt kb (Or.inr f); have := HKB.out; omega)
  have k1 : W0.cell? ⟨kb, 1, none⟩ = some (.int .i64 xa) := cell_of hkc rfl
  have k3 : W0.cell? ⟨kb, 3, none⟩ = some (.int .i64 xn) := cell_of hkc rfl
  clear hkc
  have AA := Lib.hid (draw_is T0.out.a xa xn ha hn T.lim)
  have BB := Lib.hid (fun (v : World) (cg : Chg Fa W0 v) => show Calls Try.prog 41 _ v _ from by obtain ⟨R, hR⟩ := (T0.out.r.stay cg (fun g f f' => T0.out.sep g f' f)); exact (rdraw_any hR xa xn hn T.lim).mono (fun e w' h => show _ ∧ RefIs w' x Fb (drawM n xa xn).1 ∧ Chg Fb v w' from ⟨h.1, ⟨R, h.2.1⟩, h.2.2⟩))
  have HLM := Lib.hid (lim_draw T.lim xa xn)
  have z1 := HKA.out
  have z2 := HKF.out
  obtain ⟨n', hn'⟩ : ∃ n', (drawM n xa xn).1 = n' := ⟨_, rfl⟩
  obtain ⟨c1, hc1⟩ : ∃ c, (drawM n xa xn).2.1 = c := ⟨_, rfl⟩
  obtain ⟨c2, hc2⟩ : ∃ c, (drawM n xa xn).2.2 = c := ⟨_, rfl⟩
  rw [hn'] at HLM
  rw [hn', hc1, hc2] at AA
  simp only [hn', hc1, hc2] at BB
  clear T ha hb hn hn' hc1 hc2
  go_enter Try.func21, Try.ntmps21
  go_wp2_with fail
  rw [HW0.out, HKB.out]
  refine AA.out.mono ?_
  rintro e w1 ⟨rfl, hA, hcA⟩
  have p1 := (World.cell?_of_block (a := ⟨kb, 1, none⟩) (hcA.block kb HKL.out z1)).trans k1
  have p3 := (World.cell?_of_block (a := ⟨kb, 3, none⟩) (hcA.block kb HKL.out z1)).trans k3
  have HA := Lib.hid hA
  have HCA := Lib.hid hcA
  have BB1 := Lib.hid (BB.out w1 hcA)
  clear hA hcA BB AA
  go_wp2_with fail
  refine BB1.out.mono ?_
  rintro e w2 ⟨rfl, hB, hcB⟩
  have HF : Hid (TwoP W0 b x Fa Fb w2) := Lib.hid (T0.out.fin_ab (HA.out.wide (fun _ => Or.inl)) HCA.out (Chg.refl _ _) (hB.wide (fun _ => Or.inl)) hcB HLM.out)
  clear hB hcB
  go_wp2
  go_ret
  exact ⟨rfl, HF.out.pre HC0.out⟩
set_option maxRecDepth 100000 in
set_option maxHeartbeats 4000000 in
theorem does_else (T : Two w b x Fa Fb n) (ha : i64 xa) (hb : i64 xb) (hn : i64 xn) {xd : Int} (hd0 : xd ≠ 0) (hd1 : xd ≠ 1) (hd2 : xd ≠ 2) (hd3 : xd ≠ 3) (hd4 : xd ≠ 4) (hd5 : xd ≠ 5) (hd6 : xd ≠ 6) (hd7 : xd ≠ 7) :
    Calls Try.prog 21 #[.pointer (some ⟨b, 0, none⟩), .pointer (some ⟨x, 0, none⟩), stepArg xd xa xb xn xt so ls sc] w fun e w' => e = .returned (.bool true) ∧ TwoP w b x Fa Fb w' := by
  obtain ⟨W0, HW0⟩ : ∃ W0, Hid (w.alloc (.cells #[.int .i64 xd, .int .i64 xa, .int .i64 xb, .int .i64 xn, .string xt, .slice so ls sc] 35) = W0) := ⟨_, Lib.hid rfl⟩
  obtain ⟨kb, HKB⟩ : ∃ kb, Hid (w.heap.size = kb) := ⟨_, Lib.hid rfl⟩
  have HC0 : Hid (Chg (fun _ => False) w W0) := by rw [← HW0.out]; exact Lib.hid ((Chg.refl _ _).alloc _)
  have T0 := Lib.hid (T.same HC0.out)
  have hkc : W0.heap[kb]? = some (.cells #[.int .i64 xd, .int .i64 xa, .int .i64 xb, .int .i64 xn, .string xt, .slice so ls sc] 35) := by rw [← HW0.out, ← HKB.out]; exact Go.heap_alloc_new _ _
  have HKC := Lib.hid hkc
  have HKL := Lib.hid (Array.getElem?_eq_some_iff.1 hkc).1
  have HKA : Hid (¬ Fa kb) := Lib.hid (fun f => by have := T.lt kb (Or.inl f); have := HKB.out; omega)
  have HKF : Hid (¬ Fb kb) := Lib.hid (fun f => by have := T.lt kb (Or.inr f); have := HKB.out; omega)
  clear hkc
  have AA := Lib.hid (show Calls Try.prog 24 _ W0 _ from by obtain ⟨r, mb, L, hR⟩ := T0.out.a; obtain ⟨R, hS⟩ := T0.out.r; exact stands_any hR hS)
  have HT := Lib.hid T
  have e0 : decide (xd = 0) = false := by simpa using hd0
  have e1 : decide (xd = 1) = false := by simpa using hd1
  have e2 : decide (xd = 2) = false := by simpa using hd2
  have e3 : decide (xd = 3) = false := by simpa using hd3
  have e4 : decide (xd = 4) = false := by simpa using hd4
  have e5 : decide (xd = 5) = false := by simpa using hd5
  have e6 : decide (xd = 6) = false := by simpa using hd6
  have e7 : decide (xd = 7) = false := by simpa using hd7
  clear T ha hb hn
  go_enter Try.func21, Try.ntmps21
  go_wp2_with fail
  rw [HW0.out]
  refine AA.out.mono ?_
  rintro e w1 ⟨rfl, hcA⟩
  have HF : Hid (TwoP w b x Fa Fb w1) := Lib.hid ((TwoP.refl T0.out HC0.out).same hcA)
  clear hcA
  go_wp2
  go_ret
  exact ⟨rfl, HF.out⟩
end
end Go.Proofs.Ytpgioccbnkcjcaa
