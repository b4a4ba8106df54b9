/- Walks: CodeOrder. -/
import Derived.Test.YtlpianjighhelaaDoorC8
namespace Go.Proofs.YtlpianjighhelaaDoor
open Go.RowKit

theorem toL (s : ByteArray) : s.toList = s.data.toList := ByteArray.toList_eq s
theorem bl_eq : ∀ (x y : List UInt8), Op.bytesLess x y = decide (x < y)
  | [], [] => by simp [Op.bytesLess]
  | _ :: _, [] => by simp [Op.bytesLess]
  | [], _ :: _ => by simp [Op.bytesLess]
  | a :: x, b :: y => by
    rw [Op.bytesLess, bl_eq x y]
    simp only [List.cons_lt_cons_iff]
    by_cases h1 : a < b <;> by_cases h2 : a = b <;> by_cases h3 : x < y <;> simp [h1, h2, h3]
theorem num_ord (a b : Nat) (ha : a < 18446744073709551616) (hb : b < 18446744073709551616) : Op.bytesLess (str (Cod.num a)).toList (str (Cod.num b)).toList = decide (a < b) := by
  rw [toL, toL, bl_eq]
  exact decide_eq_decide.2 (Cod.num_lt a b ha hb)
theorem int_ord {a b : Int} (ha : isI a) (hb : isI b) : Op.bytesLess (str (Cod.beL 8 (Cod.up a))).toList (str (Cod.beL 8 (Cod.up b))).toList = decide (a < b) := by
  rw [toL, toL, bl_eq]
  exact decide_eq_decide.2 (Cod.int_lt a b ha hb)
theorem key_ord (s t : ByteArray) : Op.bytesLess (str (Cod.key s.data.toList)).toList (str (Cod.key t.data.toList)).toList = Op.bytesLess s.toList t.toList := by
  rw [toL, toL, toL s, toL t, bl_eq, bl_eq]
  exact decide_eq_decide.2 (Cod.key_lt _ _)
theorem key_apart (s t : ByteArray) (h : ¬ s.toList = t.toList) : (((str (Cod.key t.data.toList)).extract 0 (str (Cod.key s.data.toList)).size).toList == (str (Cod.key s.data.toList)).toList) = false := by
  rw [beq_eq_false_iff_ne, toL, toL]
  intro e
  rw [toL, toL] at h
  apply h
  refine Cod.key_front _ _ ((Cod.key t.data.toList).drop (Cod.key s.data.toList).length) ?_
  have h1 : ((str (Cod.key t.data.toList)).extract 0 (str (Cod.key s.data.toList)).size).data.toList = (Cod.key t.data.toList).take (Cod.key s.data.toList).length := by
    rw [str_extract]
    simp [str, ByteArray.size]
  rw [h1] at e
  have e' : List.take (Cod.key s.data.toList).length (Cod.key t.data.toList) = Cod.key s.data.toList := e
  have h2 := List.take_append_drop (Cod.key s.data.toList).length (Cod.key t.data.toList)
  rwa [e'] at h2

set_option maxRecDepth 100000 in
set_option maxHeartbeats 2000000 in
theorem walkCodeOrder (a b : Nat) (i k : Int) (s t : ByteArray) (m : Int) (w : World) (ha : a < 18446744073709551616) (hb : b < 18446744073709551616) (hi : isI i) (hk : isI k) (hs : s.size ≤ 1048576) (ht : t.size ≤ 1048576) (hm : MaxC m w) :
    Calls Tryd.prog 3 #[.int .u64 a, .int .u64 b, .int .i64 i, .int .i64 k, .string s, .string t] w fun e w' => e = .returned (.bool true) ∧ Below w.heap.size w w' := by
  have NA : Hid (∀ w, Calls Tryd.prog 9 #[.int .u64 a] w fun e w' => e = .returned (.string (str (Cod.num a))) ∧ Below w.heap.size w w') := Lib.hid (fun w => num_any a ha w)
  have NB : Hid (∀ w, Calls Tryd.prog 9 #[.int .u64 b] w fun e w' => e = .returned (.string (str (Cod.num b))) ∧ Below w.heap.size w w') := Lib.hid (fun w => num_any b hb w)
  have IA := Lib.hid (fun w => int_any i hi w)
  have IB := Lib.hid (fun w => int_any k hk w)
  have KS := Lib.hid (fun w hm => key_any s m w hm (by omega))
  have KT := Lib.hid (fun w hm => key_any t m w hm (by omega))
  have AL := Lib.hid (fun w hm => alive_any m w hm)
  have q1 := num_ord a b ha hb
  have q2 := int_ord hi hk
  have q3 := key_ord s t
  have q4 := fun h => key_apart s t h
  have z1 : (str (Cod.key s.data.toList)).size ≤ 2097154 := by
    show (Cod.key s.data.toList).length ≤ _
    have := Cod.keyB_len s.data.toList
    rw [len_list] at this
    simp [Cod.key]; omega
  have z2 : (str (Cod.key t.data.toList)).size ≤ 2097154 := by
    show (Cod.key t.data.toList).length ≤ _
    have := Cod.keyB_len t.data.toList
    rw [len_list] at this
    simp [Cod.key]; omega
  generalize str (Cod.num a) = xa at *
  generalize str (Cod.num b) = xb at *
  generalize str (Cod.beL 8 (Cod.up i)) = xi at *
  generalize str (Cod.beL 8 (Cod.up k)) = xk at *
  generalize str (Cod.key s.data.toList) = X at *
  generalize str (Cod.key t.data.toList) = Y at *
  obtain ⟨p1, hp1⟩ : ∃ p, decide (a < b) = p := ⟨_, rfl⟩
  obtain ⟨p2, hp2⟩ : ∃ p, decide (i < k) = p := ⟨_, rfl⟩
  obtain ⟨p3, hp3⟩ : ∃ p, Op.bytesLess s.toList t.toList = p := ⟨_, rfl⟩
  rw [hp1] at q1
  rw [hp2] at q2
  rw [hp3] at q3
  have c1 : (p1 != p1) = false := by simp
  have c2 : (p2 != p2) = false := by simp
  have c3 : (p3 != p3) = false := by simp
  have HM := Lib.hid hm
  have HQ4 := Lib.hid q4
  clear hm ha hb hi hk hs ht q4
  go_enter Tryd.func3, Tryd.ntmps3
  go_wp2_with fail
  refine (NA.out _).mono ?_
  rintro e w1 ⟨rfl, hb1⟩
  have M1 := Lib.hid (HM.out.stay hb1 HM.out.lt)
  have B1 := Lib.hid hb1
  clear hb1
  go_wp2_with fail
  refine (NB.out _).mono ?_
  rintro e w2 ⟨rfl, hb2⟩
  have M2 := Lib.hid (M1.out.stay hb2 M1.out.lt)
  have B2 := Lib.hid (B1.out.trans (hb2.mono B1.out.size))
  clear hb2 B1 M1
  go_wp2_with fail
  refine (IA.out _).mono ?_
  rintro e w3 ⟨rfl, hb3⟩
  have M3 := Lib.hid (M2.out.stay hb3 M2.out.lt)
  have B3 := Lib.hid (B2.out.trans (hb3.mono B2.out.size))
  clear hb3 B2 M2
  go_wp2_with fail
  refine (IB.out _).mono ?_
  rintro e w4 ⟨rfl, hb4⟩
  have M4 := Lib.hid (M3.out.stay hb4 M3.out.lt)
  have B4 := Lib.hid (B3.out.trans (hb4.mono B3.out.size))
  clear hb4 B3 M3
  go_wp2_with fail
  refine (KS.out _ M4.out).mono ?_
  rintro e w5 ⟨rfl, hb5⟩
  have M5 := Lib.hid (M4.out.stay hb5 M4.out.lt)
  have B5 := Lib.hid (B4.out.trans (hb5.mono B4.out.size))
  clear hb5 B4 M4
  go_wp2_with fail
  refine (KT.out _ M5.out).mono ?_
  rintro e w6 ⟨rfl, hb6⟩
  have M6 := Lib.hid (M5.out.stay hb6 M5.out.lt)
  have B6 := Lib.hid (B5.out.trans (hb6.mono B5.out.size))
  clear hb6 B5 M5
  go_wp2_with fail
  refine (KS.out _ M6.out).mono ?_
  rintro e w7 ⟨rfl, hb7⟩
  have M7 := Lib.hid (M6.out.stay hb7 M6.out.lt)
  have B7 := Lib.hid (B6.out.trans (hb7.mono B6.out.size))
  clear hb7 B6 M6
  go_wp2_with fail
  refine (KT.out _ M7.out).mono ?_
  rintro e w8 ⟨rfl, hb8⟩
  have M8 := Lib.hid (M7.out.stay hb8 M7.out.lt)
  have B8 := Lib.hid (B7.out.trans (hb8.mono B7.out.size))
  clear hb8 B7 M7
  by_cases hst : s.toList = t.toList
  · have d1 : (s.toList == t.toList) = true := by simpa using hst
    go_wp2_with fail
    refine (AL.out _ M8.out).mono ?_
    rintro e w9 ⟨rfl, hb9⟩
    have B9 := Lib.hid (B8.out.trans (hb9.mono B8.out.size))
    clear hb9
    go_wp2
    go_ret
    exact ⟨rfl, B9.out⟩
  · have d1 : (s.toList == t.toList) = false := by simpa using hst
    by_cases hz : Y.size < X.size
    · have d2 : decide (Y.size < X.size) = true := by simpa using hz
      go_wp2_with fail
      refine (AL.out _ M8.out).mono ?_
      rintro e w9 ⟨rfl, hb9⟩
      have B9 := Lib.hid (B8.out.trans (hb9.mono B8.out.size))
      clear hb9
      go_wp2
      go_ret
      exact ⟨rfl, B9.out⟩
    · have d2 : decide (Y.size < X.size) = false := by simpa using hz
      have d3 := HQ4.out hst
      go_wp2_with fail
      refine (AL.out _ M8.out).mono ?_
      rintro e w9 ⟨rfl, hb9⟩
      have B9 := Lib.hid (B8.out.trans (hb9.mono B8.out.size))
      clear hb9
      go_wp2
      go_ret
      exact ⟨rfl, B9.out⟩
end Go.Proofs.YtlpianjighhelaaDoor
