/- Walks: CodeOne. -/
import Derived.Test.YtlpianjighhelaaDoorO4
namespace Go.Proofs.YtlpianjighhelaaDoor
open Go.RowKit

theorem num_split (s : ByteArray) : (∃ (x : Nat) (R X : ByteArray), rnumV s.data.toList = .tuple #[.int .u64 x, .string R, .int .i64 0] ∧ x < 18446744073709551616 ∧ str (Cod.num x) = X ∧ X ++ R = s) ∨ (∃ (x : Nat) (R : ByteArray) (e : Int), rnumV s.data.toList = .tuple #[.int .u64 x, .string R, .int .i64 e] ∧ e ≠ 0) := by
  by_cases h : (Cod.rnum s.data.toList).2.2 = 0
  · refine Or.inl ⟨_, _, _, by unfold rnumV; rw [h]; rfl, rnum_lt _, rfl, ?_⟩
    rw [join, Cod.rnum_form1 _ h, str_self]
  · exact Or.inr ⟨_, _, _, rfl, by omega⟩
theorem int_split (s : ByteArray) : (∃ (x : Int) (R X : ByteArray), rintV s.data.toList = .tuple #[.int .i64 x, .string R, .int .i64 0] ∧ isI x ∧ str (Cod.beL 8 (Cod.up x)) = X ∧ X ++ R = s) ∨ (∃ (x : Int) (R : ByteArray) (e : Int), rintV s.data.toList = .tuple #[.int .i64 x, .string R, .int .i64 e] ∧ e ≠ 0) := by
  by_cases h : (Cod.rint s.data.toList).2.2 = 0
  · refine Or.inl ⟨_, _, _, by unfold rintV; rw [h]; rfl, ?_, rfl, ?_⟩
    · unfold Cod.rint isI
      split
      · decide
      · have := Cod.big_lt (s.data.toList.take 8)
        simp only
        omega
    · rw [join, Cod.rint_form1 _ h, str_self]
  · exact Or.inr ⟨_, _, _, rfl, by omega⟩
theorem text_split (s : ByteArray) : (∃ (T R X : ByteArray), rtextV s.data.toList = .tuple #[.string T, .string R, .int .i64 0] ∧ T.size ≤ s.size ∧ str (Cod.text T.data.toList) = X ∧ X ++ R = s) ∨ (∃ (T R : ByteArray) (e : Int), rtextV s.data.toList = .tuple #[.string T, .string R, .int .i64 e] ∧ e ≠ 0) := by
  by_cases h : (Cod.rtext s.data.toList).2.2 = 0
  · have hf := Cod.rtext_form1 _ h
    refine Or.inl ⟨str (Cod.rtext s.data.toList).1, _, _, by unfold rtextV; rw [h]; rfl, ?_, rfl, ?_⟩
    · have := congrArg List.length hf
      rw [List.length_append, len_list] at this
      unfold Cod.text at this
      rw [List.length_append] at this
      show (Cod.rtext s.data.toList).1.length ≤ _
      omega
    · rw [join]
      show str (Cod.text (Cod.rtext s.data.toList).1 ++ _) = s
      rw [hf, str_self]
  · exact Or.inr ⟨_, _, _, rfl, by omega⟩
theorem keyB_ge (s : List UInt8) : s.length ≤ (Cod.keyB s).length := by
  induction s with
  | nil => exact Nat.le_refl _
  | cons c s ih =>
    have : Cod.keyB (c :: s) = Cod.keyC c ++ Cod.keyB s := by simp [Cod.keyB]
    rw [this, List.length_append]
    have h2 : 1 ≤ (Cod.keyC c).length := by unfold Cod.keyC; split <;> simp
    simp only [List.length_cons]
    omega
theorem key_split (s : ByteArray) : (∃ (T R X : ByteArray), rkeyV [] s.data.toList = .tuple #[.string T, .string R, .int .i64 0] ∧ T.size ≤ s.size ∧ str (Cod.key T.data.toList) = X ∧ X ++ R = s) ∨ (∃ (T R : ByteArray) (e : Int), rkeyV [] s.data.toList = .tuple #[.string T, .string R, .int .i64 e] ∧ e ≠ 0) := by
  by_cases h : (Cod.rkey [] s.data.toList).2.2 = 0
  · have hf := Cod.rkey_form1 _ _ h
    have e0 : Cod.keyB [] ++ s.data.toList = s.data.toList := rfl
    rw [e0] at hf
    refine Or.inl ⟨str (Cod.rkey [] s.data.toList).1, _, _, by unfold rkeyV; rw [h]; rfl, ?_, rfl, ?_⟩
    · have := congrArg List.length hf
      rw [List.length_append, len_list] at this
      unfold Cod.key at this
      rw [List.length_append] at this
      have := keyB_ge (Cod.rkey [] s.data.toList).1
      show (Cod.rkey [] s.data.toList).1.length ≤ _
      omega
    · rw [join]
      show str (Cod.key (Cod.rkey [] s.data.toList).1 ++ _) = s
      rw [hf, str_self]
  · exact Or.inr ⟨_, _, _, rfl, by omega⟩
theorem fit_of {X R s : ByteArray} (h : X ++ R = s) (hs : s.size ≤ 1048576) : ¬ 9223372036854775807 < X.size + R.size := by
  have := congrArg ByteArray.size h
  rw [ByteArray.size_append] at this
  omega

set_option maxRecDepth 100000 in
set_option maxHeartbeats 20000000 in
theorem walkCodeOne (s : ByteArray) (m : Int) (w : World) (hs : s.size ≤ 1048576) (hm : MaxC m w) :
    Calls Tryd.prog 5 #[.string s] w fun e w' => e = .returned (.bool true) ∧ Below w.heap.size w w' := by
  have AL := Lib.hid (fun w hm => alive_any m w hm)
  have HM := Lib.hid hm
  have c0 : (s.toList == s.toList) = true := by simp
  have A1 := fun w => readNum_any s (by unfold maxLen; omega) w
  have A2 := fun w => readInt_any s (by unfold maxLen; omega) w
  have A3 := fun w => readText_any s (by unfold maxLen; omega) w
  have A4 := fun w => readKey_any s (by omega) w
  have K0 := Lib.hid (Below.refl w.heap.size w)
  rcases num_split s with ⟨x1, R1, X1, h1, b1, g1, j1⟩ | ⟨x1, R1, e1, h1, n1⟩
  · rw [h1] at A1
    have W1 : ∀ w, Calls Tryd.prog 9 #[.int .u64 x1] w fun e w' => e = .returned (.string (str (Cod.num x1))) ∧ Below w.heap.size w w' := fun w => num_any x1 b1 w
    rw [g1] at W1
    have f1 := fit_of j1 hs
    replace A1 := Lib.hid A1
    replace W1 := Lib.hid W1
    clear h1 g1 b1
    rcases int_split s with ⟨x2, R2, X2, h2, b2, g2, j2⟩ | ⟨x2, R2, e2, h2, n2⟩
    · rw [h2] at A2
      have W2 := fun w => int_any x2 b2 w
      rw [g2] at W2
      have f2 := fit_of j2 hs
      replace A2 := Lib.hid A2
      replace W2 := Lib.hid W2
      clear h2 g2 b2
      rcases text_split s with ⟨x3, R3, X3, h3, b3, g3, j3⟩ | ⟨x3, R3, e3, h3, n3⟩
      · rw [h3] at A3
        have W3 := fun w => text_any x3 (by omega) w
        rw [g3] at W3
        have f3 := fit_of j3 hs
        replace A3 := Lib.hid A3
        replace W3 := Lib.hid W3
        clear h3 g3 b3
        rcases key_split s with ⟨x4, R4, X4, h4, b4, g4, j4⟩ | ⟨x4, R4, e4, h4, n4⟩
        · rw [h4] at A4
          have W4 := fun w hm => key_any x4 m w hm (by omega)
          rw [g4] at W4
          have f4 := fit_of j4 hs
          replace A4 := Lib.hid A4
          replace W4 := Lib.hid W4
          clear h4 g4 b4
          clear hm hs
          go_enter Tryd.func5, Tryd.ntmps5
          go_wp2_with fail
          refine (A1.out _).mono ?_
          rintro e w1 ⟨rfl, hb1⟩
          have K1 := Lib.hid (K0.out.trans (hb1.mono K0.out.size))
          clear hb1
          go_wp2_with fail
          refine (W1.out _).mono ?_
          rintro e w2 ⟨rfl, hb2⟩
          have K2 := Lib.hid (K1.out.trans (hb2.mono K1.out.size))
          clear hb2
          go_wp2_with fail
          refine (A2.out _).mono ?_
          rintro e w3 ⟨rfl, hb3⟩
          have K3 := Lib.hid (K2.out.trans (hb3.mono K2.out.size))
          clear hb3
          go_wp2_with fail
          refine (W2.out _).mono ?_
          rintro e w4 ⟨rfl, hb4⟩
          have K4 := Lib.hid (K3.out.trans (hb4.mono K3.out.size))
          clear hb4
          go_wp2_with fail
          refine (A3.out _).mono ?_
          rintro e w5 ⟨rfl, hb5⟩
          have K5 := Lib.hid (K4.out.trans (hb5.mono K4.out.size))
          clear hb5
          go_wp2_with fail
          refine (W3.out _).mono ?_
          rintro e w6 ⟨rfl, hb6⟩
          have K6 := Lib.hid (K5.out.trans (hb6.mono K5.out.size))
          clear hb6
          go_wp2_with fail
          refine (A4.out _).mono ?_
          rintro e w7 ⟨rfl, hb7⟩
          have K7 := Lib.hid (K6.out.trans (hb7.mono K6.out.size))
          clear hb7
          go_wp2_with fail
          refine (W4.out _ (HM.out.stay K7.out HM.out.lt)).mono ?_
          rintro e w8 ⟨rfl, hb8⟩
          have K8 := Lib.hid (K7.out.trans (hb8.mono K7.out.size))
          clear hb8
          go_wp2_with fail
          refine (AL.out _ (HM.out.stay K8.out HM.out.lt)).mono ?_
          rintro e w9 ⟨rfl, hb9⟩
          have K9 := Lib.hid (K8.out.trans (hb9.mono K8.out.size))
          clear hb9
          go_wp2
          go_ret
          exact ⟨rfl, K9.out⟩
        · rw [h4] at A4
          have o4 : decide (e4 = 0) = false := by simpa using n4
          have p4 : (e4 == 0) = false := by simpa using n4
          have r4 : (e4 != 0) = true := by simpa using n4
          replace A4 := Lib.hid A4
          clear h4 n4
          clear hm hs
          go_enter Tryd.func5, Tryd.ntmps5
          go_wp2_with fail
          refine (A1.out _).mono ?_
          rintro e w1 ⟨rfl, hb1⟩
          have K1 := Lib.hid (K0.out.trans (hb1.mono K0.out.size))
          clear hb1
          go_wp2_with fail
          refine (W1.out _).mono ?_
          rintro e w2 ⟨rfl, hb2⟩
          have K2 := Lib.hid (K1.out.trans (hb2.mono K1.out.size))
          clear hb2
          go_wp2_with fail
          refine (A2.out _).mono ?_
          rintro e w3 ⟨rfl, hb3⟩
          have K3 := Lib.hid (K2.out.trans (hb3.mono K2.out.size))
          clear hb3
          go_wp2_with fail
          refine (W2.out _).mono ?_
          rintro e w4 ⟨rfl, hb4⟩
          have K4 := Lib.hid (K3.out.trans (hb4.mono K3.out.size))
          clear hb4
          go_wp2_with fail
          refine (A3.out _).mono ?_
          rintro e w5 ⟨rfl, hb5⟩
          have K5 := Lib.hid (K4.out.trans (hb5.mono K4.out.size))
          clear hb5
          go_wp2_with fail
          refine (W3.out _).mono ?_
          rintro e w6 ⟨rfl, hb6⟩
          have K6 := Lib.hid (K5.out.trans (hb6.mono K5.out.size))
          clear hb6
          go_wp2_with fail
          refine (A4.out _).mono ?_
          rintro e w7 ⟨rfl, hb7⟩
          have K7 := Lib.hid (K6.out.trans (hb7.mono K6.out.size))
          clear hb7
          go_wp2_with fail
          refine (AL.out _ (HM.out.stay K7.out HM.out.lt)).mono ?_
          rintro e w8 ⟨rfl, hb8⟩
          have K8 := Lib.hid (K7.out.trans (hb8.mono K7.out.size))
          clear hb8
          go_wp2
          go_ret
          exact ⟨rfl, K8.out⟩
      · rw [h3] at A3
        have o3 : decide (e3 = 0) = false := by simpa using n3
        have p3 : (e3 == 0) = false := by simpa using n3
        have r3 : (e3 != 0) = true := by simpa using n3
        replace A3 := Lib.hid A3
        clear h3 n3
        rcases key_split s with ⟨x4, R4, X4, h4, b4, g4, j4⟩ | ⟨x4, R4, e4, h4, n4⟩
        · rw [h4] at A4
          have W4 := fun w hm => key_any x4 m w hm (by omega)
          rw [g4] at W4
          have f4 := fit_of j4 hs
          replace A4 := Lib.hid A4
          replace W4 := Lib.hid W4
          clear h4 g4 b4
          clear hm hs
          go_enter Tryd.func5, Tryd.ntmps5
          go_wp2_with fail
          refine (A1.out _).mono ?_
          rintro e w1 ⟨rfl, hb1⟩
          have K1 := Lib.hid (K0.out.trans (hb1.mono K0.out.size))
          clear hb1
          go_wp2_with fail
          refine (W1.out _).mono ?_
          rintro e w2 ⟨rfl, hb2⟩
          have K2 := Lib.hid (K1.out.trans (hb2.mono K1.out.size))
          clear hb2
          go_wp2_with fail
          refine (A2.out _).mono ?_
          rintro e w3 ⟨rfl, hb3⟩
          have K3 := Lib.hid (K2.out.trans (hb3.mono K2.out.size))
          clear hb3
          go_wp2_with fail
          refine (W2.out _).mono ?_
          rintro e w4 ⟨rfl, hb4⟩
          have K4 := Lib.hid (K3.out.trans (hb4.mono K3.out.size))
          clear hb4
          go_wp2_with fail
          refine (A3.out _).mono ?_
          rintro e w5 ⟨rfl, hb5⟩
          have K5 := Lib.hid (K4.out.trans (hb5.mono K4.out.size))
          clear hb5
          go_wp2_with fail
          refine (A4.out _).mono ?_
          rintro e w6 ⟨rfl, hb6⟩
          have K6 := Lib.hid (K5.out.trans (hb6.mono K5.out.size))
          clear hb6
          go_wp2_with fail
          refine (W4.out _ (HM.out.stay K6.out HM.out.lt)).mono ?_
          rintro e w7 ⟨rfl, hb7⟩
          have K7 := Lib.hid (K6.out.trans (hb7.mono K6.out.size))
          clear hb7
          go_wp2_with fail
          refine (AL.out _ (HM.out.stay K7.out HM.out.lt)).mono ?_
          rintro e w8 ⟨rfl, hb8⟩
          have K8 := Lib.hid (K7.out.trans (hb8.mono K7.out.size))
          clear hb8
          go_wp2
          go_ret
          exact ⟨rfl, K8.out⟩
        · rw [h4] at A4
          have o4 : decide (e4 = 0) = false := by simpa using n4
          have p4 : (e4 == 0) = false := by simpa using n4
          have r4 : (e4 != 0) = true := by simpa using n4
          replace A4 := Lib.hid A4
          clear h4 n4
          clear hm hs
          go_enter Tryd.func5, Tryd.ntmps5
          go_wp2_with fail
          refine (A1.out _).mono ?_
          rintro e w1 ⟨rfl, hb1⟩
          have K1 := Lib.hid (K0.out.trans (hb1.mono K0.out.size))
          clear hb1
          go_wp2_with fail
          refine (W1.out _).mono ?_
          rintro e w2 ⟨rfl, hb2⟩
          have K2 := Lib.hid (K1.out.trans (hb2.mono K1.out.size))
          clear hb2
          go_wp2_with fail
          refine (A2.out _).mono ?_
          rintro e w3 ⟨rfl, hb3⟩
          have K3 := Lib.hid (K2.out.trans (hb3.mono K2.out.size))
          clear hb3
          go_wp2_with fail
          refine (W2.out _).mono ?_
          rintro e w4 ⟨rfl, hb4⟩
          have K4 := Lib.hid (K3.out.trans (hb4.mono K3.out.size))
          clear hb4
          go_wp2_with fail
          refine (A3.out _).mono ?_
          rintro e w5 ⟨rfl, hb5⟩
          have K5 := Lib.hid (K4.out.trans (hb5.mono K4.out.size))
          clear hb5
          go_wp2_with fail
          refine (A4.out _).mono ?_
          rintro e w6 ⟨rfl, hb6⟩
          have K6 := Lib.hid (K5.out.trans (hb6.mono K5.out.size))
          clear hb6
          go_wp2_with fail
          refine (AL.out _ (HM.out.stay K6.out HM.out.lt)).mono ?_
          rintro e w7 ⟨rfl, hb7⟩
          have K7 := Lib.hid (K6.out.trans (hb7.mono K6.out.size))
          clear hb7
          go_wp2
          go_ret
          exact ⟨rfl, K7.out⟩
    · rw [h2] at A2
      have o2 : decide (e2 = 0) = false := by simpa using n2
      have p2 : (e2 == 0) = false := by simpa using n2
      have r2 : (e2 != 0) = true := by simpa using n2
      replace A2 := Lib.hid A2
      clear h2 n2
      rcases text_split s with ⟨x3, R3, X3, h3, b3, g3, j3⟩ | ⟨x3, R3, e3, h3, n3⟩
      · rw [h3] at A3
        have W3 := fun w => text_any x3 (by omega) w
        rw [g3] at W3
        have f3 := fit_of j3 hs
        replace A3 := Lib.hid A3
        replace W3 := Lib.hid W3
        clear h3 g3 b3
        rcases key_split s with ⟨x4, R4, X4, h4, b4, g4, j4⟩ | ⟨x4, R4, e4, h4, n4⟩
        · rw [h4] at A4
          have W4 := fun w hm => key_any x4 m w hm (by omega)
          rw [g4] at W4
          have f4 := fit_of j4 hs
          replace A4 := Lib.hid A4
          replace W4 := Lib.hid W4
          clear h4 g4 b4
          clear hm hs
          go_enter Tryd.func5, Tryd.ntmps5
          go_wp2_with fail
          refine (A1.out _).mono ?_
          rintro e w1 ⟨rfl, hb1⟩
          have K1 := Lib.hid (K0.out.trans (hb1.mono K0.out.size))
          clear hb1
          go_wp2_with fail
          refine (W1.out _).mono ?_
          rintro e w2 ⟨rfl, hb2⟩
          have K2 := Lib.hid (K1.out.trans (hb2.mono K1.out.size))
          clear hb2
          go_wp2_with fail
          refine (A2.out _).mono ?_
          rintro e w3 ⟨rfl, hb3⟩
          have K3 := Lib.hid (K2.out.trans (hb3.mono K2.out.size))
          clear hb3
          go_wp2_with fail
          refine (A3.out _).mono ?_
          rintro e w4 ⟨rfl, hb4⟩
          have K4 := Lib.hid (K3.out.trans (hb4.mono K3.out.size))
          clear hb4
          go_wp2_with fail
          refine (W3.out _).mono ?_
          rintro e w5 ⟨rfl, hb5⟩
          have K5 := Lib.hid (K4.out.trans (hb5.mono K4.out.size))
          clear hb5
          go_wp2_with fail
          refine (A4.out _).mono ?_
          rintro e w6 ⟨rfl, hb6⟩
          have K6 := Lib.hid (K5.out.trans (hb6.mono K5.out.size))
          clear hb6
          go_wp2_with fail
          refine (W4.out _ (HM.out.stay K6.out HM.out.lt)).mono ?_
          rintro e w7 ⟨rfl, hb7⟩
          have K7 := Lib.hid (K6.out.trans (hb7.mono K6.out.size))
          clear hb7
          go_wp2_with fail
          refine (AL.out _ (HM.out.stay K7.out HM.out.lt)).mono ?_
          rintro e w8 ⟨rfl, hb8⟩
          have K8 := Lib.hid (K7.out.trans (hb8.mono K7.out.size))
          clear hb8
          go_wp2
          go_ret
          exact ⟨rfl, K8.out⟩
        · rw [h4] at A4
          have o4 : decide (e4 = 0) = false := by simpa using n4
          have p4 : (e4 == 0) = false := by simpa using n4
          have r4 : (e4 != 0) = true := by simpa using n4
          replace A4 := Lib.hid A4
          clear h4 n4
          clear hm hs
          go_enter Tryd.func5, Tryd.ntmps5
          go_wp2_with fail
          refine (A1.out _).mono ?_
          rintro e w1 ⟨rfl, hb1⟩
          have K1 := Lib.hid (K0.out.trans (hb1.mono K0.out.size))
          clear hb1
          go_wp2_with fail
          refine (W1.out _).mono ?_
          rintro e w2 ⟨rfl, hb2⟩
          have K2 := Lib.hid (K1.out.trans (hb2.mono K1.out.size))
          clear hb2
          go_wp2_with fail
          refine (A2.out _).mono ?_
          rintro e w3 ⟨rfl, hb3⟩
          have K3 := Lib.hid (K2.out.trans (hb3.mono K2.out.size))
          clear hb3
          go_wp2_with fail
          refine (A3.out _).mono ?_
          rintro e w4 ⟨rfl, hb4⟩
          have K4 := Lib.hid (K3.out.trans (hb4.mono K3.out.size))
          clear hb4
          go_wp2_with fail
          refine (W3.out _).mono ?_
          rintro e w5 ⟨rfl, hb5⟩
          have K5 := Lib.hid (K4.out.trans (hb5.mono K4.out.size))
          clear hb5
          go_wp2_with fail
          refine (A4.out _).mono ?_
          rintro e w6 ⟨rfl, hb6⟩
          have K6 := Lib.hid (K5.out.trans (hb6.mono K5.out.size))
          clear hb6
          go_wp2_with fail
          refine (AL.out _ (HM.out.stay K6.out HM.out.lt)).mono ?_
          rintro e w7 ⟨rfl, hb7⟩
          have K7 := Lib.hid (K6.out.trans (hb7.mono K6.out.size))
          clear hb7
          go_wp2
          go_ret
          exact ⟨rfl, K7.out⟩
      · rw [h3] at A3
        have o3 : decide (e3 = 0) = false := by simpa using n3
        have p3 : (e3 == 0) = false := by simpa using n3
        have r3 : (e3 != 0) = true := by simpa using n3
        replace A3 := Lib.hid A3
        clear h3 n3
        rcases key_split s with ⟨x4, R4, X4, h4, b4, g4, j4⟩ | ⟨x4, R4, e4, h4, n4⟩
        · rw [h4] at A4
          have W4 := fun w hm => key_any x4 m w hm (by omega)
          rw [g4] at W4
          have f4 := fit_of j4 hs
          replace A4 := Lib.hid A4
          replace W4 := Lib.hid W4
          clear h4 g4 b4
          clear hm hs
          go_enter Tryd.func5, Tryd.ntmps5
          go_wp2_with fail
          refine (A1.out _).mono ?_
          rintro e w1 ⟨rfl, hb1⟩
          have K1 := Lib.hid (K0.out.trans (hb1.mono K0.out.size))
          clear hb1
          go_wp2_with fail
          refine (W1.out _).mono ?_
          rintro e w2 ⟨rfl, hb2⟩
          have K2 := Lib.hid (K1.out.trans (hb2.mono K1.out.size))
          clear hb2
          go_wp2_with fail
          refine (A2.out _).mono ?_
          rintro e w3 ⟨rfl, hb3⟩
          have K3 := Lib.hid (K2.out.trans (hb3.mono K2.out.size))
          clear hb3
          go_wp2_with fail
          refine (A3.out _).mono ?_
          rintro e w4 ⟨rfl, hb4⟩
          have K4 := Lib.hid (K3.out.trans (hb4.mono K3.out.size))
          clear hb4
          go_wp2_with fail
          refine (A4.out _).mono ?_
          rintro e w5 ⟨rfl, hb5⟩
          have K5 := Lib.hid (K4.out.trans (hb5.mono K4.out.size))
          clear hb5
          go_wp2_with fail
          refine (W4.out _ (HM.out.stay K5.out HM.out.lt)).mono ?_
          rintro e w6 ⟨rfl, hb6⟩
          have K6 := Lib.hid (K5.out.trans (hb6.mono K5.out.size))
          clear hb6
          go_wp2_with fail
          refine (AL.out _ (HM.out.stay K6.out HM.out.lt)).mono ?_
          rintro e w7 ⟨rfl, hb7⟩
          have K7 := Lib.hid (K6.out.trans (hb7.mono K6.out.size))
          clear hb7
          go_wp2
          go_ret
          exact ⟨rfl, K7.out⟩
        · rw [h4] at A4
          have o4 : decide (e4 = 0) = false := by simpa using n4
          have p4 : (e4 == 0) = false := by simpa using n4
          have r4 : (e4 != 0) = true := by simpa using n4
          replace A4 := Lib.hid A4
          clear h4 n4
          clear hm hs
          go_enter Tryd.func5, Tryd.ntmps5
          go_wp2_with fail
          refine (A1.out _).mono ?_
          rintro e w1 ⟨rfl, hb1⟩
          have K1 := Lib.hid (K0.out.trans (hb1.mono K0.out.size))
          clear hb1
          go_wp2_with fail
          refine (W1.out _).mono ?_
          rintro e w2 ⟨rfl, hb2⟩
          have K2 := Lib.hid (K1.out.trans (hb2.mono K1.out.size))
          clear hb2
          go_wp2_with fail
          refine (A2.out _).mono ?_
          rintro e w3 ⟨rfl, hb3⟩
          have K3 := Lib.hid (K2.out.trans (hb3.mono K2.out.size))
          clear hb3
          go_wp2_with fail
          refine (A3.out _).mono ?_
          rintro e w4 ⟨rfl, hb4⟩
          have K4 := Lib.hid (K3.out.trans (hb4.mono K3.out.size))
          clear hb4
          go_wp2_with fail
          refine (A4.out _).mono ?_
          rintro e w5 ⟨rfl, hb5⟩
          have K5 := Lib.hid (K4.out.trans (hb5.mono K4.out.size))
          clear hb5
          go_wp2_with fail
          refine (AL.out _ (HM.out.stay K5.out HM.out.lt)).mono ?_
          rintro e w6 ⟨rfl, hb6⟩
          have K6 := Lib.hid (K5.out.trans (hb6.mono K5.out.size))
          clear hb6
          go_wp2
          go_ret
          exact ⟨rfl, K6.out⟩
  · rw [h1] at A1
    have o1 : decide (e1 = 0) = false := by simpa using n1
    have p1 : (e1 == 0) = false := by simpa using n1
    have r1 : (e1 != 0) = true := by simpa using n1
    replace A1 := Lib.hid A1
    clear h1 n1
    rcases int_split s with ⟨x2, R2, X2, h2, b2, g2, j2⟩ | ⟨x2, R2, e2, h2, n2⟩
    · rw [h2] at A2
      have W2 := fun w => int_any x2 b2 w
      rw [g2] at W2
      have f2 := fit_of j2 hs
      replace A2 := Lib.hid A2
      replace W2 := Lib.hid W2
      clear h2 g2 b2
      rcases text_split s with ⟨x3, R3, X3, h3, b3, g3, j3⟩ | ⟨x3, R3, e3, h3, n3⟩
      · rw [h3] at A3
        have W3 := fun w => text_any x3 (by omega) w
        rw [g3] at W3
        have f3 := fit_of j3 hs
        replace A3 := Lib.hid A3
        replace W3 := Lib.hid W3
        clear h3 g3 b3
        rcases key_split s with ⟨x4, R4, X4, h4, b4, g4, j4⟩ | ⟨x4, R4, e4, h4, n4⟩
        · rw [h4] at A4
          have W4 := fun w hm => key_any x4 m w hm (by omega)
          rw [g4] at W4
          have f4 := fit_of j4 hs
          replace A4 := Lib.hid A4
          replace W4 := Lib.hid W4
          clear h4 g4 b4
          clear hm hs
          go_enter Tryd.func5, Tryd.ntmps5
          go_wp2_with fail
          refine (A1.out _).mono ?_
          rintro e w1 ⟨rfl, hb1⟩
          have K1 := Lib.hid (K0.out.trans (hb1.mono K0.out.size))
          clear hb1
          go_wp2_with fail
          refine (A2.out _).mono ?_
          rintro e w2 ⟨rfl, hb2⟩
          have K2 := Lib.hid (K1.out.trans (hb2.mono K1.out.size))
          clear hb2
          go_wp2_with fail
          refine (W2.out _).mono ?_
          rintro e w3 ⟨rfl, hb3⟩
          have K3 := Lib.hid (K2.out.trans (hb3.mono K2.out.size))
          clear hb3
          go_wp2_with fail
          refine (A3.out _).mono ?_
          rintro e w4 ⟨rfl, hb4⟩
          have K4 := Lib.hid (K3.out.trans (hb4.mono K3.out.size))
          clear hb4
          go_wp2_with fail
          refine (W3.out _).mono ?_
          rintro e w5 ⟨rfl, hb5⟩
          have K5 := Lib.hid (K4.out.trans (hb5.mono K4.out.size))
          clear hb5
          go_wp2_with fail
          refine (A4.out _).mono ?_
          rintro e w6 ⟨rfl, hb6⟩
          have K6 := Lib.hid (K5.out.trans (hb6.mono K5.out.size))
          clear hb6
          go_wp2_with fail
          refine (W4.out _ (HM.out.stay K6.out HM.out.lt)).mono ?_
          rintro e w7 ⟨rfl, hb7⟩
          have K7 := Lib.hid (K6.out.trans (hb7.mono K6.out.size))
          clear hb7
          go_wp2_with fail
          refine (AL.out _ (HM.out.stay K7.out HM.out.lt)).mono ?_
          rintro e w8 ⟨rfl, hb8⟩
          have K8 := Lib.hid (K7.out.trans (hb8.mono K7.out.size))
          clear hb8
          go_wp2
          go_ret
          exact ⟨rfl, K8.out⟩
        · rw [h4] at A4
          have o4 : decide (e4 = 0) = false := by simpa using n4
          have p4 : (e4 == 0) = false := by simpa using n4
          have r4 : (e4 != 0) = true := by simpa using n4
          replace A4 := Lib.hid A4
          clear h4 n4
          clear hm hs
          go_enter Tryd.func5, Tryd.ntmps5
          go_wp2_with fail
          refine (A1.out _).mono ?_
          rintro e w1 ⟨rfl, hb1⟩
          have K1 := Lib.hid (K0.out.trans (hb1.mono K0.out.size))
          clear hb1
          go_wp2_with fail
          refine (A2.out _).mono ?_
          rintro e w2 ⟨rfl, hb2⟩
          have K2 := Lib.hid (K1.out.trans (hb2.mono K1.out.size))
          clear hb2
          go_wp2_with fail
          refine (W2.out _).mono ?_
          rintro e w3 ⟨rfl, hb3⟩
          have K3 := Lib.hid (K2.out.trans (hb3.mono K2.out.size))
          clear hb3
          go_wp2_with fail
          refine (A3.out _).mono ?_
          rintro e w4 ⟨rfl, hb4⟩
          have K4 := Lib.hid (K3.out.trans (hb4.mono K3.out.size))
          clear hb4
          go_wp2_with fail
          refine (W3.out _).mono ?_
          rintro e w5 ⟨rfl, hb5⟩
          have K5 := Lib.hid (K4.out.trans (hb5.mono K4.out.size))
          clear hb5
          go_wp2_with fail
          refine (A4.out _).mono ?_
          rintro e w6 ⟨rfl, hb6⟩
          have K6 := Lib.hid (K5.out.trans (hb6.mono K5.out.size))
          clear hb6
          go_wp2_with fail
          refine (AL.out _ (HM.out.stay K6.out HM.out.lt)).mono ?_
          rintro e w7 ⟨rfl, hb7⟩
          have K7 := Lib.hid (K6.out.trans (hb7.mono K6.out.size))
          clear hb7
          go_wp2
          go_ret
          exact ⟨rfl, K7.out⟩
      · rw [h3] at A3
        have o3 : decide (e3 = 0) = false := by simpa using n3
        have p3 : (e3 == 0) = false := by simpa using n3
        have r3 : (e3 != 0) = true := by simpa using n3
        replace A3 := Lib.hid A3
        clear h3 n3
        rcases key_split s with ⟨x4, R4, X4, h4, b4, g4, j4⟩ | ⟨x4, R4, e4, h4, n4⟩
        · rw [h4] at A4
          have W4 := fun w hm => key_any x4 m w hm (by omega)
          rw [g4] at W4
          have f4 := fit_of j4 hs
          replace A4 := Lib.hid A4
          replace W4 := Lib.hid W4
          clear h4 g4 b4
          clear hm hs
          go_enter Tryd.func5, Tryd.ntmps5
          go_wp2_with fail
          refine (A1.out _).mono ?_
          rintro e w1 ⟨rfl, hb1⟩
          have K1 := Lib.hid (K0.out.trans (hb1.mono K0.out.size))
          clear hb1
          go_wp2_with fail
          refine (A2.out _).mono ?_
          rintro e w2 ⟨rfl, hb2⟩
          have K2 := Lib.hid (K1.out.trans (hb2.mono K1.out.size))
          clear hb2
          go_wp2_with fail
          refine (W2.out _).mono ?_
          rintro e w3 ⟨rfl, hb3⟩
          have K3 := Lib.hid (K2.out.trans (hb3.mono K2.out.size))
          clear hb3
          go_wp2_with fail
          refine (A3.out _).mono ?_
          rintro e w4 ⟨rfl, hb4⟩
          have K4 := Lib.hid (K3.out.trans (hb4.mono K3.out.size))
          clear hb4
          go_wp2_with fail
          refine (A4.out _).mono ?_
          rintro e w5 ⟨rfl, hb5⟩
          have K5 := Lib.hid (K4.out.trans (hb5.mono K4.out.size))
          clear hb5
          go_wp2_with fail
          refine (W4.out _ (HM.out.stay K5.out HM.out.lt)).mono ?_
          rintro e w6 ⟨rfl, hb6⟩
          have K6 := Lib.hid (K5.out.trans (hb6.mono K5.out.size))
          clear hb6
          go_wp2_with fail
          refine (AL.out _ (HM.out.stay K6.out HM.out.lt)).mono ?_
          rintro e w7 ⟨rfl, hb7⟩
          have K7 := Lib.hid (K6.out.trans (hb7.mono K6.out.size))
          clear hb7
          go_wp2
          go_ret
          exact ⟨rfl, K7.out⟩
        · rw [h4] at A4
          have o4 : decide (e4 = 0) = false := by simpa using n4
          have p4 : (e4 == 0) = false := by simpa using n4
          have r4 : (e4 != 0) = true := by simpa using n4
          replace A4 := Lib.hid A4
          clear h4 n4
          clear hm hs
          go_enter Tryd.func5, Tryd.ntmps5
          go_wp2_with fail
          refine (A1.out _).mono ?_
          rintro e w1 ⟨rfl, hb1⟩
          have K1 := Lib.hid (K0.out.trans (hb1.mono K0.out.size))
          clear hb1
          go_wp2_with fail
          refine (A2.out _).mono ?_
          rintro e w2 ⟨rfl, hb2⟩
          have K2 := Lib.hid (K1.out.trans (hb2.mono K1.out.size))
          clear hb2
          go_wp2_with fail
          refine (W2.out _).mono ?_
          rintro e w3 ⟨rfl, hb3⟩
          have K3 := Lib.hid (K2.out.trans (hb3.mono K2.out.size))
          clear hb3
          go_wp2_with fail
          refine (A3.out _).mono ?_
          rintro e w4 ⟨rfl, hb4⟩
          have K4 := Lib.hid (K3.out.trans (hb4.mono K3.out.size))
          clear hb4
          go_wp2_with fail
          refine (A4.out _).mono ?_
          rintro e w5 ⟨rfl, hb5⟩
          have K5 := Lib.hid (K4.out.trans (hb5.mono K4.out.size))
          clear hb5
          go_wp2_with fail
          refine (AL.out _ (HM.out.stay K5.out HM.out.lt)).mono ?_
          rintro e w6 ⟨rfl, hb6⟩
          have K6 := Lib.hid (K5.out.trans (hb6.mono K5.out.size))
          clear hb6
          go_wp2
          go_ret
          exact ⟨rfl, K6.out⟩
    · rw [h2] at A2
      have o2 : decide (e2 = 0) = false := by simpa using n2
      have p2 : (e2 == 0) = false := by simpa using n2
      have r2 : (e2 != 0) = true := by simpa using n2
      replace A2 := Lib.hid A2
      clear h2 n2
      rcases text_split s with ⟨x3, R3, X3, h3, b3, g3, j3⟩ | ⟨x3, R3, e3, h3, n3⟩
      · rw [h3] at A3
        have W3 := fun w => text_any x3 (by omega) w
        rw [g3] at W3
        have f3 := fit_of j3 hs
        replace A3 := Lib.hid A3
        replace W3 := Lib.hid W3
        clear h3 g3 b3
        rcases key_split s with ⟨x4, R4, X4, h4, b4, g4, j4⟩ | ⟨x4, R4, e4, h4, n4⟩
        · rw [h4] at A4
          have W4 := fun w hm => key_any x4 m w hm (by omega)
          rw [g4] at W4
          have f4 := fit_of j4 hs
          replace A4 := Lib.hid A4
          replace W4 := Lib.hid W4
          clear h4 g4 b4
          clear hm hs
          go_enter Tryd.func5, Tryd.ntmps5
          go_wp2_with fail
          refine (A1.out _).mono ?_
          rintro e w1 ⟨rfl, hb1⟩
          have K1 := Lib.hid (K0.out.trans (hb1.mono K0.out.size))
          clear hb1
          go_wp2_with fail
          refine (A2.out _).mono ?_
          rintro e w2 ⟨rfl, hb2⟩
          have K2 := Lib.hid (K1.out.trans (hb2.mono K1.out.size))
          clear hb2
          go_wp2_with fail
          refine (A3.out _).mono ?_
          rintro e w3 ⟨rfl, hb3⟩
          have K3 := Lib.hid (K2.out.trans (hb3.mono K2.out.size))
          clear hb3
          go_wp2_with fail
          refine (W3.out _).mono ?_
          rintro e w4 ⟨rfl, hb4⟩
          have K4 := Lib.hid (K3.out.trans (hb4.mono K3.out.size))
          clear hb4
          go_wp2_with fail
          refine (A4.out _).mono ?_
          rintro e w5 ⟨rfl, hb5⟩
          have K5 := Lib.hid (K4.out.trans (hb5.mono K4.out.size))
          clear hb5
          go_wp2_with fail
          refine (W4.out _ (HM.out.stay K5.out HM.out.lt)).mono ?_
          rintro e w6 ⟨rfl, hb6⟩
          have K6 := Lib.hid (K5.out.trans (hb6.mono K5.out.size))
          clear hb6
          go_wp2_with fail
          refine (AL.out _ (HM.out.stay K6.out HM.out.lt)).mono ?_
          rintro e w7 ⟨rfl, hb7⟩
          have K7 := Lib.hid (K6.out.trans (hb7.mono K6.out.size))
          clear hb7
          go_wp2
          go_ret
          exact ⟨rfl, K7.out⟩
        · rw [h4] at A4
          have o4 : decide (e4 = 0) = false := by simpa using n4
          have p4 : (e4 == 0) = false := by simpa using n4
          have r4 : (e4 != 0) = true := by simpa using n4
          replace A4 := Lib.hid A4
          clear h4 n4
          clear hm hs
          go_enter Tryd.func5, Tryd.ntmps5
          go_wp2_with fail
          refine (A1.out _).mono ?_
          rintro e w1 ⟨rfl, hb1⟩
          have K1 := Lib.hid (K0.out.trans (hb1.mono K0.out.size))
          clear hb1
          go_wp2_with fail
          refine (A2.out _).mono ?_
          rintro e w2 ⟨rfl, hb2⟩
          have K2 := Lib.hid (K1.out.trans (hb2.mono K1.out.size))
          clear hb2
          go_wp2_with fail
          refine (A3.out _).mono ?_
          rintro e w3 ⟨rfl, hb3⟩
          have K3 := Lib.hid (K2.out.trans (hb3.mono K2.out.size))
          clear hb3
          go_wp2_with fail
          refine (W3.out _).mono ?_
          rintro e w4 ⟨rfl, hb4⟩
          have K4 := Lib.hid (K3.out.trans (hb4.mono K3.out.size))
          clear hb4
          go_wp2_with fail
          refine (A4.out _).mono ?_
          rintro e w5 ⟨rfl, hb5⟩
          have K5 := Lib.hid (K4.out.trans (hb5.mono K4.out.size))
          clear hb5
          go_wp2_with fail
          refine (AL.out _ (HM.out.stay K5.out HM.out.lt)).mono ?_
          rintro e w6 ⟨rfl, hb6⟩
          have K6 := Lib.hid (K5.out.trans (hb6.mono K5.out.size))
          clear hb6
          go_wp2
          go_ret
          exact ⟨rfl, K6.out⟩
      · rw [h3] at A3
        have o3 : decide (e3 = 0) = false := by simpa using n3
        have p3 : (e3 == 0) = false := by simpa using n3
        have r3 : (e3 != 0) = true := by simpa using n3
        replace A3 := Lib.hid A3
        clear h3 n3
        rcases key_split s with ⟨x4, R4, X4, h4, b4, g4, j4⟩ | ⟨x4, R4, e4, h4, n4⟩
        · rw [h4] at A4
          have W4 := fun w hm => key_any x4 m w hm (by omega)
          rw [g4] at W4
          have f4 := fit_of j4 hs
          replace A4 := Lib.hid A4
          replace W4 := Lib.hid W4
          clear h4 g4 b4
          clear hm hs
          go_enter Tryd.func5, Tryd.ntmps5
          go_wp2_with fail
          refine (A1.out _).mono ?_
          rintro e w1 ⟨rfl, hb1⟩
          have K1 := Lib.hid (K0.out.trans (hb1.mono K0.out.size))
          clear hb1
          go_wp2_with fail
          refine (A2.out _).mono ?_
          rintro e w2 ⟨rfl, hb2⟩
          have K2 := Lib.hid (K1.out.trans (hb2.mono K1.out.size))
          clear hb2
          go_wp2_with fail
          refine (A3.out _).mono ?_
          rintro e w3 ⟨rfl, hb3⟩
          have K3 := Lib.hid (K2.out.trans (hb3.mono K2.out.size))
          clear hb3
          go_wp2_with fail
          refine (A4.out _).mono ?_
          rintro e w4 ⟨rfl, hb4⟩
          have K4 := Lib.hid (K3.out.trans (hb4.mono K3.out.size))
          clear hb4
          go_wp2_with fail
          refine (W4.out _ (HM.out.stay K4.out HM.out.lt)).mono ?_
          rintro e w5 ⟨rfl, hb5⟩
          have K5 := Lib.hid (K4.out.trans (hb5.mono K4.out.size))
          clear hb5
          go_wp2_with fail
          refine (AL.out _ (HM.out.stay K5.out HM.out.lt)).mono ?_
          rintro e w6 ⟨rfl, hb6⟩
          have K6 := Lib.hid (K5.out.trans (hb6.mono K5.out.size))
          clear hb6
          go_wp2
          go_ret
          exact ⟨rfl, K6.out⟩
        · rw [h4] at A4
          have o4 : decide (e4 = 0) = false := by simpa using n4
          have p4 : (e4 == 0) = false := by simpa using n4
          have r4 : (e4 != 0) = true := by simpa using n4
          replace A4 := Lib.hid A4
          clear h4 n4
          clear hm hs
          go_enter Tryd.func5, Tryd.ntmps5
          go_wp2_with fail
          refine (A1.out _).mono ?_
          rintro e w1 ⟨rfl, hb1⟩
          have K1 := Lib.hid (K0.out.trans (hb1.mono K0.out.size))
          clear hb1
          go_wp2_with fail
          refine (A2.out _).mono ?_
          rintro e w2 ⟨rfl, hb2⟩
          have K2 := Lib.hid (K1.out.trans (hb2.mono K1.out.size))
          clear hb2
          go_wp2_with fail
          refine (A3.out _).mono ?_
          rintro e w3 ⟨rfl, hb3⟩
          have K3 := Lib.hid (K2.out.trans (hb3.mono K2.out.size))
          clear hb3
          go_wp2_with fail
          refine (A4.out _).mono ?_
          rintro e w4 ⟨rfl, hb4⟩
          have K4 := Lib.hid (K3.out.trans (hb4.mono K3.out.size))
          clear hb4
          go_wp2_with fail
          refine (AL.out _ (HM.out.stay K4.out HM.out.lt)).mono ?_
          rintro e w5 ⟨rfl, hb5⟩
          have K5 := Lib.hid (K4.out.trans (hb5.mono K4.out.size))
          clear hb5
          go_wp2
          go_ret
          exact ⟨rfl, K5.out⟩
end Go.Proofs.YtlpianjighhelaaDoor
