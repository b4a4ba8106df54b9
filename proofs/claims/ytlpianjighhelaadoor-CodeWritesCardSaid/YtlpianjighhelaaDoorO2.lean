/- Walks: CodeWrites. -/
import Derived.Test.YtlpianjighhelaaDoorCb
namespace Go.Proofs.YtlpianjighhelaaDoor
open Go.RowKit

theorem frame_shape (l : List UInt8) : ∃ F e, frameV l = .tuple #[.string F, .int .i64 e] := by
  unfold frameV
  split
  · exact ⟨_, _, rfl⟩
  · exact ⟨_, _, rfl⟩

set_option maxRecDepth 100000 in
set_option maxHeartbeats 2000000 in
theorem walkCodeWrites (a : Nat) (i : Int) (s : ByteArray) (m : Int) (w : World) (ha : a < 18446744073709551616) (hi : isI i) (hs : s.size ≤ 140737488351232) (hm : MaxC m w) :
    Calls Tryd.prog 4 #[.int .u64 a, .int .i64 i, .string s] w fun e w' => e = .returned (.bool true) ∧ Below w.heap.size w w' := by
  have AL := Lib.hid (fun w hm => alive_any m w hm)
  have HM := Lib.hid hm
  by_cases hbig : 33554432 < s.size
  · have q : decide ((33554432 : Int) < s.size) = true := by simp; omega
    clear hm
    go_enter Tryd.func4, Tryd.ntmps4
    go_wp2_with fail
    refine (AL.out _ HM.out).mono ?_
    rintro e w1 ⟨rfl, hb⟩
    go_wp2
    go_ret
    exact ⟨rfl, hb⟩
  · have q : decide ((33554432 : Int) < s.size) = false := by simp; omega
    have NA : Hid (∀ w, Calls Tryd.prog 9 #[.int .u64 a] w fun e w' => e = .returned (.string (str (Cod.num a))) ∧ Below w.heap.size w w') := Lib.hid (fun w => num_any a ha w)
    have NB := Lib.hid (fun w => rnumw_any a ha w)
    have IA := Lib.hid (fun w => int_any i hi w)
    have IB := Lib.hid (fun w => rint_any i hi w)
    have TA := Lib.hid (fun w => text_any s (by omega) w)
    have TB := Lib.hid (fun w => rtextw_any s (by omega) w)
    have KA := Lib.hid (fun w hm => key_any s m w hm (by omega))
    have KB := Lib.hid (fun w => rkey_any s (by omega) w)
    have FA := Lib.hid (fun w => frame_any s (by unfold maxLen; omega) w)
    have FB := Lib.hid (fun w => rframe_any s (by unfold maxLen; omega) w)
    obtain ⟨F, e, hF⟩ := frame_shape s.data.toList
    rw [hF] at FA FB
    generalize str (Cod.num a) = X1 at *
    generalize str (Cod.beL 8 (Cod.up i)) = X2 at *
    generalize str (Cod.text s.data.toList) = X3 at *
    generalize str (Cod.key s.data.toList) = X4 at *
    have c1 : (X1.toList == X1.toList) = true := by simp
    have c2 : (X2.toList == X2.toList) = true := by simp
    have c3 : (X3.toList == X3.toList) = true := by simp
    have c4 : (X4.toList == X4.toList) = true := by simp
    have c5 : (F.toList == F.toList) = true := by simp
    have c6 : (e == e) = true := by simp
    have B0 := Lib.hid (Below.refl w.heap.size w)
    clear hm ha hi hs hbig hF
    go_enter Tryd.func4, Tryd.ntmps4
    go_wp2_with fail
    refine (FA.out _).mono ?_
    rintro e w1 ⟨rfl, hb1⟩
    have B1 := Lib.hid (B0.out.trans (hb1.mono B0.out.size))
    clear hb1
    go_wp2_with fail
    refine (FB.out _).mono ?_
    rintro e w2 ⟨rfl, hb2⟩
    have B2 := Lib.hid (B1.out.trans (hb2.mono B1.out.size))
    clear hb2
    go_wp2_with fail
    refine (NA.out _).mono ?_
    rintro e w3 ⟨rfl, hb3⟩
    have B3 := Lib.hid (B2.out.trans (hb3.mono B2.out.size))
    clear hb3
    go_wp2_with fail
    refine (NB.out _).mono ?_
    rintro e w4 ⟨rfl, hb4⟩
    have B4 := Lib.hid (B3.out.trans (hb4.mono B3.out.size))
    clear hb4
    go_wp2_with fail
    refine (IA.out _).mono ?_
    rintro e w5 ⟨rfl, hb5⟩
    have B5 := Lib.hid (B4.out.trans (hb5.mono B4.out.size))
    clear hb5
    go_wp2_with fail
    refine (IB.out _).mono ?_
    rintro e w6 ⟨rfl, hb6⟩
    have B6 := Lib.hid (B5.out.trans (hb6.mono B5.out.size))
    clear hb6
    go_wp2_with fail
    refine (TA.out _).mono ?_
    rintro e w7 ⟨rfl, hb7⟩
    have B7 := Lib.hid (B6.out.trans (hb7.mono B6.out.size))
    clear hb7
    go_wp2_with fail
    refine (TB.out _).mono ?_
    rintro e w8 ⟨rfl, hb8⟩
    have B8 := Lib.hid (B7.out.trans (hb8.mono B7.out.size))
    clear hb8
    go_wp2_with fail
    refine (KA.out _ (HM.out.stay B8.out HM.out.lt)).mono ?_
    rintro e w9 ⟨rfl, hb9⟩
    have B9 := Lib.hid (B8.out.trans (hb9.mono B8.out.size))
    clear hb9
    go_wp2_with fail
    refine (KB.out _).mono ?_
    rintro e w10 ⟨rfl, hb10⟩
    have B10 := Lib.hid (B9.out.trans (hb10.mono B9.out.size))
    clear hb10
    go_wp2_with fail
    refine (AL.out _ (HM.out.stay B10.out HM.out.lt)).mono ?_
    rintro e w11 ⟨rfl, hb11⟩
    have B11 := Lib.hid (B10.out.trans (hb11.mono B10.out.size))
    clear hb11
    go_wp2
    go_ret
    exact ⟨rfl, B11.out⟩
end Go.Proofs.YtlpianjighhelaaDoor
