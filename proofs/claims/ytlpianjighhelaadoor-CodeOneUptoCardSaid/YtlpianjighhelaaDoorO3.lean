/- Walks: CodeReads. -/
import Derived.Test.YtlpianjighhelaaDoorCf
import Derived.Test.YtlpianjighhelaaDoorCe
namespace Go.Proofs.YtlpianjighhelaaDoor
open Go.RowKit

theorem rnum_shape (l : List UInt8) : ∃ (x : Nat) (R : ByteArray) (e : Int), rnumV l = .tuple #[.int .u64 x, .string R, .int .i64 e] := ⟨_, _, _, rfl⟩
theorem rint_shape (l : List UInt8) : ∃ (x : Int) (R : ByteArray) (e : Int), rintV l = .tuple #[.int .i64 x, .string R, .int .i64 e] := ⟨_, _, _, rfl⟩
theorem rtext_shape (l : List UInt8) : ∃ (T R : ByteArray) (e : Int), rtextV l = .tuple #[.string T, .string R, .int .i64 e] := ⟨_, _, _, rfl⟩
theorem rkey_shape (a l : List UInt8) : ∃ (T R : ByteArray) (e : Int), rkeyV a l = .tuple #[.string T, .string R, .int .i64 e] := ⟨_, _, _, rfl⟩
theorem rframe_shape (l : List UInt8) : ∃ (T R : ByteArray) (e : Int), rframeV l = .tuple #[.string T, .string R, .int .i64 e] := ⟨_, _, _, rfl⟩

set_option maxRecDepth 100000 in
set_option maxHeartbeats 4000000 in
theorem walkCodeReads (s : ByteArray) (m : Int) (w : World) (hs : s.size ≤ 140737488351232) (hm : MaxC m w) :
    Calls Tryd.prog 7 #[.string s] w fun e w' => e = .returned (.bool true) ∧ Below w.heap.size w w' := by
  have AL := Lib.hid (fun w hm => alive_any m w hm)
  have HM := Lib.hid hm
  have hx : s.size ≤ maxLen := by unfold maxLen; omega
  have A1 := Lib.hid (fun w => readNum_any s hx w)
  have A2 := Lib.hid (fun w => rreadNum_any s hx w)
  have B1 := Lib.hid (fun w => readInt_any s hx w)
  have B2 := Lib.hid (fun w => rreadInt_any s hx w)
  have C1 := Lib.hid (fun w => readText_any s hx w)
  have C2 := Lib.hid (fun w => rreadText_any s hx w)
  have D1 := Lib.hid (fun w => readKey_any s hs w)
  have D2 := Lib.hid (fun w => rreadKey_any s hs w)
  have E1 := Lib.hid (fun w => readFrame_any s hx w)
  have E2 := Lib.hid (fun w => rreadFrame_any s hx w)
  obtain ⟨x1, R1, e1, h1⟩ := rnum_shape s.data.toList
  obtain ⟨x2, R2, e2, h2⟩ := rint_shape s.data.toList
  obtain ⟨T3, R3, e3, h3⟩ := rtext_shape s.data.toList
  obtain ⟨T4, R4, e4, h4⟩ := rkey_shape [] s.data.toList
  obtain ⟨T5, R5, e5, h5⟩ := rframe_shape s.data.toList
  rw [h1] at A1 A2
  rw [h2] at B1 B2
  rw [h3] at C1 C2
  rw [h4] at D1 D2
  rw [h5] at E1 E2
  have K0 := Lib.hid (Below.refl w.heap.size w)
  clear hm hs hx h1 h2 h3 h4 h5
  go_enter Tryd.func7, Tryd.ntmps7
  go_wp2_with fail
  refine (A1.out _).mono ?_
  rintro e w1 ⟨rfl, hb1⟩
  have K1 := Lib.hid (K0.out.trans (hb1.mono K0.out.size))
  clear hb1
  go_wp2_with fail
  refine (A2.out _).mono ?_
  rintro e w2 ⟨rfl, hb2⟩
  have K2 := Lib.hid (K1.out.trans (hb2.mono K1.out.size))
  clear hb2
  go_wp2_with fail
  refine (B1.out _).mono ?_
  rintro e w3 ⟨rfl, hb3⟩
  have K3 := Lib.hid (K2.out.trans (hb3.mono K2.out.size))
  clear hb3
  go_wp2_with fail
  refine (B2.out _).mono ?_
  rintro e w4 ⟨rfl, hb4⟩
  have K4 := Lib.hid (K3.out.trans (hb4.mono K3.out.size))
  clear hb4
  go_wp2_with fail
  refine (C1.out _).mono ?_
  rintro e w5 ⟨rfl, hb5⟩
  have K5 := Lib.hid (K4.out.trans (hb5.mono K4.out.size))
  clear hb5
  go_wp2_with fail
  refine (C2.out _).mono ?_
  rintro e w6 ⟨rfl, hb6⟩
  have K6 := Lib.hid (K5.out.trans (hb6.mono K5.out.size))
  clear hb6
  go_wp2_with fail
  refine (D1.out _).mono ?_
  rintro e w7 ⟨rfl, hb7⟩
  have K7 := Lib.hid (K6.out.trans (hb7.mono K6.out.size))
  clear hb7
  go_wp2_with fail
  refine (D2.out _).mono ?_
  rintro e w8 ⟨rfl, hb8⟩
  have K8 := Lib.hid (K7.out.trans (hb8.mono K7.out.size))
  clear hb8
  go_wp2_with fail
  refine (E1.out _).mono ?_
  rintro e w9 ⟨rfl, hb9⟩
  have K9 := Lib.hid (K8.out.trans (hb9.mono K8.out.size))
  clear hb9
  go_wp2_with fail
  refine (E2.out _).mono ?_
  rintro e w10 ⟨rfl, hb10⟩
  have K10 := Lib.hid (K9.out.trans (hb10.mono K9.out.size))
  clear hb10
  go_wp2_with fail
  refine (AL.out _ (HM.out.stay K10.out HM.out.lt)).mono ?_
  rintro e w11 ⟨rfl, hb11⟩
  have K11 := Lib.hid (K10.out.trans (hb11.mono K10.out.size))
  clear hb11
  go_wp2
  go_ret
  exact ⟨rfl, K11.out⟩
end Go.Proofs.YtlpianjighhelaaDoor
