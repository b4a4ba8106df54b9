/- Walks: CodeBack. -/
import Derived.Test.YtlpianjighhelaaDoorO3
namespace Go.Proofs.YtlpianjighhelaaDoor
open Go.RowKit

theorem join (a b : List UInt8) : str a ++ str b = str (a ++ b) := by
  apply ByteArray.ext
  apply Array.ext'
  simp [str]
theorem frame_ok (s : ByteArray) (h : ¬ 16777216 < s.size) : frameV s.data.toList = .tuple #[.string (str (Cod.hdr s.data.toList ++ s.data.toList)), .int .i64 0] := by
  unfold frameV; rw [len_list, if_neg h]
theorem frame_long (s : ByteArray) (h : 16777216 < s.size) : frameV s.data.toList = .tuple #[.string ⟨#[]⟩, .int .i64 4] := by
  unfold frameV; rw [len_list, if_pos h]

set_option maxRecDepth 100000 in
set_option maxHeartbeats 4000000 in
theorem walkCodeBack (n : Nat) (i : Int) (s r : ByteArray) (m : Int) (w : World) (hn : n < 18446744073709551616) (hi : isI i) (hs : s.size ≤ 140737488351232) (hr : r.size ≤ 140737488351232) (hm : MaxC m w) :
    Calls Tryd.prog 8 #[.int .u64 n, .int .i64 i, .string s, .string r] w fun e w' => e = .returned (.bool true) ∧ Below w.heap.size w w' := by
  have AL := Lib.hid (fun w hm => alive_any m w hm)
  have HM := Lib.hid hm
  have FA := fun w => frame_any s (by unfold maxLen; omega) w
  by_cases hbig : 16777216 < s.size
  · rw [frame_long s hbig] at FA
    replace FA := Lib.hid FA
    have K0 := Lib.hid (Below.refl w.heap.size w)
    clear hm hs hr hi hn hbig
    go_enter Tryd.func8, Tryd.ntmps8
    go_wp2_with fail
    refine (FA.out _).mono ?_
    rintro e w1 ⟨rfl, hb1⟩
    have K1 := Lib.hid (K0.out.trans (hb1.mono K0.out.size))
    clear hb1
    go_wp2_with fail
    refine (AL.out _ (HM.out.stay K1.out HM.out.lt)).mono ?_
    rintro e w2 ⟨rfl, hb2⟩
    have K2 := Lib.hid (K1.out.trans (hb2.mono K1.out.size))
    clear hb2
    go_wp2
    go_ret
    exact ⟨rfl, K2.out⟩
  · rw [frame_ok s hbig] at FA
    replace FA := Lib.hid FA
    obtain ⟨sl, hsl⟩ : ∃ l, s.data.toList = l := ⟨_, rfl⟩
    obtain ⟨rl, hrl⟩ : ∃ l, r.data.toList = l := ⟨_, rfl⟩
    have hsn : sl.length = s.size := by rw [← hsl, len_list]
    have hrn : rl.length = r.size := by rw [← hrl, len_list]
    have es : str sl = s := by rw [← hsl]
    have er : str rl = r := by rw [← hrl]
    have NA : ∀ w, Calls Tryd.prog 9 #[.int .u64 n] w fun e w' => e = .returned (.string (str (Cod.num n))) ∧ Below w.heap.size w w' := fun w => num_any n hn w
    have IA := fun w => int_any i hi w
    have TA := fun w => text_any s (by omega) w
    have KA := fun w hm => key_any s m w hm (by omega)
    rw [hsl] at TA KA FA
    -- the whole text
    have l1 : (Cod.num n).length ≤ 9 := by rw [Cod.num_len]; have := Cod.nlen_le n; omega
    have l2 : (Cod.beL 8 (Cod.up i)).length = 8 := Cod.beL_len _ _
    have l3 : (Cod.text sl).length ≤ 9 + sl.length := by unfold Cod.text; rw [List.length_append, Cod.num_len]; have := Cod.nlen_le sl.length; omega
    have l4 : (Cod.key sl).length ≤ 2 * sl.length + 2 := by unfold Cod.key; rw [List.length_append]; have := Cod.keyB_len sl; simp; omega
    have l5 : (Cod.hdr sl ++ sl).length = 8 + sl.length := by rw [List.length_append, Cod.hdr_len]
    obtain ⟨L5, h5⟩ : ∃ L, Cod.hdr sl ++ sl ++ rl = L := ⟨_, rfl⟩
    obtain ⟨L4, h4⟩ : ∃ L, Cod.key sl ++ L5 = L := ⟨_, rfl⟩
    obtain ⟨L3, h3⟩ : ∃ L, Cod.text sl ++ L4 = L := ⟨_, rfl⟩
    obtain ⟨L2, h2⟩ : ∃ L, Cod.beL 8 (Cod.up i) ++ L3 = L := ⟨_, rfl⟩
    obtain ⟨L1, h1⟩ : ∃ L, Cod.num n ++ L2 = L := ⟨_, rfl⟩
    have m5 : L5.length = 8 + sl.length + rl.length := by rw [← h5, List.length_append, l5]
    have m4 : L4.length ≤ 10 + 3 * sl.length + rl.length := by rw [← h4, List.length_append]; omega
    have m3 : L3.length ≤ 19 + 4 * sl.length + rl.length := by rw [← h3, List.length_append]; omega
    have m2 : L2.length ≤ 27 + 4 * sl.length + rl.length := by rw [← h2, List.length_append]; omega
    have m1 : L1.length ≤ 36 + 4 * sl.length + rl.length := by rw [← h1, List.length_append]; omega
    have v1 : rnumV L1 = .tuple #[.int .u64 n, .string (str L2), .int .i64 0] := by unfold rnumV; rw [← h1, Cod.rnum_num n hn]; rfl
    have v2 : rintV L2 = .tuple #[.int .i64 i, .string (str L3), .int .i64 0] := by unfold rintV; rw [← h2, Cod.rint_int i hi]; rfl
    have v3 : rtextV L3 = .tuple #[.string s, .string (str L4), .int .i64 0] := by unfold rtextV; rw [← h3, Cod.rtext_text sl (by omega), ← es]; rfl
    have v4 : rkeyV [] L4 = .tuple #[.string s, .string (str L5), .int .i64 0] := by unfold rkeyV; rw [← h4, Cod.rkey_key, ← es]; rfl
    have v5 : rframeV L5 = .tuple #[.string s, .string r, .int .i64 0] := by unfold rframeV; rw [← h5, Cod.rframe_frame sl rl (by omega), ← es, ← er]; rfl
    have G1 := fun w => readNum_any (str L1) (by show L1.length ≤ maxLen; unfold maxLen; omega) w
    have G2 := fun w => readInt_any (str L2) (by show L2.length ≤ maxLen; unfold maxLen; omega) w
    have G3 := fun w => readText_any (str L3) (by show L3.length ≤ maxLen; unfold maxLen; omega) w
    have G4 := fun w => readKey_fit (str L4) (by show L4.length ≤ maxLen; unfold maxLen; omega) (Or.inr (by show (Cod.rkey [] L4).2.2 = 0 ∧ (Cod.rkey [] L4).1.length ≤ 140737488351232; rw [← h4, Cod.rkey_key]; exact ⟨rfl, by simp; omega⟩)) w
    have G5 := fun w => readFrame_any (str L5) (by show L5.length ≤ maxLen; unfold maxLen; omega) w
    have e1 : ∀ l, (str l).data.toList = l := fun l => rfl
    rw [e1, v1] at G1
    rw [e1, v2] at G2
    rw [e1, v3] at G3
    rw [e1, v4] at G4
    rw [e1, v5] at G5
    have hj : str (Cod.num n) ++ str (Cod.beL 8 (Cod.up i)) ++ str (Cod.text sl) ++ str (Cod.key sl) ++ str (Cod.hdr sl ++ sl) ++ r = str L1 := by
      rw [← er, join, join, join, join, join, ← h1, ← h2, ← h3, ← h4, ← h5]
      simp only [List.append_assoc]
    have z1 : (str (Cod.num n)).size ≤ 9 := l1
    have z2 : (str (Cod.beL 8 (Cod.up i))).size = 8 := l2
    have z3 : (str (Cod.text sl)).size ≤ 9 + sl.length := l3
    have z4 : (str (Cod.key sl)).size ≤ 2 * sl.length + 2 := l4
    have z5 : (str (Cod.hdr sl ++ sl)).size = 8 + sl.length := l5
    generalize str (Cod.num n) = X1 at *
    generalize str (Cod.beL 8 (Cod.up i)) = X2 at *
    generalize str (Cod.text sl) = X3 at *
    generalize str (Cod.key sl) = X4 at *
    generalize str (Cod.hdr sl ++ sl) = X5 at *
    have a1 : ¬ 9223372036854775807 < X1.size + X2.size := by omega
    have a2 : ¬ 9223372036854775807 < (X1 ++ X2).size + X3.size := by simp only [ByteArray.size_append]; omega
    have a3 : ¬ 9223372036854775807 < (X1 ++ X2 ++ X3).size + X4.size := by simp only [ByteArray.size_append]; omega
    have a4 : ¬ 9223372036854775807 < (X1 ++ X2 ++ X3 ++ X4).size + X5.size := by simp only [ByteArray.size_append]; omega
    have a5 : ¬ 9223372036854775807 < (X1 ++ X2 ++ X3 ++ X4 ++ X5).size + r.size := by simp only [ByteArray.size_append]; omega
    rw [← hj] at G1
    replace NA := Lib.hid NA
    replace IA := Lib.hid IA
    replace TA := Lib.hid TA
    replace KA := Lib.hid KA
    replace G1 := Lib.hid G1
    replace G2 := Lib.hid G2
    replace G3 := Lib.hid G3
    replace G4 := Lib.hid G4
    replace G5 := Lib.hid G5
    generalize str L2 = Y2 at *
    generalize str L3 = Y3 at *
    generalize str L4 = Y4 at *
    generalize str L5 = Y5 at *
    have c2 : (s.toList == s.toList) = true := by simp
    have c3 : (r.toList == r.toList) = true := by simp
    have K0 := Lib.hid (Below.refl w.heap.size w)
    clear hm hs hr hi hn hbig hj z1 z2 z3 z4 z5 v1 v2 v3 v4 v5 m1 m2 m3 m4 m5 h1 h2 h3 h4 h5 l1 l2 l3 l4 l5 e1 es er hsn hrn hsl hrl
    go_enter Tryd.func8, Tryd.ntmps8
    go_wp2_with fail
    refine (FA.out _).mono ?_
    rintro e w1 ⟨rfl, hb1⟩
    have K1 := Lib.hid (K0.out.trans (hb1.mono K0.out.size))
    clear hb1
    go_wp2_with fail
    refine (NA.out _).mono ?_
    rintro e w2 ⟨rfl, hb2⟩
    have K2 := Lib.hid (K1.out.trans (hb2.mono K1.out.size))
    clear hb2
    go_wp2_with fail
    refine (IA.out _).mono ?_
    rintro e w3 ⟨rfl, hb3⟩
    have K3 := Lib.hid (K2.out.trans (hb3.mono K2.out.size))
    clear hb3
    go_wp2_with fail
    refine (TA.out _).mono ?_
    rintro e w4 ⟨rfl, hb4⟩
    have K4 := Lib.hid (K3.out.trans (hb4.mono K3.out.size))
    clear hb4
    go_wp2_with fail
    refine (KA.out _ (HM.out.stay K4.out HM.out.lt)).mono ?_
    rintro e w5 ⟨rfl, hb5⟩
    have K5 := Lib.hid (K4.out.trans (hb5.mono K4.out.size))
    clear hb5
    go_wp2_with fail
    refine (G1.out _).mono ?_
    rintro e w6 ⟨rfl, hb6⟩
    have K6 := Lib.hid (K5.out.trans (hb6.mono K5.out.size))
    clear hb6
    go_wp2_with fail
    refine (G2.out _).mono ?_
    rintro e w7 ⟨rfl, hb7⟩
    have K7 := Lib.hid (K6.out.trans (hb7.mono K6.out.size))
    clear hb7
    go_wp2_with fail
    refine (G3.out _).mono ?_
    rintro e w8 ⟨rfl, hb8⟩
    have K8 := Lib.hid (K7.out.trans (hb8.mono K7.out.size))
    clear hb8
    go_wp2_with fail
    refine (G4.out _).mono ?_
    rintro e w9 ⟨rfl, hb9⟩
    have K9 := Lib.hid (K8.out.trans (hb9.mono K8.out.size))
    clear hb9
    go_wp2_with fail
    refine (G5.out _).mono ?_
    rintro e w10 ⟨rfl, hb10⟩
    have K10 := Lib.hid (K9.out.trans (hb10.mono K9.out.size))
    clear hb10
    go_wp2_with fail
    refine (AL.out _ (HM.out.stay K10.out HM.out.lt)).mono ?_
    rintro e w11 ⟨rfl, hb11⟩
    have K11 := Lib.hid (K10.out.trans (hb11.mono K10.out.size))
    clear hb11
    go_wp2
    go_ret
    exact ⟨rfl, K11.out⟩
end Go.Proofs.YtlpianjighhelaaDoor
