/- Walks: ReadFrame, of both. -/
import Derived.Test.YtlpianjighhelaaDoorCd
import Derived.BigQuiet
namespace Go.Proofs.YtlpianjighhelaaDoor
open Go.RowKit Mk Go.Sort

theorem str_toList_ne {a b : ByteArray} (h : a ≠ b) : (a.toList == b.toList) = false := by
  rw [beq_eq_false_iff_ne, toL', toL']
  intro e
  apply h
  apply ByteArray.ext
  exact Array.ext' e
where toL' (s : ByteArray) : s.toList = s.data.toList := ByteArray.toList_eq s

set_option maxRecDepth 100000 in
set_option maxHeartbeats 2000000 in
theorem readFrame_any (s : ByteArray) (hs : s.size ≤ maxLen) (w : World) :
    Calls Tryd.prog 30 #[.string s] w fun e w' => e = .returned (rframeV s.data.toList) ∧ Below w.heap.size w w' := by
  unfold maxLen at hs
  obtain ⟨P1, P2⟩ := rframe_parts s
  by_cases h8 : s.size < 8
  · have q : decide (s.size < 8) = true := by simpa using h8
    rw [P1 h8]
    go_enter Tryd.func30, Tryd.ntmps30
    go_wp2
    go_ret3
    exact ⟨rfl, Below.refl _ _⟩
  · have q : decide (s.size < 8) = false := by simpa using h8
    have BG := fun w => big_any (s.extract 0 4) (by rw [ByteArray.size_extract]; unfold maxLen; omega) w
    have hbl := Cod.big_lt (s.extract 0 4).data.toList
    obtain ⟨x, hx⟩ : ∃ x, Cod.big (s.extract 0 4).data.toList = x := ⟨_, rfl⟩
    rw [hx] at BG hbl
    obtain ⟨P3, P4⟩ := P2 h8 x hx
    replace BG := Lib.hid BG
    clear P1 P2 hx
    by_cases hbig : 16777216 < x
    · have q2 : decide ((16777216 : Int) < x) = true := by simp; omega
      rw [P3 hbig]
      clear P3 P4
      go_enter Tryd.func30, Tryd.ntmps30
      go_wp2_with fail
      refine (BG.out _).mono ?_
      rintro e w1 ⟨rfl, rfl⟩
      go_wp2
      go_ret3
      exact ⟨rfl, Below.refl _ _⟩
    · have q2 : decide ((16777216 : Int) < x) = false := by simp; omega
      obtain ⟨P5, P6⟩ := P4 hbig
      have hw : IntKind.u64.wrap ((s.size : Int) - 8) = ((s.size - 8 : Nat) : Int) := by simp only [IntKind.wrap, IntKind.bits, IntKind.signed]; simp; omega
      by_cases hfit : s.size - 8 < x
      · have q3 : decide (s.size - 8 < x) = true := by simpa using hfit
        have q4 : decide ((s.size : Int) - 8 < x) = true := by simp; omega
        rw [P5 hfit]
        clear P3 P4 P5 P6
        go_enter Tryd.func30, Tryd.ntmps30
        go_wp2_with fail
        refine (BG.out _).mono ?_
        rintro e w1 ⟨rfl, rfl⟩
        go_wp2
        go_ret3
        exact ⟨rfl, Below.refl _ _⟩
      · have q3 : decide (s.size - 8 < x) = false := by simpa using hfit
        have q4 : decide ((s.size : Int) - 8 < x) = false := by simp; omega
        obtain ⟨P7, -, -, P8, P9⟩ := P6 hfit (s.extract 8 (8 + x)) rfl
        have M := made_any (s.extract 8 (8 + x)) (by omega)
        obtain ⟨b0, b1, b2, b3, b4, b5, b6, b7, hl⟩ := eight_list _ (Cod.hdr_len (s.extract 8 (8 + x)).data.toList)
        rw [hl] at M P8 P9
        have HM : Hid (∀ w, Calls Tryd.prog 34 #[.string (s.extract 8 (8 + x))] w fun e w' => e = .returned (.agg #[.int .u8 (b0.toNat : Int), .int .u8 (b1.toNat : Int), .int .u8 (b2.toNat : Int), .int .u8 (b3.toNat : Int), .int .u8 (b4.toNat : Int), .int .u8 (b5.toNat : Int), .int .u8 (b6.toNat : Int), .int .u8 (b7.toNat : Int)]) ∧ Below w.heap.size w w') := M
        have HC := Lib.hid (fun (v : World) (k : Nat) => head_conv (g := v.heap.size) ((v.alloc (.cells #[.int .u8 (b0.toNat : Int), .int .u8 (b1.toNat : Int), .int .u8 (b2.toNat : Int), .int .u8 (b3.toNat : Int), .int .u8 (b4.toNat : Int), .int .u8 (b5.toNat : Int), .int .u8 (b6.toNat : Int), .int .u8 (b7.toNat : Int)] 58)).drewN k) b0 b1 b2 b3 b4 b5 b6 b7 (Go.heap_alloc_new _ _))
        have g1 : IntKind.u64.wrap (8 + (x : Int)) = 8 + (x : Int) := by simp only [IntKind.wrap, IntKind.bits, IntKind.signed]; simp; omega
        have g2 : (0 : Int) ≤ 8 + (x : Int) := by omega
        have g3 : (8 : Int) + x ≤ s.size := by omega
        have g4 : ((8 : Int) + x).toNat = 8 + x := by omega
        have g5 : 8 + x ≤ s.size := by omega
        generalize str [b0, b1, b2, b3, b4, b5, b6, b7] = X at *
        clear P3 P4 P5 P6 M hl hfit hbig
        by_cases hX : X = s.extract 0 8
        · rw [P9 hX]
          have q5 : (X.toList == (s.extract 0 8).toList) = true := by rw [hX]; simp
          have q6 : 8 ≤ s.size := by omega
          clear P8 P9 hX
          go_enter Tryd.func30, Tryd.ntmps30
          go_wp2_with fail
          refine (BG.out _).mono ?_
          rintro e w1 ⟨rfl, rfl⟩
          go_wp2_with fail
          refine (HM.out _).mono ?_
          rintro e w2 ⟨rfl, hb2⟩
          have SA := slice58_all w2.heap.size
          have hcv := HC.out w2
          have K2 := Lib.hid (hb2.alloc hb2.size (.cells #[.int .u8 (b0.toNat : Int), .int .u8 (b1.toNat : Int), .int .u8 (b2.toNat : Int), .int .u8 (b3.toNat : Int), .int .u8 (b4.toNat : Int), .int .u8 (b5.toNat : Int), .int .u8 (b6.toNat : Int), .int .u8 (b7.toNat : Int)] 58))
          clear hb2
          go_wp2
          go_quiet (fail)
          go_wp2
          go_quiet (fail)
          go_wp2
          go_ret3
          exact ⟨rfl, (K2.out.trans ((below_drewN _ _).mono K2.out.size)).trans ((below_drewN _ _).mono (K2.out.trans ((below_drewN _ _).mono K2.out.size)).size)⟩
        · rw [P8 hX]
          have q5 : (X.toList == (s.extract 0 8).toList) = false := str_toList_ne hX
          have q6 : 8 ≤ s.size := by omega
          clear P8 P9 hX
          go_enter Tryd.func30, Tryd.ntmps30
          go_wp2_with fail
          refine (BG.out _).mono ?_
          rintro e w1 ⟨rfl, rfl⟩
          go_wp2_with fail
          refine (HM.out _).mono ?_
          rintro e w2 ⟨rfl, hb2⟩
          have SA := slice58_all w2.heap.size
          have hcv := HC.out w2
          have K2 := Lib.hid (hb2.alloc hb2.size (.cells #[.int .u8 (b0.toNat : Int), .int .u8 (b1.toNat : Int), .int .u8 (b2.toNat : Int), .int .u8 (b3.toNat : Int), .int .u8 (b4.toNat : Int), .int .u8 (b5.toNat : Int), .int .u8 (b6.toNat : Int), .int .u8 (b7.toNat : Int)] 58))
          clear hb2
          go_wp2
          go_quiet (fail)
          go_wp2
          go_ret3
          exact ⟨rfl, K2.out.trans ((below_drewN _ _).mono K2.out.size)⟩

set_option maxRecDepth 100000 in
set_option maxHeartbeats 2000000 in
theorem rreadFrame_any (s : ByteArray) (hs : s.size ≤ maxLen) (w : World) :
    Calls Tryd.prog 31 #[.string s] w fun e w' => e = .returned (rframeV s.data.toList) ∧ Below w.heap.size w w' := by
  unfold maxLen at hs
  obtain ⟨P1, P2⟩ := rframe_parts s
  by_cases h8 : s.size < 8
  · have q : decide (s.size < 8) = true := by simpa using h8
    rw [P1 h8]
    go_enter Tryd.func31, Tryd.ntmps31
    go_wp2
    go_ret3
    exact ⟨rfl, Below.refl _ _⟩
  · have q : decide (s.size < 8) = false := by simpa using h8
    have BG := fun w => rbig_any (s.extract 0 4) (by rw [ByteArray.size_extract]; unfold maxLen; omega) w
    have hbl := Cod.big_lt (s.extract 0 4).data.toList
    obtain ⟨x, hx⟩ : ∃ x, Cod.big (s.extract 0 4).data.toList = x := ⟨_, rfl⟩
    rw [hx] at BG hbl
    obtain ⟨P3, P4⟩ := P2 h8 x hx
    replace BG := Lib.hid BG
    clear P1 P2 hx
    by_cases hbig : 16777216 < x
    · have q2 : decide ((16777216 : Int) < x) = true := by simp; omega
      rw [P3 hbig]
      clear P3 P4
      go_enter Tryd.func31, Tryd.ntmps31
      go_wp2_with fail
      refine (BG.out _).mono ?_
      rintro e w1 ⟨rfl, rfl⟩
      go_wp2
      go_ret3
      exact ⟨rfl, Below.refl _ _⟩
    · have q2 : decide ((16777216 : Int) < x) = false := by simp; omega
      obtain ⟨P5, P6⟩ := P4 hbig
      have hw : IntKind.u64.wrap ((s.size : Int) - 8) = ((s.size - 8 : Nat) : Int) := by simp only [IntKind.wrap, IntKind.bits, IntKind.signed]; simp; omega
      by_cases hfit : s.size - 8 < x
      · have q3 : decide (s.size - 8 < x) = true := by simpa using hfit
        have q4 : decide ((s.size : Int) - 8 < x) = true := by simp; omega
        rw [P5 hfit]
        clear P3 P4 P5 P6
        go_enter Tryd.func31, Tryd.ntmps31
        go_wp2_with fail
        refine (BG.out _).mono ?_
        rintro e w1 ⟨rfl, rfl⟩
        go_wp2
        go_ret3
        exact ⟨rfl, Below.refl _ _⟩
      · have q3 : decide (s.size - 8 < x) = false := by simpa using hfit
        have q4 : decide ((s.size : Int) - 8 < x) = false := by simp; omega
        obtain ⟨P7, P7a, P7b, P8, P9⟩ := P6 hfit (s.extract 8 (8 + x)) rfl
        obtain ⟨T, hT⟩ : ∃ T, s.extract 8 (8 + x) = T := ⟨_, rfl⟩
        rw [hT] at P7 P7a P8 P9
        obtain ⟨k, hk⟩ : ∃ k, Crc.more 0 (s.extract 0 4 ++ T).data.toList = k := ⟨_, rfl⟩
        have hkl : k < 4294967296 := by rw [← hk]; exact Crc.more_lt _ (by decide)
        rw [hk] at P7a
        have hz4 : (s.extract 0 4).size = 4 := by rw [ByteArray.size_extract]; omega
        have O := fun w => rof_any (s.extract 0 4 ++ T) (by rw [ByteArray.size_append]; unfold maxLen; omega) w
        rw [hk] at O
        have FO := fun W => regrown_below (P := Tryd.prog) (f := 36) (args := #[.string (s.extract 0 4 ++ T)]) W (fun w => (O w).mono (fun e w' h => ⟨h.1, h.2 ▸ Below.refl _ _⟩))
        have hwk : IntKind.u64.wrap (k : Int) = k := by simp only [IntKind.wrap, IntKind.bits, IntKind.signed]; simp; omega
        have FF := fun W => regrown_below (P := Tryd.prog) (f := 35) (args := #[.int .u64 k, .int .i64 (4 : Nat)]) W (fun w => fixed_any k 4 (by omega) (by decide) w)
        have g1 : IntKind.u64.wrap (8 + (x : Int)) = 8 + (x : Int) := by simp only [IntKind.wrap, IntKind.bits, IntKind.signed]; simp; omega
        have g2 : (0 : Int) ≤ 8 + (x : Int) := by omega
        have g3 : (8 : Int) + x ≤ s.size := by omega
        have g4 : ((8 : Int) + x).toNat = 8 + x := by omega
        have g5 : 8 + x ≤ s.size := by omega
        have g6 : ¬ 9223372036854775807 < (s.extract 0 4).size + T.size := by omega
        have g7 : 8 ≤ s.size := by omega
        rw [P7b, P7a] at P8 P9
        have hP8 : str (Cod.beL 4 k) ≠ s.extract 4 8 → rframeV s.data.toList = .tuple #[.string ⟨#[]⟩, .string ⟨#[]⟩, .int .i64 22] := fun h => P8 (fun e => h (by
          apply ByteArray.ext
          apply Array.ext'
          have := congrArg (fun b : ByteArray => b.data.toList) e
          simp only [ByteArray.data_append, Array.toList_append] at this
          exact List.append_cancel_left this))
        have hP9 : str (Cod.beL 4 k) = s.extract 4 8 → rframeV s.data.toList = .tuple #[.string T, .string (s.extract (8 + x) s.size), .int .i64 0] := fun h => P9 (by rw [h])
        generalize str (Cod.beL 4 k) = X at *
        clear P3 P4 P5 P6 P7a P7b P8 P9 hfit hbig O hk
        by_cases hX : X = s.extract 4 8
        · rw [hP9 hX]
          have q5 : (X.toList == (s.extract 4 8).toList) = true := by rw [hX]; simp
          clear hP8 hP9 hX
          go_enter Tryd.func31, Tryd.ntmps31
          go_wp2_with fail
          refine (BG.out _).mono ?_
          rintro e w1 ⟨rfl, rfl⟩
          have FO' := FO w1
          have FF' := FF w1
          clear FO FF
          go_wp2_with fail
          refine wp_region_quiet_below (by kernel_rfl) (by kernel_rfl) ?_
          go_big_quiet_step (fail)
          go_big_quiet_step (fail)
          go_big_quiet_step (fail)
          go_big_quiet_step (fail)
          go_big_quiet_step (exact FO' _ _)
          go_big_quiet_step (fail)
          go_big_quiet_step (exact FF' _ _)
          repeat (go_big_quiet_step (fail))
          refine wpQuiet_nil ?_
          intro _ hw'
          obtain ⟨⟨dq, osq⟩, hw''⟩ := hw'
          subst hw''
          have K2 := Lib.hid (below_regrown w1 dq osq)
          clear FO' FF'
          generalize grow (redrawn w1 dq) osq = w5 at *
          go_wp2
          go_quiet (fail)
          go_wp2
          go_ret3
          exact ⟨rfl, K2.out.trans ((below_drewN _ _).mono K2.out.size)⟩
        · rw [hP8 hX]
          have q5 : (X.toList == (s.extract 4 8).toList) = false := str_toList_ne hX
          clear hP8 hP9 hX
          go_enter Tryd.func31, Tryd.ntmps31
          go_wp2_with fail
          refine (BG.out _).mono ?_
          rintro e w1 ⟨rfl, rfl⟩
          have FO' := FO w1
          have FF' := FF w1
          clear FO FF
          go_wp2_with fail
          refine wp_region_quiet_below (by kernel_rfl) (by kernel_rfl) ?_
          go_big_quiet_step (fail)
          go_big_quiet_step (fail)
          go_big_quiet_step (fail)
          go_big_quiet_step (fail)
          go_big_quiet_step (exact FO' _ _)
          go_big_quiet_step (fail)
          go_big_quiet_step (exact FF' _ _)
          repeat (go_big_quiet_step (fail))
          refine wpQuiet_nil ?_
          intro _ hw'
          obtain ⟨⟨dq, osq⟩, hw''⟩ := hw'
          subst hw''
          have K2 := Lib.hid (below_regrown w1 dq osq)
          clear FO' FF'
          generalize grow (redrawn w1 dq) osq = w5 at *
          go_wp2
          go_ret3
          exact ⟨rfl, K2.out⟩
end Go.Proofs.YtlpianjighhelaaDoor
