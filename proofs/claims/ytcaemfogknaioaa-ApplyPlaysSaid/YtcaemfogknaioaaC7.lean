/- Walks: ReadCommand, of both. -/
import Derived.Test.YtcaemfogknaioaaC6
namespace Go.Proofs.Ytcaemfogknaioaa
open Go.RowKit

set_option maxRecDepth 100000 in
set_option maxHeartbeats 2000000 in
theorem readCommand_any (s : ByteArray) (hs : s.size ≤ maxLen) (w : World) :
    Calls Try.prog 11 #[.string s] w fun e w' => e = .returned (rcmdV s.data.toList) ∧ Below w.heap.size w w' := by
  obtain ⟨x1, R1, e1, x2, R2, e2, T, R3, e3, h1, h2, h3, z1, z2, l1, l2, c1, c2, c3, hV⟩ := rcmd_parts s hs
  have N1 := Lib.hid (fun w => readNum_any s hs w)
  have N2 := Lib.hid (fun w => readNum_any R1 (Nat.le_trans z1 hs) w)
  have N3 := Lib.hid (fun w => readText_any R2 (Nat.le_trans z2 hs) w)
  rw [h1] at N1
  rw [h2] at N2
  rw [h3] at N3
  rw [hV]
  unfold maxLen at hs
  clear h1 h2 h3 z1 z2 hV
  have hq := bytes_isEmpty R3
  by_cases he : e1 = 0 ∧ e2 = 0 ∧ e3 = 0
  · obtain ⟨rfl, rfl, rfl⟩ := he
    by_cases g1 : R3.size = 0
    · have d1 : decide (R3.size = 0) = true := by simpa using g1
      rw [d1] at hq
      clear d1
      by_cases g2 : x1 = 0
      · rw [if_neg (by omega)]
        have q1 : ((x1 : Int) == 0) = true := by simp; omega
        go_enter Try.func11, Try.ntmps11
        go_wp2_with fail
        refine (N1.out w).mono ?_
        rintro e w1 ⟨rfl, b1⟩
        go_wp2_with fail
        refine (N2.out w1).mono ?_
        rintro e w2 ⟨rfl, b2⟩
        go_wp2_with fail
        refine (N3.out w2).mono ?_
        rintro e w3 ⟨rfl, b3⟩
        have b := Lib.hid (b1.trans ((b2.trans (b3.mono b2.size)).mono b1.size))
        clear b1 b2 b3 N1 N2 N3
        go_wp2
        all_goals ((try simp only [Exit.inBlock, Exit.then]); refine bodyPost_ret (results_tmp4 rfl _ _ _) rfl ?_)
        all_goals exact ⟨rfl, b.out⟩
      · have q1 : ((x1 : Int) == 0) = false := by simp; omega
        by_cases g3 : x2 = 0
        · rw [if_neg (by omega)]
          have q2 : ((x2 : Int) == 0) = true := by simp; omega
          go_enter Try.func11, Try.ntmps11
          go_wp2_with fail
          refine (N1.out w).mono ?_
          rintro e w1 ⟨rfl, b1⟩
          go_wp2_with fail
          refine (N2.out w1).mono ?_
          rintro e w2 ⟨rfl, b2⟩
          go_wp2_with fail
          refine (N3.out w2).mono ?_
          rintro e w3 ⟨rfl, b3⟩
          have b := Lib.hid (b1.trans ((b2.trans (b3.mono b2.size)).mono b1.size))
          clear b1 b2 b3 N1 N2 N3
          go_wp2
          all_goals ((try simp only [Exit.inBlock, Exit.then]); refine bodyPost_ret (results_tmp4 rfl _ _ _) rfl ?_)
          all_goals exact ⟨rfl, b.out⟩
        · have q2 : ((x2 : Int) == 0) = false := by simp; omega
          by_cases g4 : s.size ≤ 1048576
          · rw [if_pos ⟨rfl, rfl, rfl, g1, g2, g3, g4⟩]
            have q3 : decide ((1048576 : Int) < s.size) = false := by simp; omega
            clear g1 g2 g3
            go_enter Try.func11, Try.ntmps11
            go_wp2_with fail
            refine (N1.out w).mono ?_
            rintro e w1 ⟨rfl, b1⟩
            go_wp2_with fail
            refine (N2.out w1).mono ?_
            rintro e w2 ⟨rfl, b2⟩
            go_wp2_with fail
            refine (N3.out w2).mono ?_
            rintro e w3 ⟨rfl, b3⟩
            have b := Lib.hid (b1.trans ((b2.trans (b3.mono b2.size)).mono b1.size))
            clear b1 b2 b3 N1 N2 N3
            go_wp2
            all_goals ((try simp only [Exit.inBlock, Exit.then]); refine bodyPost_ret (results_tmp4 rfl _ _ _) rfl ?_)
            all_goals exact ⟨rfl, b.out⟩
          · rw [if_neg (by omega)]
            have q3 : decide ((1048576 : Int) < s.size) = true := by simp; omega
            clear g1 g2 g3
            go_enter Try.func11, Try.ntmps11
            go_wp2_with fail
            refine (N1.out w).mono ?_
            rintro e w1 ⟨rfl, b1⟩
            go_wp2_with fail
            refine (N2.out w1).mono ?_
            rintro e w2 ⟨rfl, b2⟩
            go_wp2_with fail
            refine (N3.out w2).mono ?_
            rintro e w3 ⟨rfl, b3⟩
            have b := Lib.hid (b1.trans ((b2.trans (b3.mono b2.size)).mono b1.size))
            clear b1 b2 b3 N1 N2 N3
            go_wp2
            all_goals ((try simp only [Exit.inBlock, Exit.then]); refine bodyPost_ret (results_tmp4 rfl _ _ _) rfl ?_)
            all_goals exact ⟨rfl, b.out⟩
    · rw [if_neg (by omega)]
      have d1 : decide (R3.size = 0) = false := by simpa using g1
      rw [d1] at hq
      clear d1
      go_enter Try.func11, Try.ntmps11
      go_wp2_with fail
      refine (N1.out w).mono ?_
      rintro e w1 ⟨rfl, b1⟩
      go_wp2_with fail
      refine (N2.out w1).mono ?_
      rintro e w2 ⟨rfl, b2⟩
      go_wp2_with fail
      refine (N3.out w2).mono ?_
      rintro e w3 ⟨rfl, b3⟩
      have b := Lib.hid (b1.trans ((b2.trans (b3.mono b2.size)).mono b1.size))
      clear b1 b2 b3 N1 N2 N3
      go_wp2
      all_goals ((try simp only [Exit.inBlock, Exit.then]); refine bodyPost_ret (results_tmp4 rfl _ _ _) rfl ?_)
      all_goals exact ⟨rfl, b.out⟩
  · rw [if_neg (by omega)]
    go_enter Try.func11, Try.ntmps11
    go_wp2_with fail
    refine (N1.out w).mono ?_
    rintro e w1 ⟨rfl, b1⟩
    go_wp2_with fail
    refine (N2.out w1).mono ?_
    rintro e w2 ⟨rfl, b2⟩
    go_wp2_with fail
    refine (N3.out w2).mono ?_
    rintro e w3 ⟨rfl, b3⟩
    have b := Lib.hid (b1.trans ((b2.trans (b3.mono b2.size)).mono b1.size))
    clear b1 b2 b3 N1 N2 N3
    go_wp2
    all_goals ((try simp only [Exit.inBlock, Exit.then]); refine bodyPost_ret (results_tmp4 rfl _ _ _) rfl ?_)
    all_goals exact ⟨rfl, b.out⟩

set_option maxRecDepth 100000 in
set_option maxHeartbeats 2000000 in
theorem rreadCommand_any (s : ByteArray) (hs : s.size ≤ maxLen) (w : World) :
    Calls Try.prog 12 #[.string s] w fun e w' => e = .returned (rcmdV s.data.toList) ∧ Below w.heap.size w w' := by
  obtain ⟨x1, R1, e1, x2, R2, e2, T, R3, e3, h1, h2, h3, z1, z2, l1, l2, c1, c2, c3, hV⟩ := rcmd_parts s hs
  have N1 := Lib.hid (fun w => rreadNum_any s hs w)
  have N2 := Lib.hid (fun w => rreadNum_any R1 (Nat.le_trans z1 hs) w)
  have N3 := Lib.hid (fun w => rreadText_any R2 (Nat.le_trans z2 hs) w)
  rw [h1] at N1
  rw [h2] at N2
  rw [h3] at N3
  rw [hV]
  unfold maxLen at hs
  clear h1 h2 h3 z1 z2 hV
  have hq := bytes_isEmpty R3
  by_cases he1 : e1 = 0
  · subst he1
    by_cases he2 : e2 = 0
    · subst he2
      by_cases he3 : e3 = 0
      · subst he3
        by_cases g1 : R3.size = 0
        · have d1 : decide (R3.size = 0) = true := by simpa using g1
          rw [d1] at hq
          clear d1
          by_cases g2 : x1 = 0
          · rw [if_neg (by omega)]
            have q1 : ((x1 : Int) == 0) = true := by simp; omega
            go_enter Try.func12, Try.ntmps12
            go_wp2_with fail
            refine (N1.out w).mono ?_
            rintro e w1 ⟨rfl, b1⟩
            go_wp2_with fail
            refine (N2.out w1).mono ?_
            rintro e w2 ⟨rfl, b2⟩
            go_wp2_with fail
            refine (N3.out w2).mono ?_
            rintro e w3 ⟨rfl, b3⟩
            have b := Lib.hid (b1.trans ((b2.trans (b3.mono b2.size)).mono b1.size))
            clear b1 b2 b3 N1 N2 N3
            go_wp2
            all_goals ((try simp only [Exit.inBlock, Exit.then]); refine bodyPost_ret (results_tmp4 rfl _ _ _) rfl ?_)
            all_goals exact ⟨rfl, b.out⟩
          · have q1 : ((x1 : Int) == 0) = false := by simp; omega
            by_cases g3 : x2 = 0
            · rw [if_neg (by omega)]
              have q2 : ((x2 : Int) == 0) = true := by simp; omega
              go_enter Try.func12, Try.ntmps12
              go_wp2_with fail
              refine (N1.out w).mono ?_
              rintro e w1 ⟨rfl, b1⟩
              go_wp2_with fail
              refine (N2.out w1).mono ?_
              rintro e w2 ⟨rfl, b2⟩
              go_wp2_with fail
              refine (N3.out w2).mono ?_
              rintro e w3 ⟨rfl, b3⟩
              have b := Lib.hid (b1.trans ((b2.trans (b3.mono b2.size)).mono b1.size))
              clear b1 b2 b3 N1 N2 N3
              go_wp2
              all_goals ((try simp only [Exit.inBlock, Exit.then]); refine bodyPost_ret (results_tmp4 rfl _ _ _) rfl ?_)
              all_goals exact ⟨rfl, b.out⟩
            · have q2 : ((x2 : Int) == 0) = false := by simp; omega
              by_cases g4 : s.size ≤ 1048576
              · rw [if_pos ⟨rfl, rfl, rfl, g1, g2, g3, g4⟩]
                have q3 : decide ((1048576 : Int) < s.size) = false := by simp; omega
                clear g1 g2 g3
                go_enter Try.func12, Try.ntmps12
                go_wp2_with fail
                refine (N1.out w).mono ?_
                rintro e w1 ⟨rfl, b1⟩
                go_wp2_with fail
                refine (N2.out w1).mono ?_
                rintro e w2 ⟨rfl, b2⟩
                go_wp2_with fail
                refine (N3.out w2).mono ?_
                rintro e w3 ⟨rfl, b3⟩
                have b := Lib.hid (b1.trans ((b2.trans (b3.mono b2.size)).mono b1.size))
                clear b1 b2 b3 N1 N2 N3
                go_wp2
                all_goals ((try simp only [Exit.inBlock, Exit.then]); refine bodyPost_ret (results_tmp4 rfl _ _ _) rfl ?_)
                all_goals exact ⟨rfl, b.out⟩
              · rw [if_neg (by omega)]
                have q3 : decide ((1048576 : Int) < s.size) = true := by simp; omega
                clear g1 g2 g3
                go_enter Try.func12, Try.ntmps12
                go_wp2_with fail
                refine (N1.out w).mono ?_
                rintro e w1 ⟨rfl, b1⟩
                go_wp2_with fail
                refine (N2.out w1).mono ?_
                rintro e w2 ⟨rfl, b2⟩
                go_wp2_with fail
                refine (N3.out w2).mono ?_
                rintro e w3 ⟨rfl, b3⟩
                have b := Lib.hid (b1.trans ((b2.trans (b3.mono b2.size)).mono b1.size))
                clear b1 b2 b3 N1 N2 N3
                go_wp2
                all_goals ((try simp only [Exit.inBlock, Exit.then]); refine bodyPost_ret (results_tmp4 rfl _ _ _) rfl ?_)
                all_goals exact ⟨rfl, b.out⟩
        · rw [if_neg (by omega)]
          have d1 : decide (R3.size = 0) = false := by simpa using g1
          rw [d1] at hq
          clear d1
          go_enter Try.func12, Try.ntmps12
          go_wp2_with fail
          refine (N1.out w).mono ?_
          rintro e w1 ⟨rfl, b1⟩
          go_wp2_with fail
          refine (N2.out w1).mono ?_
          rintro e w2 ⟨rfl, b2⟩
          go_wp2_with fail
          refine (N3.out w2).mono ?_
          rintro e w3 ⟨rfl, b3⟩
          have b := Lib.hid (b1.trans ((b2.trans (b3.mono b2.size)).mono b1.size))
          clear b1 b2 b3 N1 N2 N3
          go_wp2
          all_goals ((try simp only [Exit.inBlock, Exit.then]); refine bodyPost_ret (results_tmp4 rfl _ _ _) rfl ?_)
          all_goals exact ⟨rfl, b.out⟩
      · rw [if_neg (by omega)]
        have q0 : ((e3 : Int) != 0) = true := by simp; omega
        go_enter Try.func12, Try.ntmps12
        go_wp2_with fail
        refine (N1.out w).mono ?_
        rintro e w1 ⟨rfl, b1⟩
        go_wp2_with fail
        refine (N2.out w1).mono ?_
        rintro e w2 ⟨rfl, b2⟩
        go_wp2_with fail
        refine (N3.out w2).mono ?_
        rintro e w3 ⟨rfl, b3⟩
        have b := Lib.hid (b1.trans ((b2.trans (b3.mono b2.size)).mono b1.size))
        clear b1 b2 b3 N1 N2 N3
        go_wp2
        all_goals ((try simp only [Exit.inBlock, Exit.then]); refine bodyPost_ret (results_tmp4 rfl _ _ _) rfl ?_)
        all_goals exact ⟨rfl, b.out⟩
    · rw [if_neg (by omega)]
      have q0 : ((e2 : Int) != 0) = true := by simp; omega
      go_enter Try.func12, Try.ntmps12
      go_wp2_with fail
      refine (N1.out w).mono ?_
      rintro e w1 ⟨rfl, b1⟩
      go_wp2_with fail
      refine (N2.out w1).mono ?_
      rintro e w2 ⟨rfl, b2⟩
      have b := Lib.hid (b1.trans (b2.mono b1.size))
      clear b1 b2 N1 N2 N3
      go_wp2
      all_goals ((try simp only [Exit.inBlock, Exit.then]); refine bodyPost_ret (results_tmp4 rfl _ _ _) rfl ?_)
      all_goals exact ⟨rfl, b.out⟩
  · rw [if_neg (by omega)]
    have q0 : ((e1 : Int) != 0) = true := by simp; omega
    go_enter Try.func12, Try.ntmps12
    go_wp2_with fail
    refine (N1.out w).mono ?_
    rintro e w1 ⟨rfl, b1⟩
    have b := Lib.hid b1
    clear b1 N1 N2 N3
    go_wp2
    all_goals ((try simp only [Exit.inBlock, Exit.then]); refine bodyPost_ret (results_tmp4 rfl _ _ _) rfl ?_)
    all_goals exact ⟨rfl, b.out⟩
end Go.Proofs.Ytcaemfogknaioaa
