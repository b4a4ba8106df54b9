/- Walks: ReadNum, of both. -/
import Derived.Test.YtcaemfogknaioaaC2
import Derived.BigQuiet
import Derived.OwnWalk
namespace Go.Proofs.Ytcaemfogknaioaa
open Go.RowKit

theorem below_drewN (w : World) (n : Nat) : Below w.heap.size w (w.drewN n) := ⟨rfl, rfl, rfl, Nat.le_refl _, fun _ _ => rfl⟩

set_option maxRecDepth 100000 in
set_option maxHeartbeats 1000000 in
theorem readNum_any (s : ByteArray) (hs : s.size ≤ maxLen) (w : World) :
    Calls Try.prog 33 #[.string s] w fun e w' => e = .returned (rnumV s.data.toList) ∧ Below w.heap.size w w' := by
  unfold maxLen at hs
  have hq := bytes_isEmpty s
  by_cases h0 : s.size = 0
  · have hd : decide (s.size = 0) = true := by simpa using h0
    rw [hd] at hq
    rw [rnum_nil s h0]
    go_enter Try.func33, Try.ntmps33
    go_wp2
    go_ret3
    exact ⟨rfl, Below.refl _ _⟩
  · have hd : decide (s.size = 0) = false := by simpa using h0
    rw [hd] at hq
    clear hd
    have hp : 0 < s.size := by omega
    by_cases h8 : 8 < s[0].toNat
    · rw [rnum_big s hp h8]
      have q1 : decide ((8 : Int) < (s[0].toNat : Int)) = true := by simp; omega
      have q2 : decide (8 < s[0].toNat) = true := by simpa using h8
      go_enter Try.func33, Try.ntmps33
      go_wp2
      go_ret3
      exact ⟨rfl, Below.refl _ _⟩
    · have q1 : decide ((8 : Int) < (s[0].toNat : Int)) = false := by simp; omega
      have q2 : decide (8 < s[0].toNat) = false := by simpa using h8
      by_cases hl : s.size < 1 + s[0].toNat
      · rw [rnum_short s hp h8 hl]
        have q3 : decide ((s.size : Int) < 1 + (s[0].toNat : Int)) = true := by simp; omega
        go_enter Try.func33, Try.ntmps33
        go_wp2
        go_ret3
        exact ⟨rfl, Below.refl _ _⟩
      · have q3 : decide ((s.size : Int) < 1 + (s[0].toNat : Int)) = false := by simp; omega
        by_cases hc : 0 < s[0].toNat
        · have h1 : 1 < s.size := by omega
          have q4 : decide ((1 : Int) < 1 + (s[0].toNat : Int)) = true := by simp; omega
          by_cases hz : s[1].toNat = 0
          · rw [rnum_form s h1 h8 hl hc hz]
            have q5 : decide ((s[1].toNat : Int) = 0) = true := by simp; omega
            go_enter Try.func33, Try.ntmps33
            go_wp2
            go_ret3
            exact ⟨rfl, Below.refl _ _⟩
          · rw [rnum_ok s hp h8 hl (fun _ _ => hz)]
            have q5 : decide ((s[1].toNat : Int) = 0) = false := by simp; omega
            have hb := Lib.hid (fun m => big_any (s.extract 1 (1 + s[0].toNat)) (by rw [ByteArray.size_extract]; unfold maxLen; omega) (w.drewN m))
            go_enter Try.func33, Try.ntmps33
            go_wp2
            go_quiet (exact (hb.out _).mono (fun e w' h => ⟨h.1, _, h.2⟩))
            go_wp2
            go_ret3
            exact ⟨rfl, below_drewN _ _⟩
        · have h1 : s[0].toNat = 0 := by omega
          have q4 : decide ((1 : Int) < 1 + (s[0].toNat : Int)) = false := by simp; omega
          rw [rnum_ok s hp h8 hl (fun _ h => absurd h hc)]
          have hb := Lib.hid (fun m => big_any (s.extract 1 (1 + s[0].toNat)) (by rw [ByteArray.size_extract]; unfold maxLen; omega) (w.drewN m))
          have H1 := Lib.hid h1
          have h11 : 1 + s[0].toNat ≤ s.size := by omega
          clear h1 hl h8
          go_enter Try.func33, Try.ntmps33
          go_wp2
          go_quiet (exact (hb.out _).mono (fun e w' h => ⟨h.1, _, h.2⟩))
          go_wp2
          go_ret3
          exact ⟨rfl, below_drewN _ _⟩
set_option maxRecDepth 100000 in
set_option maxHeartbeats 1000000 in
theorem rreadNum_any (s : ByteArray) (hs : s.size ≤ maxLen) (w : World) :
    Calls Try.prog 35 #[.string s] w fun e w' => e = .returned (rnumV s.data.toList) ∧ Below w.heap.size w w' := by
  unfold maxLen at hs
  have hq := bytes_isEmpty s
  by_cases h0 : s.size = 0
  · have hd : decide (s.size = 0) = true := by simpa using h0
    rw [hd] at hq
    rw [rnum_nil s h0]
    go_enter Try.func35, Try.ntmps35
    go_wp2
    go_ret3
    exact ⟨rfl, Below.refl _ _⟩
  · have hd : decide (s.size = 0) = false := by simpa using h0
    rw [hd] at hq
    clear hd
    have hp : 0 < s.size := by omega
    have hc6 := s[0].toNat_lt
    have hw6 : wrap64 (s[0].toNat : Int) = s[0].toNat := by unfold wrap64; omega
    by_cases h8 : 8 < s[0].toNat
    · rw [rnum_big s hp h8]
      have q1 : decide ((8 : Int) < (s[0].toNat : Int)) = true := by simp; omega
      have q2 : decide (8 < s[0].toNat) = true := by simpa using h8
      go_enter Try.func35, Try.ntmps35
      go_wp2
      go_ret3
      exact ⟨rfl, Below.refl _ _⟩
    · have q1 : decide ((8 : Int) < (s[0].toNat : Int)) = false := by simp; omega
      have q2 : decide (8 < s[0].toNat) = false := by simpa using h8
      by_cases hl : s.size < 1 + s[0].toNat
      · rw [rnum_short s hp h8 hl]
        have q3 : decide ((s.size : Int) < 1 + (s[0].toNat : Int)) = true := by simp; omega
        go_enter Try.func35, Try.ntmps35
        go_wp2
        go_ret3
        exact ⟨rfl, Below.refl _ _⟩
      · have q3 : decide ((s.size : Int) < 1 + (s[0].toNat : Int)) = false := by simp; omega
        by_cases hc : 0 < s[0].toNat
        · have h1 : 1 < s.size := by omega
          have q4 : decide ((0 : Int) < (s[0].toNat : Int)) = true := by simp; omega
          by_cases hz : s[1].toNat = 0
          · rw [rnum_form s h1 h8 hl hc hz]
            have q5 : decide ((s[1].toNat : Int) = 0) = true := by simp; omega
            go_enter Try.func35, Try.ntmps35
            go_wp2
            go_ret3
            exact ⟨rfl, Below.refl _ _⟩
          · rw [rnum_ok s hp h8 hl (fun _ _ => hz)]
            have q5 : decide ((s[1].toNat : Int) = 0) = false := by simp; omega
            have hb := Lib.hid (fun m => rbig_any (s.extract 1 (1 + s[0].toNat)) (by rw [ByteArray.size_extract]; unfold maxLen; omega) (w.drewN m))
            go_enter Try.func35, Try.ntmps35
            go_wp2
            go_quiet (exact (hb.out _).mono (fun e w' h => ⟨h.1, _, h.2⟩))
            go_wp2
            go_ret3
            exact ⟨rfl, below_drewN _ _⟩
        · have h1 : s[0].toNat = 0 := by omega
          have q4 : decide ((0 : Int) < (s[0].toNat : Int)) = false := by simp; omega
          rw [rnum_ok s hp h8 hl (fun _ h => absurd h hc)]
          have hb := Lib.hid (fun m => rbig_any (s.extract 1 (1 + s[0].toNat)) (by rw [ByteArray.size_extract]; unfold maxLen; omega) (w.drewN m))
          have H1 := Lib.hid h1
          have h11 : 1 + s[0].toNat ≤ s.size := by omega
          clear h1 hl h8
          go_enter Try.func35, Try.ntmps35
          go_wp2
          go_quiet (exact (hb.out _).mono (fun e w' h => ⟨h.1, _, h.2⟩))
          go_wp2
          go_ret3
          exact ⟨rfl, below_drewN _ _⟩
end Go.Proofs.Ytcaemfogknaioaa
