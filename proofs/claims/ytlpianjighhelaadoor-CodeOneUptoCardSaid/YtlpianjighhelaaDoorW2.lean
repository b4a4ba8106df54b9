/- Walks: More, Of, of both. -/
import Derived.Test.YtlpianjighhelaaDoorW1
namespace Go.Proofs.YtlpianjighhelaaDoor
open Go.RowKit

theorem take_snoc (s : ByteArray) (k : Nat) (h : k < s.size) : s.data.toList.take (k + 1) = s.data.toList.take k ++ [s[k]] := by
  rw [List.take_succ_eq_append_getElem (by simpa using h)]; rfl

theorem feed_snoc (x : Nat) (s : ByteArray) (k : Nat) (h : k < s.size) :
    Crc.feed x (s.data.toList.take (k + 1)) = Crc.step (Crc.feed x (s.data.toList.take k)) s[k].toNat := by
  rw [take_snoc s k h, Crc.feed_append]; rfl

theorem take_all (s : ByteArray) : s.data.toList.take s.size = s.data.toList := List.take_of_length_le (by simp)

theorem not32 (r : Nat) (hr : r < 4294967296) : bits .xor .u32 IntKind.u32.max (r : Int) = ((r ^^^ Crc.ones : Nat) : Int) := by
  have := u32_xor_nat 4294967295 r (by decide) hr
  rw [Nat.xor_comm] at this
  exact this

theorem xor_ones (r : Nat) (hr : r < 4294967296) : bits .xor .u32 (r : Int) 4294967295 = ((r ^^^ Crc.ones : Nat) : Int) :=
  u32_xor_nat r 4294967295 hr (by decide)

theorem ones_lt {r : Nat} (hr : r < 4294967296) : r ^^^ Crc.ones < 4294967296 := Nat.xor_lt_two_pow (n := 32) hr (by decide)

set_option maxHeartbeats 400000 in
theorem more_any (n : Nat) (s : ByteArray) (hn : n < 4294967296) (hs : s.size ≤ maxLen) (w : World) :
    Calls Tryd.prog 44 #[.int .u32 n, .string s] w fun e w' => e = .returned (.int .u32 (Crc.more n s.data.toList : Nat)) ∧ w = w' := by
  unfold maxLen at hs
  have h0 := not32 n hn
  have hx0 := ones_lt hn
  have hfin : Crc.more n s.data.toList = Crc.feed (n ^^^ Crc.ones) s.data.toList ^^^ Crc.ones := rfl
  generalize n ^^^ Crc.ones = x0 at *
  rw [hfin]; clear hfin
  go_enter Tryd.func44, Tryd.ntmps44
  go_wp2
  go_loop [0, 10] (fun r i => ∃ k : Nat, k ≤ s.size ∧ i = .int .i64 k ∧ r = .int .u32 (Crc.feed x0 (s.data.toList.take k) : Nat)) (fun _ i => s.size - (intOf i).toNat)
  case atStart => exact ⟨0, by omega, rfl, rfl⟩
  case round =>
    obtain ⟨k, hk, rfl, rfl⟩ := hrel
    have hb : Crc.feed x0 (s.data.toList.take k) < 4294967296 := Crc.feed_lt _ hx0
    by_cases hlt : k < s.size
    · have hS := feed_snoc x0 s k hlt
      have HS := Lib.hid hS
      clear hS
      have hc := s[k].toNat_lt
      generalize Crc.feed x0 (s.data.toList.take k) = x at *
      have hx1 := u32_xor_nat x s[k].toNat hb (by omega)
      have hx2 : x ^^^ s[k].toNat < 4294967296 := Nat.xor_lt_two_pow (n := 32) hb (by omega)
      go_wp2
      go_loop [0, 19] (fun r j => ∃ m : Nat, m ≤ 8 ∧ j = .int .i64 m ∧ r = .int .u32 (Crc.iter Crc.bit m (x ^^^ s[k].toNat) : Nat)) (fun _ i => 8 - (intOf i).toNat)
      case atStart => exact ⟨0, by omega, rfl, rfl⟩
      case round =>
        obtain ⟨m, hm, rfl, rfl⟩ := hrel
        have hb2 : Crc.iter Crc.bit m (x ^^^ s[k].toNat) < 4294967296 := Crc.iter_lt m hx2
        have HT := Lib.hid (Crc.iter_succ' Crc.bit m (x ^^^ s[k].toNat))
        by_cases hm8 : m < 8
        · go_wp2_with (go_at_call 53; refine (bit_any _ hb2 _).mono ?_; rintro e w' ⟨rfl, rfl⟩)
          go_round
          case rel => exact ⟨m + 1, by omega, by go_num, by rw [HT.out]⟩
          case measure => simp [intOf]; omega
        · have hm9 : m = 8 := by omega
          have HF : Hid (Crc.iter Crc.bit m (x ^^^ s[k].toNat) = Crc.step x s[k].toNat) := by subst hm9; rfl
          clear hm9
          go_wp2
          go_round
          case rel => exact ⟨k + 1, by omega, by go_num, by rw [HS.out, HF.out]⟩
          case measure => simp [intOf]; omega
    · have hke : k = s.size := by omega
      subst hke
      rw [take_all] at *
      have hxo := not32 _ hb
      go_wp2
      go_ret
      exact ⟨rfl, rfl⟩

set_option maxHeartbeats 400000 in
theorem rmore_any (n : Nat) (s : ByteArray) (hn : n < 4294967296) (hs : s.size ≤ maxLen) (w : World) :
    Calls Tryd.prog 46 #[.int .u32 n, .string s] w fun e w' => e = .returned (.int .u32 (Crc.more n s.data.toList : Nat)) ∧ w = w' := by
  unfold maxLen at hs
  have h0 := xor_ones n hn
  have hx0 := ones_lt hn
  have hfin : Crc.more n s.data.toList = Crc.feed (n ^^^ Crc.ones) s.data.toList ^^^ Crc.ones := rfl
  generalize n ^^^ Crc.ones = x0 at *
  rw [hfin]; clear hfin
  go_enter Tryd.func46, Tryd.ntmps46
  go_wp2
  go_loop [5, 6] (fun r i => ∃ k : Nat, k ≤ s.size ∧ i = .int .i64 k ∧ r = .int .u32 (Crc.feed x0 (s.data.toList.take k) : Nat)) (fun _ i => s.size - (intOf i).toNat)
  case atStart => exact ⟨0, by omega, rfl, rfl⟩
  case round =>
    obtain ⟨k, hk, rfl, rfl⟩ := hrel
    have hb : Crc.feed x0 (s.data.toList.take k) < 4294967296 := Crc.feed_lt _ hx0
    by_cases hlt : k < s.size
    · have hS := feed_snoc x0 s k hlt
      have HS := Lib.hid hS
      clear hS
      have hc := s[k].toNat_lt
      go_wp2_with (go_at_call 54; refine (step_any _ _ hb hc _).mono ?_; rintro e w' ⟨rfl, rfl⟩)
      go_round
      case rel => exact ⟨k + 1, by omega, by go_num, by rw [HS.out]⟩
      case measure => simp [intOf]; omega
    · have hke : k = s.size := by omega
      subst hke
      rw [take_all] at *
      have hxo := xor_ones _ hb
      go_wp2
      go_ret
      exact ⟨rfl, rfl⟩

theorem of_any (s : ByteArray) (hs : s.size ≤ maxLen) (w : World) :
    Calls Tryd.prog 45 #[.string s] w fun e w' => e = .returned (.int .u32 (Crc.more 0 s.data.toList : Nat)) ∧ w = w' := by
  go_enter Tryd.func45, Tryd.ntmps45
  go_wp2_with (go_at_call 44; refine (more_any 0 s (by decide) hs _).mono ?_; rintro e w' ⟨rfl, rfl⟩)
  go_ret
  exact ⟨rfl, rfl⟩

theorem rof_any (s : ByteArray) (hs : s.size ≤ maxLen) (w : World) :
    Calls Tryd.prog 36 #[.string s] w fun e w' => e = .returned (.int .u32 (Crc.more 0 s.data.toList : Nat)) ∧ w = w' := by
  go_enter Tryd.func36, Tryd.ntmps36
  go_wp2_with (go_at_call 46; refine (rmore_any 0 s (by decide) hs _).mono ?_; rintro e w' ⟨rfl, rfl⟩)
  go_ret
  exact ⟨rfl, rfl⟩
end Go.Proofs.YtlpianjighhelaaDoor
