/- Walks: the document's Fixed and Num. -/
import Derived.Test.YtcaemfogknaioaaC4
import Derived.Deep.RegionWith
namespace Go.Proofs.Ytcaemfogknaioaa
open Go.RowKit

/-- The row of Fixed, j bytes of n written. -/
def fixA (n j x : Nat) : Array Value := (List.replicate (n - j) (Value.int .u8 0) ++ (Cod.beL j x).map B).toArray
theorem fixA_size (n j x : Nat) (hj : j ≤ n) : (fixA n j x).size = n := by simp [fixA, Cod.beL_len]; omega
theorem fixA_get (n j x : Nat) (h : j < n) : (fixA n j x)[n - 1 - j]? = some (Value.int .u8 0) := by
  unfold fixA
  rw [List.getElem?_toArray, List.getElem?_append_left (by simp; omega), List.getElem?_replicate, if_pos (by omega)]
theorem fixA_set (n j x : Nat) (h : j < n) (v : UInt8) (hv : v = UInt8.ofNat (x / 256 ^ j)) : (fixA n j x).setIfInBounds (n - 1 - j) (B v) = fixA n (j + 1) x := by
  unfold fixA
  apply Array.ext'
  simp only [Array.toList_setIfInBounds]
  rw [show n - j = (n - (j + 1)) + 1 by omega, List.replicate_succ', List.set_append_left _ _ (by simp; omega), Cod.beL_front, hv, show n - 1 - j = n - (j + 1) by omega, List.set_append_right _ _ (by simp)]
  simp
theorem fixA_done (n x : Nat) : fixA n n x = ((Cod.beL n x).map B).toArray := by simp [fixA]
theorem fixA_zero (n x : Nat) : fixA n 0 x = (List.replicate n (Value.int .u8 0)).toArray := by simp [fixA, Cod.beL]

theorem info5 : (Try.prog.info? 5).map (fun i => (i.zero, i.size, i.bytes)) = some (some (.int .u8 0), 1, 1) := by kernel_rfl
theorem fix_made (n : Nat) (x : Nat) : madeCells #[Value.int .u8 0] n = fixA n 0 x := by
  rw [fixA_zero]
  apply Array.ext
  · simp [madeCells]
  · intro i h1 h2
    simp [madeCells, Nat.mod_one]
theorem make_fix (n x : Nat) (hn : n ≤ 8) (v : World) : (Instr.makeSlice 91 (.int .i64 (n : Int)) (.int .i64 (n : Int))).run Try.prog v = .ok (.slice (some ⟨v.heap.size, 0, none⟩) n n) (v.alloc (.cells (fixA n 0 x) 5)) := by
  obtain ⟨i, hi, hzz⟩ := Option.map_eq_some_iff.1 info5
  simp only [Prod.mk.injEq] at hzz
  obtain ⟨hz, hs, hb⟩ := hzz
  rw [run_make v 91 5 i _ Try.underlying91 hi hz .i64 .i64 _ _ (by omega) (by omega) (by rw [hb]; omega) (by omega), hs]
  simp only [Int.toNat_natCast, Nat.mul_one]
  rw [show (Value.int .u8 0).cells = #[Value.int .u8 0] from rfl, fix_made n x]

theorem fix_conv (w : World) (n x : Nat) : (convert 91 9 (.slice (some ⟨w.heap.size, 0, none⟩) n n)).run Try.prog (w.alloc (.cells (fixA n n x) 5)) = .ok (.string (str (Cod.beL n x))) (w.alloc (.cells (fixA n n x) 5)) := by
  have hl := Cod.beL_len n x
  have := run_convert_bytes_back (P := Try.prog) (w.alloc (.cells (fixA n n x) 5)) 91 9 5 ⟨w.heap.size, 0, none⟩ n (Cod.beL n x) Try.underlying91 Try.underlying5 Try.underlying9 (fun i hi => by
    have hc : (w.alloc (.cells (fixA n n x) 5)).cell? ⟨w.heap.size, i, none⟩ = some (B (Cod.beL n x)[i]) := by
      rw [World.cell?_alloc_new, fixA_done, List.getElem?_toArray, List.getElem?_map, List.getElem?_eq_getElem hi]; rfl
    by_cases h0 : i = 0
    · subst h0; exact hc
    · simpa [Addr.add, h0, B] using hc)
  rw [hl] at this
  exact this

set_option maxRecDepth 100000 in
theorem fixed_any (x n : Nat) (hx : x < 18446744073709551616) (hn : n ≤ 8) (w : World) :
    Calls Try.prog 42 #[.int .u64 x, .int .i64 n] w fun e w' => e = .returned (.string (str (Cod.beL n x))) ∧ Below w.heap.size w w' := by
  have hmk := make_fix n x hn
  go_enter Try.func42, Try.ntmps42
  go_wp2
  go_loopw [6] (fun i wr => ∃ j : Nat, j ≤ n ∧ i = .int .i64 j ∧ wr = w.alloc (.cells (fixA n j x) 5)) (fun i _ => n - (intOf i).toNat)
  case atStart => exact ⟨0, by omega, rfl, rfl⟩
  case round =>
    obtain ⟨j, hj, rfl, rfl⟩ := hrel
    by_cases hlt : j < n
    · have hd : decide ((j : Int) < n) = true := by simp; omega
      have hg := fixA_get n j x hlt
      have HS := Lib.hid (fixA_set n j x hlt _ rfl)
      have HV := Lib.hid (show Value.int .u8 ((x : Int) / 2 ^ (8 * j) % 256) = B (UInt8.ofNat (x / 256 ^ j)) by
        rw [B_ofNat, show (256 : Nat) ^ j = 2 ^ (8 * j) by rw [Nat.pow_mul]]
        simp)
      go_wp2
      go_roundw
      case rel => exact ⟨j + 1, by omega, by go_num, by rw [← HS.out, ← HV.out]⟩
      case measure => simp [intOf]; omega
    · have hjn : j = n := by omega
      subst hjn
      have hd : decide ((j : Int) < j) = false := by simp
      have hcv := fix_conv w j x
      go_wp2
      go_ret
      exact ⟨rfl, (Below.refl _ _).alloc (Nat.le_refl _) _⟩

theorem one_conv (k : Nat) (v : World) (g : Nat) (h : v.cell? ⟨g, 0, none⟩ = some (.int .u8 ((k % 256 : Nat) : Int))) : (convert 91 9 (.slice (some ⟨g, 0, none⟩) 1 1)).run Try.prog v = .ok (.string (str [UInt8.ofNat k])) v := by
  have := run_convert_bytes_back (P := Try.prog) v 91 9 5 ⟨g, 0, none⟩ 1 [UInt8.ofNat k] Try.underlying91 Try.underlying5 Try.underlying9 (fun i hi => by
    have : i = 0 := by simpa using hi
    subst this
    rw [show ((⟨g, 0, none⟩ : Addr).add 0) = ⟨g, 0, none⟩ from rfl, h]
    simp)
  exact this

set_option maxRecDepth 100000 in
set_option maxHeartbeats 1000000 in
theorem rnumw_any (x : Nat) (hx : x < 18446744073709551616) (w : World) :
    Calls Try.prog 31 #[.int .u64 x] w fun e w' => e = .returned (.string (str (Cod.num x))) ∧ Below w.heap.size w w' := by
  go_enter Try.func31, Try.ntmps31
  go_wp2
  go_loop [3] (fun n => ∃ k : Nat, k ≤ 8 ∧ n = .int .i64 k ∧ ∀ j, j < k → 0 < x / 256 ^ j) (fun n => 8 - (intOf n).toNat)
  case atStart => exact ⟨0, by omega, rfl, fun j hj => by omega⟩
  case round =>
    obtain ⟨k, hk, rfl, hpos⟩ := hrel
    have HP := Lib.hid hpos
    have hsh : (x : Int) / 2 ^ (8 * k) = ((x / 256 ^ k : Nat) : Int) := by
      rw [show (256 : Nat) ^ k = 2 ^ (8 * k) by rw [Nat.pow_mul]]; simp
    have e1 : k = 8 → x / 256 ^ k = 0 := fun h => by subst h; exact Nat.div_eq_of_lt (Nat.lt_of_lt_of_eq hx (by decide))
    by_cases h0 : x / 256 ^ k = 0
    · have hn := Cod.nl_up 8 x k hk hpos
      rw [h0, Cod.nl_zero] at hn
      have HN : Hid (k = Cod.nlen x) := by show k = Cod.nl 8 x; omega
      have F := Lib.hid (fun w => fixed_any x k hx hk w)
      rw [h0] at hsh
      have hz : ((x : Int) / 2 ^ (8 * k) != 0) = false := by rw [hsh]; rfl
      have hwk : IntKind.u8.wrap (k : Int) = k := by simp only [IntKind.wrap, IntKind.bits, IntKind.signed]; simp; omega
      have hkk : ((k % 256 : Nat) : Int) = k := by omega
      have c1 : ∀ u : World, (u.alloc (.cells #[.int .u8 (k : Int)] 5)).cell? ⟨u.heap.size, 0, none⟩ = some (.int .u8 ((k % 256 : Nat) : Int)) := fun u => by rw [World.cell?_alloc_new, hkk]; rfl
      have hA := one_conv k (w.alloc (.cells #[.int .u8 (k : Int)] 5)).drew w.heap.size (c1 w)
      have hB := Lib.hid (fun u : World => one_conv k (u.alloc (.cells #[.int .u8 (k : Int)] 5)) u.heap.size (c1 u))
      have hC := Lib.hid (fun (u : World) (hb : Below (w.alloc (.cells #[.int .u8 (k : Int)] 5)).drew.heap.size (w.alloc (.cells #[.int .u8 (k : Int)] 5)).drew u) => one_conv k u w.heap.size ((hb.cell (p := ⟨w.heap.size, 0, none⟩) (by show w.heap.size < (w.alloc (.cells #[.int .u8 (k : Int)] 5)).heap.size; simp)).trans (c1 w)))
      clear c1 hkk
      have HE := Lib.hid (show str [UInt8.ofNat k] ++ str (Cod.beL k x) = str (Cod.num x) by unfold Cod.num; rw [← HN.out]; rfl)
      have hz1 : (str [UInt8.ofNat k]).size = 1 := rfl
      have hz2 : (str (Cod.beL k x)).size = k := Cod.beL_len k x
      clear hpos hn e1 h0
      generalize str [UInt8.ofNat k] = X at *
      generalize str (Cod.beL k x) = Y at *
      have k9 : ¬ 9223372036854775807 < 1 + k := by omega
      have W1 := Lib.hid (fun (u : World) (hb : Below (w.alloc (.cells #[.int .u8 (k : Int)] 5)).drew.heap.size (w.alloc (.cells #[.int .u8 (k : Int)] 5)).drew u) => (show Below w.heap.size w u from by
        have h1 : Below w.heap.size w (w.alloc (.cells #[.int .u8 (k : Int)] 5)).drew := ((Below.refl _ _).alloc (Nat.le_refl _) _).trans ⟨rfl, rfl, rfl, Nat.le_refl _, fun _ _ => rfl⟩
        exact h1.trans (hb.mono h1.size)))
      have W2 := Lib.hid (fun (u : World) (hb : Below w.drew.heap.size w.drew u) => (show Below w.heap.size w (u.alloc (.cells #[.int .u8 (k : Int)] 5)) from by
        have h1 : Below w.heap.size w w.drew := ⟨rfl, rfl, rfl, Nat.le_refl _, fun _ _ => rfl⟩
        have h2 := h1.trans (hb.mono h1.size)
        exact h2.alloc h2.size _))
      by_cases h8 : k < 8
      · have q8 : decide ((k : Int) < 8) = true := by simp; omega
        go_wp2
        go_region_with (go_at_call 42; refine (F.out _).mono ?_; rintro e w' ⟨rfl, hb⟩; have hB' := hB.out w'; try (have hC' := hC.out w' hb))
        all_goals
          go_wp2
          go_ret
          refine ⟨by rw [← HE.out]; rfl, ?_⟩
          first
            | exact W1.out _ hb
            | exact W2.out _ hb
      · have q8 : decide ((k : Int) < 8) = false := by simp; omega
        go_wp2
        go_region_with (go_at_call 42; refine (F.out _).mono ?_; rintro e w' ⟨rfl, hb⟩; have hB' := hB.out w'; try (have hC' := hC.out w' hb))
        all_goals
          go_wp2
          go_ret
          refine ⟨by rw [← HE.out]; rfl, ?_⟩
          first
            | exact W1.out _ hb
            | exact W2.out _ hb
    · have h8 : k < 8 := by
        by_cases h : k < 8
        · exact h
        · exact absurd (e1 (by omega)) h0
      have q8 : decide ((k : Int) < 8) = true := by simp; omega
      have hz : ((x : Int) / 2 ^ (8 * k) != 0) = true := by rw [hsh, bne_iff_ne]; exact Int.natCast_ne_zero.2 h0
      have HY := Lib.hid (Nat.pos_of_ne_zero h0)
      clear hpos e1 h0 hsh
      go_wp2
      go_round
      case rel => exact ⟨k + 1, by omega, by go_num, fun j hj => by
        by_cases e : j = k
        · subst e; exact HY.out
        · exact HP.out j (by omega)⟩
      case measure => simp [intOf]; omega

theorem rtextw_any (s : ByteArray) (hs : s.size ≤ 1099511627776) (w : World) :
    Calls Try.prog 32 #[.string s] w fun e w' => e = .returned (.string (str (Cod.text s.data.toList))) ∧ Below w.heap.size w w' := by
  have N := Lib.hid (rnumw_any s.size (by omega) w)
  have hz := num_size s.size
  have ht := text_str s
  generalize str (Cod.num s.size) = X at *
  generalize str (Cod.text s.data.toList) = Y at *
  go_enter Try.func32, Try.ntmps32
  go_wp2_with fail
  refine N.out.mono ?_
  rintro e w' ⟨rfl, hb⟩
  have k1 : X.size + s.size ≤ 9223372036854775807 := by omega
  go_wp2
  go_ret
  exact ⟨rfl, hb⟩
end Go.Proofs.Ytcaemfogknaioaa
