/- Walks: Text, of both. -/
import Derived.Test.YtgibkalcfdgklaaW3
namespace Go.Proofs.Ytgibkalcfdgklaa
open Go.RowKit

def B (c : UInt8) : Value := Value.int .u8 (c.toNat : Int)
def tcells (n k : Nat) : Array Value := (List.replicate (8 - k) (Value.int .u8 0) ++ (Crc.hexes k n).map B).toArray

theorem tcells_get (n k : Nat) (h : k < 8) : (tcells n k)[7 - k]? = some (Value.int .u8 0) := by
  unfold tcells
  rw [List.getElem?_toArray, List.getElem?_append_left (by simp; omega)]
  simp [List.getElem?_replicate]; omega

theorem tcells_set (n k : Nat) (h : k < 8) (v : UInt8) (hv : v = Crc.hex (n / 16 ^ k % 16)) : (tcells n k).setIfInBounds (7 - k) (B v) = tcells n (k + 1) := by
  unfold tcells
  apply Array.ext'
  simp only [Array.toList_setIfInBounds]
  rw [List.set_append_left _ _ (by simp; omega), Crc.hexes_front, hv]
  rw [show 8 - k = (7 - k) + 1 by omega, List.replicate_succ', List.set_append_right _ _ (by simp)]
  simp [show 8 - (k + 1) = 7 - k by omega]

theorem tcells_last (n j : Nat) (h : j < 8) : (tcells n 8)[j]? = some (B ((Crc.hexes 8 n)[j]'(by rw [Crc.hexes_len]; exact h))) := by
  unfold tcells
  have hj : j < (Crc.hexes 8 n).length := by rw [Crc.hexes_len]; exact h
  simp [List.getElem?_eq_getElem hj]

theorem and15 (x : Nat) (hx : x < 4294967296) : bits .and .u32 (x : Int) 15 = ((x % 16 : Nat) : Int) := by
  have := u32_and_nat x 15 hx (by decide)
  rw [show (15 : Nat) = 2 ^ 4 - 1 from rfl, Nat.and_two_pow_sub_one_eq_mod] at this
  exact this

def letters : ByteArray := ⟨#[48, 49, 50, 51, 52, 53, 54, 55, 56, 57, 97, 98, 99, 100, 101, 102]⟩
theorem letters_get (d : Nat) (h : d < 16) (h' : d < letters.size) : letters[d] = Crc.hex d := by
  have : ∀ (d : Fin 16), letters[d.val]'(by exact d.isLt) = Crc.hex d.val := by decide
  exact this ⟨d, h⟩

set_option maxHeartbeats 400000 in
theorem text_any (n : Nat) (hn : n < 4294967296) (w : World) :
    Calls Try.prog 15 #[.int .u32 n] w fun e w' => e = .returned (.string ⟨(Crc.hexes 8 n).toArray⟩) ∧ Below w.heap.size w w' := by
  go_enter Try.func15, Try.ntmps15
  go_wp2
  go_loopw [0, 5] (fun r i wr => ∃ k : Nat, k ≤ 8 ∧ i = .int .i64 k ∧ r = .int .u32 (n / 16 ^ k : Nat) ∧ wr = w.alloc (.cells (tcells n k) 44)) (fun _ i _ => 8 - (intOf i).toNat)
  case atStart => exact ⟨0, by omega, rfl, by simp, by simp [tcells, Crc.hexes, List.replicate]⟩
  case round =>
    obtain ⟨k, hk, rfl, rfl, rfl⟩ := hrel
    have hx : n / 16 ^ k < 4294967296 := Nat.lt_of_le_of_lt (Nat.div_le_self _ _) hn
    have HX := Lib.hid (rfl : n / 16 ^ k = n / 16 ^ k)
    generalize hxx : n / 16 ^ k = x at hx ⊢
    have HY := Lib.hid hxx
    clear hxx
    have ha := and15 x hx
    by_cases hlt : k < 8
    · have hc := tcells_get n k hlt
      have hm : x % 16 < 16 := Nat.mod_lt _ (by decide)
      have HS := Lib.hid (tcells_set n k hlt _ (congrArg (fun y => Crc.hex (y % 16)) HY.out.symm))
      go_wp2
      go_roundw
      case rel =>
        refine ⟨k + 1, by omega, by go_num, ?_, ?_⟩
        · rw [Nat.pow_succ, ← Nat.div_div_eq_div_mul, HY.out]; rfl
        · rw [← HS.out]; congr 4; rw [← letters_get _ hm hm]; rfl
      case measure => simp [intOf]; omega
    · have : k = 8 := by omega
      subst this
      have hcv := run_convert_bytes_back (P := Try.prog) (w.alloc (.cells (tcells n 8) 44)) 33 9 5 ⟨w.heap.size, 0, none⟩ 8 (Crc.hexes 8 n) Try.underlying33 Try.underlying5 Try.underlying9 (fun j hj => by
        have h8 : j < 8 := by simpa [Crc.hexes_len] using hj
        have := tcells_last n j h8
        simpa [Addr.add, B] using (by
          by_cases h0 : j = 0
          · subst h0; simpa [Addr.add, World.cell?_alloc_new, B] using this
          · simpa [Addr.add, h0, World.cell?_alloc_new, B] using this))
      rw [Crc.hexes_len] at hcv
      go_wp2
      go_ret
      exact ⟨rfl, (Below.refl _ _).alloc (Nat.le_refl _) _⟩
theorem and15' (x : Nat) (hx : x < 18446744073709551616) : bits .and .u64 (x : Int) 15 = ((x % 16 : Nat) : Int) := by
  have := u64_and_nat x 15 hx (by decide)
  rw [show (15 : Nat) = 2 ^ 4 - 1 from rfl, Nat.and_two_pow_sub_one_eq_mod] at this
  exact this

theorem letters_cut (d : Nat) (h : d < 16) : letters.extract d (d + 1) = ⟨#[Crc.hex d]⟩ := by
  have : ∀ (d : Fin 16), letters.extract d.val (d.val + 1) = ⟨#[Crc.hex d.val]⟩ := by decide
  exact this ⟨d, h⟩
theorem letters_ahead (d : Nat) (h : d < 16) (l : List UInt8) : letters.extract d (d + 1) ++ ⟨l.toArray⟩ = ⟨(Crc.hex d :: l).toArray⟩ := by
  rw [letters_cut d h]
  apply ByteArray.ext
  simp [ByteArray.data_append]

set_option maxHeartbeats 400000 in
theorem hex_any (n : Nat) (hn : n < 4294967296) (w : World) :
    Calls Try.prog 24 #[.int .u64 n, .int .i64 8] w fun e w' => e = .returned (.string ⟨(Crc.hexes 8 n).toArray⟩) ∧ w = w' := by
  go_enter Try.func24, Try.ntmps24
  go_wp2
  go_loop [5, 0, 6] (fun s r i => ∃ k : Nat, k ≤ 8 ∧ i = .int .i64 k ∧ r = .int .u64 (n / 16 ^ k : Nat) ∧ s = .string ⟨(Crc.hexes k n).toArray⟩) (fun _ _ i => 8 - (intOf i).toNat)
  case atStart => exact ⟨0, by omega, rfl, by simp, rfl⟩
  case round =>
    obtain ⟨k, hk, rfl, rfl, rfl⟩ := hrel
    have hx : n / 16 ^ k < 4294967296 := Nat.lt_of_le_of_lt (Nat.div_le_self _ _) hn
    generalize hxx : n / 16 ^ k = x at hx ⊢
    have HY := Lib.hid hxx
    have HF := Lib.hid (Crc.hexes_front k n)
    have hln := Crc.hexes_len k n
    have HL := Lib.hid hln
    have HM := Lib.hid (rfl : Crc.hexes k n = Crc.hexes k n)
    have hll : (Crc.hexes k n).length ≤ 8 := by rw [hln]; exact hk
    clear hxx hln
    generalize hg : Crc.hexes k n = l at hll HL HF ⊢
    replace HM := Lib.hid hg
    clear hg
    have ha := and15' x (by omega)
    by_cases hlt : k < 8
    · have hm : x % 16 < 16 := Nat.mod_lt _ (by decide)
      go_wp2
      go_round
      case rel =>
        refine ⟨k + 1, by omega, by go_num, ?_, ?_⟩
        · rw [Nat.pow_succ, ← Nat.div_div_eq_div_mul, HY.out]; rfl
        · rw [HF.out, HY.out, ← letters_ahead _ hm]; rfl
      case measure => simp [intOf]; omega
    · have hk8 : k = 8 := by omega
      have HZ : Hid (Crc.hexes 8 n = l) := by rw [← hk8]; exact HM.out
      clear hk8
      go_wp2
      go_ret
      exact ⟨by rw [HZ.out]; rfl, rfl⟩

theorem rtext_any (n : Nat) (hn : n < 4294967296) (w : World) :
    Calls Try.prog 16 #[.int .u32 n] w fun e w' => e = .returned (.string ⟨(Crc.hexes 8 n).toArray⟩) ∧ w = w' := by
  go_enter Try.func16, Try.ntmps16
  go_wp2_with (go_at_call 24; refine (hex_any n hn _).mono ?_; rintro e w' ⟨rfl, rfl⟩)
  go_ret
  exact ⟨rfl, rfl⟩

theorem of_digits (w : World) : Calls Try.prog 8 #[.string ⟨#[49, 50, 51, 52, 53, 54, 55, 56, 57]⟩] w fun e w' => e = .returned (.int .u32 3421780262) ∧ w = w' := by
  have h1 : Crc.more 0 [49, 50, 51, 52, 53, 54, 55, 56, 57] = 3421780262 := by decide +kernel
  refine (of_any _ (by decide) w).mono ?_
  rintro e w' ⟨rfl, rfl⟩
  exact ⟨ret_int (by rw [h1]; rfl), rfl⟩
theorem of_none (w : World) : Calls Try.prog 8 #[.string ⟨#[]⟩] w fun e w' => e = .returned (.int .u32 0) ∧ w = w' := by
  have h1 : Crc.more 0 [] = 0 := by decide
  refine (of_any _ (by decide) w).mono ?_
  rintro e w' ⟨rfl, rfl⟩
  exact ⟨ret_int (by rw [h1]; rfl), rfl⟩
theorem text_one (w : World) : Calls Try.prog 15 #[.int .u32 1] w fun e w' => e = .returned (.string ⟨#[48, 48, 48, 48, 48, 48, 48, 49]⟩) ∧ Below w.heap.size w w' := by
  have h3 : Crc.hexes 8 1 = [48, 48, 48, 48, 48, 48, 48, 49] := by decide
  refine (text_any 1 (by decide) w).mono ?_
  rintro e w' ⟨rfl, h⟩
  exact ⟨by rw [h3], h⟩
theorem read_one (w : World) : Calls Try.prog 13 #[.string ⟨#[49]⟩] w fun e w' => e = .returned (.tuple #[.int .u32 0, .int .i64 2]) ∧ w = w' := by
  have h4 : Crc.rdErr [49] = 2 := by decide
  have h5 : Crc.rdVal [49] = 0 := by decide
  refine (read_any _ (by decide) w).mono ?_
  rintro e w' ⟨rfl, rfl⟩
  exact ⟨ret2_int (by rw [h5]; rfl) (by rw [h4]; rfl), rfl⟩

/-- What the document fixes. -/
theorem alive_any (w : World) : Calls Try.prog 12 #[] w fun e w' => e = .returned (.bool true) ∧ Below w.heap.size w w' := by
  go_enter Try.func12, Try.ntmps12
  go_wp2_with fail
  refine (read_one _).mono ?_
  rintro e w' ⟨rfl, rfl⟩
  go_wp2_with fail
  refine (of_digits _).mono ?_
  rintro e w' ⟨rfl, rfl⟩
  go_wp2_with fail
  refine (of_none _).mono ?_
  rintro e w' ⟨rfl, rfl⟩
  go_wp2_with fail
  refine (text_one _).mono ?_
  rintro e w' ⟨rfl, hb⟩
  go_wp2_with fail
  go_ret
  exact ⟨rfl, hb⟩
end Go.Proofs.Ytgibkalcfdgklaa
