/- Walks: big, of both. -/
import Derived.Test.YtcaemfogknaioaaC1
namespace Go.Proofs.Ytcaemfogknaioaa
open Go.RowKit

theorem take_snoc (s : ByteArray) (k : Nat) (h : k < s.size) : s.data.toList.take (k + 1) = s.data.toList.take k ++ [s[k]] := by
  rw [List.take_succ_eq_append_getElem (by simpa using h)]; rfl
theorem take_all (s : ByteArray) : s.data.toList.take s.size = s.data.toList := List.take_of_length_le (by simp)
theorem big_take (s : ByteArray) (k : Nat) (h : k < s.size) : Cod.big (s.data.toList.take (k + 1)) = (Cod.big (s.data.toList.take k) * 256 + s[k].toNat) % 18446744073709551616 := by
  rw [take_snoc s k h, Cod.big_snoc]

theorem shl_or (x c : Nat) (hc : c < 2 ^ 8) : bits .or .u64 (IntKind.u64.wrap ((x : Int) * 256)) (c : Int) = (((x * 256 + c) % 18446744073709551616 : Nat) : Int) := by
  have h1 : IntKind.u64.wrap ((x : Int) * 256) = ((2 ^ 8 * (x % 72057594037927936) : Nat) : Int) := by
    simp only [IntKind.wrap, IntKind.bits, IntKind.signed]
    simp
    omega
  rw [h1, u64_or_nat _ _ (by omega) (by omega), ← Nat.two_pow_add_eq_or_of_lt hc]
  congr 1
  omega

theorem big_any (s : ByteArray) (hs : s.size ≤ maxLen) (w : World) :
    Calls Try.prog 43 #[.string s] w fun e w' => e = .returned (.int .u64 (Cod.big s.data.toList : Nat)) ∧ w' = w := by
  unfold maxLen at hs
  go_enter Try.func43, Try.ntmps43
  go_wp2
  go_loop [3, 7] (fun x i => ∃ k : Nat, k ≤ s.size ∧ i = .int .i64 k ∧ x = .int .u64 (Cod.big (s.data.toList.take k) : Nat)) (fun _ i => s.size - (intOf i).toNat)
  case atStart => exact ⟨0, by omega, rfl, rfl⟩
  case round =>
    obtain ⟨k, hk, rfl, rfl⟩ := hrel
    have hb := Cod.big_lt (s.data.toList.take k)
    by_cases hlt : k < s.size
    · have HS := Lib.hid (big_take s k hlt)
      have hc := s[k].toNat_lt
      have HO := Lib.hid (shl_or (Cod.big (s.data.toList.take k)) s[k].toNat hc)
      generalize Cod.big (s.data.toList.take k) = x at *
      go_wp2
      go_round
      case rel => exact ⟨k + 1, by omega, by go_num, by rw [HS.out, HO.out]⟩
      case measure => simp [intOf]; omega
    · have hke : k = s.size := by omega
      subst hke
      rw [take_all] at *
      go_wp2
      go_ret
      exact ⟨rfl, rfl⟩
theorem rbig_any (s : ByteArray) (hs : s.size ≤ maxLen) (w : World) :
    Calls Try.prog 44 #[.string s] w fun e w' => e = .returned (.int .u64 (Cod.big s.data.toList : Nat)) ∧ w' = w := by
  unfold maxLen at hs
  go_enter Try.func44, Try.ntmps44
  go_wp2
  go_loop [3, 4] (fun x i => ∃ k : Nat, k ≤ s.size ∧ i = .int .i64 k ∧ x = .int .u64 (Cod.big (s.data.toList.take k) : Nat)) (fun _ i => s.size - (intOf i).toNat)
  case atStart => exact ⟨0, by omega, rfl, rfl⟩
  case round =>
    obtain ⟨k, hk, rfl, rfl⟩ := hrel
    have hb := Cod.big_lt (s.data.toList.take k)
    by_cases hlt : k < s.size
    · have HS := Lib.hid (big_take s k hlt)
      have hc := s[k].toNat_lt
      have HO := Lib.hid (shl_or (Cod.big (s.data.toList.take k)) s[k].toNat hc)
      generalize Cod.big (s.data.toList.take k) = x at *
      go_wp2
      go_round
      case rel => exact ⟨k + 1, by omega, by go_num, by rw [HS.out, HO.out]⟩
      case measure => simp [intOf]; omega
    · have hke : k = s.size := by omega
      subst hke
      rw [take_all] at *
      go_wp2
      go_ret
      exact ⟨rfl, rfl⟩

/-- Bytes as a string. -/
abbrev str (l : List UInt8) : ByteArray := ⟨l.toArray⟩
theorem str_self (s : ByteArray) : str s.data.toList = s := by simp [str]
theorem str_extract (s : ByteArray) (a b : Nat) : s.extract a b = str ((s.data.toList.drop a).take (b - a)) := by
  apply ByteArray.ext
  apply Array.ext'
  simp [str, ByteArray.data_extract, Array.toList_extract]
theorem len_list (s : ByteArray) : s.data.toList.length = s.size := by simp
theorem bytes_isEmpty (s : ByteArray) : s.toList.isEmpty = decide (s.size = 0) := by
  rw [ByteArray.toList_eq]
  obtain ⟨⟨l⟩⟩ := s
  cases l <;> simp [ByteArray.size]
theorem list_cons (s : ByteArray) (h : 0 < s.size) : ∃ r, s.data.toList = s[0] :: r ∧ r.length + 1 = s.size ∧ s.data.toList.drop 1 = r := by
  obtain ⟨⟨l⟩⟩ := s
  cases l with
  | nil => simp [ByteArray.size] at h
  | cons c r => exact ⟨r, rfl, rfl, rfl⟩
theorem list_head (s : ByteArray) (h : 1 < s.size) {r : List UInt8} (hr : s.data.toList.drop 1 = r) : r.head? = some s[1] := by
  subst hr
  rw [List.head?_drop, List.getElem?_eq_getElem (by simpa using h)]
  rfl

/-- What ReadNum says, as values. -/
def rnumV (l : List UInt8) : Value := .tuple #[.int .u64 ((Cod.rnum l).1 : Nat), .string (str (Cod.rnum l).2.1), .int .i64 ((Cod.rnum l).2.2 : Nat)]
theorem rnum_nil (s : ByteArray) (h : s.size = 0) : rnumV s.data.toList = .tuple #[.int .u64 0, .string ⟨#[]⟩, .int .i64 20] := by
  have : s.data.toList = [] := List.eq_nil_of_length_eq_zero (by simpa using h)
  rw [this]
  rfl
theorem rnum_big (s : ByteArray) (h : 0 < s.size) (hc : 8 < s[0].toNat) : rnumV s.data.toList = .tuple #[.int .u64 0, .string ⟨#[]⟩, .int .i64 21] := by
  obtain ⟨r, h1, h2, h3⟩ := list_cons s h
  rw [h1]
  simp [rnumV, Cod.rnum, hc, str]
theorem rnum_short (s : ByteArray) (h : 0 < s.size) (hc : ¬ 8 < s[0].toNat) (hl : s.size < 1 + s[0].toNat) : rnumV s.data.toList = .tuple #[.int .u64 0, .string ⟨#[]⟩, .int .i64 20] := by
  obtain ⟨r, h1, h2, h3⟩ := list_cons s h
  rw [h1]
  have h4 : r.length < s[0].toNat := by omega
  simp [rnumV, Cod.rnum, hc, str, h4]
theorem rnum_form (s : ByteArray) (h : 1 < s.size) (hc : ¬ 8 < s[0].toNat) (hl : ¬ s.size < 1 + s[0].toNat) (hp : 0 < s[0].toNat) (hz : s[1].toNat = 0) : rnumV s.data.toList = .tuple #[.int .u64 0, .string ⟨#[]⟩, .int .i64 21] := by
  obtain ⟨r, h1, h2, h3⟩ := list_cons s (by omega)
  have h5 := list_head s h h3
  have h6 : s[1] = 0 := UInt8.toNat_inj.1 (by rw [hz]; rfl)
  rw [h1]
  have h4 : ¬ r.length < s[0].toNat := by omega
  simp [rnumV, Cod.rnum, hc, str, h4, h5, hp, h6]
theorem rnum_ok (s : ByteArray) (h : 0 < s.size) (hc : ¬ 8 < s[0].toNat) (hl : ¬ s.size < 1 + s[0].toNat) (hz : ∀ h1 : 1 < s.size, 0 < s[0].toNat → s[1].toNat ≠ 0) :
    rnumV s.data.toList = .tuple #[.int .u64 (Cod.big (s.extract 1 (1 + s[0].toNat)).data.toList : Nat), .string (s.extract (1 + s[0].toNat) s.size), .int .i64 0] := by
  obtain ⟨r, h1, h2, h3⟩ := list_cons s h
  have h4 : ¬ r.length < s[0].toNat := by omega
  have h5 : ¬ (0 < s[0].toNat ∧ r.head? = some 0) := by
    rintro ⟨ha, hb⟩
    have hs : 1 < s.size := by omega
    rw [list_head s hs h3] at hb
    simp only [Option.some.injEq] at hb
    exact hz hs ha (by rw [hb]; rfl)
  have e1 : s.extract 1 (1 + s[0].toNat) = str (r.take s[0].toNat) := by rw [str_extract, h3]; congr 2; congr 1; omega
  have e2 : s.extract (1 + s[0].toNat) s.size = str (r.drop s[0].toNat) := by
    rw [str_extract, ← List.drop_drop, h3, List.take_of_length_le (by rw [List.length_drop]; omega)]
  rw [e1, e2, h1]
  simp [rnumV, Cod.rnum, hc, str, h4, h5]
end Go.Proofs.Ytcaemfogknaioaa
