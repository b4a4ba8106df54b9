/- Walks: Num. -/
import Derived.Test.YtgmmglmokkcgeaaRows
import Derived.Test.YtgmmglmokkcgeaaCod
import Derived.WalkSpells
import Derived.WalkLawsBesides
import Derived.Lib.Hide
import Derived.BigQuiet
import Derived.OwnWalk
import Derived.Deep.RegionWith
namespace Go.Proofs.Ytgmmglmokkcgeaa
open Go.RowKit

def B (c : UInt8) : Value := Value.int .u8 (c.toNat : Int)
theorem str_size (l : List UInt8) : (⟨l.toArray⟩ : ByteArray).size = l.length := rfl
theorem B_ofNat (x : Nat) : B (UInt8.ofNat x) = Value.int .u8 ((x % 256 : Nat) : Int) := by simp [B]

/-- The array of Num, j bytes of n written. -/
def numA (n j x : Nat) : Array Value := (B (UInt8.ofNat n) :: (List.replicate (n - j) (Value.int .u8 0) ++ (Cod.beL j x).map B ++ List.replicate (8 - n) (Value.int .u8 0))).toArray
theorem numA_size (n j x : Nat) (hn : n ≤ 8) (hj : j ≤ n) : (numA n j x).size = 9 := by simp [numA, Cod.beL_len]; omega
theorem numA_get (n j x : Nat) (h : j < n) : (numA n j x)[n - j]? = some (Value.int .u8 0) := by
  unfold numA
  rw [List.getElem?_toArray, show n - j = (n - j - 1) + 1 by omega, List.getElem?_cons_succ, List.append_assoc, List.getElem?_append_left (by simp), List.getElem?_replicate, if_pos (by omega)]
theorem numA_set (n j x : Nat) (h : j < n) (v : UInt8) (hv : v = UInt8.ofNat (x / 256 ^ j)) : (numA n j x).setIfInBounds (n - j) (B v) = numA n (j + 1) x := by
  unfold numA
  apply Array.ext'
  simp only [Array.toList_setIfInBounds]
  rw [show n - j = (n - (j + 1)) + 1 by omega, List.set_cons_succ, List.append_assoc, List.set_append_left _ _ (by simp), Cod.beL_front, hv]
  rw [List.replicate_succ', List.set_append_right _ _ (by simp)]
  simp
theorem numA_done (n x i : Nat) (hi : i < n + 1) : (numA n n x)[i]? = ((UInt8.ofNat n :: Cod.beL n x)[i]?).map B := by
  unfold numA
  simp only [Nat.sub_self, List.replicate_zero, List.nil_append, List.getElem?_toArray]
  cases i with
  | zero => simp
  | succ i =>
    rw [List.getElem?_cons_succ, List.getElem?_cons_succ, List.getElem?_append_left (by simp [Cod.beL_len]; omega), List.getElem?_map]

theorem num_conv (w : World) (j x : Nat) (hk : j ≤ 8) (hn : j = Cod.nlen x) : (convert 81 9 (.slice (some ⟨w.heap.size, 0, none⟩) (j + 1) 9)).run Try.prog (w.alloc (.cells (numA j j x) 119)) = .ok (.string ⟨(Cod.num x).toArray⟩) (w.alloc (.cells (numA j j x) 119)) := by
  have hl : (Cod.num x).length = j + 1 := by rw [Cod.num_len, hn]
  rw [← hl]
  refine run_convert_bytes_back (P := Try.prog) _ 81 9 5 ⟨w.heap.size, 0, none⟩ 9 (Cod.num x) Try.underlying81 Try.underlying5 Try.underlying9 (fun i hi => ?_)
  have hd := numA_done j x i (by rw [hl] at hi; exact hi)
  have hnum : Cod.num x = UInt8.ofNat j :: Cod.beL j x := by unfold Cod.num; rw [← hn]
  have hc : (w.alloc (.cells (numA j j x) 119)).cell? ⟨w.heap.size, i, none⟩ = some (B (Cod.num x)[i]) := by
    rw [World.cell?_alloc_new, hd, ← hnum, List.getElem?_eq_getElem hi]; rfl
  by_cases h0 : i = 0
  · subst h0; exact hc
  · simpa [Addr.add, h0, B] using hc

set_option maxRecDepth 100000 in
set_option maxHeartbeats 1000000 in
theorem num_any (x : Nat) (hx : x < 18446744073709551616) (w : World) :
    Calls Try.prog 63 #[.int .u64 x] w fun e w' => e = .returned (.string ⟨(Cod.num x).toArray⟩) ∧ Below w.heap.size w w' := by
  go_enter Try.func63, Try.ntmps63
  go_wp2
  go_loop [4, 5] (fun n y => ∃ k : Nat, k ≤ 8 ∧ n = .int .i64 k ∧ y = .int .u64 (x / 256 ^ k : Nat) ∧ ∀ j, j < k → 0 < x / 256 ^ j) (fun n _ => 8 - (intOf n).toNat)
  case atStart => exact ⟨0, by omega, rfl, by simp, fun j hj => by omega⟩
  case round =>
    obtain ⟨k, hk, rfl, rfl, hpos⟩ := hrel
    have HP := Lib.hid hpos
    have e1 : x / 256 ^ (k + 1) = x / 256 ^ k / 256 := by rw [Nat.pow_succ, Nat.div_div_eq_div_mul]
    by_cases h0 : x / 256 ^ k = 0
    · have hn := Cod.nl_up 8 x k hk hpos
      rw [h0, Cod.nl_zero] at hn
      have HN : Hid (k = Cod.nlen x) := by show k = Cod.nl 8 x; omega
      have hmod : ((k : Int) % 256) = (k : Int) := by omega
      clear hpos hn e1
      rw [h0]
      clear h0
      go_wp2
      go_loopw [0, 6] (fun x' i wr => ∃ j : Nat, j ≤ k ∧ x' = .int .u64 (x / 256 ^ j : Nat) ∧ i = .int .i64 ((k - j : Nat) : Int) ∧ wr = w.alloc (.cells (numA k j x) 119)) (fun _ i _ => (intOf i).toNat)
      case atStart =>
        refine ⟨0, by omega, by simp, by simp, ?_⟩
        unfold numA
        rw [B_ofNat, show k % 256 = k by omega]
        match k, hk with
        | 0, _ | 1, _ | 2, _ | 3, _ | 4, _ | 5, _ | 6, _ | 7, _ | 8, _ => rfl
      case round =>
        obtain ⟨j, hj, rfl, rfl, rfl⟩ := hrel
        by_cases hlt : j < k
        · have hg := numA_get k j x hlt
          have hxj : x / 256 ^ j < 18446744073709551616 := Nat.lt_of_le_of_lt (Nat.div_le_self _ _) hx
          have HS := Lib.hid (numA_set k j x hlt _ rfl)
          have HD := Lib.hid (show x / 256 ^ (j + 1) = x / 256 ^ j / 256 by rw [Nat.pow_succ, Nat.div_div_eq_div_mul])
          have HB := Lib.hid (B_ofNat (x / 256 ^ j))
          generalize x / 256 ^ j = y at *
          obtain ⟨i, hi⟩ : ∃ i, k - j = i := ⟨_, rfl⟩
          have hi2 : 0 < i := by omega
          have hi3 : i ≤ 8 := by omega
          have HI := Lib.hid (show k - (j + 1) = i - 1 by omega)
          rw [hi] at hg HS
          rw [hi]
          have hd : decide ((0 : Int) < (i : Int)) = true := by simp; omega
          clear hi
          go_wp2
          go_roundw
          case rel =>
            refine ⟨j + 1, by omega, by rw [HD.out]; rfl, by rw [HI.out]; go_num, ?_⟩
            rw [← HS.out, HB.out]; rfl
          case measure => simp [intOf]; omega
        · have hjk : j = k := by omega
          subst hjk
          have hcv := num_conv w j x hk HN.out
          have hsz := numA_size j j x hk (Nat.le_refl _)
          simp only [Nat.sub_self]
          have hsl : ∀ v, (Instr.sliceAt 119 (.pointer (some ⟨w.heap.size, 0, none⟩)) none (some (.int .i64 ((j : Int) + 1))) none).run Try.prog v = .ok (.slice (some ⟨w.heap.size, 0, none⟩) (j + 1) 9) v := by
            intro v
            rw [run_sliceAt_array_h v 119 _ Try.underlying119 .i64 _ (by omega) (by rw [show Try.prog.arrayLen 119 = 9 from by kernel_rfl]; omega)]
            rw [show Try.prog.elem 119 = 5 from by kernel_rfl, Try.sizeOf5, show Try.prog.arrayLen 119 = 9 from by kernel_rfl]
            simp [slicedAt, Addr.add]
          go_wp2
          go_ret
          exact ⟨rfl, (Below.refl _ _).alloc (Nat.le_refl _) _⟩
    · have hne : (((x / 256 ^ k : Nat) : Int) != 0) = true := by rw [bne_iff_ne]; omega
      have hk8 : k < 8 := by
        by_cases h : k < 8
        · exact h
        · exfalso
          have : k = 8 := by omega
          subst this
          exact h0 (Nat.div_eq_of_lt (Nat.lt_of_lt_of_eq hx (by decide)))
      generalize hy : x / 256 ^ k = y at *
      have HY := Lib.hid hy
      have HE := Lib.hid e1
      have hyp : 0 < y := by omega
      clear hpos hy e1 h0
      go_wp2
      go_round
      case rel => exact ⟨k + 1, by omega, by go_num, by rw [HE.out]; rfl, fun j hj => by
        by_cases e : j = k
        · subst e; rw [HY.out]; exact hyp
        · exact HP.out j (by omega)⟩
      case measure => simp [intOf]; omega
end Go.Proofs.Ytgmmglmokkcgeaa
/- Walks: big, of both. -/
namespace Go.Proofs.Ytgmmglmokkcgeaa
open Go.RowKit

theorem take_snoc (s : ByteArray) (k : Nat) (h : k < s.size) : s.data.toList.take (k + 1) = s.data.toList.take k ++ [s[k]] := by
  rw [List.take_succ_eq_append_getElem (by simpa using h)]; rfl
theorem take_all (s : ByteArray) : s.data.toList.take s.size = s.data.toList := List.take_of_length_le (by simp)
theorem big_take (s : ByteArray) (k : Nat) (h : k < s.size) : Cod.big (s.data.toList.take (k + 1)) = (Cod.big (s.data.toList.take k) * 256 + s[k].toNat) % 18446744073709551616 := by
  rw [take_snoc s k h, Cod.big_snoc]

theorem shl_or (x c : Nat) (hc : c < 2 ^ 8) : bits .or .u64 (IntKind.u64.wrap ((x : Int) * 256)) (c : Int) = (((x * 256 + c) % 18446744073709551616 : Nat) : Int) := by
  have h1 : IntKind.u64.wrap ((x : Int) * 256) = ((2 ^ 8 * (x % 72057594037927936) : Nat) : Int) := by
    simp only [IntKind.wrap, IntKind.bits, IntKind.signed]
    simp
    omega
  rw [h1, u64_or_nat _ _ (by omega) (by omega), ← Nat.two_pow_add_eq_or_of_lt hc]
  congr 1
  omega

theorem big_any (s : ByteArray) (hs : s.size ≤ maxLen) (w : World) :
    Calls Try.prog 78 #[.string s] w fun e w' => e = .returned (.int .u64 (Cod.big s.data.toList : Nat)) ∧ w' = w := by
  unfold maxLen at hs
  go_enter Try.func78, Try.ntmps78
  go_wp2
  go_loop [3, 7] (fun x i => ∃ k : Nat, k ≤ s.size ∧ i = .int .i64 k ∧ x = .int .u64 (Cod.big (s.data.toList.take k) : Nat)) (fun _ i => s.size - (intOf i).toNat)
  case atStart => exact ⟨0, by omega, rfl, rfl⟩
  case round =>
    obtain ⟨k, hk, rfl, rfl⟩ := hrel
    have hb := Cod.big_lt (s.data.toList.take k)
    by_cases hlt : k < s.size
    · have HS := Lib.hid (big_take s k hlt)
      have hc := s[k].toNat_lt
      have HO := Lib.hid (shl_or (Cod.big (s.data.toList.take k)) s[k].toNat hc)
      generalize Cod.big (s.data.toList.take k) = x at *
      go_wp2
      go_round
      case rel => exact ⟨k + 1, by omega, by go_num, by rw [HS.out, HO.out]⟩
      case measure => simp [intOf]; omega
    · have hke : k = s.size := by omega
      subst hke
      rw [take_all] at *
      go_wp2
      go_ret
      exact ⟨rfl, rfl⟩
theorem rbig_any (s : ByteArray) (hs : s.size ≤ maxLen) (w : World) :
    Calls Try.prog 79 #[.string s] w fun e w' => e = .returned (.int .u64 (Cod.big s.data.toList : Nat)) ∧ w' = w := by
  unfold maxLen at hs
  go_enter Try.func79, Try.ntmps79
  go_wp2
  go_loop [3, 4] (fun x i => ∃ k : Nat, k ≤ s.size ∧ i = .int .i64 k ∧ x = .int .u64 (Cod.big (s.data.toList.take k) : Nat)) (fun _ i => s.size - (intOf i).toNat)
  case atStart => exact ⟨0, by omega, rfl, rfl⟩
  case round =>
    obtain ⟨k, hk, rfl, rfl⟩ := hrel
    have hb := Cod.big_lt (s.data.toList.take k)
    by_cases hlt : k < s.size
    · have HS := Lib.hid (big_take s k hlt)
      have hc := s[k].toNat_lt
      have HO := Lib.hid (shl_or (Cod.big (s.data.toList.take k)) s[k].toNat hc)
      generalize Cod.big (s.data.toList.take k) = x at *
      go_wp2
      go_round
      case rel => exact ⟨k + 1, by omega, by go_num, by rw [HS.out, HO.out]⟩
      case measure => simp [intOf]; omega
    · have hke : k = s.size := by omega
      subst hke
      rw [take_all] at *
      go_wp2
      go_ret
      exact ⟨rfl, rfl⟩

/-- Bytes as a string. -/
abbrev str (l : List UInt8) : ByteArray := ⟨l.toArray⟩
theorem str_self (s : ByteArray) : str s.data.toList = s := by simp [str]
theorem str_extract (s : ByteArray) (a b : Nat) : s.extract a b = str ((s.data.toList.drop a).take (b - a)) := by
  apply ByteArray.ext
  apply Array.ext'
  simp [str, ByteArray.data_extract, Array.toList_extract]
theorem len_list (s : ByteArray) : s.data.toList.length = s.size := by simp
theorem bytes_isEmpty (s : ByteArray) : s.toList.isEmpty = decide (s.size = 0) := by
  rw [ByteArray.toList_eq]
  obtain ⟨⟨l⟩⟩ := s
  cases l <;> simp [ByteArray.size]
theorem list_cons (s : ByteArray) (h : 0 < s.size) : ∃ r, s.data.toList = s[0] :: r ∧ r.length + 1 = s.size ∧ s.data.toList.drop 1 = r := by
  obtain ⟨⟨l⟩⟩ := s
  cases l with
  | nil => simp [ByteArray.size] at h
  | cons c r => exact ⟨r, rfl, rfl, rfl⟩
theorem list_head (s : ByteArray) (h : 1 < s.size) {r : List UInt8} (hr : s.data.toList.drop 1 = r) : r.head? = some s[1] := by
  subst hr
  rw [List.head?_drop, List.getElem?_eq_getElem (by simpa using h)]
  rfl

/-- What ReadNum says, as values. -/
def rnumV (l : List UInt8) : Value := .tuple #[.int .u64 ((Cod.rnum l).1 : Nat), .string (str (Cod.rnum l).2.1), .int .i64 ((Cod.rnum l).2.2 : Nat)]
theorem rnum_nil (s : ByteArray) (h : s.size = 0) : rnumV s.data.toList = .tuple #[.int .u64 0, .string ⟨#[]⟩, .int .i64 20] := by
  have : s.data.toList = [] := List.eq_nil_of_length_eq_zero (by simpa using h)
  rw [this]
  rfl
theorem rnum_big (s : ByteArray) (h : 0 < s.size) (hc : 8 < s[0].toNat) : rnumV s.data.toList = .tuple #[.int .u64 0, .string ⟨#[]⟩, .int .i64 21] := by
  obtain ⟨r, h1, h2, h3⟩ := list_cons s h
  rw [h1]
  simp [rnumV, Cod.rnum, hc, str]
theorem rnum_short (s : ByteArray) (h : 0 < s.size) (hc : ¬ 8 < s[0].toNat) (hl : s.size < 1 + s[0].toNat) : rnumV s.data.toList = .tuple #[.int .u64 0, .string ⟨#[]⟩, .int .i64 20] := by
  obtain ⟨r, h1, h2, h3⟩ := list_cons s h
  rw [h1]
  have h4 : r.length < s[0].toNat := by omega
  simp [rnumV, Cod.rnum, hc, str, h4]
theorem rnum_form (s : ByteArray) (h : 1 < s.size) (hc : ¬ 8 < s[0].toNat) (hl : ¬ s.size < 1 + s[0].toNat) (hp : 0 < s[0].toNat) (hz : s[1].toNat = 0) : rnumV s.data.toList = .tuple #[.int .u64 0, .string ⟨#[]⟩, .int .i64 21] := by
  obtain ⟨r, h1, h2, h3⟩ := list_cons s (by omega)
  have h5 := list_head s h h3
  have h6 : s[1] = 0 := UInt8.toNat_inj.1 (by rw [hz]; rfl)
  rw [h1]
  have h4 : ¬ r.length < s[0].toNat := by omega
  simp [rnumV, Cod.rnum, hc, str, h4, h5, hp, h6]
theorem rnum_ok (s : ByteArray) (h : 0 < s.size) (hc : ¬ 8 < s[0].toNat) (hl : ¬ s.size < 1 + s[0].toNat) (hz : ∀ h1 : 1 < s.size, 0 < s[0].toNat → s[1].toNat ≠ 0) :
    rnumV s.data.toList = .tuple #[.int .u64 (Cod.big (s.extract 1 (1 + s[0].toNat)).data.toList : Nat), .string (s.extract (1 + s[0].toNat) s.size), .int .i64 0] := by
  obtain ⟨r, h1, h2, h3⟩ := list_cons s h
  have h4 : ¬ r.length < s[0].toNat := by omega
  have h5 : ¬ (0 < s[0].toNat ∧ r.head? = some 0) := by
    rintro ⟨ha, hb⟩
    have hs : 1 < s.size := by omega
    rw [list_head s hs h3] at hb
    simp only [Option.some.injEq] at hb
    exact hz hs ha (by rw [hb]; rfl)
  have e1 : s.extract 1 (1 + s[0].toNat) = str (r.take s[0].toNat) := by rw [str_extract, h3]; congr 2; congr 1; omega
  have e2 : s.extract (1 + s[0].toNat) s.size = str (r.drop s[0].toNat) := by
    rw [str_extract, ← List.drop_drop, h3, List.take_of_length_le (by rw [List.length_drop]; omega)]
  rw [e1, e2, h1]
  simp [rnumV, Cod.rnum, hc, str, h4, h5]
end Go.Proofs.Ytgmmglmokkcgeaa
/- Walks: ReadNum, of both. -/
namespace Go.Proofs.Ytgmmglmokkcgeaa
open Go.RowKit

theorem below_drewN (w : World) (n : Nat) : Below w.heap.size w (w.drewN n) := ⟨rfl, rfl, rfl, Nat.le_refl _, fun _ _ => rfl⟩

set_option maxRecDepth 100000 in
set_option maxHeartbeats 1000000 in
theorem readNum_any (s : ByteArray) (hs : s.size ≤ maxLen) (w : World) :
    Calls Try.prog 66 #[.string s] w fun e w' => e = .returned (rnumV s.data.toList) ∧ Below w.heap.size w w' := by
  unfold maxLen at hs
  have hq := bytes_isEmpty s
  by_cases h0 : s.size = 0
  · have hd : decide (s.size = 0) = true := by simpa using h0
    rw [hd] at hq
    rw [rnum_nil s h0]
    go_enter Try.func66, Try.ntmps66
    go_wp2
    go_ret3
    exact ⟨rfl, Below.refl _ _⟩
  · have hd : decide (s.size = 0) = false := by simpa using h0
    rw [hd] at hq
    clear hd
    have hp : 0 < s.size := by omega
    by_cases h8 : 8 < s[0].toNat
    · rw [rnum_big s hp h8]
      have q1 : decide ((8 : Int) < (s[0].toNat : Int)) = true := by simp; omega
      have q2 : decide (8 < s[0].toNat) = true := by simpa using h8
      go_enter Try.func66, Try.ntmps66
      go_wp2
      go_ret3
      exact ⟨rfl, Below.refl _ _⟩
    · have q1 : decide ((8 : Int) < (s[0].toNat : Int)) = false := by simp; omega
      have q2 : decide (8 < s[0].toNat) = false := by simpa using h8
      by_cases hl : s.size < 1 + s[0].toNat
      · rw [rnum_short s hp h8 hl]
        have q3 : decide ((s.size : Int) < 1 + (s[0].toNat : Int)) = true := by simp; omega
        go_enter Try.func66, Try.ntmps66
        go_wp2
        go_ret3
        exact ⟨rfl, Below.refl _ _⟩
      · have q3 : decide ((s.size : Int) < 1 + (s[0].toNat : Int)) = false := by simp; omega
        by_cases hc : 0 < s[0].toNat
        · have h1 : 1 < s.size := by omega
          have q4 : decide ((1 : Int) < 1 + (s[0].toNat : Int)) = true := by simp; omega
          by_cases hz : s[1].toNat = 0
          · rw [rnum_form s h1 h8 hl hc hz]
            have q5 : decide ((s[1].toNat : Int) = 0) = true := by simp; omega
            go_enter Try.func66, Try.ntmps66
            go_wp2
            go_ret3
            exact ⟨rfl, Below.refl _ _⟩
          · rw [rnum_ok s hp h8 hl (fun _ _ => hz)]
            have q5 : decide ((s[1].toNat : Int) = 0) = false := by simp; omega
            have hb := Lib.hid (fun m => big_any (s.extract 1 (1 + s[0].toNat)) (by rw [ByteArray.size_extract]; unfold maxLen; omega) (w.drewN m))
            go_enter Try.func66, Try.ntmps66
            go_wp2
            go_quiet (exact (hb.out _).mono (fun e w' h => ⟨h.1, _, h.2⟩))
            go_wp2
            go_ret3
            exact ⟨rfl, below_drewN _ _⟩
        · have h1 : s[0].toNat = 0 := by omega
          have q4 : decide ((1 : Int) < 1 + (s[0].toNat : Int)) = false := by simp; omega
          rw [rnum_ok s hp h8 hl (fun _ h => absurd h hc)]
          have hb := Lib.hid (fun m => big_any (s.extract 1 (1 + s[0].toNat)) (by rw [ByteArray.size_extract]; unfold maxLen; omega) (w.drewN m))
          have H1 := Lib.hid h1
          have h11 : 1 + s[0].toNat ≤ s.size := by omega
          clear h1 hl h8
          go_enter Try.func66, Try.ntmps66
          go_wp2
          go_quiet (exact (hb.out _).mono (fun e w' h => ⟨h.1, _, h.2⟩))
          go_wp2
          go_ret3
          exact ⟨rfl, below_drewN _ _⟩
set_option maxRecDepth 100000 in
set_option maxHeartbeats 1000000 in
theorem rreadNum_any (s : ByteArray) (hs : s.size ≤ maxLen) (w : World) :
    Calls Try.prog 68 #[.string s] w fun e w' => e = .returned (rnumV s.data.toList) ∧ Below w.heap.size w w' := by
  unfold maxLen at hs
  have hq := bytes_isEmpty s
  by_cases h0 : s.size = 0
  · have hd : decide (s.size = 0) = true := by simpa using h0
    rw [hd] at hq
    rw [rnum_nil s h0]
    go_enter Try.func68, Try.ntmps68
    go_wp2
    go_ret3
    exact ⟨rfl, Below.refl _ _⟩
  · have hd : decide (s.size = 0) = false := by simpa using h0
    rw [hd] at hq
    clear hd
    have hp : 0 < s.size := by omega
    have hc6 := s[0].toNat_lt
    have hw6 : wrap64 (s[0].toNat : Int) = s[0].toNat := by unfold wrap64; omega
    by_cases h8 : 8 < s[0].toNat
    · rw [rnum_big s hp h8]
      have q1 : decide ((8 : Int) < (s[0].toNat : Int)) = true := by simp; omega
      have q2 : decide (8 < s[0].toNat) = true := by simpa using h8
      go_enter Try.func68, Try.ntmps68
      go_wp2
      go_ret3
      exact ⟨rfl, Below.refl _ _⟩
    · have q1 : decide ((8 : Int) < (s[0].toNat : Int)) = false := by simp; omega
      have q2 : decide (8 < s[0].toNat) = false := by simpa using h8
      by_cases hl : s.size < 1 + s[0].toNat
      · rw [rnum_short s hp h8 hl]
        have q3 : decide ((s.size : Int) < 1 + (s[0].toNat : Int)) = true := by simp; omega
        go_enter Try.func68, Try.ntmps68
        go_wp2
        go_ret3
        exact ⟨rfl, Below.refl _ _⟩
      · have q3 : decide ((s.size : Int) < 1 + (s[0].toNat : Int)) = false := by simp; omega
        by_cases hc : 0 < s[0].toNat
        · have h1 : 1 < s.size := by omega
          have q4 : decide ((0 : Int) < (s[0].toNat : Int)) = true := by simp; omega
          by_cases hz : s[1].toNat = 0
          · rw [rnum_form s h1 h8 hl hc hz]
            have q5 : decide ((s[1].toNat : Int) = 0) = true := by simp; omega
            go_enter Try.func68, Try.ntmps68
            go_wp2
            go_ret3
            exact ⟨rfl, Below.refl _ _⟩
          · rw [rnum_ok s hp h8 hl (fun _ _ => hz)]
            have q5 : decide ((s[1].toNat : Int) = 0) = false := by simp; omega
            have hb := Lib.hid (fun m => rbig_any (s.extract 1 (1 + s[0].toNat)) (by rw [ByteArray.size_extract]; unfold maxLen; omega) (w.drewN m))
            go_enter Try.func68, Try.ntmps68
            go_wp2
            go_quiet (exact (hb.out _).mono (fun e w' h => ⟨h.1, _, h.2⟩))
            go_wp2
            go_ret3
            exact ⟨rfl, below_drewN _ _⟩
        · have h1 : s[0].toNat = 0 := by omega
          have q4 : decide ((0 : Int) < (s[0].toNat : Int)) = false := by simp; omega
          rw [rnum_ok s hp h8 hl (fun _ h => absurd h hc)]
          have hb := Lib.hid (fun m => rbig_any (s.extract 1 (1 + s[0].toNat)) (by rw [ByteArray.size_extract]; unfold maxLen; omega) (w.drewN m))
          have H1 := Lib.hid h1
          have h11 : 1 + s[0].toNat ≤ s.size := by omega
          clear h1 hl h8
          go_enter Try.func68, Try.ntmps68
          go_wp2
          go_quiet (exact (hb.out _).mono (fun e w' h => ⟨h.1, _, h.2⟩))
          go_wp2
          go_ret3
          exact ⟨rfl, below_drewN _ _⟩
end Go.Proofs.Ytgmmglmokkcgeaa
/- Walks: ReadText, Text, of both; the document's Fixed and Num. -/
namespace Go.Proofs.Ytgmmglmokkcgeaa
open Go.RowKit

theorem rnum_le (l : List UInt8) : (Cod.rnum l).2.1.length ≤ l.length := by
  cases l with
  | nil => exact Nat.le_refl _
  | cons c r =>
    unfold Cod.rnum
    simp only
    (repeat' split) <;> first | (simp; done) | (simp; omega)
theorem rnum_lt (l : List UInt8) : (Cod.rnum l).1 < 18446744073709551616 := by
  cases l with
  | nil => decide
  | cons c r =>
    unfold Cod.rnum
    simp only
    (repeat' split) <;> first | exact Cod.big_lt _ | decide
theorem rnum_code (l : List UInt8) : (Cod.rnum l).2.2 = 0 ∨ (Cod.rnum l).2.2 = 20 ∨ (Cod.rnum l).2.2 = 21 := by
  cases l with
  | nil => exact Or.inr (Or.inl rfl)
  | cons c r =>
    unfold Cod.rnum
    simp only
    (repeat' split) <;> simp

/-- What ReadText says, as values. -/
def rtextV (l : List UInt8) : Value := .tuple #[.string (str (Cod.rtext l).1), .string (str (Cod.rtext l).2.1), .int .i64 ((Cod.rtext l).2.2 : Nat)]

/-- What ReadNum hands back, by its three parts. -/
theorem rnum_parts (s : ByteArray) (hs : s.size ≤ maxLen) : ∃ (x : Nat) (R : ByteArray) (e : Nat), rnumV s.data.toList = .tuple #[.int .u64 x, .string R, .int .i64 e] ∧ x < 18446744073709551616 ∧ R.size ≤ s.size ∧ (e = 0 ∨ e = 20 ∨ e = 21) ∧
    Hid ((Cod.rnum s.data.toList).1 = x ∧ str (Cod.rnum s.data.toList).2.1 = R ∧ (Cod.rnum s.data.toList).2.2 = e) ∧
    (rtextV s.data.toList = if e ≠ 0 then .tuple #[.string ⟨#[]⟩, .string ⟨#[]⟩, .int .i64 e] else if R.size < x then .tuple #[.string ⟨#[]⟩, .string ⟨#[]⟩, .int .i64 20] else .tuple #[.string (R.extract 0 x), .string (R.extract x R.size), .int .i64 0]) := by
  refine ⟨_, _, _, rfl, rnum_lt _, ?_, rnum_code _, Lib.hid ⟨rfl, rfl, rfl⟩, ?_⟩
  · have := rnum_le s.data.toList
    rw [len_list] at this
    exact this
  · unfold rtextV Cod.rtext
    generalize Cod.rnum s.data.toList = q
    obtain ⟨x, r, e⟩ := q
    have hz : (str r).size = r.length := rfl
    have e1 : (str r).data.toList = r := rfl
    simp only [hz, str_extract, e1, List.drop_zero, Nat.sub_zero]
    by_cases h0 : e ≠ 0
    · simp only [if_pos h0]
    · by_cases h1 : r.length < x
      · simp only [if_neg h0, if_pos h1]; rfl
      · simp only [if_neg h0, if_neg h1]
        rw [List.take_of_length_le (l := List.drop x r) (by rw [List.length_drop]; exact Nat.le_refl _)]
        rfl

set_option maxRecDepth 100000 in
set_option maxHeartbeats 1000000 in
theorem readText_any (s : ByteArray) (hs : s.size ≤ maxLen) (w : World) :
    Calls Try.prog 67 #[.string s] w fun e w' => e = .returned (rtextV s.data.toList) ∧ Below w.heap.size w w' := by
  have N := Lib.hid (readNum_any s hs w)
  obtain ⟨x, R, e, h1, hx, hR, he, -, h2⟩ := rnum_parts s hs
  rw [h1] at N
  rw [h2]
  have hs' : R.size ≤ 9223372036854775807 := by unfold maxLen at hs; omega
  clear h1 h2 hR hs
  by_cases h0 : e = 0
  · subst h0
    rw [if_neg (by decide)]
    by_cases hl : R.size < x
    · rw [if_pos hl]
      have q1 : decide ((R.size : Int) < (x : Int)) = true := by simp; omega
      go_enter Try.func67, Try.ntmps67
      go_wp2_with fail
      refine N.out.mono ?_
      rintro e w' ⟨rfl, hb⟩
      go_wp2
      go_ret3
      exact ⟨rfl, hb⟩
    · rw [if_neg hl]
      have q1 : decide ((R.size : Int) < (x : Int)) = false := by simp; omega
      have hx2 : x ≤ R.size := by omega
      go_enter Try.func67, Try.ntmps67
      go_wp2_with fail
      refine N.out.mono ?_
      rintro e w' ⟨rfl, hb⟩
      go_wp2
      go_quiet (fail)
      go_wp2
      go_ret3
      exact ⟨rfl, hb.trans ((below_drewN _ _).mono hb.size)⟩
  · rw [if_pos h0]
    rcases he with rfl | rfl | rfl
    · exact absurd rfl h0
    all_goals
      go_enter Try.func67, Try.ntmps67
      go_wp2_with fail
      refine N.out.mono ?_
      rintro e w' ⟨rfl, hb⟩
      go_wp2
      go_ret3
      exact ⟨rfl, hb⟩
set_option maxRecDepth 100000 in
set_option maxHeartbeats 1000000 in
theorem rreadText_any (s : ByteArray) (hs : s.size ≤ maxLen) (w : World) :
    Calls Try.prog 69 #[.string s] w fun e w' => e = .returned (rtextV s.data.toList) ∧ Below w.heap.size w w' := by
  have N := Lib.hid (rreadNum_any s hs w)
  obtain ⟨x, R, e, h1, hx, hR, he, -, h2⟩ := rnum_parts s hs
  rw [h1] at N
  rw [h2]
  have hs' : R.size ≤ 9223372036854775807 := by unfold maxLen at hs; omega
  clear h1 h2 hR hs
  by_cases h0 : e = 0
  · subst h0
    rw [if_neg (by decide)]
    by_cases hl : R.size < x
    · rw [if_pos hl]
      have q1 : decide ((R.size : Int) < (x : Int)) = true := by simp; omega
      go_enter Try.func69, Try.ntmps69
      go_wp2_with fail
      refine N.out.mono ?_
      rintro e w' ⟨rfl, hb⟩
      go_wp2
      go_ret3
      exact ⟨rfl, hb⟩
    · rw [if_neg hl]
      have q1 : decide ((R.size : Int) < (x : Int)) = false := by simp; omega
      have hx2 : x ≤ R.size := by omega
      go_enter Try.func69, Try.ntmps69
      go_wp2_with fail
      refine N.out.mono ?_
      rintro e w' ⟨rfl, hb⟩
      go_wp2
      go_quiet (fail)
      go_wp2
      go_ret3
      exact ⟨rfl, hb.trans ((below_drewN _ _).mono hb.size)⟩
  · rw [if_pos h0]
    rcases he with rfl | rfl | rfl
    · exact absurd rfl h0
    all_goals
      go_enter Try.func69, Try.ntmps69
      go_wp2_with fail
      refine N.out.mono ?_
      rintro e w' ⟨rfl, hb⟩
      go_wp2
      go_ret3
      exact ⟨rfl, hb⟩

theorem text_str (s : ByteArray) : str (Cod.num s.size) ++ s = str (Cod.text s.data.toList) := by
  unfold Cod.text
  rw [len_list]
  apply ByteArray.ext
  apply Array.ext'
  simp [str, ByteArray.data_append]
theorem num_size (x : Nat) : (str (Cod.num x)).size ≤ 9 := by
  show (Cod.num x).length ≤ 9
  rw [Cod.num_len]
  have := Cod.nlen_le x
  omega

theorem text_any (s : ByteArray) (hs : s.size ≤ 1099511627776) (w : World) :
    Calls Try.prog 64 #[.string s] w fun e w' => e = .returned (.string (str (Cod.text s.data.toList))) ∧ Below w.heap.size w w' := by
  have N := Lib.hid (num_any s.size (by omega) w)
  have hz := num_size s.size
  have ht := text_str s
  change Hid (Calls Try.prog 63 #[.int .u64 s.size] w fun e w' => e = .returned (.string (str (Cod.num s.size))) ∧ Below w.heap.size w w') at N
  generalize str (Cod.num s.size) = X at *
  generalize str (Cod.text s.data.toList) = Y at *
  go_enter Try.func64, Try.ntmps64
  go_wp2_with fail
  refine N.out.mono ?_
  rintro e w' ⟨rfl, hb⟩
  have k1 : X.size + s.size ≤ 9223372036854775807 := by omega
  go_wp2
  go_ret
  exact ⟨rfl, hb⟩
end Go.Proofs.Ytgmmglmokkcgeaa
/- Walks: the document's Fixed and Num. -/
namespace Go.Proofs.Ytgmmglmokkcgeaa
open Go.RowKit

/-- The row of Fixed, j bytes of n written. -/
def fixA (n j x : Nat) : Array Value := (List.replicate (n - j) (Value.int .u8 0) ++ (Cod.beL j x).map B).toArray
theorem fixA_size (n j x : Nat) (hj : j ≤ n) : (fixA n j x).size = n := by simp [fixA, Cod.beL_len]; omega
theorem fixA_get (n j x : Nat) (h : j < n) : (fixA n j x)[n - 1 - j]? = some (Value.int .u8 0) := by
  unfold fixA
  rw [List.getElem?_toArray, List.getElem?_append_left (by simp; omega), List.getElem?_replicate, if_pos (by omega)]
theorem fixA_set (n j x : Nat) (h : j < n) (v : UInt8) (hv : v = UInt8.ofNat (x / 256 ^ j)) : (fixA n j x).setIfInBounds (n - 1 - j) (B v) = fixA n (j + 1) x := by
  unfold fixA
  apply Array.ext'
  simp only [Array.toList_setIfInBounds]
  rw [show n - j = (n - (j + 1)) + 1 by omega, List.replicate_succ', List.set_append_left _ _ (by simp; omega), Cod.beL_front, hv, show n - 1 - j = n - (j + 1) by omega, List.set_append_right _ _ (by simp)]
  simp
theorem fixA_done (n x : Nat) : fixA n n x = ((Cod.beL n x).map B).toArray := by simp [fixA]
theorem fixA_zero (n x : Nat) : fixA n 0 x = (List.replicate n (Value.int .u8 0)).toArray := by simp [fixA, Cod.beL]

theorem info5 : (Try.prog.info? 5).map (fun i => (i.zero, i.size, i.bytes)) = some (some (.int .u8 0), 1, 1) := by kernel_rfl
theorem fix_made (n : Nat) (x : Nat) : madeCells #[Value.int .u8 0] n = fixA n 0 x := by
  rw [fixA_zero]
  apply Array.ext
  · simp [madeCells]
  · intro i h1 h2
    simp [madeCells, Nat.mod_one]
theorem make_fix (n x : Nat) (hn : n ≤ 8) (v : World) : (Instr.makeSlice 81 (.int .i64 (n : Int)) (.int .i64 (n : Int))).run Try.prog v = .ok (.slice (some ⟨v.heap.size, 0, none⟩) n n) (v.alloc (.cells (fixA n 0 x) 5)) := by
  obtain ⟨i, hi, hzz⟩ := Option.map_eq_some_iff.1 info5
  simp only [Prod.mk.injEq] at hzz
  obtain ⟨hz, hs, hb⟩ := hzz
  rw [run_make v 81 5 i _ Try.underlying81 hi hz .i64 .i64 _ _ (by omega) (by omega) (by rw [hb]; omega) (by omega), hs]
  simp only [Int.toNat_natCast, Nat.mul_one]
  rw [show (Value.int .u8 0).cells = #[Value.int .u8 0] from rfl, fix_made n x]

theorem fix_conv (w : World) (n x : Nat) : (convert 81 9 (.slice (some ⟨w.heap.size, 0, none⟩) n n)).run Try.prog (w.alloc (.cells (fixA n n x) 5)) = .ok (.string (str (Cod.beL n x))) (w.alloc (.cells (fixA n n x) 5)) := by
  have hl := Cod.beL_len n x
  have := run_convert_bytes_back (P := Try.prog) (w.alloc (.cells (fixA n n x) 5)) 81 9 5 ⟨w.heap.size, 0, none⟩ n (Cod.beL n x) Try.underlying81 Try.underlying5 Try.underlying9 (fun i hi => by
    have hc : (w.alloc (.cells (fixA n n x) 5)).cell? ⟨w.heap.size, i, none⟩ = some (B (Cod.beL n x)[i]) := by
      rw [World.cell?_alloc_new, fixA_done, List.getElem?_toArray, List.getElem?_map, List.getElem?_eq_getElem hi]; rfl
    by_cases h0 : i = 0
    · subst h0; exact hc
    · simpa [Addr.add, h0, B] using hc)
  rw [hl] at this
  exact this

set_option maxRecDepth 100000 in
theorem fixed_any (x n : Nat) (hx : x < 18446744073709551616) (hn : n ≤ 8) (w : World) :
    Calls Try.prog 77 #[.int .u64 x, .int .i64 n] w fun e w' => e = .returned (.string (str (Cod.beL n x))) ∧ Below w.heap.size w w' := by
  have hmk := make_fix n x hn
  go_enter Try.func77, Try.ntmps77
  go_wp2
  go_loopw [6] (fun i wr => ∃ j : Nat, j ≤ n ∧ i = .int .i64 j ∧ wr = w.alloc (.cells (fixA n j x) 5)) (fun i _ => n - (intOf i).toNat)
  case atStart => exact ⟨0, by omega, rfl, rfl⟩
  case round =>
    obtain ⟨j, hj, rfl, rfl⟩ := hrel
    by_cases hlt : j < n
    · have hd : decide ((j : Int) < n) = true := by simp; omega
      have hg := fixA_get n j x hlt
      have HS := Lib.hid (fixA_set n j x hlt _ rfl)
      have HV := Lib.hid (show Value.int .u8 ((x : Int) / 2 ^ (8 * j) % 256) = B (UInt8.ofNat (x / 256 ^ j)) by
        rw [B_ofNat, show (256 : Nat) ^ j = 2 ^ (8 * j) by rw [Nat.pow_mul]]
        simp)
      go_wp2
      go_roundw
      case rel => exact ⟨j + 1, by omega, by go_num, by rw [← HS.out, ← HV.out]⟩
      case measure => simp [intOf]; omega
    · have hjn : j = n := by omega
      subst hjn
      have hd : decide ((j : Int) < j) = false := by simp
      have hcv := fix_conv w j x
      go_wp2
      go_ret
      exact ⟨rfl, (Below.refl _ _).alloc (Nat.le_refl _) _⟩

theorem one_conv (k : Nat) (v : World) (g : Nat) (h : v.cell? ⟨g, 0, none⟩ = some (.int .u8 ((k % 256 : Nat) : Int))) : (convert 81 9 (.slice (some ⟨g, 0, none⟩) 1 1)).run Try.prog v = .ok (.string (str [UInt8.ofNat k])) v := by
  have := run_convert_bytes_back (P := Try.prog) v 81 9 5 ⟨g, 0, none⟩ 1 [UInt8.ofNat k] Try.underlying81 Try.underlying5 Try.underlying9 (fun i hi => by
    have : i = 0 := by simpa using hi
    subst this
    rw [show ((⟨g, 0, none⟩ : Addr).add 0) = ⟨g, 0, none⟩ from rfl, h]
    simp)
  exact this

set_option maxRecDepth 100000 in
set_option maxHeartbeats 1000000 in
theorem rnumw_any (x : Nat) (hx : x < 18446744073709551616) (w : World) :
    Calls Try.prog 65 #[.int .u64 x] w fun e w' => e = .returned (.string (str (Cod.num x))) ∧ Below w.heap.size w w' := by
  go_enter Try.func65, Try.ntmps65
  go_wp2
  go_loop [3] (fun n => ∃ k : Nat, k ≤ 8 ∧ n = .int .i64 k ∧ ∀ j, j < k → 0 < x / 256 ^ j) (fun n => 8 - (intOf n).toNat)
  case atStart => exact ⟨0, by omega, rfl, fun j hj => by omega⟩
  case round =>
    obtain ⟨k, hk, rfl, hpos⟩ := hrel
    have HP := Lib.hid hpos
    have hsh : (x : Int) / 2 ^ (8 * k) = ((x / 256 ^ k : Nat) : Int) := by
      rw [show (256 : Nat) ^ k = 2 ^ (8 * k) by rw [Nat.pow_mul]]; simp
    have e1 : k = 8 → x / 256 ^ k = 0 := fun h => by subst h; exact Nat.div_eq_of_lt (Nat.lt_of_lt_of_eq hx (by decide))
    by_cases h0 : x / 256 ^ k = 0
    · have hn := Cod.nl_up 8 x k hk hpos
      rw [h0, Cod.nl_zero] at hn
      have HN : Hid (k = Cod.nlen x) := by show k = Cod.nl 8 x; omega
      have F := Lib.hid (fun w => fixed_any x k hx hk w)
      rw [h0] at hsh
      have hz : ((x : Int) / 2 ^ (8 * k) != 0) = false := by rw [hsh]; rfl
      have hwk : IntKind.u8.wrap (k : Int) = k := by simp only [IntKind.wrap, IntKind.bits, IntKind.signed]; simp; omega
      have hkk : ((k % 256 : Nat) : Int) = k := by omega
      have c1 : ∀ u : World, (u.alloc (.cells #[.int .u8 (k : Int)] 5)).cell? ⟨u.heap.size, 0, none⟩ = some (.int .u8 ((k % 256 : Nat) : Int)) := fun u => by rw [World.cell?_alloc_new, hkk]; rfl
      have hA := one_conv k (w.alloc (.cells #[.int .u8 (k : Int)] 5)).drew w.heap.size (c1 w)
      have hB := Lib.hid (fun u : World => one_conv k (u.alloc (.cells #[.int .u8 (k : Int)] 5)) u.heap.size (c1 u))
      have hC := Lib.hid (fun (u : World) (hb : Below (w.alloc (.cells #[.int .u8 (k : Int)] 5)).drew.heap.size (w.alloc (.cells #[.int .u8 (k : Int)] 5)).drew u) => one_conv k u w.heap.size ((hb.cell (p := ⟨w.heap.size, 0, none⟩) (by show w.heap.size < (w.alloc (.cells #[.int .u8 (k : Int)] 5)).heap.size; simp)).trans (c1 w)))
      clear c1 hkk
      have HE := Lib.hid (show str [UInt8.ofNat k] ++ str (Cod.beL k x) = str (Cod.num x) by unfold Cod.num; rw [← HN.out]; rfl)
      have hz1 : (str [UInt8.ofNat k]).size = 1 := rfl
      have hz2 : (str (Cod.beL k x)).size = k := Cod.beL_len k x
      clear hpos hn e1 h0
      generalize str [UInt8.ofNat k] = X at *
      generalize str (Cod.beL k x) = Y at *
      have k9 : ¬ 9223372036854775807 < 1 + k := by omega
      have W1 := Lib.hid (fun (u : World) (hb : Below (w.alloc (.cells #[.int .u8 (k : Int)] 5)).drew.heap.size (w.alloc (.cells #[.int .u8 (k : Int)] 5)).drew u) => (show Below w.heap.size w u from by
        have h1 : Below w.heap.size w (w.alloc (.cells #[.int .u8 (k : Int)] 5)).drew := ((Below.refl _ _).alloc (Nat.le_refl _) _).trans ⟨rfl, rfl, rfl, Nat.le_refl _, fun _ _ => rfl⟩
        exact h1.trans (hb.mono h1.size)))
      have W2 := Lib.hid (fun (u : World) (hb : Below w.drew.heap.size w.drew u) => (show Below w.heap.size w (u.alloc (.cells #[.int .u8 (k : Int)] 5)) from by
        have h1 : Below w.heap.size w w.drew := ⟨rfl, rfl, rfl, Nat.le_refl _, fun _ _ => rfl⟩
        have h2 := h1.trans (hb.mono h1.size)
        exact h2.alloc h2.size _))
      by_cases h8 : k < 8
      · have q8 : decide ((k : Int) < 8) = true := by simp; omega
        go_wp2
        go_region_with (go_at_call 77; refine (F.out _).mono ?_; rintro e w' ⟨rfl, hb⟩; have hB' := hB.out w'; try (have hC' := hC.out w' hb))
        all_goals
          go_wp2
          go_ret
          refine ⟨by rw [← HE.out]; rfl, ?_⟩
          first
            | exact W1.out _ hb
            | exact W2.out _ hb
      · have q8 : decide ((k : Int) < 8) = false := by simp; omega
        go_wp2
        go_region_with (go_at_call 77; refine (F.out _).mono ?_; rintro e w' ⟨rfl, hb⟩; have hB' := hB.out w'; try (have hC' := hC.out w' hb))
        all_goals
          go_wp2
          go_ret
          refine ⟨by rw [← HE.out]; rfl, ?_⟩
          first
            | exact W1.out _ hb
            | exact W2.out _ hb
    · have h8 : k < 8 := by
        by_cases h : k < 8
        · exact h
        · exact absurd (e1 (by omega)) h0
      have q8 : decide ((k : Int) < 8) = true := by simp; omega
      have hz : ((x : Int) / 2 ^ (8 * k) != 0) = true := by rw [hsh, bne_iff_ne]; exact Int.natCast_ne_zero.2 h0
      have HY := Lib.hid (Nat.pos_of_ne_zero h0)
      clear hpos e1 h0 hsh
      go_wp2
      go_round
      case rel => exact ⟨k + 1, by omega, by go_num, fun j hj => by
        by_cases e : j = k
        · subst e; exact HY.out
        · exact HP.out j (by omega)⟩
      case measure => simp [intOf]; omega

theorem rtextw_any (s : ByteArray) (hs : s.size ≤ 1099511627776) (w : World) :
    Calls Try.prog 38 #[.string s] w fun e w' => e = .returned (.string (str (Cod.text s.data.toList))) ∧ Below w.heap.size w w' := by
  have N := Lib.hid (rnumw_any s.size (by omega) w)
  have hz := num_size s.size
  have ht := text_str s
  generalize str (Cod.num s.size) = X at *
  generalize str (Cod.text s.data.toList) = Y at *
  go_enter Try.func38, Try.ntmps38
  go_wp2_with fail
  refine N.out.mono ?_
  rintro e w' ⟨rfl, hb⟩
  have k1 : X.size + s.size ≤ 9223372036854775807 := by omega
  go_wp2
  go_ret
  exact ⟨rfl, hb⟩
end Go.Proofs.Ytgmmglmokkcgeaa
