/- Walks: Num. -/
import Derived.Test.YtcaemfogknaioaaRows
import Derived.Test.YtcaemfogknaioaaCod
import Derived.WalkSpells
import Derived.WalkLawsBesides
import Derived.Lib.Hide
namespace Go.Proofs.Ytcaemfogknaioaa
open Go.RowKit

def B (c : UInt8) : Value := Value.int .u8 (c.toNat : Int)
theorem str_size (l : List UInt8) : (⟨l.toArray⟩ : ByteArray).size = l.length := rfl
theorem B_ofNat (x : Nat) : B (UInt8.ofNat x) = Value.int .u8 ((x % 256 : Nat) : Int) := by simp [B]

/-- The array of Num, j bytes of n written. -/
def numA (n j x : Nat) : Array Value := (B (UInt8.ofNat n) :: (List.replicate (n - j) (Value.int .u8 0) ++ (Cod.beL j x).map B ++ List.replicate (8 - n) (Value.int .u8 0))).toArray
theorem numA_size (n j x : Nat) (hn : n ≤ 8) (hj : j ≤ n) : (numA n j x).size = 9 := by simp [numA, Cod.beL_len]; omega
theorem numA_get (n j x : Nat) (h : j < n) : (numA n j x)[n - j]? = some (Value.int .u8 0) := by
  unfold numA
  rw [List.getElem?_toArray, show n - j = (n - j - 1) + 1 by omega, List.getElem?_cons_succ, List.append_assoc, List.getElem?_append_left (by simp), List.getElem?_replicate, if_pos (by omega)]
theorem numA_set (n j x : Nat) (h : j < n) (v : UInt8) (hv : v = UInt8.ofNat (x / 256 ^ j)) : (numA n j x).setIfInBounds (n - j) (B v) = numA n (j + 1) x := by
  unfold numA
  apply Array.ext'
  simp only [Array.toList_setIfInBounds]
  rw [show n - j = (n - (j + 1)) + 1 by omega, List.set_cons_succ, List.append_assoc, List.set_append_left _ _ (by simp), Cod.beL_front, hv]
  rw [List.replicate_succ', List.set_append_right _ _ (by simp)]
  simp
theorem numA_done (n x i : Nat) (hi : i < n + 1) : (numA n n x)[i]? = ((UInt8.ofNat n :: Cod.beL n x)[i]?).map B := by
  unfold numA
  simp only [Nat.sub_self, List.replicate_zero, List.nil_append, List.getElem?_toArray]
  cases i with
  | zero => simp
  | succ i =>
    rw [List.getElem?_cons_succ, List.getElem?_cons_succ, List.getElem?_append_left (by simp [Cod.beL_len]; omega), List.getElem?_map]

theorem num_conv (w : World) (j x : Nat) (hk : j ≤ 8) (hn : j = Cod.nlen x) : (convert 91 9 (.slice (some ⟨w.heap.size, 0, none⟩) (j + 1) 9)).run Try.prog (w.alloc (.cells (numA j j x) 89)) = .ok (.string ⟨(Cod.num x).toArray⟩) (w.alloc (.cells (numA j j x) 89)) := by
  have hl : (Cod.num x).length = j + 1 := by rw [Cod.num_len, hn]
  rw [← hl]
  refine run_convert_bytes_back (P := Try.prog) _ 91 9 5 ⟨w.heap.size, 0, none⟩ 9 (Cod.num x) Try.underlying91 Try.underlying5 Try.underlying9 (fun i hi => ?_)
  have hd := numA_done j x i (by rw [hl] at hi; exact hi)
  have hnum : Cod.num x = UInt8.ofNat j :: Cod.beL j x := by unfold Cod.num; rw [← hn]
  have hc : (w.alloc (.cells (numA j j x) 89)).cell? ⟨w.heap.size, i, none⟩ = some (B (Cod.num x)[i]) := by
    rw [World.cell?_alloc_new, hd, ← hnum, List.getElem?_eq_getElem hi]; rfl
  by_cases h0 : i = 0
  · subst h0; exact hc
  · simpa [Addr.add, h0, B] using hc

set_option maxRecDepth 100000 in
set_option maxHeartbeats 1000000 in
theorem num_any (x : Nat) (hx : x < 18446744073709551616) (w : World) :
    Calls Try.prog 29 #[.int .u64 x] w fun e w' => e = .returned (.string ⟨(Cod.num x).toArray⟩) ∧ Below w.heap.size w w' := by
  go_enter Try.func29, Try.ntmps29
  go_wp2
  go_loop [4, 5] (fun n y => ∃ k : Nat, k ≤ 8 ∧ n = .int .i64 k ∧ y = .int .u64 (x / 256 ^ k : Nat) ∧ ∀ j, j < k → 0 < x / 256 ^ j) (fun n _ => 8 - (intOf n).toNat)
  case atStart => exact ⟨0, by omega, rfl, by simp, fun j hj => by omega⟩
  case round =>
    obtain ⟨k, hk, rfl, rfl, hpos⟩ := hrel
    have HP := Lib.hid hpos
    have e1 : x / 256 ^ (k + 1) = x / 256 ^ k / 256 := by rw [Nat.pow_succ, Nat.div_div_eq_div_mul]
    by_cases h0 : x / 256 ^ k = 0
    · have hn := Cod.nl_up 8 x k hk hpos
      rw [h0, Cod.nl_zero] at hn
      have HN : Hid (k = Cod.nlen x) := by show k = Cod.nl 8 x; omega
      have hmod : ((k : Int) % 256) = (k : Int) := by omega
      clear hpos hn e1
      rw [h0]
      clear h0
      go_wp2
      go_loopw [0, 6] (fun x' i wr => ∃ j : Nat, j ≤ k ∧ x' = .int .u64 (x / 256 ^ j : Nat) ∧ i = .int .i64 ((k - j : Nat) : Int) ∧ wr = w.alloc (.cells (numA k j x) 89)) (fun _ i _ => (intOf i).toNat)
      case atStart =>
        refine ⟨0, by omega, by simp, by simp, ?_⟩
        unfold numA
        rw [B_ofNat, show k % 256 = k by omega]
        match k, hk with
        | 0, _ | 1, _ | 2, _ | 3, _ | 4, _ | 5, _ | 6, _ | 7, _ | 8, _ => rfl
      case round =>
        obtain ⟨j, hj, rfl, rfl, rfl⟩ := hrel
        by_cases hlt : j < k
        · have hg := numA_get k j x hlt
          have hxj : x / 256 ^ j < 18446744073709551616 := Nat.lt_of_le_of_lt (Nat.div_le_self _ _) hx
          have HS := Lib.hid (numA_set k j x hlt _ rfl)
          have HD := Lib.hid (show x / 256 ^ (j + 1) = x / 256 ^ j / 256 by rw [Nat.pow_succ, Nat.div_div_eq_div_mul])
          have HB := Lib.hid (B_ofNat (x / 256 ^ j))
          generalize x / 256 ^ j = y at *
          obtain ⟨i, hi⟩ : ∃ i, k - j = i := ⟨_, rfl⟩
          have hi2 : 0 < i := by omega
          have hi3 : i ≤ 8 := by omega
          have HI := Lib.hid (show k - (j + 1) = i - 1 by omega)
          rw [hi] at hg HS
          rw [hi]
          have hd : decide ((0 : Int) < (i : Int)) = true := by simp; omega
          clear hi
          go_wp2
          go_roundw
          case rel =>
            refine ⟨j + 1, by omega, by rw [HD.out]; rfl, by rw [HI.out]; go_num, ?_⟩
            rw [← HS.out, HB.out]; rfl
          case measure => simp [intOf]; omega
        · have hjk : j = k := by omega
          subst hjk
          have hcv := num_conv w j x hk HN.out
          have hsz := numA_size j j x hk (Nat.le_refl _)
          simp only [Nat.sub_self]
          have hsl : ∀ v, (Instr.sliceAt 89 (.pointer (some ⟨w.heap.size, 0, none⟩)) none (some (.int .i64 ((j : Int) + 1))) none).run Try.prog v = .ok (.slice (some ⟨w.heap.size, 0, none⟩) (j + 1) 9) v := by
            intro v
            rw [run_sliceAt_array_h v 89 _ Try.underlying89 .i64 _ (by omega) (by rw [show Try.prog.arrayLen 89 = 9 from by kernel_rfl]; omega)]
            rw [show Try.prog.elem 89 = 5 from by kernel_rfl, Try.sizeOf5, show Try.prog.arrayLen 89 = 9 from by kernel_rfl]
            simp [slicedAt, Addr.add]
          go_wp2
          go_ret
          exact ⟨rfl, (Below.refl _ _).alloc (Nat.le_refl _) _⟩
    · have hne : (((x / 256 ^ k : Nat) : Int) != 0) = true := by rw [bne_iff_ne]; omega
      have hk8 : k < 8 := by
        by_cases h : k < 8
        · exact h
        · exfalso
          have : k = 8 := by omega
          subst this
          exact h0 (Nat.div_eq_of_lt (Nat.lt_of_lt_of_eq hx (by decide)))
      generalize hy : x / 256 ^ k = y at *
      have HY := Lib.hid hy
      have HE := Lib.hid e1
      have hyp : 0 < y := by omega
      clear hpos hy e1 h0
      go_wp2
      go_round
      case rel => exact ⟨k + 1, by omega, by go_num, by rw [HE.out]; rfl, fun j hj => by
        by_cases e : j = k
        · subst e; rw [HY.out]; exact hyp
        · exact HP.out j (by omega)⟩
      case measure => simp [intOf]; omega
end Go.Proofs.Ytcaemfogknaioaa
