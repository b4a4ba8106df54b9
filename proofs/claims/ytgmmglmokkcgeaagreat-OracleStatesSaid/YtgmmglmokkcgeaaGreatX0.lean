/- The plain laws of numbers and texts as bytes. No program in sight. -/
import Derived.WalkKit
import Derived.Test.YtgmmglmokkcgeaaGreatRows
import Derived.WalkSpells
import Derived.WalkLawsBesides
import Derived.Lib.Hide
import Derived.BigQuiet
import Derived.OwnWalk
set_option linter.unusedVariables false
set_option linter.unusedSimpArgs false
namespace Go.Proofs.YtgmmglmokkcgeaaGreat.Cod

/-- So many bytes of a number, the highest first. -/
def beL : Nat → Nat → List UInt8
  | 0, _ => []
  | n + 1, x => beL n (x / 256) ++ [UInt8.ofNat x]

theorem beL_len (n x : Nat) : (beL n x).length = n := by
  induction n generalizing x with
  | zero => rfl
  | succ n ih => simp [beL, ih]

theorem beL_front (n x : Nat) : beL (n + 1) x = UInt8.ofNat (x / 256 ^ n) :: beL n x := by
  induction n generalizing x with
  | zero => simp [beL]
  | succ n ih =>
    rw [beL, ih (x / 256), beL]
    simp [Nat.div_div_eq_div_mul, Nat.pow_succ, Nat.mul_comm]

theorem beL_get (n x i : Nat) (h : i < n) : (beL n x)[i]? = some (UInt8.ofNat (x / 256 ^ (n - 1 - i))) := by
  induction n generalizing i with
  | zero => omega
  | succ n ih =>
    rw [beL_front]
    cases i with
    | zero => simp
    | succ i => rw [List.getElem?_cons_succ, ih i (by omega)]; congr 3; congr 1; omega

theorem beL_drop (n x k : Nat) : (beL (n + k) x).drop k = beL n x := by
  induction k with
  | zero => simp
  | succ k ih => rw [show n + (k + 1) = (n + k) + 1 by omega, beL_front, List.drop_succ_cons, ih]

/-- How many bytes a number has. -/
def nl : Nat → Nat → Nat
  | 0, _ => 0
  | f + 1, x => if x = 0 then 0 else nl f (x / 256) + 1
def nlen (x : Nat) : Nat := nl 8 x
theorem nl_le (f x : Nat) : nl f x ≤ f := by
  induction f generalizing x with
  | zero => exact Nat.le_refl _
  | succ f ih => unfold nl; split; · omega
                 · have := ih (x / 256); omega
theorem nlen_le (x : Nat) : nlen x ≤ 8 := nl_le 8 x
theorem nl_zero (f : Nat) : nl f 0 = 0 := by cases f <;> simp [nl]
theorem nl_pos (f x : Nat) (h : 0 < x) : nl (f + 1) x = nl f (x / 256) + 1 := by rw [nl, if_neg (by omega)]

/-- A number's bytes. -/
def num (x : Nat) : List UInt8 := UInt8.ofNat (nlen x) :: beL (nlen x) x
theorem num_len (x : Nat) : (num x).length = nlen x + 1 := by simp [num, beL_len]

theorem nl_up (f x k : Nat) (hk : k ≤ f) (h : ∀ j, j < k → 0 < x / 256 ^ j) : nl f x = nl (f - k) (x / 256 ^ k) + k := by
  induction k generalizing f x with
  | zero => simp
  | succ k ih =>
    obtain ⟨g, rfl⟩ : ∃ g, f = g + 1 := ⟨f - 1, by omega⟩
    have h0 := h 0 (by omega)
    simp at h0
    rw [nl_pos g x h0, ih g (x / 256) (by omega) (fun j hj => by have := h (j + 1) (by omega); rwa [Nat.pow_succ, Nat.mul_comm, ← Nat.div_div_eq_div_mul] at this)]
    rw [Nat.pow_succ, Nat.mul_comm, ← Nat.div_div_eq_div_mul, show g + 1 - (k + 1) = g - k by omega]; omega

theorem nl_spec (f x : Nat) (h : x < 256 ^ f) : x < 256 ^ nl f x ∧ (0 < x → 256 ^ (nl f x - 1) ≤ x) := by
  induction f generalizing x with
  | zero => simp at h; subst h; simp [nl]
  | succ f ih =>
    by_cases h0 : x = 0
    · subst h0; simp [nl]
    · rw [nl_pos f x (by omega)]
      have h2 : x / 256 < 256 ^ f := Nat.div_lt_of_lt_mul (by rw [Nat.pow_succ, Nat.mul_comm] at h; exact h)
      obtain ⟨a, b⟩ := ih (x / 256) h2
      refine ⟨?_, fun _ => ?_⟩
      · rw [Nat.pow_succ]; omega
      · by_cases h3 : x / 256 = 0
        · rw [h3, nl_zero]; simp; omega
        · have b' := b (by omega)
          have e : nl f (x / 256) + 1 - 1 = (nl f (x / 256) - 1) + 1 := by
            have : 0 < nl f (x / 256) := by
              cases f with
              | zero => simp at h2; omega
              | succ f => rw [nl_pos f _ (by omega)]; omega
            omega
          rw [e, Nat.pow_succ]
          omega

def text (s : List UInt8) : List UInt8 := num s.length ++ s


/-- The number that bytes are. -/
def big (l : List UInt8) : Nat := l.foldl (fun x c => (x * 256 + c.toNat) % 18446744073709551616) 0

def rnum : List UInt8 → Nat × List UInt8 × Nat
  | [] => (0, [], 20)
  | c :: r => if 8 < c.toNat then (0, [], 21) else if r.length < c.toNat then (0, [], 20) else if 0 < c.toNat ∧ r.head? = some 0 then (0, [], 21) else (big (r.take c.toNat), r.drop c.toNat, 0)

def rtext (l : List UInt8) : List UInt8 × List UInt8 × Nat :=
  if (rnum l).2.2 ≠ 0 then ([], [], (rnum l).2.2) else if (rnum l).2.1.length < (rnum l).1 then ([], [], 20) else ((rnum l).2.1.take (rnum l).1, (rnum l).2.1.drop (rnum l).1, 0)

theorem big_snoc (l : List UInt8) (c : UInt8) : big (l ++ [c]) = (big l * 256 + c.toNat) % 18446744073709551616 := by simp [big]
theorem big_lt (l : List UInt8) : big l < 18446744073709551616 := by
  rcases List.eq_nil_or_concat l with rfl | ⟨l', c, rfl⟩
  · decide
  · rw [List.concat_eq_append, big_snoc]; omega
theorem big_beL (n x : Nat) (h : x < 256 ^ n) (hn : n ≤ 8) : big (beL n x) = x := by
  induction n generalizing x with
  | zero => simp at h; subst h; rfl
  | succ n ih =>
    have h2 : x / 256 < 256 ^ n := Nat.div_lt_of_lt_mul (by rw [Nat.pow_succ, Nat.mul_comm] at h; exact h)
    have h3 : x < 18446744073709551616 := Nat.lt_of_lt_of_le h (by
      have : 256 ^ (n + 1) ≤ 256 ^ 8 := Nat.pow_le_pow_right (by decide) hn
      exact Nat.le_trans this (by decide))
    rw [beL, big_snoc, ih _ h2 (by omega)]
    simp
    omega
theorem beL_head (n x : Nat) (h0 : 0 < n) (h : 256 ^ (n - 1) ≤ x) (h1 : x < 256 ^ n) (r : List UInt8) : (beL n x ++ r).head? ≠ some 0 := by
  obtain ⟨m, rfl⟩ : ∃ m, n = m + 1 := ⟨n - 1, by omega⟩
  simp only [Nat.add_sub_cancel] at h
  rw [beL_front]
  have h2 : x / 256 ^ m < 256 := Nat.div_lt_of_lt_mul (by rw [Nat.pow_succ] at h1; exact h1)
  have h3 : 0 < x / 256 ^ m := Nat.div_pos h (Nat.pow_pos (by decide))
  simp only [List.cons_append, List.head?_cons, ne_eq, Option.some.injEq]
  intro e
  have := congrArg UInt8.toNat e
  simp at this
  omega
/-- What was written is read. -/
theorem rnum_num (x : Nat) (hx : x < 18446744073709551616) (r : List UInt8) : rnum (num x ++ r) = (x, r, 0) := by
  have hl := nlen_le x
  obtain ⟨h1, h2⟩ : x < 256 ^ nlen x ∧ (0 < x → 256 ^ (nlen x - 1) ≤ x) := nl_spec 8 x (Nat.lt_of_lt_of_eq hx (by decide))
  have hn : (UInt8.ofNat (nlen x)).toNat = nlen x := by simp; omega
  unfold num
  rw [List.cons_append]
  unfold rnum
  simp only
  rw [hn, if_neg (by omega), if_neg (by simp [beL_len]), if_neg, List.take_append_of_le_length (by rw [beL_len]; exact Nat.le_refl _), List.take_of_length_le (by rw [beL_len]; exact Nat.le_refl _), List.drop_append_of_le_length (by rw [beL_len]; exact Nat.le_refl _), List.drop_of_length_le (by rw [beL_len]; exact Nat.le_refl _), big_beL _ _ h1 hl]
  · rfl
  · rintro ⟨ha, hb⟩
    refine beL_head (nlen x) x ha (h2 ?_) h1 r hb
    by_cases h0 : x = 0
    · subst h0; simp [nlen, nl] at ha
    · omega
theorem rtext_text (s : List UInt8) (hs : s.length < 18446744073709551616) (r : List UInt8) : rtext (text s ++ r) = (s, r, 0) := by
  unfold rtext text
  rw [List.append_assoc, rnum_num _ hs]
  simp

/-- A command's bytes. -/
def cmd (c n : Nat) (d : List UInt8) : List UInt8 := num c ++ num n ++ text d
/-- The command of any bytes; none. -/
def rcmd (l : List UInt8) : Option (Nat × Nat × List UInt8) :=
  let a := rnum l
  let b := rnum a.2.1
  let d := rtext b.2.1
  if a.2.2 = 0 ∧ b.2.2 = 0 ∧ d.2.2 = 0 ∧ d.2.1 = [] ∧ a.1 ≠ 0 ∧ b.1 ≠ 0 ∧ l.length ≤ 1048576 then some (a.1, b.1, d.1) else none
theorem rcmd_cmd (c n : Nat) (d : List UInt8) (hc : 0 < c ∧ c < 18446744073709551616) (hn : 0 < n ∧ n < 18446744073709551616) (hd : (cmd c n d).length ≤ 1048576) : rcmd (cmd c n d) = some (c, n, d) := by
  have hdl : d.length < 18446744073709551616 := by simp [cmd, text] at hd; omega
  have h1 : rnum (cmd c n d) = (c, num n ++ text d, 0) := by unfold cmd; rw [List.append_assoc]; exact rnum_num c hc.2 _
  have h2 : rnum (num n ++ text d) = (n, text d, 0) := rnum_num n hn.2 _
  have h3 : rtext (text d) = (d, [], 0) := by have := rtext_text d hdl []; rwa [List.append_nil] at this
  unfold rcmd
  simp only [h1, h2, h3]
  rw [if_pos]
  exact ⟨trivial, trivial, trivial, trivial, by omega, by omega, hd⟩
end Go.Proofs.YtgmmglmokkcgeaaGreat.Cod
/- Walks: Num. -/
namespace Go.Proofs.YtgmmglmokkcgeaaGreat
open Go.RowKit

def B (c : UInt8) : Value := Value.int .u8 (c.toNat : Int)
theorem str_size (l : List UInt8) : (⟨l.toArray⟩ : ByteArray).size = l.length := rfl
theorem B_ofNat (x : Nat) : B (UInt8.ofNat x) = Value.int .u8 ((x % 256 : Nat) : Int) := by simp [B]

/-- The array of Num, j bytes of n written. -/
def numA (n j x : Nat) : Array Value := (B (UInt8.ofNat n) :: (List.replicate (n - j) (Value.int .u8 0) ++ (Cod.beL j x).map B ++ List.replicate (8 - n) (Value.int .u8 0))).toArray
theorem numA_size (n j x : Nat) (hn : n ≤ 8) (hj : j ≤ n) : (numA n j x).size = 9 := by simp [numA, Cod.beL_len]; omega
theorem numA_get (n j x : Nat) (h : j < n) : (numA n j x)[n - j]? = some (Value.int .u8 0) := by
  unfold numA
  rw [List.getElem?_toArray, show n - j = (n - j - 1) + 1 by omega, List.getElem?_cons_succ, List.append_assoc, List.getElem?_append_left (by simp), List.getElem?_replicate, if_pos (by omega)]
theorem numA_set (n j x : Nat) (h : j < n) (v : UInt8) (hv : v = UInt8.ofNat (x / 256 ^ j)) : (numA n j x).setIfInBounds (n - j) (B v) = numA n (j + 1) x := by
  unfold numA
  apply Array.ext'
  simp only [Array.toList_setIfInBounds]
  rw [show n - j = (n - (j + 1)) + 1 by omega, List.set_cons_succ, List.append_assoc, List.set_append_left _ _ (by simp), Cod.beL_front, hv]
  rw [List.replicate_succ', List.set_append_right _ _ (by simp)]
  simp
theorem numA_done (n x i : Nat) (hi : i < n + 1) : (numA n n x)[i]? = ((UInt8.ofNat n :: Cod.beL n x)[i]?).map B := by
  unfold numA
  simp only [Nat.sub_self, List.replicate_zero, List.nil_append, List.getElem?_toArray]
  cases i with
  | zero => simp
  | succ i =>
    rw [List.getElem?_cons_succ, List.getElem?_cons_succ, List.getElem?_append_left (by simp [Cod.beL_len]; omega), List.getElem?_map]

theorem num_conv (w : World) (j x : Nat) (hk : j ≤ 8) (hn : j = Cod.nlen x) : (convert 152 9 (.slice (some ⟨w.heap.size, 0, none⟩) (j + 1) 9)).run Tryz.prog (w.alloc (.cells (numA j j x) 151)) = .ok (.string ⟨(Cod.num x).toArray⟩) (w.alloc (.cells (numA j j x) 151)) := by
  have hl : (Cod.num x).length = j + 1 := by rw [Cod.num_len, hn]
  rw [← hl]
  refine run_convert_bytes_back (P := Tryz.prog) _ 152 9 5 ⟨w.heap.size, 0, none⟩ 9 (Cod.num x) Tryz.underlying152 Tryz.underlying5 Tryz.underlying9 (fun i hi => ?_)
  have hd := numA_done j x i (by rw [hl] at hi; exact hi)
  have hnum : Cod.num x = UInt8.ofNat j :: Cod.beL j x := by unfold Cod.num; rw [← hn]
  have hc : (w.alloc (.cells (numA j j x) 151)).cell? ⟨w.heap.size, i, none⟩ = some (B (Cod.num x)[i]) := by
    rw [World.cell?_alloc_new, hd, ← hnum, List.getElem?_eq_getElem hi]; rfl
  by_cases h0 : i = 0
  · subst h0; exact hc
  · simpa [Addr.add, h0, B] using hc

set_option maxRecDepth 100000 in
set_option maxHeartbeats 1000000 in
theorem num_any (x : Nat) (hx : x < 18446744073709551616) (w : World) :
    Calls Tryz.prog 83 #[.int .u64 x] w fun e w' => e = .returned (.string ⟨(Cod.num x).toArray⟩) ∧ Below w.heap.size w w' := by
  go_enter Tryz.func83, Tryz.ntmps83
  go_wp2
  go_loop [4, 5] (fun n y => ∃ k : Nat, k ≤ 8 ∧ n = .int .i64 k ∧ y = .int .u64 (x / 256 ^ k : Nat) ∧ ∀ j, j < k → 0 < x / 256 ^ j) (fun n _ => 8 - (intOf n).toNat)
  case atStart => exact ⟨0, by omega, rfl, by simp, fun j hj => by omega⟩
  case round =>
    obtain ⟨k, hk, rfl, rfl, hpos⟩ := hrel
    have HP := Lib.hid hpos
    have e1 : x / 256 ^ (k + 1) = x / 256 ^ k / 256 := by rw [Nat.pow_succ, Nat.div_div_eq_div_mul]
    by_cases h0 : x / 256 ^ k = 0
    · have hn := Cod.nl_up 8 x k hk hpos
      rw [h0, Cod.nl_zero] at hn
      have HN : Hid (k = Cod.nlen x) := by show k = Cod.nl 8 x; omega
      have hmod : ((k : Int) % 256) = (k : Int) := by omega
      clear hpos hn e1
      rw [h0]
      clear h0
      go_wp2
      go_loopw [0, 6] (fun x' i wr => ∃ j : Nat, j ≤ k ∧ x' = .int .u64 (x / 256 ^ j : Nat) ∧ i = .int .i64 ((k - j : Nat) : Int) ∧ wr = w.alloc (.cells (numA k j x) 151)) (fun _ i _ => (intOf i).toNat)
      case atStart =>
        refine ⟨0, by omega, by simp, by simp, ?_⟩
        unfold numA
        rw [B_ofNat, show k % 256 = k by omega]
        match k, hk with
        | 0, _ | 1, _ | 2, _ | 3, _ | 4, _ | 5, _ | 6, _ | 7, _ | 8, _ => rfl
      case round =>
        obtain ⟨j, hj, rfl, rfl, rfl⟩ := hrel
        by_cases hlt : j < k
        · have hg := numA_get k j x hlt
          have hxj : x / 256 ^ j < 18446744073709551616 := Nat.lt_of_le_of_lt (Nat.div_le_self _ _) hx
          have HS := Lib.hid (numA_set k j x hlt _ rfl)
          have HD := Lib.hid (show x / 256 ^ (j + 1) = x / 256 ^ j / 256 by rw [Nat.pow_succ, Nat.div_div_eq_div_mul])
          have HB := Lib.hid (B_ofNat (x / 256 ^ j))
          generalize x / 256 ^ j = y at *
          obtain ⟨i, hi⟩ : ∃ i, k - j = i := ⟨_, rfl⟩
          have hi2 : 0 < i := by omega
          have hi3 : i ≤ 8 := by omega
          have HI := Lib.hid (show k - (j + 1) = i - 1 by omega)
          rw [hi] at hg HS
          rw [hi]
          have hd : decide ((0 : Int) < (i : Int)) = true := by simp; omega
          clear hi
          go_wp2
          go_roundw
          case rel =>
            refine ⟨j + 1, by omega, by rw [HD.out]; rfl, by rw [HI.out]; go_num, ?_⟩
            rw [← HS.out, HB.out]; rfl
          case measure => simp [intOf]; omega
        · have hjk : j = k := by omega
          subst hjk
          have hcv := num_conv w j x hk HN.out
          have hsz := numA_size j j x hk (Nat.le_refl _)
          simp only [Nat.sub_self]
          have hsl : ∀ v, (Instr.sliceAt 151 (.pointer (some ⟨w.heap.size, 0, none⟩)) none (some (.int .i64 ((j : Int) + 1))) none).run Tryz.prog v = .ok (.slice (some ⟨w.heap.size, 0, none⟩) (j + 1) 9) v := by
            intro v
            rw [run_sliceAt_array_h v 151 _ Tryz.underlying151 .i64 _ (by omega) (by rw [show Tryz.prog.arrayLen 151 = 9 from by kernel_rfl]; omega)]
            rw [show Tryz.prog.elem 151 = 5 from by kernel_rfl, Tryz.sizeOf5, show Tryz.prog.arrayLen 151 = 9 from by kernel_rfl]
            simp [slicedAt, Addr.add]
          go_wp2
          go_ret
          exact ⟨rfl, (Below.refl _ _).alloc (Nat.le_refl _) _⟩
    · have hne : (((x / 256 ^ k : Nat) : Int) != 0) = true := by rw [bne_iff_ne]; omega
      have hk8 : k < 8 := by
        by_cases h : k < 8
        · exact h
        · exfalso
          have : k = 8 := by omega
          subst this
          exact h0 (Nat.div_eq_of_lt (Nat.lt_of_lt_of_eq hx (by decide)))
      generalize hy : x / 256 ^ k = y at *
      have HY := Lib.hid hy
      have HE := Lib.hid e1
      have hyp : 0 < y := by omega
      clear hpos hy e1 h0
      go_wp2
      go_round
      case rel => exact ⟨k + 1, by omega, by go_num, by rw [HE.out]; rfl, fun j hj => by
        by_cases e : j = k
        · subst e; rw [HY.out]; exact hyp
        · exact HP.out j (by omega)⟩
      case measure => simp [intOf]; omega
end Go.Proofs.YtgmmglmokkcgeaaGreat
/- Walks: big, of both. -/
namespace Go.Proofs.YtgmmglmokkcgeaaGreat
open Go.RowKit

theorem take_snoc (s : ByteArray) (k : Nat) (h : k < s.size) : s.data.toList.take (k + 1) = s.data.toList.take k ++ [s[k]] := by
  rw [List.take_succ_eq_append_getElem (by simpa using h)]; rfl
theorem take_all (s : ByteArray) : s.data.toList.take s.size = s.data.toList := List.take_of_length_le (by simp)
theorem big_take (s : ByteArray) (k : Nat) (h : k < s.size) : Cod.big (s.data.toList.take (k + 1)) = (Cod.big (s.data.toList.take k) * 256 + s[k].toNat) % 18446744073709551616 := by
  rw [take_snoc s k h, Cod.big_snoc]

theorem shl_or (x c : Nat) (hc : c < 2 ^ 8) : bits .or .u64 (IntKind.u64.wrap ((x : Int) * 256)) (c : Int) = (((x * 256 + c) % 18446744073709551616 : Nat) : Int) := by
  have h1 : IntKind.u64.wrap ((x : Int) * 256) = ((2 ^ 8 * (x % 72057594037927936) : Nat) : Int) := by
    simp only [IntKind.wrap, IntKind.bits, IntKind.signed]
    simp
    omega
  rw [h1, u64_or_nat _ _ (by omega) (by omega), ← Nat.two_pow_add_eq_or_of_lt hc]
  congr 1
  omega

theorem big_any (s : ByteArray) (hs : s.size ≤ maxLen) (w : World) :
    Calls Tryz.prog 118 #[.string s] w fun e w' => e = .returned (.int .u64 (Cod.big s.data.toList : Nat)) ∧ w' = w := by
  unfold maxLen at hs
  go_enter Tryz.func118, Tryz.ntmps118
  go_wp2
  go_loop [3, 7] (fun x i => ∃ k : Nat, k ≤ s.size ∧ i = .int .i64 k ∧ x = .int .u64 (Cod.big (s.data.toList.take k) : Nat)) (fun _ i => s.size - (intOf i).toNat)
  case atStart => exact ⟨0, by omega, rfl, rfl⟩
  case round =>
    obtain ⟨k, hk, rfl, rfl⟩ := hrel
    have hb := Cod.big_lt (s.data.toList.take k)
    by_cases hlt : k < s.size
    · have HS := Lib.hid (big_take s k hlt)
      have hc := s[k].toNat_lt
      have HO := Lib.hid (shl_or (Cod.big (s.data.toList.take k)) s[k].toNat hc)
      generalize Cod.big (s.data.toList.take k) = x at *
      go_wp2
      go_round
      case rel => exact ⟨k + 1, by omega, by go_num, by rw [HS.out, HO.out]⟩
      case measure => simp [intOf]; omega
    · have hke : k = s.size := by omega
      subst hke
      rw [take_all] at *
      go_wp2
      go_ret
      exact ⟨rfl, rfl⟩
/-- Bytes as a string. -/
abbrev str (l : List UInt8) : ByteArray := ⟨l.toArray⟩
theorem str_self (s : ByteArray) : str s.data.toList = s := by simp [str]
theorem str_extract (s : ByteArray) (a b : Nat) : s.extract a b = str ((s.data.toList.drop a).take (b - a)) := by
  apply ByteArray.ext
  apply Array.ext'
  simp [str, ByteArray.data_extract, Array.toList_extract]
theorem len_list (s : ByteArray) : s.data.toList.length = s.size := by simp
theorem bytes_isEmpty (s : ByteArray) : s.toList.isEmpty = decide (s.size = 0) := by
  rw [ByteArray.toList_eq]
  obtain ⟨⟨l⟩⟩ := s
  cases l <;> simp [ByteArray.size]
theorem list_cons (s : ByteArray) (h : 0 < s.size) : ∃ r, s.data.toList = s[0] :: r ∧ r.length + 1 = s.size ∧ s.data.toList.drop 1 = r := by
  obtain ⟨⟨l⟩⟩ := s
  cases l with
  | nil => simp [ByteArray.size] at h
  | cons c r => exact ⟨r, rfl, rfl, rfl⟩
theorem list_head (s : ByteArray) (h : 1 < s.size) {r : List UInt8} (hr : s.data.toList.drop 1 = r) : r.head? = some s[1] := by
  subst hr
  rw [List.head?_drop, List.getElem?_eq_getElem (by simpa using h)]
  rfl

/-- What ReadNum says, as values. -/
def rnumV (l : List UInt8) : Value := .tuple #[.int .u64 ((Cod.rnum l).1 : Nat), .string (str (Cod.rnum l).2.1), .int .i64 ((Cod.rnum l).2.2 : Nat)]
theorem rnum_nil (s : ByteArray) (h : s.size = 0) : rnumV s.data.toList = .tuple #[.int .u64 0, .string ⟨#[]⟩, .int .i64 20] := by
  have : s.data.toList = [] := List.eq_nil_of_length_eq_zero (by simpa using h)
  rw [this]
  rfl
theorem rnum_big (s : ByteArray) (h : 0 < s.size) (hc : 8 < s[0].toNat) : rnumV s.data.toList = .tuple #[.int .u64 0, .string ⟨#[]⟩, .int .i64 21] := by
  obtain ⟨r, h1, h2, h3⟩ := list_cons s h
  rw [h1]
  simp [rnumV, Cod.rnum, hc, str]
theorem rnum_short (s : ByteArray) (h : 0 < s.size) (hc : ¬ 8 < s[0].toNat) (hl : s.size < 1 + s[0].toNat) : rnumV s.data.toList = .tuple #[.int .u64 0, .string ⟨#[]⟩, .int .i64 20] := by
  obtain ⟨r, h1, h2, h3⟩ := list_cons s h
  rw [h1]
  have h4 : r.length < s[0].toNat := by omega
  simp [rnumV, Cod.rnum, hc, str, h4]
theorem rnum_form (s : ByteArray) (h : 1 < s.size) (hc : ¬ 8 < s[0].toNat) (hl : ¬ s.size < 1 + s[0].toNat) (hp : 0 < s[0].toNat) (hz : s[1].toNat = 0) : rnumV s.data.toList = .tuple #[.int .u64 0, .string ⟨#[]⟩, .int .i64 21] := by
  obtain ⟨r, h1, h2, h3⟩ := list_cons s (by omega)
  have h5 := list_head s h h3
  have h6 : s[1] = 0 := UInt8.toNat_inj.1 (by rw [hz]; rfl)
  rw [h1]
  have h4 : ¬ r.length < s[0].toNat := by omega
  simp [rnumV, Cod.rnum, hc, str, h4, h5, hp, h6]
theorem rnum_ok (s : ByteArray) (h : 0 < s.size) (hc : ¬ 8 < s[0].toNat) (hl : ¬ s.size < 1 + s[0].toNat) (hz : ∀ h1 : 1 < s.size, 0 < s[0].toNat → s[1].toNat ≠ 0) :
    rnumV s.data.toList = .tuple #[.int .u64 (Cod.big (s.extract 1 (1 + s[0].toNat)).data.toList : Nat), .string (s.extract (1 + s[0].toNat) s.size), .int .i64 0] := by
  obtain ⟨r, h1, h2, h3⟩ := list_cons s h
  have h4 : ¬ r.length < s[0].toNat := by omega
  have h5 : ¬ (0 < s[0].toNat ∧ r.head? = some 0) := by
    rintro ⟨ha, hb⟩
    have hs : 1 < s.size := by omega
    rw [list_head s hs h3] at hb
    simp only [Option.some.injEq] at hb
    exact hz hs ha (by rw [hb]; rfl)
  have e1 : s.extract 1 (1 + s[0].toNat) = str (r.take s[0].toNat) := by rw [str_extract, h3]; congr 2; congr 1; omega
  have e2 : s.extract (1 + s[0].toNat) s.size = str (r.drop s[0].toNat) := by
    rw [str_extract, ← List.drop_drop, h3, List.take_of_length_le (by rw [List.length_drop]; omega)]
  rw [e1, e2, h1]
  simp [rnumV, Cod.rnum, hc, str, h4, h5]
end Go.Proofs.YtgmmglmokkcgeaaGreat
/- Walks: ReadNum, of both. -/
namespace Go.Proofs.YtgmmglmokkcgeaaGreat
open Go.RowKit

theorem below_drewN (w : World) (n : Nat) : Below w.heap.size w (w.drewN n) := ⟨rfl, rfl, rfl, Nat.le_refl _, fun _ _ => rfl⟩

set_option maxRecDepth 100000 in
set_option maxHeartbeats 1000000 in
theorem readNum_any (s : ByteArray) (hs : s.size ≤ maxLen) (w : World) :
    Calls Tryz.prog 93 #[.string s] w fun e w' => e = .returned (rnumV s.data.toList) ∧ Below w.heap.size w w' := by
  unfold maxLen at hs
  have hq := bytes_isEmpty s
  by_cases h0 : s.size = 0
  · have hd : decide (s.size = 0) = true := by simpa using h0
    rw [hd] at hq
    rw [rnum_nil s h0]
    go_enter Tryz.func93, Tryz.ntmps93
    go_wp2
    go_ret3
    exact ⟨rfl, Below.refl _ _⟩
  · have hd : decide (s.size = 0) = false := by simpa using h0
    rw [hd] at hq
    clear hd
    have hp : 0 < s.size := by omega
    by_cases h8 : 8 < s[0].toNat
    · rw [rnum_big s hp h8]
      have q1 : decide ((8 : Int) < (s[0].toNat : Int)) = true := by simp; omega
      have q2 : decide (8 < s[0].toNat) = true := by simpa using h8
      go_enter Tryz.func93, Tryz.ntmps93
      go_wp2
      go_ret3
      exact ⟨rfl, Below.refl _ _⟩
    · have q1 : decide ((8 : Int) < (s[0].toNat : Int)) = false := by simp; omega
      have q2 : decide (8 < s[0].toNat) = false := by simpa using h8
      by_cases hl : s.size < 1 + s[0].toNat
      · rw [rnum_short s hp h8 hl]
        have q3 : decide ((s.size : Int) < 1 + (s[0].toNat : Int)) = true := by simp; omega
        go_enter Tryz.func93, Tryz.ntmps93
        go_wp2
        go_ret3
        exact ⟨rfl, Below.refl _ _⟩
      · have q3 : decide ((s.size : Int) < 1 + (s[0].toNat : Int)) = false := by simp; omega
        by_cases hc : 0 < s[0].toNat
        · have h1 : 1 < s.size := by omega
          have q4 : decide ((1 : Int) < 1 + (s[0].toNat : Int)) = true := by simp; omega
          by_cases hz : s[1].toNat = 0
          · rw [rnum_form s h1 h8 hl hc hz]
            have q5 : decide ((s[1].toNat : Int) = 0) = true := by simp; omega
            go_enter Tryz.func93, Tryz.ntmps93
            go_wp2
            go_ret3
            exact ⟨rfl, Below.refl _ _⟩
          · rw [rnum_ok s hp h8 hl (fun _ _ => hz)]
            have q5 : decide ((s[1].toNat : Int) = 0) = false := by simp; omega
            have hb := Lib.hid (fun m => big_any (s.extract 1 (1 + s[0].toNat)) (by rw [ByteArray.size_extract]; unfold maxLen; omega) (w.drewN m))
            go_enter Tryz.func93, Tryz.ntmps93
            go_wp2
            go_quiet (exact (hb.out _).mono (fun e w' h => ⟨h.1, _, h.2⟩))
            go_wp2
            go_ret3
            exact ⟨rfl, below_drewN _ _⟩
        · have h1 : s[0].toNat = 0 := by omega
          have q4 : decide ((1 : Int) < 1 + (s[0].toNat : Int)) = false := by simp; omega
          rw [rnum_ok s hp h8 hl (fun _ h => absurd h hc)]
          have hb := Lib.hid (fun m => big_any (s.extract 1 (1 + s[0].toNat)) (by rw [ByteArray.size_extract]; unfold maxLen; omega) (w.drewN m))
          have H1 := Lib.hid h1
          have h11 : 1 + s[0].toNat ≤ s.size := by omega
          clear h1 hl h8
          go_enter Tryz.func93, Tryz.ntmps93
          go_wp2
          go_quiet (exact (hb.out _).mono (fun e w' h => ⟨h.1, _, h.2⟩))
          go_wp2
          go_ret3
          exact ⟨rfl, below_drewN _ _⟩
end Go.Proofs.YtgmmglmokkcgeaaGreat
/- Walks: ReadText, Text, of both; the document's Fixed and Num. -/
namespace Go.Proofs.YtgmmglmokkcgeaaGreat
open Go.RowKit

theorem rnum_le (l : List UInt8) : (Cod.rnum l).2.1.length ≤ l.length := by
  cases l with
  | nil => exact Nat.le_refl _
  | cons c r =>
    unfold Cod.rnum
    simp only
    (repeat' split) <;> first | (simp; done) | (simp; omega)
theorem rnum_lt (l : List UInt8) : (Cod.rnum l).1 < 18446744073709551616 := by
  cases l with
  | nil => decide
  | cons c r =>
    unfold Cod.rnum
    simp only
    (repeat' split) <;> first | exact Cod.big_lt _ | decide
theorem rnum_code (l : List UInt8) : (Cod.rnum l).2.2 = 0 ∨ (Cod.rnum l).2.2 = 20 ∨ (Cod.rnum l).2.2 = 21 := by
  cases l with
  | nil => exact Or.inr (Or.inl rfl)
  | cons c r =>
    unfold Cod.rnum
    simp only
    (repeat' split) <;> simp

/-- What ReadText says, as values. -/
def rtextV (l : List UInt8) : Value := .tuple #[.string (str (Cod.rtext l).1), .string (str (Cod.rtext l).2.1), .int .i64 ((Cod.rtext l).2.2 : Nat)]

/-- What ReadNum hands back, by its three parts. -/
theorem rnum_parts (s : ByteArray) (hs : s.size ≤ maxLen) : ∃ (x : Nat) (R : ByteArray) (e : Nat), rnumV s.data.toList = .tuple #[.int .u64 x, .string R, .int .i64 e] ∧ x < 18446744073709551616 ∧ R.size ≤ s.size ∧ (e = 0 ∨ e = 20 ∨ e = 21) ∧
    Hid ((Cod.rnum s.data.toList).1 = x ∧ str (Cod.rnum s.data.toList).2.1 = R ∧ (Cod.rnum s.data.toList).2.2 = e) ∧
    (rtextV s.data.toList = if e ≠ 0 then .tuple #[.string ⟨#[]⟩, .string ⟨#[]⟩, .int .i64 e] else if R.size < x then .tuple #[.string ⟨#[]⟩, .string ⟨#[]⟩, .int .i64 20] else .tuple #[.string (R.extract 0 x), .string (R.extract x R.size), .int .i64 0]) := by
  refine ⟨_, _, _, rfl, rnum_lt _, ?_, rnum_code _, Lib.hid ⟨rfl, rfl, rfl⟩, ?_⟩
  · have := rnum_le s.data.toList
    rw [len_list] at this
    exact this
  · unfold rtextV Cod.rtext
    generalize Cod.rnum s.data.toList = q
    obtain ⟨x, r, e⟩ := q
    have hz : (str r).size = r.length := rfl
    have e1 : (str r).data.toList = r := rfl
    simp only [hz, str_extract, e1, List.drop_zero, Nat.sub_zero]
    by_cases h0 : e ≠ 0
    · simp only [if_pos h0]
    · by_cases h1 : r.length < x
      · simp only [if_neg h0, if_pos h1]; rfl
      · simp only [if_neg h0, if_neg h1]
        rw [List.take_of_length_le (l := List.drop x r) (by rw [List.length_drop]; exact Nat.le_refl _)]
        rfl

set_option maxRecDepth 100000 in
set_option maxHeartbeats 1000000 in
theorem readText_any (s : ByteArray) (hs : s.size ≤ maxLen) (w : World) :
    Calls Tryz.prog 94 #[.string s] w fun e w' => e = .returned (rtextV s.data.toList) ∧ Below w.heap.size w w' := by
  have N := Lib.hid (readNum_any s hs w)
  obtain ⟨x, R, e, h1, hx, hR, he, -, h2⟩ := rnum_parts s hs
  rw [h1] at N
  rw [h2]
  have hs' : R.size ≤ 9223372036854775807 := by unfold maxLen at hs; omega
  clear h1 h2 hR hs
  by_cases h0 : e = 0
  · subst h0
    rw [if_neg (by decide)]
    by_cases hl : R.size < x
    · rw [if_pos hl]
      have q1 : decide ((R.size : Int) < (x : Int)) = true := by simp; omega
      go_enter Tryz.func94, Tryz.ntmps94
      go_wp2_with fail
      refine N.out.mono ?_
      rintro e w' ⟨rfl, hb⟩
      go_wp2
      go_ret3
      exact ⟨rfl, hb⟩
    · rw [if_neg hl]
      have q1 : decide ((R.size : Int) < (x : Int)) = false := by simp; omega
      have hx2 : x ≤ R.size := by omega
      go_enter Tryz.func94, Tryz.ntmps94
      go_wp2_with fail
      refine N.out.mono ?_
      rintro e w' ⟨rfl, hb⟩
      go_wp2
      go_quiet (fail)
      go_wp2
      go_ret3
      exact ⟨rfl, hb.trans ((below_drewN _ _).mono hb.size)⟩
  · rw [if_pos h0]
    rcases he with rfl | rfl | rfl
    · exact absurd rfl h0
    all_goals
      go_enter Tryz.func94, Tryz.ntmps94
      go_wp2_with fail
      refine N.out.mono ?_
      rintro e w' ⟨rfl, hb⟩
      go_wp2
      go_ret3
      exact ⟨rfl, hb⟩
theorem text_str (s : ByteArray) : str (Cod.num s.size) ++ s = str (Cod.text s.data.toList) := by
  unfold Cod.text
  rw [len_list]
  apply ByteArray.ext
  apply Array.ext'
  simp [str, ByteArray.data_append]
theorem num_size (x : Nat) : (str (Cod.num x)).size ≤ 9 := by
  show (Cod.num x).length ≤ 9
  rw [Cod.num_len]
  have := Cod.nlen_le x
  omega

theorem text_any (s : ByteArray) (hs : s.size ≤ 1099511627776) (w : World) :
    Calls Tryz.prog 90 #[.string s] w fun e w' => e = .returned (.string (str (Cod.text s.data.toList))) ∧ Below w.heap.size w w' := by
  have N := Lib.hid (num_any s.size (by omega) w)
  have hz := num_size s.size
  have ht := text_str s
  change Hid (Calls Tryz.prog 83 #[.int .u64 s.size] w fun e w' => e = .returned (.string (str (Cod.num s.size))) ∧ Below w.heap.size w w') at N
  generalize str (Cod.num s.size) = X at *
  generalize str (Cod.text s.data.toList) = Y at *
  go_enter Tryz.func90, Tryz.ntmps90
  go_wp2_with fail
  refine N.out.mono ?_
  rintro e w' ⟨rfl, hb⟩
  have k1 : X.size + s.size ≤ 9223372036854775807 := by omega
  go_wp2
  go_ret
  exact ⟨rfl, hb⟩
end Go.Proofs.YtgmmglmokkcgeaaGreat
/- Reading numbers and texts off bytes; plain. -/
namespace Go.Proofs.YtgmmglmokkcgeaaGreat
set_option linter.unusedVariables false
set_option linter.unusedSimpArgs false
open Go.RowKit
/-- What is left of bytes; were they not as they must be? -/
structure RdS where
  s : ByteArray
  bad : Bool
def numR (r : RdS) : Nat × RdS := ((Cod.rnum r.s.data.toList).1, ⟨str (Cod.rnum r.s.data.toList).2.1, r.bad || decide ((Cod.rnum r.s.data.toList).2.2 ≠ 0)⟩)
def smallR (r : RdS) : Nat × RdS := ((numR r).1 % 4294967296, ⟨(numR r).2.s, (numR r).2.bad || decide (4294967295 < (numR r).1)⟩)
def textR (r : RdS) : ByteArray × RdS := (str (Cod.rtext r.s.data.toList).1, ⟨str (Cod.rtext r.s.data.toList).2.1, r.bad || decide ((Cod.rtext r.s.data.toList).2.2 ≠ 0)⟩)
theorem rtext_le (l : List UInt8) : (Cod.rtext l).2.1.length ≤ l.length ∧ (Cod.rtext l).1.length ≤ l.length := by
  have h := rnum_le l
  unfold Cod.rtext
  split
  · simp
  · split
    · simp
    · simp only [List.length_drop, List.length_take]; omega
theorem rtext_code (l : List UInt8) : (Cod.rtext l).2.2 = 0 ∨ (Cod.rtext l).2.2 = 20 ∨ (Cod.rtext l).2.2 = 21 := by
  have h := rnum_code l
  unfold Cod.rtext
  split
  · exact h
  · split
    · simp
    · simp
theorem numR_le (r : RdS) : (numR r).2.s.size ≤ r.s.size ∧ (numR r).1 < 18446744073709551616 := by
  have := rnum_le r.s.data.toList
  rw [len_list] at this
  exact ⟨this, rnum_lt _⟩
theorem smallR_le (r : RdS) : (smallR r).2.s.size ≤ r.s.size ∧ (smallR r).1 < 4294967296 := ⟨(numR_le r).1, by unfold smallR; simp only; omega⟩
theorem textR_le (r : RdS) : (textR r).2.s.size ≤ r.s.size ∧ (textR r).1.size ≤ r.s.size := by
  have := rtext_le r.s.data.toList
  rw [len_list] at this
  exact this
theorem rnum_less {l : List UInt8} (h : (Cod.rnum l).2.2 = 0) : (Cod.rnum l).2.1.length + 1 ≤ l.length := by
  cases l with
  | nil => simp [Cod.rnum] at h
  | cons c r =>
    have hu : Cod.rnum (c :: r) = if 8 < c.toNat then (0, [], 21) else if r.length < c.toNat then (0, [], 20) else if 0 < c.toNat ∧ r.head? = some 0 then (0, [], 21) else (Cod.big (r.take c.toNat), r.drop c.toNat, 0) := rfl
    rw [hu] at h ⊢
    by_cases e1 : 8 < c.toNat
    · rw [if_pos e1] at h; simp at h
    · rw [if_neg e1] at h ⊢
      by_cases e2 : r.length < c.toNat
      · rw [if_pos e2] at h; simp at h
      · rw [if_neg e2] at h ⊢
        by_cases e3 : 0 < c.toNat ∧ r.head? = some 0
        · rw [if_pos e3] at h; simp at h
        · rw [if_neg e3]
          simp only [List.length_drop, List.length_cons]
          omega
theorem rtext_less {l : List UInt8} (h : (Cod.rtext l).2.2 = 0) : (Cod.rtext l).2.1.length + 1 ≤ l.length := by
  unfold Cod.rtext at h ⊢
  split
  · rename_i e; rw [if_pos e] at h; exact absurd h e
  · rename_i e
    rw [if_neg e] at h
    have h0 := rnum_less (by omega : (Cod.rnum l).2.2 = 0)
    split
    · rename_i e2; rw [if_pos e2] at h; simp at h
    · simp only [List.length_drop]; omega
theorem textR_less {r : RdS} (h : (textR r).2.bad = false) : (textR r).2.s.size + 1 ≤ r.s.size := by
  unfold textR at h ⊢
  simp only [Bool.or_eq_false_iff, decide_eq_false_iff_not, ne_eq, Decidable.not_not] at h
  have := rtext_less h.2
  rw [len_list] at this
  exact this
theorem bad_text {r : RdS} (h : r.bad = true) : (textR r).2.bad = true := by unfold textR; simp [h]
theorem bad_num {r : RdS} (h : r.bad = true) : (numR r).2.bad = true := by unfold numR; simp [h]
/-- At most so many steps, while the reader is well. -/
def runR {σ : Type} (rd : σ → RdS) (next : σ → σ) : Nat → σ → σ
  | 0, s => s
  | n + 1, s => if (rd s).bad then s else runR rd next n (next s)
theorem runR_bad {σ : Type} (rd : σ → RdS) (next : σ → σ) {s : σ} (h : (rd s).bad = true) (n : Nat) : runR rd next n s = s := by
  cases n
  · rfl
  · unfold runR; rw [h]; rfl
theorem runR_next {σ : Type} (rd : σ → RdS) (next : σ → σ) {s : σ} (h : (rd s).bad = false) (n : Nat) : runR rd next (n + 1) s = runR rd next n (next s) := by
  show (if (rd s).bad = true then s else runR rd next n (next s)) = _
  rw [h]
  rfl
end Go.Proofs.YtgmmglmokkcgeaaGreat
