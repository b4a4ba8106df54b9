/- The plain laws of the register (CRC-32), on natural numbers: no program in sight. -/
namespace Go.Proofs.YtlpianjighhelaaDoor.Crc

def poly : Nat := 3988292384
def ones : Nat := 4294967295

/-- A register behind one bit 0. -/
def bit (r : Nat) : Nat := if r % 2 = 1 then r / 2 ^^^ poly else r / 2

def iter (f : Nat → Nat) : Nat → Nat → Nat
  | 0, r => r
  | n + 1, r => iter f n (f r)

def byte0 (r : Nat) : Nat := iter bit 8 r
def step (r c : Nat) : Nat := byte0 (r ^^^ c)
def feed (r : Nat) (s : List UInt8) : Nat := s.foldl (fun r c => step r c.toNat) r
def more (sum : Nat) (s : List UInt8) : Nat := feed (sum ^^^ ones) s ^^^ ones

theorem iter_succ' (f : Nat → Nat) (n r : Nat) : iter f (n + 1) r = f (iter f n r) := by
  induction n generalizing r with
  | zero => rfl
  | succ n ih => rw [iter, ih, iter]

theorem iter_add (f : Nat → Nat) (m n r : Nat) : iter f (m + n) r = iter f n (iter f m r) := by
  induction m generalizing r with
  | zero => simp [iter]
  | succ m ih => rw [Nat.succ_add, iter, ih, iter]

theorem bit_xor (a b : Nat) : bit (a ^^^ b) = bit a ^^^ bit b := by
  have h := Nat.xor_mod_two_eq_one (a := a) (b := b)
  have hd : (a ^^^ b) / 2 = a / 2 ^^^ b / 2 := Nat.xor_div_two
  unfold bit
  rw [hd]
  by_cases ha : a % 2 = 1 <;> by_cases hb : b % 2 = 1
  · rw [if_neg (by rw [h]; simp [ha, hb]), if_pos ha, if_pos hb]
    rw [Nat.xor_assoc, Nat.xor_comm (b/2) poly, ← Nat.xor_assoc poly, Nat.xor_self, Nat.zero_xor]
  · rw [if_pos (by rw [h]; simp [ha, hb]), if_pos ha, if_neg hb]
    rw [Nat.xor_assoc, Nat.xor_assoc, Nat.xor_comm poly]
  · rw [if_pos (by rw [h]; simp [ha, hb]), if_neg ha, if_pos hb]
    rw [Nat.xor_assoc]
  · rw [if_neg (by rw [h]; simp [ha, hb]), if_neg ha, if_neg hb]

theorem iter_xor (n a b : Nat) : iter bit n (a ^^^ b) = iter bit n a ^^^ iter bit n b := by
  induction n generalizing a b with
  | zero => rfl
  | succ n ih => simp only [iter, bit_xor, ih]

theorem byte0_xor (a b : Nat) : byte0 (a ^^^ b) = byte0 a ^^^ byte0 b := iter_xor 8 a b

theorem bit_zero : bit 0 = 0 := by decide
theorem iter_zero (n : Nat) : iter bit n 0 = 0 := by
  induction n with
  | zero => rfl
  | succ n ih => rw [iter, bit_zero, ih]

theorem bit_lt {r : Nat} (h : r < 4294967296) : bit r < 4294967296 := by
  unfold bit; split
  · exact Nat.xor_lt_two_pow (n := 32) (by omega) (by decide)
  · omega

theorem iter_lt {r : Nat} (n : Nat) (h : r < 4294967296) : iter bit n r < 4294967296 := by
  induction n generalizing r with
  | zero => exact h
  | succ n ih => exact ih (bit_lt h)

theorem step_lt {r c : Nat} (h : r < 4294967296) (hc : c < 4294967296) : step r c < 4294967296 :=
  iter_lt 8 (Nat.xor_lt_two_pow (n := 32) h hc)

theorem feed_lt {r : Nat} (s : List UInt8) (h : r < 4294967296) : feed r s < 4294967296 := by
  induction s generalizing r with
  | nil => exact h
  | cons c s ih => exact ih (step_lt h (by have := c.toNat_lt; omega))

theorem more_lt {r : Nat} (s : List UInt8) (h : r < 4294967296) : more r s < 4294967296 :=
  Nat.xor_lt_two_pow (n := 32) (feed_lt s (Nat.xor_lt_two_pow (n := 32) h (by decide))) (by decide)

theorem feed_append (r : Nat) (a b : List UInt8) : feed r (a ++ b) = feed (feed r a) b := by
  simp [feed, List.foldl_append]

/-- The register behind n bytes 0. -/
def shift (r n : Nat) : Nat := iter bit (8 * n) r

theorem shift_zero (r : Nat) : shift r 0 = r := rfl
theorem shift_succ (r n : Nat) : shift r (n + 1) = shift (byte0 r) n := by
  unfold shift byte0; rw [Nat.mul_add, Nat.add_comm, iter_add]
theorem shift_succ' (r n : Nat) : shift r (n + 1) = byte0 (shift r n) := by
  unfold shift byte0; rw [Nat.mul_add, iter_add]
theorem shift_xor (a b n : Nat) : shift (a ^^^ b) n = shift a n ^^^ shift b n := iter_xor _ a b
theorem shift_lt {r : Nat} (n : Nat) (h : r < 4294967296) : shift r n < 4294967296 := iter_lt _ h
theorem shift_add (r m n : Nat) : shift r (m + n) = shift (shift r m) n := by
  unfold shift; rw [Nat.mul_add, iter_add]

/-- Linear: a register and a text part. -/
theorem feed_split (r : Nat) (s : List UInt8) : feed r s = shift r s.length ^^^ feed 0 s := by
  induction s generalizing r with
  | nil => simp [feed, shift_zero]
  | cons c s ih =>
    show feed (step r c.toNat) s = _ ^^^ feed (step 0 c.toNat) s
    rw [ih, ih (step 0 c.toNat), ← Nat.xor_assoc]
    congr 1
    rw [List.length_cons, shift_succ, ← shift_xor]
    congr 1
    unfold step
    rw [← byte0_xor, Nat.zero_xor]

theorem feed_zeros (r n : Nat) : feed r (List.replicate n 0) = shift r n := by
  induction n generalizing r with
  | zero => rfl
  | succ n ih =>
    show feed (step r 0) _ = _
    rw [ih, shift_succ]; unfold step; rw [Nat.xor_zero]

theorem xx (a b : Nat) : a ^^^ b ^^^ b = a := by rw [Nat.xor_assoc, Nat.xor_self, Nat.xor_zero]

/-- The sum of two texts, one behind the other. -/
theorem more_append (n : Nat) (a b : List UInt8) : more (more n a) b = more n (a ++ b) := by
  unfold more; rw [xx, feed_append]

theorem xor_zero_eq {a b : Nat} (h : a ^^^ b = 0) : a = b := by
  have e : a ^^^ b ^^^ b = b := by rw [h, Nat.zero_xor]
  rw [xx] at e; exact e

theorem join_eq (a b : List UInt8) : shift (more 0 a) b.length ^^^ more 0 b = more 0 (a ++ b) := by
  rw [← more_append]
  generalize more 0 a = x
  unfold more
  rw [feed_split (0 ^^^ ones) b, feed_split (x ^^^ ones) b, Nat.zero_xor, shift_xor]
  generalize shift x b.length = p; generalize shift ones b.length = q; generalize feed 0 b = z
  simp only [Nat.xor_assoc]

theorem noughts_eq (a : List UInt8) (n : Nat) : shift (more 0 a ^^^ ones) n ^^^ ones = more 0 (a ++ List.replicate n 0) := by
  rw [← more_append]; generalize more 0 a = x; unfold more; rw [feed_zeros]

/-! ### What is turned within 32 bits is noticed. -/
theorem bit_eq_zero {r : Nat} (h : r < 4294967296) (hb : bit r = 0) : r = 0 := by
  unfold bit at hb
  split at hb
  · exfalso
    have : r / 2 = poly := xor_zero_eq hb
    unfold poly at this; omega
  · omega

theorem iter_eq_zero {r : Nat} (n : Nat) (h : r < 4294967296) (hb : iter bit n r = 0) : r = 0 := by
  induction n generalizing r with
  | zero => exact hb
  | succ n ih => exact bit_eq_zero h (ih (bit_lt h) hb)

theorem bit_double (r : Nat) : bit (r * 2) = r := by
  unfold bit; rw [if_neg (by omega)]; omega

theorem iter_pow (n r : Nat) : iter bit n (r * 2 ^ n) = r := by
  induction n generalizing r with
  | zero => simp [iter]
  | succ n ih =>
    rw [iter, show r * 2 ^ (n + 1) = (r * 2 ^ n) * 2 by rw [Nat.pow_succ, Nat.mul_assoc], bit_double, ih]

theorem shift_inj {a b : Nat} (n : Nat) (ha : a < 4294967296) (hb : b < 4294967296) (h : shift a n = shift b n) : a = b := by
  have h0 : shift (a ^^^ b) n = 0 := by rw [shift_xor, h, Nat.xor_self]
  exact xor_zero_eq (iter_eq_zero _ (Nat.xor_lt_two_pow (n := 32) ha hb) h0)

/-- A number's bytes, the lowest first. -/
def bytesOf : Nat → Nat → List Nat
  | 0, _ => []
  | k + 1, x => x % 256 :: bytesOf k (x / 256)

def feedN (r : Nat) (s : List Nat) : Nat := s.foldl step r

theorem split256 (x : Nat) : x = x % 256 ^^^ (x / 256) * 2 ^ 8 := by
  apply Nat.eq_of_testBit_eq
  intro i
  rw [Nat.testBit_xor, show (256 : Nat) = 2 ^ 8 from rfl, Nat.testBit_mod_two_pow, Nat.testBit_mul_two_pow, Nat.testBit_div_two_pow]
  by_cases h : i < 8
  · simp [h, show ¬ 8 ≤ i by omega]
  · simp [h, show 8 ≤ i by omega]

theorem byte0_shifted (x : Nat) : byte0 (x * 2 ^ 8) = x := iter_pow 8 x

theorem byte0_split (x : Nat) : byte0 x = byte0 (x % 256) ^^^ x / 256 := by
  conv => lhs; rw [split256 x]
  rw [byte0_xor, byte0_shifted]

theorem feedN_bytes (k x r : Nat) : feedN r (bytesOf k x) ^^^ x / 256 ^ k = shift (r ^^^ x) k := by
  induction k generalizing x r with
  | zero => simp [bytesOf, feedN, shift_zero]
  | succ k ih =>
    show feedN (step r (x % 256)) (bytesOf k (x / 256)) ^^^ _ = _
    rw [show x / 256 ^ (k + 1) = x / 256 / 256 ^ k by rw [Nat.pow_succ, Nat.mul_comm, Nat.div_div_eq_div_mul], ih, shift_succ]
    congr 1
    unfold step
    rw [byte0_xor, byte0_xor r x, byte0_split x, Nat.xor_assoc]

/-- A burst of at most 32 bits, within five bytes, leaves no register at nought. -/
theorem burst (by' sh : Nat) (h1 : by' < 4294967296) (h0 : by' ≠ 0) (hs : sh < 8) : feedN 0 (bytesOf 5 (by' * 2 ^ sh)) ≠ 0 := by
  intro h
  have hlt : by' * 2 ^ sh < 256 ^ 5 := by
    have : 2 ^ sh ≤ 2 ^ 7 := Nat.pow_le_pow_right (by decide) (by omega)
    calc by' * 2 ^ sh ≤ by' * 2 ^ 7 := Nat.mul_le_mul_left _ this
      _ < 256 ^ 5 := by omega
  have := feedN_bytes 5 (by' * 2 ^ sh) 0
  rw [h, Nat.zero_xor, Nat.zero_xor, Nat.div_eq_of_lt hlt] at this
  unfold shift at this
  rw [show 8 * 5 = sh + (40 - sh) by omega, iter_add, iter_pow] at this
  exact h0 (iter_eq_zero _ h1 this.symm)

theorem feedN_append (r : Nat) (a b : List Nat) : feedN r (a ++ b) = feedN (feedN r a) b := by
  simp [feedN, List.foldl_append]

theorem feed_eq (r : Nat) (s : List UInt8) : feed r s = feedN r (s.map UInt8.toNat) := by
  simp [feed, feedN, List.foldl_map]

/-- Two texts of one length: their registers' difference is the register of the difference. -/
theorem feedN_xor (a b : Nat) : ∀ (s t : List Nat), s.length = t.length → feedN a s ^^^ feedN b t = feedN (a ^^^ b) (List.zipWith (· ^^^ ·) s t)
  | [], [], _ => rfl
  | c :: s, d :: t, h => by
    have ih := feedN_xor (step a c) (step b d) s t (by simpa using h)
    show feedN (step a c) s ^^^ feedN (step b d) t = feedN (step (a ^^^ b) (c ^^^ d)) _
    rw [ih]
    congr 1
    unfold step
    rw [← byte0_xor]
    congr 1
    rw [Nat.xor_assoc, ← Nat.xor_assoc c, Nat.xor_comm c b, Nat.xor_assoc b, ← Nat.xor_assoc a]
  | [], _ :: _, h => by simp at h
  | _ :: _, [], h => by simp at h

theorem feedN_zeros (r : Nat) (n : Nat) : feedN r (List.replicate n 0) = shift r n := by
  induction n generalizing r with
  | zero => rfl
  | succ n ih =>
    show feedN (step r 0) _ = _
    rw [ih, shift_succ]; unfold step; rw [Nat.xor_zero]

end Go.Proofs.YtlpianjighhelaaDoor.Crc

namespace Go.Proofs.YtlpianjighhelaaDoor.Crc
/-! ### Digits -/
def dig (c : Nat) : Option Nat := if 48 ≤ c ∧ c ≤ 57 then some (c - 48) else if 97 ≤ c ∧ c ≤ 102 then some (c - 87) else none
def acc (n d : Nat) : Nat := n * 16 % 4294967296 ||| d
def rd : Nat → List UInt8 → Option Nat
  | n, [] => some n
  | n, c :: l => match dig c.toNat with
    | none => none
    | some d => rd (acc n d) l
def rdVal (s : List UInt8) : Nat := if s.length = 8 then (rd 0 s).getD 0 else 0
def rdErr (s : List UInt8) : Nat := if s.length = 8 ∧ (rd 0 s).isSome then 0 else 2

theorem dig_lo {c : Nat} (h1 : 48 ≤ c) (h2 : c ≤ 57) : dig c = some (c - 48) := by unfold dig; rw [if_pos ⟨h1, h2⟩]
theorem dig_hi {c : Nat} (h1 : 97 ≤ c) (h2 : c ≤ 102) : dig c = some (c - 87) := by unfold dig; rw [if_neg (by omega), if_pos ⟨h1, h2⟩]
theorem dig_no {c : Nat} (h1 : ¬ (48 ≤ c ∧ c ≤ 57)) (h2 : ¬ (97 ≤ c ∧ c ≤ 102)) : dig c = none := by unfold dig; rw [if_neg h1, if_neg h2]
theorem dig_lt {c d : Nat} (h : dig c = some d) : d < 16 := by
  unfold dig at h; split at h
  · simp at h; omega
  · split at h
    · simp at h; omega
    · simp at h
theorem acc_lt {n d : Nat} (hd : d < 4294967296) : acc n d < 4294967296 := Nat.or_lt_two_pow (n := 32) (Nat.mod_lt _ (by decide)) hd
theorem rd_cons (n : Nat) (c : UInt8) (l : List UInt8) (d : Nat) (h : dig c.toNat = some d) : rd n (c :: l) = rd (acc n d) l := by simp only [rd, h]
theorem rd_cons_none (n : Nat) (c : UInt8) (l : List UInt8) (h : dig c.toNat = none) : rd n (c :: l) = none := by simp only [rd, h]
theorem rdErr_none (s : List UInt8) (h : rd 0 s = none) : rdErr s = 2 := by simp [rdErr, h]
theorem rdVal_none (s : List UInt8) (h : rd 0 s = none) : rdVal s = 0 := by simp [rdVal, h]
theorem rdErr_len (s : List UInt8) (h : s.length ≠ 8) : rdErr s = 2 := by simp [rdErr, h]
theorem rdVal_len (s : List UInt8) (h : s.length ≠ 8) : rdVal s = 0 := by simp [rdVal, h]
theorem rdErr_some (s : List UInt8) (x : Nat) (hl : s.length = 8) (h : rd 0 s = some x) : rdErr s = 0 := by simp [rdErr, h, hl]
theorem rdVal_some (s : List UInt8) (x : Nat) (hl : s.length = 8) (h : rd 0 s = some x) : rdVal s = x := by simp [rdVal, h, hl]

/-- A digit's letter. -/
def hex (d : Nat) : UInt8 := if d < 10 then UInt8.ofNat (48 + d) else UInt8.ofNat (87 + d)
/-- The last k digits of a number. -/
def hexes : Nat → Nat → List UInt8
  | 0, _ => []
  | k + 1, n => hexes k (n / 16) ++ [hex (n % 16)]

end Go.Proofs.YtlpianjighhelaaDoor.Crc

namespace Go.Proofs.YtlpianjighhelaaDoor.Crc
theorem hexes_len (k n : Nat) : (hexes k n).length = k := by
  induction k generalizing n with
  | zero => rfl
  | succ k ih => simp [hexes, ih]

theorem hexes_front (k n : Nat) : hexes (k + 1) n = hex (n / 16 ^ k % 16) :: hexes k n := by
  induction k generalizing n with
  | zero => simp [hexes]
  | succ k ih =>
    rw [hexes, ih (n / 16), hexes]
    simp [Nat.div_div_eq_div_mul, Nat.pow_succ, Nat.mul_comm]

theorem dig_hex {d : Nat} (h : d < 16) : dig (hex d).toNat = some d := by
  have : ∀ d, d < 16 → dig (hex d).toNat = some d := by decide
  exact this d h

theorem acc_small {m d : Nat} (hm : m * 16 < 4294967296) (hd : d < 16) : acc m d = m * 16 + d := by
  unfold acc
  rw [Nat.mod_eq_of_lt hm, show m * 16 = m <<< 4 by rw [Nat.shiftLeft_eq], ← Nat.shiftLeft_add_eq_or_of_lt (by exact hd)]

theorem rd_append (x : Nat) (a b : List UInt8) : rd x (a ++ b) = (rd x a).bind fun y => rd y b := by
  induction a generalizing x with
  | nil => rfl
  | cons c a ih =>
    simp only [List.cons_append, rd]
    cases dig c.toNat with
    | none => rfl
    | some d => exact ih _

theorem rd_hexes (k n : Nat) (h : n < 16 ^ k) (hk : k ≤ 8) : rd 0 (hexes k n) = some n := by
  induction k generalizing n with
  | zero => simp at h; subst h; rfl
  | succ k ih =>
    have hp : 16 ^ (k + 1) ≤ 16 ^ 8 := Nat.pow_le_pow_right (by decide) hk
    have e8 : (16 : Nat) ^ 8 = 4294967296 := by decide
    have hs : (16 : Nat) ^ (k + 1) = 16 ^ k * 16 := Nat.pow_succ 16 k
    rw [hexes, rd_append, ih (n / 16) (by omega) (by omega)]
    simp only [Option.bind_some, rd, dig_hex (Nat.mod_lt n (by decide : 16 > 0))]
    rw [acc_small (by omega) (by omega)]
    congr 1; omega

theorem rd_text (n : Nat) (h : n < 4294967296) : rdVal (hexes 8 n) = n ∧ rdErr (hexes 8 n) = 0 := by
  have := rd_hexes 8 n (by rw [show (16 : Nat) ^ 8 = 4294967296 by decide]; exact h) (by decide)
  exact ⟨rdVal_some _ _ (hexes_len 8 n) this, rdErr_some _ _ (hexes_len 8 n) this⟩
end Go.Proofs.YtlpianjighhelaaDoor.Crc
