/- The plain laws of chapter 02: numbers, texts, keys and frames as bytes. No program in sight. -/
import Derived.WalkKit
import Derived.Test.YtlpianjighhelaaDoorPlain
namespace Go.Proofs.YtlpianjighhelaaDoor.Cod

/-- So many bytes of a number, the highest first. -/
def beL : Nat → Nat → List UInt8
  | 0, _ => []
  | n + 1, x => beL n (x / 256) ++ [UInt8.ofNat x]

theorem beL_len (n x : Nat) : (beL n x).length = n := by
  induction n generalizing x with
  | zero => rfl
  | succ n ih => simp [beL, ih]

theorem beL_front (n x : Nat) : beL (n + 1) x = UInt8.ofNat (x / 256 ^ n) :: beL n x := by
  induction n generalizing x with
  | zero => simp [beL]
  | succ n ih =>
    rw [beL, ih (x / 256), beL]
    simp [Nat.div_div_eq_div_mul, Nat.pow_succ, Nat.mul_comm]

theorem beL_get (n x i : Nat) (h : i < n) : (beL n x)[i]? = some (UInt8.ofNat (x / 256 ^ (n - 1 - i))) := by
  induction n generalizing i with
  | zero => omega
  | succ n ih =>
    rw [beL_front]
    cases i with
    | zero => simp
    | succ i => rw [List.getElem?_cons_succ, ih i (by omega)]; congr 3; congr 1; omega

theorem beL_drop (n x k : Nat) : (beL (n + k) x).drop k = beL n x := by
  induction k with
  | zero => simp
  | succ k ih => rw [show n + (k + 1) = (n + k) + 1 by omega, beL_front, List.drop_succ_cons, ih]

/-- How many bytes a number has. -/
def nl : Nat → Nat → Nat
  | 0, _ => 0
  | f + 1, x => if x = 0 then 0 else nl f (x / 256) + 1
def nlen (x : Nat) : Nat := nl 8 x
theorem nl_le (f x : Nat) : nl f x ≤ f := by
  induction f generalizing x with
  | zero => exact Nat.le_refl _
  | succ f ih => unfold nl; split; · omega
                 · have := ih (x / 256); omega
theorem nlen_le (x : Nat) : nlen x ≤ 8 := nl_le 8 x
theorem nl_zero (f : Nat) : nl f 0 = 0 := by cases f <;> simp [nl]
theorem nl_pos (f x : Nat) (h : 0 < x) : nl (f + 1) x = nl f (x / 256) + 1 := by rw [nl, if_neg (by omega)]

/-- A number's bytes. -/
def num (x : Nat) : List UInt8 := UInt8.ofNat (nlen x) :: beL (nlen x) x
theorem num_len (x : Nat) : (num x).length = nlen x + 1 := by simp [num, beL_len]

theorem nl_up (f x k : Nat) (hk : k ≤ f) (h : ∀ j, j < k → 0 < x / 256 ^ j) : nl f x = nl (f - k) (x / 256 ^ k) + k := by
  induction k generalizing f x with
  | zero => simp
  | succ k ih =>
    obtain ⟨g, rfl⟩ : ∃ g, f = g + 1 := ⟨f - 1, by omega⟩
    have h0 := h 0 (by omega)
    simp at h0
    rw [nl_pos g x h0, ih g (x / 256) (by omega) (fun j hj => by have := h (j + 1) (by omega); rwa [Nat.pow_succ, Nat.mul_comm, ← Nat.div_div_eq_div_mul] at this)]
    rw [Nat.pow_succ, Nat.mul_comm, ← Nat.div_div_eq_div_mul, show g + 1 - (k + 1) = g - k by omega]; omega

theorem nl_spec (f x : Nat) (h : x < 256 ^ f) : x < 256 ^ nl f x ∧ (0 < x → 256 ^ (nl f x - 1) ≤ x) := by
  induction f generalizing x with
  | zero => simp at h; subst h; simp [nl]
  | succ f ih =>
    by_cases h0 : x = 0
    · subst h0; simp [nl]
    · rw [nl_pos f x (by omega)]
      have h2 : x / 256 < 256 ^ f := Nat.div_lt_of_lt_mul (by rw [Nat.pow_succ, Nat.mul_comm] at h; exact h)
      obtain ⟨a, b⟩ := ih (x / 256) h2
      refine ⟨?_, fun _ => ?_⟩
      · rw [Nat.pow_succ]; omega
      · by_cases h3 : x / 256 = 0
        · rw [h3, nl_zero]; simp; omega
        · have b' := b (by omega)
          have e : nl f (x / 256) + 1 - 1 = (nl f (x / 256) - 1) + 1 := by
            have : 0 < nl f (x / 256) := by
              cases f with
              | zero => simp at h2; omega
              | succ f => rw [nl_pos f _ (by omega)]; omega
            omega
          rw [e, Nat.pow_succ]
          omega

def text (s : List UInt8) : List UInt8 := num s.length ++ s


/-- The number that bytes are. -/
def big (l : List UInt8) : Nat := l.foldl (fun x c => (x * 256 + c.toNat) % 18446744073709551616) 0

def rnum : List UInt8 → Nat × List UInt8 × Nat
  | [] => (0, [], 20)
  | c :: r => if 8 < c.toNat then (0, [], 21) else if r.length < c.toNat then (0, [], 20) else if 0 < c.toNat ∧ r.head? = some 0 then (0, [], 21) else (big (r.take c.toNat), r.drop c.toNat, 0)

def rtext (l : List UInt8) : List UInt8 × List UInt8 × Nat :=
  if (rnum l).2.2 ≠ 0 then ([], [], (rnum l).2.2) else if (rnum l).2.1.length < (rnum l).1 then ([], [], 20) else ((rnum l).2.1.take (rnum l).1, (rnum l).2.1.drop (rnum l).1, 0)

theorem big_snoc (l : List UInt8) (c : UInt8) : big (l ++ [c]) = (big l * 256 + c.toNat) % 18446744073709551616 := by simp [big]
theorem big_lt (l : List UInt8) : big l < 18446744073709551616 := by
  rcases List.eq_nil_or_concat l with rfl | ⟨l', c, rfl⟩
  · decide
  · rw [List.concat_eq_append, big_snoc]; omega
theorem big_beL (n x : Nat) (h : x < 256 ^ n) (hn : n ≤ 8) : big (beL n x) = x := by
  induction n generalizing x with
  | zero => simp at h; subst h; rfl
  | succ n ih =>
    have h2 : x / 256 < 256 ^ n := Nat.div_lt_of_lt_mul (by rw [Nat.pow_succ, Nat.mul_comm] at h; exact h)
    have h3 : x < 18446744073709551616 := Nat.lt_of_lt_of_le h (by
      have : 256 ^ (n + 1) ≤ 256 ^ 8 := Nat.pow_le_pow_right (by decide) hn
      exact Nat.le_trans this (by decide))
    rw [beL, big_snoc, ih _ h2 (by omega)]
    simp
    omega
theorem beL_head (n x : Nat) (h0 : 0 < n) (h : 256 ^ (n - 1) ≤ x) (h1 : x < 256 ^ n) (r : List UInt8) : (beL n x ++ r).head? ≠ some 0 := by
  obtain ⟨m, rfl⟩ : ∃ m, n = m + 1 := ⟨n - 1, by omega⟩
  simp only [Nat.add_sub_cancel] at h
  rw [beL_front]
  have h2 : x / 256 ^ m < 256 := Nat.div_lt_of_lt_mul (by rw [Nat.pow_succ] at h1; exact h1)
  have h3 : 0 < x / 256 ^ m := Nat.div_pos h (Nat.pow_pos (by decide))
  simp only [List.cons_append, List.head?_cons, ne_eq, Option.some.injEq]
  intro e
  have := congrArg UInt8.toNat e
  simp at this
  omega
/-- What was written is read. -/
theorem rnum_num (x : Nat) (hx : x < 18446744073709551616) (r : List UInt8) : rnum (num x ++ r) = (x, r, 0) := by
  have hl := nlen_le x
  obtain ⟨h1, h2⟩ : x < 256 ^ nlen x ∧ (0 < x → 256 ^ (nlen x - 1) ≤ x) := nl_spec 8 x (Nat.lt_of_lt_of_eq hx (by decide))
  have hn : (UInt8.ofNat (nlen x)).toNat = nlen x := by simp; omega
  unfold num
  rw [List.cons_append]
  unfold rnum
  simp only
  rw [hn, if_neg (by omega), if_neg (by simp [beL_len]), if_neg, List.take_append_of_le_length (by rw [beL_len]; exact Nat.le_refl _), List.take_of_length_le (by rw [beL_len]; exact Nat.le_refl _), List.drop_append_of_le_length (by rw [beL_len]; exact Nat.le_refl _), List.drop_of_length_le (by rw [beL_len]; exact Nat.le_refl _), big_beL _ _ h1 hl]
  · rfl
  · rintro ⟨ha, hb⟩
    refine beL_head (nlen x) x ha (h2 ?_) h1 r hb
    by_cases h0 : x = 0
    · subst h0; simp [nlen, nl] at ha
    · omega
theorem rtext_text (s : List UInt8) (hs : s.length < 18446744073709551616) (r : List UInt8) : rtext (text s ++ r) = (s, r, 0) := by
  unfold rtext text
  rw [List.append_assoc, rnum_num _ hs]
  simp

def keyC (c : UInt8) : List UInt8 := if c = 0 then [0, 255] else [c]
def keyB (s : List UInt8) : List UInt8 := s.flatMap keyC
def key (s : List UInt8) : List UInt8 := keyB s ++ [0, 1]

/-- What stands ahead of a frame's bytes. -/
def hdr (s : List UInt8) : List UInt8 := beL 4 s.length ++ beL 4 (Crc.more 0 (beL 4 s.length ++ s))
theorem hdr_len (s : List UInt8) : (hdr s).length = 8 := by simp [hdr, beL_len]

/-- A signed number as it stands in its bytes. -/
def up (x : Int) : Nat := (x + 9223372036854775808).toNat
def rint (l : List UInt8) : Int × List UInt8 × Nat := if l.length < 8 then (0, [], 20) else ((big (l.take 8) : Int) - 9223372036854775808, l.drop 8, 0)

def rkey : List UInt8 → List UInt8 → List UInt8 × List UInt8 × Nat
  | _, [] => ([], [], 20)
  | _, [_] => ([], [], 20)
  | acc, c :: d :: r => if c ≠ 0 then rkey (acc ++ [c]) (d :: r) else if d = 1 then (acc, r, 0) else if d = 255 then rkey (acc ++ [0]) r else ([], [], 21)

def rframe (l : List UInt8) : List UInt8 × List UInt8 × Nat :=
  if l.length < 8 then ([], [], 20) else if 16777216 < big (l.take 4) then ([], [], 4) else if l.length - 8 < big (l.take 4) then ([], [], 20)
  else if hdr ((l.drop 8).take (big (l.take 4))) ≠ l.take 8 then ([], [], 22) else ((l.drop 8).take (big (l.take 4)), l.drop (8 + big (l.take 4)), 0)

/-! ### Order -/
theorem lt_front (p a b : List UInt8) : p ++ a < p ++ b ↔ a < b := by
  induction p with
  | nil => simp
  | cons c p ih => simp [List.cons_lt_cons_iff, ih]
theorem u8_lt (a b : UInt8) : a < b ↔ a.toNat < b.toNat := UInt8.lt_iff_toNat_lt
theorem beL_lt (n a b : Nat) (ha : a < 256 ^ n) (hb : b < 256 ^ n) : beL n a < beL n b ↔ a < b := by
  induction n generalizing a b with
  | zero => simp at ha hb; subst ha; subst hb; simp [beL]
  | succ n ih =>
    have hm : ∀ x, beL n x = beL n (x % 256 ^ n) := by
      intro x
      clear ih ha hb
      induction n generalizing x with
      | zero => rfl
      | succ n ih =>
        rw [beL, beL, ih (x / 256), ih (x % 256 ^ (n + 1) / 256)]
        have e1 : x % 256 ^ (n + 1) / 256 % 256 ^ n = x / 256 % 256 ^ n := by
          rw [Nat.pow_succ, Nat.mul_comm, Nat.mod_mul_right_div_self, Nat.mod_mod]
        have e2 : UInt8.ofNat (x % 256 ^ (n + 1)) = UInt8.ofNat x := by
          apply UInt8.toNat_inj.1
          simp only [UInt8.toNat_ofNat']
          rw [Nat.pow_succ, Nat.mul_comm, show (2 : Nat) ^ 8 = 256 from rfl, Nat.mod_mul_right_mod]
        rw [e1, e2]
    rw [beL_front, beL_front, List.cons_lt_cons_iff, hm a, hm b, ih _ _ (Nat.mod_lt _ (Nat.pow_pos (by decide))) (Nat.mod_lt _ (Nat.pow_pos (by decide)))]
    have a2 : a / 256 ^ n < 256 := Nat.div_lt_of_lt_mul (by rw [Nat.pow_succ] at ha; exact ha)
    have b2 : b / 256 ^ n < 256 := Nat.div_lt_of_lt_mul (by rw [Nat.pow_succ] at hb; exact hb)
    have ka : (UInt8.ofNat (a / 256 ^ n)).toNat = a / 256 ^ n := by simp; omega
    have kb : (UInt8.ofNat (b / 256 ^ n)).toNat = b / 256 ^ n := by simp; omega
    have ke : UInt8.ofNat (a / 256 ^ n) = UInt8.ofNat (b / 256 ^ n) ↔ a / 256 ^ n = b / 256 ^ n := by rw [← UInt8.toNat_inj, ka, kb]
    rw [u8_lt, ka, kb, ke]
    have da := Nat.div_add_mod a (256 ^ n)
    have db := Nat.div_add_mod b (256 ^ n)
    have pm := Nat.mod_lt a (Nat.pow_pos (n := n) (show 0 < 256 by decide))
    have pn := Nat.mod_lt b (Nat.pow_pos (n := n) (show 0 < 256 by decide))
    generalize 256 ^ n = P at *
    generalize a / P = A at *
    generalize b / P = B at *
    generalize a % P = a' at *
    generalize b % P = b' at *
    constructor
    · rintro (h | ⟨rfl, h⟩)
      · have : P * A + P ≤ P * B := by rw [← Nat.mul_succ]; exact Nat.mul_le_mul_left _ h
        omega
      · omega
    · intro h
      by_cases h1 : A < B
      · exact Or.inl h1
      · by_cases h2 : A = B
        · subst h2; exact Or.inr ⟨rfl, by omega⟩
        · exfalso
          have : P * B + P ≤ P * A := by rw [← Nat.mul_succ]; exact Nat.mul_le_mul_left _ (by omega)
          omega
theorem num_lt (a b : Nat) (ha : a < 18446744073709551616) (hb : b < 18446744073709551616) : num a < num b ↔ a < b := by
  obtain ⟨a1, a2⟩ : a < 256 ^ nlen a ∧ (0 < a → 256 ^ (nlen a - 1) ≤ a) := nl_spec 8 a (Nat.lt_of_lt_of_eq ha (by decide))
  obtain ⟨b1, b2⟩ : b < 256 ^ nlen b ∧ (0 < b → 256 ^ (nlen b - 1) ≤ b) := nl_spec 8 b (Nat.lt_of_lt_of_eq hb (by decide))
  have la := nlen_le a
  have lb := nlen_le b
  have ka : (UInt8.ofNat (nlen a)).toNat = nlen a := by simp; omega
  have kb : (UInt8.ofNat (nlen b)).toNat = nlen b := by simp; omega
  have ke : UInt8.ofNat (nlen a) = UInt8.ofNat (nlen b) ↔ nlen a = nlen b := by rw [← UInt8.toNat_inj, ka, kb]
  have far : ∀ {x y : Nat}, x < 256 ^ nlen x → (0 < y → 256 ^ (nlen y - 1) ≤ y) → nlen x < nlen y → x < y := by
    intro x y hx hy h
    have hy0 : 0 < y := by
      by_cases h0 : y = 0
      · subst h0; simp [nlen, nl] at h
      · omega
    have : 256 ^ nlen x ≤ 256 ^ (nlen y - 1) := Nat.pow_le_pow_right (by decide) (by omega)
    have := hy hy0
    omega
  unfold num
  rw [List.cons_lt_cons_iff, u8_lt, ka, kb, ke]
  constructor
  · rintro (h | ⟨h, g⟩)
    · exact far a1 b2 h
    · rw [h] at g
      exact (beL_lt _ _ _ (by rw [← h]; exact a1) b1).1 g
  · intro h
    by_cases h1 : nlen a < nlen b
    · exact Or.inl h1
    · by_cases h2 : nlen a = nlen b
      · refine Or.inr ⟨h2, ?_⟩
        rw [h2]
        exact (beL_lt _ _ _ (by rw [← h2]; exact a1) b1).2 h
      · have := far b1 a2 (by omega)
        omega
theorem int_lt (a b : Int) (ha : -9223372036854775808 ≤ a ∧ a < 9223372036854775808) (hb : -9223372036854775808 ≤ b ∧ b < 9223372036854775808) : beL 8 (up a) < beL 8 (up b) ↔ a < b := by
  have hp : (256 : Nat) ^ 8 = 18446744073709551616 := by decide
  rw [beL_lt 8 _ _ (by rw [hp]; unfold up; omega) (by rw [hp]; unfold up; omega)]
  unfold up
  omega

theorem key_cons (c : UInt8) (s : List UInt8) : key (c :: s) = keyC c ++ key s := by simp [key, keyB]
theorem key_nil : key [] = [0, 1] := rfl
theorem u8_pos {c : UInt8} (h : c ≠ 0) : 0 < c := by
  rw [u8_lt]
  have : c.toNat ≠ 0 := fun e => h (UInt8.toNat_inj.1 (by simpa using e))
  simp; omega
theorem key_zero (s : List UInt8) : key (0 :: s) = 0 :: 255 :: key s := by rw [key_cons]; rfl
theorem key_more {c : UInt8} (h : c ≠ 0) (s : List UInt8) : key (c :: s) = c :: key s := by rw [key_cons, keyC, if_neg h]; rfl
theorem key_lt : ∀ s t : List UInt8, key s < key t ↔ s < t
  | [], [] => by simp
  | [], d :: t => by
    by_cases h : d = 0
    · subst h; rw [key_zero, key_nil]; simp [List.cons_lt_cons_iff]
    · rw [key_more h, key_nil]; have := u8_pos h; simp [List.cons_lt_cons_iff, this]
  | c :: s, [] => by
    by_cases h : c = 0
    · subst h; rw [key_zero, key_nil]; simp [List.cons_lt_cons_iff]
    · rw [key_more h, key_nil]; simp [List.cons_lt_cons_iff, h]
  | c :: s, d :: t => by
    have ih := key_lt s t
    by_cases h : c = 0 <;> by_cases g : d = 0
    · subst h; subst g; rw [key_zero, key_zero]; simp [List.cons_lt_cons_iff, ih]
    · subst h; rw [key_zero, key_more g]
      have := u8_pos g
      simp [List.cons_lt_cons_iff, this]
    · subst g; rw [key_zero, key_more h]
      have := u8_pos h
      simp [List.cons_lt_cons_iff, h]
    · rw [key_more h, key_more g]; simp [List.cons_lt_cons_iff, ih]
theorem key_front : ∀ s t r : List UInt8, key s ++ r = key t → s = t
  | [], [], _, _ => rfl
  | [], d :: t, r, h => by
    by_cases g : d = 0
    · subst g; rw [key_zero, key_nil] at h; simp at h
    · rw [key_more g, key_nil] at h; simp at h; exact absurd h.1.symm g
  | c :: s, [], r, h => by
    by_cases g : c = 0
    · subst g; rw [key_zero, key_nil] at h; simp at h
    · rw [key_more g, key_nil] at h; simp at h; exact absurd h.1 g
  | c :: s, d :: t, r, h => by
    have ih := key_front s t r
    by_cases g : c = 0 <;> by_cases k : d = 0
    · subst g; subst k; rw [key_zero, key_zero] at h; simp at h; rw [ih h]
    · subst g; rw [key_zero, key_more k] at h; simp at h; exact absurd h.1.symm k
    · subst k; rw [key_zero, key_more g] at h; simp at h; exact absurd h.1 g
    · rw [key_more g, key_more k] at h; simp at h; rw [h.1, ih h.2]

/-! ### What was written is read -/
theorem rint_int (x : Int) (hx : -9223372036854775808 ≤ x ∧ x < 9223372036854775808) (r : List UInt8) : rint (beL 8 (up x) ++ r) = (x, r, 0) := by
  have hp : (256 : Nat) ^ 8 = 18446744073709551616 := by decide
  unfold rint
  rw [if_neg (by simp [beL_len]), List.take_append_of_le_length (by rw [beL_len]; exact Nat.le_refl _), List.take_of_length_le (by rw [beL_len]; exact Nat.le_refl _), List.drop_append_of_le_length (by rw [beL_len]; exact Nat.le_refl _), List.drop_of_length_le (by rw [beL_len]; exact Nat.le_refl _), big_beL _ _ (by rw [hp]; unfold up; omega) (Nat.le_refl _)]
  have : ((up x : Nat) : Int) - 9223372036854775808 = x := by unfold up; omega
  rw [this]; rfl
theorem rkey_one {c : UInt8} (h : c ≠ 0) (acc r : List UInt8) : rkey acc (c :: r) = rkey (acc ++ [c]) r := by
  cases r with
  | nil => rw [rkey, rkey]
  | cons d r => rw [rkey, if_pos h]
theorem rkey_key (s acc r : List UInt8) : rkey acc (key s ++ r) = (acc ++ s, r, 0) := by
  induction s generalizing acc with
  | nil => simp [key_nil, rkey]
  | cons c s ih =>
    by_cases h : c = 0
    · subst h
      rw [key_zero, List.cons_append, List.cons_append, rkey, if_neg (by simp), if_neg (by decide), if_pos rfl, ih]
      simp
    · rw [key_more h, List.cons_append, rkey_one h, ih]
      simp
theorem rframe_frame (s r : List UInt8) (hs : s.length ≤ 16777216) : rframe (hdr s ++ s ++ r) = (s, r, 0) := by
  have e4 : (hdr s ++ s ++ r).take 4 = beL 4 s.length := by
    unfold hdr
    rw [List.append_assoc, List.append_assoc, List.take_append_of_le_length (by simp [beL_len]), List.take_of_length_le (by simp [beL_len])]
  have hb : big ((hdr s ++ s ++ r).take 4) = s.length := by
    have h4 : (256 : Nat) ^ 4 = 4294967296 := by decide
    rw [e4, big_beL _ _ (by omega) (by decide)]
  have e8 : (hdr s ++ s ++ r).take 8 = hdr s := by
    rw [List.append_assoc, List.take_append_of_le_length (by rw [hdr_len]; exact Nat.le_refl _), List.take_of_length_le (by rw [hdr_len]; exact Nat.le_refl _)]
  have d8 : (hdr s ++ s ++ r).drop 8 = s ++ r := by
    rw [List.append_assoc, List.drop_append_of_le_length (by rw [hdr_len]; exact Nat.le_refl _), List.drop_of_length_le (by rw [hdr_len]; exact Nat.le_refl _)]
    rfl
  have hlen : (hdr s ++ s ++ r).length = 8 + s.length + r.length := by simp [hdr_len]; omega
  unfold rframe
  rw [hb, e8, ← List.drop_drop, d8, hlen, if_neg (by omega), if_neg (by omega), if_neg (by omega), if_neg (by simp)]
  simp

/-! ### There is one form -/
theorem big_back (l : List UInt8) (h : l.length ≤ 8) : beL l.length (big l) = l ∧ big l < 256 ^ l.length := by
  induction hn : l.length generalizing l with
  | zero => have := List.eq_nil_of_length_eq_zero hn; subst this; exact ⟨rfl, by decide⟩
  | succ n ih =>
    rcases List.eq_nil_or_concat l with rfl | ⟨l', c, rfl⟩
    · simp at hn
    · rw [List.concat_eq_append] at *
      have hn' : l'.length = n := by simp at hn; exact hn
      obtain ⟨h1, h2⟩ := ih l' (by omega) hn'
      have hc := c.toNat_lt
      have hb : big l' * 256 + c.toNat < 256 ^ (n + 1) := by rw [Nat.pow_succ]; omega
      have h8 : (256 : Nat) ^ (n + 1) ≤ 256 ^ 8 := Nat.pow_le_pow_right (by decide) (by omega)
      have h9 : (256 : Nat) ^ 8 = 18446744073709551616 := by decide
      rw [big_snoc, Nat.mod_eq_of_lt (by omega)]
      refine ⟨?_, hb⟩
      rw [beL, show (big l' * 256 + c.toNat) / 256 = big l' by omega, h1]
      congr 2
      apply UInt8.toNat_inj.1
      simp
theorem nlen_of (n x : Nat) (hn : n ≤ 8) (h1 : x < 256 ^ n) (h2 : 0 < n → 256 ^ (n - 1) ≤ x) : nlen x = n := by
  have hx : x < 256 ^ 8 := Nat.lt_of_lt_of_le h1 (Nat.pow_le_pow_right (by decide) hn)
  obtain ⟨a1, a2⟩ : x < 256 ^ nlen x ∧ (0 < x → 256 ^ (nlen x - 1) ≤ x) := nl_spec 8 x hx
  by_cases h0 : n = 0
  · subst h0; simp at h1; subst h1; rfl
  · have hp : 0 < x := Nat.lt_of_lt_of_le (Nat.pow_pos (by decide)) (h2 (by omega))
    have a3 := a2 hp
    have h3 := h2 (by omega)
    have u1 : 256 ^ (nlen x - 1) < 256 ^ n := Nat.lt_of_le_of_lt a3 h1
    have u2 : 256 ^ (n - 1) < 256 ^ nlen x := Nat.lt_of_le_of_lt h3 a1
    have v1 := (Nat.pow_lt_pow_iff_right (show 1 < 256 by decide)).1 u1
    have v2 := (Nat.pow_lt_pow_iff_right (show 1 < 256 by decide)).1 u2
    omega
theorem big_head (c : UInt8) (r : List UInt8) (h : c ≠ 0) (hl : r.length < 8) : 256 ^ r.length ≤ big (c :: r) := by
  have h1 := (big_back (c :: r) (by simp; omega))
  obtain ⟨h1, h2⟩ := h1
  have h3 : beL (r.length + 1) (big (c :: r)) = c :: r := h1
  rw [beL_front] at h3
  have h4 : UInt8.ofNat (big (c :: r) / 256 ^ r.length) = c := (List.cons.inj h3).1
  by_cases h5 : 256 ^ r.length ≤ big (c :: r)
  · exact h5
  · rw [Nat.div_eq_of_lt (by omega)] at h4
    exact absurd h4.symm h
theorem rnum_form1 (l : List UInt8) (h : (rnum l).2.2 = 0) : num (rnum l).1 ++ (rnum l).2.1 = l := by
  cases l with
  | nil => simp [rnum] at h
  | cons c r =>
    unfold rnum at h ⊢
    simp only at h ⊢
    by_cases h1 : 8 < c.toNat
    · simp [h1] at h
    · rw [if_neg h1] at h ⊢
      by_cases h2 : r.length < c.toNat
      · simp [h2] at h
      · rw [if_neg h2] at h ⊢
        by_cases h3 : 0 < c.toNat ∧ r.head? = some 0
        · simp [h3] at h
        · rw [if_neg h3]
          simp only
          have hl : (r.take c.toNat).length = c.toNat := by simp; omega
          obtain ⟨b1, b2⟩ := big_back (r.take c.toNat) (by omega)
          rw [hl] at b1 b2
          have hn : nlen (big (r.take c.toNat)) = c.toNat := by
            refine nlen_of _ _ (by omega) b2 (fun hp => ?_)
            cases r with
            | nil => simp at h2; omega
            | cons d r' =>
              have hd : d ≠ 0 := fun e => h3 ⟨hp, by simp [e]⟩
              obtain ⟨m, hm⟩ : ∃ m, c.toNat = m + 1 := ⟨c.toNat - 1, by omega⟩
              rw [hm, List.take_succ_cons]
              have hl2 : (r'.take m).length = m := by simp at h2 ⊢; omega
              have := big_head d (r'.take m) hd (by omega)
              rw [hl2] at this
              simpa using this
          unfold num
          rw [hn, b1, List.cons_append, List.take_append_drop]
          congr 1
          apply UInt8.toNat_inj.1
          simp
theorem rint_form1 (l : List UInt8) (h : (rint l).2.2 = 0) : beL 8 (up (rint l).1) ++ (rint l).2.1 = l := by
  unfold rint at h ⊢
  by_cases h1 : l.length < 8
  · simp [h1] at h
  · rw [if_neg h1]
    simp only
    have hl : (l.take 8).length = 8 := by simp; omega
    obtain ⟨b1, b2⟩ := big_back (l.take 8) (by omega)
    rw [hl] at b1 b2
    have : up ((big (l.take 8) : Int) - 9223372036854775808) = big (l.take 8) := by unfold up; omega
    rw [this, b1, List.take_append_drop]
theorem rtext_form1 (l : List UInt8) (h : (rtext l).2.2 = 0) : text (rtext l).1 ++ (rtext l).2.1 = l := by
  unfold rtext at h ⊢
  by_cases h1 : (rnum l).2.2 ≠ 0
  · simp [h1] at h
  · rw [if_neg h1] at h ⊢
    by_cases h2 : (rnum l).2.1.length < (rnum l).1
    · simp [h2] at h
    · rw [if_neg h2]
      simp only
      unfold text
      have hl : ((rnum l).2.1.take (rnum l).1).length = (rnum l).1 := by simp; omega
      rw [hl, List.append_assoc, List.take_append_drop]
      exact rnum_form1 l (by simpa using h1)
theorem rkey_form1 : ∀ (acc l : List UInt8), (rkey acc l).2.2 = 0 → key (rkey acc l).1 ++ (rkey acc l).2.1 = keyB acc ++ l
  | _, [], h => by simp [rkey] at h
  | acc, [c], h => by simp [rkey] at h
  | acc, c :: d :: r, h => by
    unfold rkey at h ⊢
    by_cases h1 : c ≠ 0
    · rw [if_pos h1] at h ⊢
      rw [rkey_form1 (acc ++ [c]) (d :: r) h]
      simp [keyB, keyC, h1]
    · rw [if_neg h1] at h ⊢
      simp at h1
      subst h1
      by_cases h2 : d = 1
      · subst h2; simp [key]
      · rw [if_neg h2] at h ⊢
        by_cases h3 : d = 255
        · subst h3
          rw [if_pos rfl] at h ⊢
          rw [rkey_form1 (acc ++ [0]) r h]
          simp [keyB, keyC]
        · rw [if_neg h3] at h; simp at h

end Go.Proofs.YtlpianjighhelaaDoor.Cod
