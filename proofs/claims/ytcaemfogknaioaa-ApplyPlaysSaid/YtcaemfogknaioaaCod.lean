/- The plain laws of numbers and texts as bytes. No program in sight. -/
import Derived.WalkKit
namespace Go.Proofs.Ytcaemfogknaioaa.Cod

/-- So many bytes of a number, the highest first. -/
def beL : Nat → Nat → List UInt8
  | 0, _ => []
  | n + 1, x => beL n (x / 256) ++ [UInt8.ofNat x]

theorem beL_len (n x : Nat) : (beL n x).length = n := by
  induction n generalizing x with
  | zero => rfl
  | succ n ih => simp [beL, ih]

theorem beL_front (n x : Nat) : beL (n + 1) x = UInt8.ofNat (x / 256 ^ n) :: beL n x := by
  induction n generalizing x with
  | zero => simp [beL]
  | succ n ih =>
    rw [beL, ih (x / 256), beL]
    simp [Nat.div_div_eq_div_mul, Nat.pow_succ, Nat.mul_comm]

theorem beL_get (n x i : Nat) (h : i < n) : (beL n x)[i]? = some (UInt8.ofNat (x / 256 ^ (n - 1 - i))) := by
  induction n generalizing i with
  | zero => omega
  | succ n ih =>
    rw [beL_front]
    cases i with
    | zero => simp
    | succ i => rw [List.getElem?_cons_succ, ih i (by omega)]; congr 3; congr 1; omega

theorem beL_drop (n x k : Nat) : (beL (n + k) x).drop k = beL n x := by
  induction k with
  | zero => simp
  | succ k ih => rw [show n + (k + 1) = (n + k) + 1 by omega, beL_front, List.drop_succ_cons, ih]

/-- How many bytes a number has. -/
def nl : Nat → Nat → Nat
  | 0, _ => 0
  | f + 1, x => if x = 0 then 0 else nl f (x / 256) + 1
def nlen (x : Nat) : Nat := nl 8 x
theorem nl_le (f x : Nat) : nl f x ≤ f := by
  induction f generalizing x with
  | zero => exact Nat.le_refl _
  | succ f ih => unfold nl; split; · omega
                 · have := ih (x / 256); omega
theorem nlen_le (x : Nat) : nlen x ≤ 8 := nl_le 8 x
theorem nl_zero (f : Nat) : nl f 0 = 0 := by cases f <;> simp [nl]
theorem nl_pos (f x : Nat) (h : 0 < x) : nl (f + 1) x = nl f (x / 256) + 1 := by rw [nl, if_neg (by omega)]

/-- A number's bytes. -/
def num (x : Nat) : List UInt8 := UInt8.ofNat (nlen x) :: beL (nlen x) x
theorem num_len (x : Nat) : (num x).length = nlen x + 1 := by simp [num, beL_len]

theorem nl_up (f x k : Nat) (hk : k ≤ f) (h : ∀ j, j < k → 0 < x / 256 ^ j) : nl f x = nl (f - k) (x / 256 ^ k) + k := by
  induction k generalizing f x with
  | zero => simp
  | succ k ih =>
    obtain ⟨g, rfl⟩ : ∃ g, f = g + 1 := ⟨f - 1, by omega⟩
    have h0 := h 0 (by omega)
    simp at h0
    rw [nl_pos g x h0, ih g (x / 256) (by omega) (fun j hj => by have := h (j + 1) (by omega); rwa [Nat.pow_succ, Nat.mul_comm, ← Nat.div_div_eq_div_mul] at this)]
    rw [Nat.pow_succ, Nat.mul_comm, ← Nat.div_div_eq_div_mul, show g + 1 - (k + 1) = g - k by omega]; omega

theorem nl_spec (f x : Nat) (h : x < 256 ^ f) : x < 256 ^ nl f x ∧ (0 < x → 256 ^ (nl f x - 1) ≤ x) := by
  induction f generalizing x with
  | zero => simp at h; subst h; simp [nl]
  | succ f ih =>
    by_cases h0 : x = 0
    · subst h0; simp [nl]
    · rw [nl_pos f x (by omega)]
      have h2 : x / 256 < 256 ^ f := Nat.div_lt_of_lt_mul (by rw [Nat.pow_succ, Nat.mul_comm] at h; exact h)
      obtain ⟨a, b⟩ := ih (x / 256) h2
      refine ⟨?_, fun _ => ?_⟩
      · rw [Nat.pow_succ]; omega
      · by_cases h3 : x / 256 = 0
        · rw [h3, nl_zero]; simp; omega
        · have b' := b (by omega)
          have e : nl f (x / 256) + 1 - 1 = (nl f (x / 256) - 1) + 1 := by
            have : 0 < nl f (x / 256) := by
              cases f with
              | zero => simp at h2; omega
              | succ f => rw [nl_pos f _ (by omega)]; omega
            omega
          rw [e, Nat.pow_succ]
          omega

def text (s : List UInt8) : List UInt8 := num s.length ++ s


/-- The number that bytes are. -/
def big (l : List UInt8) : Nat := l.foldl (fun x c => (x * 256 + c.toNat) % 18446744073709551616) 0

def rnum : List UInt8 → Nat × List UInt8 × Nat
  | [] => (0, [], 20)
  | c :: r => if 8 < c.toNat then (0, [], 21) else if r.length < c.toNat then (0, [], 20) else if 0 < c.toNat ∧ r.head? = some 0 then (0, [], 21) else (big (r.take c.toNat), r.drop c.toNat, 0)

def rtext (l : List UInt8) : List UInt8 × List UInt8 × Nat :=
  if (rnum l).2.2 ≠ 0 then ([], [], (rnum l).2.2) else if (rnum l).2.1.length < (rnum l).1 then ([], [], 20) else ((rnum l).2.1.take (rnum l).1, (rnum l).2.1.drop (rnum l).1, 0)

theorem big_snoc (l : List UInt8) (c : UInt8) : big (l ++ [c]) = (big l * 256 + c.toNat) % 18446744073709551616 := by simp [big]
theorem big_lt (l : List UInt8) : big l < 18446744073709551616 := by
  rcases List.eq_nil_or_concat l with rfl | ⟨l', c, rfl⟩
  · decide
  · rw [List.concat_eq_append, big_snoc]; omega
theorem big_beL (n x : Nat) (h : x < 256 ^ n) (hn : n ≤ 8) : big (beL n x) = x := by
  induction n generalizing x with
  | zero => simp at h; subst h; rfl
  | succ n ih =>
    have h2 : x / 256 < 256 ^ n := Nat.div_lt_of_lt_mul (by rw [Nat.pow_succ, Nat.mul_comm] at h; exact h)
    have h3 : x < 18446744073709551616 := Nat.lt_of_lt_of_le h (by
      have : 256 ^ (n + 1) ≤ 256 ^ 8 := Nat.pow_le_pow_right (by decide) hn
      exact Nat.le_trans this (by decide))
    rw [beL, big_snoc, ih _ h2 (by omega)]
    simp
    omega
theorem beL_head (n x : Nat) (h0 : 0 < n) (h : 256 ^ (n - 1) ≤ x) (h1 : x < 256 ^ n) (r : List UInt8) : (beL n x ++ r).head? ≠ some 0 := by
  obtain ⟨m, rfl⟩ : ∃ m, n = m + 1 := ⟨n - 1, by omega⟩
  simp only [Nat.add_sub_cancel] at h
  rw [beL_front]
  have h2 : x / 256 ^ m < 256 := Nat.div_lt_of_lt_mul (by rw [Nat.pow_succ] at h1; exact h1)
  have h3 : 0 < x / 256 ^ m := Nat.div_pos h (Nat.pow_pos (by decide))
  simp only [List.cons_append, List.head?_cons, ne_eq, Option.some.injEq]
  intro e
  have := congrArg UInt8.toNat e
  simp at this
  omega
/-- What was written is read. -/
theorem rnum_num (x : Nat) (hx : x < 18446744073709551616) (r : List UInt8) : rnum (num x ++ r) = (x, r, 0) := by
  have hl := nlen_le x
  obtain ⟨h1, h2⟩ : x < 256 ^ nlen x ∧ (0 < x → 256 ^ (nlen x - 1) ≤ x) := nl_spec 8 x (Nat.lt_of_lt_of_eq hx (by decide))
  have hn : (UInt8.ofNat (nlen x)).toNat = nlen x := by simp; omega
  unfold num
  rw [List.cons_append]
  unfold rnum
  simp only
  rw [hn, if_neg (by omega), if_neg (by simp [beL_len]), if_neg, List.take_append_of_le_length (by rw [beL_len]; exact Nat.le_refl _), List.take_of_length_le (by rw [beL_len]; exact Nat.le_refl _), List.drop_append_of_le_length (by rw [beL_len]; exact Nat.le_refl _), List.drop_of_length_le (by rw [beL_len]; exact Nat.le_refl _), big_beL _ _ h1 hl]
  · rfl
  · rintro ⟨ha, hb⟩
    refine beL_head (nlen x) x ha (h2 ?_) h1 r hb
    by_cases h0 : x = 0
    · subst h0; simp [nlen, nl] at ha
    · omega
theorem rtext_text (s : List UInt8) (hs : s.length < 18446744073709551616) (r : List UInt8) : rtext (text s ++ r) = (s, r, 0) := by
  unfold rtext text
  rw [List.append_assoc, rnum_num _ hs]
  simp

/-- A command's bytes. -/
def cmd (c n : Nat) (d : List UInt8) : List UInt8 := num c ++ num n ++ text d
/-- The command of any bytes; none. -/
def rcmd (l : List UInt8) : Option (Nat × Nat × List UInt8) :=
  let a := rnum l
  let b := rnum a.2.1
  let d := rtext b.2.1
  if a.2.2 = 0 ∧ b.2.2 = 0 ∧ d.2.2 = 0 ∧ d.2.1 = [] ∧ a.1 ≠ 0 ∧ b.1 ≠ 0 ∧ l.length ≤ 1048576 then some (a.1, b.1, d.1) else none
theorem rcmd_cmd (c n : Nat) (d : List UInt8) (hc : 0 < c ∧ c < 18446744073709551616) (hn : 0 < n ∧ n < 18446744073709551616) (hd : (cmd c n d).length ≤ 1048576) : rcmd (cmd c n d) = some (c, n, d) := by
  have hdl : d.length < 18446744073709551616 := by simp [cmd, text] at hd; omega
  have h1 : rnum (cmd c n d) = (c, num n ++ text d, 0) := by unfold cmd; rw [List.append_assoc]; exact rnum_num c hc.2 _
  have h2 : rnum (num n ++ text d) = (n, text d, 0) := rnum_num n hn.2 _
  have h3 : rtext (text d) = (d, [], 0) := by have := rtext_text d hdl []; rwa [List.append_nil] at this
  unfold rcmd
  simp only [h1, h2, h3]
  rw [if_pos]
  exact ⟨trivial, trivial, trivial, trivial, by omega, by omega, hd⟩
end Go.Proofs.Ytcaemfogknaioaa.Cod
