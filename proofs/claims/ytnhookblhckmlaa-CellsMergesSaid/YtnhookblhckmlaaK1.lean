/- Walks: cmp.Compare of two kinds, Cmp. -/
import Derived.Test.YtnhookblhckmlaaRows
import Derived.Test.YtnhookblhckmlaaStep
import Derived.WalkSpells
import Derived.WalkLawsBesides
import Derived.Lib.Hide
import Derived.BigQuiet
namespace Go.Proofs.Ytnhookblhckmlaa
open Go.RowKit Mk

/-- a stands ahead of b, byte by byte. -/
def less (a b : ByteArray) : Bool := Op.bytesLess a.toList b.toList

theorem nan9_any (a : ByteArray) (w : World) :
    Calls Try.prog 43 #[.string a] w fun e w' => e = .returned (.bool false) ∧ w' = w := by
  have h1 : (a.toList == a.toList) = true := by simp
  go_enter Try.func43, Try.ntmps43
  go_wp2
  go_ret
  exact ⟨by simp, rfl⟩

theorem nan22_any (a : Nat) (w : World) :
    Calls Try.prog 44 #[.int .u64 a] w fun e w' => e = .returned (.bool false) ∧ w' = w := by
  have h1 : ((a : Int) != a) = false := by simp
  go_enter Try.func44, Try.ntmps44
  go_wp2
  go_ret
  exact ⟨by simp, rfl⟩

theorem strLess_eq : ∀ (x y : List UInt8), Op.bytesLess x y = decide (x < y)
  | [], [] => by simp [Op.bytesLess]
  | _ :: _, [] => by simp [Op.bytesLess]
  | [], _ :: _ => by simp [Op.bytesLess]
  | a :: x, b :: y => by
    rw [Op.bytesLess, strLess_eq x y]
    simp only [List.cons_lt_cons_iff]
    by_cases h1 : a < b <;> by_cases h2 : a = b <;> by_cases h3 : x < y <;> simp [h1, h2, h3]

def ordS (a b : ByteArray) : Int := if less a b then -1 else if less b a then 1 else 0
def ordN (a b : Nat) : Int := if a < b then -1 else if b < a then 1 else 0

theorem cmpS_any (a b : ByteArray) (w : World) :
    Calls Try.prog 28 #[.string a, .string b] w fun e w' => e = .returned (.int .i64 (ordS a b)) ∧ w' = w := by
  have A := nan9_any a w
  have B := nan9_any b w
  obtain ⟨p, hp⟩ : ∃ p, Op.bytesLess a.toList b.toList = p := ⟨_, rfl⟩
  obtain ⟨q, hq⟩ : ∃ q, (!(a.toList == b.toList)) = q := ⟨_, rfl⟩
  have ev : ordS a b = if p then -1 else if q then 1 else 0 := by
    unfold ordS less
    rw [hp]
    cases p
    · rw [← hq, strLess_eq]
      rw [strLess_eq] at hp
      have h1 : ¬ a.toList < b.toList := by simpa using hp
      by_cases h2 : a.toList = b.toList
      · rw [h2]; simp
      · have : b.toList < a.toList := by
          by_cases h : b.toList < a.toList
          · exact h
          · exact absurd (List.le_antisymm (List.not_lt.1 h) (List.not_lt.1 h1)) h2
        simp [this, h2]
    · rfl
  rw [ev]
  clear ev
  go_enter Try.func28, Try.ntmps28
  go_wp2_with fail
  refine A.mono ?_
  rintro e w' ⟨rfl, rfl⟩
  go_wp2_with fail
  refine B.mono ?_
  rintro e w' ⟨rfl, rfl⟩
  cases p
  · cases q
    · go_wp2
      go_ret
      exact ⟨by simp, rfl⟩
    · go_wp2
      go_ret
      exact ⟨by simp, rfl⟩
  · go_wp2
    go_ret
    exact ⟨by simp, rfl⟩

theorem cmpN_any (a b : Nat) (w : World) :
    Calls Try.prog 29 #[.int .u64 a, .int .u64 b] w fun e w' => e = .returned (.int .i64 (ordN a b)) ∧ w' = w := by
  have A := nan22_any a w
  have B := nan22_any b w
  obtain ⟨p, hp⟩ : ∃ p, decide (a < b) = p := ⟨_, rfl⟩
  obtain ⟨q, hq⟩ : ∃ q, decide (b < a) = q := ⟨_, rfl⟩
  have ev : ordN a b = if p then -1 else if q then 1 else 0 := by
    unfold ordN
    rw [← hp, ← hq]
    simp
  rw [ev]
  clear ev
  go_enter Try.func29, Try.ntmps29
  go_wp2_with fail
  refine A.mono ?_
  rintro e w' ⟨rfl, rfl⟩
  go_wp2_with fail
  refine B.mono ?_
  rintro e w' ⟨rfl, rfl⟩
  cases p
  · cases q
    · go_wp2
      go_ret
      exact ⟨by simp, rfl⟩
    · go_wp2
      go_ret
      exact ⟨by simp, rfl⟩
  · go_wp2
    go_ret
    exact ⟨by simp, rfl⟩
end Go.Proofs.Ytnhookblhckmlaa
