/- Walks: the document's Cmp, may, not, New, Len. -/
import Derived.Test.YtnhookblhckmlaaK2
namespace Go.Proofs.Ytnhookblhckmlaa
open Go.RowKit Mk

theorem ordS_self (a : ByteArray) : ordS a a = 0 := by
  unfold ordS less
  simp only [strLess_eq]
  have : ¬ a.toList < a.toList := List.lt_irrefl _
  simp [this]
theorem ordS_ne {a b : ByteArray} (h : a.toList ≠ b.toList) : ordS a b = if less a b then -1 else 1 := by
  unfold ordS less
  simp only [strLess_eq]
  by_cases h1 : a.toList < b.toList
  · simp [h1]
  · have h2 : b.toList < a.toList := by
      by_cases h3 : b.toList < a.toList
      · exact h3
      · exact absurd (List.le_antisymm (List.not_lt.1 h3) (List.not_lt.1 h1)) h
    simp [h1, h2]

set_option maxHeartbeats 1000000 in
theorem rcmp_any (a b : CellM) (w : World) :
    Calls Try.prog 9 #[cellV a, cellV b] w fun e w' => e = .returned (.int .i64 (cmpM a b)) ∧ Below w.heap.size w w' := by
  obtain ⟨k, t, d, v⟩ := a
  obtain ⟨k', t', d', v'⟩ := b
  unfold cmpM cellV
  simp only
  obtain ⟨W2, HW2⟩ : ∃ W, Hid ((w.alloc (.cells #[.string k, .int .u64 t, .bool d, .string v] 24)).alloc (.cells #[.string k', .int .u64 t', .bool d', .string v'] 24) = W) := ⟨_, Lib.hid rfl⟩
  have c1 : W2.cell? ⟨w.heap.size, 0, none⟩ = some (.string k) := by rw [← HW2.out]; simp
  have c2 : W2.cell? ⟨w.heap.size, 1, none⟩ = some (.int .u64 t) := by rw [← HW2.out]; simp
  have c3 : W2.cell? ⟨w.heap.size + 1, 0, none⟩ = some (.string k') := by rw [← HW2.out]; simp
  have c4 : W2.cell? ⟨w.heap.size + 1, 1, none⟩ = some (.int .u64 t') := by rw [← HW2.out]; simp
  have HB := Lib.hid (show Below w.heap.size w W2 from by
    have h1 := ((Below.refl w.heap.size w).alloc (Nat.le_refl _) (.cells #[.string k, .int .u64 t, .bool d, .string v] 24))
    have h2 := h1.alloc h1.size (.cells #[.string k', .int .u64 t', .bool d', .string v'] 24)
    rw [HW2.out] at h2
    exact h2)
  by_cases hk : k.toList = k'.toList
  · have q : (k.toList == k'.toList) = true := by simpa using hk
    have ez : ordS k k' = 0 := by unfold ordS less; simp only [hk]; have := ordS_self k'; unfold ordS less at this; exact this
    rw [ez]
    simp only [ne_eq, not_true_eq_false, if_false]
    by_cases h1 : t = t'
    · have q1 : ((t : Int) != t') = false := by rw [h1]; simp
      have e : ordN t' t = 0 := by unfold ordN; rw [if_neg (by omega), if_neg (by omega)]
      rw [e]
      clear hk h1 e ez
      go_enter Try.func9, Try.ntmps9
      go_wp2_with fail
      rw [HW2.out]
      go_wp2
      go_ret
      exact ⟨by simp, HB.out⟩
    · have q1 : ((t : Int) != t') = true := by rw [bne_iff_ne]; omega
      by_cases h2 : t' < t
      · have q2 : decide (t' < t) = true := by simpa using h2
        have e : ordN t' t = -1 := by unfold ordN; rw [if_pos (by omega)]
        rw [e]
        clear hk h1 h2 e ez
        go_enter Try.func9, Try.ntmps9
        go_wp2_with fail
        rw [HW2.out]
        go_wp2
        go_ret
        exact ⟨by simp, HB.out⟩
      · have q2 : decide (t' < t) = false := by simpa using h2
        have e : ordN t' t = 1 := by unfold ordN; rw [if_neg (by omega), if_pos (by omega)]
        rw [e]
        clear hk h1 h2 e ez
        go_enter Try.func9, Try.ntmps9
        go_wp2_with fail
        rw [HW2.out]
        go_wp2
        go_ret
        exact ⟨by simp, HB.out⟩
  · have q : (k.toList == k'.toList) = false := by simpa using hk
    rw [ordS_ne hk]
    unfold less
    cases hl : Op.bytesLess k.toList k'.toList
    · simp only [Bool.false_eq_true, if_false, ne_eq, Int.one_ne_zero, not_false_eq_true, if_true]
      clear hk
      go_enter Try.func9, Try.ntmps9
      go_wp2_with fail
      rw [HW2.out]
      go_wp2
      go_ret
      exact ⟨by simp, HB.out⟩
    · simp only [if_true, ne_eq]
      rw [if_pos (by decide)]
      clear hk
      go_enter Try.func9, Try.ntmps9
      go_wp2_with fail
      rw [HW2.out]
      go_wp2
      go_ret
      exact ⟨by simp, HB.out⟩
end Go.Proofs.Ytnhookblhckmlaa
