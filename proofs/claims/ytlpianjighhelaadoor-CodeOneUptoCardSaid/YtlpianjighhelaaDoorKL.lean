/- The plain law of Key: the library's ReplaceAll makes the document's key. No program in sight. -/
import Derived.Test.YtlpianjighhelaaDoorSpec
import Derived.Lib.Replace
namespace Go.Proofs.YtlpianjighhelaaDoor.Cod
open Go.Lib

theorem rep_key : ∀ s : List UInt8, replaceK [0] [0, 255] (count s [0]) s = keyB s
  | [] => rfl
  | b :: l => by
    have ih := rep_key l
    by_cases hb : b = 0
    · subst hb
      have h0 : index (0 :: l) [0] = ((0 : Nat) : Int) := by unfold index; simp [List.isPrefixOf]
      rw [count_hit (by simp) h0, Nat.add_comm, replaceK_hit _ _ _ _ 0 h0]
      simp only [List.length_cons, List.length_nil, Nat.zero_add, List.drop_succ_cons, List.drop_zero, List.take_zero, List.nil_append]
      rw [ih]
      simp [keyB, keyC]
    · have hp : ([0] : List UInt8).isPrefixOf (b :: l) = false := by simp [List.isPrefixOf, Ne.symm hb]
      have hk : keyB (b :: l) = b :: keyB l := by simp [keyB, keyC, hb]
      rw [hk, ← ih]
      rcases index_spec l [0] with ⟨h1, -⟩ | ⟨i, h1, -⟩
      · have h2 : index (b :: l) [0] = -1 := by unfold index; rw [hp, h1]; rfl
        rw [count_miss h1, count_miss h2]
        rfl
      · have h2 : index (b :: l) [0] = ((i + 1 : Nat) : Int) := by
          unfold index; rw [hp, h1]
          have : ((i : Int) == -1) = false := by rw [beq_eq_false_iff_ne]; omega
          simp [this]
        rw [count_hit (by simp) h1, count_hit (by simp) h2, Nat.add_comm, Nat.add_comm 1 (count (List.drop (i + [0].length) l) [0]), replaceK_hit _ _ _ _ _ h1, replaceK_hit _ _ _ _ _ h2]
        simp [List.drop_succ_cons]
theorem rep_all (s : List UInt8) : replaceAll s [0] [0, 255] = keyB s := by
  unfold replaceAll replace replaceNum
  rw [if_neg (by decide), if_pos (Or.inl (by decide))]
  exact rep_key s
theorem keyB_len (s : List UInt8) : (keyB s).length ≤ 2 * s.length := by
  induction s with
  | nil => exact Nat.le_refl _
  | cons c s ih =>
    have : keyB (c :: s) = keyC c ++ keyB s := by simp [keyB]
    rw [this, List.length_append]
    have h2 : (keyC c).length ≤ 2 := by unfold keyC; split <;> simp
    simp only [List.length_cons]
    omega
end Go.Proofs.YtlpianjighhelaaDoor.Cod
