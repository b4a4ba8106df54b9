/- The plain laws of reading a key. No program in sight. -/
import Derived.Test.YtlpianjighhelaaDoorKL
import Derived.Lib.IndexLaws
namespace Go.Proofs.YtlpianjighhelaaDoor.Cod
open Go.Lib

theorem rkey_run : ∀ (p acc l : List UInt8), (∀ c ∈ p, c ≠ 0) → rkey acc (p ++ l) = rkey (acc ++ p) l
  | [], acc, l, _ => by simp
  | c :: p, acc, l, h => by
    rw [List.cons_append, rkey_one (h c (List.mem_cons_self ..)), rkey_run p (acc ++ [c]) l (fun x hx => h x (List.mem_cons_of_mem _ hx))]
    simp
theorem rkey_none (acc l : List UInt8) (h : indexByte l 0 = -1) : rkey acc l = ([], [], 20) := by
  have h0 : ∀ c ∈ l, c ≠ 0 := by
    intro c hc e
    obtain ⟨k, hk⟩ := List.mem_iff_getElem?.1 hc
    exact indexByte_none h k (by rw [hk, e])
  have := rkey_run l acc [] h0
  rw [List.append_nil] at this
  rw [this]
  simp [rkey]
theorem cut_at {l : List UInt8} {i : Nat} (h : indexByte l 0 = i) : l = l.take i ++ 0 :: l.drop (i + 1) ∧ (∀ c ∈ l.take i, c ≠ 0) ∧ i < l.length := by
  obtain ⟨h1, h2⟩ := indexByte_some h
  obtain ⟨hi, he⟩ := List.getElem?_eq_some_iff.1 h1
  refine ⟨?_, ?_, hi⟩
  · have := List.take_append_drop i l
    rw [List.drop_eq_getElem_cons hi, he] at this
    exact this.symm
  · intro c hc e
    obtain ⟨k, hk⟩ := List.mem_iff_getElem?.1 hc
    rw [List.getElem?_take] at hk
    split at hk
    · exact h2 k (by assumption) (by rw [hk, e])
    · cases hk
theorem rkey_end {acc l : List UInt8} {i : Nat} (h : indexByte l 0 = i) (hl : i + 1 = l.length) : rkey acc l = ([], [], 20) := by
  obtain ⟨h1, h2, h3⟩ := cut_at h
  have e : l.drop (i + 1) = [] := List.drop_of_length_le (by omega)
  rw [e] at h1
  rw [h1, rkey_run _ _ _ h2]
  simp [rkey]
theorem cut_two {l : List UInt8} {i : Nat} (h : indexByte l 0 = i) {d : UInt8} (hd : l[i + 1]? = some d) : l = l.take i ++ 0 :: d :: l.drop (i + 2) ∧ (∀ c ∈ l.take i, c ≠ 0) := by
  obtain ⟨h1, h2, h3⟩ := cut_at h
  obtain ⟨hi, he⟩ := List.getElem?_eq_some_iff.1 hd
  rw [List.drop_eq_getElem_cons hi, he] at h1
  exact ⟨h1, h2⟩
theorem rkey_stop {acc l : List UInt8} {i : Nat} (h : indexByte l 0 = i) (hd : l[i + 1]? = some 1) : rkey acc l = (acc ++ l.take i, l.drop (i + 2), 0) := by
  obtain ⟨h1, h2⟩ := cut_two h hd
  have : rkey acc (l.take i ++ 0 :: 1 :: l.drop (i + 2)) = (acc ++ l.take i, l.drop (i + 2), 0) := by
    rw [rkey_run _ _ _ h2, rkey, if_neg (by simp), if_pos rfl]
  rwa [← h1] at this
theorem rkey_on {acc l : List UInt8} {i : Nat} (h : indexByte l 0 = i) (hd : l[i + 1]? = some 255) : rkey acc l = rkey (acc ++ l.take i ++ [0]) (l.drop (i + 2)) := by
  obtain ⟨h1, h2⟩ := cut_two h hd
  have : rkey acc (l.take i ++ 0 :: 255 :: l.drop (i + 2)) = rkey (acc ++ l.take i ++ [0]) (l.drop (i + 2)) := by
    rw [rkey_run _ _ _ h2, rkey, if_neg (by simp), if_neg (by decide), if_pos rfl]
  rwa [← h1] at this
theorem rkey_bad {acc l : List UInt8} {i : Nat} (h : indexByte l 0 = i) {d : UInt8} (hd : l[i + 1]? = some d) (h1 : d ≠ 1) (h2 : d ≠ 255) : rkey acc l = ([], [], 21) := by
  obtain ⟨k1, k2⟩ := cut_two h hd
  have : rkey acc (l.take i ++ 0 :: d :: l.drop (i + 2)) = ([], [], 21) := by
    rw [rkey_run _ _ _ k2, rkey, if_neg (by simp), if_neg h1, if_neg h2]
  rwa [← k1] at this
theorem rkey_grows : ∀ (acc l : List UInt8), (rkey acc l).2.2 = 0 → acc.length ≤ (rkey acc l).1.length
  | _, [], h => by simp [rkey] at h
  | acc, [c], h => by simp [rkey] at h
  | acc, c :: d :: r, h => by
    unfold rkey at h ⊢
    by_cases h1 : c ≠ 0
    · rw [if_pos h1] at h ⊢
      have := rkey_grows (acc ++ [c]) (d :: r) h
      simp at this
      omega
    · rw [if_neg h1] at h ⊢
      by_cases h2 : d = 1
      · rw [if_pos h2]; exact Nat.le_refl _
      · rw [if_neg h2] at h ⊢
        by_cases h3 : d = 255
        · rw [if_pos h3] at h ⊢
          have := rkey_grows (acc ++ [0]) r h
          simp at this
          omega
        · rw [if_neg h3] at h; simp at h
theorem rkey_room {acc l : List UInt8} {i : Nat} (h : indexByte l 0 = i) {d : UInt8} (hd : l[i + 1]? = some d) (hok : (rkey acc l).2.2 = 0) : acc.length + i ≤ (rkey acc l).1.length ∧ (d = 255 → acc.length + i + 1 ≤ (rkey acc l).1.length) := by
  obtain ⟨-, -, h3⟩ := cut_at h
  have ht : (l.take i).length = i := by rw [List.length_take]; omega
  by_cases h1 : d = 1
  · subst h1
    rw [rkey_stop h hd]
    refine ⟨by rw [List.length_append, ht]; exact Nat.le_refl _, fun e => absurd e (by decide)⟩
  · by_cases h2 : d = 255
    · subst h2
      rw [rkey_on h hd] at hok ⊢
      have := rkey_grows _ _ hok
      rw [List.length_append, List.length_append, ht, List.length_singleton] at this
      exact ⟨by omega, fun _ => by omega⟩
    · rw [rkey_bad h hd h1 h2] at hok
      simp at hok
end Go.Proofs.YtlpianjighhelaaDoor.Cod
