/- Plain: a list struck pair by pair. -/
import Derived.Test.YtgmmglmokkcgeaaMapKit
namespace Go.Proofs.Ytgmmglmokkcgeaa.Mk
set_option linter.unusedVariables false
set_option linter.unusedSimpArgs false
section
variable {K V : Type} [DecidableEq K]
theorem del_filter {L : List (K × V)} (hd : L.Pairwise (fun p q => p.1 ≠ q.1)) (x : K) : del L x = L.filter (fun p => !decide (p.1 = x)) := by
  induction L with
  | nil => rfl
  | cons p L ih =>
    obtain ⟨h1, h2⟩ := List.pairwise_cons.1 hd
    unfold del
    by_cases e : p.1 = x
    · subst e
      rw [if_pos rfl, List.filter_cons]
      rw [if_neg (by simp)]
      exact (List.filter_eq_self.2 (fun q hq => by simp; exact fun e => h1 q hq e.symm)).symm
    · rw [if_neg e, List.filter_cons, if_pos (by simp [e]), ih h2]
/-- D0 without those that q strikes and that are no more to come. -/
def struck (D0 : List (K × V)) (q : K × V → Bool) (left : List (K × V)) : List (K × V) := D0.filter (fun y => q y || decide (y.1 ∈ left.map (·.1)))
variable {D0 a b : List (K × V)} {q : K × V → Bool} {p : K × V}
omit [DecidableEq K] in
theorem key_eq (hd : D0.Pairwise (fun p q => p.1 ≠ q.1)) {y z : K × V} (hy : y ∈ D0) (hz : z ∈ D0) (e : y.1 = z.1) : y = z := by
  obtain ⟨i, hi, rfl⟩ := List.getElem_of_mem hy
  obtain ⟨j, hj, rfl⟩ := List.getElem_of_mem hz
  rcases Nat.lt_trichotomy i j with h | h | h
  · exact absurd e (List.pairwise_iff_getElem.1 hd i j hi hj h)
  · subst h; rfl
  · exact absurd e.symm (List.pairwise_iff_getElem.1 hd j i hj hi h)
theorem struck_keep (hd : D0.Pairwise (fun p q => p.1 ≠ q.1)) (hp : p ∈ D0) (hq : q p = true) : struck D0 q (a ++ p :: b) = struck D0 q (a ++ b) := by
  refine List.filter_congr (fun y hy => ?_)
  show (q y || decide (y.1 ∈ (a ++ p :: b).map (·.1))) = (q y || decide (y.1 ∈ (a ++ b).map (·.1)))
  by_cases e : y.1 = p.1
  · obtain rfl := key_eq hd hy hp e
    rw [hq]; rfl
  · rw [decide_eq_decide.2 (show (y.1 ∈ (a ++ p :: b).map (·.1)) ↔ (y.1 ∈ (a ++ b).map (·.1)) by rw [List.map_append, List.map_append, List.map_cons, List.mem_append, List.mem_append, List.mem_cons]; exact ⟨fun h => h.imp id (fun h => h.resolve_left e), fun h => h.imp id Or.inr⟩)]
theorem struck_cut (hd : D0.Pairwise (fun p q => p.1 ≠ q.1)) (hp : p ∈ D0) (hq : q p = false) (hn : ∀ y ∈ a ++ b, y.1 ≠ p.1) : del (struck D0 q (a ++ p :: b)) p.1 = struck D0 q (a ++ b) := by
  unfold struck
  rw [del_filter (hd.sublist List.filter_sublist), List.filter_filter]
  refine List.filter_congr (fun y hy => ?_)
  show (!decide (y.1 = p.1) && (q y || decide (y.1 ∈ (a ++ p :: b).map (·.1)))) = (q y || decide (y.1 ∈ (a ++ b).map (·.1)))
  by_cases e : y.1 = p.1
  · obtain rfl := key_eq hd hy hp e
    have : ¬ y.1 ∈ (a ++ b).map (·.1) := fun h => by
      obtain ⟨z, hz, e⟩ := List.mem_map.1 h
      exact hn z hz e
    rw [hq, decide_eq_false this, decide_eq_true rfl]; rfl
  · rw [decide_eq_false e, decide_eq_decide.2 (show (y.1 ∈ (a ++ p :: b).map (·.1)) ↔ (y.1 ∈ (a ++ b).map (·.1)) by rw [List.map_append, List.map_append, List.map_cons, List.mem_append, List.mem_append, List.mem_cons]; exact ⟨fun h => h.imp id (fun h => h.resolve_left e), fun h => h.imp id Or.inr⟩)]; rfl
theorem struck_all : struck D0 q D0 = D0 := List.filter_eq_self.2 (fun y hy => by
  have : y.1 ∈ D0.map (·.1) := List.mem_map.2 ⟨y, hy, rfl⟩
  simp [this])
theorem struck_end : struck D0 q [] = D0.filter q := by unfold struck; simp
end
end Go.Proofs.Ytgmmglmokkcgeaa.Mk
