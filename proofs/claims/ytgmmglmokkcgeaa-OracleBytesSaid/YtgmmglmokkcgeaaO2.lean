/- The oracle, plain: what stays true. -/
import Derived.Test.YtgmmglmokkcgeaaO1
namespace Go.Proofs.Ytgmmglmokkcgeaa
set_option linter.unusedVariables false
set_option linter.unusedSimpArgs false
open Mk
structure OInv (n : OM) : Prop where
  dle : ∀ p ∈ n.dec, p.2 ≤ n.time
  dst : ∀ p ∈ n.dec, p.2 ≠ 0 → p.1 < p.2
  cle : ∀ p, ∀ t ∈ n.com p, t ≤ n.time
  cso : ∀ p, (n.com p).Pairwise (· ≤ ·)
  dd : n.dec.Pairwise (fun p q => p.1 ≠ q.1)
theorem OInv.new : OInv .new := ⟨by simp [OM.new], by simp [OM.new], by simp [OM.new], by simp [OM.new], by simp [OM.new]⟩
theorem upd_apart {K V : Type} [DecidableEq K] {L : List (K × V)} (h : L.Pairwise (fun p q => p.1 ≠ q.1)) (x : K) (v : V) : (upd L x v).Pairwise (fun p q => p.1 ≠ q.1) := by
  have h1 : (L.map (·.1)).Nodup := List.pairwise_map.2 h
  have h2 : ((upd L x v).map (·.1)).Nodup := by
    rw [keys_upd]
    split
    · exact h1
    · rename_i hx
      exact List.nodup_append.2 ⟨h1, by simp, fun a ha b hb e => by simp at hb; subst hb; subst e; exact hx ha⟩
  exact List.pairwise_map.1 h2
theorem comM_app (T : Nat) (needs : List (ByteArray × Nat)) (f : ByteArray → List Nat) (p : ByteArray) : ∃ j, comM T needs f p = f p ++ List.replicate j T := by
  induction needs generalizing f with
  | nil => exact ⟨0, by simp [comM]⟩
  | cons x l ih =>
    obtain ⟨j, hj⟩ := ih (fun p => if p = x.1 then f p ++ [T] else f p)
    have : comM T (x :: l) f p = comM T l (fun p => if p = x.1 then f p ++ [T] else f p) p := rfl
    rw [this, hj]
    by_cases e : p = x.1
    · exact ⟨j + 1, by simp [e, List.replicate_succ]⟩
    · exact ⟨j, by simp [e]⟩
theorem seenM_app (l : List Nat) (T j t : Nat) (h : t < T) : seenM (l ++ List.replicate j T) t = seenM l t := by
  have h1 : (l ++ List.replicate j T).takeWhile (fun x => decide (x < t)) = l.takeWhile (fun x => decide (x < t)) := by
    induction l with
    | nil =>
      cases j with
      | zero => rfl
      | succ j => simp [List.replicate_succ, List.takeWhile_cons]; omega
    | cons a l ih => simp only [List.cons_append, List.takeWhile_cons, ih]
  have h2 : t ∈ l ++ List.replicate j T ↔ t ∈ l := by
    simp only [List.mem_append, List.mem_replicate]
    constructor
    · rintro (h | ⟨_, h⟩)
      · exact h
      · omega
    · exact Or.inl
  unfold seenM
  rw [h1]
  by_cases e : t ∈ l
  · rw [if_pos (h2.2 e), if_pos e]
  · rw [if_neg (fun h => e (h2.1 h)), if_neg e]
theorem lk_filter {K V : Type} [DecidableEq K] {L : List (K × V)} (h : L.Pairwise (fun p q => p.1 ≠ q.1)) (f : K × V → Bool) (x : K) : lk (L.filter f) x = match lk L x with | some v => if f (x, v) then some v else none | none => none := by
  induction L with
  | nil => rfl
  | cons p L ih =>
    obtain ⟨h1, h2⟩ := List.pairwise_cons.1 h
    have hn : p.1 = x → lk L x = none := fun e => (lk_none (fun q hq => by rw [← e]; exact (h1 q hq).symm)).1
    rw [List.filter_cons]
    by_cases e : p.1 = x
    · have hl : lk (p :: L) x = some p.2 := by simp [lk, e]
      have hp : (x, p.2) = p := by rw [← e]
      rw [hl]
      simp only [hp]
      split
      · simp [lk, e]
      · rw [ih h2, hn e]
    · have hl : lk (p :: L) x = lk L x := by simp [lk, e]
      rw [hl]
      split
      · rw [← ih h2]; simp [lk, e]
      · exact ih h2
theorem lastM_lk (T : Nat) (keys : List ByteArray) (L : List (ByteArray × Nat)) (x : ByteArray) : (x ∈ keys → lk (lastM T keys L) x = some T) ∧ (x ∉ keys → lk (lastM T keys L) x = lk L x) := by
  induction keys generalizing L with
  | nil => exact ⟨fun h => (by cases h), fun _ => rfl⟩
  | cons k l ih =>
    have : lastM T (k :: l) L = lastM T l (upd L k T) := rfl
    rw [this]
    obtain ⟨i1, i2⟩ := ih (upd L k T)
    refine ⟨fun h => ?_, fun h => ?_⟩
    · by_cases e1 : x ∈ l
      · exact i1 e1
      · rcases List.mem_cons.1 h with rfl | h
        · rw [i2 e1, lk_upd_same]
        · exact absurd h e1
    · rw [i2 (fun e => h (List.mem_cons_of_mem _ e)), lk_upd_other _ _ (fun e => h (by rw [e]; exact List.mem_cons_self))]

section
variable {n : OM} {o : OpM}
theorem was_free (h : (wasM n o.st).2 = false) : ¬ n.time < o.st ∧ lk n.dec o.st = none ∧ ¬ o.st < n.mark ∧ (wasM n o.st).1 = an0 := by
  unfold wasM at h ⊢
  split at h
  · cases h
  · rename_i ht
    simp only [Bool.or_eq_false_iff, decide_eq_false_iff_not] at h
    have hn : lk n.dec o.st = none := by cases hh : lk n.dec o.st with | none => rfl | some v => rw [hh] at h; simp at h
    rw [if_neg ht]
    refine ⟨ht, hn, h.2, ?_⟩
    rw [hn]; rfl
theorem was_over (h : (wasM n o.st).2 = true) (hc : (wasM n o.st).1.code = 0) : (lk n.dec o.st = some (wasM n o.st).1.commit ∨ lk n.dec o.st = none ∧ (wasM n o.st).1.commit = 0 ∧ o.st < n.mark) := by
  unfold wasM at h hc ⊢
  split at h
  · rename_i ht
    rw [if_pos ht] at hc
    cases hc
  · rename_i ht
    rw [if_neg ht]
    simp only [Bool.or_eq_true, decide_eq_true_eq] at h
    cases hh : lk n.dec o.st with
    | some v => exact Or.inl (by simp)
    | none => rw [hh] at h; exact Or.inr ⟨rfl, by simp, by simpa using h⟩
theorem abort_cases (n : OM) (o : OpM) : ((wasM n o.st).2 = true ∧ abortM n o = (n, (wasM n o.st).1)) ∨ ((wasM n o.st).2 = false ∧ abortM n o = ({ n with dec := upd n.dec o.st 0 }, an0)) := by
  unfold abortM
  cases h : (wasM n o.st).2
  · right
    refine ⟨rfl, ?_⟩
    rw [if_neg (by simp), (was_free h).2.2.2]
  · left
    exact ⟨rfl, by rw [if_pos rfl]⟩
theorem commit_cases (n : OM) (o : OpM) : ((wasM n o.st).2 = true ∧ commitM n o = (n, (wasM n o.st).1)) ∨ ((wasM n o.st).2 = false ∧ clearM n o = false ∧ commitM n o = ({ n with dec := upd n.dec o.st 0 }, an0)) ∨
    ((wasM n o.st).2 = false ∧ clearM n o = true ∧ commitM n o = ({ n with time := n.time + 1, dec := upd n.dec o.st (n.time + 1), las := lastM (n.time + 1) o.keys n.las, com := comM (n.time + 1) o.needs n.com }, ⟨0, 0, n.time + 1, .zero⟩)) := by
  unfold commitM
  cases h : (wasM n o.st).2
  · right
    rw [if_neg (by simp)]
    cases hc : clearM n o
    · left
      refine ⟨rfl, rfl, ?_⟩
      rw [if_neg (by simp)]
      rcases abort_cases n o with ⟨h1, _⟩ | ⟨_, h2⟩
      · rw [h] at h1; cases h1
      · exact h2
    · right
      exact ⟨rfl, rfl, by rw [if_pos rfl]⟩
  · left
    exact ⟨rfl, by rw [if_pos rfl]⟩

theorem OInv.dec0 (h : OInv n) (st : Nat) : OInv { n with dec := upd n.dec st 0 } :=
  ⟨fun p hp => by rcases mem_upd2 hp with rfl | hp; exact Nat.zero_le _; exact h.dle p hp, fun p hp => by rcases mem_upd2 hp with rfl | hp; (intro h0; exact absurd rfl h0); exact h.dst p hp, h.cle, h.cso, upd_apart h.dd _ _⟩
theorem OInv.apply (h : OInv n) (o : OpM) : OInv (applyM n o).1 := by
  unfold applyM
  split
  · unfold doM
    split
    · exact ⟨fun p hp => Nat.le_trans (h.dle p hp) (Nat.le_add_right _ _), h.dst, fun p t ht => Nat.le_trans (h.cle p t ht) (Nat.le_add_right _ _), h.cso, h.dd⟩
    · exact ⟨h.dle, h.dst, h.cle, h.cso, h.dd⟩
    · rcases commit_cases n o with ⟨_, e⟩ | ⟨_, _, e⟩ | ⟨hw, _, e⟩
      · rw [e]; exact h
      · rw [e]; exact h.dec0 _
      · rw [e]
        have hf := was_free hw
        refine ⟨fun p hp => ?_, fun p hp h0 => ?_, fun p t ht => ?_, fun p => ?_, upd_apart h.dd _ _⟩
        · rcases mem_upd2 hp with rfl | hp
          · exact Nat.le_refl _
          · exact Nat.le_succ_of_le (h.dle p hp)
        · rcases mem_upd2 hp with rfl | hp
          · simp only; omega
          · exact h.dst p hp h0
        · obtain ⟨j, hj⟩ := comM_app (n.time + 1) o.needs n.com p
          simp only [hj, List.mem_append, List.mem_replicate] at ht
          simp only
          rcases ht with ht | ⟨_, ht⟩
          · have := h.cle p t ht; omega
          · omega
        · obtain ⟨j, hj⟩ := comM_app (n.time + 1) o.needs n.com p
          simp only [hj]
          rw [List.pairwise_append]
          refine ⟨h.cso p, List.pairwise_replicate.2 (Or.inr (Nat.le_refl _)), fun a ha b hb => ?_⟩
          have := h.cle p a ha
          have := (List.mem_replicate.1 hb).2
          omega
    · rcases abort_cases n o with ⟨_, e⟩ | ⟨_, e⟩
      · rw [e]; exact h
      · rw [e]; exact h.dec0 _
    · unfold giveM
      split
      · exact h
      · exact ⟨h.dle, h.dst, h.cle, h.cso, h.dd⟩
    · unfold fenceM
      split
      · exact h
      · split
        · exact h
        · split
          · exact h
          · exact ⟨fun p hp => Nat.le_succ_of_le (h.dle p hp), h.dst, fun p t ht => Nat.le_succ_of_le (h.cle p t ht), h.cso, h.dd⟩
    · unfold endM
      split
      · exact h
      · split
        · exact h
        · exact ⟨h.dle, h.dst, h.cle, h.cso, h.dd⟩
    · unfold endM
      split
      · exact h
      · split
        · exact h
        · exact ⟨h.dle, h.dst, h.cle, h.cso, h.dd⟩
    · unfold raiseM
      split
      · exact h
      · split
        · exact ⟨fun p hp => h.dle p (List.mem_filter.1 hp).1, fun p hp => h.dst p (List.mem_filter.1 hp).1, h.cle, h.cso, h.dd.sublist List.filter_sublist⟩
        · exact h
  · exact h

theorem time_le (n : OM) (o : OpM) : n.time ≤ (applyM n o).1.time := by
  unfold applyM
  split
  · unfold doM
    split
    · exact Nat.le_add_right _ _
    · exact Nat.le_refl _
    · rcases commit_cases n o with ⟨_, e⟩ | ⟨_, _, e⟩ | ⟨hw, _, e⟩ <;> rw [e]
      · exact Nat.le_refl _
      · exact Nat.le_refl _
      · exact Nat.le_succ _
    · rcases abort_cases n o with ⟨_, e⟩ | ⟨_, e⟩ <;> rw [e] <;> exact Nat.le_refl _
    · unfold giveM; split <;> exact Nat.le_refl _
    · unfold fenceM
      split
      · exact Nat.le_refl _
      · split
        · exact Nat.le_refl _
        · split
          · exact Nat.le_refl _
          · exact Nat.le_succ _
    · unfold endM
      split
      · exact Nat.le_refl _
      · split <;> exact Nat.le_refl _
    · unfold endM
      split
      · exact Nat.le_refl _
      · split <;> exact Nat.le_refl _
    · unfold raiseM
      split
      · exact Nat.le_refl _
      · split <;> exact Nat.le_refl _
  · exact Nat.le_refl _

/-- What the law says of a start that it has seen decided. -/
def OnceD (n : OM) (D : List (Nat × Nat)) : Prop := ∀ p ∈ D, 0 < p.1 ∧ (lk n.dec p.1 = some p.2 ∨ lk n.dec p.1 = none ∧ p.2 = 0 ∧ p.1 < n.mark)
theorem OnceD.tells {D : List (Nat × Nat)} (h : OnceD n D) {p : Nat × Nat} (hp : p ∈ D) : decisionM n p.1 = (p.2, true) := by
  obtain ⟨h0, h1 | ⟨h1, h2, h3⟩⟩ := h p hp
  · simp [decisionM, h1]
  · simp [decisionM, h1, h2, h0, h3]
theorem OnceD.set {D : List (Nat × Nat)} (h : OnceD n D) (hw : (wasM n o.st).2 = false) (c : Nat) {n' : OM} (e1 : n'.dec = upd n.dec o.st c) (e2 : n'.mark = n.mark) : OnceD n' D := by
  intro p hp
  obtain ⟨_, f2, f3, _⟩ := was_free hw
  obtain ⟨h0, h1⟩ := h p hp
  have hne : p.1 ≠ o.st := fun e => by
    rw [e] at h1
    rcases h1 with h1 | ⟨_, _, h1⟩
    · rw [f2] at h1; cases h1
    · exact f3 h1
  rw [e1, e2, lk_upd_other _ _ hne]
  exact ⟨h0, h1⟩
theorem OnceD.keep {D : List (Nat × Nat)} (h : OnceD n D) (hi : OInv n) (o : OpM) : OnceD (applyM n o).1 D := by
  unfold applyM
  split
  · unfold doM
    split
    · exact h
    · exact h
    · rcases commit_cases n o with ⟨_, e⟩ | ⟨hw, _, e⟩ | ⟨hw, _, e⟩ <;> rw [e]
      · exact h
      · exact h.set hw 0 rfl rfl
      · exact h.set hw _ rfl rfl
    · rcases abort_cases n o with ⟨_, e⟩ | ⟨hw, e⟩ <;> rw [e]
      · exact h
      · exact h.set hw 0 rfl rfl
    · unfold giveM; split <;> exact h
    · unfold fenceM
      split
      · exact h
      · split
        · exact h
        · split <;> exact h
    · unfold endM
      split
      · exact h
      · split <;> exact h
    · unfold endM
      split
      · exact h
      · split <;> exact h
    · unfold raiseM
      split
      · exact h
      · split
        · rename_i hm
          intro p hp
          obtain ⟨h0, h1⟩ := h p hp
          refine ⟨h0, ?_⟩
          simp only
          rw [lk_filter hi.dd]
          rcases h1 with h1 | ⟨h1, h2, h3⟩
          · rw [h1]
            simp only
            by_cases hk : p.2 = 0 ∧ p.1 < o.at_
            · right
              refine ⟨by rw [if_neg]; simp [hk.1, hk.2], hk.1, hk.2⟩
            · left
              rw [if_pos]
              simp only [Bool.not_eq_true', Bool.and_eq_false_iff, beq_eq_false_iff_ne, decide_eq_false_iff_not]
              by_cases h9 : p.2 = 0
              · exact Or.inr (fun h8 => hk ⟨h9, h8⟩)
              · exact Or.inl h9
          · right
            rw [h1]
            exact ⟨rfl, h2, by omega⟩
        · exact h
  · exact h
/-- A commit or an abort that is not refused: what is told is what was told, and is told from now on. -/
theorem OnceD.tell {D : List (Nat × Nat)} (h : OnceD n D) (hi : OInv n) (hm : mayM o = true) (hk : o.k = 3 ∨ o.k = 4) (hc : (applyM n o).2.code = 0) :
    (∀ c, lk D o.st = some c → c = (applyM n o).2.commit) ∧ ((applyM n o).2.commit ≠ 0 → o.st < (applyM n o).2.commit) ∧ OnceD (applyM n o).1 (upd D o.st (applyM n o).2.commit) := by
  have hst : 0 < o.st := by
    unfold mayM kindM at hm
    rcases hk with hk | hk <;> rw [hk] at hm <;> simp at hm
    · exact hm.1.1
    · exact hm.1
  have hK := h.keep hi o
  have key : ∀ c, (applyM n o).2.commit = c → (0 < o.st ∧ (lk (applyM n o).1.dec o.st = some c ∨ lk (applyM n o).1.dec o.st = none ∧ c = 0 ∧ o.st < (applyM n o).1.mark)) → OnceD (applyM n o).1 (upd D o.st (applyM n o).2.commit) := by
    intro c e hh p hp
    rcases mem_upd2 hp with rfl | hp
    · rw [e]; exact hh
    · exact hK p hp
  have ea : applyM n o = doM n o := by unfold applyM; rw [if_pos hm]
  have fresh : (wasM n o.st).2 = false → ∀ c, lk D o.st ≠ some c := fun hw c hl => by
    obtain ⟨_, f2, f3, _⟩ := was_free hw
    obtain ⟨_, h1 | ⟨_, _, h1⟩⟩ := h _ (lk_mem hl)
    · rw [f2] at h1; cases h1
    · exact f3 h1
  have over : (wasM n o.st).2 = true → applyM n o = (n, (wasM n o.st).1) → _ := fun hw e => by
    have hc' : (wasM n o.st).1.code = 0 := by rw [e] at hc; exact hc
    have ho := was_over hw hc'
    refine (⟨fun c hl => ?_, fun h0 => ?_, key _ rfl ⟨hst, ?_⟩⟩ : (∀ c, lk D o.st = some c → c = (applyM n o).2.commit) ∧ ((applyM n o).2.commit ≠ 0 → o.st < (applyM n o).2.commit) ∧ OnceD (applyM n o).1 (upd D o.st (applyM n o).2.commit))
    · rw [e]
      obtain ⟨_, h1⟩ := h _ (lk_mem hl)
      simp only at h1 ⊢
      rcases ho with ho | ⟨ho, ho2, _⟩
      · rcases h1 with h1 | ⟨h1, _, _⟩
        · rw [ho] at h1; cases h1; rfl
        · rw [ho] at h1; cases h1
      · rcases h1 with h1 | ⟨_, h2, _⟩
        · rw [ho] at h1; cases h1
        · rw [ho2, h2]
    · rw [e] at h0 ⊢
      simp only at h0 ⊢
      rcases ho with ho | ⟨_, ho2, _⟩
      · exact hi.dst _ (lk_mem ho) h0
      · exact absurd ho2 h0
    · rw [e]; exact ho
  have aborts : (wasM n o.st).2 = false → applyM n o = ({ n with dec := upd n.dec o.st 0 }, an0) → _ := fun hw e => by
    refine (⟨fun c hl => absurd hl (fresh hw c), fun h0 => ?_, key 0 ?_ ⟨hst, Or.inl ?_⟩⟩ : (∀ c, lk D o.st = some c → c = (applyM n o).2.commit) ∧ ((applyM n o).2.commit ≠ 0 → o.st < (applyM n o).2.commit) ∧ OnceD (applyM n o).1 (upd D o.st (applyM n o).2.commit))
    · rw [e] at h0; exact absurd rfl h0
    · rw [e]; rfl
    · rw [e]; exact lk_upd_same _ _ _
  rcases hk with hk | hk
  · have ed : doM n o = commitM n o := by unfold doM; rw [hk]; rfl
    rcases commit_cases n o with ⟨hw, e⟩ | ⟨hw, _, e⟩ | ⟨hw, _, e⟩
    · exact over hw (by rw [ea, ed, e])
    · exact aborts hw (by rw [ea, ed, e])
    · have e' : applyM n o = ({ n with time := n.time + 1, dec := upd n.dec o.st (n.time + 1), las := lastM (n.time + 1) o.keys n.las, com := comM (n.time + 1) o.needs n.com }, ⟨0, 0, n.time + 1, .zero⟩) := by rw [ea, ed, e]
      refine ⟨fun c hl => absurd hl (fresh hw c), fun h0 => ?_, key (n.time + 1) ?_ ⟨hst, Or.inl ?_⟩⟩
      · rw [e']; have := (was_free hw).1; simp only; omega
      · rw [e']
      · rw [e']; exact lk_upd_same _ _ _
  · have ed : doM n o = abortM n o := by unfold doM; rw [hk]; rfl
    rcases abort_cases n o with ⟨hw, e⟩ | ⟨hw, e⟩
    · exact over hw (by rw [ea, ed, e])
    · exact aborts hw (by rw [ea, ed, e])

def givenM (o : OpM) (a : AnM) (was : Nat) : Nat := if o.k = 1 then a.first else if o.k = 6 then a.tb.at_ else if o.k = 3 then (if was < a.commit then a.commit else 0) else 0
theorem given_next (hi : OInv n) (hm : mayM o = true) (hc : (applyM n o).2.code = 0) : (givenM o (applyM n o).2 n.time ≠ 0 → givenM o (applyM n o).2 n.time = n.time + 1) ∧ (givenM o (applyM n o).2 n.time = 0 → (applyM n o).1.time = n.time ∨ o.k = 1) := by
  have ea : applyM n o = doM n o := by unfold applyM; rw [if_pos hm]
  rw [ea] at hc ⊢
  unfold givenM
  by_cases k1 : o.k = 1
  · rw [if_pos k1]
    have : doM n o = ({ n with time := n.time + o.n }, ⟨0, n.time + 1, 0, .zero⟩) := by unfold doM; rw [k1]; rfl
    rw [this]
    exact ⟨fun _ => rfl, fun h => by cases h⟩
  rw [if_neg k1]
  by_cases k6 : o.k = 6
  · rw [if_pos k6]
    have : doM n o = fenceM n o := by unfold doM; rw [k6]; rfl
    rw [this] at hc ⊢
    unfold fenceM at hc ⊢
    split at hc
    · cases hc
    · rename_i t ht
      split at hc
      · cases hc
      · split at hc
        · cases hc
        · rename_i h1 h2
          rw [if_neg h1, if_neg h2]
          exact ⟨fun _ => rfl, fun h => by cases h⟩
  rw [if_neg k6]
  by_cases k3 : o.k = 3
  · rw [if_pos k3]
    have : doM n o = commitM n o := by unfold doM; rw [k3]; rfl
    rw [this] at hc ⊢
    rcases commit_cases n o with ⟨hw, e⟩ | ⟨hw, _, e⟩ | ⟨hw, _, e⟩
    · rw [e] at hc ⊢
      have hle : ¬ n.time < (wasM n o.st).1.commit := by
        rcases was_over hw hc with h | ⟨_, h, _⟩
        · have := hi.dle _ (lk_mem h); simp only at this; omega
        · omega
      rw [if_neg hle]
      exact ⟨fun h => absurd rfl h, fun _ => Or.inl rfl⟩
    · rw [e]
      exact ⟨fun h => absurd (if_neg (by simp [an0])) h, fun _ => Or.inl rfl⟩
    · rw [e]
      rw [if_pos (Nat.lt_succ_self _)]
      exact ⟨fun _ => rfl, fun h => by cases h⟩
  rw [if_neg k3]
  refine ⟨fun h => absurd rfl h, fun _ => Or.inl ?_⟩
  unfold doM
  split
  · rename_i h; exact absurd h k1
  · rfl
  · rename_i h; exact absurd h k3
  · rcases abort_cases n o with ⟨_, e⟩ | ⟨_, e⟩ <;> rw [e]
  · unfold giveM; split <;> rfl
  · rename_i h; exact absurd h k6
  · unfold endM
    split
    · rfl
    · split <;> rfl
  · unfold endM
    split
    · rfl
    · split <;> rfl
  · unfold raiseM
    split
    · rfl
    · split <;> rfl
theorem refused_same (hc : (applyM n o).2.code ≠ 0) : (applyM n o).1 = n := by
  unfold applyM at hc ⊢
  split
  · rename_i hm
    rw [if_pos hm] at hc
    unfold doM at hc ⊢
    split
    · simp_all
    · simp_all
    · rename_i hk
      simp only [hk] at hc
      rcases commit_cases n o with ⟨_, e⟩ | ⟨_, _, e⟩ | ⟨hw, _, e⟩ <;> rw [e] at hc ⊢
      · exact absurd rfl hc
      · exact absurd rfl hc
    · rename_i hk
      simp only [hk] at hc
      rcases abort_cases n o with ⟨_, e⟩ | ⟨_, e⟩ <;> rw [e] at hc ⊢
      exact absurd rfl hc
    · rename_i hk
      simp only [hk] at hc
      unfold giveM at hc ⊢
      split
      · rfl
      · rename_i h; rw [h] at hc; exact absurd rfl hc
    · rename_i hk
      simp only [hk] at hc
      unfold fenceM at hc ⊢
      split
      · rfl
      · rename_i t h
        rw [h] at hc
        simp only at hc
        split
        · rfl
        · rename_i h1
          rw [if_neg h1] at hc
          split
          · rfl
          · rename_i h2; rw [if_neg h2] at hc; exact absurd rfl hc
    · rename_i hk
      simp only [hk] at hc
      unfold endM at hc ⊢
      split
      · rfl
      · rename_i t h
        rw [h] at hc
        simp only at hc
        split
        · rfl
        · rename_i h2; rw [if_neg h2] at hc; exact absurd rfl hc
    · rename_i hk
      simp only [hk] at hc
      unfold endM at hc ⊢
      split
      · rfl
      · rename_i t h
        rw [h] at hc
        simp only at hc
        split
        · rfl
        · rename_i h2; rw [if_neg h2] at hc; exact absurd rfl hc
    · unfold raiseM at hc ⊢
      split
      · rfl
      · split
        · rename_i h1 h2; simp_all [an0]
        · rfl
  · rfl
theorem commit_needs (hi : OInv n) (hm : mayM o = true) (hk : o.k = 3) (hc : (applyM n o).2.code = 0) (ht : n.time < (applyM n o).2.commit) : clearM n o = true := by
  have ea : applyM n o = commitM n o := by unfold applyM; rw [if_pos hm]; unfold doM; rw [hk]; rfl
  rw [ea] at hc ht
  rcases commit_cases n o with ⟨hw, e⟩ | ⟨hw, _, e⟩ | ⟨hw, h, e⟩
  · rw [e] at hc ht
    rcases was_over hw hc with h | ⟨_, h, _⟩
    · have := hi.dle _ (lk_mem h); simp only at this ht; omega
    · simp only at ht; omega
  · rw [e] at ht; simp [an0] at ht
  · exact h
theorem seen_keep (p : ByteArray) (n : OM) (o : OpM) (t : Nat) (ht : t ≤ n.time) : seenM ((applyM n o).1.com p) t = seenM (n.com p) t := by
  unfold applyM
  split
  · unfold doM
    split
    · rfl
    · rfl
    · rcases commit_cases n o with ⟨_, e⟩ | ⟨_, _, e⟩ | ⟨hw, _, e⟩ <;> rw [e]
      obtain ⟨j, hj⟩ := comM_app (n.time + 1) o.needs n.com p
      simp only [hj]
      exact seenM_app _ _ _ _ (by omega)
    · rcases abort_cases n o with ⟨_, e⟩ | ⟨_, e⟩ <;> rw [e]
    · unfold giveM; split <;> rfl
    · unfold fenceM
      split
      · rfl
      · split
        · rfl
        · split <;> rfl
    · unfold endM
      split
      · rfl
      · split <;> rfl
    · unfold endM
      split
      · rfl
      · split <;> rfl
    · unfold raiseM
      split
      · rfl
      · split <;> rfl
  · rfl
/-- What was committed: when, and of which keys. -/
def ApartI (n : OM) (done : List (List ByteArray × Nat)) : Prop := ∀ d ∈ done, d.2 ≤ n.time ∧ ∀ k ∈ d.1, ∃ v, lk n.las k = some v ∧ d.2 ≤ v
theorem ApartI.keep {done : List (List ByteArray × Nat)} (h : ApartI n done) (hk : o.k ≠ 9) : ApartI (applyM n o).1 done := by
  intro d hd
  obtain ⟨h1, h2⟩ := h d hd
  refine ⟨Nat.le_trans h1 (time_le n o), fun k hk' => ?_⟩
  obtain ⟨v, h3, h4⟩ := h2 k hk'
  unfold applyM
  split
  · rename_i hm
    unfold doM
    split
    · exact ⟨v, h3, h4⟩
    · exact ⟨v, h3, h4⟩
    · rcases commit_cases n o with ⟨_, e⟩ | ⟨_, _, e⟩ | ⟨hw, _, e⟩ <;> rw [e]
      · exact ⟨v, h3, h4⟩
      · exact ⟨v, h3, h4⟩
      · obtain ⟨i1, i2⟩ := lastM_lk (n.time + 1) o.keys n.las k
        by_cases hx : k ∈ o.keys
        · exact ⟨_, i1 hx, by omega⟩
        · exact ⟨v, (i2 hx).trans h3, h4⟩
    · rcases abort_cases n o with ⟨_, e⟩ | ⟨_, e⟩ <;> rw [e] <;> exact ⟨v, h3, h4⟩
    · unfold giveM; split <;> exact ⟨v, h3, h4⟩
    · unfold fenceM
      split
      · exact ⟨v, h3, h4⟩
      · split
        · exact ⟨v, h3, h4⟩
        · split <;> exact ⟨v, h3, h4⟩
    · unfold endM
      split
      · exact ⟨v, h3, h4⟩
      · split <;> exact ⟨v, h3, h4⟩
    · unfold endM
      split
      · exact ⟨v, h3, h4⟩
      · split <;> exact ⟨v, h3, h4⟩
    · rename_i h1 h2 h3' h4' h5 h6 h7 h8
      exfalso
      unfold mayM kindM at hm
      split at hm <;> simp_all
  · exact ⟨v, h3, h4⟩
theorem ApartI.free {done : List (List ByteArray × Nat)} (h : ApartI n done) (hc : clearM n o = true) {d : List ByteArray × Nat} (hd : d ∈ done) {k : ByteArray} (h1 : k ∈ d.1) (h2 : k ∈ o.keys) : ¬ o.st < d.2 := by
  obtain ⟨_, h3⟩ := h d hd
  obtain ⟨v, h4, h5⟩ := h3 k h1
  unfold clearM at hc
  simp only [Bool.and_eq_true, List.all_eq_true, decide_eq_true_eq] at hc
  have := hc.1 k h2
  rw [h4] at this
  simp at this
  omega
theorem ApartI.add {done : List (List ByteArray × Nat)} (h : ApartI n done) (hi : OInv n) (hm : mayM o = true) (hk : o.k = 3) (hc : (applyM n o).2.code = 0) (ht : n.time < (applyM n o).2.commit) : ApartI (applyM n o).1 (done ++ [(o.keys, (applyM n o).2.commit)]) ∧ (applyM n o).2.commit = n.time + 1 := by
  have hcl := commit_needs hi hm hk hc ht
  have hK := h.keep (o := o) (by omega)
  have ea : applyM n o = commitM n o := by unfold applyM; rw [if_pos hm]; unfold doM; rw [hk]; rfl
  rw [ea] at hc ht hK ⊢
  rcases commit_cases n o with ⟨hw, e⟩ | ⟨hw, h1, e⟩ | ⟨hw, _, e⟩
  · exfalso
    rw [e] at hc ht
    rcases was_over hw hc with h | ⟨_, h, _⟩
    · have := hi.dle _ (lk_mem h); simp only at this ht; omega
    · simp only at ht; omega
  · rw [hcl] at h1; cases h1
  · rw [e] at hK ⊢
    refine ⟨fun d hd => ?_, rfl⟩
    rcases List.mem_append.1 hd with hd | hd
    · exact hK d hd
    · simp only [List.mem_singleton] at hd
      subst hd
      refine ⟨Nat.le_refl _, fun k hk' => ⟨n.time + 1, ?_, Nat.le_refl _⟩⟩
      exact (lastM_lk (n.time + 1) o.keys n.las k).1 hk'
end
end Go.Proofs.Ytgmmglmokkcgeaa
