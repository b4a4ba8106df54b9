/- Plain: cells in order: a cell is laid, what is seen, what is trimmed. -/
import Derived.Test.YtnhookblhckmlaaK8
namespace Go.Proofs.Ytnhookblhckmlaa
open Go.RowKit Mk Go.Sort

theorem toList_inj {a b : ByteArray} (h : a.toList = b.toList) : a = b := by
  have h1 : a.data.toList = b.data.toList := by rw [← Lib.toList_data, ← Lib.toList_data]; exact h
  cases a; cases b; simp only [ByteArray.mk.injEq] at h1 ⊢; exact Array.toList_inj.1 h1
theorem cmpM_lt (a b : CellM) : cmpM a b < 0 ↔ (a.key.toList < b.key.toList ∨ a.key.toList = b.key.toList ∧ b.time < a.time) := by
  have h : cmpM a b < 0 ↔ ¬ cmpM b a ≤ 0 := by rw [cmpM_neg a b]; omega
  rw [h, cmpM_le]
  constructor
  · intro h1
    by_cases e : a.key.toList = b.key.toList
    · exact Or.inr ⟨e, by by_cases h2 : b.time < a.time; exact h2; exact absurd (Or.inr ⟨e.symm, by omega⟩) h1⟩
    · by_cases h2 : a.key.toList < b.key.toList
      · exact Or.inl h2
      · have h3 : b.key.toList ≤ a.key.toList := List.not_lt.1 h2
        by_cases h4 : b.key.toList < a.key.toList
        · exact absurd (Or.inl h4) h1
        · exact absurd (List.le_antisymm (List.not_lt.1 h4) h3) e
  · rintro (h1 | ⟨h1, h2⟩) (h3 | ⟨h3, h4⟩)
    · exact List.lt_asymm h1 h3
    · rw [h3] at h1; exact List.lt_irrefl _ h1
    · rw [h1] at h3; exact List.lt_irrefl _ h3
    · omega
theorem cmpM_zero (a b : CellM) : cmpM a b = 0 ↔ (a.key = b.key ∧ a.time = b.time) := by
  constructor
  · intro h
    have h1 := (cmpM_le a b).1 (by omega)
    have h2 := (cmpM_le b a).1 (by rw [cmpM_neg a b]; omega)
    rcases h1 with h1 | ⟨h1, g1⟩ <;> rcases h2 with h2 | ⟨h2, g2⟩
    · exact absurd h2 (List.lt_asymm h1)
    · rw [h2] at h1; exact absurd h1 (List.lt_irrefl _)
    · rw [h1] at h2; exact absurd h2 (List.lt_irrefl _)
    · exact ⟨toList_inj h1, by omega⟩
  · rintro ⟨h1, h2⟩
    have h3 := (cmpM_le a b).2 (Or.inr ⟨by rw [h1], by omega⟩)
    have h4 := (cmpM_le b a).2 (Or.inr ⟨by rw [h1], by omega⟩)
    rw [cmpM_neg a b] at h4
    omega
theorem cmpM_lt_trans {a b c : CellM} (h1 : cmpM a b < 0) (h2 : cmpM b c < 0) : cmpM a c < 0 := by
  rw [cmpM_lt] at *
  rcases h1 with h1 | ⟨h1, g1⟩ <;> rcases h2 with h2 | ⟨h2, g2⟩
  · exact Or.inl (List.lt_trans h1 h2)
  · exact Or.inl (h2 ▸ h1)
  · exact Or.inl (h1 ▸ h2)
  · exact Or.inr ⟨h1.trans h2, by omega⟩
theorem cmpM_same {a b c : CellM} (h : cmpM a b = 0) : cmpM c a = cmpM c b ∧ cmpM a c = cmpM b c := by
  obtain ⟨h1, h2⟩ := (cmpM_zero a b).1 h
  unfold cmpM
  rw [h1, h2]
  exact ⟨rfl, rfl⟩

/-- In order: each ahead of all that come behind it. -/
def Ord (L : List CellM) : Prop := L.Pairwise (fun a b => cmpM a b < 0)

/-- A cell is laid into cells in order. -/
def layM : List CellM → CellM → List CellM
  | [], x => [x]
  | c :: L, x => if cmpM c x < 0 then c :: layM L x else if cmpM c x = 0 then x :: L else x :: c :: L
theorem layM_mem {L : List CellM} {x c : CellM} (h : c ∈ layM L x) : c = x ∨ c ∈ L := by
  induction L with
  | nil => simp [layM] at h; exact Or.inl h
  | cons a L ih =>
    unfold layM at h
    split at h
    · rcases List.mem_cons.1 h with h | h
      · exact Or.inr (by simp [h])
      · rcases ih h with h | h
        · exact Or.inl h
        · exact Or.inr (List.mem_cons_of_mem _ h)
    · split at h
      · rcases List.mem_cons.1 h with h | h
        · exact Or.inl h
        · exact Or.inr (List.mem_cons_of_mem _ h)
      · rcases List.mem_cons.1 h with h | h
        · exact Or.inl h
        · exact Or.inr h
theorem Ord.lay {L : List CellM} (h : Ord L) (x : CellM) : Ord (layM L x) := by
  unfold Ord at *
  induction L with
  | nil => simp [layM]
  | cons a L ih =>
    rw [List.pairwise_cons] at h
    unfold layM
    split
    · rename_i h1
      rw [List.pairwise_cons]
      refine ⟨fun c hc => ?_, ih h.2⟩
      rcases layM_mem hc with rfl | hc
      · exact h1
      · exact h.1 c hc
    · rename_i h1
      split
      · rename_i h2
        rw [List.pairwise_cons]
        exact ⟨fun c hc => by rw [← (cmpM_same h2).2]; exact h.1 c hc, h.2⟩
      · rename_i h2
        have h3 : cmpM x a < 0 := by rw [cmpM_neg a x]; omega
        rw [List.pairwise_cons, List.pairwise_cons]
        refine ⟨fun c hc => ?_, h⟩
        rcases List.mem_cons.1 hc with rfl | hc
        · exact h3
        · exact cmpM_lt_trans h3 (h.1 c hc)
theorem layM_len (L : List CellM) (x : CellM) : (layM L x).length ≤ L.length + 1 := by
  induction L with
  | nil => simp [layM]
  | cons a L ih =>
    unfold layM
    split
    · simpa using ih
    · split <;> simp
def putB (B : List CellM) (x : CellM) : List CellM := match B with | [] => [x] | b :: B' => if cmpM b x = 0 then x :: B' else x :: b :: B'
/-- As the list is parted. -/
theorem layM_parts {A B : List CellM} {x : CellM} (hA : ∀ c ∈ A, cmpM c x < 0) (hB : ∀ c ∈ B, ¬ cmpM c x < 0) :
    layM (A ++ B) x = A ++ putB B x := by
  induction A with
  | nil =>
    cases B with
    | nil => rfl
    | cons b B =>
      simp only [List.nil_append, layM, putB]
      rw [if_neg (hB b (by simp))]
  | cons a A ih =>
    simp only [List.cons_append, layM]
    rw [if_pos (hA a (by simp)), ih (fun c hc => hA c (List.mem_cons_of_mem _ hc))]

theorem bsGo_spec {L : List CellM} {x : CellM} (hO : Ord L) : ∀ f i j, j - i ≤ f → i ≤ j → j ≤ L.length →
    (∀ (p : Nat) c, p < i → L[p]? = some c → cmpM c x < 0) → (∀ (p : Nat) c, j ≤ p → L[p]? = some c → ¬ cmpM c x < 0) →
    (∀ (p : Nat) c, p < bsGo L x f i j → L[p]? = some c → cmpM c x < 0) ∧ (∀ (p : Nat) c, bsGo L x f i j ≤ p → L[p]? = some c → ¬ cmpM c x < 0) := by
  have up : ∀ (p q : Nat) c d, p < q → L[p]? = some c → L[q]? = some d → cmpM c d < 0 := by
    intro p q c d hpq hp hq
    obtain ⟨h1, rfl⟩ := List.getElem?_eq_some_iff.1 hp
    obtain ⟨h2, rfl⟩ := List.getElem?_eq_some_iff.1 hq
    exact List.pairwise_iff_getElem.1 hO p q h1 h2 hpq
  intro f
  induction f with
  | zero =>
    intro i j hf hij hj h1 h2
    obtain rfl : i = j := by omega
    unfold bsGo
    exact ⟨h1, h2⟩
  | succ f ih =>
    intro i j hf hij hj h1 h2
    unfold bsGo
    split
    · rename_i hlt
      have hm : (i + j) / 2 < L.length := by omega
      rw [List.getElem?_eq_getElem hm]
      simp only
      have hme := List.getElem?_eq_getElem hm
      split
      · rename_i hc
        refine ih _ _ (by omega) (by omega) hj (fun p c hp hpc => ?_) h2
        by_cases e : p = (i + j) / 2
        · subst e; rw [hme] at hpc; cases hpc; exact hc
        · exact cmpM_lt_trans (up p _ c _ (by omega) hpc hme) hc
      · rename_i hc
        refine ih _ _ (by omega) (by omega) (by omega) h1 (fun p c hp hpc => ?_)
        by_cases e : p = (i + j) / 2
        · subst e; rw [hme] at hpc; cases hpc; exact hc
        · intro h3
          exact hc (cmpM_lt_trans (up _ p _ c (by omega) hme hpc) h3)
    · obtain rfl : i = j := by omega
      exact ⟨h1, h2⟩
theorem bsM_spec {L : List CellM} {x : CellM} (hO : Ord L) : (∀ c ∈ L.take (bsM L x), cmpM c x < 0) ∧ (∀ c ∈ L.drop (bsM L x), ¬ cmpM c x < 0) := by
  obtain ⟨h1, h2⟩ := bsGo_spec (x := x) hO L.length 0 L.length (by omega) (by omega) (by omega) (by omega) (fun p c hp hpc => by
    have := (List.getElem?_eq_some_iff.1 hpc).1
    omega)
  refine ⟨fun c hc => ?_, fun c hc => ?_⟩
  · obtain ⟨p, hp, rfl⟩ := List.getElem_of_mem hc
    simp only [List.length_take] at hp
    rw [List.getElem_take]
    exact h1 p _ (by show p < bsM L x; omega) (List.getElem?_eq_getElem (by omega))
  · obtain ⟨p, hp, rfl⟩ := List.getElem_of_mem hc
    simp only [List.length_drop] at hp
    rw [List.getElem_drop]
    exact h2 _ _ (by show bsM L x ≤ bsM L x + p; omega) (List.getElem?_eq_getElem (by omega))
theorem bsM_new {L : List CellM} {x : CellM} (hO : Ord L) (h : bsIs L x = false) : layM L x = L.take (bsM L x) ++ x :: L.drop (bsM L x) := by
  obtain ⟨h1, h2⟩ := bsM_spec (x := x) hO
  have h3 := layM_parts h1 h2
  rw [List.take_append_drop] at h3
  rw [h3]
  unfold bsIs at h
  have h4 : (L.drop (bsM L x))[0]? = L[bsM L x]? := by rw [List.getElem?_drop]; rfl
  cases hd : L.drop (bsM L x) with
  | nil => rfl
  | cons b B =>
    rw [hd] at h4
    simp at h4
    rw [← h4] at h
    simp at h
    simp only [putB]
    rw [if_neg h]
theorem bsM_old {L : List CellM} {x : CellM} (hO : Ord L) (h : bsIs L x = true) : bsM L x < L.length ∧ layM L x = L.take (bsM L x) ++ x :: L.drop (bsM L x + 1) := by
  obtain ⟨h1, h2⟩ := bsM_spec (x := x) hO
  have h3 := layM_parts h1 h2
  rw [List.take_append_drop] at h3
  unfold bsIs at h
  have h4 : (L.drop (bsM L x))[0]? = L[bsM L x]? := by rw [List.getElem?_drop]; rfl
  cases hd : L.drop (bsM L x) with
  | nil =>
    rw [hd] at h4
    simp at h4
    rw [List.getElem?_eq_none h4] at h
    cases h
  | cons b B =>
    have hlt : bsM L x < L.length := by
      have := congrArg List.length hd
      simp at this
      omega
    have hB : L.drop (bsM L x + 1) = B := by
      rw [← List.drop_drop, hd]; rfl
    rw [hd] at h4 h3
    simp at h4
    rw [← h4] at h
    simp at h
    simp only [putB] at h3
    rw [if_pos h] at h3
    rw [hB]
    exact ⟨hlt, h3⟩

/-- What is seen of a key at a time. -/
def pK (k : ByteArray) (t : Nat) (c : CellM) : Bool := decide (c.key = k) && decide (c.time ≤ t)
def getM (L : List CellM) (k : ByteArray) (t : Nat) : Option CellM :=
  match L.find? (pK k t) with
  | some c => if c.del then none else some c
  | none => none
theorem seenM_get {L : List CellM} (hO : Ord L) (k : ByteArray) (t : Nat) : seenM L k t = getM L k t := by
  obtain ⟨h1, h2⟩ := bsM_spec (x := ⟨k, t, false, ⟨#[]⟩⟩) hO
  unfold seenM getM
  generalize bsM L ⟨k, t, false, ⟨#[]⟩⟩ = n at *
  have hL : L.find? (pK k t) = (L.drop n).find? (pK k t) := by
    conv => lhs; rw [← List.take_append_drop n L, List.find?_append]
    rw [List.find?_eq_none.2 (fun c hc => ?_)]
    · simp
    · have := (cmpM_lt _ _).1 (h1 c hc)
      simp only at this
      simp only [pK, Bool.and_eq_true, decide_eq_true_eq, not_and]
      intro e
      rcases this with h | ⟨_, h⟩
      · rw [e] at h; exact absurd h (List.lt_irrefl _)
      · omega
  rw [hL]
  have h4 : (L.drop n)[0]? = L[n]? := by rw [List.getElem?_drop]; rfl
  rw [← h4]
  have hO2 : Ord (L.drop n) := hO.sublist (List.drop_sublist _ _)
  generalize L.drop n = B at *
  cases B with
  | nil => rfl
  | cons b B =>
    simp only [List.getElem?_cons_zero]
    have hb := h2 b (by simp)
    rw [cmpM_lt] at hb
    simp only at hb
    by_cases e : b.key = k
    · have ht : b.time ≤ t := by
        by_cases h : b.time ≤ t
        · exact h
        · exact absurd (Or.inr ⟨by rw [e], by omega⟩) hb
      have hp : pK k t b = true := by simp [pK, e, ht]
      rw [List.find?_cons_of_pos hp]
      cases hd : b.del <;> simp [e, hd]
    · have hne : ¬ b.key.toList = k.toList := fun h => e (toList_inj h)
      rw [if_neg (fun h => hne h.1)]
      have hgt : k.toList < b.key.toList := by
        by_cases h : k.toList < b.key.toList
        · exact h
        · by_cases h5 : b.key.toList < k.toList
          · exact absurd (Or.inl h5) hb
          · exact absurd (List.le_antisymm (List.not_lt.1 h) (List.not_lt.1 h5)) hne
      rw [List.find?_eq_none.2]
      intro c hc
      simp only [pK, Bool.and_eq_true, decide_eq_true_eq, not_and]
      intro e2
      exfalso
      rcases List.mem_cons.1 hc with rfl | hc
      · exact e e2
      · have h6 := (cmpM_lt _ _).1 ((List.pairwise_cons.1 hO2).1 c hc)
        rw [e2] at h6
        rcases h6 with h6 | ⟨h6, _⟩
        · exact List.lt_asymm h6 hgt
        · rw [h6] at hgt; exact List.lt_irrefl _ hgt
theorem getM_lay (L : List CellM) {x : CellM} (k : ByteArray) {t : Nat} (h : t < x.time) : getM (layM L x) k t = getM L k t := by
  have hx : pK k t x = false := by simp [pK]; intro _; omega
  have : (layM L x).find? (pK k t) = L.find? (pK k t) := by
    induction L with
    | nil => simp [layM, hx]
    | cons a L ih =>
      unfold layM
      split
      · rw [List.find?_cons, List.find?_cons, ih]
      · split
        · rename_i h2
          obtain ⟨e1, e2⟩ := (cmpM_zero _ _).1 h2
          have ha : pK k t a = false := by unfold pK at hx ⊢; rw [e1, e2]; exact hx
          rw [List.find?_cons, List.find?_cons, hx, ha]
        · rw [List.find?_cons, hx]
  unfold getM
  rw [this]

/-- What trimming keeps in mind: the key that it has met, if any. -/
structure TrS where
  last : ByteArray
  any : Bool
def trStep (b : Nat) (s : TrS) (x : CellM) : Bool × TrS :=
  if b < x.time then (false, s) else ((s.any && (x.key.toList == s.last.toList)) || x.del, ⟨x.key, true⟩)
def delGo (b : Nat) : TrS → List CellM → List CellM
  | _, [] => []
  | s, x :: L => if (trStep b s x).1 then delGo b (trStep b s x).2 L else x :: delGo b (trStep b s x).2 L
def stGo (b : Nat) : TrS → List CellM → TrS
  | s, [] => s
  | s, x :: L => stGo b (trStep b s x).2 L
def trimM (L : List CellM) (b : Nat) : List CellM := delGo b ⟨⟨#[]⟩, false⟩ L
theorem delGo_sub (b : Nat) (s : TrS) (L : List CellM) : (delGo b s L).Sublist L := by
  induction L generalizing s with
  | nil => exact List.Sublist.refl _
  | cons x L ih =>
    unfold delGo
    split
    · exact (ih _).cons _
    · exact (ih _).cons_cons _
theorem Ord.trim {L : List CellM} (h : Ord L) (b : Nat) : Ord (trimM L b) := List.Pairwise.sublist (delGo_sub _ _ _) h
theorem trimM_len (L : List CellM) (b : Nat) : (trimM L b).length ≤ L.length := (delGo_sub _ _ _).length_le
theorem delGo_append (b : Nat) (s : TrS) (A B : List CellM) : delGo b s (A ++ B) = delGo b s A ++ delGo b (stGo b s A) B := by
  induction A generalizing s with
  | nil => rfl
  | cons x A ih =>
    simp only [List.cons_append, delGo, stGo]
    split <;> simp [ih]
theorem stGo_append (b : Nat) (s : TrS) (A B : List CellM) : stGo b s (A ++ B) = stGo b (stGo b s A) B := by
  induction A generalizing s with
  | nil => rfl
  | cons x A ih => simp only [List.cons_append, stGo, ih]
theorem del_again {b : Nat} {k : ByteArray} {p : CellM} (hp : p.key = k) (hpb : p.time ≤ b) : ∀ (L : List CellM) (s : TrS), s.any = true → s.last = k → Ord (p :: L) → ∀ c ∈ delGo b s L, c.key ≠ k := by
  intro L
  induction L with
  | nil => intro s _ _ _ c hc; simp [delGo] at hc
  | cons x L ih =>
    intro s h1 h2 hO c hc
    obtain ⟨g1, g2⟩ := List.pairwise_cons.1 hO
    by_cases hx : x.key = k
    · have h3 := (cmpM_lt _ _).1 (g1 x (by simp))
      have h4 : x.time < p.time := by
        rcases h3 with h3 | ⟨_, h3⟩
        · rw [hp, hx] at h3; exact absurd h3 (List.lt_irrefl _)
        · exact h3
      have hs : trStep b s x = (true, ⟨x.key, true⟩) := by
        unfold trStep
        rw [if_neg (by omega), h1, h2, hx]
        simp
      unfold delGo at hc
      rw [hs] at hc
      simp only [if_true] at hc
      refine ih _ rfl hx ?_ c hc
      exact List.pairwise_cons.2 ⟨fun d hd => g1 d (List.mem_cons_of_mem _ hd), (List.pairwise_cons.1 g2).2⟩
    · have hc2 := (delGo_sub b s (x :: L)).subset hc
      have hgt : k.toList < x.key.toList := by
        have h3 := (cmpM_lt _ _).1 (g1 x (by simp))
        rw [hp] at h3
        rcases h3 with h3 | ⟨h3, _⟩
        · exact h3
        · exact absurd (toList_inj h3).symm hx
      intro e
      rcases List.mem_cons.1 hc2 with rfl | hc2
      · exact hx e
      · have h6 := (cmpM_lt _ _).1 ((List.pairwise_cons.1 g2).1 c hc2)
        rw [e] at h6
        rcases h6 with h6 | ⟨h6, _⟩
        · exact List.lt_asymm h6 hgt
        · rw [h6] at hgt; exact List.lt_irrefl _ hgt
theorem getM_del {b t : Nat} {k : ByteArray} (hbt : b ≤ t) : ∀ (L : List CellM) (s : TrS), ¬ (s.any = true ∧ s.last = k) → Ord L → getM (delGo b s L) k t = getM L k t := by
  intro L
  induction L with
  | nil => intro s _ _; rfl
  | cons x L ih =>
    intro s hs hO
    obtain ⟨g1, g2⟩ := List.pairwise_cons.1 hO
    by_cases hb : b < x.time
    · have e : trStep b s x = (false, s) := by unfold trStep; rw [if_pos hb]
      unfold delGo
      rw [e]
      have := ih s hs g2
      unfold getM at this ⊢
      simp only [Bool.false_eq_true, if_false, List.find?_cons]
      cases pK k t x
      · exact this
      · rfl
    · by_cases hx : x.key = k
      · have hp : pK k t x = true := by simp [pK, hx]; omega
        have ha : (s.any && (x.key.toList == s.last.toList)) = false := by
          rw [Bool.and_eq_false_iff]
          by_cases h1 : s.any = true
          · right
            rw [beq_eq_false_iff_ne]
            intro h2
            exact hs ⟨h1, by rw [← hx]; exact (toList_inj h2).symm⟩
          · left; simpa using h1
        have e : trStep b s x = (x.del, ⟨x.key, true⟩) := by unfold trStep; rw [if_neg hb, ha, Bool.false_or]
        unfold delGo
        rw [e]
        simp only
        cases hd : x.del
        · unfold getM
          simp [List.find?_cons, hp]
        · simp only [if_true]
          have h3 := del_again (k := k) hx (by omega : x.time ≤ b) L ⟨x.key, true⟩ rfl hx hO
          unfold getM
          rw [List.find?_eq_none.2 (fun c hc => by simp [pK, h3 c hc]), List.find?_cons_of_pos hp]
          simp [hd]
      · have hp : pK k t x = false := by simp [pK, hx]
        have e : (trStep b s x).2 = ⟨x.key, true⟩ := by unfold trStep; rw [if_neg hb]
        have h4 := ih ⟨x.key, true⟩ (fun h => hx h.2) g2
        unfold delGo
        rw [e]
        have h5 : getM (x :: L) k t = getM L k t := by unfold getM; rw [List.find?_cons, hp]
        have h6 : ∀ M : List CellM, getM (x :: M) k t = getM M k t := fun M => by unfold getM; rw [List.find?_cons, hp]
        rw [h6 L]
        split
        · exact h4
        · rw [h6]; exact h4
theorem getM_trim {L : List CellM} (h : Ord L) {b t : Nat} (hbt : b ≤ t) (k : ByteArray) : getM (trimM L b) k t = getM L k t := getM_del hbt L _ (by simp) h
theorem Ord.fold {L : List CellM} (h : Ord L) (P : List CellM) : Ord (P.foldl layM L) := by
  induction P generalizing L with
  | nil => exact h
  | cons x P ih => exact ih (h.lay x)
theorem fold_len (L P : List CellM) : (P.foldl layM L).length ≤ L.length + P.length := by
  induction P generalizing L with
  | nil => simp
  | cons x P ih =>
    have h1 := ih (L := layM L x)
    have h2 := layM_len L x
    simp only [List.foldl_cons, List.length_cons]
    omega
end Go.Proofs.Ytnhookblhckmlaa
