/- Merging lists in order, plain. -/
import Derived.Test.YtnhookblhckmlaaKb
namespace Go.Proofs.Ytnhookblhckmlaa
set_option linter.unusedVariables false
set_option linter.unusedSimpArgs false

/-- The cell of a list that has y's key and time. -/
def look (L : List CellM) (y : CellM) : Option CellM := L.find? (fun c => decide (cmpM c y = 0))
theorem cmpM_self (a : CellM) : cmpM a a = 0 := (cmpM_zero a a).2 ⟨rfl, rfl⟩
theorem cmpM_comm {a b : CellM} (h : cmpM a b = 0) : cmpM b a = 0 := by rw [cmpM_neg, h]; rfl
theorem look_some {L : List CellM} {y c : CellM} (h : look L y = some c) : c ∈ L ∧ cmpM c y = 0 :=
  ⟨List.mem_of_find?_eq_some h, by have := List.find?_some h; simpa using this⟩
theorem look_none {L : List CellM} {y : CellM} (h : look L y = none) : ∀ c ∈ L, cmpM c y ≠ 0 := fun c hc => by
  have := List.find?_eq_none.1 h c hc
  simpa using this
theorem look_congr {L : List CellM} {y z : CellM} (h : cmpM y z = 0) : look L y = look L z := by
  unfold look
  congr 1
  funext c
  rw [(cmpM_same (c := c) h).1]
theorem Ord.look_mem {L : List CellM} (h : Ord L) {c : CellM} (hc : c ∈ L) : look L c = some c := by
  induction L with
  | nil => cases hc
  | cons a L ih =>
    obtain ⟨h1, h2⟩ := List.pairwise_cons.1 h
    unfold look
    rw [List.find?_cons]
    rcases List.mem_cons.1 hc with rfl | hc
    · simp [cmpM_self]
    · have := h1 c hc
      have e : decide (cmpM a c = 0) = false := by simp; omega
      rw [e]
      exact ih h2 hc
theorem look_lay {L : List CellM} (h : Ord L) (x y : CellM) : look (layM L x) y = if cmpM x y = 0 then some x else look L y := by
  induction L with
  | nil =>
    unfold layM look
    by_cases e : cmpM x y = 0 <;> simp [e]
  | cons a L ih =>
    obtain ⟨h1, h2⟩ := List.pairwise_cons.1 h
    unfold layM
    split
    · rename_i hl
      unfold look
      rw [List.find?_cons]
      by_cases e : cmpM a y = 0
      · have hn : cmpM x y ≠ 0 := fun e2 => by
          rw [(cmpM_same (cmpM_comm e2)).1.symm] at hl
          omega
        simp [e, hn]
      · simp only [e, decide_false]
        rw [show (layM L x).find? (fun c => decide (cmpM c y = 0)) = look (layM L x) y from rfl, ih h2]
        by_cases e2 : cmpM x y = 0
        · simp [e2]
        · rw [if_neg e2, if_neg e2, List.find?_cons]
          simp only [e, decide_false]
          rfl
    · split
      · rename_i h0 hz
        unfold look
        rw [List.find?_cons, List.find?_cons]
        have ez : cmpM a y = cmpM x y := (cmpM_same hz).2
        by_cases e : cmpM x y = 0
        · simp [e]
        · simp [e, ez]
      · unfold look
        rw [List.find?_cons]
        by_cases e : cmpM x y = 0
        · simp [e]
        · simp [e]
theorem ord_lays (l : List CellM) : ∀ {out : List CellM}, Ord out → Ord (l.foldl layM out) := by
  induction l with
  | nil => exact fun h => h
  | cons x l ih => exact fun h => ih (h.lay x)
theorem look_lays : ∀ (l : List CellM) {out : List CellM}, Ord out → Ord l → ∀ y, look (l.foldl layM out) y = (look l y).or (look out y)
  | [], out, h, hl, y => by simp [look]
  | x :: l, out, h, hl, y => by
    obtain ⟨h1, h2⟩ := List.pairwise_cons.1 hl
    rw [List.foldl_cons, look_lays l (h.lay x) h2 y, look_lay h]
    have hx : look (x :: l) y = if cmpM x y = 0 then some x else look l y := by
      unfold look
      rw [List.find?_cons]
      by_cases e : cmpM x y = 0 <;> simp [e]
    rw [hx]
    by_cases e : cmpM x y = 0
    · rw [if_pos e, if_pos e]
      have hn : look l y = none := by
        cases hh : look l y with
        | none => rfl
        | some c =>
          obtain ⟨g1, g2⟩ := look_some hh
          have := h1 c g1
          rw [← (cmpM_same (cmpM_comm g2)).1] at this
          omega
      rw [hn]
      simp
    · rw [if_neg e, if_neg e]
/-- The document's: the last list first, each cell laid. -/
def mergeM (ls : List (List CellM)) : List CellM := ls.foldr (fun l out => l.foldl layM out) []
theorem mergeM_ord (ls : List (List CellM)) : Ord (mergeM ls) := by
  induction ls with
  | nil => exact List.Pairwise.nil
  | cons l ls ih => exact ord_lays l ih
theorem mergeM_look {ls : List (List CellM)} (h : ∀ l ∈ ls, Ord l) (y : CellM) : look (mergeM ls) y = ls.findSome? (fun l => look l y) := by
  induction ls with
  | nil => rfl
  | cons l ls ih =>
    show look (l.foldl layM (mergeM ls)) y = _
    rw [look_lays l (mergeM_ord ls) (h l (by simp)), ih (fun l hl => h l (by simp [hl])), List.findSome?_cons]
    cases look l y <;> rfl
/-- Lists in order are the same if they have the same. -/
theorem Ord.ext {A B : List CellM} (ha : Ord A) (hb : Ord B) (h : ∀ y, look A y = look B y) : A = B := by
  have hm : ∀ c, c ∈ A ↔ c ∈ B := fun c => by
    constructor
    · intro hc
      have := ha.look_mem hc
      rw [h] at this
      exact (look_some this).1
    · intro hc
      have := hb.look_mem hc
      rw [← h] at this
      exact (look_some this).1
  have nd : ∀ {L : List CellM}, Ord L → L.Nodup := fun h => h.imp (fun h e => by rw [e, cmpM_self] at h; omega)
  refine List.Perm.eq_of_pairwise (le := fun a b => cmpM a b < 0) (fun a b _ _ h1 h2 => ?_) ha hb ((List.perm_ext_iff_of_nodup (nd ha) (nd hb)).2 hm)
  rw [cmpM_neg] at h2
  omega
/-- What is left of a list behind a cell that has come. -/
def less0 (c : CellM) (L : List CellM) : List CellM := L.dropWhile (fun y => decide (cmpM c y = 0))
theorem less0_same {c d : CellM} (h : cmpM c d = 0) (L : List CellM) : less0 c L = less0 d L := by
  unfold less0
  congr 1
  funext y
  rw [(cmpM_same h).2]
theorem less0_sub (c : CellM) (L : List CellM) : (less0 c L).Sublist L := List.dropWhile_sublist _
theorem look_less0 {c : CellM} {L : List CellM} (h : Ord L) (hc : ∀ y ∈ L, cmpM c y ≤ 0) (y : CellM) : look (less0 c L) y = if cmpM c y = 0 then none else look L y := by
  induction L with
  | nil => simp [less0, look]
  | cons a L ih =>
    obtain ⟨h1, h2⟩ := List.pairwise_cons.1 h
    unfold less0
    rw [List.dropWhile_cons]
    by_cases e : cmpM c a = 0
    · have hl : L.dropWhile (fun y => decide (cmpM c y = 0)) = L := by
        cases L with
        | nil => rfl
        | cons b L =>
          rw [List.dropWhile_cons]
          have := h1 b (by simp)
          rw [← (cmpM_same e).2] at this
          have : decide (cmpM c b = 0) = false := by simp; omega
          rw [this]
          rfl
      simp only [e, decide_true, if_true]
      rw [hl]
      by_cases e2 : cmpM c y = 0
      · rw [if_pos e2]
        cases hh : look L y with
        | none => rfl
        | some d =>
          obtain ⟨g1, g2⟩ := look_some hh
          have := h1 d g1
          rw [← (cmpM_same e).2, (cmpM_same g2).1, e2] at this
          omega
      · rw [if_neg e2]
        unfold look
        rw [List.find?_cons]
        have : decide (cmpM a y = 0) = false := by
          rw [← (cmpM_same e).2]; simpa using e2
        rw [this]
    · simp only [e, decide_false, Bool.false_eq_true, if_false]
      have hlt : cmpM c a < 0 := by have := hc a (by simp); omega
      by_cases e2 : cmpM c y = 0
      · rw [if_pos e2]
        cases hh : look (a :: L) y with
        | none => rfl
        | some d =>
          obtain ⟨g1, g2⟩ := look_some hh
          have hcd : cmpM c d < 0 := by
            rcases List.mem_cons.1 g1 with rfl | g1
            · exact hlt
            · exact cmpM_lt_trans hlt (h1 d g1)
          rw [(cmpM_same g2).1, e2] at hcd
          omega
      · rw [if_neg e2]
/-- The least head goes first. -/
theorem mergeM_step {rem : List (List CellM)} (h : ∀ l ∈ rem, Ord l) {i : Nat} {c : CellM} {rest : List CellM} (hi : rem[i]? = some (c :: rest))
    (hmin : ∀ j d l, rem[j]? = some (d :: l) → cmpM c d < 0 ∨ cmpM c d = 0 ∧ i ≤ j) : mergeM rem = c :: less0 c (mergeM (rem.set i rest)) := by
  have hil := (List.getElem?_eq_some_iff.1 hi).1
  have hci : Ord (c :: rest) := h _ (List.mem_of_getElem? hi)
  obtain ⟨hc1, hc2⟩ := List.pairwise_cons.1 hci
  have h' : ∀ l ∈ rem.set i rest, Ord l := fun l hl => by
    rcases List.mem_or_eq_of_mem_set hl with hl | rfl
    · exact h l hl
    · exact hc2
  -- each cell of a list is not ahead of c
  have hle : ∀ (j : Nat) (l : List CellM), rem[j]? = some l → ∀ y ∈ l, cmpM c y ≤ 0 := fun j l hj y hy => by
    cases l with
    | nil => cases hy
    | cons d l =>
      have h0 := hmin j d l hj
      rcases List.mem_cons.1 hy with rfl | hy
      · omega
      · have := (List.pairwise_cons.1 (h _ (List.mem_of_getElem? hj))).1 y hy
        rcases h0 with h0 | ⟨h0, _⟩
        · have := cmpM_lt_trans h0 this; omega
        · rw [← (cmpM_same h0).2] at this; omega
  have hle2 : ∀ y ∈ mergeM (rem.set i rest), cmpM c y ≤ 0 := fun y hy => by
    have hl := (mergeM_ord _).look_mem hy
    rw [mergeM_look h'] at hl
    obtain ⟨l, hlm, hly⟩ := List.exists_of_findSome?_eq_some hl
    have hyl := (look_some hly).1
    rcases List.mem_or_eq_of_mem_set hlm with hlm | rfl
    · obtain ⟨j, hj⟩ := List.mem_iff_getElem?.1 hlm
      exact hle j l hj y hyl
    · exact hle i _ hi y (List.mem_cons_of_mem _ hyl)
  refine Ord.ext (mergeM_ord _) ?_ (fun y => ?_)
  · refine List.pairwise_cons.2 ⟨fun y hy => ?_, (mergeM_ord _).sublist (less0_sub _ _)⟩
    have hy2 := (less0_sub _ _).subset hy
    have h1 := hle2 y hy2
    have h2 : cmpM c y ≠ 0 := fun e => by
      have hl := Ord.look_mem (L := less0 c (mergeM (rem.set i rest))) ((mergeM_ord (rem.set i rest)).sublist (less0_sub c _)) hy
      rw [look_less0 (mergeM_ord _) hle2, if_pos e] at hl
      cases hl
    omega
  · rw [mergeM_look h]
    have hcons : look (c :: less0 c (mergeM (rem.set i rest))) y = if cmpM c y = 0 then some c else look (less0 c (mergeM (rem.set i rest))) y := by
      unfold look
      rw [List.find?_cons]
      by_cases e : cmpM c y = 0 <;> simp [e]
    rw [hcons]
    by_cases e : cmpM c y = 0
    · rw [if_pos e]
      -- the first list that has it is the i-th
      have hsplit : rem = rem.take i ++ (c :: rest) :: rem.drop (i + 1) := by
        have := List.take_append_drop i rem
        rw [List.drop_eq_getElem_cons hil, (List.getElem?_eq_some_iff.1 hi).2] at this
        exact this.symm
      rw [hsplit, List.findSome?_append, List.findSome?_cons]
      have hno : (rem.take i).findSome? (fun l => look l y) = none := by
        rw [List.findSome?_eq_none_iff]
        intro l hl
        obtain ⟨j, hj⟩ := List.mem_iff_getElem?.1 hl
        have hjl := (List.getElem?_eq_some_iff.1 hj).1
        rw [List.length_take] at hjl
        rw [List.getElem?_take, if_pos (by omega)] at hj
        cases hh : look l y with
        | none => rfl
        | some d =>
          exfalso
          obtain ⟨g1, g2⟩ := look_some hh
          cases l with
          | nil => cases g1
          | cons d0 l =>
            have h0 : cmpM c d0 < 0 := by
              rcases hmin j d0 l hj with h0 | ⟨_, h0⟩
              · exact h0
              · omega
            have hcd : cmpM c d < 0 := by
              rcases List.mem_cons.1 g1 with rfl | g1
              · exact h0
              · exact cmpM_lt_trans h0 ((List.pairwise_cons.1 (h _ (List.mem_of_getElem? hj))).1 d g1)
            rw [(cmpM_same g2).1, e] at hcd
            omega
      rw [hno]
      have : look (c :: rest) y = some c := by unfold look; rw [List.find?_cons]; simp [e]
      rw [this]
      rfl
    · rw [if_neg e, look_less0 (mergeM_ord _) hle2, if_neg e, mergeM_look h']
      have hl : ∀ (j : Nat), (rem.set i rest)[j]?.map (fun l => look l y) = rem[j]?.map (fun l => look l y) := fun j => by
        by_cases ej : j = i
        · subst ej
          rw [List.getElem?_set_self (by simpa using hil), hi]
          simp only [Option.map_some, Option.some.injEq]
          unfold look
          rw [List.find?_cons]
          simp [e]
        · rw [List.getElem?_set_ne (Ne.symm ej)]
      have hm : (rem.set i rest).map (fun l => look l y) = rem.map (fun l => look l y) := List.ext_getElem? (fun j => by rw [List.getElem?_map, List.getElem?_map]; exact hl j)
      have hf : ∀ (ls : List (List CellM)), ls.findSome? (fun l => look l y) = (ls.map (fun l => look l y)).findSome? id := fun ls => by
        rw [List.findSome?_map]; rfl
      rw [hf, hf, hm]
theorem mergeM_nil {rem : List (List CellM)} (h : ∀ l ∈ rem, l = []) : mergeM rem = [] := by
  induction rem with
  | nil => rfl
  | cons l ls ih =>
    show l.foldl layM (mergeM ls) = []
    rw [h l (by simp), ih (fun l hl => h l (by simp [hl]))]
    rfl
/-- A merged list in the place of its lists. -/
theorem mergeM_nest {A B : List (List CellM)} (ha : ∀ l ∈ A, Ord l) (hb : ∀ l ∈ B, Ord l) : mergeM (A ++ [mergeM B]) = mergeM (A ++ B) := by
  refine Ord.ext (mergeM_ord _) (mergeM_ord _) (fun y => ?_)
  rw [mergeM_look (fun l hl => by
    rcases List.mem_append.1 hl with hl | hl
    · exact ha l hl
    · simp at hl; subst hl; exact mergeM_ord B), mergeM_look (fun l hl => by
    rcases List.mem_append.1 hl with hl | hl
    · exact ha l hl
    · exact hb l hl), List.findSome?_append, List.findSome?_append, List.findSome?_cons, mergeM_look hb]
  cases (B.findSome? fun l => look l y) <;> rfl
/-- Lists without cells may be left out. -/
theorem mergeM_skip {A B : List (List CellM)} : mergeM (A ++ [] :: B) = mergeM (A ++ B) := by
  unfold mergeM
  rw [List.foldr_append, List.foldr_append]
  rfl
end Go.Proofs.Ytnhookblhckmlaa
/- Heaps, plain. -/
namespace Go.Proofs.Ytnhookblhckmlaa
set_option linter.unusedVariables false
set_option linter.unusedSimpArgs false

/-- A head: the next cell, which list it is of, where the rest's slice lies. -/
structure HdM where
  c : CellM
  fr : Nat
  nb : Nat
def cmpH (a b : HdM) : Int := if cmpM a.c b.c ≠ 0 then cmpM a.c b.c else if a.fr < b.fr then -1 else if b.fr < a.fr then 1 else 0
def lessH (a b : HdM) : Bool := decide (cmpH a b < 0)
theorem lessH_iff (a b : HdM) : lessH a b = true ↔ cmpM a.c b.c < 0 ∨ cmpM a.c b.c = 0 ∧ a.fr < b.fr := by
  unfold lessH cmpH
  rw [decide_eq_true_eq]
  by_cases e : cmpM a.c b.c = 0
  · rw [if_neg (by simp [e])]
    constructor
    · intro h
      split at h
      · rename_i h1; exact Or.inr ⟨e, h1⟩
      · split at h <;> omega
    · rintro (h | ⟨_, h⟩)
      · omega
      · rw [if_pos h]; omega
  · rw [if_pos e]
    constructor
    · exact Or.inl
    · rintro (h | ⟨h, _⟩)
      · exact h
      · exact absurd h e
/-- Not behind: a preorder. -/
def leH (a b : HdM) : Prop := lessH b a = false
theorem leH_iff (a b : HdM) : leH a b ↔ cmpM a.c b.c < 0 ∨ cmpM a.c b.c = 0 ∧ a.fr ≤ b.fr := by
  unfold leH
  have h := lessH_iff b a
  have h2 := cmpM_neg a.c b.c
  constructor
  · intro h1
    rw [h1] at h
    simp only [Bool.false_eq_true, false_iff, not_or, not_and] at h
    by_cases e : cmpM a.c b.c = 0
    · exact Or.inr ⟨e, by have := h.2 (by omega); omega⟩
    · left; have := h.1; omega
  · intro h1
    cases hb : lessH b a with
    | false => rfl
    | true =>
      exfalso
      rcases h.1 hb with h3 | ⟨h3, h4⟩ <;> rcases h1 with h5 | ⟨h5, h6⟩ <;> omega
theorem leH_refl (a : HdM) : leH a a := (leH_iff a a).2 (Or.inr ⟨cmpM_self _, Nat.le_refl _⟩)
theorem leH_trans {a b c : HdM} (h1 : leH a b) (h2 : leH b c) : leH a c := by
  rw [leH_iff] at *
  rcases h1 with h1 | ⟨h1, g1⟩ <;> rcases h2 with h2 | ⟨h2, g2⟩
  · exact Or.inl (cmpM_lt_trans h1 h2)
  · exact Or.inl (by rw [← (cmpM_same h2).1]; exact h1)
  · exact Or.inl (by rw [(cmpM_same h1).2]; exact h2)
  · exact Or.inr ⟨by rw [(cmpM_same h1).2]; exact h2, by omega⟩
theorem leH_of_less {a b : HdM} (h : lessH a b = true) : leH a b := (leH_iff a b).2 (by
  rcases (lessH_iff a b).1 h with h | ⟨h, g⟩
  · exact Or.inl h
  · exact Or.inr ⟨h, by omega⟩)

/-- Two places exchanged. -/
def swp (H : List HdM) (i j : Nat) : List HdM := match H[i]?, H[j]? with
  | some a, some b => (H.set i b).set j a
  | _, _ => H
theorem swp_eq {H : List HdM} {i j : Nat} (hi : i < H.length) (hj : j < H.length) : swp H i j = (H.set i H[j]).set j H[i] := by
  unfold swp; rw [List.getElem?_eq_getElem hi, List.getElem?_eq_getElem hj]
theorem swp_len (H : List HdM) (i j : Nat) : (swp H i j).length = H.length := by
  unfold swp; split <;> simp
theorem swp_get {H : List HdM} {i j : Nat} (hi : i < H.length) (hj : j < H.length) (k : Nat) : (swp H i j)[k]? = if k = j then H[i]? else if k = i then H[j]? else H[k]? := by
  rw [swp_eq hi hj]
  by_cases e : k = j
  · subst e; rw [List.getElem?_set_self (by simpa using hj), if_pos rfl, List.getElem?_eq_getElem hi]
  · rw [List.getElem?_set_ne (Ne.symm e), if_neg e]
    by_cases e2 : k = i
    · subst e2; rw [List.getElem?_set_self hi, if_pos rfl, List.getElem?_eq_getElem hj]
    · rw [List.getElem?_set_ne (Ne.symm e2), if_neg e2]
theorem swp_perm {H : List HdM} {i j : Nat} (hi : i < H.length) (hj : j < H.length) : (swp H i j).Perm H := by
  rw [swp_eq hi hj]
  exact List.set_set_perm hi hj
/-- What is behind place n stays; what is ahead of it is only moved about. -/
structure Mixed (n : Nat) (H H' : List HdM) : Prop where
  len : H'.length = H.length
  perm : H'.Perm H
  tail : ∀ k, n ≤ k → H'[k]? = H[k]?
theorem Mixed.refl (n : Nat) (H : List HdM) : Mixed n H H := ⟨rfl, List.Perm.refl _, fun _ _ => rfl⟩
theorem Mixed.swp {n i j : Nat} {H H' : List HdM} (h : Mixed n H H') (hi : i < n) (hj : j < n) (hn : n ≤ H.length) : Mixed n H (swp H' i j) := by
  have h1 := h.len
  refine ⟨by rw [swp_len]; exact h1, (swp_perm (by omega) (by omega)).trans h.perm, fun k hk => ?_⟩
  rw [swp_get (by omega) (by omega), if_neg (by omega), if_neg (by omega)]
  exact h.tail k hk
/-- Place k is not behind its parent. -/
def okAt (H : List HdM) (k p : Nat) : Prop := ∀ a b, H[p]? = some a → H[k]? = some b → leH a b
/-- From the parents b on, the first n are a heap. -/
def HeapFrom (H : List HdM) (b n : Nat) : Prop := ∀ k, 0 < k → k < n → b ≤ (k - 1) / 2 → okAt H k ((k - 1) / 2)
/-- .. but for place i. -/
structure HeapBut (H : List HdM) (b n i : Nat) : Prop where
  le : b ≤ i
  ok : ∀ k, 0 < k → k < n → b ≤ (k - 1) / 2 → (k - 1) / 2 ≠ i → okAt H k ((k - 1) / 2)
  gp : ∀ k, 0 < k → k < n → (k - 1) / 2 = i → 0 < i → b ≤ (i - 1) / 2 → okAt H k ((i - 1) / 2)
theorem HeapFrom.but {H : List HdM} {b n : Nat} (h : HeapFrom H (b + 1) n) : HeapBut H b n b :=
  ⟨Nat.le_refl _, fun k h0 h1 h2 h3 => h k h0 h1 (by omega), fun k h0 h1 h2 h3 h4 => by omega⟩
/-- The root turned: a heap but for it. -/
theorem HeapFrom.root {H : List HdM} {n : Nat} (h : HeapFrom H 0 n) (a : HdM) : HeapBut (H.set 0 a) 0 n 0 :=
  ⟨Nat.le_refl _, fun k h0 h1 h2 h3 => by
    intro x y hx hy
    rw [List.getElem?_set_ne (by omega)] at hx hy
    exact h k h0 h1 h2 x y hx hy, fun k h0 h1 h2 h3 h4 => by omega⟩
theorem HeapBut.stop {H : List HdM} {b n i : Nat} (h : HeapBut H b n i) (hs : ∀ k, 0 < k → k < n → (k - 1) / 2 = i → okAt H k i) : HeapFrom H b n := fun k h0 h1 h2 => by
  by_cases e : (k - 1) / 2 = i
  · rw [e]; exact hs k h0 h1 e
  · exact h.ok k h0 h1 h2 e
/-- One step down: j is i's child that is not behind the other, and i is behind it. -/
theorem HeapBut.down {H : List HdM} {b n i j : Nat} (h : HeapBut H b n i) (hn : n ≤ H.length) (hj : 0 < j) (hjn : j < n) (hji : (j - 1) / 2 = i) (hmin : ∀ k, 0 < k → k < n → (k - 1) / 2 = i → okAt H k j)
    (hlt : ∀ a b, H[j]? = some a → H[i]? = some b → leH a b) : HeapBut (swp H i j) b n j := by
  have hil : i < H.length := by omega
  have hjl : j < H.length := by omega
  have hij : i < j := by omega
  refine ⟨by have := h.le; omega, fun k h0 h1 h2 h3 => ?_, fun k h0 h1 h2 h3 h4 => ?_⟩
  · intro x y hx hy
    rw [swp_get hil hjl] at hx hy
    rw [if_neg h3] at hx
    by_cases e : (k - 1) / 2 = i
    · rw [if_pos e] at hx
      by_cases ek : k = j
      · subst ek; rw [if_pos rfl] at hy; exact hlt x y hx hy
      · rw [if_neg ek, if_neg (by omega)] at hy
        exact hmin k h0 h1 e x y hx hy
    · rw [if_neg e] at hx
      by_cases ek : k = i
      · -- i's own parent against what is laid there now
        subst ek
        rw [if_neg (by omega), if_pos rfl] at hy
        exact h.gp j hj hjn hji h0 h2 x y hx hy
      · by_cases ekj : k = j
        · omega
        · rw [if_neg ekj, if_neg ek] at hy
          exact h.ok k h0 h1 h2 e x y hx hy
  · intro x y hx hy
    rw [swp_get hil hjl] at hx hy
    rw [hji, if_neg (by omega), if_pos rfl] at hx
    rw [if_neg (by omega), if_neg (by omega)] at hy
    have := h.ok k h0 h1 (by have := h.le; omega) (by omega)
    rw [h2] at this
    exact this x y hx hy
/-- The root of a heap is not behind any. -/
theorem HeapFrom.least {H : List HdM} {n : Nat} (h : HeapFrom H 0 n) {a : HdM} (h0 : H[0]? = some a) : ∀ k, k < n → ∀ b, H[k]? = some b → leH a b := by
  intro k
  induction k using Nat.strongRecOn with
  | ind k ih =>
    intro hk b hb
    by_cases e : k = 0
    · subst e; rw [h0] at hb; cases hb; exact leH_refl _
    · have hkl := (List.getElem?_eq_some_iff.1 hb).1
      have hp : (k - 1) / 2 < H.length := by omega
      have h1 := ih ((k - 1) / 2) (by omega) (by omega) H[(k - 1) / 2] (List.getElem?_eq_getElem hp)
      exact leH_trans h1 (h k (by omega) hk (Nat.zero_le _) _ _ (List.getElem?_eq_getElem hp) hb)
theorem heapFrom_end {H : List HdM} {b n : Nat} (h : n ≤ 2 * b + 1) : HeapFrom H b n := fun k h0 h1 h2 => by omega
end Go.Proofs.Ytnhookblhckmlaa
