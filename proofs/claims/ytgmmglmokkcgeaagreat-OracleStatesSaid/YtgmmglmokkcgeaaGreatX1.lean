/- Lists of pairs that rise by their keys, plain: what is laid in order, and the document's loops that lay it. -/
import Derived.Test.YtgmmglmokkcgeaaGreatO2
namespace Go.Proofs.YtgmmglmokkcgeaaGreat
set_option linter.unusedVariables false
set_option linter.unusedSimpArgs false
set_option linter.unusedSectionVars false
open Mk
structure Ordered {K : Type} (lt : K → K → Bool) : Prop where
  irr : ∀ a, lt a a = false
  tr : ∀ a b c, lt a b = true → lt b c = true → lt a c = true
  tot : ∀ a b, a ≠ b → lt a b = false → lt b a = true
def ltN (a b : Nat) : Bool := decide (a < b)
theorem ltN_ord : Ordered ltN := ⟨by simp [ltN], fun a b c h1 h2 => by simp [ltN] at *; omega, fun a b h1 h2 => by simp [ltN] at *; omega⟩
theorem bl_eq : ∀ (x y : List UInt8), Op.bytesLess x y = decide (x < y)
  | [], [] => by simp [Op.bytesLess]
  | _ :: _, [] => by simp [Op.bytesLess]
  | [], _ :: _ => by simp [Op.bytesLess]
  | a :: x, b :: y => by
    rw [Op.bytesLess, bl_eq x y]
    simp only [List.cons_lt_cons_iff]
    by_cases h : a = b <;> simp [h]
theorem bytes_inj {a b : ByteArray} (h : a.toList = b.toList) : a = b := by
  rw [ByteArray.toList_eq, ByteArray.toList_eq] at h
  exact ByteArray.ext (Array.toList_inj.1 h)
theorem lessB_eq (a b : ByteArray) : lessB a b = decide (a.toList < b.toList) := bl_eq _ _
theorem lessB_ord : Ordered lessB := ⟨fun a => by rw [lessB_eq]; simp, fun a b c h1 h2 => by
    rw [lessB_eq, decide_eq_true_eq] at *; exact List.lt_trans h1 h2, fun a b h1 h2 => by
    rw [lessB_eq] at *
    simp only [decide_eq_true_eq, decide_eq_false_iff_not] at *
    have h3 : b.toList ≤ a.toList := List.not_lt.1 h2
    rcases List.le_iff_lt_or_eq.1 h3 with h | h
    · exact h
    · exact absurd (bytes_inj h).symm h1⟩
section
variable {K V : Type} [DecidableEq K] {lt : K → K → Bool}
def Ris (lt : K → K → Bool) (L : List (K × V)) : Prop := L.Pairwise (fun p q => lt p.1 q.1 = true)
def lay (lt : K → K → Bool) (x : K) (v : V) : List (K × V) → List (K × V)
  | [] => [(x, v)]
  | p :: L => if lt p.1 x = true then p :: lay lt x v L else if p.1 = x then (x, v) :: L else (x, v) :: p :: L
theorem Ris.apart (O : Ordered lt) {L : List (K × V)} (h : Ris lt L) : L.Pairwise (fun p q => p.1 ≠ q.1) := h.imp (fun h e => by rw [e, O.irr] at h; cases h)
theorem lay_mem {x : K} {v : V} {L : List (K × V)} {p : K × V} (h : p ∈ lay lt x v L) : p = (x, v) ∨ p ∈ L := by
  induction L with
  | nil => simp [lay] at h; exact Or.inl h
  | cons q L ih =>
    unfold lay at h
    split at h
    · rcases List.mem_cons.1 h with rfl | h
      · exact Or.inr (List.mem_cons_self ..)
      · rcases ih h with h | h
        · exact Or.inl h
        · exact Or.inr (List.mem_cons_of_mem _ h)
    · split at h
      · rcases List.mem_cons.1 h with h | h
        · exact Or.inl h
        · exact Or.inr (List.mem_cons_of_mem _ h)
      · rcases List.mem_cons.1 h with h | h
        · exact Or.inl h
        · exact Or.inr h
theorem lay_len (x : K) (v : V) (L : List (K × V)) : (lay lt x v L).length ≤ L.length + 1 := by
  induction L with
  | nil => simp [lay]
  | cons p L ih =>
    unfold lay
    split
    · simp; omega
    · split <;> simp
theorem lay_len_ge (x : K) (v : V) (L : List (K × V)) : L.length ≤ (lay lt x v L).length := by
  induction L with
  | nil => simp [lay]
  | cons p L ih =>
    unfold lay
    split
    · simp; omega
    · split <;> simp
theorem lay_ris (O : Ordered lt) (x : K) (v : V) {L : List (K × V)} (h : Ris lt L) : Ris lt (lay lt x v L) := by
  induction L with
  | nil => exact List.pairwise_singleton ..
  | cons p L ih =>
    obtain ⟨h1, h2⟩ := List.pairwise_cons.1 h
    unfold lay
    split
    · rename_i hl
      refine List.pairwise_cons.2 ⟨fun q hq => ?_, ih h2⟩
      rcases lay_mem hq with rfl | hq
      · exact hl
      · exact h1 q hq
    · rename_i hl
      split
      · rename_i he
        exact List.pairwise_cons.2 ⟨fun q hq => by rw [← he]; exact h1 q hq, h2⟩
      · rename_i he
        have hx : lt x p.1 = true := O.tot p.1 x he (by simpa using hl)
        refine List.pairwise_cons.2 ⟨fun q hq => ?_, h⟩
        rcases List.mem_cons.1 hq with rfl | hq
        · exact hx
        · exact O.tr _ _ _ hx (h1 q hq)
theorem lay_lk (O : Ordered lt) (x : K) (v : V) {L : List (K × V)} (h : Ris lt L) (y : K) : lk (lay lt x v L) y = if y = x then some v else lk L y := by
  have hu : ∀ (p : K × V) (L : List (K × V)), lk (p :: L) y = if p.1 = y then some p.2 else lk L y := fun _ _ => rfl
  induction L with
  | nil =>
    show lk [(x, v)] y = _
    rw [hu]
    by_cases e : y = x
    · rw [if_pos e.symm, if_pos e]
    · rw [if_neg (fun h => e h.symm), if_neg e]
  | cons p L ih =>
    obtain ⟨h1, h2⟩ := List.pairwise_cons.1 h
    unfold lay
    split
    · rename_i hl
      rw [hu, ih h2, hu]
      by_cases e : p.1 = y
      · rw [if_pos e, if_neg (fun e2 => by rw [← e2, e, O.irr] at hl; cases hl), if_pos e]
      · rw [if_neg e, if_neg e]
    · split
      · rename_i he
        rw [hu, hu]
        by_cases e : y = x
        · rw [if_pos e.symm, if_pos e]
        · rw [if_neg (fun h => e h.symm), if_neg e, if_neg (fun h => e (by rw [← h, he]))]
      · rw [hu]
        by_cases e : y = x
        · rw [if_pos e.symm, if_pos e]
        · rw [if_neg (fun h => e h.symm), if_neg e]
/-- The loops that lay something new. -/
def insF (lt : K → K → Bool) (x : K) (v : V) : List (K × V) → Bool → List (K × V) → List (K × V)
  | out, put, [] => if put = true then out else out ++ [(x, v)]
  | out, put, p :: L => insF lt x v ((if (!put && lt x p.1) = true then out ++ [(x, v)] else out) ++ [p]) (put || lt x p.1) L
theorem insF_put (x : K) (v : V) : ∀ (L out : List (K × V)), insF lt x v out true L = out ++ L
  | [], out => by simp [insF]
  | p :: L, out => by
    unfold insF
    rw [if_neg (by simp), Bool.true_or, insF_put x v L]
    simp
theorem insF_eq (O : Ordered lt) (x : K) (v : V) : ∀ (L out : List (K × V)), Ris lt L → (∀ p ∈ L, p.1 ≠ x) → insF lt x v out false L = out ++ lay lt x v L
  | [], out, h, hn => by simp [insF, lay]
  | p :: L, out, h, hn => by
    obtain ⟨h1, h2⟩ := List.pairwise_cons.1 h
    have hp := hn p (List.mem_cons_self ..)
    unfold insF lay
    cases e : lt x p.1
    · rw [if_neg (by simp), Bool.or_false, insF_eq O x v L _ h2 (fun q hq => hn q (List.mem_cons_of_mem _ hq)), if_pos (O.tot x p.1 (fun h => hp h.symm) e)]
      simp
    · rw [if_pos (by simp), Bool.or_true, insF_put, if_neg (fun h => by have := O.tr _ _ _ e h; rw [O.irr] at this; cases this), if_neg hp]
      simp
/-- The loop that lays something anew. -/
def lastF (lt : K → K → Bool) (x : K) (v : V) : List (K × V) → Bool → List (K × V) → List (K × V)
  | out, put, [] => if put = true then out else out ++ [(x, v)]
  | out, put, p :: L => if p.1 = x then lastF lt x v out put L else lastF lt x v ((if (!put && lt x p.1) = true then out ++ [(x, v)] else out) ++ [p]) (put || lt x p.1) L
theorem lastF_put (x : K) (v : V) : ∀ (L out : List (K × V)), (∀ p ∈ L, p.1 ≠ x) → lastF lt x v out true L = out ++ L
  | [], out, hn => by simp [lastF]
  | p :: L, out, hn => by
    unfold lastF
    rw [if_neg (hn p (List.mem_cons_self ..)), if_neg (by simp), Bool.true_or, lastF_put x v L _ (fun q hq => hn q (List.mem_cons_of_mem _ hq))]
    simp
theorem ris_off (O : Ordered lt) {x : K} {L : List (K × V)} (h : ∀ q ∈ L, lt x q.1 = true) : ∀ p ∈ L, p.1 ≠ x := fun p hp e => by have := h p hp; rw [e, O.irr] at this; cases this
theorem insF_all (O : Ordered lt) (x : K) (v : V) : ∀ (L out : List (K × V)), (∀ q ∈ L, lt x q.1 = true) → lastF lt x v out false L = out ++ (x, v) :: L
  | [], out, h => by simp [lastF]
  | p :: L, out, h => by
    have hp := h p (List.mem_cons_self ..)
    have hn := ris_off O h
    unfold lastF
    rw [if_neg (hn p (List.mem_cons_self ..)), if_pos (by rw [hp]; rfl), hp, Bool.or_true, lastF_put x v L _ (fun q hq => hn q (List.mem_cons_of_mem _ hq))]
    simp
theorem lastF_eq (O : Ordered lt) (x : K) (v : V) : ∀ (L out : List (K × V)), Ris lt L → lastF lt x v out false L = out ++ lay lt x v L
  | [], out, h => by simp [lastF, lay]
  | p :: L, out, h => by
    obtain ⟨h1, h2⟩ := List.pairwise_cons.1 h
    unfold lay
    by_cases he : p.1 = x
    · have hi : ¬ lt p.1 x = true := by rw [he, O.irr]; simp
      rw [if_neg hi, if_pos he]
      unfold lastF
      rw [if_pos he, insF_all O x v L out (fun q hq => by rw [← he]; exact h1 q hq)]
    · unfold lastF
      rw [if_neg he]
      cases e : lt x p.1
      · rw [if_neg (by simp), Bool.or_false, lastF_eq O x v L _ h2, if_pos (O.tot x p.1 (fun h => he h.symm) e)]
        simp
      · rw [if_pos (by simp), Bool.or_true, lastF_put x v L _ (ris_off O (fun q hq => O.tr _ _ _ e (h1 q hq))), if_neg (fun h => by have := O.tr _ _ _ e h; rw [O.irr] at this; cases this), if_neg he]
        simp
end
section
variable {K : Type} [DecidableEq K] {lt : K → K → Bool}
/-- The loop that lays a time behind a key's. -/
def seenF (lt : K → K → Bool) (x : K) (T : Nat) : List (K × List Nat) → Bool → List (K × List Nat) → List (K × List Nat)
  | out, put, [] => if put = true then out else out ++ [(x, [T])]
  | out, put, p :: L => if (!put && !lt p.1 x) = true then (if p.1 = x then seenF lt x T (out ++ [(x, p.2 ++ [T])]) true L else seenF lt x T (out ++ [(x, [T])] ++ [p]) true L) else seenF lt x T (out ++ [p]) put L
theorem seenF_put (x : K) (T : Nat) : ∀ (L out : List (K × List Nat)), seenF lt x T out true L = out ++ L
  | [], out => by simp [seenF]
  | p :: L, out => by
    unfold seenF
    rw [if_neg (by simp), seenF_put x T L]
    simp
theorem lk_beyond (O : Ordered lt) {V : Type} {x : K} {L : List (K × V)} (h : ∀ q ∈ L, lt x q.1 = true) : lk L x = none := (lk_none (ris_off O h)).1
theorem seenF_eq (O : Ordered lt) (x : K) (T : Nat) : ∀ (L out : List (K × List Nat)), Ris lt L → seenF lt x T out false L = out ++ lay lt x ((lk L x).getD [] ++ [T]) L
  | [], out, h => by simp [seenF, lay, lk]
  | p :: L, out, h => by
    obtain ⟨h1, h2⟩ := List.pairwise_cons.1 h
    have hu : lk (p :: L) x = if p.1 = x then some p.2 else lk L x := rfl
    unfold seenF lay
    cases e : lt p.1 x
    · rw [if_pos (by simp)]
      by_cases he : p.1 = x
      · rw [if_pos he, seenF_put, if_neg (by simp), if_pos he, hu, if_pos he]
        simp
      · have hx : lt x p.1 = true := O.tot p.1 x he e
        rw [if_neg he, seenF_put, if_neg (by simp), if_neg he, hu, if_neg he, lk_beyond O (fun q hq => O.tr _ _ _ hx (h1 q hq))]
        simp
    · have he : p.1 ≠ x := fun h => by rw [h, O.irr] at e; cases e
      rw [if_neg (by simp), seenF_eq O x T L _ h2, if_pos rfl, hu, if_neg he]
      simp
end
end Go.Proofs.YtgmmglmokkcgeaaGreat
/- The document's oracle, plain: its lists, and how it stands beside the program's. -/
namespace Go.Proofs.YtgmmglmokkcgeaaGreat
set_option linter.unusedVariables false
set_option linter.unusedSimpArgs false
set_option linter.unusedSectionVars false
open Mk
structure RM where
  time : Nat
  uid : Nat
  mark : Nat
  d : List (Nat × Nat)
  k : List (ByteArray × Nat)
  t : List (ByteArray × Tb)
  c : List (ByteArray × List Nat)
def RM.new : RM := ⟨0, 0, 0, [], [], [], []⟩
def rdecisionM (r : RM) (st : Nat) : Nat × Bool := if lk r.d st = none ∧ st ≠ 0 ∧ st < r.mark then (0, true) else ((lk r.d st).getD 0, (lk r.d st).isSome)
def rneedM (r : RM) (x : ByteArray × Nat) : Bool := match lk r.t x.1 with
  | some t => t.to == 0 && t.tn == x.2
  | none => false
def rclearM (r : RM) (o : OpM) : Bool := o.keys.all (fun k => decide ((lk r.k k).getD 0 ≤ o.st)) && o.needs.all (rneedM r)
def rlastM (T : Nat) (keys : List ByteArray) (L : List (ByteArray × Nat)) : List (ByteArray × Nat) := keys.foldl (fun L k => lay lessB k T L) L
def rcomM (T : Nat) (needs : List (ByteArray × Nat)) (C : List (ByteArray × List Nat)) : List (ByteArray × List Nat) := needs.foldl (fun C x => lay lessB x.1 ((lk C x.1).getD [] ++ [T]) C) C
def rendM (r : RM) (o : OpM) : RM × AnM := if r.time < o.st then (r, ⟨201, 0, 0, .zero⟩) else match lk r.d o.st with
  | some c => (r, ⟨0, 0, c, .zero⟩)
  | none => if o.st < r.mark then (r, an0) else if o.k = 4 ∨ rclearM r o = false then ({ r with d := lay ltN o.st 0 r.d }, an0) else
    ({ r with time := r.time + 1, d := lay ltN o.st (r.time + 1) r.d, k := rlastM (r.time + 1) o.keys r.k, c := rcomM (r.time + 1) o.needs r.c }, ⟨0, 0, r.time + 1, .zero⟩)
def rmarkM (r : RM) (at_ : Nat) : RM × AnM := if r.time < at_ then (r, ⟨2, 0, 0, .zero⟩) else if at_ ≤ r.mark then (r, an0) else
  ({ r with mark := at_, d := r.d.filter (fun p => decide (p.2 ≠ 0) || decide (at_ ≤ p.1)), k := r.k.filter (fun p => decide (at_ < p.2)) }, an0)
def rturnM (r : RM) (o : OpM) : RM × AnM := if o.k = 5 then (match lk r.t o.pred with
    | some t => (r, ⟨202, 0, 0, t⟩)
    | none => ({ r with t := lay lessB o.pred ⟨o.pred, o.g, 0, 0, 1⟩ r.t }, ⟨0, 0, 0, ⟨o.pred, o.g, 0, 0, 1⟩⟩)) else match lk r.t o.pred with
  | none => (r, ⟨5, 0, 0, .zero⟩)
  | some t => if o.k = 6 then (if t.to ≠ 0 then (r, ⟨3, 0, 0, t⟩) else if t.g = o.to then (r, ⟨2, 0, 0, t⟩) else
      ({ r with time := r.time + 1, t := lay lessB o.pred ⟨t.p, t.g, o.to, r.time + 1, t.tn + 1⟩ r.t }, ⟨0, 0, 0, ⟨t.p, t.g, o.to, r.time + 1, t.tn + 1⟩⟩))
    else if t.to = 0 ∨ t.at_ ≠ o.at_ then (r, ⟨3, 0, 0, t⟩) else
      ({ r with t := lay lessB o.pred ⟨t.p, if o.k = 7 then t.to else t.g, 0, 0, t.tn + 1⟩ r.t }, ⟨0, 0, 0, ⟨t.p, if o.k = 7 then t.to else t.g, 0, 0, t.tn + 1⟩⟩)
def rdoM (r : RM) (o : OpM) : RM × AnM := match o.k with
  | 1 => ({ r with time := r.time + o.n }, ⟨0, r.time + 1, 0, .zero⟩)
  | 2 => ({ r with uid := r.uid + o.n }, ⟨0, r.uid + 1, 0, .zero⟩)
  | 3 | 4 => rendM r o
  | 9 => rmarkM r o.at_
  | _ => rturnM r o
def rapplyM (r : RM) (o : OpM) : RM × AnM := if mayM o then rdoM r o else (r, ⟨200, 0, 0, .zero⟩)
/-- How many times of a predicate there are up to a time. -/
def rseenM (r : RM) (x : ByteArray) (t : Nat) : Nat := (r.c.map fun p => if p.1 = x then (p.2.filter (fun y => decide (y ≤ t))).length else 0).sum

structure Alike (n : OM) (r : RM) : Prop where
  time : n.time = r.time
  uid : n.uid = r.uid
  mark : n.mark = r.mark
  d : ∀ x, lk n.dec x = lk r.d x
  ds : Ris ltN r.d
  da : n.dec.Pairwise (fun p q => p.1 ≠ q.1)
  k : ∀ x, lk n.las x = lk r.k x
  ks : Ris lessB r.k
  ka : n.las.Pairwise (fun p q => p.1 ≠ q.1)
  t : ∀ x, lk n.tab x = lk r.t x
  ts : Ris lessB r.t
  ta : n.tab.Pairwise (fun p q => p.1 ≠ q.1)
  tp : ∀ p ∈ r.t, p.2.p = p.1
  c : ∀ x, n.com x = (lk r.c x).getD []
  cs : Ris lessB r.c
  cr : ∀ x, (n.com x).Pairwise (· < ·)
  ce : ∀ x, ∀ t ∈ n.com x, t ≤ n.time
theorem Alike.new : Alike .new .new := ⟨rfl, rfl, rfl, fun _ => rfl, List.Pairwise.nil, List.Pairwise.nil, fun _ => rfl, List.Pairwise.nil, List.Pairwise.nil, fun _ => rfl, List.Pairwise.nil, List.Pairwise.nil, by simp [RM.new], fun _ => rfl, List.Pairwise.nil, fun _ => List.Pairwise.nil, by simp [OM.new]⟩
section
variable {n : OM} {r : RM} {o : OpM}
theorem Alike.decision (h : Alike n r) (st : Nat) : decisionM n st = rdecisionM r st := by
  unfold decisionM rdecisionM
  rw [h.d, h.mark]
  cases hl : lk r.d st with
  | some v => simp
  | none =>
    by_cases e : st ≠ 0 ∧ st < r.mark
    · rw [if_pos ⟨rfl, e.1, e.2⟩]
      simp [e.2]; omega
    · rw [if_neg (fun h => e ⟨h.2.1, h.2.2⟩)]
      simp
      intro h1
      have : ¬ st < r.mark := fun h2 => e ⟨by omega, h2⟩
      omega
theorem Alike.clear (h : Alike n r) (o : OpM) : clearM n o = rclearM r o := by
  unfold clearM rclearM
  have e1 : (fun k => decide ((lk n.las k).getD 0 ≤ o.st)) = fun k => decide ((lk r.k k).getD 0 ≤ o.st) := by funext k; rw [h.k]
  have e2 : needM n = rneedM r := by
    funext x; unfold needM rneedM; rw [h.t]; cases lk r.t x.1 <;> rfl
  rw [e1, e2]
theorem lastM_alike : ∀ (keys : List ByteArray) (L : List (ByteArray × Nat)) (M : List (ByteArray × Nat)) (T : Nat), (∀ x, lk L x = lk M x) → Ris lessB M → L.Pairwise (fun p q => p.1 ≠ q.1) →
    (∀ x, lk (lastM T keys L) x = lk (rlastM T keys M) x) ∧ Ris lessB (rlastM T keys M) ∧ (lastM T keys L).Pairwise (fun p q => p.1 ≠ q.1)
  | [], L, M, T, h1, h2, h3 => ⟨h1, h2, h3⟩
  | k :: keys, L, M, T, h1, h2, h3 => by
    refine lastM_alike keys (upd L k T) (lay lessB k T M) T (fun x => ?_) (lay_ris lessB_ord _ _ h2) (upd_apart h3 _ _)
    rw [lk_upd, lay_lk lessB_ord _ _ h2, h1]
theorem comM_alike (T : Nat) : ∀ (needs : List (ByteArray × Nat)) (f : ByteArray → List Nat) (C : List (ByteArray × List Nat)), (∀ x, f x = (lk C x).getD []) → Ris lessB C →
    (∀ x, comM T needs f x = (lk (rcomM T needs C) x).getD []) ∧ Ris lessB (rcomM T needs C)
  | [], f, C, h1, h2 => ⟨h1, h2⟩
  | y :: needs, f, C, h1, h2 => by
    refine comM_alike T needs _ (lay lessB y.1 ((lk C y.1).getD [] ++ [T]) C) (fun x => ?_) (lay_ris lessB_ord _ _ h2)
    rw [lay_lk lessB_ord _ _ h2]
    by_cases e : x = y.1
    · rw [if_pos e]
      simp only [if_pos e, Option.getD_some]
      rw [h1, e]
    · rw [if_neg e]
      simp only [if_neg e]
      rw [h1]
/-- Each predicate once: a time is laid once. -/
theorem comM_once (T : Nat) : ∀ (needs : List (ByteArray × Nat)) (f : ByteArray → List Nat) (x : ByteArray), (needs.map (·.1)).Nodup → comM T needs f x = f x ++ (if needs.any (fun z => decide (x = z.1)) = true then [T] else [])
  | [], f, x, h => by simp [comM]
  | y :: needs, f, x, h => by
    rw [List.map_cons, List.nodup_cons] at h
    have : comM T (y :: needs) f x = comM T needs (fun p => if p = y.1 then f p ++ [T] else f p) x := rfl
    rw [this, comM_once T needs _ x h.2, List.any_cons]
    by_cases e : x = y.1
    · have hn : ¬ needs.any (fun z => decide (x = z.1)) = true := by
        rw [List.any_eq_true]
        rintro ⟨z, hz, hx⟩
        exact h.1 (by rw [← e, of_decide_eq_true hx]; exact List.mem_map_of_mem hz)
      have hc : (decide (x = y.1) || needs.any (fun z => decide (x = z.1))) = true := by simp [e]
      rw [if_neg hn, if_pos hc, List.append_nil]
      simp only [if_pos e]
    · simp only [if_neg e, decide_eq_false e, Bool.false_or]
theorem rising_pair : ∀ l : List ByteArray, risingM l = true → l.Pairwise (fun a b => lessB a b = true)
  | [], h => List.Pairwise.nil
  | [a], h => List.pairwise_singleton ..
  | a :: b :: l, h => by
    have hu : risingM (a :: b :: l) = (lessB a b && risingM (b :: l)) := rfl
    rw [hu, Bool.and_eq_true] at h
    have ih := rising_pair (b :: l) h.2
    refine List.pairwise_cons.2 ⟨fun c hc => ?_, ih⟩
    rcases List.mem_cons.1 hc with rfl | hc
    · exact h.1
    · exact lessB_ord.tr _ _ _ h.1 ((List.pairwise_cons.1 ih).1 c hc)
theorem may_needs (hm : mayM o = true) (hk : o.k = 3) : (o.needs.map (·.1)).Nodup := by
  have h9 : ((decide (0 < o.st) && listsM o) && leftM o) = true := by unfold mayM kindM at hm; rw [hk] at hm; exact hm
  simp only [listsM, Bool.and_eq_true] at h9
  exact (rising_pair _ h9.1.2.2).imp (fun h e => by rw [e, lessB_ord.irr] at h; cases h)
theorem Alike.dec (h : Alike n r) (st c : Nat) : (∀ x, lk (upd n.dec st c) x = lk (lay ltN st c r.d) x) ∧ Ris ltN (lay ltN st c r.d) ∧ (upd n.dec st c).Pairwise (fun p q => p.1 ≠ q.1) :=
  ⟨fun x => by rw [lk_upd, lay_lk ltN_ord _ _ h.ds, h.d], lay_ris ltN_ord _ _ h.ds, upd_apart h.da _ _⟩
theorem Alike.tab (h : Alike n r) (x : ByteArray) (t : Tb) (ht : t.p = x) : (∀ y, lk (upd n.tab x t) y = lk (lay lessB x t r.t) y) ∧ Ris lessB (lay lessB x t r.t) ∧ (upd n.tab x t).Pairwise (fun p q => p.1 ≠ q.1) ∧ ∀ p ∈ lay lessB x t r.t, p.2.p = p.1 :=
  ⟨fun y => by rw [lk_upd, lay_lk lessB_ord _ _ h.ts, h.t], lay_ris lessB_ord _ _ h.ts, upd_apart h.ta _ _, fun p hp => by
    rcases lay_mem hp with rfl | hp
    · exact ht
    · exact h.tp p hp⟩
theorem Alike.dec0 (h : Alike n r) (st : Nat) : Alike { n with dec := upd n.dec st 0 } { r with d := lay ltN st 0 r.d } := by
  obtain ⟨a, b, c⟩ := h.dec st 0
  exact ⟨h.time, h.uid, h.mark, a, b, c, h.k, h.ks, h.ka, h.t, h.ts, h.ta, h.tp, h.c, h.cs, h.cr, h.ce⟩
theorem Alike.commit (h : Alike n r) (hm : mayM o = true) (hk : o.k = 3) : Alike { n with time := n.time + 1, dec := upd n.dec o.st (n.time + 1), las := lastM (n.time + 1) o.keys n.las, com := comM (n.time + 1) o.needs n.com }
    { r with time := r.time + 1, d := lay ltN o.st (r.time + 1) r.d, k := rlastM (r.time + 1) o.keys r.k, c := rcomM (r.time + 1) o.needs r.c } := by
  obtain ⟨a, b, c⟩ := h.dec o.st (n.time + 1)
  obtain ⟨a2, b2, c2⟩ := lastM_alike o.keys n.las r.k (n.time + 1) h.k h.ks h.ka
  obtain ⟨a3, b3⟩ := comM_alike (n.time + 1) o.needs n.com r.c h.c h.cs
  have hn := may_needs hm hk
  rw [← h.time]
  refine ⟨rfl, h.uid, h.mark, a, b, c, a2, b2, c2, h.t, h.ts, h.ta, h.tp, a3, b3, fun x => ?_, fun x t ht => ?_⟩
  · simp only
    rw [comM_once _ _ _ _ hn]
    split
    · rw [List.pairwise_append]
      refine ⟨h.cr x, List.pairwise_singleton .., fun p hp q hq => ?_⟩
      have := h.ce x p hp
      simp only [List.mem_singleton] at hq
      omega
    · rw [List.append_nil]; exact h.cr x
  · simp only at ht ⊢
    rw [comM_once _ _ _ _ hn] at ht
    rcases List.mem_append.1 ht with ht | ht
    · have := h.ce x t ht; omega
    · split at ht
      · simp only [List.mem_singleton] at ht; omega
      · cases ht
theorem Alike.ends (h : Alike n r) (hm : mayM o = true) (hk : o.k = 3 ∨ o.k = 4) : (doM n o).2 = (rendM r o).2 ∧ Alike (doM n o).1 (rendM r o).1 := by
  have abort : ∀ {n' : OM × AnM}, n' = abortM n o → (o.k = 4 ∨ clearM n o = false) → n'.2 = (rendM r o).2 ∧ Alike n'.1 (rendM r o).1 := by
    intro n' e hc
    subst e
    unfold rendM
    rcases abort_cases n o with ⟨hw, e⟩ | ⟨hw, e⟩
    · rw [e]
      unfold wasM at hw ⊢
      rw [h.time, h.d, h.mark] at hw ⊢
      by_cases h1 : r.time < o.st
      · rw [if_pos h1, if_pos h1]; exact ⟨rfl, h⟩
      · rw [if_neg h1] at hw ⊢
        rw [if_neg h1]
        cases hl : lk r.d o.st with
        | some c => exact ⟨rfl, h⟩
        | none =>
          rw [hl] at hw
          have h2 : o.st < r.mark := by simpa using hw
          simp only [if_pos h2]
          exact ⟨rfl, h⟩
    · rw [e]
      obtain ⟨f1, f2, f3, f4⟩ := was_free hw
      rw [h.time] at f1
      rw [h.mark] at f3
      rw [h.d] at f2
      rw [if_neg f1, f2]
      simp only [if_neg f3]
      rw [if_pos (by rw [← h.clear]; exact hc)]
      exact ⟨rfl, h.dec0 _⟩
  rcases hk with hk | hk
  · have ed : doM n o = commitM n o := by unfold doM; rw [hk]; rfl
    rw [ed]
    unfold commitM
    cases hw : (wasM n o.st).2
    · rw [if_neg (by simp)]
      cases hc : clearM n o
      · rw [if_neg (by simp)]
        exact abort rfl (Or.inr hc)
      · rw [if_pos rfl]
        obtain ⟨f1, f2, f3, f4⟩ := was_free hw
        rw [h.time] at f1
        rw [h.mark] at f3
        rw [h.d] at f2
        unfold rendM
        rw [if_neg f1, f2]
        simp only [if_neg f3]
        rw [if_neg (by rw [← h.clear, hc, hk]; simp)]
        exact ⟨by rw [h.time], h.commit hm hk⟩
    · rw [if_pos rfl]
      have e2 : abortM n o = (n, (wasM n o.st).1) := by unfold abortM; rw [if_pos hw]
      have ab : ∀ {n' : OM × AnM}, n' = abortM n o → n'.2 = (rendM r o).2 ∧ Alike n'.1 (rendM r o).1 := by
        intro n' e
        subst e
        rw [e2]
        unfold rendM
        unfold wasM at hw ⊢
        rw [h.time, h.d, h.mark] at hw ⊢
        by_cases h1 : r.time < o.st
        · rw [if_pos h1, if_pos h1]; exact ⟨rfl, h⟩
        · rw [if_neg h1] at hw ⊢
          rw [if_neg h1]
          cases hl : lk r.d o.st with
          | some c => exact ⟨rfl, h⟩
          | none =>
            rw [hl] at hw
            have h2 : o.st < r.mark := by simpa using hw
            simp only [if_pos h2]
            exact ⟨rfl, h⟩
      exact ab e2.symm
  · have ed : doM n o = abortM n o := by unfold doM; rw [hk]; rfl
    rw [ed]
    exact abort rfl (Or.inl hk)
theorem Alike.raise (h : Alike n r) (o : OpM) : (raiseM n o).2 = (rmarkM r o.at_).2 ∧ Alike (raiseM n o).1 (rmarkM r o.at_).1 := by
  unfold raiseM rmarkM
  rw [h.time, h.mark]
  by_cases h1 : r.time < o.at_
  · rw [if_pos h1, if_pos h1]; exact ⟨rfl, h⟩
  · rw [if_neg h1, if_neg h1]
    by_cases h2 : r.mark < o.at_
    · rw [if_pos h2, if_neg (by omega)]
      refine ⟨rfl, rfl, h.uid, rfl, fun x => ?_, h.ds.sublist List.filter_sublist, h.da.sublist List.filter_sublist, fun x => ?_, h.ks.sublist List.filter_sublist, h.ka.sublist List.filter_sublist, h.t, h.ts, h.ta, h.tp, h.c, h.cs, h.cr, fun x t ht => by rw [← h.time]; exact h.ce x t ht⟩
      · simp only
        rw [lk_filter h.da, lk_filter (h.ds.apart ltN_ord), h.d]
        cases lk r.d x with
        | none => rfl
        | some v =>
          simp only
          have : (!(v == 0 && decide (x < o.at_))) = (decide (v ≠ 0) || decide (o.at_ ≤ x)) := by
            rw [Bool.eq_iff_iff]; simp
          rw [this]
      · simp only
        rw [lk_filter h.ka, lk_filter (h.ks.apart lessB_ord), h.k]
    · rw [if_neg h2, if_pos (by omega)]; exact ⟨rfl, h⟩
theorem Alike.turn (h : Alike n r) (hk : o.k = 5 ∨ o.k = 6 ∨ o.k = 7 ∨ o.k = 8) : (doM n o).2 = (rturnM r o).2 ∧ Alike (doM n o).1 (rturnM r o).1 := by
  have hp : ∀ t, lk r.t o.pred = some t → t.p = o.pred := fun t ht => h.tp _ (lk_mem ht)
  have sets : ∀ (t : Tb) (T : Nat) (ht : t.p = o.pred) (hT : n.time ≤ T), Alike { n with time := T, tab := upd n.tab o.pred t } { r with time := T, t := lay lessB o.pred t r.t } := by
    intro t T ht hT
    obtain ⟨a, b, c, d⟩ := h.tab o.pred t ht
    exact ⟨rfl, h.uid, h.mark, h.d, h.ds, h.da, h.k, h.ks, h.ka, a, b, c, d, h.c, h.cs, h.cr, fun x t ht => Nat.le_trans (h.ce x t ht) hT⟩
  have set0 : ∀ (t : Tb) (ht : t.p = o.pred), Alike { n with tab := upd n.tab o.pred t } { r with t := lay lessB o.pred t r.t } := by
    intro t ht
    obtain ⟨a, b, c, d⟩ := h.tab o.pred t ht
    exact ⟨h.time, h.uid, h.mark, h.d, h.ds, h.da, h.k, h.ks, h.ka, a, b, c, d, h.c, h.cs, h.cr, h.ce⟩
  rcases hk with hk | hk | hk
  · have ed : doM n o = giveM n o := by unfold doM; rw [hk]; rfl
    rw [ed]
    unfold giveM rturnM
    rw [if_pos hk, h.t]
    cases hl : lk r.t o.pred with
    | some t => exact ⟨rfl, h⟩
    | none => exact ⟨rfl, set0 _ rfl⟩
  · have ed : doM n o = fenceM n o := by unfold doM; rw [hk]; rfl
    rw [ed]
    unfold fenceM rturnM
    rw [if_neg (by omega), h.t]
    cases hl : lk r.t o.pred with
    | none => exact ⟨rfl, h⟩
    | some t =>
      simp only
      rw [if_pos hk]
      by_cases h1 : t.to ≠ 0
      · rw [if_pos h1, if_pos h1]; exact ⟨rfl, h⟩
      · rw [if_neg h1, if_neg h1]
        by_cases h2 : t.g = o.to
        · rw [if_pos h2, if_pos h2]; exact ⟨rfl, h⟩
        · rw [if_neg h2, if_neg h2, ← h.time]
          exact ⟨rfl, sets _ _ (hp t hl) (Nat.le_succ _)⟩
  · have ed : doM n o = endM n o := by unfold doM; rcases hk with hk | hk <;> rw [hk] <;> rfl
    rw [ed]
    unfold endM rturnM
    rw [if_neg (by omega), h.t]
    cases hl : lk r.t o.pred with
    | none => exact ⟨rfl, h⟩
    | some t =>
      simp only
      rw [if_neg (show ¬ o.k = 6 by omega)]
      by_cases h1 : t.to = 0 ∨ t.at_ ≠ o.at_
      · rw [if_pos h1, if_pos h1]; exact ⟨rfl, h⟩
      · rw [if_neg h1, if_neg h1]
        exact ⟨rfl, set0 _ (hp t hl)⟩
theorem may_kind (hm : mayM o = true) : 1 ≤ o.k ∧ o.k ≤ 9 := by
  by_cases h : 1 ≤ o.k ∧ o.k ≤ 9
  · exact h
  · exfalso
    unfold mayM kindM at hm
    split at hm <;> simp_all
theorem Alike.apply (h : Alike n r) (o : OpM) : (applyM n o).2 = (rapplyM r o).2 ∧ Alike (applyM n o).1 (rapplyM r o).1 := by
  unfold applyM rapplyM
  cases hm : mayM o
  · rw [if_neg (by simp), if_neg (by simp)]; exact ⟨rfl, h⟩
  · rw [if_pos rfl, if_pos rfl]
    obtain ⟨k1, k9⟩ := may_kind hm
    have hc : o.k = 1 ∨ o.k = 2 ∨ (o.k = 3 ∨ o.k = 4) ∨ (o.k = 5 ∨ o.k = 6 ∨ o.k = 7 ∨ o.k = 8) ∨ o.k = 9 := by omega
    rcases hc with hk | hk | hk | hk | hk
    · have e : rdoM r o = ({ r with time := r.time + o.n }, ⟨0, r.time + 1, 0, .zero⟩) := by unfold rdoM; simp only [hk]
      have e2 : doM n o = ({ n with time := n.time + o.n }, ⟨0, n.time + 1, 0, .zero⟩) := by unfold doM; simp only [hk]
      rw [e, e2]
      exact ⟨by rw [h.time], by simp only; rw [h.time], h.uid, h.mark, h.d, h.ds, h.da, h.k, h.ks, h.ka, h.t, h.ts, h.ta, h.tp, h.c, h.cs, h.cr, fun x t ht => Nat.le_trans (h.ce x t ht) (by simp only; exact Nat.le_add_right _ _)⟩
    · have e : rdoM r o = ({ r with uid := r.uid + o.n }, ⟨0, r.uid + 1, 0, .zero⟩) := by unfold rdoM; simp only [hk]
      have e2 : doM n o = ({ n with uid := n.uid + o.n }, ⟨0, n.uid + 1, 0, .zero⟩) := by unfold doM; simp only [hk]
      rw [e, e2]
      exact ⟨by rw [h.uid], h.time, by simp only; rw [h.uid], h.mark, h.d, h.ds, h.da, h.k, h.ks, h.ka, h.t, h.ts, h.ta, h.tp, h.c, h.cs, h.cr, h.ce⟩
    · have e : rdoM r o = rendM r o := by unfold rdoM; rcases hk with hk | hk <;> rw [hk] <;> rfl
      rw [e]; exact h.ends hm hk
    · have e : rdoM r o = rturnM r o := by unfold rdoM; rcases hk with hk | hk | hk | hk <;> rw [hk] <;> rfl
      rw [e]; exact h.turn hk
    · have e : rdoM r o = rmarkM r o.at_ := by unfold rdoM; rw [hk]; rfl
      have e2 : doM n o = raiseM n o := by unfold doM; rw [hk]; rfl
      rw [e, e2]; exact h.raise o
/-- A list that rises: how many are up to a time. -/
theorem seen_count : ∀ (l : List Nat) (t : Nat), l.Pairwise (· < ·) → seenM l t = (l.filter (fun y => decide (y ≤ t))).length
  | [], t, h => rfl
  | a :: l, t, h => by
    obtain ⟨h1, h2⟩ := List.pairwise_cons.1 h
    have ih := seen_count l t h2
    have hgt : ∀ x ∈ l, a < x := h1
    unfold seenM at ih ⊢
    by_cases e1 : a < t
    · rw [List.takeWhile_cons_of_pos (by simpa using e1), List.filter_cons_of_pos (by simp; omega), List.length_cons, List.length_cons, ← ih]
      by_cases e2 : t ∈ l
      · rw [if_pos e2, if_pos (List.mem_cons_of_mem _ e2)]
      · rw [if_neg e2, if_neg (fun h => by rcases List.mem_cons.1 h with h | h; omega; exact e2 h)]
    · have hz : l.filter (fun y => decide (y ≤ t)) = [] := by
        rw [List.filter_eq_nil_iff]
        intro x hx
        have := hgt x hx
        simp; omega
      rw [List.takeWhile_cons_of_neg (by simpa using e1)]
      by_cases e2 : a = t
      · rw [if_pos (by rw [e2]; exact List.mem_cons_self ..), List.filter_cons_of_pos (by simp; omega), hz]
        rfl
      · rw [if_neg (fun h => by rcases List.mem_cons.1 h with h | h; exact e2 h.symm; have := hgt t h; omega), List.filter_cons_of_neg (by simp; omega), hz]
        rfl
theorem sum_lk {x : ByteArray} {g : List Nat → Nat} : ∀ {C : List (ByteArray × List Nat)}, Ris lessB C → g [] = 0 → (C.map fun p => if p.1 = x then g p.2 else 0).sum = g ((lk C x).getD [])
  | [], h, h0 => by simp [lk, h0]
  | p :: C, h, h0 => by
    obtain ⟨h1, h2⟩ := List.pairwise_cons.1 h
    have ih := sum_lk (x := x) h2 h0
    have hu : lk (p :: C) x = if p.1 = x then some p.2 else lk C x := rfl
    rw [List.map_cons, List.sum_cons, ih, hu]
    by_cases e : p.1 = x
    · rw [if_pos e, if_pos e, lk_beyond lessB_ord (fun q hq => by rw [← e]; exact h1 q hq)]
      simp [h0]
    · rw [if_neg e, if_neg e]; omega
theorem Alike.seen (h : Alike n r) (x : ByteArray) (t : Nat) : seenM (n.com x) t = rseenM r x t := by
  rw [seen_count _ _ (h.cr x), h.c]
  unfold rseenM
  exact (sum_lk (g := fun l => (l.filter (fun y => decide (y ≤ t))).length) h.cs rfl).symm
end
end Go.Proofs.YtgmmglmokkcgeaaGreat
/- The document's oracle, plain: how far its lists and numbers go. -/
namespace Go.Proofs.YtgmmglmokkcgeaaGreat
set_option linter.unusedVariables false
set_option linter.unusedSimpArgs false
set_option linter.unusedSectionVars false
open Mk
structure Fit (r : RM) (B : Nat) : Prop where
  ds : Ris ltN r.d
  ks : Ris lessB r.k
  ts : Ris lessB r.t
  tp : ∀ p ∈ r.t, p.2.p = p.1
  cs : Ris lessB r.c
  dl : r.d.length ≤ B
  kl : r.k.length ≤ B
  tl : r.t.length ≤ B
  cl : r.c.length ≤ B
  ct : ∀ p ∈ r.c, p.2.length ≤ B
  time : r.time ≤ B
  uid : r.uid ≤ B
  tn : ∀ p ∈ r.t, p.2.tn ≤ B
theorem Fit.new : Fit .new 0 := ⟨List.Pairwise.nil, List.Pairwise.nil, List.Pairwise.nil, by simp [RM.new], List.Pairwise.nil, Nat.le_refl _, Nat.le_refl _, Nat.le_refl _, Nat.le_refl _, by simp [RM.new], Nat.le_refl _, Nat.le_refl _, by simp [RM.new]⟩
theorem Fit.mono {r : RM} {B C : Nat} (h : Fit r B) (hc : B ≤ C) : Fit r C := ⟨h.ds, h.ks, h.ts, h.tp, h.cs, Nat.le_trans h.dl hc, Nat.le_trans h.kl hc, Nat.le_trans h.tl hc, Nat.le_trans h.cl hc, fun p hp => Nat.le_trans (h.ct p hp) hc, Nat.le_trans h.time hc, Nat.le_trans h.uid hc, fun p hp => Nat.le_trans (h.tn p hp) hc⟩
theorem rlastM_snoc (T : Nat) (keys : List ByteArray) (k : ByteArray) (L : List (ByteArray × Nat)) : rlastM T (keys ++ [k]) L = lay lessB k T (rlastM T keys L) := by unfold rlastM; rw [List.foldl_append]; rfl
theorem rcomM_snoc (T : Nat) (needs : List (ByteArray × Nat)) (x : ByteArray × Nat) (C : List (ByteArray × List Nat)) : rcomM T (needs ++ [x]) C = lay lessB x.1 ((lk (rcomM T needs C) x.1).getD [] ++ [T]) (rcomM T needs C) := by unfold rcomM; rw [List.foldl_append]; rfl
theorem rlastM_ris (T : Nat) : ∀ (keys : List ByteArray) (L : List (ByteArray × Nat)), Ris lessB L → Ris lessB (rlastM T keys L) ∧ (rlastM T keys L).length ≤ L.length + keys.length
  | [], L, h => ⟨h, Nat.le_refl _⟩
  | k :: keys, L, h => by
    obtain ⟨a, b⟩ := rlastM_ris T keys (lay lessB k T L) (lay_ris lessB_ord _ _ h)
    refine ⟨a, Nat.le_trans b ?_⟩
    have := lay_len (lt := lessB) k T L
    simp only [List.length_cons]
    omega
theorem rcomM_ris (T B : Nat) : ∀ (needs : List (ByteArray × Nat)) (C : List (ByteArray × List Nat)) (B : Nat), Ris lessB C → (∀ p ∈ C, p.2.length ≤ B) → Ris lessB (rcomM T needs C) ∧ (rcomM T needs C).length ≤ C.length + needs.length ∧ ∀ p ∈ rcomM T needs C, p.2.length ≤ B + needs.length
  | [], C, B, h, hb => ⟨h, Nat.le_refl _, hb⟩
  | x :: needs, C, B, h, hb => by
    have hl : ∀ p ∈ lay lessB x.1 ((lk C x.1).getD [] ++ [T]) C, p.2.length ≤ B + 1 := fun p hp => by
      rcases lay_mem hp with rfl | hp
      · simp only [List.length_append, List.length_cons, List.length_nil]
        cases hk : lk C x.1 with
        | none => simp
        | some l => have := hb _ (lk_mem hk); simp only [Option.getD_some]; simp only at this; omega
      · have := hb p hp; omega
    obtain ⟨a, b, c⟩ := rcomM_ris T B needs (lay lessB x.1 ((lk C x.1).getD [] ++ [T]) C) (B + 1) (lay_ris lessB_ord _ _ h) hl
    refine ⟨a, Nat.le_trans b ?_, fun p hp => ?_⟩
    · have := lay_len (lt := lessB) x.1 ((lk C x.1).getD [] ++ [T]) C
      simp only [List.length_cons]
      omega
    · have := c p hp
      simp only [List.length_cons]
      omega
theorem may_keys {o : OpM} (hm : mayM o = true) (hk : o.k = 3) : o.keys.length ≤ 256 ∧ o.needs.length ≤ 256 := by
  have h9 : ((decide (0 < o.st) && listsM o) && leftM o) = true := by unfold mayM kindM at hm; rw [hk] at hm; exact hm
  simp only [listsM, Bool.and_eq_true, decide_eq_true_eq] at h9
  exact ⟨h9.1.2.1.1.1.1.2, h9.1.2.1.1.2⟩
theorem Fit.setD {r : RM} {B : Nat} (h : Fit r B) (x v : Nat) : Fit { r with d := lay ltN x v r.d } (B + 1) := by
  have h1 := h.mono (Nat.le_succ B)
  exact ⟨lay_ris ltN_ord _ _ h.ds, h1.ks, h1.ts, h1.tp, h1.cs, Nat.le_trans (lay_len _ _ _) (Nat.succ_le_succ h.dl), h1.kl, h1.tl, h1.cl, h1.ct, h1.time, h1.uid, h1.tn⟩
theorem Fit.setT {r : RM} {B : Nat} (h : Fit r B) (x : ByteArray) (t : Tb) (ht : t.p = x) (hn : t.tn ≤ B + 1) (T : Nat) (hT : T ≤ B + 1) : Fit { r with time := T, t := lay lessB x t r.t } (B + 1) := by
  have h1 := h.mono (Nat.le_succ B)
  refine ⟨h1.ds, h1.ks, lay_ris lessB_ord _ _ h.ts, fun p hp => ?_, h1.cs, h1.dl, h1.kl, Nat.le_trans (lay_len _ _ _) (Nat.succ_le_succ h.tl), h1.cl, h1.ct, hT, h1.uid, fun p hp => ?_⟩
  · rcases lay_mem hp with rfl | hp
    · exact ht
    · exact h.tp p hp
  · rcases lay_mem hp with rfl | hp
    · exact hn
    · exact h1.tn p hp
theorem Fit.apply {r : RM} {B : Nat} (h : Fit r B) (o : OpM) : Fit (rapplyM r o).1 (B + 4096) := by
  have h1 := h.mono (Nat.le_add_right B 4096)
  unfold rapplyM
  cases hm : mayM o
  · rw [if_neg (by simp)]; exact h1
  rw [if_pos rfl]
  obtain ⟨k1, k9⟩ := may_kind hm
  have hc : o.k = 1 ∨ o.k = 2 ∨ (o.k = 3 ∨ o.k = 4) ∨ (o.k = 5 ∨ o.k = 6 ∨ o.k = 7 ∨ o.k = 8) ∨ o.k = 9 := by omega
  rcases hc with hk | hk | hk | hk | hk
  · have e : rdoM r o = ({ r with time := r.time + o.n }, ⟨0, r.time + 1, 0, .zero⟩) := by unfold rdoM; simp only [hk]
    have hn : o.n ≤ 4096 := by unfold mayM kindM at hm; simp [hk] at hm; omega
    rw [e]
    exact ⟨h1.ds, h1.ks, h1.ts, h1.tp, h1.cs, h1.dl, h1.kl, h1.tl, h1.cl, h1.ct, Nat.add_le_add h.time hn, h1.uid, h1.tn⟩
  · have e : rdoM r o = ({ r with uid := r.uid + o.n }, ⟨0, r.uid + 1, 0, .zero⟩) := by unfold rdoM; simp only [hk]
    have hn : o.n ≤ 4096 := by unfold mayM kindM at hm; simp [hk] at hm; omega
    rw [e]
    exact ⟨h1.ds, h1.ks, h1.ts, h1.tp, h1.cs, h1.dl, h1.kl, h1.tl, h1.cl, h1.ct, h1.time, Nat.add_le_add h.uid hn, h1.tn⟩
  · have e : rdoM r o = rendM r o := by unfold rdoM; rcases hk with hk | hk <;> rw [hk] <;> rfl
    rw [e]
    unfold rendM
    split
    · exact h1
    · split
      · exact h1
      · split
        · exact h1
        · split
          · exact (h.setD _ _).mono (by omega)
          · rename_i hno
            have hk3 : o.k = 3 := by
              rcases hk with hk | hk
              · exact hk
              · exact absurd (Or.inl hk) hno
            obtain ⟨n1, n2⟩ := may_keys hm hk3
            obtain ⟨a, b⟩ := rlastM_ris (r.time + 1) o.keys r.k h.ks
            obtain ⟨c, d, e⟩ := rcomM_ris (r.time + 1) B o.needs r.c B h.cs h.ct
            exact ⟨lay_ris ltN_ord _ _ h.ds, a, h.ts, h.tp, c, by have := lay_len (lt := ltN) o.st (r.time + 1) r.d; have := h.dl; simp only; omega, by have := h.kl; simp only; omega, h1.tl, by have := h.cl; simp only; omega, fun p hp => by have := e p hp; omega, by have := h.time; simp only; omega, h1.uid, h1.tn⟩
  · have e : rdoM r o = rturnM r o := by unfold rdoM; rcases hk with hk | hk | hk | hk <;> rw [hk] <;> rfl
    rw [e]
    have hp : ∀ t, lk r.t o.pred = some t → t.p = o.pred ∧ t.tn ≤ B := fun t ht => ⟨h.tp _ (lk_mem ht), h.tn _ (lk_mem ht)⟩
    unfold rturnM
    split
    · split
      · exact h1
      · exact (h.setT o.pred ⟨o.pred, o.g, 0, 0, 1⟩ rfl (Nat.succ_le_succ (Nat.zero_le _)) r.time (by have := h.time; omega)).mono (by omega)
    · split
      · exact h1
      · rename_i t ht
        obtain ⟨t1, t2⟩ := hp t ht
        split
        · split
          · exact h1
          · split
            · exact h1
            · exact (h.setT o.pred ⟨t.p, t.g, o.to, r.time + 1, t.tn + 1⟩ t1 (Nat.succ_le_succ t2) (r.time + 1) (Nat.succ_le_succ h.time)).mono (by omega)
        · split
          · exact h1
          · exact (h.setT o.pred ⟨t.p, if o.k = 7 then t.to else t.g, 0, 0, t.tn + 1⟩ t1 (Nat.succ_le_succ t2) r.time (by have := h.time; omega)).mono (by omega)
  · have e : rdoM r o = rmarkM r o.at_ := by unfold rdoM; simp only [hk]
    rw [e]
    unfold rmarkM
    split
    · exact h1
    · split
      · exact h1
      · exact ⟨h.ds.sublist List.filter_sublist, h.ks.sublist List.filter_sublist, h.ts, h.tp, h.cs, Nat.le_trans (List.length_filter_le _ _) h1.dl, Nat.le_trans (List.length_filter_le _ _) h1.kl, h1.tl, h1.cl, h1.ct, h1.time, h1.uid, h1.tn⟩
end Go.Proofs.YtgmmglmokkcgeaaGreat
/- The document's oracle, plain: what holds of every state that commands make, as far as its bytes show it. -/
namespace Go.Proofs.YtgmmglmokkcgeaaGreat
set_option linter.unusedVariables false
set_option linter.unusedSimpArgs false
set_option linter.unusedSectionVars false
open Mk
/-- What the reader of a state asks of it. -/
structure Made (r : RM) : Prop where
  pos : ∀ p ∈ r.d, 0 < p.1 ∧ p.1 ≤ r.time ∧ p.2 ≤ r.time
  dst : ∀ p ∈ r.d, p.2 ≠ 0 → p.1 < p.2
  uniq : ∀ p ∈ r.d, ∀ q ∈ r.d, p.2 = q.2 → p.2 ≠ 0 → p.1 = q.1
  low : ∀ p ∈ r.d, p.2 = 0 → r.mark ≤ p.1
  ksz : ∀ p ∈ r.k, 1 ≤ p.1.size ∧ p.1.size ≤ 16384
  km : ∀ p ∈ r.k, r.mark < p.2
  kd : ∀ p ∈ r.k, ∃ q ∈ r.d, q.2 = p.2
  tp : ∀ p ∈ r.t, p.2.p = p.1 ∧ predOk p.1 = true
  tg : ∀ p ∈ r.t, p.2.g ≠ 0 ∧ p.2.tn ≠ 0 ∧ (p.2.to = 0 ↔ p.2.at_ = 0) ∧ p.2.at_ ≤ r.time ∧ p.2.to ≠ p.2.g ∧ (p.2.tn % 2 = 0 ↔ p.2.to ≠ 0)
  td : ∀ p ∈ r.t, p.2.at_ ≠ 0 → ∀ q ∈ r.d, q.2 ≠ p.2.at_
  ct : ∀ p ∈ r.c, p.2 ≠ [] ∧ (∃ t, lk r.t p.1 = some t) ∧ p.2.Pairwise (· < ·)
  cd : ∀ p ∈ r.c, ∀ t ∈ p.2, t ≠ 0 ∧ ∃ q ∈ r.d, q.2 = t
  mt : r.mark ≤ r.time
theorem Made.new : Made .new := ⟨by simp [RM.new], by simp [RM.new], by simp [RM.new], by simp [RM.new], by simp [RM.new], by simp [RM.new], by simp [RM.new], by simp [RM.new], by simp [RM.new], by simp [RM.new], by simp [RM.new], by simp [RM.new], Nat.le_refl _⟩
section
variable {K V : Type} [DecidableEq K] {lt : K → K → Bool}
theorem lay_old {x : K} {v : V} {L : List (K × V)} {p : K × V} (h : p ∈ L) (hx : p.1 ≠ x) : p ∈ lay lt x v L := by
  induction L with
  | nil => cases h
  | cons q L ih =>
    unfold lay
    split
    · rcases List.mem_cons.1 h with rfl | h
      · exact List.mem_cons_self ..
      · exact List.mem_cons_of_mem _ (ih h)
    · split
      · rename_i e
        rcases List.mem_cons.1 h with rfl | h
        · exact absurd e hx
        · exact List.mem_cons_of_mem _ h
      · exact List.mem_cons_of_mem _ h
theorem lay_new (x : K) (v : V) (L : List (K × V)) : (x, v) ∈ lay lt x v L := by
  induction L with
  | nil => exact List.mem_cons_self ..
  | cons q L ih =>
    unfold lay
    split
    · exact List.mem_cons_of_mem _ ih
    · split <;> exact List.mem_cons_self ..
theorem none_ne {L : List (K × V)} {x : K} (h : lk L x = none) : ∀ p ∈ L, p.1 ≠ x := by
  induction L with
  | nil => intro p hp; cases hp
  | cons q L ih =>
    intro p hp
    have hu : lk (q :: L) x = if q.1 = x then some q.2 else lk L x := rfl
    rw [hu] at h
    by_cases e : q.1 = x
    · rw [if_pos e] at h; cases h
    · rw [if_neg e] at h
      rcases List.mem_cons.1 hp with rfl | hp
      · exact e
      · exact ih h p hp
end
theorem rlastM_mem (T : Nat) : ∀ (keys : List ByteArray) (L : List (ByteArray × Nat)) (p : ByteArray × Nat), p ∈ rlastM T keys L → p ∈ L ∨ (p.1 ∈ keys ∧ p.2 = T)
  | [], L, p, h => Or.inl h
  | k :: l, L, p, h => by
    have hu : rlastM T (k :: l) L = rlastM T l (lay lessB k T L) := rfl
    rw [hu] at h
    rcases rlastM_mem T l _ p h with h | ⟨h1, h2⟩
    · rcases lay_mem h with rfl | h
      · exact Or.inr ⟨List.mem_cons_self .., rfl⟩
      · exact Or.inl h
    · exact Or.inr ⟨List.mem_cons_of_mem _ h1, h2⟩
/-- Rows behind a commit: old, or one of the needs' with the time behind it. -/
theorem rcomM_mem (T : Nat) : ∀ (needs : List (ByteArray × Nat)) (C : List (ByteArray × List Nat)) (p : ByteArray × List Nat), (needs.map (·.1)).Nodup → p ∈ rcomM T needs C → p ∈ C ∨ ((∃ x ∈ needs, x.1 = p.1) ∧ p.2 = (lk C p.1).getD [] ++ [T])
  | [], C, p, _, h => Or.inl h
  | x :: l, C, p, hn, h => by
    have hu : rcomM T (x :: l) C = rcomM T l (lay lessB x.1 ((lk C x.1).getD [] ++ [T]) C) := rfl
    rw [List.map_cons, List.nodup_cons] at hn
    rw [hu] at h
    have key : ∀ y : ByteArray × Nat, y ∈ l → ∀ (L : List (ByteArray × List Nat)) v, lk (lay lessB x.1 v L) y.1 = lk L y.1 := fun y hy L v => by
      have hne : y.1 ≠ x.1 := fun e => hn.1 (by rw [← e]; exact List.mem_map_of_mem hy)
      induction L with
      | nil => show lk [(x.1, v)] y.1 = none; simp [lk, Ne.symm hne]
      | cons q L ih =>
        unfold lay
        split
        · simp only [lk, ih]
        · split
          · rename_i e
            have h1 : ¬ q.1 = y.1 := fun e2 => hne (by rw [← e2, e])
            simp [lk, Ne.symm hne, h1]
          · simp [lk, Ne.symm hne]
    rcases rcomM_mem T l _ p hn.2 h with h | ⟨⟨y, hy, e⟩, h2⟩
    · rcases lay_mem h with rfl | h
      · exact Or.inr ⟨⟨x, List.mem_cons_self .., rfl⟩, rfl⟩
      · exact Or.inl h
    · refine Or.inr ⟨⟨y, List.mem_cons_of_mem _ hy, e⟩, ?_⟩
      rw [h2, ← e, key y hy]
theorem may_lists {o : OpM} (hm : mayM o = true) (hk : o.k = 3) : 0 < o.st ∧ (∀ k ∈ o.keys, 1 ≤ k.size ∧ k.size ≤ 16384) := by
  have h9 : ((decide (0 < o.st) && listsM o) && leftM o) = true := by unfold mayM kindM at hm; rw [hk] at hm; exact hm
  simp only [listsM, Bool.and_eq_true, decide_eq_true_eq, List.all_eq_true] at h9
  exact ⟨h9.1.1, h9.1.2.1.1.1.1.1.1⟩
theorem lk_of_mem' {K V : Type} [DecidableEq K] {L : List (K × V)} (hd : L.Pairwise (fun p q => p.1 ≠ q.1)) {p : K × V} (h : p ∈ L) : lk L p.1 = some p.2 := by
  obtain ⟨i, hi⟩ := List.mem_iff_getElem?.1 h
  exact (lk_some hd (j := i) (x := p.1) (v := p.2) hi).1
theorem Made.apply {r : RM} (h : Made r) (hts : Ris lessB r.t) (o : OpM) : Made (rapplyM r o).1 := by
  unfold rapplyM
  cases hm : mayM o
  · rw [if_neg (by simp)]; exact h
  rw [if_pos rfl]
  obtain ⟨k1, k9⟩ := may_kind hm
  have hc : o.k = 1 ∨ o.k = 2 ∨ (o.k = 3 ∨ o.k = 4) ∨ (o.k = 5 ∨ o.k = 6 ∨ o.k = 7 ∨ o.k = 8) ∨ o.k = 9 := by omega
  have hmt := h.mt
  rcases hc with hk | hk | hk | hk | hk
  · have e : rdoM r o = ({ r with time := r.time + o.n }, ⟨0, r.time + 1, 0, .zero⟩) := by unfold rdoM; simp only [hk]
    rw [e]
    exact ⟨fun p hp => by have := h.pos p hp; simp only; omega, h.dst, h.uniq, h.low, h.ksz, h.km, h.kd, h.tp, fun p hp => by obtain ⟨a, b, c, d, e⟩ := h.tg p hp; exact ⟨a, b, c, by simp only; omega, e⟩, h.td, h.ct, h.cd, by simp only; omega⟩
  · have e : rdoM r o = ({ r with uid := r.uid + o.n }, ⟨0, r.uid + 1, 0, .zero⟩) := by unfold rdoM; simp only [hk]
    rw [e]
    exact ⟨h.pos, h.dst, h.uniq, h.low, h.ksz, h.km, h.kd, h.tp, h.tg, h.td, h.ct, h.cd, h.mt⟩
  · have e : rdoM r o = rendM r o := by unfold rdoM; rcases hk with hk | hk <;> rw [hk] <;> rfl
    have hst : 0 < o.st := by
      rcases hk with hk | hk
      · exact (may_lists hm hk).1
      · unfold mayM kindM at hm; simp [hk] at hm; omega
    rw [e]
    unfold rendM
    split
    · exact h
    · rename_i hlt
      split
      · exact h
      · rename_i hnone
        have hne := none_ne hnone
        split
        · exact h
        · rename_i hmk
          split
          · refine ⟨fun p hp => ?_, fun p hp => ?_, fun p hp q hq => ?_, fun p hp => ?_, h.ksz, h.km, fun p hp => ?_, h.tp, h.tg, fun p hp ha q hq => ?_, h.ct, fun p hp t ht => ?_, h.mt⟩
            · rcases lay_mem hp with rfl | hp
              · exact ⟨hst, by simp only; omega, Nat.zero_le _⟩
              · exact h.pos p hp
            · rcases lay_mem hp with rfl | hp
              · intro e; exact absurd rfl e
              · exact h.dst p hp
            · intro e1 e2
              rcases lay_mem hp with rfl | hp
              · exact absurd rfl e2
              · rcases lay_mem hq with rfl | hq
                · exact absurd e1 e2
                · exact h.uniq p hp q hq e1 e2
            · rcases lay_mem hp with rfl | hp
              · intro _; simp only; omega
              · exact h.low p hp
            · obtain ⟨q, hq, e⟩ := h.kd p hp
              exact ⟨q, lay_old hq (hne q hq), e⟩
            · rcases lay_mem hq with rfl | hq
              · exact fun e => ha e.symm
              · exact h.td p hp ha q hq
            · obtain ⟨a, q, hq, e⟩ := h.cd p hp t ht
              exact ⟨a, q, lay_old hq (hne q hq), e⟩
          · rename_i hno
            have hk3 : o.k = 3 := by
              rcases hk with hk | hk
              · exact hk
              · exact absurd (Or.inl hk) hno
            have hcl : rclearM r o = true := by
              cases hc : rclearM r o
              · exact absurd (Or.inr hc) hno
              · rfl
            have hneeds : ∀ x ∈ o.needs, ∃ t, lk r.t x.1 = some t := fun x hx => by
              unfold rclearM at hcl
              rw [Bool.and_eq_true] at hcl
              have := List.all_eq_true.1 hcl.2 x hx
              unfold rneedM at this
              cases hl : lk r.t x.1 with
              | none => rw [hl] at this; cases this
              | some t => exact ⟨t, rfl⟩
            obtain ⟨_, hks⟩ := may_lists hm hk3
            have hnd := may_needs hm hk3
            refine ⟨fun p hp => ?_, fun p hp => ?_, fun p hp q hq => ?_, fun p hp => ?_, fun p hp => ?_, fun p hp => ?_, fun p hp => ?_, h.tp, fun p hp => ?_, fun p hp ha q hq => ?_, fun p hp => ?_, fun p hp t ht => ?_, by simp only; omega⟩
            · rcases lay_mem hp with rfl | hp
              · exact ⟨hst, by simp only; omega, Nat.le_refl _⟩
              · have := h.pos p hp; simp only; omega
            · rcases lay_mem hp with rfl | hp
              · intro _; simp only; omega
              · exact h.dst p hp
            · intro e1 e2
              rcases lay_mem hp with rfl | hp
              · rcases lay_mem hq with rfl | hq
                · rfl
                · have := h.pos q hq; simp only at e1; omega
              · rcases lay_mem hq with rfl | hq
                · have := h.pos p hp; simp only at e1; omega
                · exact h.uniq p hp q hq e1 e2
            · rcases lay_mem hp with rfl | hp
              · intro e; simp only at e; omega
              · exact h.low p hp
            · rcases rlastM_mem _ _ _ p hp with hp | ⟨hp, _⟩
              · exact h.ksz p hp
              · exact hks _ hp
            · rcases rlastM_mem _ _ _ p hp with hp | ⟨_, e⟩
              · exact h.km p hp
              · rw [e]; simp only; omega
            · rcases rlastM_mem _ _ _ p hp with hp | ⟨_, e⟩
              · obtain ⟨q, hq, e⟩ := h.kd p hp
                exact ⟨q, lay_old hq (hne q hq), e⟩
              · exact ⟨_, lay_new _ _ _, e.symm⟩
            · obtain ⟨a, b, c, d, e⟩ := h.tg p hp
              exact ⟨a, b, c, by simp only; omega, e⟩
            · rcases lay_mem hq with rfl | hq
              · have := (h.tg p hp).2.2.2.1; simp only; omega
              · exact h.td p hp ha q hq
            · have old : ∀ q ∈ r.c, ∀ t ∈ q.2, t ≤ r.time := fun q hq t ht => by
                obtain ⟨_, d, hd, e⟩ := h.cd q hq t ht
                have := (h.pos d hd).2.2
                omega
              rcases rcomM_mem _ _ _ p hnd hp with hp | ⟨⟨x, hx, ex⟩, e⟩
              · exact h.ct p hp
              · refine ⟨by rw [e]; simp, by rw [← ex]; exact hneeds x hx, ?_⟩
                rw [e]
                cases hl : lk r.c p.1 with
                | none => simp
                | some l =>
                  have hl2 := lk_mem hl
                  rw [Option.getD_some, List.pairwise_append]
                  refine ⟨(h.ct _ hl2).2.2, List.pairwise_singleton .., fun a ha b hb => ?_⟩
                  have := old _ hl2 a ha
                  simp only [List.mem_singleton] at hb
                  omega
            · rcases rcomM_mem _ _ _ p hnd hp with hp | ⟨_, e⟩
              · obtain ⟨a, q, hq, e⟩ := h.cd p hp t ht
                exact ⟨a, q, lay_old hq (hne q hq), e⟩
              · rw [e] at ht
                rcases List.mem_append.1 ht with ht | ht
                · cases hl : lk r.c p.1 with
                  | none => rw [hl] at ht; simp at ht
                  | some l =>
                    rw [hl, Option.getD_some] at ht
                    obtain ⟨a, q, hq, e⟩ := h.cd _ (lk_mem hl) t ht
                    exact ⟨a, q, lay_old hq (hne q hq), e⟩
                · simp only [List.mem_singleton] at ht
                  exact ⟨by omega, _, lay_new _ _ _, ht.symm⟩
  · have e : rdoM r o = rturnM r o := by unfold rdoM; rcases hk with hk | hk | hk | hk <;> rw [hk] <;> rfl
    have hpo : predOk o.pred = true := by
      unfold mayM kindM at hm
      rcases hk with hk | hk | hk | hk <;> simp [hk] at hm <;> simp [hm]
    have hlkt : ∀ (x : ByteArray) (t' : Tb) (p : ByteArray), (∃ t, lk r.t p = some t) → Ris lessB r.t → ∃ t, lk (lay lessB x t' r.t) p = some t := fun x t' p hp hts => by
      rw [lay_lk lessB_ord _ _ hts]
      split
      · exact ⟨_, rfl⟩
      · exact hp
    have set : ∀ (t' : Tb) (T : Nat), t'.p = o.pred → r.time ≤ T → (t'.g ≠ 0 ∧ t'.tn ≠ 0 ∧ (t'.to = 0 ↔ t'.at_ = 0) ∧ t'.at_ ≤ T ∧ t'.to ≠ t'.g ∧ (t'.tn % 2 = 0 ↔ t'.to ≠ 0)) → (t'.at_ ≠ 0 → ∀ q ∈ r.d, q.2 ≠ t'.at_) → Ris lessB r.t → Made { r with time := T, t := lay lessB o.pred t' r.t } := fun t' T e1 e2 e3 e4 hts => by
      refine ⟨fun p hp => by have := h.pos p hp; simp only; omega, h.dst, h.uniq, h.low, h.ksz, h.km, h.kd, fun p hp => ?_, fun p hp => ?_, fun p hp => ?_, fun p hp => ?_, h.cd, by simp only; omega⟩
      · rcases lay_mem hp with rfl | hp
        · exact ⟨e1, hpo⟩
        · exact h.tp p hp
      · rcases lay_mem hp with rfl | hp
        · exact e3
        · obtain ⟨a, b, c, d, e⟩ := h.tg p hp
          exact ⟨a, b, c, by simp only; omega, e⟩
      · rcases lay_mem hp with rfl | hp
        · exact e4
        · exact h.td p hp
      · obtain ⟨a, b, c⟩ := h.ct p hp
        exact ⟨a, hlkt _ _ _ b hts, c⟩
    rw [e]
    unfold rturnM
    split
    · rename_i hk5
      split
      · exact h
      · have hg : 0 < o.g := by unfold mayM kindM at hm; simp [hk5] at hm; omega
        exact set ⟨o.pred, o.g, 0, 0, 1⟩ r.time rfl (Nat.le_refl _) ⟨by simp only; omega, by simp, by simp, Nat.zero_le _, by simp only; omega, by simp⟩ (fun e => absurd rfl e) hts
    · rename_i hk5
      split
      · exact h
      · rename_i t ht
        have htm := lk_mem ht
        obtain ⟨tp1, _⟩ := h.tp _ htm
        obtain ⟨g1, g2, g3, g4, g5, g6⟩ := h.tg _ htm
        simp only at tp1 g1 g2 g3 g4 g5 g6
        split
        · rename_i hk6
          split
          · exact h
          · rename_i hto
            split
            · exact h
            · rename_i hgo
              have hto2 : 0 < o.to := by unfold mayM kindM at hm; simp [hk6] at hm; omega
              refine set ⟨t.p, t.g, o.to, r.time + 1, t.tn + 1⟩ (r.time + 1) tp1 (by omega) ⟨g1, by simp, by simp only; omega, Nat.le_refl _, fun e => hgo e.symm, ?_⟩ (fun _ q hq => ?_) hts
              · simp only
                have : t.to = 0 := by omega
                omega
              · have := (h.pos q hq).2.2
                simp only
                omega
        · split
          · exact h
          · rename_i hk6 hno
            have hto : t.to ≠ 0 := fun e => hno (Or.inl e)
            refine set ⟨t.p, if o.k = 7 then t.to else t.g, 0, 0, t.tn + 1⟩ r.time tp1 (Nat.le_refl _) ⟨?_, by simp, by simp, Nat.zero_le _, ?_, ?_⟩ (fun e => absurd rfl e) hts
            · simp only; split <;> assumption
            · simp only; split <;> omega
            · simp only; omega
  · have e : rdoM r o = rmarkM r o.at_ := by unfold rdoM; simp only [hk]
    rw [e]
    unfold rmarkM
    split
    · exact h
    · split
      · exact h
      · rename_i h1 h2
        have keep : ∀ q ∈ r.d, q.2 ≠ 0 → q ∈ r.d.filter (fun p => decide (p.2 ≠ 0) || decide (o.at_ ≤ p.1)) := fun q hq hz => by simp [hq, hz]
        refine ⟨fun p hp => h.pos p (List.mem_filter.1 hp).1, fun p hp => h.dst p (List.mem_filter.1 hp).1, fun p hp q hq => h.uniq p (List.mem_filter.1 hp).1 q (List.mem_filter.1 hq).1, fun p hp e => ?_, fun p hp => h.ksz p (List.mem_filter.1 hp).1, fun p hp => ?_, fun p hp => ?_, h.tp, h.tg, fun p hp ha q hq => h.td p hp ha q (List.mem_filter.1 hq).1, h.ct, fun p hp t ht => ?_, by simp only; omega⟩
        · have := (List.mem_filter.1 hp).2
          simp [e] at this
          exact this
        · have := (List.mem_filter.1 hp).2
          simpa using this
        · obtain ⟨hp1, hp2⟩ := List.mem_filter.1 hp
          obtain ⟨q, hq, e⟩ := h.kd p hp1
          exact ⟨q, keep q hq (by have := h.km p hp1; omega), e⟩
        · obtain ⟨a, q, hq, e⟩ := h.cd p hp t ht
          exact ⟨a, q, keep q hq (by omega), e⟩
end Go.Proofs.YtgmmglmokkcgeaaGreat
