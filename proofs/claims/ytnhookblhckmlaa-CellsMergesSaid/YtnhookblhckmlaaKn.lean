/- Plain: what is scanned. -/
import Derived.Test.YtnhookblhckmlaaKb
namespace Go.Proofs.Ytnhookblhckmlaa
open Go.RowKit Mk Go.Sort

/-- Is a key between the two? -/
def inR (lo hi k : ByteArray) : Bool := !(less k lo) && (hi.toList == [] || less k hi)
def scStep (lo hi : ByteArray) (t : Nat) (s : TrS) (x : CellM) : Bool × TrS :=
  if (s.any && (x.key.toList == s.last.toList)) || decide (t < x.time) || !(inR lo hi x.key) then (false, s) else (!x.del, ⟨x.key, true⟩)
def scGo (lo hi : ByteArray) (t : Nat) : TrS → List CellM → List CellM
  | _, [] => []
  | s, x :: L => if (scStep lo hi t s x).1 then x :: scGo lo hi t (scStep lo hi t s x).2 L else scGo lo hi t (scStep lo hi t s x).2 L
def scSt (lo hi : ByteArray) (t : Nat) : TrS → List CellM → TrS
  | s, [] => s
  | s, x :: L => scSt lo hi t (scStep lo hi t s x).2 L
def scanM (lo hi : ByteArray) (t : Nat) (L : List CellM) : List CellM := scGo lo hi t ⟨⟨#[]⟩, false⟩ L
theorem scGo_append (lo hi : ByteArray) (t : Nat) (s : TrS) (A B : List CellM) : scGo lo hi t s (A ++ B) = scGo lo hi t s A ++ scGo lo hi t (scSt lo hi t s A) B := by
  induction A generalizing s with
  | nil => rfl
  | cons x A ih =>
    simp only [List.cons_append, scGo, scSt]
    split <;> simp [ih]
theorem scSt_append (lo hi : ByteArray) (t : Nat) (s : TrS) (A B : List CellM) : scSt lo hi t s (A ++ B) = scSt lo hi t (scSt lo hi t s A) B := by
  induction A generalizing s with
  | nil => rfl
  | cons x A ih => simp only [List.cons_append, scSt, ih]
theorem scanM_prefix (lo hi : ByteArray) (t : Nat) {A L : List CellM} (h : A <+: L) : scanM lo hi t A <+: scanM lo hi t L := by
  obtain ⟨B, rfl⟩ := h
  unfold scanM
  rw [scGo_append]
  exact List.prefix_append _ _
theorem scanM_snoc (lo hi : ByteArray) (t : Nat) (A : List CellM) (x : CellM) : scanM lo hi t (A ++ [x]) = scanM lo hi t A ++ (if (scStep lo hi t (scSt lo hi t ⟨⟨#[]⟩, false⟩ A) x).1 then [x] else []) := by
  unfold scanM
  rw [scGo_append]
  congr 1
theorem scGo_sub (lo hi : ByteArray) (t : Nat) (s : TrS) (L : List CellM) : (scGo lo hi t s L).Sublist L := by
  induction L generalizing s with
  | nil => exact List.Sublist.refl _
  | cons x L ih =>
    unfold scGo
    split
    · exact (ih _).cons_cons _
    · exact (ih _).cons _
theorem scanM_len (lo hi : ByteArray) (t : Nat) (L : List CellM) : (scanM lo hi t L).length ≤ L.length := (scGo_sub lo hi t _ L).length_le

/-- The document's scan. -/
def refGo (lo hi : ByteArray) (t : Nat) : Option ByteArray → List CellM → List CellM
  | _, [] => []
  | prev, x :: L => (if inR lo hi x.key = true ∧ prev ≠ some x.key then (getM (x :: L) x.key t).toList else []) ++ refGo lo hi t (some x.key) L
theorem ord_key {p x : CellM} {L : List CellM} (h : Ord (p :: x :: L)) (hx : x.key ≠ p.key) : ∀ c ∈ x :: L, c.key ≠ p.key := by
  obtain ⟨g1, g2⟩ := List.pairwise_cons.1 h
  obtain ⟨g3, g4⟩ := List.pairwise_cons.1 g2
  have hgt : p.key.toList < x.key.toList := by
    have h3 := (cmpM_lt _ _).1 (g1 x (by simp))
    rcases h3 with h3 | ⟨h3, _⟩
    · exact h3
    · exact absurd (toList_inj h3).symm hx
  intro c hc e
  rcases List.mem_cons.1 hc with rfl | hc
  · exact hx e
  · have h6 := (cmpM_lt _ _).1 (g3 c hc)
    rw [e] at h6
    rcases h6 with h6 | ⟨h6, _⟩
    · exact List.lt_asymm h6 hgt
    · rw [h6] at hgt; exact List.lt_irrefl _ hgt
theorem getM_cons_no {x : CellM} {L : List CellM} {k : ByteArray} {t : Nat} (h : pK k t x = false) : getM (x :: L) k t = getM L k t := by
  unfold getM; rw [List.find?_cons, h]
theorem getM_cons_yes {x : CellM} {L : List CellM} {k : ByteArray} {t : Nat} (h : pK k t x = true) : getM (x :: L) k t = if x.del then none else some x := by
  unfold getM; rw [List.find?_cons, h]
theorem getM_none {L : List CellM} {k : ByteArray} (t : Nat) (h : ∀ c ∈ L, c.key ≠ k) : getM L k t = none := by
  unfold getM; rw [List.find?_eq_none.2 (fun c hc => by simp [pK, h c hc])]
theorem scGo_no {lo hi : ByteArray} {t : Nat} {s : TrS} {x : CellM} {L : List CellM} (e : scStep lo hi t s x = (false, s)) : scGo lo hi t s (x :: L) = scGo lo hi t s L := by
  show (if (scStep lo hi t s x).1 then _ else _) = _
  rw [e]; rfl
theorem scGo_del {lo hi : ByteArray} {t : Nat} {s s' : TrS} {x : CellM} {L : List CellM} (e : scStep lo hi t s x = (!x.del, s')) : scGo lo hi t s (x :: L) = (if x.del then (none : Option CellM) else some x).toList ++ scGo lo hi t s' L := by
  show (if (scStep lo hi t s x).1 then _ else _) = _
  rw [e]
  cases x.del <;> rfl
theorem refGo_yes {lo hi : ByteArray} {t : Nat} {prev : Option ByteArray} {x : CellM} {L : List CellM} (h : inR lo hi x.key = true) (hp : prev ≠ some x.key) : refGo lo hi t prev (x :: L) = (getM (x :: L) x.key t).toList ++ refGo lo hi t (some x.key) L := by
  show (if _ then _ else _) ++ _ = _
  rw [if_pos ⟨h, hp⟩]
theorem refGo_no {lo hi : ByteArray} {t : Nat} {prev : Option ByteArray} {x : CellM} {L : List CellM} (h : ¬ (inR lo hi x.key = true ∧ prev ≠ some x.key)) : refGo lo hi t prev (x :: L) = refGo lo hi t (some x.key) L := by
  show (if _ then _ else _) ++ _ = _
  rw [if_neg h]; rfl
theorem scStep_late {lo hi : ByteArray} {t : Nat} {s : TrS} {x : CellM} (h : t < x.time) : scStep lo hi t s x = (false, s) := by unfold scStep; rw [if_pos (by simp [h])]
theorem scStep_out {lo hi : ByteArray} {t : Nat} {s : TrS} {x : CellM} (h : ¬ inR lo hi x.key = true) : scStep lo hi t s x = (false, s) := by unfold scStep; rw [if_pos (by simp [h])]
theorem scStep_again {lo hi : ByteArray} {t : Nat} {s : TrS} {x : CellM} (h1 : s.any = true) (h2 : x.key = s.last) : scStep lo hi t s x = (false, s) := by unfold scStep; rw [if_pos (by simp [h1, h2])]
theorem scStep_new {lo hi : ByteArray} {t : Nat} {s : TrS} {x : CellM} (h : ¬ t < x.time) (hr : inR lo hi x.key = true) (hs : s.any = true → x.key ≠ s.last) : scStep lo hi t s x = (!x.del, ⟨x.key, true⟩) := by
  have hag : (s.any && (x.key.toList == s.last.toList)) = false := by
    rw [Bool.and_eq_false_iff]
    by_cases h1 : s.any = true
    · right; rw [beq_eq_false_iff_ne]; intro h2; exact hs h1 (toList_inj h2)
    · left; simpa using h1
  unfold scStep; rw [if_neg (by simp [h, hr, hag])]
theorem scGo_new (lo hi : ByteArray) (t : Nat) {x : CellM} {L : List CellM} {s : TrS} {prev : Option ByteArray} (hp : prev ≠ some x.key) (hs : s.any = true → x.key ≠ s.last)
    (i1 : scGo lo hi t ⟨x.key, true⟩ L = refGo lo hi t (some x.key) L) (i2 : scGo lo hi t s L = (if inR lo hi x.key = true then (getM L x.key t).toList else []) ++ refGo lo hi t (some x.key) L) :
    scGo lo hi t s (x :: L) = refGo lo hi t prev (x :: L) := by
  by_cases hr : inR lo hi x.key = true
  · rw [refGo_yes hr hp]
    rw [if_pos hr] at i2
    by_cases ht : t < x.time
    · rw [scGo_no (scStep_late ht), i2, getM_cons_no (by simp [pK]; omega)]
    · rw [scGo_del (scStep_new ht hr hs), i1, getM_cons_yes (by simp [pK]; omega)]
  · rw [if_neg hr] at i2
    rw [refGo_no (fun h => hr h.1), scGo_no (scStep_out hr), i2]
    rfl
theorem scGo_ref (lo hi : ByteArray) (t : Nat) : ∀ (L : List CellM) (p : CellM) (s : TrS), Ord (p :: L) →
    ((s.any = true → s.last = p.key → scGo lo hi t s L = refGo lo hi t (some p.key) L) ∧
     ((s.any = true → ∀ c ∈ p :: L, c.key ≠ s.last) → scGo lo hi t s L = (if inR lo hi p.key = true then (getM L p.key t).toList else []) ++ refGo lo hi t (some p.key) L)) := by
  intro L
  induction L with
  | nil => intro p s _; exact ⟨fun _ _ => rfl, fun _ => by simp [scGo, refGo, getM]⟩
  | cons x L ih =>
    intro p s hO
    obtain ⟨g1, g2⟩ := List.pairwise_cons.1 hO
    have hO2 : Ord (p :: L) := List.pairwise_cons.2 ⟨fun c hc => g1 c (List.mem_cons_of_mem _ hc), (List.pairwise_cons.1 g2).2⟩
    have new : x.key ≠ p.key → (s.any = true → ∀ c ∈ x :: L, c.key ≠ s.last) → scGo lo hi t s (x :: L) = refGo lo hi t (some p.key) (x :: L) := fun hx hs =>
      scGo_new lo hi t (fun e => hx (Option.some.inj e).symm) (fun h => hs h x (by simp)) ((ih x ⟨x.key, true⟩ g2).1 rfl rfl) ((ih x s g2).2 hs)
    constructor
    · intro h1 h2
      by_cases hx : x.key = p.key
      · rw [scGo_no (scStep_again h1 (by rw [hx, h2])), refGo_no (fun h => h.2 (by rw [hx])), (ih p s hO2).1 h1 h2, hx]
      · exact new hx (fun _ => by rw [h2]; exact ord_key hO hx)
    · intro hs
      by_cases hx : x.key = p.key
      · have i2 := (ih p s hO2).2 (fun h c hc => hs h c (by rcases List.mem_cons.1 hc with rfl | hc; simp; simp [hc]))
        rw [refGo_no (fun h => h.2 (by rw [hx]))]
        by_cases hr : inR lo hi p.key = true
        · rw [if_pos hr] at i2 ⊢
          by_cases ht : t < x.time
          · rw [scGo_no (scStep_late ht), i2, getM_cons_no (by simp [pK]; omega), hx]
          · rw [scGo_del (scStep_new ht (by rw [hx]; exact hr) (fun h => hs h x (by simp))), (ih p ⟨x.key, true⟩ hO2).1 rfl hx, getM_cons_yes (by simp [pK, hx]; omega), hx]
        · rw [if_neg hr] at i2 ⊢
          rw [scGo_no (scStep_out (by rw [hx]; exact hr)), i2, hx]
      · rw [new hx (fun h c hc => hs h c (List.mem_cons_of_mem _ hc)), getM_none t (ord_key hO hx)]
        simp
theorem scanM_ref {lo hi : ByteArray} {t : Nat} {L : List CellM} (h : Ord L) : scanM lo hi t L = refGo lo hi t none L := by
  cases L with
  | nil => rfl
  | cons x L => exact scGo_new lo hi t (by simp) (fun h => by simp at h) ((scGo_ref lo hi t L x ⟨x.key, true⟩ h).1 rfl rfl) ((scGo_ref lo hi t L x ⟨⟨#[]⟩, false⟩ h).2 (fun h => by simp at h))
end Go.Proofs.Ytnhookblhckmlaa
