/- Copy of the document's net. -/
import Derived.Test.YtpgioccbnkcjcaaP7
import Derived.Orders
namespace Go.Proofs.Ytpgioccbnkcjcaa
open Go.RowKit Mk

/-- How many have not come up. -/
def unl (listed : Array Bool) : Nat := listed.toList.countP (fun b => !b)
theorem unl_set {listed : Array Bool} {i : Nat} (h : listed.getD i true = false) : unl (listed.setIfInBounds i true) + 1 = unl listed := by
  have hi : i < listed.size := by
    rcases Nat.lt_or_ge i listed.size with h' | h'
    · exact h'
    · simp [Array.getD, Nat.not_lt.2 h'] at h
  have hv : listed[i] = false := by simpa [Array.getD, hi] using h
  unfold unl
  rw [Array.toList_setIfInBounds]
  have key : ∀ (l : List Bool) (i : Nat) (h : i < l.length), l[i] = false → (l.set i true).countP (fun b => !b) + 1 = l.countP (fun b => !b) := by
    intro l
    induction l with
    | nil => intro i h; simp at h
    | cons b l ih =>
      intro i h hb
      cases i with
      | zero => simp at hb; subst hb; simp [List.countP_cons]
      | succ i =>
        simp only [List.set_cons_succ, List.countP_cons]
        have := ih i (by simpa using h) (by simpa using hb)
        omega
  exact key listed.toList i (by simpa using hi) (by simpa using hv)
theorem unl_zero {listed : Array Bool} (h : unl listed = 0) (i : Nat) : listed.getD i true = true := by
  unfold unl at h
  rw [List.countP_eq_zero] at h
  rcases Nat.lt_or_ge i listed.size with h' | h'
  · have := h listed[i] (by simp)
    simpa [Array.getD, h'] using this
  · simp [Array.getD, Nat.not_lt.2 h']

section
variable {P : Program} {ops : Array Oper} {Q : Exit → Act → World → Prop} {md : Region.Mode}
/-- A region in whatever order, by what holds of each state that is reached. -/
theorem wpAny_inv {I : Array Bool → Act → World → Prop}
    (hs : ∀ listed a w, I listed a w → ∀ i, i < ops.size → listed.getD i true = false → (∀ o, ops[i]? = some o → ∀ e ∈ o.after, Region.binds md e = true → listed.getD e.on false = true) → wpOp P ops Q i (I (listed.setIfInBounds i true)) a w)
    (hd : ∀ listed a w, I listed a w → (∀ i, i < ops.size → listed.getD i true = true) → Q .normal a w)
    (ht : ∀ (i : Nat) (o : Oper), ops[i]? = some o → ∀ e ∈ o.after, e.on < i) (hz : ∀ listed a w, I listed a w → listed.size = ops.size) :
    ∀ fuel listed a w, I listed a w → unl listed ≤ fuel → wpAny P md ops Q fuel listed a w := by
  have hall : ∀ listed a w, I listed a w → Region.ready md ops listed = [] → ∀ i, i < ops.size → listed.getD i true = true := by
    intro listed a w hI h0 i
    induction i using Nat.strongRecOn with
    | ind i ih =>
      intro hi
      cases hc : listed.getD i true with
      | true => rfl
      | false =>
        exfalso
        have hm : i ∈ Region.ready md ops listed := by
          rw [mem_ready]
          refine ⟨hc, ops[i], Array.getElem?_eq_getElem hi, fun e he _ => ?_⟩
          have hlt := ht i ops[i] (Array.getElem?_eq_getElem hi) e he
          have h1 := ih e.on hlt (by omega)
          have hsz := hz listed a w hI
          have h2 : e.on < listed.size := by omega
          simp only [Array.getD, h2, dif_pos] at h1 ⊢
          exact h1
        rw [h0] at hm
        cases hm
  intro fuel
  induction fuel with
  | zero =>
    intro listed a w hI hu
    have hf : ∀ i, listed.getD i true = true := unl_zero (by omega)
    refine ⟨?_, hd listed a w hI (fun i _ => hf i)⟩
    cases hr : Region.ready md ops listed with
    | nil => rfl
    | cons i l =>
      have hm : i ∈ Region.ready md ops listed := by rw [hr]; simp
      have := (mem_ready.1 hm).1
      rw [hf i] at this
      cases this
  | succ fuel ih =>
    intro listed a w hI hu
    refine ⟨fun h0 => hd listed a w hI (hall listed a w hI h0), fun i hi => ?_⟩
    obtain ⟨hc, o, ho, hdep⟩ := mem_ready.1 hi
    exact wpOp_mono (fun a' w' h => ih _ a' w' h (by have := unl_set hc; omega)) (hs listed a w hI i (Array.getElem?_eq_some_iff.1 ho).1 hc (fun o' ho' => by rw [ho] at ho'; cases ho'; exact hdep))
theorem wpOp_of {i : Nat} {o : Oper} {a : Act} {w w' : World} {K : Act → World → Prop} {v : Value} (ho : ops[i]? = some o) (hw : Region.wanted o (yielded ops a.tmps) = true) (hrun : (execOp a.eval o).run P w = .ok (.value v) w') (hK : K (a.put o.dst v) w') : wpOp P ops Q i K a w := by
  unfold wpOp
  rw [ho]
  simp only [hw, if_true]
  refine Or.inl ?_
  unfold Oper.wp
  rw [hrun]
  exact hK
end
end Go.Proofs.Ytpgioccbnkcjcaa
