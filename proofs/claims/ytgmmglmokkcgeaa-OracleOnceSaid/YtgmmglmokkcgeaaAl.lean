/- Walks: no two overlap: one more commit. -/
import Derived.Test.YtgmmglmokkcgeaaAj
import Derived.Test.YtgmmglmokkcgeaaAk
namespace Go.Proofs.Ytgmmglmokkcgeaa
set_option linter.unusedVariables false
set_option linter.unusedSimpArgs false
open Go.RowKit Mk Go.Sort

theorem sl_apart {w : World} {e1 e2 : TypeId} {s1 s2 n1 n2 : Nat} {v1 v2 : Value} {x1 x2 : List Value} (h1 : sl w e1 s1 v1 n1 x1) (h2 : sl w e2 s2 v2 n2 x2) (he : e1 ≠ e2) {g : Nat} (hg : v1.ownBlock = some g) : v2.ownBlock ≠ some g := by
  intro hg2
  rcases h1.2 with ⟨rfl, _⟩ | ⟨g1, c1, k1, rfl, b1, _⟩
  · simp [Value.ownBlock] at hg
  rcases h2.2 with ⟨rfl, _⟩ | ⟨g2, c2, k2, rfl, b2, _⟩
  · simp [Value.ownBlock] at hg2
  simp [Value.ownBlock] at hg hg2
  subst hg hg2
  rw [b1] at b2
  simp at b2
  exact he b2.2
theorem cell_new_row {w : World} {g : Nat} {cs : Array Value} {t : TypeId} (h : w.heap[g]? = some (.cells cs t)) : ∀ j u, cs.toList[j]? = some u → w.cell? ((⟨g, 0, none⟩ : Addr).add j) = some u := by
  intro j u hj
  rw [Addr.add_mid, Nat.zero_add]
  exact cell_of h (by simpa using hj)
section
variable {w wr w1 w2 w3 w4 : World} {L : List (OpM × OpL)} {b j : Nat} {dv av dv' av' : Value} {n : OM} {E : List ((OpM × OpL) × Nat)} {F : Nat → Prop}
theorem ApAt.add (h : ApAt w L b j dv av n E F wr) {p : OpM × OpL} {t : Nat} (hp : p ∈ L) (c1 : Chg (fun _ => False) wr w1)
    (s1 : sl w2 34 9 dv' (E.length + 1) (doneV (E.map (·.1)) ++ (opC p.1 p.2).toList)) (g1 : w1.grownBy w2 dv.ownBlock) (a1 : dv'.ownBlock = dv.ownBlock ∨ dv'.ownBlock = some w1.heap.size)
    (c2 : Chg (fun _ => False) w2 w3) (s2 : sl w4 30 1 av' (E.length + 1) (timesV (E.map (·.2)) ++ [.int .u64 (t : Nat)])) (g2 : w3.grownBy w4 av.ownBlock) (a2 : av'.ownBlock = av.ownBlock ∨ av'.ownBlock = some w3.heap.size)
    (hap : ApartI n ((E ++ [(p, t)]).map fun e => (e.1.1.keys, e.2))) (hup : ∀ x ∈ E.map (·.2), x < t) (hcnt : E.length < j) : ApAt w L b j dv' av' n (E ++ [(p, t)]) F w4 := by
  have C1 : Chg (fun g => dv.ownBlock = some g) wr w2 := (c1.mono (fun _ f => f.elim)).grown g1 (fun i hi => Or.inl hi)
  have C2 : Chg (fun g => av.ownBlock = some g) w2 w4 := (c2.mono (fun _ f => f.elim)).grown g2 (fun i hi => Or.inl hi)
  have at1 : sl w2 30 1 av E.length (timesV (E.map (·.2))) := h.at_.stay fun g e => C1.block g (h.at_.lt e) (fun hd => sl_apart h.done h.at_ (by decide) hd e)
  have hw1 := c1.size
  have hw2 := C1.size
  have hw3 := c2.size
  have hw4 := C2.size
  have hw := h.chg.size
  exact {
    chg := (h.chg.trans' C1 (fun i hi => Or.inr (h.dn i hi).1)).trans' C2 (fun i hi => Or.inr (h.an i hi).1)
    is := (h.is.stay C1 (fun i f hi => (h.dn i hi).2 f)).stay C2 (fun i f hi => (h.an i hi).2 f)
    fb := fun g f => ⟨(h.fb g f).1, by have := (h.fb g f).2; omega⟩
    inv := h.inv
    lim := h.lim
    mem := fun e he => by
      rcases List.mem_append.1 he with a | a
      · exact h.mem e a
      · rw [List.mem_singleton] at a; subst a; exact hp
    done := by
      rw [List.length_append, List.map_append]
      show sl w4 34 9 dv' (E.length + 1) (doneV (E.map (·.1) ++ [p]))
      rw [doneV_snoc]
      exact s1.stay fun g e => C2.block g (s1.lt e) (fun hd => sl_apart s1 at1 (by decide) e hd)
    at_ := by
      rw [List.length_append, List.map_append]
      show sl w4 30 1 av' (E.length + 1) (timesV (E.map (·.2) ++ [t]))
      have : timesV (E.map (·.2) ++ [t]) = timesV (E.map (·.2)) ++ [.int .u64 (t : Nat)] := by simp [timesV, nV]
      rw [this]
      exact s2
    dn := fun g e => by
      rcases a1 with a | a
      · exact h.dn g (by rw [← a]; exact e)
      · rw [a] at e; simp at e; subst e; exact ⟨by omega, fun f => by have := (h.fb _ f).2; omega⟩
    an := fun g e => by
      rcases a2 with a | a
      · exact h.an g (by rw [← a]; exact e)
      · rw [a] at e; simp at e; subst e; exact ⟨by omega, fun f => by have := (h.fb _ f).2; omega⟩
    apart := hap
    up := by
      rw [List.map_append, List.pairwise_append]
      refine ⟨h.up, by simp, fun x hx y hy => ?_⟩
      simp at hy
      subst hy
      exact hup x hx
    cnt := by rw [List.length_append]; simp; omega }
theorem ApAt.mid (h : ApAt w L b j dv av n E F wr) (c1 : Chg (fun _ => False) wr w1) (g1 : w1.grownBy w2 dv.ownBlock) {kb : Nat} {cs : Array Value} (hk : wr.heap[kb]? = some (.cells cs 40)) :
    w2.heap[kb]? = some (.cells cs 40) ∧ sl w2 30 1 av E.length (timesV (E.map (·.2))) := by
  have C1 : Chg (fun g => dv.ownBlock = some g) wr w2 := (c1.mono (fun _ f => f.elim)).grown g1 (fun i hi => Or.inl hi)
  refine ⟨(C1.block kb (Array.getElem?_eq_some_iff.1 hk).1 (fun hd => ?_)).trans hk, h.at_.stay fun g e => C1.block g (h.at_.lt e) (fun hd => sl_apart h.done h.at_ (by decide) hd e)⟩
  rcases h.done.2 with ⟨rfl, _⟩ | ⟨g1, c1, k1, rfl, b1, _⟩
  · simp [Value.ownBlock] at hd
  · simp [Value.ownBlock] at hd
    subst hd
    rw [b1] at hk
    simp at hk
/-- What a commit that was let in brings. -/
theorem ApAt.plain (h : ApAt w L b j dv av n E F wr) {p : OpM × OpL} (hk : p.1.k = 3) (hc : (applyM n p.1).2.code = 0) (ht : n.time < (applyM n p.1).2.commit) :
    (∀ e ∈ E, clashM e.1.1.keys p.1.keys = true → ¬ p.1.st < e.2) ∧ ApartI (applyM n p.1).1 ((E ++ [(p, (applyM n p.1).2.commit)]).map fun e => (e.1.1.keys, e.2)) ∧ ∀ x ∈ E.map (·.2), x < (applyM n p.1).2.commit := by
  have hm : mayM p.1 = true := by
    cases hm : mayM p.1 with
    | true => rfl
    | false => unfold applyM at hc; rw [if_neg (by rw [hm]; decide)] at hc; simp at hc
  refine ⟨fun e he hcl => ?_, ?_, fun x hx => ?_⟩
  · obtain ⟨k, h1, h2⟩ := clash_of hcl
    exact h.apart.free (commit_needs h.inv hm hk hc ht) (d := (e.1.1.keys, e.2)) (List.mem_map.2 ⟨e, he, rfl⟩) h1 h2
  · rw [List.map_append]
    exact (h.apart.add h.inv hm hk hc ht).1
  · obtain ⟨e, he, rfl⟩ := List.mem_map.1 hx
    have := (h.apart (e.1.1.keys, e.2) (List.mem_map.2 ⟨e, he, rfl⟩)).1
    exact Nat.lt_of_le_of_lt this ht
end
end Go.Proofs.Ytgmmglmokkcgeaa
