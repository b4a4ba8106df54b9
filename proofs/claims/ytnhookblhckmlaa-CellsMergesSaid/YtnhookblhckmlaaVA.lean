/- The merge's state, and its steps. -/
import Derived.Test.YtnhookblhckmlaaV9
namespace Go.Proofs.Ytnhookblhckmlaa
set_option linter.unusedVariables false
set_option linter.unusedSimpArgs false
open Go.RowKit Mk

/-- The box nb holds the slice of what is still to come of a list; both are of the blocks P. -/
structure RX (w : World) (P : Nat → Prop) (nb : Nat) (rest : List CellM) : Prop where
  is : ∃ so cap, w.heap[nb]? = some (.cells #[.slice so rest.length cap] 28) ∧ At w so rest ∧ rest.length ≤ cap ∧ cap ≤ maxLen ∧ ∀ g o, so = some ⟨g, o, none⟩ → P g ∧ ∃ cs f, w.heap[g]? = some (.cells cs 24 f)
  mine : P nb
theorem RX.lt {w : World} {P : Nat → Prop} {nb : Nat} {rest : List CellM} (h : RX w P nb rest) : nb < w.heap.size := by
  obtain ⟨so, cap, h1, _⟩ := h.is
  exact (Array.getElem?_eq_some_iff.1 h1).1
theorem RX.kind {w : World} {P : Nat → Prop} {nb : Nat} {rest : List CellM} (h : RX w P nb rest) : ∃ cs, w.heap[nb]? = some (.cells cs 28) := by
  obtain ⟨so, cap, h1, _⟩ := h.is
  exact ⟨_, h1⟩
theorem RX.stay {w w' : World} {P P' : Nat → Prop} {nb : Nat} {rest : List CellM} (h : RX w P nb rest) (hP : ∀ i, P i → i < w.heap.size → P' i) (hs : w.heap.size ≤ w'.heap.size)
    (k : ∀ i, P i → ((i = nb) ∨ ∃ cs f, w.heap[i]? = some (.cells cs 24 f)) → i < w.heap.size → w'.heap[i]? = w.heap[i]?) : RX w' P' nb rest := by
  obtain ⟨so, cap, h1, h2, h3, h4, h5⟩ := h.is
  have hl := h.lt
  refine ⟨⟨so, cap, (k nb h.mine (.inl rfl) hl).trans h1, h2.stay (fun g o e hg _ => k g (h5 g o e).1 (.inr (h5 g o e).2) hg) hs, h3, h4, fun g o e => ?_⟩, hP nb h.mine hl⟩
  obtain ⟨p, cs, f, hk⟩ := h5 g o e
  have hg := (Array.getElem?_eq_some_iff.1 hk).1
  exact ⟨hP g p hg, cs, f, (k g p (.inr ⟨cs, f, hk⟩) hg).trans hk⟩
/-- Its first cell taken. -/
theorem RX.tail {w w' : World} {P : Nat → Prop} {nb : Nat} {c : CellM} {rest : List CellM} (h : RX w P nb (c :: rest)) : ∃ g o cap, w.heap[nb]? = some (.cells #[.slice (some ⟨g, o, none⟩) (rest.length + 1) cap] 28) ∧ g < w.heap.size ∧
    w.cell? ⟨g, o, none⟩ = some (.string c.key) ∧ w.cell? ⟨g, o + 1, none⟩ = some (.int .u64 c.time) ∧ w.cell? ⟨g, o + 2, none⟩ = some (.bool c.del) ∧ w.cell? ⟨g, o + 3, none⟩ = some (.string c.val) ∧ rest.length + 1 ≤ cap ∧ cap ≤ maxLen ∧
    ∀ w', w'.heap[nb]? = some (.cells #[.slice (tlS g o cap) rest.length (cap - 1)] 28) → Chg (fun i => i = nb) w w' → RX w' P nb rest := by
  obtain ⟨so, cap, h1, h2, h3, h4, h5⟩ := h.is
  obtain ⟨g, o, e, hg, c0, c1, c2, c3⟩ := h2.2 0 c rfl
  subst e
  simp only [Nat.zero_mul, Nat.add_zero] at c0 c1 c2 c3
  simp only [List.length_cons] at h1 h3
  obtain ⟨p, cs, f, hk⟩ := h5 g o rfl
  have hne : g ≠ nb := fun e => by rw [e, h1] at hk; cases hk
  refine ⟨g, o, cap, h1, hg, c0, c1, c2, c3, h3, h4, fun w' hb hc => ?_⟩
  have hkeep : w'.heap[g]? = w.heap[g]? := hc.block g hg hne
  refine ⟨⟨_, _, hb, ⟨by have := h2.1; simp at this; omega, fun i x hx => ?_⟩, by omega, by omega, fun g2 o2 e2 => ?_⟩, h.mine⟩
  · have hcap : cap ≠ 1 := fun e => by
      have := (List.getElem?_eq_some_iff.1 hx).1
      omega
    obtain ⟨g3, o3, e3, hg3, d0, d1, d2, d3⟩ := h2.2 (i + 1) x (by simpa using hx)
    cases e3
    have ee : o + (i + 1) * 4 = o + 4 + i * 4 := by omega
    rw [ee] at d0 d1 d2 d3
    refine ⟨g, o + 4, by simp [tlS, hcap], Nat.lt_of_lt_of_le hg hc.size, ?_, ?_, ?_, ?_⟩
    · rw [cell_block hkeep]; exact d0
    · rw [cell_block hkeep]; exact d1
    · rw [cell_block hkeep]; exact d2
    · rw [cell_block hkeep]; exact d3
  · have : g2 = g := by
      unfold tlS at e2
      split at e2 <;> (cases e2; rfl)
    subst this
    exact ⟨p, cs, f, hkeep.trans hk⟩
/-- The merge under way: the heads, and what is still to come of each list. -/
structure MgAt (P : Nat → Prop) (hb : Nat) (v : Value) (H : List HdM) (rem : List (List CellM)) (w : World) : Prop where
  hx : HX w hb v H
  phb : P hb
  pv : ∀ g, v.ownBlock = some g → P g
  heads : ∀ h ∈ H, ∃ rest, rem[h.fr]? = some (h.c :: rest) ∧ RX w P h.nb rest
  all : ∀ i c rest, rem[i]? = some (c :: rest) → ∃ h ∈ H, h.fr = i
  apart : H.Pairwise (fun a b => a.fr ≠ b.fr ∧ a.nb ≠ b.nb)
theorem HX.kindv {w : World} {hb : Nat} {v : Value} {H : List HdM} (h : HX w hb v H) {g : Nat} (hg : v.ownBlock = some g) : ∃ cs, w.heap[g]? = some (.cells cs 90) := by
  rcases h.has.2 with ⟨rfl, _⟩ | ⟨g', cap, cur, rfl, hh, _⟩
  · cases hg
  · cases hg; exact ⟨_, hh⟩
theorem MgAt.stay {P P' : Nat → Prop} {hb : Nat} {v : Value} {H : List HdM} {rem : List (List CellM)} {w w' : World} (h : MgAt P hb v H rem w) (hP : ∀ i, P i → i < w.heap.size → P' i) (hs : w.heap.size ≤ w'.heap.size)
    (k : ∀ i, P i → i < w.heap.size → w'.heap[i]? = w.heap[i]?) : MgAt P' hb v H rem w' := by
  refine ⟨⟨(k hb h.phb h.hx.lt).trans h.hx.blk, sl.stay h.hx.has (fun g hg => k g (h.pv g hg) (sl.lt h.hx.has hg)), h.hx.apart⟩, hP hb h.phb h.hx.lt, fun g hg => hP g (h.pv g hg) (sl.lt h.hx.has hg), fun x hx => ?_, h.all, h.apart⟩
  obtain ⟨rest, e, hr⟩ := h.heads x hx
  exact ⟨rest, e, hr.stay hP hs (fun i p _ hi => k i p hi)⟩
theorem MgAt.below {P : Nat → Prop} {hb : Nat} {v : Value} {H : List HdM} {rem : List (List CellM)} {w w' : World} (h : MgAt P hb v H rem w) (k : RowKit.Below w.heap.size w w') : MgAt P hb v H rem w' :=
  h.stay (fun _ p _ => p) k.size (fun i _ hi => k.block i hi)
/-- The heads moved about. -/
theorem MgAt.perm {P : Nat → Prop} {hb : Nat} {v : Value} {H H' : List HdM} {rem : List (List CellM)} {w w' : World} (h : MgAt P hb v H rem w) (hx : HX w' hb v H') (hp : H'.Perm H) (hc : Chg (fun g => v.ownBlock = some g) w w') : MgAt P hb v H' rem w' := by
  refine ⟨hx, h.phb, h.pv, fun x hx' => ?_, fun i c rest e => ?_, ?_⟩
  · obtain ⟨rest, e, hr⟩ := h.heads x (hp.mem_iff.1 hx')
    refine ⟨rest, e, hr.stay (fun _ p _ => p) hc.size (fun i p hk hi => hc.block i hi (fun e => ?_))⟩
    obtain ⟨cs, h90⟩ := h.hx.kindv e
    rcases hk with rfl | ⟨cs2, f, h24⟩
    · obtain ⟨cs3, h28⟩ := hr.kind
      rw [h90] at h28; cases h28
    · rw [h90] at h24; cases h24
  · obtain ⟨x, hx', e2⟩ := h.all i c rest e
    exact ⟨x, hp.mem_iff.2 hx', e2⟩
  · exact (hp.pairwise_iff (fun {a b} hab => ⟨Ne.symm hab.1, Ne.symm hab.2⟩)).2 h.apart
/-- The root has none behind it: it is taken off. -/
theorem MgAt.pop {P : Nat → Prop} {hb : Nat} {v v' : Value} {x : HdM} {H H' : List HdM} {rem : List (List CellM)} {w w' : World} (h : MgAt P hb v H rem w) (hx : HX w' hb v' H') (hp : (x :: H').Perm H) (hv : v'.ownBlock = v.ownBlock)
    (hc : Chg (fun g => g = hb ∨ v.ownBlock = some g) w w') : MgAt P hb v' H' (rem.set x.fr []) w' := by
  have hpw := (hp.pairwise_iff (R := fun (a b : HdM) => a.fr ≠ b.fr ∧ a.nb ≠ b.nb) (fun {a b} hab => ⟨Ne.symm hab.1, Ne.symm hab.2⟩)).2 h.apart
  obtain ⟨h1, h2⟩ := List.pairwise_cons.1 hpw
  refine ⟨hx, h.phb, fun g hg => h.pv g (by rw [← hv]; exact hg), fun y hy => ?_, fun i c rest e => ?_, h2⟩
  · obtain ⟨rest, e, hr⟩ := h.heads y (hp.mem_iff.1 (List.mem_cons_of_mem _ hy))
    refine ⟨rest, by rw [List.getElem?_set_ne (h1 y hy).1]; exact e, hr.stay (fun _ p _ => p) hc.size (fun i p hk hi => hc.block i hi (fun e => ?_))⟩
    rcases e with rfl | e
    · have h85 := h.hx.blk
      rcases hk with rfl | ⟨cs2, f, h24⟩
      · obtain ⟨cs3, h28⟩ := hr.kind
        rw [h85] at h28; cases h28
      · rw [h85] at h24; cases h24
    · obtain ⟨cs, h90⟩ := h.hx.kindv e
      rcases hk with rfl | ⟨cs2, f, h24⟩
      · obtain ⟨cs3, h28⟩ := hr.kind
        rw [h90] at h28; cases h28
      · rw [h90] at h24; cases h24
  · by_cases e2 : x.fr = i
    · subst e2
      rw [List.getElem?_set] at e
      split at e
      · split at e <;> cases e
      · rename_i h; exact absurd rfl h
    · rw [List.getElem?_set_ne e2] at e
      obtain ⟨y, hy, e3⟩ := h.all i c rest e
      rcases List.mem_cons.1 (hp.mem_iff.2 hy) with rfl | hy2
      · exact absurd e3 e2
      · exact ⟨y, hy2, e3⟩
/-- The root's next cell laid. -/
theorem MgAt.next {P : Nat → Prop} {hb : Nat} {v : Value} {x : HdM} {H : List HdM} {rem : List (List CellM)} {w w3 w4 : World} {c : CellM} {rest : List CellM} (h : MgAt P hb v (x :: H) rem w) (hr3 : RX w3 P x.nb rest) (hc : Chg (fun i => i = x.nb) w w3)
    (hB : HB w4 v (⟨c, x.fr, x.nb⟩ :: H)) (hc4 : Chg (fun i => v.ownBlock = some i) w3 w4) : MgAt P hb v (⟨c, x.fr, x.nb⟩ :: H) (rem.set x.fr (c :: rest)) w4 := by
  obtain ⟨h1, h2⟩ := List.pairwise_cons.1 h.apart
  obtain ⟨rest0, e0, hr0⟩ := h.heads x (List.mem_cons_self ..)
  obtain ⟨cs0, k0⟩ := hr0.kind
  have hlen := (List.getElem?_eq_some_iff.1 e0).1
  have hbne : hb ≠ x.nb := fun e => by have := h.hx.blk; rw [e, k0] at this; cases this
  have key : ∀ i, i < w.heap.size → i ≠ x.nb → v.ownBlock ≠ some i → w4.heap[i]? = w.heap[i]? := fun i hi h1 h2 => (hc4.block i (Nat.lt_of_lt_of_le hi hc.size) h2).trans (hc.block i hi h1)
  have nv : ∀ i cs t f, w.heap[i]? = some (.cells cs t f) → t ≠ 90 → v.ownBlock ≠ some i := fun i cs t f hi ht e => by
    obtain ⟨cs2, k⟩ := h.hx.kindv e
    rw [k] at hi
    exact ht (by injection hi with a; injection a with _ b _; exact b.symm)
  refine ⟨⟨(key hb h.hx.lt hbne h.hx.apart).trans h.hx.blk, hB, h.hx.apart⟩, h.phb, h.pv, fun y hy => ?_, fun i c' rest' e => ?_, List.pairwise_cons.2 ⟨h1, h2⟩⟩
  · rcases List.mem_cons.1 hy with rfl | hy
    · refine ⟨rest, by simp [hlen], hr3.stay (fun _ p _ => p) hc4.size (fun i p hk hi => hc4.block i hi (fun e => ?_))⟩
      have hiw : i < w.heap.size := sl.lt h.hx.has e
      obtain ⟨cs2, k⟩ := h.hx.kindv e
      rcases hk with rfl | ⟨cs3, f, h24⟩
      · rw [k0] at k; cases k
      · have hne : i ≠ x.nb := fun e2 => by rw [e2, k0] at k; cases k
        rw [hc.block i hiw hne, k] at h24; cases h24
    · obtain ⟨rest', e, hr⟩ := h.heads y (List.mem_cons_of_mem _ hy)
      refine ⟨rest', by rw [List.getElem?_set_ne (h1 y hy).1]; exact e, hr.stay (fun _ p _ => p) (Nat.le_trans hc.size hc4.size) (fun i p hk hi => ?_)⟩
      rcases hk with rfl | ⟨cs3, f, h24⟩
      · obtain ⟨cs3, k3⟩ := hr.kind
        exact key _ hi (Ne.symm (h1 y hy).2) (nv _ _ _ _ k3 (by decide))
      · exact key i hi (fun e2 => by rw [e2, k0] at h24; cases h24) (nv _ _ _ _ h24 (by decide))
  · by_cases e2 : x.fr = i
    · exact ⟨_, List.mem_cons_self .., e2⟩
    · rw [List.getElem?_set_ne e2] at e
      obtain ⟨y, hy, e3⟩ := h.all i c' rest' e
      rcases List.mem_cons.1 hy with rfl | hy
      · exact absurd e3 e2
      · exact ⟨y, List.mem_cons_of_mem _ hy, e3⟩
/-- The root of the heap is the least of the fronts. -/
theorem MgAt.step {P : Nat → Prop} {hb : Nat} {v : Value} {x : HdM} {H : List HdM} {rem : List (List CellM)} {w : World} (h : MgAt P hb v (x :: H) rem w) (hf : HeapFrom (x :: H) 0 (x :: H).length) (ho : ∀ l ∈ rem, Ord l) :
    ∃ rest, rem[x.fr]? = some (x.c :: rest) ∧ RX w P x.nb rest ∧ mergeM rem = x.c :: less0 x.c (mergeM (rem.set x.fr rest)) := by
  obtain ⟨rest, e, hr⟩ := h.heads x (List.mem_cons_self ..)
  refine ⟨rest, e, hr, mergeM_step ho e (fun j d l hj => ?_)⟩
  obtain ⟨y, hy, rfl⟩ := h.all j d l hj
  obtain ⟨rest', e', _⟩ := h.heads y hy
  rw [hj] at e'
  cases e'
  obtain ⟨k, hk⟩ := List.getElem?_of_mem hy
  have := hf.least (a := x) rfl k (List.getElem?_eq_some_iff.1 hk).1 y hk
  exact (leH_iff _ _).1 this
theorem MgAt.done {P : Nat → Prop} {hb : Nat} {v : Value} {rem : List (List CellM)} {w : World} (h : MgAt P hb v [] rem w) : mergeM rem = [] := mergeM_nil (fun l hl => by
  obtain ⟨i, hi⟩ := List.getElem?_of_mem hl
  cases l with
  | nil => rfl
  | cons c rest =>
    obtain ⟨y, hy, _⟩ := h.all i c rest hi
    cases hy)
theorem less0_less0 {c d : CellM} (h : cmpM d c = 0) (L : List CellM) : less0 d (c :: less0 c L) = less0 d L := by
  rw [less0_same h, less0_same h L]
  unfold less0
  rw [List.dropWhile_cons_of_pos (by simp [cmpM_self])]
  induction L with
  | nil => rfl
  | cons a L ih =>
    by_cases e : cmpM c a = 0
    · rw [List.dropWhile_cons_of_pos (by simp [e])]; exact ih
    · rw [List.dropWhile_cons_of_neg (by simp [e]), List.dropWhile_cons_of_neg (by simp [e])]
theorem less0_cons {c d : CellM} (h : cmpM d c ≠ 0) (L : List CellM) : less0 d (c :: L) = c :: L := by
  unfold less0
  rw [List.dropWhile_cons_of_neg (by simp [h])]
/-- The least number of which P holds. -/
theorem least_ex {P : Nat → Prop} (h : ∃ n, P n) : ∃ n, P n ∧ ∀ m, P m → n ≤ m := by
  obtain ⟨n, hn⟩ := h
  induction n using Nat.strongRecOn with
  | ind n ih =>
    by_cases hm : ∃ m, m < n ∧ P m
    · obtain ⟨m, h1, h2⟩ := hm
      exact ih m h1 h2
    · exact ⟨n, hn, fun m h => by
        by_cases hl : m < n
        · exact absurd ⟨m, hl, h⟩ hm
        · omega⟩
open Classical in
noncomputable def leastN (P : Nat → Prop) : Nat := if h : ∃ n, P n then (least_ex h).choose else 0
theorem leastN_is {P : Nat → Prop} (h : ∃ n, P n) : P (leastN P) := by
  unfold leastN
  rw [dif_pos h]
  exact (least_ex h).choose_spec.1
theorem leastN_le {P : Nat → Prop} {n : Nat} (h : P n) : leastN P ≤ n := by
  unfold leastN
  rw [dif_pos ⟨n, h⟩]
  exact (least_ex ⟨n, h⟩).choose_spec.2 n h
end Go.Proofs.Ytnhookblhckmlaa
