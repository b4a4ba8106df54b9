/- The document's Copy: a region in whatever order. -/
import Derived.Test.YtjflkmihkfbgpaaXb
import Derived.Orders
namespace Go.Proofs.Ytjflkmihkfbgpaa
open Go.RowKit Mk
set_option linter.unusedVariables false
set_option linter.unusedSimpArgs false

/-- How many have not come up. -/
def unl (listed : Array Bool) : Nat := listed.toList.countP (fun b => !b)
theorem unl_set {listed : Array Bool} {i : Nat} (h : listed.getD i true = false) : unl (listed.setIfInBounds i true) + 1 = unl listed := by
  have hi : i < listed.size := by
    rcases Nat.lt_or_ge i listed.size with h' | h'
    · exact h'
    · simp [Array.getD, Nat.not_lt.2 h'] at h
  have hv : listed[i] = false := by simpa [Array.getD, hi] using h
  unfold unl
  rw [Array.toList_setIfInBounds]
  have key : ∀ (l : List Bool) (i : Nat) (h : i < l.length), l[i] = false → (l.set i true).countP (fun b => !b) + 1 = l.countP (fun b => !b) := by
    intro l
    induction l with
    | nil => intro i h; simp at h
    | cons b l ih =>
      intro i h hb
      cases i with
      | zero => simp at hb; subst hb; simp [List.countP_cons]
      | succ i =>
        simp only [List.set_cons_succ, List.countP_cons]
        have := ih i (by simpa using h) (by simpa using hb)
        omega
  exact key listed.toList i (by simpa using hi) (by simpa using hv)
theorem unl_zero {listed : Array Bool} (h : unl listed = 0) (i : Nat) : listed.getD i true = true := by
  unfold unl at h
  rw [List.countP_eq_zero] at h
  rcases Nat.lt_or_ge i listed.size with h' | h'
  · have := h listed[i] (by simp)
    simpa [Array.getD, h'] using this
  · simp [Array.getD, Nat.not_lt.2 h']

section
variable {P : Program} {ops : Array Oper} {Q : Exit → Act → World → Prop} {md : Region.Mode}
/-- A region in whatever order, by what holds of each state that is reached. -/
theorem wpAny_inv {I : Array Bool → Act → World → Prop}
    (hs : ∀ listed a w, I listed a w → ∀ i, i < ops.size → listed.getD i true = false → (∀ o, ops[i]? = some o → ∀ e ∈ o.after, Region.binds md e = true → listed.getD e.on false = true) → wpOp P ops Q i (I (listed.setIfInBounds i true)) a w)
    (hd : ∀ listed a w, I listed a w → (∀ i, i < ops.size → listed.getD i true = true) → Q .normal a w)
    (ht : ∀ (i : Nat) (o : Oper), ops[i]? = some o → ∀ e ∈ o.after, e.on < i) (hz : ∀ listed a w, I listed a w → listed.size = ops.size) :
    ∀ fuel listed a w, I listed a w → unl listed ≤ fuel → wpAny P md ops Q fuel listed a w := by
  have hall : ∀ listed a w, I listed a w → Region.ready md ops listed = [] → ∀ i, i < ops.size → listed.getD i true = true := by
    intro listed a w hI h0 i
    induction i using Nat.strongRecOn with
    | ind i ih =>
      intro hi
      cases hc : listed.getD i true with
      | true => rfl
      | false =>
        exfalso
        have hm : i ∈ Region.ready md ops listed := by
          rw [mem_ready]
          refine ⟨hc, ops[i], Array.getElem?_eq_getElem hi, fun e he _ => ?_⟩
          have hlt := ht i ops[i] (Array.getElem?_eq_getElem hi) e he
          have h1 := ih e.on hlt (by omega)
          have hsz := hz listed a w hI
          have h2 : e.on < listed.size := by omega
          simp only [Array.getD, h2, dif_pos] at h1 ⊢
          exact h1
        rw [h0] at hm
        cases hm
  intro fuel
  induction fuel with
  | zero =>
    intro listed a w hI hu
    have hf : ∀ i, listed.getD i true = true := unl_zero (by omega)
    refine ⟨?_, hd listed a w hI (fun i _ => hf i)⟩
    cases hr : Region.ready md ops listed with
    | nil => rfl
    | cons i l =>
      have hm : i ∈ Region.ready md ops listed := by rw [hr]; simp
      have := (mem_ready.1 hm).1
      rw [hf i] at this
      cases this
  | succ fuel ih =>
    intro listed a w hI hu
    refine ⟨fun h0 => hd listed a w hI (hall listed a w hI h0), fun i hi => ?_⟩
    obtain ⟨hc, o, ho, hdep⟩ := mem_ready.1 hi
    exact wpOp_mono (fun a' w' h => ih _ a' w' h (by have := unl_set hc; omega)) (hs listed a w hI i (Array.getElem?_eq_some_iff.1 ho).1 hc (fun o' ho' => by rw [ho] at ho'; cases ho'; exact hdep))
theorem wpOp_of {i : Nat} {o : Oper} {a : Act} {w w' : World} {K : Act → World → Prop} {v : Value} (ho : ops[i]? = some o) (hw : Region.wanted o (yielded ops a.tmps) = true) (hrun : (execOp a.eval o).run P w = .ok (.value v) w') (hK : K (a.put o.dst v) w') : wpOp P ops Q i K a w := by
  unfold wpOp
  rw [ho]
  simp only [hw, if_true]
  refine Or.inl ?_
  unfold Oper.wp
  rw [hrun]
  exact hK
end
theorem wpOp_wp {P : Program} {ops : Array Oper} {Q : Exit → Act → World → Prop} {i : Nat} {o : Oper} {a : Act} {w : World} {K : Act → World → Prop} (ho : ops[i]? = some o) (hw : Region.wanted o (yielded ops a.tmps) = true) (h : o.wp P a w K Q) : wpOp P ops Q i K a w := by
  unfold wpOp
  rw [ho]
  simp only [hw, if_true]
  exact Or.inl h
theorem region_gen {P : Program} {ops : Array Oper} {Q : Exit → Act → World → Prop} {id : Nat} {a : Act} {w : World} (hm : P.follows .mixedOrders = true) (h : ∀ ops', ops = ops' → wpAny P .any ops' Q ops'.size (Array.replicate ops'.size false) a w.drew) : (Code.region id ops true).wp P Q a w := wp_region_any hm (h ops rfl)
def topo (ops : Array Oper) : Bool := (List.range ops.size).all fun i => ((ops[i]?).map fun o => o.after.all fun e => decide (e.on < i)).getD true
theorem topo_spec {ops : Array Oper} (h : topo ops = true) : ∀ (i : Nat) (o : Oper), ops[i]? = some o → ∀ e ∈ o.after, e.on < i := by
  intro i o ho e he
  unfold topo at h
  rw [List.all_eq_true] at h
  have := h i (by simp [(Array.getElem?_eq_some_iff.1 ho).1])
  rw [ho] at this
  simp only [Option.map_some, Option.getD_some] at this
  rw [Array.all_eq_true_iff_forall_mem] at this
  simpa using this e he
theorem rep_false (N k : Nat) : (Array.replicate N false).getD k false = false := by
  rw [Array.getD_eq_getD_getElem?]
  by_cases h : k < N
  · simp [h]
  · simp [h]
theorem gl (listed : Array Bool) {i : Nat} (hi : i < listed.size) (k : Nat) (b : Bool) : (listed.setIfInBounds i true).getD k b = if k = i then true else listed.getD k b := by
  by_cases e : k = i
  · subst e; simp [Array.getD, hi]
  · rw [if_neg e]
    rw [Array.getD_eq_getD_getElem?, Array.getD_eq_getD_getElem?, Array.getElem?_setIfInBounds_ne (Ne.symm e)]
theorem gt (a : Act) {d : Nat} (hd : d < a.tmps.size) (v : Value) (k : Nat) : (a.put (some d) v).tmps.getD k undef = if k = d then v else a.tmps.getD k undef := by
  unfold Act.put
  simp only
  by_cases e : k = d
  · subst e; simp [Array.getD, hd]
  · rw [if_neg e]
    rw [Array.getD_eq_getD_getElem?, Array.getD_eq_getD_getElem?, Array.getElem?_setIfInBounds_ne (Ne.symm e)]
theorem bool_of {listed : Array Bool} {i : Nat} (hs : i < listed.size) (h : listed.getD i true = false) : listed.getD i false = false := by
  simp only [Array.getD, hs, dif_pos] at h ⊢
  exact h

theorem ocells_one (T : List Thing) : ∀ u ∈ ocells T, u.oneCell' = true := by
  intro u hu
  unfold ocells at hu
  obtain ⟨t, _, hu⟩ := List.mem_flatMap.1 hu
  simp only [opL, List.mem_cons, List.not_mem_nil, or_false] at hu
  rcases hu with rfl | rfl | rfl | rfl <;> rfl
theorem sl_src {w : World} {e : TypeId} {size n c : Nat} {lo : Option Addr} {xs : List Value} (h : sl w e size (.slice lo n c) n xs) : (0 < n → ∃ a, lo = some a ∧ ∀ j u, xs[j]? = some u → w.cell? (a.add j) = some u) ∧ (n = 0 → lo = none → c = 0) := by
  refine ⟨fun h0 => ?_, fun h0 e => ?_⟩
  · rcases h.2 with ⟨e, e0⟩ | ⟨g, cap, cur, e, hg, _⟩
    · omega
    · simp only [Value.slice.injEq] at e
      obtain ⟨rfl, -, rfl⟩ := e
      refine ⟨_, rfl, fun j u hj => ?_⟩
      obtain ⟨g', cap', e1, e2⟩ := sl.cell h hj
      cases e1
      by_cases hj0 : j = 0
      · subst hj0; exact e2
      · simpa [Addr.add, hj0] using e2
  · rcases h.2 with ⟨e', _⟩ | ⟨g, cap, cur, e', hg, _⟩
    · simp only [Value.slice.injEq] at e'; exact e'.2.2
    · simp only [Value.slice.injEq] at e'; rw [e] at e'; simp at e'
def cE : Nat → TypeId
  | 1 => 68
  | _ => 73
def cS : Nat → Nat
  | 1 => 4
  | _ => 2
def cL (r : RefM) : Nat → Nat
  | 0 => r.K.length
  | 1 => r.T.length
  | _ => r.N.length
def cX (r : RefM) : Nat → List Value
  | 0 => fcells r.K
  | 1 => ocells r.T
  | _ => fcells r.N
/-- Where the document's disk lies. -/
structure RLay where
  ko : Option Addr
  kc : Nat
  oo : Option Addr
  oc : Nat
  no : Option Addr
  nc : Nat
def pval (x : Nat) (R : RLay) (r : RefM) : Nat → Option Value
  | 0 | 1 | 2 | 5 | 6 | 11 | 12 | 17 | 18 => some (.pointer (some ⟨x, 0, none⟩))
  | 7 => some (.pointer (some ⟨x, 1, none⟩))
  | 13 => some (.pointer (some ⟨x, 2, none⟩))
  | 19 => some (.pointer (some ⟨x, 3, none⟩))
  | 3 => some (.int .i64 r.room)
  | 8 => some (.slice R.ko r.K.length R.kc)
  | 14 => some (.slice R.oo r.T.length R.oc)
  | 20 => some (.slice R.no r.N.length R.nc)
  | _ => none
/-- An empty slice of a chain, made. -/
def BS (w0 : World) (c : Nat) (v : Value) (w : World) : Prop := ∃ g, v = .slice (some ⟨g, 0, none⟩) 0 0 ∧ w.heap[g]? = some (.cells #[] (cE c)) ∧ w0.heap.size ≤ g
/-- A chain's copy. -/
def AP (w0 : World) (r : RefM) (c : Nat) (v : Value) (w : World) : Prop := ∃ lo lc, v = .slice lo (cL r c) lc ∧ sl w (cE c) (cS c) (.slice lo (cL r c) lc) (cL r c) (cX r c) ∧ (∀ g, (Value.slice lo (cL r c) lc).ownBlock = some g → w0.heap.size ≤ g)
def four (r : RefM) (t : Nat → Value) : Array Value := #[.int .i64 r.room, t 12, t 18, t 24]
/-- The row that a chain has. -/
def Own (listed : Array Bool) (a : Act) (c g : Nat) : Prop :=
  (listed.getD (9 + 6 * c) false = true ∧ (a.tmps.getD (12 + 6 * c) undef).ownBlock = some g) ∨ (listed.getD (9 + 6 * c) false = false ∧ listed.getD (4 + 6 * c) false = true ∧ (a.tmps.getD (7 + 6 * c) undef).ownBlock = some g)
structure CI (w0 : World) (x : Nat) (R : RLay) (r : RefM) (listed : Array Bool) (a : Act) (w : World) : Prop where
  size : listed.size = 25
  dfr : a.defers = []
  tsz : a.tmps.size = 27
  t0 : a.tmps.getD 0 undef = .pointer (some ⟨x, 0, none⟩)
  chg : Chg (fun _ => False) w0 w
  p : ∀ k v, pval x R r k = some v → listed.getD k false = true → a.tmps.getD (k + 3) undef = v
  b : ∀ c, c < 3 → listed.getD (4 + 6 * c) false = true → listed.getD (9 + 6 * c) true = false → BS w0 c (a.tmps.getD (7 + 6 * c) undef) w
  ap : ∀ c, c < 3 → listed.getD (9 + 6 * c) false = true → AP w0 r c (a.tmps.getD (12 + 6 * c) undef) w
  dis : ∀ c c' g g', c < 3 → c' < 3 → c ≠ c' → Own listed a c g → Own listed a c' g' → g ≠ g'
  bld : listed.getD 22 false = true → (∀ c, c < 3 → listed.getD (9 + 6 * c) false = true) ∧ a.tmps.getD 25 undef = .agg (four r fun i => a.tmps.getD i undef)
  box : listed.getD 23 false = true → listed.getD 22 false = true ∧ ∃ y, a.tmps.getD 26 undef = .pointer (some ⟨y, 0, none⟩) ∧ w.heap[y]? = some (.cells (four r fun i => a.tmps.getD i undef) 42) ∧ w0.heap.size ≤ y
  asg : listed.getD 24 false = true → listed.getD 23 false = true ∧ a.tmps.getD 2 undef = a.tmps.getD 26 undef
def slotOf (i : Nat) : Nat := if i = 24 then 2 else i + 3
theorem false_true {listed : Array Bool} {i : Nat} (hs : i < listed.size) (h : listed.getD i false = false) : listed.getD i true = false := by
  simp only [Array.getD, hs, dif_pos] at h ⊢
  exact h
theorem CI.lt {w0 w : World} {x : Nat} {R : RLay} {r : RefM} {listed : Array Bool} {a : Act} (h : CI w0 x R r listed a w) {c g : Nat} (hc : c < 3) (ho : Own listed a c g) : g < w.heap.size := by
  rcases ho with ⟨h1, h2⟩ | ⟨h1, h2, h3⟩
  · obtain ⟨lo, lc, e, hs, -⟩ := h.ap c hc h1
    rw [e] at h2
    exact sl.lt hs h2
  · obtain ⟨g', e, hg, -⟩ := h.b c hc h2 (false_true (by rw [h.size]; omega) h1)
    rw [e] at h3
    simp only [Value.ownBlock, Option.some.injEq] at h3
    subst h3
    exact (Array.getElem?_eq_some_iff.1 hg).1
theorem CI.step {w0 : World} {x : Nat} {R : RLay} {r : RefM} {listed : Array Bool} {a : Act} {w w' : World} (h : CI w0 x R r listed a w) {i : Nat} (hi : i < 25) (hun : listed.getD i true = false) {v : Value} {T : Nat → Prop}
    (hc : Chg (fun _ => False) w0 w') (hm : ∀ g o, w.heap[g]? = some o → ¬ T g → w'.heap[g]? = some o) (hT : ∀ g, T g → ∃ c, c < 3 ∧ i = 9 + 6 * c ∧ Own listed a c g)
    (hp : ∀ v', pval x R r i = some v' → v = v') (hb : ∀ c, c < 3 → i = 4 + 6 * c → BS w0 c v w' ∧ ∀ g, v.ownBlock = some g → w.heap.size ≤ g) (ha : ∀ c, c < 3 → i = 9 + 6 * c → AP w0 r c v w' ∧ ∀ g, v.ownBlock = some g → Own listed a c g ∨ w.heap.size ≤ g)
    (h22 : i = 22 → (∀ c, c < 3 → listed.getD (9 + 6 * c) false = true) ∧ v = .agg (four r fun i => a.tmps.getD i undef))
    (h23 : i = 23 → listed.getD 22 false = true ∧ ∃ y, v = .pointer (some ⟨y, 0, none⟩) ∧ w'.heap[y]? = some (.cells (four r fun i => a.tmps.getD i undef) 42) ∧ w0.heap.size ≤ y)
    (h24 : i = 24 → listed.getD 23 false = true ∧ v = a.tmps.getD 26 undef) :
    CI w0 x R r (listed.setIfInBounds i true) (a.put (some (slotOf i)) v) w' := by
  have hil : i < listed.size := by rw [h.size]; exact hi
  have hun' := bool_of hil hun
  have hsl : slotOf i < a.tmps.size := by rw [h.tsz]; unfold slotOf; split <;> omega
  have hs30 : i = 24 ∧ slotOf i = 2 ∨ i ≠ 24 ∧ slotOf i = i + 3 := by
    unfold slotOf
    by_cases e : i = 24
    · exact Or.inl ⟨e, by rw [if_pos e]⟩
    · exact Or.inr ⟨e, by rw [if_neg e]⟩
  have hkeep : ∀ k, listed.getD k false = true → (listed.setIfInBounds i true).getD k false = true := fun k hk => by
    rw [gl _ hil]
    by_cases e : k = i
    · rw [if_pos e]
    · rw [if_neg e]; exact hk
  have hrow : ∀ c, c < 3 → i ≠ 9 + 6 * c → listed.getD (9 + 6 * c) false = true → AP w0 r c (a.tmps.getD (12 + 6 * c) undef) w → AP w0 r c (a.tmps.getD (12 + 6 * c) undef) w' := by
    rintro c hc4 hic hl ⟨lo, lc, e, hs, ho⟩
    refine ⟨lo, lc, e, sl.stay hs (fun g hg => ?_), ho⟩
    obtain ⟨cur, hcur⟩ : ∃ o, w.heap[g]? = some o := ⟨_, Array.getElem?_eq_getElem (sl.lt hs hg)⟩
    rw [hcur]
    refine hm g _ hcur (fun t => ?_)
    obtain ⟨c', hc', hi', ho'⟩ := hT g t
    exact h.dis c c' g g hc4 hc' (fun e2 => hic (by rw [e2]; exact hi')) (Or.inl ⟨hl, by rw [e]; exact hg⟩) ho' rfl
  have hown : ∀ c g, c < 3 → Own (listed.setIfInBounds i true) (a.put (some (slotOf i)) v) c g → Own listed a c g ∨ (w.heap.size ≤ g ∧ (i = 4 + 6 * c ∨ i = 9 + 6 * c)) := by
    intro c g hc3 ho
    unfold Own at ho
    rw [gl _ hil, gl _ hil, gt a hsl, gt a hsl] at ho
    by_cases e9 : 9 + 6 * c = i
    · rw [if_pos e9, if_pos (show 12 + 6 * c = slotOf i by omega)] at ho
      rcases ho with ⟨-, ho⟩ | ⟨ho, -⟩
      · rcases (ha c hc3 e9.symm).2 g ho with h1 | h1
        · exact Or.inl h1
        · exact Or.inr ⟨h1, Or.inr e9.symm⟩
      · cases ho
    · rw [if_neg e9, if_neg (show ¬ 12 + 6 * c = slotOf i by omega)] at ho
      by_cases e4 : 4 + 6 * c = i
      · rw [if_pos e4, if_pos (show 7 + 6 * c = slotOf i by omega)] at ho
        rcases ho with ho | ⟨h1, -, h2⟩
        · exact Or.inl (Or.inl ho)
        · exact Or.inr ⟨(hb c hc3 e4.symm).2 g h2, Or.inl e4.symm⟩
      · rw [if_neg e4, if_neg (show ¬ 7 + 6 * c = slotOf i by omega)] at ho
        exact Or.inl ho
  have hfour : listed.getD 22 false = true → four r (fun k => (a.put (some (slotOf i)) v).tmps.getD k undef) = four r (fun k => a.tmps.getD k undef) := by
    intro h2
    have hap := (h.bld h2).1
    have q0 := hap 0 (by omega)
    have q1 := hap 1 (by omega)
    have q2 := hap 2 (by omega)
    have k0 : i ≠ 9 := fun e => by subst e; rw [hun'] at q0; cases q0
    have k1 : i ≠ 15 := fun e => by subst e; rw [hun'] at q1; cases q1
    have k2 : i ≠ 21 := fun e => by subst e; rw [hun'] at q2; cases q2
    unfold four
    simp only [gt a hsl]
    rw [if_neg (by omega), if_neg (by omega), if_neg (by omega)]
  refine ⟨by rw [Array.size_setIfInBounds]; exact h.size, by simpa [Act.put] using h.dfr, by simpa [Act.put] using h.tsz, ?_, hc, ?_, ?_, ?_, ?_, ?_, ?_, ?_⟩
  · rw [gt a hsl, if_neg (by omega)]; exact h.t0
  · intro k u hk hl
    rw [gl _ hil] at hl
    have hk30 : k ≠ 24 := fun e => by subst e; simp [pval] at hk
    rw [gt a hsl]
    by_cases e : k = i
    · subst e
      rw [if_pos (by omega)]
      exact hp u hk
    · rw [if_neg e] at hl
      rw [if_neg (by omega)]
      exact h.p k u hk hl
  · intro c hc4 hl hl2
    rw [gl _ hil] at hl hl2
    rw [gt a hsl]
    by_cases e : 9 + 6 * c = i
    · rw [if_pos e] at hl2; cases hl2
    · rw [if_neg e] at hl2
      by_cases e2 : 4 + 6 * c = i
      · rw [if_pos (by omega)]
        exact (hb c hc4 e2.symm).1
      · rw [if_neg e2] at hl
        rw [if_neg (by omega)]
        obtain ⟨g, h1, h2, h3⟩ := h.b c hc4 hl hl2
        refine ⟨g, h1, hm g _ h2 (fun t => ?_), h3⟩
        obtain ⟨c', hc', hi', ho'⟩ := hT g t
        exact h.dis c c' g g hc4 hc' (fun e3 => e (by rw [e3]; exact hi'.symm)) (Or.inr ⟨bool_of (by rw [h.size]; omega) hl2, hl, by rw [h1]; rfl⟩) ho' rfl
  · intro c hc4 hl
    rw [gl _ hil] at hl
    rw [gt a hsl]
    by_cases e : 9 + 6 * c = i
    · rw [if_pos (by omega)]
      exact (ha c hc4 e.symm).1
    · rw [if_neg e] at hl
      rw [if_neg (by omega)]
      exact hrow c hc4 (Ne.symm e) hl (h.ap c hc4 hl)
  · intro c c' g g' h1 h2 hne o1 o2
    rcases hown c g h1 o1 with q1 | ⟨q1, e1⟩ <;> rcases hown c' g' h2 o2 with q2 | ⟨q2, e2⟩
    · exact h.dis c c' g g' h1 h2 hne q1 q2
    · have := h.lt h1 q1; omega
    · have := h.lt h2 q2; omega
    · exfalso; omega
  · intro hl
    rw [gl _ hil] at hl
    by_cases e : 22 = i
    · obtain ⟨q1, q2⟩ := h22 e.symm
      refine ⟨fun c hc4 => hkeep _ (q1 c hc4), ?_⟩
      rw [gt a hsl, if_pos (by omega), q2]
      unfold four
      simp only [gt a hsl]
      rw [if_neg (by omega), if_neg (by omega), if_neg (by omega)]
    · rw [if_neg e] at hl
      obtain ⟨q1, q2⟩ := h.bld hl
      refine ⟨fun c hc4 => hkeep _ (q1 c hc4), ?_⟩
      rw [hfour hl, gt a hsl, if_neg (by omega)]
      exact q2
  · intro hl
    rw [gl _ hil] at hl
    by_cases e : 23 = i
    · obtain ⟨q1, y, q2, q3, q4⟩ := h23 e.symm
      refine ⟨hkeep _ q1, y, ?_, ?_, q4⟩
      · rw [gt a hsl, if_pos (by omega), q2]
      · rw [hfour q1]; exact q3
    · rw [if_neg e] at hl
      obtain ⟨q1, y, q2, q3, q4⟩ := h.box hl
      refine ⟨hkeep _ q1, y, ?_, ?_, q4⟩
      · rw [gt a hsl, if_neg (by omega), q2]
      · rw [hfour q1]
        refine hm y _ q3 (fun t => ?_)
        obtain ⟨c', hc', hi', ho'⟩ := hT y t
        have := (h.bld q1).1 c' hc'
        rw [← hi', hun'] at this
        cases this
  · intro hl
    rw [gl _ hil] at hl
    by_cases e : 24 = i
    · obtain ⟨q1, q2⟩ := h24 e.symm
      refine ⟨hkeep _ q1, ?_⟩
      rw [gt a hsl, gt a hsl, if_pos (by omega), if_neg (by omega), q2]
    · rw [if_neg e] at hl
      obtain ⟨q1, q2⟩ := h.asg hl
      have k29 : i ≠ 23 := fun e => by subst e; rw [hun'] at q1; cases q1
      refine ⟨hkeep _ q1, ?_⟩
      rw [gt a hsl, gt a hsl, if_neg (by omega), if_neg (by omega), q2]
end Go.Proofs.Ytjflkmihkfbgpaa
