/- Copy of the document's net: what holds while its region is gone over. -/
import Derived.Test.YtpgioccbnkcjcaaP9
namespace Go.Proofs.Ytpgioccbnkcjcaa
open Go.RowKit Mk

def cE : Nat → TypeId
  | 0 => 42
  | 1 => 4
  | 2 => 3
  | _ => 26
def cS : Nat → Nat
  | 0 => 3
  | _ => 1
def cL (n : NetM) : Nat → Nat
  | 0 => n.l.length
  | _ => n.ms.length + 1
def cX (n : NetM) : Nat → List Value
  | 0 => pcells n.l
  | 1 => scells n.ms
  | 2 => tcells n.ms
  | _ => dcells n.ms
def pval (x : Nat) (R : Lay) (n : NetM) : Nat → Option Value
  | 0 | 1 | 5 | 6 | 11 | 12 | 17 | 18 | 23 | 24 => some (.pointer (some ⟨x, 0, none⟩))
  | 2 => some (.pointer (some ⟨x, 0, none⟩))
  | 7 => some (.pointer (some ⟨x, 1, none⟩))
  | 13 => some (.pointer (some ⟨x, 2, none⟩))
  | 19 => some (.pointer (some ⟨x, 3, none⟩))
  | 25 => some (.pointer (some ⟨x, 4, none⟩))
  | 3 => some (.int .i64 n.ms.length)
  | 8 => some (.slice R.lo n.l.length R.lc)
  | 14 => some (.slice (some ⟨R.sb, 0, none⟩) (n.ms.length + 1 : Nat) R.sc)
  | 20 => some (.slice (some ⟨R.tb, 0, none⟩) (n.ms.length + 1 : Nat) R.tc)
  | 26 => some (.slice (some ⟨R.db, 0, none⟩) (n.ms.length + 1 : Nat) R.dc)
  | _ => none
theorem cE_ne {c c' : Nat} (h : c < 4) (h' : c' < 4) (e : cE c = cE c') : c = c' := by
  match c, c', h, h' with
  | 0, 0, _, _ | 1, 1, _, _ | 2, 2, _, _ | 3, 3, _, _ => rfl
  | 0, 1, _, _ | 0, 2, _, _ | 0, 3, _, _ | 1, 0, _, _ | 1, 2, _, _ | 1, 3, _, _ | 2, 0, _, _ | 2, 1, _, _ | 2, 3, _, _ | 3, 0, _, _ | 3, 1, _, _ | 3, 2, _, _ => simp [cE] at e
  | n + 4, _, h, _ => omega
  | _, n + 4, _, h => omega

/-- An empty slice of a chain, made. -/
def BS (w0 : World) (c : Nat) (v : Value) (w : World) : Prop := ∃ g, v = .slice (some ⟨g, 0, none⟩) 0 0 ∧ w.heap[g]? = some (.cells #[] (cE c)) ∧ w0.heap.size ≤ g
/-- A chain's copy. -/
def AP (w0 : World) (n : NetM) (c : Nat) (v : Value) (w : World) : Prop := ∃ lo lc, v = .slice lo (cL n c) lc ∧ sl w (cE c) (cS c) (.slice lo (cL n c) lc) (cL n c) (cX n c) ∧ (∀ g, (Value.slice lo (cL n c) lc).ownBlock = some g → w0.heap.size ≤ g) ∧ (∀ ad, lo = some ad → ∃ g, ad = ⟨g, 0, none⟩)
def five (n : NetM) (t : Nat → Value) : Array Value := #[.int .i64 n.ms.length, t 12, t 18, t 24, t 30]
structure CI (w0 : World) (x : Nat) (R : Lay) (n : NetM) (listed : Array Bool) (a : Act) (w : World) : Prop where
  size : listed.size = 31
  dfr : a.defers = []
  tsz : a.tmps.size = 33
  t0 : a.tmps.getD 0 undef = .pointer (some ⟨x, 0, none⟩)
  chg : Chg (fun _ => False) w0 w
  p : ∀ k v, pval x R n k = some v → listed.getD k false = true → a.tmps.getD (k + 3) undef = v
  b : ∀ c, c < 4 → listed.getD (4 + 6 * c) false = true → listed.getD (9 + 6 * c) true = false → BS w0 c (a.tmps.getD (7 + 6 * c) undef) w
  ap : ∀ c, c < 4 → listed.getD (9 + 6 * c) false = true → AP w0 n c (a.tmps.getD (12 + 6 * c) undef) w
  bld : listed.getD 28 false = true → (∀ c, c < 4 → listed.getD (9 + 6 * c) false = true) ∧ a.tmps.getD 31 undef = .agg (five n fun i => a.tmps.getD i undef)
  box : listed.getD 29 false = true → listed.getD 28 false = true ∧ ∃ y, a.tmps.getD 32 undef = .pointer (some ⟨y, 0, none⟩) ∧ w.heap[y]? = some (.cells (five n fun i => a.tmps.getD i undef) 84) ∧ w0.heap.size ≤ y
  asg : listed.getD 30 false = true → listed.getD 29 false = true ∧ a.tmps.getD 2 undef = a.tmps.getD 32 undef

theorem gl (listed : Array Bool) {i : Nat} (hi : i < listed.size) (k : Nat) (b : Bool) : (listed.setIfInBounds i true).getD k b = if k = i then true else listed.getD k b := by
  by_cases e : k = i
  · subst e; simp [Array.getD, hi]
  · rw [if_neg e]
    rw [Array.getD_eq_getD_getElem?, Array.getD_eq_getD_getElem?, Array.getElem?_setIfInBounds_ne (Ne.symm e)]
theorem gt (a : Act) {d : Nat} (hd : d < a.tmps.size) (v : Value) (k : Nat) : (a.put (some d) v).tmps.getD k undef = if k = d then v else a.tmps.getD k undef := by
  unfold Act.put
  simp only
  by_cases e : k = d
  · subst e; simp [Array.getD, hd]
  · rw [if_neg e]
    rw [Array.getD_eq_getD_getElem?, Array.getD_eq_getD_getElem?, Array.getElem?_setIfInBounds_ne (Ne.symm e)]
def slotOf (i : Nat) : Nat := if i = 30 then 2 else i + 3
theorem bool_of {listed : Array Bool} {i : Nat} (hs : i < listed.size) (h : listed.getD i true = false) : listed.getD i false = false := by
  simp only [Array.getD, hs, dif_pos] at h ⊢
  exact h
theorem CI.step {w0 : World} {x : Nat} {R : Lay} {n : NetM} {listed : Array Bool} {a : Act} {w w' : World} (h : CI w0 x R n listed a w) {i : Nat} (hi : i < 31) (hun : listed.getD i true = false) {v : Value} {T : Nat → Prop}
    (hc : Chg (fun _ => False) w0 w') (hm : ∀ g o, w.heap[g]? = some o → ¬ T g → w'.heap[g]? = some o) (hT : ∀ g cur e, T g → w.heap[g]? = some (.cells cur e) → ∃ c, c < 4 ∧ i = 9 + 6 * c ∧ e = cE c)
    (hp : ∀ v', pval x R n i = some v' → v = v') (hb : ∀ c, c < 4 → i = 4 + 6 * c → BS w0 c v w') (ha : ∀ c, c < 4 → i = 9 + 6 * c → AP w0 n c v w')
    (h28 : i = 28 → (∀ c, c < 4 → listed.getD (9 + 6 * c) false = true) ∧ v = .agg (five n fun i => a.tmps.getD i undef))
    (h29 : i = 29 → listed.getD 28 false = true ∧ ∃ y, v = .pointer (some ⟨y, 0, none⟩) ∧ w'.heap[y]? = some (.cells (five n fun i => a.tmps.getD i undef) 84) ∧ w0.heap.size ≤ y)
    (h30 : i = 30 → listed.getD 29 false = true ∧ v = a.tmps.getD 32 undef) :
    CI w0 x R n (listed.setIfInBounds i true) (a.put (some (slotOf i)) v) w' := by
  have hil : i < listed.size := by rw [h.size]; exact hi
  have hun' := bool_of hil hun
  have hsl : slotOf i < a.tmps.size := by rw [h.tsz]; unfold slotOf; split <;> omega
  have hs30 : i = 30 ∧ slotOf i = 2 ∨ i ≠ 30 ∧ slotOf i = i + 3 := by
    unfold slotOf
    by_cases e : i = 30
    · exact Or.inl ⟨e, by rw [if_pos e]⟩
    · exact Or.inr ⟨e, by rw [if_neg e]⟩
  have hkeep : ∀ k, listed.getD k false = true → (listed.setIfInBounds i true).getD k false = true := fun k hk => by
    rw [gl _ hil]
    by_cases e : k = i
    · rw [if_pos e]
    · rw [if_neg e]; exact hk
  have hrow : ∀ c, c < 4 → i ≠ 9 + 6 * c → ∀ V, AP w0 n c V w → AP w0 n c V w' := by
    rintro c hc4 hic V ⟨lo, lc, e, hs, ho, hz⟩
    refine ⟨lo, lc, e, ?_, ho, hz⟩
    rcases hs with ⟨h1, h2 | ⟨g, cap, cur, e2, hh, r1⟩⟩
    · exact ⟨h1, Or.inl h2⟩
    · refine ⟨h1, Or.inr ⟨g, cap, cur, e2, hm g _ hh (fun t => ?_), r1⟩⟩
      obtain ⟨c', hc', hi', he⟩ := hT g _ _ t hh
      exact hic (by rw [cE_ne hc4 hc' he]; exact hi')
  have hfive : listed.getD 28 false = true → five n (fun k => (a.put (some (slotOf i)) v).tmps.getD k undef) = five n (fun k => a.tmps.getD k undef) := by
    intro h2
    have hap := (h.bld h2).1
    have q0 := hap 0 (by omega)
    have q1 := hap 1 (by omega)
    have q2 := hap 2 (by omega)
    have q3 := hap 3 (by omega)
    have k0 : i ≠ 9 := fun e => by subst e; rw [hun'] at q0; cases q0
    have k1 : i ≠ 15 := fun e => by subst e; rw [hun'] at q1; cases q1
    have k2 : i ≠ 21 := fun e => by subst e; rw [hun'] at q2; cases q2
    have k3 : i ≠ 27 := fun e => by subst e; rw [hun'] at q3; cases q3
    unfold five
    simp only [gt a hsl]
    rw [if_neg (by omega), if_neg (by omega), if_neg (by omega), if_neg (by omega)]
  refine ⟨by rw [Array.size_setIfInBounds]; exact h.size, by simpa [Act.put] using h.dfr, by simpa [Act.put] using h.tsz, ?_, hc, ?_, ?_, ?_, ?_, ?_, ?_⟩
  · rw [gt a hsl, if_neg (by omega)]; exact h.t0
  · intro k u hk hl
    rw [gl _ hil] at hl
    have hk30 : k ≠ 30 := fun e => by subst e; simp [pval] at hk
    rw [gt a hsl]
    by_cases e : k = i
    · subst e
      rw [if_pos (by omega)]
      exact hp u hk
    · rw [if_neg e] at hl
      rw [if_neg (by omega)]
      exact h.p k u hk hl
  · intro c hc4 hl hl2
    rw [gl _ hil] at hl hl2
    rw [gt a hsl]
    by_cases e : 9 + 6 * c = i
    · rw [if_pos e] at hl2; cases hl2
    · rw [if_neg e] at hl2
      by_cases e2 : 4 + 6 * c = i
      · rw [if_pos (by omega)]
        exact hb c hc4 e2.symm
      · rw [if_neg e2] at hl
        rw [if_neg (by omega)]
        obtain ⟨g, h1, h2, h3⟩ := h.b c hc4 hl hl2
        refine ⟨g, h1, hm g _ h2 (fun t => ?_), h3⟩
        obtain ⟨c', hc', hi', he⟩ := hT g _ _ t h2
        exact e (by rw [cE_ne hc4 hc' he]; exact hi'.symm)
  · intro c hc4 hl
    rw [gl _ hil] at hl
    rw [gt a hsl]
    by_cases e : 9 + 6 * c = i
    · rw [if_pos (by omega)]
      exact ha c hc4 e.symm
    · rw [if_neg e] at hl
      rw [if_neg (by omega)]
      exact hrow c hc4 (Ne.symm e) _ (h.ap c hc4 hl)
  · intro hl
    rw [gl _ hil] at hl
    by_cases e : 28 = i
    · obtain ⟨q1, q2⟩ := h28 e.symm
      refine ⟨fun c hc4 => hkeep _ (q1 c hc4), ?_⟩
      rw [gt a hsl, if_pos (by omega), q2]
      unfold five
      simp only [gt a hsl]
      rw [if_neg (by omega), if_neg (by omega), if_neg (by omega), if_neg (by omega)]
    · rw [if_neg e] at hl
      obtain ⟨q1, q2⟩ := h.bld hl
      refine ⟨fun c hc4 => hkeep _ (q1 c hc4), ?_⟩
      rw [hfive hl, gt a hsl, if_neg (by omega)]
      exact q2
  · intro hl
    rw [gl _ hil] at hl
    by_cases e : 29 = i
    · obtain ⟨q1, y, q2, q3, q4⟩ := h29 e.symm
      refine ⟨hkeep _ q1, y, ?_, ?_, q4⟩
      · rw [gt a hsl, if_pos (by omega), q2]
      · rw [hfive q1]; exact q3
    · rw [if_neg e] at hl
      obtain ⟨q1, y, q2, q3, q4⟩ := h.box hl
      refine ⟨hkeep _ q1, y, ?_, ?_, q4⟩
      · rw [gt a hsl, if_neg (by omega), q2]
      · rw [hfive q1]
        refine hm y _ q3 (fun t => ?_)
        obtain ⟨c', hc', hi', he⟩ := hT y _ _ t q3
        match c', hc' with
        | 0, _ | 1, _ | 2, _ | 3, _ => simp [cE] at he
  · intro hl
    rw [gl _ hil] at hl
    by_cases e : 30 = i
    · obtain ⟨q1, q2⟩ := h30 e.symm
      refine ⟨hkeep _ q1, ?_⟩
      rw [gt a hsl, gt a hsl, if_pos (by omega), if_neg (by omega), q2]
    · rw [if_neg e] at hl
      obtain ⟨q1, q2⟩ := h.asg hl
      have k29 : i ≠ 29 := fun e => by subst e; rw [hun'] at q1; cases q1
      refine ⟨hkeep _ q1, ?_⟩
      rw [gt a hsl, gt a hsl, if_neg (by omega), if_neg (by omega), q2]
end Go.Proofs.Ytpgioccbnkcjcaa
