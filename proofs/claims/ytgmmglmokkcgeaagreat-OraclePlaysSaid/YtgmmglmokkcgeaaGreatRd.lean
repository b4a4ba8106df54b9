/- A tablet is set in its place: in memory, and plain. -/
import Derived.Test.YtgmmglmokkcgeaaGreatR7
import Derived.Test.YtgmmglmokkcgeaaGreatR2b
namespace Go.Proofs.YtgmmglmokkcgeaaGreat
set_option linter.unusedVariables false
set_option linter.unusedSimpArgs false
set_option linter.unusedSectionVars false
open Go.RowKit Mk Go.Sort

theorem lay_set {K V : Type} [DecidableEq K] {lt : K → K → Bool} (O : Ordered lt) {x : K} (v : V) : ∀ {L : List (K × V)} {i : Nat} (hi : i < L.length), Ris lt L → L[i].1 = x → lay lt x v L = L.set i (x, v)
  | p :: L, 0, hi, h, e => by
    have hp : p.1 = x := e
    unfold lay
    rw [if_neg (by rw [hp, O.irr]; simp), if_pos hp]
    rfl
  | p :: L, i + 1, hi, h, e => by
    obtain ⟨h1, h2⟩ := List.pairwise_cons.1 h
    have hi' : i < L.length := by simpa using hi
    have hp : lt p.1 x = true := by have := h1 L[i] (List.getElem_mem hi'); rw [show L[i].1 = x from e] at this; exact this
    unfold lay
    rw [if_pos hp, lay_set O v hi' h2 e]
    rfl
theorem sl.setAt {w : World} {e size : Nat} {g n cap : Nat} {xs : List Value} (h : sl w e size (.slice (some ⟨g, 0, none⟩) n cap) n xs) {k : Nat} (hk : k < n * size) (u : Value) :
    w.frozen? ⟨g, k, none⟩ = false ∧ (∃ y, w.cell? ⟨g, k, none⟩ = some y) ∧ sl (w.setCell ⟨g, k, none⟩ u) e size (.slice (some ⟨g, 0, none⟩) n cap) n (xs.set k u) := by
  rcases h.2 with ⟨e', _⟩ | ⟨g', cap', cur, e', hh, h1, h2, h3, h4⟩
  · cases e'
  · simp only [Value.slice.injEq, Option.some.injEq, Addr.mk.injEq, true_and, and_true] at e'
    obtain ⟨rfl, rfl⟩ := e'
    have hs : n * size ≤ cap * size := Nat.mul_le_mul_right _ h1
    have hkc : k < cur.size := by omega
    refine ⟨frozen_of hh, ⟨cur[k], cell_of hh (by rw [Array.getElem?_eq_getElem hkc])⟩, by rw [List.length_set]; exact h.1, Or.inr ⟨_, _, cur.setIfInBounds k u, rfl, Mk.heap_setCell_same hh u, h1, h2, by rw [Array.size_setIfInBounds]; exact h3, ?_⟩⟩
    rw [← h4, Array.toList_setIfInBounds, List.take_set]
theorem flat_set (p : ByteArray × Tb) : ∀ (L : List (ByteArray × Tb)) (i : Nat) (hi : i < L.length), ((((((L.flatMap tE).set (i * 5) (.string p.1)).set (i * 5 + 1) (.int .u32 (p.2.g : Nat))).set (i * 5 + 2) (.int .u32 (p.2.to : Nat))).set (i * 5 + 3) (.int .u64 (p.2.at_ : Nat))).set (i * 5 + 4) (.int .u64 (p.2.tn : Nat))) = (L.set i p).flatMap tE
  | a :: L, 0, hi => by
    rw [List.flatMap_cons]
    show _ = (p :: L).flatMap tE
    rw [List.flatMap_cons]
    rfl
  | a :: L, i + 1, hi => by
    have ih := flat_set p L i (by simpa using hi)
    have hl : (tE a).length = 5 := rfl
    have e : ∀ c, (i + 1) * 5 + c = (tE a).length + (i * 5 + c) := fun c => by rw [hl]; omega
    rw [List.flatMap_cons, show (i + 1) * 5 = (tE a).length + i * 5 by rw [hl]; omega]
    have st : ∀ (xs : List Value) (k : Nat) (v : Value), (tE a ++ xs).set ((tE a).length + k) v = tE a ++ xs.set k v := fun xs k v => by
      rw [List.set_append_right _ _ (by omega)]
      congr 2
      omega
    rw [show (tE a).length + i * 5 + 1 = (tE a).length + (i * 5 + 1) by omega, show (tE a).length + i * 5 + 2 = (tE a).length + (i * 5 + 2) by omega, show (tE a).length + i * 5 + 3 = (tE a).length + (i * 5 + 3) by omega, show (tE a).length + i * 5 + 4 = (tE a).length + (i * 5 + 4) by omega]
    rw [st, st, st, st, st, ih]
    rfl
/-- Five cells of a row are set. -/
def set5 (w : World) (g k : Nat) (p : ByteArray × Tb) : World := ((((w.setCell ⟨g, k, none⟩ (.string p.1)).setCell ⟨g, k + 1, none⟩ (.int .u32 (p.2.g : Nat))).setCell ⟨g, k + 2, none⟩ (.int .u32 (p.2.to : Nat))).setCell ⟨g, k + 3, none⟩ (.int .u64 (p.2.at_ : Nat))).setCell ⟨g, k + 4, none⟩ (.int .u64 (p.2.tn : Nat))
theorem set5_other {w : World} {g k : Nat} {p : ByteArray × Tb} {g' : Nat} (h : g' ≠ g) : (set5 w g k p).heap[g']? = w.heap[g']? := by
  have e : ∀ (u : World) (i : Nat) (v : Value), (u.setCell ⟨g, i, none⟩ v).heap[g']? = u.heap[g']? := fun u i v => Below.heap_setCell _ _ _ _ h
  unfold set5
  rw [e, e, e, e, e]
theorem set5_chg {w : World} {g k : Nat} {p : ByteArray × Tb} {F : Nat → Prop} (h : F g) : Chg F w (set5 w g k p) := by
  unfold set5
  exact (((((Chg.refl F w).setCell (a := ⟨g, k, none⟩) (Or.inl h) _).setCell (a := ⟨g, k + 1, none⟩) (Or.inl h) _).setCell (a := ⟨g, k + 2, none⟩) (Or.inl h) _).setCell (a := ⟨g, k + 3, none⟩) (Or.inl h) _).setCell (a := ⟨g, k + 4, none⟩) (Or.inl h) _
section
variable {w w' : World} {b : Nat} {R : RV} {F G : Nat → Prop} {r : RM}
theorem RRep.putTi (h : RRep w b R F r) {i g cap : Nat} (hi : i < r.t.length) (hR : R.t = .slice (some ⟨g, 0, none⟩) r.t.length cap) (p : ByteArray × Tb) :
    (∀ c, c < 5 → w.frozen? ⟨g, i * 5 + c, none⟩ = false) ∧ RTo w b F { r with t := r.t.set i p } (set5 w g (i * 5) p) := by
  have ht := h.t
  rw [hR] at ht
  have hi5 : ∀ c, c < 5 → i * 5 + c < r.t.length * 5 := fun c hc => by omega
  have s0 := sl.setAt ht (hi5 0 (by decide)) (.string p.1)
  have s1 := sl.setAt s0.2.2 (hi5 1 (by decide)) (.int .u32 (p.2.g : Nat))
  have s2 := sl.setAt s1.2.2 (hi5 2 (by decide)) (.int .u32 (p.2.to : Nat))
  have s3 := sl.setAt s2.2.2 (hi5 3 (by decide)) (.int .u64 (p.2.at_ : Nat))
  have s4 := sl.setAt s3.2.2 (hi5 4 (by decide)) (.int .u64 (p.2.tn : Nat))
  have hs := s4.2.2
  rw [Nat.add_zero, flat_set p r.t i hi] at hs
  have hF : F g := h.ft g (by rw [hR]; rfl)
  obtain ⟨cur, hcur⟩ := sl_typ ht (g := g) rfl
  have off : ∀ {v : Value} {n : Nat} {xs : List Value} {e size : Nat} (hv : sl w e size v n xs) (he : e ≠ 41), sl (set5 w g (i * 5) p) e size v n xs := fun hv he => hv.stay (fun g' hg => set5_other (fun e => by
    obtain ⟨c, hc⟩ := sl_typ hv hg
    exact typ_ne hc hcur he e))
  refine ⟨fun c hc => (sl.setAt ht (hi5 c hc) (.bool true)).1, ⟨R, ?_, ?_, ?_, ?_, ?_, h.cl, fun q hq => ?_, Or.inl h.fb, fun g e => Or.inl (h.fd g e), fun g e => Or.inl (h.fk g e), fun g e => Or.inl (h.ft g e), fun g e => Or.inl (h.fc g e), fun q hq g e => Or.inl (h.fi q hq g e)⟩, set5_chg hF⟩
  · rw [set5_other (fun e => typ_ne h.box hcur (by decide) e)]; exact h.box
  · exact off h.d (by decide)
  · exact off h.k (by decide)
  · rw [hR]
    simp only [List.length_set]
    exact hs
  · exact off h.c (by decide)
  · exact off (h.inn q hq) (by decide)
end
end Go.Proofs.YtgmmglmokkcgeaaGreat
