/- Walks: Collect. -/
import Derived.Test.YtnhookblhckmlaaV8
namespace Go.Proofs.Ytnhookblhckmlaa
set_option linter.unusedVariables false
set_option linter.unusedSimpArgs false
open Go.RowKit Mk Go.Shelf
attribute [local go_sem] Oper.semAt_some

/-- What Collect keeps while it goes on. -/
structure CollAt (w : World) (L pre : List CellM) (F : Nat → Prop) (W : World) : Prop where
  row : ∃ v, W.heap[w.heap.size]? = some (.cells #[v] 28) ∧ Has W v pre ∧ (∀ g, F g ↔ (g = w.heap.size ∨ v.ownBlock = some g)) ∧ ∀ g, v.ownBlock = some g → w.heap.size + 1 ≤ g
  below : RowKit.Below w.heap.size w W
  pref : pre <+: L
theorem CollAt.go {w : World} {L pre : List CellM} {F : Nat → Prop} {W W' : World} (h : CollAt w L pre F W) (c : Chg (fun g => w.heap.size + 1 ≤ g ∧ ¬ F g) W W') : CollAt w L pre F W' := by
  obtain ⟨v, h1, h2, h3, h4⟩ := h.row
  have hl := (Array.getElem?_eq_some_iff.1 h1).1
  refine ⟨⟨v, (c.block _ hl (fun f => f.2 ((h3 _).2 (Or.inl rfl)))).trans h1, sl.stay h2 (fun g hg => c.block g (sl.lt h2 hg) (fun f => f.2 ((h3 g).2 (Or.inr hg)))), h3, h4⟩, ?_, h.pref⟩
  exact h.below.trans (c.below (B := w.heap.size) (fun i f => by omega) h.below.size)

set_option maxRecDepth 100000 in
set_option maxHeartbeats 2000000 in
theorem append_seq_any {g : Nat} {lb : Array Value} (eg : ∀ args w, (callFunc g args).run Try.prog w = .ok (.enter g args) w) {w : World} {L : List CellM} (hL : L.length ≤ 1099511627776) {R : Nat → Prop}
    (hseq : SeqF Try.prog g lb (fun x : CellM => #[cellV x]) (fun pre => pre <+: L) (fun xs => xs = L) R w) (hR : ∀ g, R g → g < w.heap.size) :
    Calls Try.prog 57 #[.slice none 0 0, .func (.func g) #[] lb] w fun e w' => ∃ v, e = .returned v ∧ Has w' v L ∧ RowKit.Below w.heap.size w w' ∧ ∀ g, v.ownBlock = some g → w.heap.size ≤ g := by
  obtain ⟨i6, z6, hi6, hz6, hsz6, hby6, hzs6⟩ := info24
  refine (callsIn_wide (n := 3)).1 ?_
  refine callsIn_of_wp_marks Try.func57 rfl trivial ?_ rfl
  simp only [Try.ntmps57, List.size_toArray, List.length_cons, List.length_nil, Nat.reduceAdd, Nat.reduceSub, Array.replicate_succ, Array.replicate_zero, List.push_toArray, List.append_toArray, List.nil_append, List.cons_append]
  gi_wp2
  obtain ⟨w2, hw2⟩ : ∃ W, w.alloc (.cells #[.slice none 0 0] 28) = W := ⟨_, rfl⟩
  have hs2 : w2.heap.size = w.heap.size + 1 := by rw [← hw2]; simp
  have hB2 : RowKit.Below w.heap.size w w2 := by rw [← hw2]; exact (Below.refl _ w).alloc (Nat.le_refl _) _
  have hx1 : w2.heap[w.heap.size]? = some (.cells #[.slice none 0 0] 28) := by
    rw [← hw2]; exact Go.heap_alloc_new _ _
  rw [hw2]
  clear hw2
  refine wp_rangeF (w0 := w) (gf := g) (lb := lb) rfl eg hseq (by omega) (fun g hg => ⟨hR g hg, hB2.block g (hR g hg)⟩) (fun _ => rfl)
    (fun pre F W => CollAt w L pre F W) (fun c pre F W => False) (fun g => g = w.heap.size)
    (fun g hg => ⟨by omega, fun f => by have := hR g f; omega⟩)
    (fun pre F W1 W2 h c => h.go (c.mono (fun g f => ⟨by omega, f.2⟩)))
    (fun c pre F W1 W2 h k => h.elim)
    ⟨⟨_, hx1, sl_nil _ _ _, fun g => by simp [Value.ownBlock], fun g hg => by simp [Value.ownBlock] at hg⟩, hB2, List.nil_prefix⟩ ?_ ?_ ?_
  · intro l pre x F W hI hok hF hl hwl hlW
    obtain ⟨xk, xt, xd, xv⟩ := x
    simp only [cellV]
    gi_wp2
    refine ⟨(Below.refl _ W).alloc (Nat.le_refl _) _, fun W2 hc2 hsz hI2 => ?_⟩
    have hX : W2.heap[W.heap.size]? = some (.cells #[.string xk, .int .u64 xt, .bool xd, .string xv] 24) := (hc2.block _ (by simp) (by omega)).trans (Go.heap_alloc_new _ _)
    obtain ⟨v, h1, h2, h3, h4⟩ := hI2.row
    have hpl : pre.length < L.length := by
      have := hok.length_le
      simp at this
      omega
    have a5 : W2.cell? ⟨w.heap.size, 0, none⟩ = some v := cell_of h1 rfl
    obtain ⟨o, c, rfl⟩ := h2.shape
    have x0 : W2.cell? ⟨W.heap.size, 0, none⟩ = some (.string xk) := cell_of hX rfl
    have x1 : W2.cell? ⟨W.heap.size, 1, none⟩ = some (.int .u64 xt) := cell_of hX rfl
    have x2 : W2.cell? ⟨W.heap.size, 2, none⟩ = some (.bool xd) := cell_of hX rfl
    have x3 : W2.cell? ⟨W.heap.size, 3, none⟩ = some (.string xv) := cell_of hX rfl
    have hsz' : W2.heap.size = W.heap.size + 1 := by rw [hsz]; simp
    obtain ⟨W3, HW3⟩ : ∃ A, Hid (W2.alloc (.cells #[.string xk, .int .u64 xt, .bool xd, .string xv] 24) = A) := ⟨_, Lib.hid rfl⟩
    have hB3 : RowKit.Below W2.heap.size W2 W3 := by rw [← HW3.out]; exact (Below.refl _ W2).alloc (Nat.le_refl _) _
    have hN := Lib.hid (cell_new_four (w := W3) (g := W.heap.size + 1) (a := .string xk) (b := .int .u64 xt) (c := .bool xd) (d := .string xv) (t := 24) (by rw [← HW3.out, ← hsz']; exact Go.heap_alloc_new _ _))
    have HS := Lib.hid (show sl W3 24 4 (.slice o pre.length c) pre.length (cellsL pre) from h2.stay hB3)
    have hrow3 := cell_alloc_keep h1 hB3
    have hap : (.slice o pre.length c : Value).ownBlock ≠ some (w.heap.size) := fun e => by have := h4 _ e; omega
    have FIN := Lib.hid (fun (v' : Value) (w4 : World) (hs4 : sl w4 24 4 v' (pre.length + 1) (cellsL pre ++ [.string xk, .int .u64 xt, .bool xd, .string xv])) (hg : W3.grownBy w4 (Value.slice o pre.length c).ownBlock) (ha : v'.ownBlock = (Value.slice o pre.length c).ownBlock ∨ v'.ownBlock = some W3.heap.size) =>
      (show (w4.heap[w.heap.size]? = some (.cells #[.slice o pre.length c] 28) ∧ ∃ o' c', v' = .slice o' (pre.length + 1) c') ∧ fromF (fun pre F W => CollAt w L pre F W) (pre ++ [(⟨xk, xt, xd, xv⟩ : CellM)]) F W2 (w4.setCell ⟨w.heap.size, 0, none⟩ v') from by
        have hlen : (pre ++ [(⟨xk, xt, xd, xv⟩ : CellM)]).length = pre.length + 1 := by simp
        have hhas : Has w4 v' (pre ++ [⟨xk, xt, xd, xv⟩]) := by
          unfold Has
          rw [cellsL_append, cellsL_one, hlen]
          exact hs4
        have hr3l := (Array.getElem?_eq_some_iff.1 hrow3).1
        have hr4 := (hg.block _ hr3l (fun e => hap e.symm)).trans hrow3
        have hv : v'.ownBlock ≠ some (w.heap.size) := fun e => by
          rcases ha with e2 | e2
          · rw [e2] at e; exact hap e
          · rw [e2] at e; have := Option.some.inj e; have := hB3.size; have := (Array.getElem?_eq_some_iff.1 h1).1; omega
        obtain ⟨o', c', hv'⟩ := hhas.shape
        rw [hlen] at hv'
        have hB3s := hB3.size
        have h1l := (Array.getElem?_eq_some_iff.1 h1).1
        have hc34 : Chg F W2 (w4.setCell ⟨w.heap.size, 0, none⟩ v') := by
          refine (((chg_of_below hB3).mono (G := F) (fun _ f => f.elim)).grown hg (fun i e => Or.inl ((h3 i).2 (Or.inr e)))).setCell (Or.inl ((h3 _).2 (Or.inl rfl))) _
        refine ⟨⟨hr4, o', c', hv'⟩, fun i => i = w.heap.size ∨ v'.ownBlock = some i, fun i f => ?_, fun i f => ?_, hc34, ⟨⟨v', ?_, ?_, fun i => Iff.rfl, fun i e => ?_⟩, ?_, hok⟩⟩
        · rcases f with f | f
          · exact Or.inl ((h3 i).2 (Or.inl f))
          · rcases ha with e | e
            · exact Or.inl ((h3 i).2 (Or.inr (by rw [← e]; exact f)))
            · rw [e] at f; cases f; exact Or.inr hB3s
        · have := hc34.size
          rcases f with f | f
          · omega
          · have h5 := sl.lt hs4 f
            have h6 : (w4.setCell ⟨w.heap.size, 0, none⟩ v').heap.size = w4.heap.size := by simp [World.setCell]
            omega
        · rw [Mk.heap_setCell_same hr4]; rfl
        · exact sl.stay hhas (fun i e => Below.heap_setCell _ _ _ _ (fun e2 => hv (by rw [e, e2])))
        · rcases ha with e2 | e2
          · exact h4 i (by rw [← e2]; exact e)
          · rw [e2] at e; cases e; have := hI2.below.size; omega
        · exact hI2.below.trans (hc34.below (B := w.heap.size) (fun i f => by rcases (h3 _).1 f with f | f; omega; have := h4 _ f; omega) hI2.below.size)))
    clear hI hc2 hX hsz h1 h2 h3 h4 hok hI2 hB3 hap
    have l1 : pre.length + 1 ≤ maxLen := by simp only [maxLen]; omega
    have l2 : (pre.length + 1) * 48 ≤ 140737488355328 := by omega
    have hrow3c : W3.cell? ⟨w.heap.size, 0, none⟩ = some (.slice o pre.length c) := cell_of hrow3 rfl
    gi_wp2_with (gi_at_builtin; refine wpListIn_append_sl rfl _ _ 28 rfl 24 i6 z6 4 48 Try.underlying28 hi6 hz6 hsz6 hby6 hzs6 (by decide) (.slice o pre.length c) pre.length (cellsL pre) rfl (by rw [HW3.out]; exact HS.out) (some ⟨W.heap.size + 1, 0, none⟩) 1 1 [.string xk, .int .u64 xt, .bool xd, .string xv] rfl rfl (fun _ => ⟨_, rfl, by rw [HW3.out]; exact hN.out⟩) (fun h => absurd h (by decide)) (by simp [Value.oneCell']) l1 l2 ?_; intro v' w4 hsl hgrow hat; rw [HW3.out] at hgrow hat; obtain ⟨⟨hr4, o', c', rfl⟩, hfin⟩ := FIN.out v' w4 hsl hgrow hat; have e4 : w4.cell? ⟨w.heap.size, 0, none⟩ = some (.slice o pre.length c) := cell_of hr4 rfl; have f4 : w4.frozen? ⟨w.heap.size, 0, none⟩ = false := frozen_of hr4; have HFIN := Lib.hid hfin; clear hfin hsl hgrow hat)
    exact HFIN.out
  · rintro D xs F W hD hFD rfl hI hK
    obtain ⟨v, h1, h2, h3, h4⟩ := hI.row
    have HB := Lib.hid hI.below
    have HF := Lib.hid (fun g hg => (h4 g hg : w.heap.size + 1 ≤ g))
    have H2 := Lib.hid h2
    have hDv : v.ownBlock ≠ some D := fun e => hFD ((h3 D).2 (Or.inr e))
    have HDv := Lib.hid hDv
    have c5 : W.cell? ⟨w.heap.size, 0, none⟩ = some v := cell_of h1 rfl
    obtain ⟨o, c, rfl⟩ := h2.shape
    clear h1 h2 h3 h4 hI hFD hDv
    gi_wp2
    refine ⟨by simp, .inl ⟨_, _, rfl, run_takeDeferred hK, ?_⟩⟩
    refine ⟨_, results_tmp rfl _ _ _, .slice o xs.length c, rfl, sl.stay H2.out (fun g hg => World.putObj_heap_other (fun e => HDv.out (by rw [← e]; exact hg))), HB.out.trans (belowK_b (w := w) (Nat.le_refl _) W D _ _ (by omega) hK rfl rfl), fun g hg => by have := HF.out g hg; omega⟩
  · rintro D c pre F W hD hFD hok hI hK
    exact hI.elim
theorem collect_any {g : Nat} {lb : Array Value} (eg : ∀ args w, (callFunc g args).run Try.prog w = .ok (.enter g args) w) {w : World} {L : List CellM} (hL : L.length ≤ 1099511627776) {R : Nat → Prop}
    (hseq : SeqF Try.prog g lb (fun x : CellM => #[cellV x]) (fun pre => pre <+: L) (fun xs => xs = L) R w) (hR : ∀ g, R g → g < w.heap.size) :
    Calls Try.prog 51 #[.func (.func g) #[] lb] w fun e w' => ∃ v, e = .returned v ∧ Has w' v L ∧ RowKit.Below w.heap.size w w' ∧ ∀ g, v.ownBlock = some g → w.heap.size ≤ g := by
  have A := append_seq_any eg hL hseq hR
  go_enter Try.func51, Try.ntmps51
  go_wp2_with fail
  refine A.mono ?_
  rintro e w' ⟨v, rfl, h1, h2, h3⟩
  have HQ := Lib.hid (And.intro h1 (And.intro h2 h3))
  obtain ⟨o, c, rfl⟩ := h1.shape
  clear h1 h2 h3
  go_wp2
  go_ret
  exact ⟨_, rfl, HQ.out⟩
end Go.Proofs.Ytnhookblhckmlaa
