/- Walks: the document's Copy. -/
import Derived.Test.YtjflkmihkfbgpaaZ6
namespace Go.Proofs.Ytjflkmihkfbgpaa
open Go.RowKit Mk
set_option linter.unusedVariables false
set_option linter.unusedSimpArgs false
section
variable {w : World} {x : Nat} {R : RLay} {F : Nat → Prop} {S : Nat} {r : RefM}
set_option maxRecDepth 100000 in
set_option maxHeartbeats 4000000 in
theorem rcopy_lay (h : RRep w x (.slice R.ko r.K.length R.kc) (.slice R.oo r.T.length R.oc) (.slice R.no r.N.length R.nc) F S r) :
    Calls Try.prog 21 #[.pointer (some ⟨x, 0, none⟩)] w fun e w' => ∃ y, e = .returned (.pointer (some ⟨y, 0, none⟩)) ∧ RIs w' y (fun g => w.heap.size ≤ g) S r ∧ Chg (fun _ => False) w w' := by
  have H := Lib.hid h
  have l1 := h.len.1
  have l2 := h.len.2
  have l3 := h.size.2.2
  have bk : r.K.length ≤ 1099511627776 := by omega
  have bt : r.T.length ≤ 1099511627776 := by omega
  have bn : r.N.length ≤ 1099511627776 := by omega
  clear h l1 l2 l3
  go_enter Try.func21, Try.ntmps21
  go_wp2
  refine region_gen (by kernel_rfl) (fun ops hops => ?_)
  refine wpAny_inv (I := CI w x R r) ?hs ?hd ?ht ?hz _ _ _ _ ?hI ?hu
  case hz => rw [← hops]; exact fun _ _ _ h => h.size
  case ht => exact topo_spec (by subst hops; kernel_rfl)
  case hu =>
    have : ops.size = 25 := by rw [← hops]; rfl
    rw [this]
    decide
  case hI =>
    have hsz : ops.size = 25 := by rw [← hops]; rfl
    rw [hsz]
    have no : ∀ k, (Array.replicate 25 false).getD k false = true → False := fun k h => by rw [rep_false] at h; cases h
    exact ⟨by simp, rfl, rfl, rfl, (Chg.refl _ _).drew, fun k v _ h => (no k h).elim, fun c _ h => (no _ h).elim, fun c _ h => (no _ h).elim, fun c c' g g' _ _ _ o _ => by rcases o with ⟨h, -⟩ | ⟨-, h, -⟩ <;> exact (no _ h).elim, fun h => (no _ h).elim, fun h => (no _ h).elim, fun h => (no _ h).elim⟩
  case hd =>
    have hsz : ops.size = 25 := by rw [← hops]; rfl
    intro listed a w1 hI hall
    have hal : ∀ k, k < 25 → listed.getD k false = true := fun k hk => by
      have := hall k (by omega)
      have hl := hI.size
      have h2 : k < listed.size := by omega
      simp only [Array.getD, h2, dif_pos] at this ⊢
      exact this
    obtain ⟨-, q1⟩ := hI.asg (hal 24 (by omega))
    obtain ⟨-, y, q2, q3, q4⟩ := hI.box (hal 23 (by omega))
    obtain ⟨l0, k0, e0, s0, o0⟩ := hI.ap 0 (by omega) (hal 9 (by omega))
    obtain ⟨l1, k1, e1, s1, o1⟩ := hI.ap 1 (by omega) (hal 15 (by omega))
    obtain ⟨l2, k2, e2, s2, o2⟩ := hI.ap 2 (by omega) (hal 21 (by omega))
    simp only [Nat.reduceMul, Nat.reduceAdd] at e0 e1 e2
    have HR : RIs w1 y (fun g => w.heap.size ≤ g) S r := by
      refine ⟨.slice l0 r.K.length k0, .slice l1 r.T.length k1, .slice l2 r.N.length k2, ?_, s0, s1, s2, q4, o0, o1, o2, H.out.room, H.out.len, H.out.size, H.out.acts, H.out.mays⟩
      have q3' : w1.heap[y]? = some (.cells #[.int .i64 r.room, a.tmps.getD 12 undef, a.tmps.getD 18 undef, a.tmps.getD 24 undef] 42) := q3
      rw [e0, e1, e2] at q3'
      exact q3'
    have HC := hI.chg
    have hdf := hI.dfr
    obtain ⟨tm, df⟩ := a
    simp only at hdf q1 q2
    subst hdf
    rw [q2] at q1
    clear hI hall hal e0 e1 e2 s0 s1 s2 o0 o1 o2 q3 hops
    go_wp2
    go_ret
    exact ⟨y, congrArg Ending.returned q1, HR, HC⟩
  case hs =>
    intro listed a w1 hI i hi hun hdep
    have hi31 : i < 25 := by rw [← hops] at hi; exact hi
    clear hi
    match i, hi31, hun, hdep with
    | 0, _, hun, hdep =>
      exact wpOp_of (v := (.pointer (some ⟨x, 0, none⟩))) (w' := w1) (by rw [← hops]; rfl) (by rfl) (by simp [execOp, Act.eval, hI.t0, go_sem]) (hI.step (T := (fun _ => False)) (by decide) hun hI.chg (fun g o h _ => h) (fun _ t => t.elim) (fun v' h => by cases h; rfl) (fun c _ e => by omega) (fun c _ e => by omega) (fun e => absurd e (by decide)) (fun e => absurd e (by decide)) (fun e => absurd e (by decide)))
    | 1, _, hun, hdep =>
      have ht : a.tmps.getD 3 undef = (.pointer (some ⟨x, 0, none⟩)) := hI.p 0 _ rfl (hdep _ (by rw [← hops]; rfl) ⟨0, .data⟩ (by simp) rfl)
      exact wpOp_of (v := (.pointer (some ⟨x, 0, none⟩))) (w' := w1) (by rw [← hops]; rfl) (by rfl) (by simp [execOp, Act.eval, ht, go_sem]) (hI.step (T := (fun _ => False)) (by decide) hun hI.chg (fun g o h _ => h) (fun _ t => t.elim) (fun v' h => by cases h; rfl) (fun c _ e => by omega) (fun c _ e => by omega) (fun e => absurd e (by decide)) (fun e => absurd e (by decide)) (fun e => absurd e (by decide)))
    | 2, _, hun, hdep =>
      have ht : a.tmps.getD 4 undef = (.pointer (some ⟨x, 0, none⟩)) := hI.p 1 _ rfl (hdep _ (by rw [← hops]; rfl) ⟨1, .data⟩ (by simp) rfl)
      exact wpOp_of (v := (.pointer (some ⟨x, 0, none⟩))) (w' := w1) (by rw [← hops]; rfl) (by rfl) (by simp [execOp, Act.eval, ht, go_sem]) (hI.step (T := (fun _ => False)) (by decide) hun hI.chg (fun g o h _ => h) (fun _ t => t.elim) (fun v' h => by cases h; rfl) (fun c _ e => by omega) (fun c _ e => by omega) (fun e => absurd e (by decide)) (fun e => absurd e (by decide)) (fun e => absurd e (by decide)))
    | 3, _, hun, hdep =>
      have ht : a.tmps.getD 5 undef = (.pointer (some ⟨x, 0, none⟩)) := hI.p 2 _ rfl (hdep _ (by rw [← hops]; rfl) ⟨2, .data⟩ (by simp) rfl)
      have hcc := (H.out.stay hI.chg (fun _ _ f => f)).cells.1
      exact wpOp_of (v := (.int .i64 r.room)) (w' := w1) (by rw [← hops]; rfl) (by rfl) (by simp [execOp, Act.eval, ht, hcc, go_sem]) (hI.step (T := (fun _ => False)) (by decide) hun hI.chg (fun g o h _ => h) (fun _ t => t.elim) (fun v' h => by cases h; rfl) (fun c _ e => by omega) (fun c _ e => by omega) (fun e => absurd e (by decide)) (fun e => absurd e (by decide)) (fun e => absurd e (by decide)))
    | 4, _, hun, hdep =>
      have hB : BS w 0 (.slice (some ⟨w1.heap.size, 0, none⟩) 0 0) (w1.alloc (.cells #[] 73)) := ⟨w1.heap.size, rfl, Go.heap_alloc_new _ _, hI.chg.size⟩
      exact wpOp_of (v := .slice (some ⟨w1.heap.size, 0, none⟩) 0 0) (w' := w1.alloc (.cells #[] 73)) (by rw [← hops]; rfl) (by rfl) (by simp [execOp, Act.eval, go_sem]) (hI.step (T := (fun _ => False)) (by decide) hun (hI.chg.alloc _) (fun g o h _ => (Below.heap_alloc _ _ _ (Array.getElem?_eq_some_iff.1 h).1).trans h) (fun _ t => t.elim) (fun v h => by cases h) (fun c hc e => by obtain rfl : c = 0 := (by omega); exact ⟨hB, fun g hg => by simp only [Value.ownBlock, Option.some.injEq] at hg; omega⟩) (fun c _ e => by omega) (fun e => absurd e (by decide)) (fun e => absurd e (by decide)) (fun e => absurd e (by decide)))
    | 5, _, hun, hdep =>
      exact wpOp_of (v := (.pointer (some ⟨x, 0, none⟩))) (w' := w1) (by rw [← hops]; rfl) (by rfl) (by simp [execOp, Act.eval, hI.t0, go_sem]) (hI.step (T := (fun _ => False)) (by decide) hun hI.chg (fun g o h _ => h) (fun _ t => t.elim) (fun v' h => by cases h; rfl) (fun c _ e => by omega) (fun c _ e => by omega) (fun e => absurd e (by decide)) (fun e => absurd e (by decide)) (fun e => absurd e (by decide)))
    | 6, _, hun, hdep =>
      have ht : a.tmps.getD 8 undef = (.pointer (some ⟨x, 0, none⟩)) := hI.p 5 _ rfl (hdep _ (by rw [← hops]; rfl) ⟨5, .data⟩ (by simp) rfl)
      exact wpOp_of (v := (.pointer (some ⟨x, 0, none⟩))) (w' := w1) (by rw [← hops]; rfl) (by rfl) (by simp [execOp, Act.eval, ht, go_sem]) (hI.step (T := (fun _ => False)) (by decide) hun hI.chg (fun g o h _ => h) (fun _ t => t.elim) (fun v' h => by cases h; rfl) (fun c _ e => by omega) (fun c _ e => by omega) (fun e => absurd e (by decide)) (fun e => absurd e (by decide)) (fun e => absurd e (by decide)))
    | 7, _, hun, hdep =>
      have ht : a.tmps.getD 9 undef = (.pointer (some ⟨x, 0, none⟩)) := hI.p 6 _ rfl (hdep _ (by rw [← hops]; rfl) ⟨6, .data⟩ (by simp) rfl)
      exact wpOp_of (v := (.pointer (some ⟨x, 1, none⟩))) (w' := w1) (by rw [← hops]; rfl) (by rfl) (by simp [execOp, Act.eval, ht, go_sem]) (hI.step (T := (fun _ => False)) (by decide) hun hI.chg (fun g o h _ => h) (fun _ t => t.elim) (fun v' h => by cases h; rfl) (fun c _ e => by omega) (fun c _ e => by omega) (fun e => absurd e (by decide)) (fun e => absurd e (by decide)) (fun e => absurd e (by decide)))
    | 8, _, hun, hdep =>
      have ht : a.tmps.getD 10 undef = (.pointer (some ⟨x, 1, none⟩)) := hI.p 7 _ rfl (hdep _ (by rw [← hops]; rfl) ⟨7, .data⟩ (by simp) rfl)
      have hcc := (H.out.stay hI.chg (fun _ _ f => f)).cells.2.1
      exact wpOp_of (v := (.slice R.ko r.K.length R.kc)) (w' := w1) (by rw [← hops]; rfl) (by rfl) (by simp [execOp, Act.eval, ht, hcc, go_sem]) (hI.step (T := (fun _ => False)) (by decide) hun hI.chg (fun g o h _ => h) (fun _ t => t.elim) (fun v' h => by cases h; rfl) (fun c _ e => by omega) (fun c _ e => by omega) (fun e => absurd e (by decide)) (fun e => absurd e (by decide)) (fun e => absurd e (by decide)))
    | 9, _, hun, hdep =>
      have hun2 := bool_of (by rw [hI.size]; omega) hun
      obtain ⟨g, hv, hgh, hgl⟩ := hI.b 0 (by omega) (hdep _ (by rw [← hops]; rfl) ⟨4, .data⟩ (by simp) rfl) hun
      have hog : Own listed a 0 g := Or.inr ⟨hun2, (hdep _ (by rw [← hops]; rfl) ⟨4, .data⟩ (by simp) rfl), by rw [hv]; rfl⟩
      have ht : a.tmps.getD 7 undef = .slice (some ⟨g, 0, none⟩) 0 0 := hv
      have hsrc : a.tmps.getD 11 undef = (.slice R.ko r.K.length R.kc) := hI.p 8 _ rfl (hdep _ (by rw [← hops]; rfl) ⟨8, .data⟩ (by simp) rfl)
      have hR := H.out.stay hI.chg (fun _ _ f => f)
      obtain ⟨ie, ze, hie, hze, hsze, hbye, hzse⟩ := info73
      refine wpOp_wp (by rw [← hops]; rfl) (by rfl) ?_
      refine wp_append_sl (.tmp 7) (.tmp 11) 39 rfl 73 ie ze 2 32 Try.underlying39 hie hze hsze hbye hzse (by decide) (.slice (some ⟨g, 0, none⟩) 0 0) 0 [] ht ⟨by simp, Or.inr ⟨g, 0, #[], rfl, hgh, Nat.le_refl _, by simp, by simp, by simp⟩⟩ R.ko r.K.length R.kc (fcells r.K) hsrc (fcells_len r.K) (sl_src hR.k).1 (sl_src hR.k).2 (fcells_one r.K) (by simp only [maxLen]; omega) (by omega) ?_
      intro v' w2 hsl hgrow hat
      rw [Nat.zero_add, List.nil_append] at hsl
      obtain ⟨lo2, lc2, rfl⟩ := sl_shape hsl
      have hA : AP w r 0 (.slice lo2 r.K.length lc2) w2 ∧ ∀ k, (Value.slice lo2 r.K.length lc2).ownBlock = some k → Own listed a 0 k ∨ w1.heap.size ≤ k := ⟨⟨lo2, lc2, rfl, hsl, fun k hk => by
        have hk' : (Value.slice lo2 r.K.length lc2).ownBlock = some k := hk
        rw [hk'] at hat
        rcases hat with e | e
        · simp [Value.ownBlock] at e; omega
        · cases e; exact hI.chg.size⟩, fun k hk => by
        rw [hk] at hat
        rcases hat with e | e
        · simp [Value.ownBlock] at e; subst e; exact Or.inl hog
        · cases e; exact Or.inr (Nat.le_refl _)⟩
      exact hI.step (T := fun k => k = g) (by decide) hun (hI.chg.grown hgrow (fun i hi => Or.inr (by simp [Value.ownBlock] at hi; omega))) (fun k o hk hne => (hgrow.block k (Array.getElem?_eq_some_iff.1 hk).1 (fun e => by simp [Value.ownBlock] at e; exact hne e)).trans hk) (fun k t => by subst t; exact ⟨0, by omega, rfl, hog⟩) (fun v h => by cases h) (fun c _ e => by omega) (fun c hc e => by obtain rfl : c = 0 := (by omega); exact hA) (fun e => absurd e (by decide)) (fun e => absurd e (by decide)) (fun e => absurd e (by decide))
    | 10, _, hun, hdep =>
      have hB : BS w 1 (.slice (some ⟨w1.heap.size, 0, none⟩) 0 0) (w1.alloc (.cells #[] 68)) := ⟨w1.heap.size, rfl, Go.heap_alloc_new _ _, hI.chg.size⟩
      exact wpOp_of (v := .slice (some ⟨w1.heap.size, 0, none⟩) 0 0) (w' := w1.alloc (.cells #[] 68)) (by rw [← hops]; rfl) (by rfl) (by simp [execOp, Act.eval, go_sem]) (hI.step (T := (fun _ => False)) (by decide) hun (hI.chg.alloc _) (fun g o h _ => (Below.heap_alloc _ _ _ (Array.getElem?_eq_some_iff.1 h).1).trans h) (fun _ t => t.elim) (fun v h => by cases h) (fun c hc e => by obtain rfl : c = 1 := (by omega); exact ⟨hB, fun g hg => by simp only [Value.ownBlock, Option.some.injEq] at hg; omega⟩) (fun c _ e => by omega) (fun e => absurd e (by decide)) (fun e => absurd e (by decide)) (fun e => absurd e (by decide)))
    | 11, _, hun, hdep =>
      exact wpOp_of (v := (.pointer (some ⟨x, 0, none⟩))) (w' := w1) (by rw [← hops]; rfl) (by rfl) (by simp [execOp, Act.eval, hI.t0, go_sem]) (hI.step (T := (fun _ => False)) (by decide) hun hI.chg (fun g o h _ => h) (fun _ t => t.elim) (fun v' h => by cases h; rfl) (fun c _ e => by omega) (fun c _ e => by omega) (fun e => absurd e (by decide)) (fun e => absurd e (by decide)) (fun e => absurd e (by decide)))
    | 12, _, hun, hdep =>
      have ht : a.tmps.getD 14 undef = (.pointer (some ⟨x, 0, none⟩)) := hI.p 11 _ rfl (hdep _ (by rw [← hops]; rfl) ⟨11, .data⟩ (by simp) rfl)
      exact wpOp_of (v := (.pointer (some ⟨x, 0, none⟩))) (w' := w1) (by rw [← hops]; rfl) (by rfl) (by simp [execOp, Act.eval, ht, go_sem]) (hI.step (T := (fun _ => False)) (by decide) hun hI.chg (fun g o h _ => h) (fun _ t => t.elim) (fun v' h => by cases h; rfl) (fun c _ e => by omega) (fun c _ e => by omega) (fun e => absurd e (by decide)) (fun e => absurd e (by decide)) (fun e => absurd e (by decide)))
    | 13, _, hun, hdep =>
      have ht : a.tmps.getD 15 undef = (.pointer (some ⟨x, 0, none⟩)) := hI.p 12 _ rfl (hdep _ (by rw [← hops]; rfl) ⟨12, .data⟩ (by simp) rfl)
      exact wpOp_of (v := (.pointer (some ⟨x, 2, none⟩))) (w' := w1) (by rw [← hops]; rfl) (by rfl) (by simp [execOp, Act.eval, ht, go_sem]) (hI.step (T := (fun _ => False)) (by decide) hun hI.chg (fun g o h _ => h) (fun _ t => t.elim) (fun v' h => by cases h; rfl) (fun c _ e => by omega) (fun c _ e => by omega) (fun e => absurd e (by decide)) (fun e => absurd e (by decide)) (fun e => absurd e (by decide)))
    | 14, _, hun, hdep =>
      have ht : a.tmps.getD 16 undef = (.pointer (some ⟨x, 2, none⟩)) := hI.p 13 _ rfl (hdep _ (by rw [← hops]; rfl) ⟨13, .data⟩ (by simp) rfl)
      have hcc := (H.out.stay hI.chg (fun _ _ f => f)).cells.2.2.1
      exact wpOp_of (v := (.slice R.oo r.T.length R.oc)) (w' := w1) (by rw [← hops]; rfl) (by rfl) (by simp [execOp, Act.eval, ht, hcc, go_sem]) (hI.step (T := (fun _ => False)) (by decide) hun hI.chg (fun g o h _ => h) (fun _ t => t.elim) (fun v' h => by cases h; rfl) (fun c _ e => by omega) (fun c _ e => by omega) (fun e => absurd e (by decide)) (fun e => absurd e (by decide)) (fun e => absurd e (by decide)))
    | 15, _, hun, hdep =>
      have hun2 := bool_of (by rw [hI.size]; omega) hun
      obtain ⟨g, hv, hgh, hgl⟩ := hI.b 1 (by omega) (hdep _ (by rw [← hops]; rfl) ⟨10, .data⟩ (by simp) rfl) hun
      have hog : Own listed a 1 g := Or.inr ⟨hun2, (hdep _ (by rw [← hops]; rfl) ⟨10, .data⟩ (by simp) rfl), by rw [hv]; rfl⟩
      have ht : a.tmps.getD 13 undef = .slice (some ⟨g, 0, none⟩) 0 0 := hv
      have hsrc : a.tmps.getD 17 undef = (.slice R.oo r.T.length R.oc) := hI.p 14 _ rfl (hdep _ (by rw [← hops]; rfl) ⟨14, .data⟩ (by simp) rfl)
      have hR := H.out.stay hI.chg (fun _ _ f => f)
      obtain ⟨ie, ze, hie, hze, hsze, hbye, hzse⟩ := info68
      refine wpOp_wp (by rw [← hops]; rfl) (by rfl) ?_
      refine wp_append_sl (.tmp 13) (.tmp 17) 40 rfl 68 ie ze 4 48 Try.underlying40 hie hze hsze hbye hzse (by decide) (.slice (some ⟨g, 0, none⟩) 0 0) 0 [] ht ⟨by simp, Or.inr ⟨g, 0, #[], rfl, hgh, Nat.le_refl _, by simp, by simp, by simp⟩⟩ R.oo r.T.length R.oc (ocells r.T) hsrc (ocells_len r.T) (sl_src hR.o).1 (sl_src hR.o).2 (ocells_one r.T) (by simp only [maxLen]; omega) (by omega) ?_
      intro v' w2 hsl hgrow hat
      rw [Nat.zero_add, List.nil_append] at hsl
      obtain ⟨lo2, lc2, rfl⟩ := sl_shape hsl
      have hA : AP w r 1 (.slice lo2 r.T.length lc2) w2 ∧ ∀ k, (Value.slice lo2 r.T.length lc2).ownBlock = some k → Own listed a 1 k ∨ w1.heap.size ≤ k := ⟨⟨lo2, lc2, rfl, hsl, fun k hk => by
        have hk' : (Value.slice lo2 r.T.length lc2).ownBlock = some k := hk
        rw [hk'] at hat
        rcases hat with e | e
        · simp [Value.ownBlock] at e; omega
        · cases e; exact hI.chg.size⟩, fun k hk => by
        rw [hk] at hat
        rcases hat with e | e
        · simp [Value.ownBlock] at e; subst e; exact Or.inl hog
        · cases e; exact Or.inr (Nat.le_refl _)⟩
      exact hI.step (T := fun k => k = g) (by decide) hun (hI.chg.grown hgrow (fun i hi => Or.inr (by simp [Value.ownBlock] at hi; omega))) (fun k o hk hne => (hgrow.block k (Array.getElem?_eq_some_iff.1 hk).1 (fun e => by simp [Value.ownBlock] at e; exact hne e)).trans hk) (fun k t => by subst t; exact ⟨1, by omega, rfl, hog⟩) (fun v h => by cases h) (fun c _ e => by omega) (fun c hc e => by obtain rfl : c = 1 := (by omega); exact hA) (fun e => absurd e (by decide)) (fun e => absurd e (by decide)) (fun e => absurd e (by decide))
    | 16, _, hun, hdep =>
      have hB : BS w 2 (.slice (some ⟨w1.heap.size, 0, none⟩) 0 0) (w1.alloc (.cells #[] 73)) := ⟨w1.heap.size, rfl, Go.heap_alloc_new _ _, hI.chg.size⟩
      exact wpOp_of (v := .slice (some ⟨w1.heap.size, 0, none⟩) 0 0) (w' := w1.alloc (.cells #[] 73)) (by rw [← hops]; rfl) (by rfl) (by simp [execOp, Act.eval, go_sem]) (hI.step (T := (fun _ => False)) (by decide) hun (hI.chg.alloc _) (fun g o h _ => (Below.heap_alloc _ _ _ (Array.getElem?_eq_some_iff.1 h).1).trans h) (fun _ t => t.elim) (fun v h => by cases h) (fun c hc e => by obtain rfl : c = 2 := (by omega); exact ⟨hB, fun g hg => by simp only [Value.ownBlock, Option.some.injEq] at hg; omega⟩) (fun c _ e => by omega) (fun e => absurd e (by decide)) (fun e => absurd e (by decide)) (fun e => absurd e (by decide)))
    | 17, _, hun, hdep =>
      exact wpOp_of (v := (.pointer (some ⟨x, 0, none⟩))) (w' := w1) (by rw [← hops]; rfl) (by rfl) (by simp [execOp, Act.eval, hI.t0, go_sem]) (hI.step (T := (fun _ => False)) (by decide) hun hI.chg (fun g o h _ => h) (fun _ t => t.elim) (fun v' h => by cases h; rfl) (fun c _ e => by omega) (fun c _ e => by omega) (fun e => absurd e (by decide)) (fun e => absurd e (by decide)) (fun e => absurd e (by decide)))
    | 18, _, hun, hdep =>
      have ht : a.tmps.getD 20 undef = (.pointer (some ⟨x, 0, none⟩)) := hI.p 17 _ rfl (hdep _ (by rw [← hops]; rfl) ⟨17, .data⟩ (by simp) rfl)
      exact wpOp_of (v := (.pointer (some ⟨x, 0, none⟩))) (w' := w1) (by rw [← hops]; rfl) (by rfl) (by simp [execOp, Act.eval, ht, go_sem]) (hI.step (T := (fun _ => False)) (by decide) hun hI.chg (fun g o h _ => h) (fun _ t => t.elim) (fun v' h => by cases h; rfl) (fun c _ e => by omega) (fun c _ e => by omega) (fun e => absurd e (by decide)) (fun e => absurd e (by decide)) (fun e => absurd e (by decide)))
    | 19, _, hun, hdep =>
      have ht : a.tmps.getD 21 undef = (.pointer (some ⟨x, 0, none⟩)) := hI.p 18 _ rfl (hdep _ (by rw [← hops]; rfl) ⟨18, .data⟩ (by simp) rfl)
      exact wpOp_of (v := (.pointer (some ⟨x, 3, none⟩))) (w' := w1) (by rw [← hops]; rfl) (by rfl) (by simp [execOp, Act.eval, ht, go_sem]) (hI.step (T := (fun _ => False)) (by decide) hun hI.chg (fun g o h _ => h) (fun _ t => t.elim) (fun v' h => by cases h; rfl) (fun c _ e => by omega) (fun c _ e => by omega) (fun e => absurd e (by decide)) (fun e => absurd e (by decide)) (fun e => absurd e (by decide)))
    | 20, _, hun, hdep =>
      have ht : a.tmps.getD 22 undef = (.pointer (some ⟨x, 3, none⟩)) := hI.p 19 _ rfl (hdep _ (by rw [← hops]; rfl) ⟨19, .data⟩ (by simp) rfl)
      have hcc := (H.out.stay hI.chg (fun _ _ f => f)).cells.2.2.2
      exact wpOp_of (v := (.slice R.no r.N.length R.nc)) (w' := w1) (by rw [← hops]; rfl) (by rfl) (by simp [execOp, Act.eval, ht, hcc, go_sem]) (hI.step (T := (fun _ => False)) (by decide) hun hI.chg (fun g o h _ => h) (fun _ t => t.elim) (fun v' h => by cases h; rfl) (fun c _ e => by omega) (fun c _ e => by omega) (fun e => absurd e (by decide)) (fun e => absurd e (by decide)) (fun e => absurd e (by decide)))
    | 21, _, hun, hdep =>
      have hun2 := bool_of (by rw [hI.size]; omega) hun
      obtain ⟨g, hv, hgh, hgl⟩ := hI.b 2 (by omega) (hdep _ (by rw [← hops]; rfl) ⟨16, .data⟩ (by simp) rfl) hun
      have hog : Own listed a 2 g := Or.inr ⟨hun2, (hdep _ (by rw [← hops]; rfl) ⟨16, .data⟩ (by simp) rfl), by rw [hv]; rfl⟩
      have ht : a.tmps.getD 19 undef = .slice (some ⟨g, 0, none⟩) 0 0 := hv
      have hsrc : a.tmps.getD 23 undef = (.slice R.no r.N.length R.nc) := hI.p 20 _ rfl (hdep _ (by rw [← hops]; rfl) ⟨20, .data⟩ (by simp) rfl)
      have hR := H.out.stay hI.chg (fun _ _ f => f)
      obtain ⟨ie, ze, hie, hze, hsze, hbye, hzse⟩ := info73
      refine wpOp_wp (by rw [← hops]; rfl) (by rfl) ?_
      refine wp_append_sl (.tmp 19) (.tmp 23) 39 rfl 73 ie ze 2 32 Try.underlying39 hie hze hsze hbye hzse (by decide) (.slice (some ⟨g, 0, none⟩) 0 0) 0 [] ht ⟨by simp, Or.inr ⟨g, 0, #[], rfl, hgh, Nat.le_refl _, by simp, by simp, by simp⟩⟩ R.no r.N.length R.nc (fcells r.N) hsrc (fcells_len r.N) (sl_src hR.n).1 (sl_src hR.n).2 (fcells_one r.N) (by simp only [maxLen]; omega) (by omega) ?_
      intro v' w2 hsl hgrow hat
      rw [Nat.zero_add, List.nil_append] at hsl
      obtain ⟨lo2, lc2, rfl⟩ := sl_shape hsl
      have hA : AP w r 2 (.slice lo2 r.N.length lc2) w2 ∧ ∀ k, (Value.slice lo2 r.N.length lc2).ownBlock = some k → Own listed a 2 k ∨ w1.heap.size ≤ k := ⟨⟨lo2, lc2, rfl, hsl, fun k hk => by
        have hk' : (Value.slice lo2 r.N.length lc2).ownBlock = some k := hk
        rw [hk'] at hat
        rcases hat with e | e
        · simp [Value.ownBlock] at e; omega
        · cases e; exact hI.chg.size⟩, fun k hk => by
        rw [hk] at hat
        rcases hat with e | e
        · simp [Value.ownBlock] at e; subst e; exact Or.inl hog
        · cases e; exact Or.inr (Nat.le_refl _)⟩
      exact hI.step (T := fun k => k = g) (by decide) hun (hI.chg.grown hgrow (fun i hi => Or.inr (by simp [Value.ownBlock] at hi; omega))) (fun k o hk hne => (hgrow.block k (Array.getElem?_eq_some_iff.1 hk).1 (fun e => by simp [Value.ownBlock] at e; exact hne e)).trans hk) (fun k t => by subst t; exact ⟨2, by omega, rfl, hog⟩) (fun v h => by cases h) (fun c _ e => by omega) (fun c hc e => by obtain rfl : c = 2 := (by omega); exact hA) (fun e => absurd e (by decide)) (fun e => absurd e (by decide)) (fun e => absurd e (by decide))
    | 22, _, hun, hdep =>
      have hall : ∀ c, c < 3 → listed.getD (9 + 6 * c) false = true := fun c hc => by
        match c, hc with
        | 0, _ => exact (hdep _ (by rw [← hops]; rfl) ⟨9, .data⟩ (by simp) rfl)
        | 1, _ => exact (hdep _ (by rw [← hops]; rfl) ⟨15, .data⟩ (by simp) rfl)
        | 2, _ => exact (hdep _ (by rw [← hops]; rfl) ⟨21, .data⟩ (by simp) rfl)
      have ht : a.tmps.getD 6 undef = .int .i64 r.room := hI.p 3 _ rfl (hdep _ (by rw [← hops]; rfl) ⟨3, .data⟩ (by simp) rfl)
      obtain ⟨l0, k0, e0, -⟩ := hI.ap 0 (by omega) (hall 0 (by omega))
      obtain ⟨l1, k1, e1, -⟩ := hI.ap 1 (by omega) (hall 1 (by omega))
      obtain ⟨l2, k2, e2, -⟩ := hI.ap 2 (by omega) (hall 2 (by omega))
      refine wpOp_of (v := .agg (four r fun i => a.tmps.getD i undef)) (w' := w1) (by rw [← hops]; rfl) (by rfl) ?_ (hI.step (T := (fun _ => False)) (by decide) hun hI.chg (fun g o h _ => h) (fun _ t => t.elim) (fun v h => by cases h) (fun c _ e => by omega) (fun c _ e => by omega) (fun _ => ⟨hall, rfl⟩) (fun e => absurd e (by decide)) (fun e => absurd e (by decide)))
      simp only [Nat.reduceMul, Nat.reduceAdd] at e0 e1 e2
      rw [Array.getD_eq_getD_getElem?] at ht e0 e1 e2
      simp [execOp, Act.eval, ht, e0, e1, e2, four, go_sem]
    | 23, _, hun, hdep =>
      obtain ⟨q1, q2⟩ := hI.bld (hdep _ (by rw [← hops]; rfl) ⟨22, .data⟩ (by simp) rfl)
      exact wpOp_of (v := .pointer (some ⟨w1.heap.size, 0, none⟩)) (w' := w1.alloc (.cells (four r fun i => a.tmps.getD i undef) 42)) (by rw [← hops]; rfl) (by rfl) (by simp [execOp, Act.eval, q2, go_sem]) (hI.step (T := (fun _ => False)) (by decide) hun (hI.chg.alloc _) (fun g o h _ => (Below.heap_alloc _ _ _ (Array.getElem?_eq_some_iff.1 h).1).trans h) (fun _ t => t.elim) (fun v h => by cases h) (fun c _ e => by omega) (fun c _ e => by omega) (fun e => absurd e (by decide)) (fun _ => ⟨hdep _ (by rw [← hops]; rfl) ⟨22, .data⟩ (by simp) rfl, w1.heap.size, rfl, Go.heap_alloc_new _ _, hI.chg.size⟩) (fun e => absurd e (by decide)))
    | 24, _, hun, hdep =>
      exact wpOp_of (v := a.tmps.getD 26 undef) (w' := w1) (by rw [← hops]; rfl) (by rfl) (by simp [execOp, Act.eval, go_sem]) (hI.step (T := (fun _ => False)) (by decide) hun hI.chg (fun g o h _ => h) (fun _ t => t.elim) (fun v h => by cases h) (fun c _ e => by omega) (fun c _ e => by omega) (fun e => absurd e (by decide)) (fun e => absurd e (by decide)) (fun _ => ⟨hdep _ (by rw [← hops]; rfl) ⟨23, .data⟩ (by simp) rfl, rfl⟩))
    | n + 25, hi, _, _ => omega
theorem rcopy_any (h : RIs w x F S r) : Calls Try.prog 21 #[.pointer (some ⟨x, 0, none⟩)] w fun e w' => ∃ y, e = .returned (.pointer (some ⟨y, 0, none⟩)) ∧ RIs w' y (fun g => w.heap.size ≤ g) S r ∧ Chg (fun _ => False) w w' := by
  obtain ⟨kv, ov, nv, h⟩ := h
  obtain ⟨ko, kc, rfl⟩ := h.k.shape
  obtain ⟨no, nc, rfl⟩ := h.n.shape
  obtain ⟨oo, oc, rfl⟩ := sl_shape h.o
  exact rcopy_lay (R := ⟨ko, kc, oo, oc, no, nc⟩) h
end
end Go.Proofs.Ytjflkmihkfbgpaa
