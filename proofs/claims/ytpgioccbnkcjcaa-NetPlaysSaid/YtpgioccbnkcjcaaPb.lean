/- Copy of the document's net. -/
import Derived.Test.YtpgioccbnkcjcaaPa
namespace Go.Proofs.Ytpgioccbnkcjcaa
open Go.RowKit Mk
theorem info4b : ∃ i z, Try.prog.info? 4 = some i ∧ i.zero = some z ∧ i.size = 1 ∧ i.bytes = 1 ∧ z.cells.size = 1 := by
  obtain ⟨i, hi, hzz⟩ := Option.map_eq_some_iff.1 info4
  simp only [Prod.mk.injEq] at hzz
  exact ⟨i, _, hi, hzz.1, hzz.2.1, hzz.2.2, rfl⟩
theorem info3j : (Try.prog.info? 3).map (fun i => (i.zero, i.size, i.bytes)) = some (some (.int .i64 0), 1, 8) := by kernel_rfl
theorem info26j : (Try.prog.info? 26).map (fun i => (i.zero, i.size, i.bytes)) = some (some (.int .u64 0), 1, 8) := by kernel_rfl
theorem info3b : ∃ i z, Try.prog.info? 3 = some i ∧ i.zero = some z ∧ i.size = 1 ∧ i.bytes = 8 ∧ z.cells.size = 1 := by
  obtain ⟨i, hi, hzz⟩ := Option.map_eq_some_iff.1 info3j
  simp only [Prod.mk.injEq] at hzz
  exact ⟨i, _, hi, hzz.1, hzz.2.1, hzz.2.2, rfl⟩
theorem info26b : ∃ i z, Try.prog.info? 26 = some i ∧ i.zero = some z ∧ i.size = 1 ∧ i.bytes = 8 ∧ z.cells.size = 1 := by
  obtain ⟨i, hi, hzz⟩ := Option.map_eq_some_iff.1 info26j
  simp only [Prod.mk.injEq] at hzz
  exact ⟨i, _, hi, hzz.1, hzz.2.1, hzz.2.2, rfl⟩
theorem wpOp_wp {P : Program} {ops : Array Oper} {Q : Exit → Act → World → Prop} {i : Nat} {o : Oper} {a : Act} {w : World} {K : Act → World → Prop} (ho : ops[i]? = some o) (hw : Region.wanted o (yielded ops a.tmps) = true) (h : o.wp P a w K Q) : wpOp P ops Q i K a w := by
  unfold wpOp
  rw [ho]
  simp only [hw, if_true]
  exact Or.inl h
theorem region_gen {P : Program} {ops : Array Oper} {Q : Exit → Act → World → Prop} {id : Nat} {a : Act} {w : World} (hm : P.follows .mixedOrders = true) (h : ∀ ops', ops = ops' → wpAny P .any ops' Q ops'.size (Array.replicate ops'.size false) a w.drew) : (Code.region id ops true).wp P Q a w := wp_region_any hm (h ops rfl)
def topo (ops : Array Oper) : Bool := (List.range ops.size).all fun i => ((ops[i]?).map fun o => o.after.all fun e => decide (e.on < i)).getD true
theorem topo_spec {ops : Array Oper} (h : topo ops = true) : ∀ (i : Nat) (o : Oper), ops[i]? = some o → ∀ e ∈ o.after, e.on < i := by
  intro i o ho e he
  unfold topo at h
  rw [List.all_eq_true] at h
  have := h i (by simp [(Array.getElem?_eq_some_iff.1 ho).1])
  rw [ho] at this
  simp only [Option.map_some, Option.getD_some] at this
  rw [Array.all_eq_true_iff_forall_mem] at this
  simpa using this e he
theorem rep_false (N k : Nat) : (Array.replicate N false).getD k false = false := by
  rw [Array.getD_eq_getD_getElem?]
  by_cases h : k < N
  · simp [h]
  · simp [h]
theorem src_cells {w : World} {e : TypeId} {size n c : Nat} {lo : Option Addr} {xs : List Value} (h : sl w e size (.slice lo n c) n xs) : 0 < n → ∃ a, lo = some a ∧ ∀ j u, xs[j]? = some u → w.cell? (a.add j) = some u := by
  intro hn
  rcases h.2 with ⟨_, h0⟩ | ⟨g, cap, cur, e', _⟩
  · omega
  · simp only [Value.slice.injEq] at e'
    obtain ⟨rfl, -, rfl⟩ := e'
    exact ⟨_, rfl, fun j u hj => by rw [addr_add, Nat.zero_add]; exact h.at hj⟩
theorem src_nil {w : World} {e : TypeId} {size n c : Nat} {lo : Option Addr} {xs : List Value} (h : sl w e size (.slice lo n c) n xs) : n = 0 → lo = none → c = 0 := by
  rintro - rfl
  rcases h.2 with ⟨e', _⟩ | ⟨g, cap, cur, e', _⟩
  · simp only [Value.slice.injEq] at e'; exact e'.2.2
  · simp at e'
theorem ones_l (n : NetM) : ∀ u ∈ pcells n.l, u.oneCell' = true := pcells_one n.l
theorem ones_s (n : NetM) : ∀ u ∈ scells n.ms, u.oneCell' = true := by
  intro u hu
  rcases List.mem_cons.1 hu with rfl | hu
  · rfl
  · obtain ⟨m, _, rfl⟩ := List.mem_map.1 hu; rfl
theorem ones_t (n : NetM) : ∀ u ∈ tcells n.ms, u.oneCell' = true := by
  intro u hu
  rcases List.mem_cons.1 hu with rfl | hu
  · rfl
  · obtain ⟨m, _, rfl⟩ := List.mem_map.1 hu; rfl
theorem ones_d (n : NetM) : ∀ u ∈ dcells n.ms, u.oneCell' = true := by
  intro u hu
  rcases List.mem_cons.1 hu with rfl | hu
  · rfl
  · obtain ⟨m, _, rfl⟩ := List.mem_map.1 hu; rfl
section
variable {w : World} {x : Nat} {R : Lay} {F : Nat → Prop} {n : NetM}
set_option maxRecDepth 100000 in
set_option maxHeartbeats 4000000 in
theorem rcopy_any (h : RefRep w x R F n) :
    Calls Try.prog 23 #[.pointer (some ⟨x, 0, none⟩)] w fun e w' => ∃ y, e = .returned (.pointer (some ⟨y, 0, none⟩)) ∧ RefIs w' y (fun g => w.heap.size ≤ g) n ∧ Chg (fun _ => False) w w' := by
  have H := Lib.hid h
  have hfew := h.few.1
  have hund := h.under
  clear h
  go_enter Try.func23, Try.ntmps23
  go_wp2
  refine region_gen (by kernel_rfl) (fun ops hops => ?_)
  refine wpAny_inv (I := CI w x R n) ?hs ?hd ?ht ?hz _ _ _ _ ?hI ?hu
  case hz => rw [← hops]; exact fun _ _ _ h => h.size
  case ht => exact topo_spec (by subst hops; kernel_rfl)
  case hu =>
    have : ops.size = 31 := by rw [← hops]; rfl
    rw [this]
    decide
  case hI =>
    have hsz : ops.size = 31 := by rw [← hops]; rfl
    rw [hsz]
    have no : ∀ k, (Array.replicate 31 false).getD k false = true → False := fun k h => by rw [rep_false] at h; cases h
    exact ⟨by simp, rfl, rfl, rfl, (Chg.refl _ _).drew, fun k v _ h => (no k h).elim, fun c _ h => (no _ h).elim, fun c _ h => (no _ h).elim, fun h => (no _ h).elim, fun h => (no _ h).elim, fun h => (no _ h).elim⟩
  case hd =>
    have hsz : ops.size = 31 := by rw [← hops]; rfl
    intro listed a w1 hI hall
    have hal : ∀ k, k < 31 → listed.getD k false = true := fun k hk => by
      have := hall k (by omega)
      have hl := hI.size
      have h2 : k < listed.size := by omega
      simp only [Array.getD, h2, dif_pos] at this ⊢
      exact this
    obtain ⟨-, q1⟩ := hI.asg (hal 30 (by omega))
    obtain ⟨-, y, q2, q3, q4⟩ := hI.box (hal 29 (by omega))
    obtain ⟨l0, k0, e0, s0, o0, z0⟩ := hI.ap 0 (by omega) (hal 9 (by omega))
    obtain ⟨l1, k1, e1, s1, o1, z1⟩ := hI.ap 1 (by omega) (hal 15 (by omega))
    obtain ⟨l2, k2, e2, s2, o2, z2⟩ := hI.ap 2 (by omega) (hal 21 (by omega))
    obtain ⟨l3, k3, e3, s3, o3, z3⟩ := hI.ap 3 (by omega) (hal 27 (by omega))
    simp only [Nat.reduceMul, Nat.reduceAdd] at e0 e1 e2 e3
    have hsome : ∀ {e : TypeId} {l : Option Addr} {k : Nat} {X : List Value}, sl w1 e 1 (.slice l (n.ms.length + 1) k) (n.ms.length + 1) X → ∃ g, l = some ⟨g, 0, none⟩ := fun hs => by
      rcases hs.2 with ⟨_, h0⟩ | ⟨g, cap, cur, e', _⟩
      · omega
      · simp only [Value.slice.injEq] at e'; exact ⟨g, e'.1⟩
    obtain ⟨g1, rfl⟩ := hsome s1
    obtain ⟨g2, rfl⟩ := hsome s2
    obtain ⟨g3, rfl⟩ := hsome s3
    have HR : RefIs w1 y (fun g => w.heap.size ≤ g) n := by
      refine ⟨⟨l0, k0, g1, k1, g2, k2, g3, k3⟩, ?_, s0, s1, s2, s3, H.out.few, H.out.under, q4, fun g o e => o0 g (by simp only at e; rw [e]; rfl), o1 g1 rfl, o2 g2 rfl, o3 g3 rfl⟩
      have q3' : w1.heap[y]? = some (.cells #[.int .i64 n.ms.length, a.tmps.getD 12 undef, a.tmps.getD 18 undef, a.tmps.getD 24 undef, a.tmps.getD 30 undef] 84) := q3
      rw [e0, e1, e2, e3] at q3'
      exact q3'
    have HC := hI.chg
    have hdf := hI.dfr
    obtain ⟨tm, df⟩ := a
    simp only at hdf q1 q2
    subst hdf
    rw [q2] at q1
    clear hI hall hal e0 e1 e2 e3 s0 s1 s2 s3 o0 o1 o2 o3 z0 z1 z2 z3 q3 hops
    go_wp2
    go_ret
    exact ⟨y, congrArg Ending.returned q1, HR, HC⟩
  case hs =>
    intro listed a w1 hI i hi hun hdep
    have hi31 : i < 31 := by rw [← hops] at hi; exact hi
    clear hi
    match i, hi31, hun, hdep with
    | 0, _, hun, hdep =>
      exact wpOp_of (v := (.pointer (some ⟨x, 0, none⟩))) (w' := w1) (by rw [← hops]; rfl) (by rfl) (by simp [execOp, Act.eval, hI.t0, go_sem]) (hI.step (T := (fun _ => False)) (by decide) hun hI.chg (fun g o h _ => h) (fun _ _ _ t => t.elim) (fun v' h => by cases h; rfl) (fun c _ e => by omega) (fun c _ e => by omega) (fun e => absurd e (by decide)) (fun e => absurd e (by decide)) (fun e => absurd e (by decide)))
    | 1, _, hun, hdep =>
      have ht : a.tmps.getD 3 undef = (.pointer (some ⟨x, 0, none⟩)) := hI.p 0 _ rfl (hdep _ (by rw [← hops]; rfl) ⟨0, .data⟩ (by simp) rfl)
      exact wpOp_of (v := (.pointer (some ⟨x, 0, none⟩))) (w' := w1) (by rw [← hops]; rfl) (by rfl) (by simp [execOp, Act.eval, ht, go_sem]) (hI.step (T := (fun _ => False)) (by decide) hun hI.chg (fun g o h _ => h) (fun _ _ _ t => t.elim) (fun v' h => by cases h; rfl) (fun c _ e => by omega) (fun c _ e => by omega) (fun e => absurd e (by decide)) (fun e => absurd e (by decide)) (fun e => absurd e (by decide)))
    | 2, _, hun, hdep =>
      have ht : a.tmps.getD 4 undef = (.pointer (some ⟨x, 0, none⟩)) := hI.p 1 _ rfl (hdep _ (by rw [← hops]; rfl) ⟨1, .data⟩ (by simp) rfl)
      exact wpOp_of (v := (.pointer (some ⟨x, 0, none⟩))) (w' := w1) (by rw [← hops]; rfl) (by rfl) (by simp [execOp, Act.eval, ht, go_sem]) (hI.step (T := (fun _ => False)) (by decide) hun hI.chg (fun g o h _ => h) (fun _ _ _ t => t.elim) (fun v' h => by cases h; rfl) (fun c _ e => by omega) (fun c _ e => by omega) (fun e => absurd e (by decide)) (fun e => absurd e (by decide)) (fun e => absurd e (by decide)))
    | 3, _, hun, hdep =>
      have ht : a.tmps.getD 5 undef = (.pointer (some ⟨x, 0, none⟩)) := hI.p 2 _ rfl (hdep _ (by rw [← hops]; rfl) ⟨2, .data⟩ (by simp) rfl)
      have hcc := (H.out.stay hI.chg (fun _ _ f => f)).c0
      exact wpOp_of (v := (.int .i64 n.ms.length)) (w' := w1) (by rw [← hops]; rfl) (by rfl) (by simp [execOp, Act.eval, ht, hcc, go_sem]) (hI.step (T := (fun _ => False)) (by decide) hun hI.chg (fun g o h _ => h) (fun _ _ _ t => t.elim) (fun v' h => by cases h; rfl) (fun c _ e => by omega) (fun c _ e => by omega) (fun e => absurd e (by decide)) (fun e => absurd e (by decide)) (fun e => absurd e (by decide)))
    | 4, _, hun, hdep =>
      have hB : BS w 0 (.slice (some ⟨w1.heap.size, 0, none⟩) 0 0) (w1.alloc (.cells #[] 42)) := ⟨w1.heap.size, rfl, Go.heap_alloc_new _ _, hI.chg.size⟩
      exact wpOp_of (v := .slice (some ⟨w1.heap.size, 0, none⟩) 0 0) (w' := w1.alloc (.cells #[] 42)) (by rw [← hops]; rfl) (by rfl) (by simp [execOp, Act.eval, go_sem]) (hI.step (T := (fun _ => False)) (by decide) hun (hI.chg.alloc _) (fun g o h _ => (Below.heap_alloc _ _ _ (Array.getElem?_eq_some_iff.1 h).1).trans h) (fun _ _ _ t => t.elim) (fun v h => by cases h) (fun c hc e => by obtain rfl : c = 0 := (by omega); exact hB) (fun c _ e => by omega) (fun e => absurd e (by decide)) (fun e => absurd e (by decide)) (fun e => absurd e (by decide)))
    | 5, _, hun, hdep =>
      exact wpOp_of (v := (.pointer (some ⟨x, 0, none⟩))) (w' := w1) (by rw [← hops]; rfl) (by rfl) (by simp [execOp, Act.eval, hI.t0, go_sem]) (hI.step (T := (fun _ => False)) (by decide) hun hI.chg (fun g o h _ => h) (fun _ _ _ t => t.elim) (fun v' h => by cases h; rfl) (fun c _ e => by omega) (fun c _ e => by omega) (fun e => absurd e (by decide)) (fun e => absurd e (by decide)) (fun e => absurd e (by decide)))
    | 6, _, hun, hdep =>
      have ht : a.tmps.getD 8 undef = (.pointer (some ⟨x, 0, none⟩)) := hI.p 5 _ rfl (hdep _ (by rw [← hops]; rfl) ⟨5, .data⟩ (by simp) rfl)
      exact wpOp_of (v := (.pointer (some ⟨x, 0, none⟩))) (w' := w1) (by rw [← hops]; rfl) (by rfl) (by simp [execOp, Act.eval, ht, go_sem]) (hI.step (T := (fun _ => False)) (by decide) hun hI.chg (fun g o h _ => h) (fun _ _ _ t => t.elim) (fun v' h => by cases h; rfl) (fun c _ e => by omega) (fun c _ e => by omega) (fun e => absurd e (by decide)) (fun e => absurd e (by decide)) (fun e => absurd e (by decide)))
    | 7, _, hun, hdep =>
      have ht : a.tmps.getD 9 undef = (.pointer (some ⟨x, 0, none⟩)) := hI.p 6 _ rfl (hdep _ (by rw [← hops]; rfl) ⟨6, .data⟩ (by simp) rfl)
      exact wpOp_of (v := (.pointer (some ⟨x, 1, none⟩))) (w' := w1) (by rw [← hops]; rfl) (by rfl) (by simp [execOp, Act.eval, ht, go_sem]) (hI.step (T := (fun _ => False)) (by decide) hun hI.chg (fun g o h _ => h) (fun _ _ _ t => t.elim) (fun v' h => by cases h; rfl) (fun c _ e => by omega) (fun c _ e => by omega) (fun e => absurd e (by decide)) (fun e => absurd e (by decide)) (fun e => absurd e (by decide)))
    | 8, _, hun, hdep =>
      have ht : a.tmps.getD 10 undef = (.pointer (some ⟨x, 1, none⟩)) := hI.p 7 _ rfl (hdep _ (by rw [← hops]; rfl) ⟨7, .data⟩ (by simp) rfl)
      have hcc := (H.out.stay hI.chg (fun _ _ f => f)).c1
      exact wpOp_of (v := (.slice R.lo n.l.length R.lc)) (w' := w1) (by rw [← hops]; rfl) (by rfl) (by simp [execOp, Act.eval, ht, hcc, go_sem]) (hI.step (T := (fun _ => False)) (by decide) hun hI.chg (fun g o h _ => h) (fun _ _ _ t => t.elim) (fun v' h => by cases h; rfl) (fun c _ e => by omega) (fun c _ e => by omega) (fun e => absurd e (by decide)) (fun e => absurd e (by decide)) (fun e => absurd e (by decide)))
    | 9, _, hun, hdep =>
      have hun2 := hun
      obtain ⟨g, hv, hgh, hgl⟩ := hI.b 0 (by omega) (hdep _ (by rw [← hops]; rfl) ⟨4, .data⟩ (by simp) rfl) hun
      have ht : a.tmps.getD 7 undef = .slice (some ⟨g, 0, none⟩) 0 0 := hv
      have hsrc : a.tmps.getD 11 undef = (.slice R.lo n.l.length R.lc) := hI.p 8 _ rfl (hdep _ (by rw [← hops]; rfl) ⟨8, .data⟩ (by simp) rfl)
      have hR := H.out.stay hI.chg (fun _ _ f => f)
      obtain ⟨ie, ze, hie, hze, hsze, hbye, hzse⟩ := info42b
      refine wpOp_wp (by rw [← hops]; rfl) (by rfl) ?_
      refine wp_append_sl (.tmp 7) (.tmp 11) 49 rfl 42 ie ze 3 32 Try.underlying49 hie hze hsze hbye hzse (by decide) (.slice (some ⟨g, 0, none⟩) 0 0) 0 [] ht ⟨by simp, Or.inr ⟨g, 0, #[], rfl, hgh, Nat.le_refl _, by simp, by simp, by simp⟩⟩ R.lo n.l.length R.lc (pcells n.l) hsrc hR.l.1 (src_cells hR.l) (src_nil hR.l) (ones_l n) (by simp only [maxLen]; omega) (by omega) ?_
      intro v' w2 hsl hgrow hat
      rw [Nat.zero_add, List.nil_append] at hsl
      obtain ⟨lo2, lc2, rfl, hz2⟩ := sl_shape hsl
      have hA : AP w n 0 (.slice lo2 n.l.length lc2) w2 := ⟨lo2, lc2, rfl, hsl, fun k hk => by
        have hk' : (Value.slice lo2 n.l.length lc2).ownBlock = some k := hk
        rw [hk'] at hat
        rcases hat with e | e
        · simp [Value.ownBlock] at e; omega
        · cases e; exact hI.chg.size, hz2⟩
      exact hI.step (T := fun k => k = g) (by decide) hun (hI.chg.grown hgrow (fun i hi => Or.inr (by simp [Value.ownBlock] at hi; omega))) (fun k o hk hne => (hgrow.block k (Array.getElem?_eq_some_iff.1 hk).1 (fun e => by simp [Value.ownBlock] at e; exact hne e)).trans hk) (fun k cur e t hk => by subst t; rw [hgh] at hk; cases hk; exact ⟨0, by omega, rfl, rfl⟩) (fun v h => by cases h) (fun c _ e => by omega) (fun c hc e => by obtain rfl : c = 0 := (by omega); exact hA) (fun e => absurd e (by decide)) (fun e => absurd e (by decide)) (fun e => absurd e (by decide))
    | 10, _, hun, hdep =>
      have hB : BS w 1 (.slice (some ⟨w1.heap.size, 0, none⟩) 0 0) (w1.alloc (.cells #[] 4)) := ⟨w1.heap.size, rfl, Go.heap_alloc_new _ _, hI.chg.size⟩
      exact wpOp_of (v := .slice (some ⟨w1.heap.size, 0, none⟩) 0 0) (w' := w1.alloc (.cells #[] 4)) (by rw [← hops]; rfl) (by rfl) (by simp [execOp, Act.eval, go_sem]) (hI.step (T := (fun _ => False)) (by decide) hun (hI.chg.alloc _) (fun g o h _ => (Below.heap_alloc _ _ _ (Array.getElem?_eq_some_iff.1 h).1).trans h) (fun _ _ _ t => t.elim) (fun v h => by cases h) (fun c hc e => by obtain rfl : c = 1 := (by omega); exact hB) (fun c _ e => by omega) (fun e => absurd e (by decide)) (fun e => absurd e (by decide)) (fun e => absurd e (by decide)))
    | 11, _, hun, hdep =>
      exact wpOp_of (v := (.pointer (some ⟨x, 0, none⟩))) (w' := w1) (by rw [← hops]; rfl) (by rfl) (by simp [execOp, Act.eval, hI.t0, go_sem]) (hI.step (T := (fun _ => False)) (by decide) hun hI.chg (fun g o h _ => h) (fun _ _ _ t => t.elim) (fun v' h => by cases h; rfl) (fun c _ e => by omega) (fun c _ e => by omega) (fun e => absurd e (by decide)) (fun e => absurd e (by decide)) (fun e => absurd e (by decide)))
    | 12, _, hun, hdep =>
      have ht : a.tmps.getD 14 undef = (.pointer (some ⟨x, 0, none⟩)) := hI.p 11 _ rfl (hdep _ (by rw [← hops]; rfl) ⟨11, .data⟩ (by simp) rfl)
      exact wpOp_of (v := (.pointer (some ⟨x, 0, none⟩))) (w' := w1) (by rw [← hops]; rfl) (by rfl) (by simp [execOp, Act.eval, ht, go_sem]) (hI.step (T := (fun _ => False)) (by decide) hun hI.chg (fun g o h _ => h) (fun _ _ _ t => t.elim) (fun v' h => by cases h; rfl) (fun c _ e => by omega) (fun c _ e => by omega) (fun e => absurd e (by decide)) (fun e => absurd e (by decide)) (fun e => absurd e (by decide)))
    | 13, _, hun, hdep =>
      have ht : a.tmps.getD 15 undef = (.pointer (some ⟨x, 0, none⟩)) := hI.p 12 _ rfl (hdep _ (by rw [← hops]; rfl) ⟨12, .data⟩ (by simp) rfl)
      exact wpOp_of (v := (.pointer (some ⟨x, 2, none⟩))) (w' := w1) (by rw [← hops]; rfl) (by rfl) (by simp [execOp, Act.eval, ht, go_sem]) (hI.step (T := (fun _ => False)) (by decide) hun hI.chg (fun g o h _ => h) (fun _ _ _ t => t.elim) (fun v' h => by cases h; rfl) (fun c _ e => by omega) (fun c _ e => by omega) (fun e => absurd e (by decide)) (fun e => absurd e (by decide)) (fun e => absurd e (by decide)))
    | 14, _, hun, hdep =>
      have ht : a.tmps.getD 16 undef = (.pointer (some ⟨x, 2, none⟩)) := hI.p 13 _ rfl (hdep _ (by rw [← hops]; rfl) ⟨13, .data⟩ (by simp) rfl)
      have hcc := (H.out.stay hI.chg (fun _ _ f => f)).c2
      exact wpOp_of (v := (.slice (some ⟨R.sb, 0, none⟩) (n.ms.length + 1 : Nat) R.sc)) (w' := w1) (by rw [← hops]; rfl) (by rfl) (by simp [execOp, Act.eval, ht, hcc, go_sem]) (hI.step (T := (fun _ => False)) (by decide) hun hI.chg (fun g o h _ => h) (fun _ _ _ t => t.elim) (fun v' h => by cases h; rfl) (fun c _ e => by omega) (fun c _ e => by omega) (fun e => absurd e (by decide)) (fun e => absurd e (by decide)) (fun e => absurd e (by decide)))
    | 15, _, hun, hdep =>
      have hun2 := hun
      obtain ⟨g, hv, hgh, hgl⟩ := hI.b 1 (by omega) (hdep _ (by rw [← hops]; rfl) ⟨10, .data⟩ (by simp) rfl) hun
      have ht : a.tmps.getD 13 undef = .slice (some ⟨g, 0, none⟩) 0 0 := hv
      have hsrc : a.tmps.getD 17 undef = (.slice (some ⟨R.sb, 0, none⟩) (n.ms.length + 1 : Nat) R.sc) := hI.p 14 _ rfl (hdep _ (by rw [← hops]; rfl) ⟨14, .data⟩ (by simp) rfl)
      have hR := H.out.stay hI.chg (fun _ _ f => f)
      obtain ⟨ie, ze, hie, hze, hsze, hbye, hzse⟩ := info4b
      refine wpOp_wp (by rw [← hops]; rfl) (by rfl) ?_
      refine wp_append_sl (.tmp 13) (.tmp 17) 81 rfl 4 ie ze 1 1 Try.underlying81 hie hze hsze hbye hzse (by decide) (.slice (some ⟨g, 0, none⟩) 0 0) 0 [] ht ⟨by simp, Or.inr ⟨g, 0, #[], rfl, hgh, Nat.le_refl _, by simp, by simp, by simp⟩⟩ (some ⟨R.sb, 0, none⟩) (n.ms.length + 1) R.sc (scells n.ms) hsrc hR.s.1 (src_cells hR.s) (src_nil hR.s) (ones_s n) (by simp only [maxLen]; omega) (by omega) ?_
      intro v' w2 hsl hgrow hat
      rw [Nat.zero_add, List.nil_append] at hsl
      obtain ⟨lo2, lc2, rfl, hz2⟩ := sl_shape hsl
      have hA : AP w n 1 (.slice lo2 (n.ms.length + 1) lc2) w2 := ⟨lo2, lc2, rfl, hsl, fun k hk => by
        have hk' : (Value.slice lo2 (n.ms.length + 1) lc2).ownBlock = some k := hk
        rw [hk'] at hat
        rcases hat with e | e
        · simp [Value.ownBlock] at e; omega
        · cases e; exact hI.chg.size, hz2⟩
      exact hI.step (T := fun k => k = g) (by decide) hun (hI.chg.grown hgrow (fun i hi => Or.inr (by simp [Value.ownBlock] at hi; omega))) (fun k o hk hne => (hgrow.block k (Array.getElem?_eq_some_iff.1 hk).1 (fun e => by simp [Value.ownBlock] at e; exact hne e)).trans hk) (fun k cur e t hk => by subst t; rw [hgh] at hk; cases hk; exact ⟨1, by omega, rfl, rfl⟩) (fun v h => by cases h) (fun c _ e => by omega) (fun c hc e => by obtain rfl : c = 1 := (by omega); exact hA) (fun e => absurd e (by decide)) (fun e => absurd e (by decide)) (fun e => absurd e (by decide))
    | 16, _, hun, hdep =>
      have hB : BS w 2 (.slice (some ⟨w1.heap.size, 0, none⟩) 0 0) (w1.alloc (.cells #[] 3)) := ⟨w1.heap.size, rfl, Go.heap_alloc_new _ _, hI.chg.size⟩
      exact wpOp_of (v := .slice (some ⟨w1.heap.size, 0, none⟩) 0 0) (w' := w1.alloc (.cells #[] 3)) (by rw [← hops]; rfl) (by rfl) (by simp [execOp, Act.eval, go_sem]) (hI.step (T := (fun _ => False)) (by decide) hun (hI.chg.alloc _) (fun g o h _ => (Below.heap_alloc _ _ _ (Array.getElem?_eq_some_iff.1 h).1).trans h) (fun _ _ _ t => t.elim) (fun v h => by cases h) (fun c hc e => by obtain rfl : c = 2 := (by omega); exact hB) (fun c _ e => by omega) (fun e => absurd e (by decide)) (fun e => absurd e (by decide)) (fun e => absurd e (by decide)))
    | 17, _, hun, hdep =>
      exact wpOp_of (v := (.pointer (some ⟨x, 0, none⟩))) (w' := w1) (by rw [← hops]; rfl) (by rfl) (by simp [execOp, Act.eval, hI.t0, go_sem]) (hI.step (T := (fun _ => False)) (by decide) hun hI.chg (fun g o h _ => h) (fun _ _ _ t => t.elim) (fun v' h => by cases h; rfl) (fun c _ e => by omega) (fun c _ e => by omega) (fun e => absurd e (by decide)) (fun e => absurd e (by decide)) (fun e => absurd e (by decide)))
    | 18, _, hun, hdep =>
      have ht : a.tmps.getD 20 undef = (.pointer (some ⟨x, 0, none⟩)) := hI.p 17 _ rfl (hdep _ (by rw [← hops]; rfl) ⟨17, .data⟩ (by simp) rfl)
      exact wpOp_of (v := (.pointer (some ⟨x, 0, none⟩))) (w' := w1) (by rw [← hops]; rfl) (by rfl) (by simp [execOp, Act.eval, ht, go_sem]) (hI.step (T := (fun _ => False)) (by decide) hun hI.chg (fun g o h _ => h) (fun _ _ _ t => t.elim) (fun v' h => by cases h; rfl) (fun c _ e => by omega) (fun c _ e => by omega) (fun e => absurd e (by decide)) (fun e => absurd e (by decide)) (fun e => absurd e (by decide)))
    | 19, _, hun, hdep =>
      have ht : a.tmps.getD 21 undef = (.pointer (some ⟨x, 0, none⟩)) := hI.p 18 _ rfl (hdep _ (by rw [← hops]; rfl) ⟨18, .data⟩ (by simp) rfl)
      exact wpOp_of (v := (.pointer (some ⟨x, 3, none⟩))) (w' := w1) (by rw [← hops]; rfl) (by rfl) (by simp [execOp, Act.eval, ht, go_sem]) (hI.step (T := (fun _ => False)) (by decide) hun hI.chg (fun g o h _ => h) (fun _ _ _ t => t.elim) (fun v' h => by cases h; rfl) (fun c _ e => by omega) (fun c _ e => by omega) (fun e => absurd e (by decide)) (fun e => absurd e (by decide)) (fun e => absurd e (by decide)))
    | 20, _, hun, hdep =>
      have ht : a.tmps.getD 22 undef = (.pointer (some ⟨x, 3, none⟩)) := hI.p 19 _ rfl (hdep _ (by rw [← hops]; rfl) ⟨19, .data⟩ (by simp) rfl)
      have hcc := (H.out.stay hI.chg (fun _ _ f => f)).c3
      exact wpOp_of (v := (.slice (some ⟨R.tb, 0, none⟩) (n.ms.length + 1 : Nat) R.tc)) (w' := w1) (by rw [← hops]; rfl) (by rfl) (by simp [execOp, Act.eval, ht, hcc, go_sem]) (hI.step (T := (fun _ => False)) (by decide) hun hI.chg (fun g o h _ => h) (fun _ _ _ t => t.elim) (fun v' h => by cases h; rfl) (fun c _ e => by omega) (fun c _ e => by omega) (fun e => absurd e (by decide)) (fun e => absurd e (by decide)) (fun e => absurd e (by decide)))
    | 21, _, hun, hdep =>
      have hun2 := hun
      obtain ⟨g, hv, hgh, hgl⟩ := hI.b 2 (by omega) (hdep _ (by rw [← hops]; rfl) ⟨16, .data⟩ (by simp) rfl) hun
      have ht : a.tmps.getD 19 undef = .slice (some ⟨g, 0, none⟩) 0 0 := hv
      have hsrc : a.tmps.getD 23 undef = (.slice (some ⟨R.tb, 0, none⟩) (n.ms.length + 1 : Nat) R.tc) := hI.p 20 _ rfl (hdep _ (by rw [← hops]; rfl) ⟨20, .data⟩ (by simp) rfl)
      have hR := H.out.stay hI.chg (fun _ _ f => f)
      obtain ⟨ie, ze, hie, hze, hsze, hbye, hzse⟩ := info3b
      refine wpOp_wp (by rw [← hops]; rfl) (by rfl) ?_
      refine wp_append_sl (.tmp 19) (.tmp 23) 33 rfl 3 ie ze 1 8 Try.underlying33 hie hze hsze hbye hzse (by decide) (.slice (some ⟨g, 0, none⟩) 0 0) 0 [] ht ⟨by simp, Or.inr ⟨g, 0, #[], rfl, hgh, Nat.le_refl _, by simp, by simp, by simp⟩⟩ (some ⟨R.tb, 0, none⟩) (n.ms.length + 1) R.tc (tcells n.ms) hsrc hR.t.1 (src_cells hR.t) (src_nil hR.t) (ones_t n) (by simp only [maxLen]; omega) (by omega) ?_
      intro v' w2 hsl hgrow hat
      rw [Nat.zero_add, List.nil_append] at hsl
      obtain ⟨lo2, lc2, rfl, hz2⟩ := sl_shape hsl
      have hA : AP w n 2 (.slice lo2 (n.ms.length + 1) lc2) w2 := ⟨lo2, lc2, rfl, hsl, fun k hk => by
        have hk' : (Value.slice lo2 (n.ms.length + 1) lc2).ownBlock = some k := hk
        rw [hk'] at hat
        rcases hat with e | e
        · simp [Value.ownBlock] at e; omega
        · cases e; exact hI.chg.size, hz2⟩
      exact hI.step (T := fun k => k = g) (by decide) hun (hI.chg.grown hgrow (fun i hi => Or.inr (by simp [Value.ownBlock] at hi; omega))) (fun k o hk hne => (hgrow.block k (Array.getElem?_eq_some_iff.1 hk).1 (fun e => by simp [Value.ownBlock] at e; exact hne e)).trans hk) (fun k cur e t hk => by subst t; rw [hgh] at hk; cases hk; exact ⟨2, by omega, rfl, rfl⟩) (fun v h => by cases h) (fun c _ e => by omega) (fun c hc e => by obtain rfl : c = 2 := (by omega); exact hA) (fun e => absurd e (by decide)) (fun e => absurd e (by decide)) (fun e => absurd e (by decide))
    | 22, _, hun, hdep =>
      have hB : BS w 3 (.slice (some ⟨w1.heap.size, 0, none⟩) 0 0) (w1.alloc (.cells #[] 26)) := ⟨w1.heap.size, rfl, Go.heap_alloc_new _ _, hI.chg.size⟩
      exact wpOp_of (v := .slice (some ⟨w1.heap.size, 0, none⟩) 0 0) (w' := w1.alloc (.cells #[] 26)) (by rw [← hops]; rfl) (by rfl) (by simp [execOp, Act.eval, go_sem]) (hI.step (T := (fun _ => False)) (by decide) hun (hI.chg.alloc _) (fun g o h _ => (Below.heap_alloc _ _ _ (Array.getElem?_eq_some_iff.1 h).1).trans h) (fun _ _ _ t => t.elim) (fun v h => by cases h) (fun c hc e => by obtain rfl : c = 3 := (by omega); exact hB) (fun c _ e => by omega) (fun e => absurd e (by decide)) (fun e => absurd e (by decide)) (fun e => absurd e (by decide)))
    | 23, _, hun, hdep =>
      exact wpOp_of (v := (.pointer (some ⟨x, 0, none⟩))) (w' := w1) (by rw [← hops]; rfl) (by rfl) (by simp [execOp, Act.eval, hI.t0, go_sem]) (hI.step (T := (fun _ => False)) (by decide) hun hI.chg (fun g o h _ => h) (fun _ _ _ t => t.elim) (fun v' h => by cases h; rfl) (fun c _ e => by omega) (fun c _ e => by omega) (fun e => absurd e (by decide)) (fun e => absurd e (by decide)) (fun e => absurd e (by decide)))
    | 24, _, hun, hdep =>
      have ht : a.tmps.getD 26 undef = (.pointer (some ⟨x, 0, none⟩)) := hI.p 23 _ rfl (hdep _ (by rw [← hops]; rfl) ⟨23, .data⟩ (by simp) rfl)
      exact wpOp_of (v := (.pointer (some ⟨x, 0, none⟩))) (w' := w1) (by rw [← hops]; rfl) (by rfl) (by simp [execOp, Act.eval, ht, go_sem]) (hI.step (T := (fun _ => False)) (by decide) hun hI.chg (fun g o h _ => h) (fun _ _ _ t => t.elim) (fun v' h => by cases h; rfl) (fun c _ e => by omega) (fun c _ e => by omega) (fun e => absurd e (by decide)) (fun e => absurd e (by decide)) (fun e => absurd e (by decide)))
    | 25, _, hun, hdep =>
      have ht : a.tmps.getD 27 undef = (.pointer (some ⟨x, 0, none⟩)) := hI.p 24 _ rfl (hdep _ (by rw [← hops]; rfl) ⟨24, .data⟩ (by simp) rfl)
      exact wpOp_of (v := (.pointer (some ⟨x, 4, none⟩))) (w' := w1) (by rw [← hops]; rfl) (by rfl) (by simp [execOp, Act.eval, ht, go_sem]) (hI.step (T := (fun _ => False)) (by decide) hun hI.chg (fun g o h _ => h) (fun _ _ _ t => t.elim) (fun v' h => by cases h; rfl) (fun c _ e => by omega) (fun c _ e => by omega) (fun e => absurd e (by decide)) (fun e => absurd e (by decide)) (fun e => absurd e (by decide)))
    | 26, _, hun, hdep =>
      have ht : a.tmps.getD 28 undef = (.pointer (some ⟨x, 4, none⟩)) := hI.p 25 _ rfl (hdep _ (by rw [← hops]; rfl) ⟨25, .data⟩ (by simp) rfl)
      have hcc := (H.out.stay hI.chg (fun _ _ f => f)).c4
      exact wpOp_of (v := (.slice (some ⟨R.db, 0, none⟩) (n.ms.length + 1 : Nat) R.dc)) (w' := w1) (by rw [← hops]; rfl) (by rfl) (by simp [execOp, Act.eval, ht, hcc, go_sem]) (hI.step (T := (fun _ => False)) (by decide) hun hI.chg (fun g o h _ => h) (fun _ _ _ t => t.elim) (fun v' h => by cases h; rfl) (fun c _ e => by omega) (fun c _ e => by omega) (fun e => absurd e (by decide)) (fun e => absurd e (by decide)) (fun e => absurd e (by decide)))
    | 27, _, hun, hdep =>
      have hun2 := hun
      obtain ⟨g, hv, hgh, hgl⟩ := hI.b 3 (by omega) (hdep _ (by rw [← hops]; rfl) ⟨22, .data⟩ (by simp) rfl) hun
      have ht : a.tmps.getD 25 undef = .slice (some ⟨g, 0, none⟩) 0 0 := hv
      have hsrc : a.tmps.getD 29 undef = (.slice (some ⟨R.db, 0, none⟩) (n.ms.length + 1 : Nat) R.dc) := hI.p 26 _ rfl (hdep _ (by rw [← hops]; rfl) ⟨26, .data⟩ (by simp) rfl)
      have hR := H.out.stay hI.chg (fun _ _ f => f)
      obtain ⟨ie, ze, hie, hze, hsze, hbye, hzse⟩ := info26b
      refine wpOp_wp (by rw [← hops]; rfl) (by rfl) ?_
      refine wp_append_sl (.tmp 25) (.tmp 29) 82 rfl 26 ie ze 1 8 Try.underlying82 hie hze hsze hbye hzse (by decide) (.slice (some ⟨g, 0, none⟩) 0 0) 0 [] ht ⟨by simp, Or.inr ⟨g, 0, #[], rfl, hgh, Nat.le_refl _, by simp, by simp, by simp⟩⟩ (some ⟨R.db, 0, none⟩) (n.ms.length + 1) R.dc (dcells n.ms) hsrc hR.d.1 (src_cells hR.d) (src_nil hR.d) (ones_d n) (by simp only [maxLen]; omega) (by omega) ?_
      intro v' w2 hsl hgrow hat
      rw [Nat.zero_add, List.nil_append] at hsl
      obtain ⟨lo2, lc2, rfl, hz2⟩ := sl_shape hsl
      have hA : AP w n 3 (.slice lo2 (n.ms.length + 1) lc2) w2 := ⟨lo2, lc2, rfl, hsl, fun k hk => by
        have hk' : (Value.slice lo2 (n.ms.length + 1) lc2).ownBlock = some k := hk
        rw [hk'] at hat
        rcases hat with e | e
        · simp [Value.ownBlock] at e; omega
        · cases e; exact hI.chg.size, hz2⟩
      exact hI.step (T := fun k => k = g) (by decide) hun (hI.chg.grown hgrow (fun i hi => Or.inr (by simp [Value.ownBlock] at hi; omega))) (fun k o hk hne => (hgrow.block k (Array.getElem?_eq_some_iff.1 hk).1 (fun e => by simp [Value.ownBlock] at e; exact hne e)).trans hk) (fun k cur e t hk => by subst t; rw [hgh] at hk; cases hk; exact ⟨3, by omega, rfl, rfl⟩) (fun v h => by cases h) (fun c _ e => by omega) (fun c hc e => by obtain rfl : c = 3 := (by omega); exact hA) (fun e => absurd e (by decide)) (fun e => absurd e (by decide)) (fun e => absurd e (by decide))
    | 28, _, hun, hdep =>
      have hall : ∀ c, c < 4 → listed.getD (9 + 6 * c) false = true := fun c hc => by
        match c, hc with
        | 0, _ => exact (hdep _ (by rw [← hops]; rfl) ⟨9, .data⟩ (by simp) rfl)
        | 1, _ => exact (hdep _ (by rw [← hops]; rfl) ⟨15, .data⟩ (by simp) rfl)
        | 2, _ => exact (hdep _ (by rw [← hops]; rfl) ⟨21, .data⟩ (by simp) rfl)
        | 3, _ => exact (hdep _ (by rw [← hops]; rfl) ⟨27, .data⟩ (by simp) rfl)
      have ht : a.tmps.getD 6 undef = .int .i64 n.ms.length := hI.p 3 _ rfl (hdep _ (by rw [← hops]; rfl) ⟨3, .data⟩ (by simp) rfl)
      obtain ⟨l0, k0, e0, -⟩ := hI.ap 0 (by omega) (hall 0 (by omega))
      obtain ⟨l1, k1, e1, -⟩ := hI.ap 1 (by omega) (hall 1 (by omega))
      obtain ⟨l2, k2, e2, -⟩ := hI.ap 2 (by omega) (hall 2 (by omega))
      obtain ⟨l3, k3, e3, -⟩ := hI.ap 3 (by omega) (hall 3 (by omega))
      refine wpOp_of (v := .agg (five n fun i => a.tmps.getD i undef)) (w' := w1) (by rw [← hops]; rfl) (by rfl) ?_ (hI.step (T := (fun _ => False)) (by decide) hun hI.chg (fun g o h _ => h) (fun _ _ _ t => t.elim) (fun v h => by cases h) (fun c _ e => by omega) (fun c _ e => by omega) (fun _ => ⟨hall, rfl⟩) (fun e => absurd e (by decide)) (fun e => absurd e (by decide)))
      simp only [Nat.reduceMul, Nat.reduceAdd] at e0 e1 e2 e3
      rw [Array.getD_eq_getD_getElem?] at ht e0 e1 e2 e3
      simp [execOp, Act.eval, ht, e0, e1, e2, e3, five, go_sem]
    | 29, _, hun, hdep =>
      obtain ⟨q1, q2⟩ := hI.bld (hdep _ (by rw [← hops]; rfl) ⟨28, .data⟩ (by simp) rfl)
      exact wpOp_of (v := .pointer (some ⟨w1.heap.size, 0, none⟩)) (w' := w1.alloc (.cells (five n fun i => a.tmps.getD i undef) 84)) (by rw [← hops]; rfl) (by rfl) (by simp [execOp, Act.eval, q2, go_sem]) (hI.step (T := (fun _ => False)) (by decide) hun (hI.chg.alloc _) (fun g o h _ => (Below.heap_alloc _ _ _ (Array.getElem?_eq_some_iff.1 h).1).trans h) (fun _ _ _ t => t.elim) (fun v h => by cases h) (fun c _ e => by omega) (fun c _ e => by omega) (fun e => absurd e (by decide)) (fun _ => ⟨hdep _ (by rw [← hops]; rfl) ⟨28, .data⟩ (by simp) rfl, w1.heap.size, rfl, Go.heap_alloc_new _ _, hI.chg.size⟩) (fun e => absurd e (by decide)))
    | 30, _, hun, hdep =>
      exact wpOp_of (v := a.tmps.getD 32 undef) (w' := w1) (by rw [← hops]; rfl) (by rfl) (by simp [execOp, Act.eval, go_sem]) (hI.step (T := (fun _ => False)) (by decide) hun hI.chg (fun g o h _ => h) (fun _ _ _ t => t.elim) (fun v h => by cases h) (fun c _ e => by omega) (fun c _ e => by omega) (fun e => absurd e (by decide)) (fun e => absurd e (by decide)) (fun _ => ⟨hdep _ (by rw [← hops]; rfl) ⟨29, .data⟩ (by simp) rfl, rfl⟩))
    | n + 31, hi, _, _ => omega
end
end Go.Proofs.Ytpgioccbnkcjcaa
