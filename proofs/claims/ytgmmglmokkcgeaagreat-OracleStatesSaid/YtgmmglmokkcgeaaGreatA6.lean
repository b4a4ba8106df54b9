/- Walks: none, times, uids, was, clear, abort. -/
import Derived.Test.YtgmmglmokkcgeaaGreatA5
import Derived.Laws.ResultCell
import Derived.Laws.EntriesVeiled
namespace Go.Proofs.YtgmmglmokkcgeaaGreat
set_option linter.unusedVariables false
set_option linter.unusedSimpArgs false
open Go.RowKit Mk Go.Sort
section
variable {w : World} {b : Nat} {R : Loc} {F : Nat → Prop} {n : OM} {o : OpM} {l : OpL}
theorem OrRep.c0 (h : OrRep w b R F n) : w.cell? ⟨b, 0, none⟩ = some (.bool true) := cell_of h.box rfl
theorem OrRep.c1 (h : OrRep w b R F n) : w.cell? ⟨b, 1, none⟩ = some (.int .u64 (n.time : Nat)) := cell_of h.box rfl
theorem OrRep.c2 (h : OrRep w b R F n) : w.cell? ⟨b, 2, none⟩ = some (.int .u64 (n.uid : Nat)) := cell_of h.box rfl
theorem OrRep.c3 (h : OrRep w b R F n) : w.cell? ⟨b, 3, none⟩ = some (.int .u64 (n.mark : Nat)) := cell_of h.box rfl
theorem OrRep.c4 (h : OrRep w b R F n) : w.cell? ⟨b, 4, none⟩ = some (.map (some R.d)) := cell_of h.box rfl
theorem OrRep.c5 (h : OrRep w b R F n) : w.cell? ⟨b, 5, none⟩ = some (.map (some R.l)) := cell_of h.box rfl
theorem OrRep.c6 (h : OrRep w b R F n) : w.cell? ⟨b, 6, none⟩ = some (.map (some R.t)) := cell_of h.box rfl
theorem OrRep.c7 (h : OrRep w b R F n) : w.cell? ⟨b, 7, none⟩ = some (.map (some R.c)) := cell_of h.box rfl
theorem OrRep.fr (h : OrRep w b R F n) (i : Nat) : w.frozen? ⟨b, i, none⟩ = false := frozen_of h.box
theorem none_any (h : OrRep w b R F n) : Calls Tryz.prog 29 #[.pointer (some ⟨b, 0, none⟩)] w fun e w' => e = .returned (.bool false) ∧ w' = w := by
  have c0 := h.c0
  clear h
  go_enter Tryz.func29, Tryz.ntmps29
  go_wp2
  go_ret
  exact ⟨rfl, rfl⟩
theorem results_cell_row_tmp {P : Program} {fn : Func} {p u : Tmp} {ty : TypeId} (h : fn.results = #[.cell p ty, .tmp u]) (tmps : Array Value) (w : World) (g : Nat) (t : TypeId) (cs : Array Value) (fr : Nat × Nat) (d : TypeDesc)
    (hp : tmps.getD p undef = .pointer (some ⟨g, 0, none⟩)) (hg : w.heap[g]? = some (.cells cs t fr))
    (hu : P.underlying ty = some d) (hd : (match d with | .struct _ | .array _ _ => true | _ => false) = true) (hi : (P.info? ty).map (·.size) = some cs.size) :
    (results fn tmps).run P w = .ok (.tuple #[.agg cs, tmps.getD u undef]) w := by
  rw [results_cell_tmp h, hp]
  simp [asAddr, run_loadVar_row w g t ty cs fr d hg hu hd hi, Result.andThen]
abbrev anC (a : AnM) : Array Value := #[.int .i64 (a.code : Nat), .int .u64 (a.first : Nat), .int .u64 (a.commit : Nat), .string a.tb.p, .int .u32 (a.tb.g : Nat), .int .u32 (a.tb.to : Nat), .int .u64 (a.tb.at_ : Nat), .int .u64 (a.tb.tn : Nat)]
abbrev anV (a : AnM) : Value := .agg (anC a)
theorem setCell_size (w : World) (a : Addr) (v : Value) : (w.setCell a v).heap.size = w.heap.size := by simp [World.setCell]
theorem fin8 {w : World} {kb : Nat} {t : TypeId} {c0 c1 c2 c3 c4 c5 c6 c7 : Value} (h : w.heap[kb]? = some (.cells #[c0, c1, c2, c3, c4, c5, c6, c7] t)) (v0 v1 v2 v3 v4 v5 v6 v7 : Value) :
    ((((((((w.setCell ⟨kb, 0, none⟩ v0).setCell ⟨kb, 1, none⟩ v1).setCell ⟨kb, 2, none⟩ v2).setCell ⟨kb, 3, none⟩ v3).setCell ⟨kb, 4, none⟩ v4).setCell ⟨kb, 5, none⟩ v5).setCell ⟨kb, 6, none⟩ v6).setCell ⟨kb, 7, none⟩ v7).heap[kb]? = some (.cells #[v0, v1, v2, v3, v4, v5, v6, v7] t) ∧
    Chg (fun g => g = kb) w ((((((((w.setCell ⟨kb, 0, none⟩ v0).setCell ⟨kb, 1, none⟩ v1).setCell ⟨kb, 2, none⟩ v2).setCell ⟨kb, 3, none⟩ v3).setCell ⟨kb, 4, none⟩ v4).setCell ⟨kb, 5, none⟩ v5).setCell ⟨kb, 6, none⟩ v6).setCell ⟨kb, 7, none⟩ v7) := by
  have h0 : (w.setCell ⟨kb, 0, none⟩ v0).heap[kb]? = some (.cells #[v0, c1, c2, c3, c4, c5, c6, c7] t) := by rw [Mk.heap_setCell_same h v0]; rfl
  have k0 : Chg (fun g => g = kb) w (w.setCell ⟨kb, 0, none⟩ v0) := (Chg.refl (fun g => g = kb) w).setCell (a := ⟨kb, 0, none⟩) (Or.inl rfl) v0
  generalize (w.setCell ⟨kb, 0, none⟩ v0) = w0 at *
  have h1 : (w0.setCell ⟨kb, 1, none⟩ v1).heap[kb]? = some (.cells #[v0, v1, c2, c3, c4, c5, c6, c7] t) := by rw [Mk.heap_setCell_same h0 v1]; rfl
  have k1 : Chg (fun g => g = kb) w (w0.setCell ⟨kb, 1, none⟩ v1) := k0.setCell (a := ⟨kb, 1, none⟩) (Or.inl rfl) v1
  generalize (w0.setCell ⟨kb, 1, none⟩ v1) = w1 at *
  have h2 : (w1.setCell ⟨kb, 2, none⟩ v2).heap[kb]? = some (.cells #[v0, v1, v2, c3, c4, c5, c6, c7] t) := by rw [Mk.heap_setCell_same h1 v2]; rfl
  have k2 : Chg (fun g => g = kb) w (w1.setCell ⟨kb, 2, none⟩ v2) := k1.setCell (a := ⟨kb, 2, none⟩) (Or.inl rfl) v2
  generalize (w1.setCell ⟨kb, 2, none⟩ v2) = w2 at *
  have h3 : (w2.setCell ⟨kb, 3, none⟩ v3).heap[kb]? = some (.cells #[v0, v1, v2, v3, c4, c5, c6, c7] t) := by rw [Mk.heap_setCell_same h2 v3]; rfl
  have k3 : Chg (fun g => g = kb) w (w2.setCell ⟨kb, 3, none⟩ v3) := k2.setCell (a := ⟨kb, 3, none⟩) (Or.inl rfl) v3
  generalize (w2.setCell ⟨kb, 3, none⟩ v3) = w3 at *
  have h4 : (w3.setCell ⟨kb, 4, none⟩ v4).heap[kb]? = some (.cells #[v0, v1, v2, v3, v4, c5, c6, c7] t) := by rw [Mk.heap_setCell_same h3 v4]; rfl
  have k4 : Chg (fun g => g = kb) w (w3.setCell ⟨kb, 4, none⟩ v4) := k3.setCell (a := ⟨kb, 4, none⟩) (Or.inl rfl) v4
  generalize (w3.setCell ⟨kb, 4, none⟩ v4) = w4 at *
  have h5 : (w4.setCell ⟨kb, 5, none⟩ v5).heap[kb]? = some (.cells #[v0, v1, v2, v3, v4, v5, c6, c7] t) := by rw [Mk.heap_setCell_same h4 v5]; rfl
  have k5 : Chg (fun g => g = kb) w (w4.setCell ⟨kb, 5, none⟩ v5) := k4.setCell (a := ⟨kb, 5, none⟩) (Or.inl rfl) v5
  generalize (w4.setCell ⟨kb, 5, none⟩ v5) = w5 at *
  have h6 : (w5.setCell ⟨kb, 6, none⟩ v6).heap[kb]? = some (.cells #[v0, v1, v2, v3, v4, v5, v6, c7] t) := by rw [Mk.heap_setCell_same h5 v6]; rfl
  have k6 : Chg (fun g => g = kb) w (w5.setCell ⟨kb, 6, none⟩ v6) := k5.setCell (a := ⟨kb, 6, none⟩) (Or.inl rfl) v6
  generalize (w5.setCell ⟨kb, 6, none⟩ v6) = w6 at *
  have h7 : (w6.setCell ⟨kb, 7, none⟩ v7).heap[kb]? = some (.cells #[v0, v1, v2, v3, v4, v5, v6, v7] t) := by rw [Mk.heap_setCell_same h6 v7]; rfl
  have k7 : Chg (fun g => g = kb) w (w6.setCell ⟨kb, 7, none⟩ v7) := k6.setCell (a := ⟨kb, 7, none⟩) (Or.inl rfl) v7
  exact ⟨h7, k7⟩
theorem To.mk' {w' : World} (h : OrIs w' b F n) (c : Chg F w w') : To w b F n w' := ⟨h.wide (fun _ => Or.inl), c⟩
theorem To.same {w' w2 : World} (h : To w b F n w') (c : Chg (fun _ => False) w' w2) : To w b F n w2 := ⟨h.is.same c, h.chg.trans (c.mono (fun _ f => f.elim))⟩
theorem To.pre {w0 w' : World} (h : To w b F n w') (c : Chg (fun _ => False) w0 w) : To w0 b F n w' := ⟨h.is.wide (fun g hg => hg.imp id (Nat.le_trans c.size)), (c.mono (fun _ f => f.elim)).trans h.chg⟩
theorem To.box {w0 w' w2 : World} {kb : Nat} (h : To w b F n w') (c : Chg (fun g => g = kb) w' w2) (hk : ¬ (F kb ∨ w.heap.size ≤ kb)) (c0 : Chg (fun _ => False) w0 w) (h0 : w0.heap.size ≤ kb) : To w0 b F n w2 :=
  ⟨(h.is.stay c (fun g hg e => by subst e; exact hk hg)).wide (fun g hg => hg.imp id (Nat.le_trans c0.size)), ((c0.mono (fun _ f => f.elim)).trans h.chg).trans' c (fun g e => by subst e; exact Or.inr h0)⟩

set_option maxRecDepth 100000 in
set_option maxHeartbeats 2000000 in
theorem times_any (h : OrRep w b R F n) (hb : n.time < 9223372036854775808) (hn : o.n < 4294967296) :
    Calls Tryz.prog 72 #[.pointer (some ⟨b, 0, none⟩), .agg (opC o l)] w fun e w' => e = .returned (anV ⟨0, n.time + 1, 0, .zero⟩) ∧ To w b F { n with time := n.time + o.n } w' := by
  have c1 := h.c1
  have f1 := h.fr 1
  have hlt := h.lt
  have HR := Lib.hid (h.setBox (i := 1) (v := .int .u64 ((n.time : Int) + (o.n : Int))) (n' := { n with time := n.time + o.n }) (by simp [stC]) rfl rfl rfl rfl)
  have HC := Lib.hid (show Chg F w (w.setCell ⟨b, 1, none⟩ (.int .u64 ((n.time : Int) + (o.n : Int)))) from (Chg.refl _ _).setCell (Or.inl h.fb) _)
  clear h
  go_enter Tryz.func72, Tryz.ntmps72
  go_wp2
  go_region
  go_wp2
  refine bodyPost_ret (results_cell_row (p := 4) (ty := 46) rfl _ _ (w.heap.size + 1) 46 _ (0, 0) _ rfl (by have := alloc2_new (w.setCell ⟨b, 1, none⟩ (.int .u64 ((n.time : Int) + (o.n : Int)))) (.cells (opC o l) 28); rw [setCell_size] at this; exact this _) Tryz.underlying46 rfl (by kernel_rfl)) rfl ⟨?_, ?_⟩
  · simp [anV, anC, Tb.zero]
  · exact (To.mk' ⟨R, HR.out⟩ HC.out).same ((((Chg.refl _ _).alloc _).alloc _).drew)
set_option maxRecDepth 100000 in
set_option maxHeartbeats 2000000 in
theorem uids_any (h : OrRep w b R F n) (hb : n.uid < 9223372036854775808) (hn : o.n < 4294967296) :
    Calls Tryz.prog 73 #[.pointer (some ⟨b, 0, none⟩), .agg (opC o l)] w fun e w' => e = .returned (anV ⟨0, n.uid + 1, 0, .zero⟩) ∧ To w b F { n with uid := n.uid + o.n } w' := by
  have c1 := h.c2
  have f1 := h.fr 2
  have hlt := h.lt
  have HR := Lib.hid (h.setBox (i := 2) (v := .int .u64 ((n.uid : Int) + (o.n : Int))) (n' := { n with uid := n.uid + o.n }) (by simp [stC]) rfl rfl rfl rfl)
  have HC := Lib.hid (show Chg F w (w.setCell ⟨b, 2, none⟩ (.int .u64 ((n.uid : Int) + (o.n : Int)))) from (Chg.refl _ _).setCell (Or.inl h.fb) _)
  clear h
  go_enter Tryz.func73, Tryz.ntmps73
  go_wp2
  go_region
  go_wp2
  refine bodyPost_ret (results_cell_row (p := 4) (ty := 46) rfl _ _ (w.heap.size + 1) 46 _ (0, 0) _ rfl (by have := alloc2_new (w.setCell ⟨b, 2, none⟩ (.int .u64 ((n.uid : Int) + (o.n : Int)))) (.cells (opC o l) 28); rw [setCell_size] at this; exact this _) Tryz.underlying46 rfl (by kernel_rfl)) rfl ⟨?_, ?_⟩
  · simp [anV, anC, Tb.zero]
  · exact (To.mk' ⟨R, HR.out⟩ HC.out).same ((((Chg.refl _ _).alloc _).alloc _).drew)

theorem OrRep.lookD (h : OrRep w b R F n) {x : Nat} (hx : x < 18446744073709551616) : (Instr.lookup 31 (.map (some R.d)) (.int .u64 (x : Nat)) true).run Tryz.prog w = .ok (.tuple #[.int .u64 (((lk n.dec x).getD 0 : Nat) : Int), .bool (lk n.dec x).isSome]) w := by
  have hz : (zeroValue 24).run Tryz.prog w = .ok (.int .u64 0) w := by simp [go_sem]
  have := run_lookup keysU Tryz.underlying31 hz h.dec hx true
  rw [nv, lk_map] at this
  simp only [if_true, kvU] at this
  rw [this]
  cases lk n.dec x <;> simp [nV]
set_option maxRecDepth 100000 in
set_option maxHeartbeats 4000000 in
theorem was_any (h : OrRep w b R F n) {st : Nat} (hs : st < 18446744073709551616) :
    Calls Tryz.prog 110 #[.pointer (some ⟨b, 0, none⟩), .int .u64 st] w fun e w' => e = .returned (.tuple #[anV (wasM n st).1, .bool (wasM n st).2]) ∧ Chg (fun _ => False) w w' := by
  have c1 := h.c1
  have c3 := h.c3
  have c4 := h.c4
  have hlt := h.lt
  have hl := (h.same ((Chg.refl (fun _ => False) w).alloc (.cells #[.int .i64 0, .int .u64 0, .int .u64 0, .string ⟨#[]⟩, .int .u32 0, .int .u32 0, .int .u64 0, .int .u64 0] 46))).lookD hs
  clear h
  unfold wasM
  by_cases h1 : n.time < st
  · have d1 : decide ((n.time : Int) < st) = true := decide_eq_true (by omega)
    rw [if_pos h1]
    clear hl
    go_enter Tryz.func110, Tryz.ntmps110
    go_wp2
    refine bodyPost_ret (results_cell_row_tmp (p := 4) (u := 5) (ty := 46) rfl _ _ w.heap.size 46 _ (0, 0) _ rfl (Go.heap_alloc_new w _) Tryz.underlying46 rfl (by kernel_rfl)) rfl ⟨?_, (Chg.refl _ _).alloc _⟩
    simp [anV, anC, Tb.zero]
  · have d1 : decide ((n.time : Int) < st) = false := decide_eq_false (by omega)
    rw [if_neg h1]
    simp only
    cases hk : lk n.dec st with
    | some c =>
      rw [hk] at hl
      simp only [Option.getD_some, Option.isSome_some] at hl
      clear hk
      go_enter Tryz.func110, Tryz.ntmps110
      go_wp2
      go_region
      go_wp2
      refine bodyPost_ret (results_cell_row_tmp (p := 4) (u := 5) (ty := 46) rfl _ _ w.heap.size 46 _ (0, 0) _ rfl (Go.heap_alloc_new w _) Tryz.underlying46 rfl (by kernel_rfl)) rfl ⟨?_, ((Chg.refl _ _).alloc _).drew⟩
      simp [anV, anC, Tb.zero]
    | none =>
      rw [hk] at hl
      simp only [Option.getD_none, Option.isSome_none] at hl
      clear hk
      by_cases h2 : st < n.mark
      · have d2 : decide ((st : Int) < n.mark) = true := decide_eq_true (by omega)
        go_enter Tryz.func110, Tryz.ntmps110
        go_wp2
        go_region
        go_wp2
        refine bodyPost_ret (results_cell_row_tmp (p := 4) (u := 5) (ty := 46) rfl _ _ w.heap.size 46 _ (0, 0) _ rfl (Go.heap_alloc_new w _) Tryz.underlying46 rfl (by kernel_rfl)) rfl ⟨?_, ((Chg.refl _ _).alloc _).drew⟩
        simp [anV, anC, Tb.zero, h2]
      · have d2 : decide ((st : Int) < n.mark) = false := decide_eq_false (by omega)
        go_enter Tryz.func110, Tryz.ntmps110
        go_wp2
        go_region
        go_wp2
        refine bodyPost_ret (results_cell_row_tmp (p := 4) (u := 5) (ty := 46) rfl _ _ w.heap.size 46 _ (0, 0) _ rfl (Go.heap_alloc_new w _) Tryz.underlying46 rfl (by kernel_rfl)) rfl ⟨?_, ((Chg.refl _ _).alloc _).drew⟩
        simp [anV, anC, Tb.zero, h2]
end
end Go.Proofs.YtgmmglmokkcgeaaGreat
