/- Walks: iterators that tell nothing; took over them. -/
import Derived.Test.YtnhookblhckmlaaK8
import Derived.RangeFuncNested
import Derived.RangeFuncBound
import Derived.RangeFuncCalls
import Derived.RangeFuncLeaves
import Derived.RangeFuncFrom
import Derived.Shelf.Abstract
import Derived.Shelf.RegionOpen
import Derived.OwnWalkIn
import Derived.TacticsInMore
import Derived.LoopNIn
import Derived.LoopIn
namespace Go.Proofs.Ytnhookblhckmlaa
open Go.RowKit Mk Go.Shelf
attribute [local go_sem] Oper.semAt_some

theorem all_makes (p : Option Addr) (w : World) :
    Calls Try.prog 23 #[.pointer p] w fun e w' => e = .returned (.func (.func 41) #[] #[.pointer (some ⟨w.heap.size, 0, none⟩)]) ∧ w' = w.alloc (.cells #[.pointer p] 29) := by
  go_enter Try.func23, Try.ntmps23
  go_wp2
  go_ret
  exact ⟨rfl, rfl⟩
/-- What a function value does that goes over nothing. -/
def Idle (g : Nat) (lb : Array Value) (w0 : World) : Prop :=
  ∀ (l : Nat) (W : World), RowKit.Below w0.heap.size w0 W → Calls Try.prog g (#[.func (.yield l) #[] #[]] ++ lb) W fun e W' => (∃ v, e = .returned v) ∧ RowKit.Below W.heap.size W W'
theorem idle41 (b : Nat) (w0 : World) (hb : w0.cell? ⟨b, 0, none⟩ = some (.pointer none)) (hlt : b < w0.heap.size) : Idle 41 #[.pointer (some ⟨b, 0, none⟩)] w0 := by
  intro l W hB
  have hc : W.cell? ⟨b, 0, none⟩ = some (.pointer none) := (hB.cell (p := ⟨b, 0, none⟩) hlt).trans hb
  show Calls Try.prog 41 #[.func (.yield l) #[] #[], .pointer (some ⟨b, 0, none⟩)] W _
  go_enter Try.func41, Try.ntmps41
  go_wp2_with fail
  refine (not_nil _).mono ?_
  rintro e w' ⟨rfl, rfl⟩
  go_wp2
  refine bodyPost_ret (results_none rfl _ _ _) rfl ?_
  exact ⟨⟨_, rfl⟩, Below.refl _ _⟩
theorem stops_none {g : Nat} {lb : Array Value} {w0 : World} (h : Idle g lb w0) (n n₀ : Nat) :
    SeqStopsK (α := Empty) Fence.wide n Try.prog g lb (fun x => x.elim) (RowKit.Below n₀) (fun _ => True) (fun _ => False) 0 w0 := by
  intro l J Jx W hW hJ hJx hY h0
  refine callsIn_wide.2 ((h _ W hW).mono fun e W' ⟨hv, hB⟩ => ?_)
  exact ⟨hv, Or.inl ⟨[], trivial, hJ [] W W' none h0 ⟨hB.os, hB.tape, hB.output, hB.size, fun k hk _ => hB.block k hk⟩ (fun r e => by cases e)⟩⟩

set_option maxRecDepth 100000 in
set_option maxHeartbeats 2000000 in
theorem took_none {g : Nat} {lb : Array Value} (eg : ∀ args w, (callFunc g args).run Try.prog w = .ok (.enter g args) w) (w : World) (h : Idle g lb w) :
    Calls Try.prog 21 #[.func (.func g) #[] lb, .int .i64 (-1)] w fun e w' => e = .returned (.slice none 0 0) ∧ RowKit.Below w.heap.size w w' := by
  refine (callsIn_wide (n := 3)).1 ?_
  refine callsIn_of_wp_marks Try.func21 rfl trivial ?_ rfl
  simp only [Try.ntmps21, List.size_toArray, List.length_cons, List.length_nil, Nat.reduceAdd, Nat.reduceSub, Array.replicate_succ, Array.replicate_zero, List.push_toArray, List.append_toArray, List.nil_append, List.cons_append]
  gi_wp2
  have hB0 : RowKit.Below w.heap.size w ((w.alloc (.cells #[.int .i64 (-1)] 3)).alloc (.cells #[.slice none 0 0] 28)) := ((Below.refl _ w).alloc (Nat.le_refl _) _).alloc (by simp) _
  have bL := Boxed.new (w.alloc (.cells #[.int .i64 (-1)] 3)) 28 (.slice none 0 0)
  simp only [World.size_alloc] at bL
  have h' : Idle g lb ((w.alloc (.cells #[.int .i64 (-1)] 3)).alloc (.cells #[.slice none 0 0] 28)) := fun l W hW => h l W (hB0.trans (hW.mono hB0.size))
  refine wpIn_rangeFunc_ownF rfl (by omega) (gf := g) (lb := lb) rfl trivial eg
    (stops_none h' (3 - 1) w.heap.size) belowK_t (belowK_b (by simp; omega)) (Below.refl _ _) (fun x => x.elim)
    (fun _ W => Boxed W (w.heap.size + 1) 28 (.slice none 0 0) ∧ RowKit.Below w.heap.size w W)
    (fun _ _ _ => False)
    (OwnFrom.and (Own.from (boxed_own _ _ _) _) (ownFrom_below (Nat.le_refl _) (by simp; omega)))
    (fun _ _ _ _ _ hs _ _ => hs)
    ⟨bL, hB0⟩
    (fun x => x.elim) ?assign ?body ?done ?stop
  case assign =>
    intro l x
    exact x.elim
  case body =>
    intro l pre x
    exact x.elim
  case done =>
    rintro D ys W hD - ⟨hbx, hB⟩ hK
    have cL := hbx.cell
    gi_wp2
    refine ⟨by simp, .inl ⟨_, _, rfl, run_takeDeferred hK, ?_⟩⟩
    exact ⟨_, results_tmp rfl _ _ _, rfl, hB.trans (belowK_b (w := w) (Nat.le_refl _) W D _ _ (by simp at hD; omega) hK rfl rfl)⟩
  case stop =>
    rintro D c pre W _ _ h _
    exact h.elim

theorem scan_makes (p : Option Addr) (a b : ByteArray) (t : Nat) (w : World) :
    Calls Try.prog 19 #[.pointer p, .string a, .string b, .int .u64 t] w fun e w' => e = .returned (.func (.func 40) #[] #[.pointer (some ⟨w.heap.size, 0, none⟩), .pointer (some ⟨w.heap.size + 1 + 1 + 1, 0, none⟩), .pointer (some ⟨w.heap.size + 1, 0, none⟩), .pointer (some ⟨w.heap.size + 1 + 1, 0, none⟩)]) ∧
      w' = (((w.alloc (.cells #[.pointer p] 29)).alloc (.cells #[.string a] 9)).alloc (.cells #[.string b] 9)).alloc (.cells #[.int .u64 t] 22) := by
  go_enter Try.func19, Try.ntmps19
  go_wp2
  go_ret
  exact ⟨rfl, rfl⟩

set_option maxRecDepth 100000 in
set_option maxHeartbeats 2000000 in
theorem idle40 (b : Nat) (x y z : Value) (w0 : World) (hb : w0.cell? ⟨b, 0, none⟩ = some (.pointer none)) (hlt : b < w0.heap.size) : Idle 40 #[.pointer (some ⟨b, 0, none⟩), x, y, z] w0 := by
  intro l w hB
  have hc : w.cell? ⟨b, 0, none⟩ = some (.pointer none) := (hB.cell (p := ⟨b, 0, none⟩) hlt).trans hb
  have hbw : b < w.heap.size := Nat.lt_of_lt_of_le hlt hB.size
  clear hB hb hlt
  show Calls Try.prog 40 #[.func (.yield l) #[] #[], .pointer (some ⟨b, 0, none⟩), x, y, z] w _
  have ne1 : (⟨b, 0, none⟩ : Addr).block ≠ w.heap.size := by show b ≠ w.heap.size; omega
  refine (callsIn_wide (n := 3)).1 ?_
  refine callsIn_of_wp_marks Try.func40 rfl trivial ?_ rfl
  simp only [Try.ntmps40, List.size_toArray, List.length_cons, List.length_nil, Nat.reduceAdd, Nat.reduceSub, Array.replicate_succ, Array.replicate_zero, List.push_toArray, List.append_toArray, List.nil_append, List.cons_append]
  have hB3 : RowKit.Below w.heap.size w (((w.alloc (.cells #[.func (.yield l) #[] #[]] 72)).alloc (.cells #[.string ⟨#[]⟩] 9)).alloc (.cells #[.bool false] 4)) := (((Below.refl _ w).alloc (Nat.le_refl _) _).alloc (by simp) _).alloc (by simp; omega) _
  have hc3 := (hB3.cell (p := ⟨b, 0, none⟩) hbw).trans hc
  have AM := Lib.hid (fun w => all_makes none w)
  gi_wp2_with (refine ⟨trivial, ?_⟩; gi_at_call 23; refine (callsIn_wide.2 (AM.out _)).mono ?_; rintro e w' ⟨rfl, rfl⟩)
  obtain ⟨W0, hW0⟩ : ∃ W0, (((w.alloc (.cells #[.func (.yield l) #[] #[]] 72)).alloc (.cells #[.string ⟨#[]⟩] 9)).alloc (.cells #[.bool false] 4)).alloc (.cells #[.pointer none] 29) = W0 := ⟨_, rfl⟩
  have hs3 : (((w.alloc (.cells #[.func (.yield l) #[] #[]] 72)).alloc (.cells #[.string ⟨#[]⟩] 9)).alloc (.cells #[.bool false] 4)).heap.size = w.heap.size + 3 := by simp
  have hB4 : RowKit.Below w.heap.size w W0 := by rw [← hW0]; exact hB3.alloc hB3.size _
  have hb4 : W0.cell? ⟨w.heap.size + 3, 0, none⟩ = some (.pointer none) := by
    rw [← hW0, ← hs3]; exact Boxed.cell (Boxed.new _ 29 (.pointer none))
  have hl4 : w.heap.size + 3 < W0.heap.size := by rw [← hW0]; simp
  have hg41 := idle41 (w.heap.size + 3) W0 hb4 hl4
  refine wpIn_rangeFunc_ownF rfl (by omega) (gf := 41) (lb := #[.pointer (some ⟨w.heap.size + 3, 0, none⟩)]) (by simp [Act.eval]) trivial (enters_of Try.func41 (by kernel_rfl) rfl)
    (stops_none (w0 := W0) hg41 (3 - 1) w.heap.size) belowK_t (belowK_b (by rw [hW0]; exact hB4.size)) (by rw [hW0]; exact Below.refl _ _) (fun x => x.elim)
    (fun _ W => RowKit.Below w.heap.size w W)
    (fun _ _ _ => False)
    (ownFrom_below (Nat.le_refl _) (by rw [hW0]; exact hB4.size))
    (fun _ _ _ _ _ hs _ _ => hs)
    (by rw [hW0]; exact hB4)
    (fun x => x.elim) ?assign ?body ?done ?stop
  case assign =>
    intro l x
    exact x.elim
  case body =>
    intro l pre x
    exact x.elim
  case done =>
    rintro D ys W hD - hB hK
    gi_wp2
    refine ⟨by simp, .inl ⟨_, _, rfl, run_takeDeferred hK, ?_⟩⟩
    refine ⟨_, results_none rfl _ _ _, ⟨_, rfl⟩, hB.trans (belowK_b (w := w) (Nat.le_refl _) W D _ _ (Nat.le_trans (by rw [hW0]; exact hB4.size) hD) hK rfl rfl)⟩
  case stop =>
    rintro D c pre W _ _ h _
    exact h.elim
end Go.Proofs.Ytnhookblhckmlaa
