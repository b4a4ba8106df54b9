/- Walks: the law's makers of commands. -/
import Derived.Test.YtgmmglmokkcgeaaGreatAd
namespace Go.Proofs.YtgmmglmokkcgeaaGreat
set_option linter.unusedVariables false
set_option linter.unusedSimpArgs false
open Go.RowKit Mk Go.Sort

def opT (n : Nat) : OpM := ⟨1, n, 0, [], [], ⟨#[]⟩, 0, 0, 0⟩
def opC3 (st : Nat) (k p : ByteArray) (t : Nat) : OpM := ⟨3, 0, st, [k], [(p, t)], ⟨#[]⟩, 0, 0, 0⟩
set_option maxRecDepth 100000 in
theorem timesop_any (w : World) (n : Nat) (hn : n < 4294967296) : Calls Tryz.prog 27 #[.int .u32 (n : Nat)] w fun e w' => e = .returned (.agg (opC (opT n) ⟨none, 0, none, 0⟩)) ∧ Chg (fun _ => False) w w' := by
  go_enter Tryz.func27, Tryz.ntmps27
  go_wp2
  refine bodyPost_ret (results_cell_row (p := 2) (ty := 28) rfl _ _ w.heap.size 28 _ (0, 0) _ rfl (Go.heap_alloc_new _ _) Tryz.underlying28 rfl (by kernel_rfl)) rfl ⟨rfl, (Chg.refl _ _).alloc _⟩
set_option maxRecDepth 100000 in
theorem commitop_any (w : World) (st : Nat) (hn : st < 18446744073709551616) (k p : ByteArray) (t : Nat) (ht : t < 18446744073709551616) (hp : p.size ≤ maxLen) : Calls Tryz.prog 28 #[.int .u64 (st : Nat), .string k, .string p, .int .u64 (t : Nat)] w fun e w' => ∃ l, e = .returned (.agg (opC (opC3 st k p t) l)) ∧ OpAt w' (opC3 st k p t) l ∧ (∀ g o', l.ko = some ⟨g, o', none⟩ ∨ l.no = some ⟨g, o', none⟩ → w.heap.size ≤ g) ∧ Chg (fun _ => False) w w' := by
  go_enter Tryz.func28, Tryz.ntmps28
  go_wp2
  generalize hK : (Obj.cells #[Value.string k] 9 : Obj) = OK
  generalize hP : (Obj.cells #[Value.string p, Value.int IntKind.u64 (t : Nat)] 109 : Obj) = OP
  refine bodyPost_ret (results_cell_row (p := 8) (ty := 28) rfl _ _ w.heap.size 28 _ (0, 0) _ rfl ((Below.heap_alloc _ _ _ (by simp; omega)).trans ((Below.heap_alloc _ _ _ (by simp)).trans (Go.heap_alloc_new _ _))) Tryz.underlying28 rfl (by kernel_rfl)) rfl ⟨⟨some ⟨w.heap.size + 1, 0, none⟩, 1, some ⟨w.heap.size + 1 + 1, 0, none⟩, 1⟩, rfl, ?_, ?_, (((Chg.refl _ _).alloc _).alloc _).alloc _⟩
  · generalize (Obj.cells #[Value.int IntKind.u8 3, Value.int IntKind.u32 0, Value.int IntKind.u64 (st : Nat), Value.slice (some ⟨w.heap.size + 1, 0, none⟩) 1 1, Value.slice (some ⟨w.heap.size + 1 + 1, 0, none⟩) 1 1, Value.string ⟨#[]⟩, Value.int IntKind.u32 0, Value.int IntKind.u32 0, Value.int IntKind.u64 0] 28 : Obj) = O0
    have e1 : (((w.alloc O0).alloc OK).alloc OP).heap[w.heap.size + 1]? = some OK := (Below.heap_alloc _ _ _ (by simp)).trans (by have := Go.heap_alloc_new (w.alloc O0) OK; simpa using this)
    have e2 : (((w.alloc O0).alloc OK).alloc OP).heap[w.heap.size + 1 + 1]? = some OP := by have := Go.heap_alloc_new ((w.alloc O0).alloc OK) OP; simpa using this
    subst hK hP
    exact {
      keys := ⟨by simp [opC3], fun i hi => by
        obtain rfl : i = 0 := by simp [opC3] at hi; omega
        exact ⟨_, _, rfl, by simp, cell_of e1 rfl⟩⟩
      needs := ⟨by simp [opC3], fun i hi => by
        obtain rfl : i = 0 := by simp [opC3] at hi; omega
        exact ⟨_, _, rfl, by simp, cell_of e2 rfl, cell_of e2 rfl⟩, by simpa [opC3] using ht, by simpa [opC3] using hp⟩
      k := (by decide : 3 < 256)
      n := (by decide : 0 < 4294967296)
      st := hn
      g := (by decide : 0 < 4294967296)
      «to» := (by decide : 0 < 4294967296)
      at_ := (by decide : 0 < 18446744073709551616) }
  · intro g o' h
    simp only [Option.some.injEq, Addr.mk.injEq] at h
    omega
end Go.Proofs.YtgmmglmokkcgeaaGreat
