/- Walks: the document's Read; plain. -/
import Derived.Test.YtgmmglmokkcgeaaF6
import Derived.Test.YtgmmglmokkcgeaaE2z
import Derived.Test.YtgmmglmokkcgeaaE3
namespace Go.Proofs.Ytgmmglmokkcgeaa
set_option linter.unusedVariables false
set_option linter.unusedSimpArgs false
open Go.RowKit Mk Go.Sort

theorem read_begin0 (w : World) (s : ByteArray) {k S : Nat} (hs : s.size ≤ S) (hS : S ≤ 1099511627776) :
    RoAt 100 w (w.heap.size + 1) w.heap.size none S (op0 k) nilS nilS ⟨s, false⟩ ((w.alloc (.cells #[.string s, .bool false] 100)).alloc (.cells (boxC (op0 k) nilS nilS) 34)) where
  box := by have := Go.heap_alloc_new (w.alloc (.cells #[.string s, .bool false] 100)) (.cells (boxC (op0 k) nilS nilS) 34); simpa using this
  rd := (Below.heap_alloc _ _ _ (by simp)).trans (Go.heap_alloc_new w _)
  keys := sl_nil _ _ _
  needs := sl_nil _ _ _
  chg := ((Chg.refl _ w).alloc _).alloc _
  kn := by omega
  rn := by omega
  ko g e := by simp [Value.ownBlock] at e
  no g e := by simp [Value.ownBlock] at e
  t := Or.inr rfl
  sz := hs
  S := hS
  var vb e := by cases e
end Go.Proofs.Ytgmmglmokkcgeaa
