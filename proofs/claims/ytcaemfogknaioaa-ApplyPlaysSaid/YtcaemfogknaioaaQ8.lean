/- What lies where in ApplyPlays. -/
import Derived.Test.YtcaemfogknaioaaQ7
import Derived.Test.YtcaemfogknaioaaQ5
namespace Go.Proofs.Ytcaemfogknaioaa
set_option linter.unusedVariables false
set_option linter.unusedSimpArgs false
open Go.RowKit Mk Go.Sort

/-- Both loops, side by side; F: the first one's blocks, all below H. -/
structure PlAt (w : World) (ba : Nat) (F : Nat → Prop) (H bb : Nat) (v : Value) (S : Nat) (A B : LoopM) (W : World) : Prop where
  a : LoopIs W ba F S A
  b : Rf W bb v B
  chg : Chg (fun _ => False) w W
  fl : ∀ g, F g → w.heap.size ≤ g ∧ g < H
  hH : H ≤ W.heap.size
  lb : w.heap.size ≤ bb
  nb : ¬ F bb
  nv : ∀ g, v.ownBlock = some g → ¬ F g
  lv : ∀ g, v.ownBlock = some g → w.heap.size ≤ g
section
variable {w W W' : World} {ba H bb : Nat} {F : Nat → Prop} {v v' : Value} {S S' : Nat} {A B A' B' : LoopM}
theorem PlAt.same (h : PlAt w ba F H bb v S A B W) (c : Chg (fun _ => False) W W') : PlAt w ba F H bb v S A B W' :=
  ⟨h.a.stay c (fun _ _ f => f), Rf.same h.b c, h.chg.trans c, h.fl, Nat.le_trans h.hH c.size, h.lb, h.nb, h.nv, h.lv⟩
theorem PlAt.toA (h : PlAt w ba F H bb v S A B W) (t : To W ba F S' A' W') : PlAt w ba F H bb v S' A' B W' :=
  ⟨t.is, h.b.stay t.chg (fun g hg hF => by
    rcases hg with rfl | hg
    · exact h.nb hF
    · exact h.nv g hg hF), h.chg.trans' t.chg (fun g e => Or.inr (h.fl g e).1), h.fl, Nat.le_trans h.hH t.chg.size, h.lb, h.nb, h.nv, h.lv⟩
theorem PlAt.toB (h : PlAt w ba F H bb v S A B W) (r : Rf W' bb v' B') (hv : ∀ g, v'.ownBlock = some g → v.ownBlock = some g ∨ W.heap.size ≤ g) (c : Chg (fun g => g = bb) W W') : PlAt w ba F H bb v' S A B' W' :=
  ⟨h.a.stay c (fun g hF e => h.nb (e ▸ hF)), r, h.chg.trans' c (fun g e => Or.inr (by have := h.lb; omega)), h.fl, Nat.le_trans h.hH c.size, h.lb, h.nb, fun g e hF => by
    rcases hv g e with e' | e'
    · exact h.nv g e' hF
    · have := (h.fl g hF).2; have := h.hH; omega, fun g e => by
    rcases hv g e with e' | e'
    · exact h.lv g e'
    · have := h.chg.size; omega⟩
/-- What is done to newer blocks is not seen. -/
theorem PlAt.newer (h : PlAt w ba F H bb v S A B W) {W1 : World} {G : Nat → Prop} (c1 : Chg (fun _ => False) W W1) (c : Chg G W1 W') (hG : ∀ g, G g → W.heap.size ≤ g) : PlAt w ba F H bb v S A B W' := by
  have h1 := h.same c1
  have hb := (Array.getElem?_eq_some_iff.1 h.b.box).1
  refine ⟨h1.a.stay c (fun g hF hg => by have := (h.fl g hF).2; have := h.hH; have := hG g hg; omega), h1.b.stay c (fun g hg hg' => by
    have := hG g hg'
    rcases hg with rfl | hg
    · omega
    · have := sl.lt h.b.cl hg; omega), h1.chg.trans' c (fun g e => Or.inr (by have := hG g e; have := h.chg.size; omega)), h.fl, Nat.le_trans h1.hH c.size, h.lb, h.nb, h.nv, h.lv⟩
end
/-- The acts' cells stay. -/
theorem acts_load {w v0 : World} {ao : Option Addr} {cap len : Nat} {f : Nat → ActV} (h : actsAt w (.slice ao len cap) len f) {i : Nat} (hi : i < len) (c : Chg (fun _ => False) w v0) :
    ∃ g o, ao = some ⟨g, o, none⟩ ∧ g < w.heap.size ∧ v0.cell? ⟨g, o + i * 6, none⟩ = some (.int .u64 (f i).c) ∧ v0.cell? ⟨g, o + i * 6 + 1, none⟩ = some (.int .u64 (f i).n) ∧ v0.cell? ⟨g, o + i * 6 + 2, none⟩ = some (.string (f i).d) ∧
      v0.cell? ⟨g, o + i * 6 + 3, none⟩ = some (.bool (f i).raw) ∧ v0.cell? ⟨g, o + i * 6 + 4, none⟩ = some (.int .u8 (f i).k) ∧ v0.cell? ⟨g, o + i * 6 + 5, none⟩ = some (.int .u64 (f i).at_) :=
  h.load hi (fun g hg => c.block g hg (fun f => f))
end Go.Proofs.Ytcaemfogknaioaa
