/- Walks: Pop of heads; the heap's methods through the interface. -/
import Derived.Test.YtnhookblhckmlaaV4
namespace Go.Proofs.Ytnhookblhckmlaa
set_option linter.unusedVariables false
set_option linter.unusedSimpArgs false
open Go.RowKit Mk Go.Sort

/-- The box hb holds a slice of these heads. -/
structure HX (w : World) (hb : Nat) (v : Value) (H : List HdM) : Prop where
  blk : w.heap[hb]? = some (.cells #[v] 85)
  has : HB w v H
  apart : v.ownBlock ≠ some hb
theorem HX.lt {w : World} {hb : Nat} {v : Value} {H : List HdM} (h : HX w hb v H) : hb < w.heap.size := (Array.getElem?_eq_some_iff.1 h.blk).1
theorem HX.stay {w w' : World} {hb : Nat} {v : Value} {H : List HdM} (h : HX w hb v H) (k : RowKit.Below w.heap.size w w') : HX w' hb v H :=
  ⟨(k.block _ h.lt).trans h.blk, sl.stay h.has (fun g hg => k.block g (sl.lt h.has hg)), h.apart⟩
set_option maxRecDepth 100000 in
set_option maxHeartbeats 4000000 in
theorem hpop_any {w : World} {hb : Nat} {v : Value} {H : List HdM} {a : HdM} (h : HX w hb v (H ++ [a])) (hl : (H ++ [a]).length ≤ 1099511627776) :
    Calls Try.prog 83 #[.pointer (some ⟨hb, 0, none⟩)] w fun e w' => (∃ r, e = .returned r) ∧ ∃ v', HX w' hb v' H ∧ v'.ownBlock = v.ownBlock ∧ Chg (fun g => g = hb) w w' := by
  obtain ⟨g, cap, e, hg, c0, c1, c2, c3, c4, c5⟩ := h.has.cells (i := H.length) (a := a) (by simp)
  subst e
  have hn : (H ++ [a]).length = H.length + 1 := by simp
  have d0 : w.cell? ⟨hb, 0, none⟩ = some (.slice (some ⟨g, 0, none⟩) (H.length + 1) cap) := by rw [← hn]; exact cell_of h.blk rfl
  have f0 : w.frozen? ⟨hb, 0, none⟩ = false := frozen_of h.blk
  have l0 : (0 : Int) ≤ H.length := by omega
  have l1 : (H.length : Int) < (H.length + 1 : Nat) := by omega
  have l2 : ((H.length + 1 : Nat) : Int) - 1 = H.length := by omega
  have l3 : H.length < 1099511627776 := by omega
  have hbl := h.lt
  have hcap : (H ++ [a]).length ≤ cap := by
    rcases h.has.2 with ⟨e, _⟩ | ⟨g2, c2, cur, e, hh, hnc, _⟩
    · cases e
    · cases e; exact hnc
  have l4 : (H.length : Int) ≤ cap := by omega
  have HP := Lib.hid (show HB w (.slice (some ⟨g, 0, none⟩) H.length cap) H from by
    rcases h.has.2 with ⟨e, _⟩ | ⟨g2, c2, cur, e, hh, hnc, hcm, hcs, ht⟩
    · cases e
    · cases e
      refine ⟨hdsL_len H, .inr ⟨g, cap, cur, rfl, hh, by omega, hcm, hcs, ?_⟩⟩
      have : cur.toList.take (H.length * 6) = (cur.toList.take ((H ++ [a]).length * 6)).take (H.length * 6) := by
        rw [List.take_take]; congr 1; omega
      rw [this, ht, ← hdsL_len H]
      simp [hdsL])
  have HG := Lib.hid hg
  have HAP := Lib.hid h.apart
  have HBK := Lib.hid h.blk
  clear hg hn hl hcap h
  go_enter Try.func83, Try.ntmps83
  go_wp2
  go_ret
  have e1 := Mk.heap_setCell_same (i := 0) HBK.out (.slice (some ⟨g, 0, none⟩) H.length cap)
  have hne : g ≠ hb := fun e => HAP.out (by rw [e]; rfl)
  have hsz : (w.setCell ⟨hb, 0, none⟩ (.slice (some ⟨g, 0, none⟩) H.length cap)).heap.size = w.heap.size := by simp [World.setCell]
  refine ⟨⟨_, rfl⟩, .slice (some ⟨g, 0, none⟩) H.length cap, ⟨(Below.heap_alloc _ _ hb (by rw [hsz]; exact hbl)).trans e1, ?_, HAP.out⟩, rfl, ?_⟩
  · exact sl.stay HP.out (fun g' hg' => by cases hg'; rw [Below.heap_alloc _ _ _ (by rw [hsz]; exact HG.out), Below.heap_setCell _ _ _ _ hne])
  · exact Chg.alloc (Chg.setCell (F := fun g => g = hb) (Chg.refl _ w) (.inl rfl) _) _
theorem meth_pop (a : Addr) (w : World) : (method 222 92 (.pointer (some a)) "Pop").run Try.prog w = .ok (83, .pointer (some a)) w := by kernel_rfl
theorem meth_len0 (a : Addr) (w : World) : (method 222 92 (.pointer (some a)) "Len").run Try.prog w = (load a >>= fun v => Pure.pure (78, v)).run Try.prog w := by kernel_rfl
theorem meth_len {w : World} {hb : Nat} {v : Value} (h : w.cell? ⟨hb, 0, none⟩ = some v) : (method 222 92 (.pointer (some ⟨hb, 0, none⟩)) "Len").run Try.prog w = .ok (78, v) w := by
  rw [meth_len0, Sem.run_bind, run_load, h]; rfl
theorem meth_less0 (a : Addr) (w : World) : (method 222 92 (.pointer (some a)) "Less").run Try.prog w = (load a >>= fun v => Pure.pure (79, v)).run Try.prog w := by kernel_rfl
theorem meth_less {w : World} {hb : Nat} {v : Value} (h : w.cell? ⟨hb, 0, none⟩ = some v) : (method 222 92 (.pointer (some ⟨hb, 0, none⟩)) "Less").run Try.prog w = .ok (79, v) w := by
  rw [meth_less0, Sem.run_bind, run_load, h]; rfl
theorem meth_swap0 (a : Addr) (w : World) : (method 222 92 (.pointer (some a)) "Swap").run Try.prog w = (load a >>= fun v => Pure.pure (80, v)).run Try.prog w := by kernel_rfl
theorem meth_swap {w : World} {hb : Nat} {v : Value} (h : w.cell? ⟨hb, 0, none⟩ = some v) : (method 222 92 (.pointer (some ⟨hb, 0, none⟩)) "Swap").run Try.prog w = .ok (80, v) w := by
  rw [meth_swap0, Sem.run_bind, run_load, h]; rfl
end Go.Proofs.Ytnhookblhckmlaa
