/- Walks: the document's Read. -/
import Derived.Test.YtcaemfogknaioaaP2
import Derived.Deep.CutBlock
namespace Go.Proofs.Ytcaemfogknaioaa
set_option linter.unusedVariables false
set_option linter.unusedSimpArgs false
open Go.RowKit Mk Go.Sort

def cliV (C : List (Nat × Last)) : List Value := C.flatMap fun p => [.int .u64 (p.1 : Nat), .int .u64 (p.2.1 : Nat), .string p.2.2]
/-- The document's loop lies at b, its clients in v. -/
structure RfAt (w : World) (b : Nat) (v : Value) (m : LoopM) (W : World) : Prop where
  box : W.heap[b]? = some (.cells #[.string m.state, .int .u64 (m.index : Nat), v] 63)
  cl : sl W 86 3 v m.clients.length (cliV m.clients)
  chg : Chg (fun _ => False) w W
  lb : w.heap.size ≤ b
  lv : ∀ g, v.ownBlock = some g → w.heap.size ≤ g
theorem sl_typ {w : World} {e : TypeId} {size : Nat} {v : Value} {n : Nat} {xs : List Value} (h : sl w e size v n xs) {g : Nat} (hg : v.ownBlock = some g) : ∃ cur, w.heap[g]? = some (.cells cur e) := by
  rcases h.2 with ⟨rfl, _⟩ | ⟨g', cap, cur, rfl, hh, _⟩
  · simp [Value.ownBlock] at hg
  · simp [Value.ownBlock] at hg; subst hg; exact ⟨cur, hh⟩
theorem sl_shape {w : World} {e : TypeId} {size : Nat} {v : Value} {n : Nat} {xs : List Value} (h : sl w e size v n xs) : ∃ o c, v = .slice o n c := by
  rcases h.2 with ⟨rfl, e⟩ | ⟨g, cap, cur, rfl, _⟩
  · exact ⟨_, _, by rw [e]⟩
  · exact ⟨_, _, rfl⟩
theorem typ_ne {w : World} {g g' : Nat} {c c' : Array Value} {t t' : TypeId} (h : w.heap[g]? = some (.cells c t)) (h' : w.heap[g']? = some (.cells c' t')) (ht : t ≠ t') : g ≠ g' := by
  rintro rfl
  rw [h] at h'
  injection h' with h'
  injection h' with _ h'
  exact ht h'
section
variable {w W W' : World} {b : Nat} {v : Value} {m : LoopM}
theorem RfAt.same (h : RfAt w b v m W) (c : Chg (fun _ => False) W W') : RfAt w b v m W' :=
  ⟨(c.block b (Array.getElem?_eq_some_iff.1 h.box).1 (fun f => f)).trans h.box, h.cl.stay fun g hg => c.block g (h.cl.lt hg) (fun f => f), h.chg.trans c, h.lb, h.lv⟩
/-- What is done to a newer block is not seen. -/
theorem RfAt.newer (h : RfAt w b v m W) {W1 : World} (c1 : Chg (fun _ => False) W W1) {x : Nat} (hx : W.heap.size ≤ x) (c : Chg (fun g => g = x) W1 W') : RfAt w b v m W' := by
  have hb := (Array.getElem?_eq_some_iff.1 h.box).1
  have h1 := h.same c1
  have c2 : Chg (fun _ => False) w W' := h1.chg.trans' c (fun g e => Or.inr (by have := h.chg.size; omega))
  exact ⟨(c.block b (Nat.lt_of_lt_of_le hb c1.size) (by omega)).trans h1.box, h1.cl.stay fun g hg => c.block g (h1.cl.lt hg) (by have := h.cl.lt hg; omega), c2, h.lb, h.lv⟩
theorem RfAt.state (h : RfAt w b v m W) (s : ByteArray) : W.frozen? ⟨b, 0, none⟩ = false ∧ W.cell? ⟨b, 0, none⟩ = some (.string m.state) ∧ RfAt w b v ⟨s, m.index, m.clients⟩ (W.setCell ⟨b, 0, none⟩ (.string s)) := by
  have hz : ∀ g, g ≠ b → (W.setCell ⟨b, 0, none⟩ (.string s)).heap[g]? = W.heap[g]? := fun g hg => Below.heap_setCell _ _ _ _ (fun e => hg e)
  exact ⟨frozen_of h.box, cell_of h.box rfl, Mk.heap_setCell_same (i := 0) h.box _, h.cl.stay fun g hg => by obtain ⟨cur, hh⟩ := sl_typ h.cl hg; exact hz g (typ_ne hh h.box (by decide)), h.chg.setCell (Or.inr h.lb) _, h.lb, h.lv⟩
/-- A client more. -/
theorem RfAt.client (h : RfAt w b v m W) {p : Nat × Last} {v' : Value} (hs : sl W' 86 3 v' (m.clients.length + 1) (cliV m.clients ++ [.int .u64 (p.1 : Nat), .int .u64 (p.2.1 : Nat), .string p.2.2])) (hg : W.grownBy W' v.ownBlock) (ha : v'.ownBlock = v.ownBlock ∨ v'.ownBlock = some W.heap.size) :
    W'.frozen? ⟨b, 2, none⟩ = false ∧ W'.cell? ⟨b, 2, none⟩ = some v ∧ RfAt w b v' ⟨m.state, m.index, m.clients ++ [p]⟩ (W'.setCell ⟨b, 2, none⟩ v') := by
  have c : Chg (fun g => v.ownBlock = some g) W W' := (Chg.refl _ W).grown hg (fun i e => Or.inl e)
  have hbl := (Array.getElem?_eq_some_iff.1 h.box).1
  have hne : v.ownBlock ≠ some b := fun e => by obtain ⟨cur, hh⟩ := sl_typ h.cl e; exact typ_ne hh h.box (by decide) rfl
  have hb1 := (c.block b hbl hne).trans h.box
  have hz : ∀ g, g ≠ b → (W'.setCell ⟨b, 2, none⟩ v').heap[g]? = W'.heap[g]? := fun g hg => Below.heap_setCell _ _ _ _ (fun e => hg e)
  refine ⟨frozen_of hb1, cell_of hb1 rfl, Mk.heap_setCell_same (i := 2) hb1 _, ?_, ?_, h.lb, ?_⟩
  · have : sl W' 86 3 v' (m.clients ++ [p]).length (cliV (m.clients ++ [p])) := by
      rw [List.length_append]; unfold cliV at hs ⊢; rw [List.flatMap_append]; exact hs
    exact this.stay fun g hg => by obtain ⟨cur, hh⟩ := sl_typ this hg; exact hz g (typ_ne hh hb1 (by decide))
  · exact (h.chg.trans' c (fun i e => Or.inr (h.lv i e))).setCell (Or.inr h.lb) _
  · intro g hg
    rcases ha with e | e
    · exact h.lv g (e ▸ hg)
    · rw [e] at hg; cases hg; exact h.chg.size
end
theorem info86 : ∃ (i : TypeInfo) (z : Value), Try.prog.info? 86 = some i ∧ i.zero = some z ∧ i.size = 3 ∧ i.bytes = 32 ∧ z.cells.size = 3 := by
  obtain ⟨i, hi, hzz⟩ := Option.map_eq_some_iff.1 (show (Try.prog.info? 86).map (fun i => (i.zero, i.size, i.bytes)) = some (some (.agg #[.int .u64 0, .int .u64 0, .string ⟨#[]⟩]), 3, 32) by kernel_rfl)
  simp only [Prod.mk.injEq] at hzz
  exact ⟨i, _, hi, hzz.1, hzz.2.1, hzz.2.2, rfl⟩
theorem rnum_less {l : List UInt8} (h : (Cod.rnum l).2.2 = 0) : (Cod.rnum l).2.1.length + 1 ≤ l.length := by
  have := congrArg List.length (Cod.rnum_form1 l h)
  rw [List.length_append, Cod.num_len] at this
  omega
theorem cell_new_three {w : World} {g : Nat} {cs : Array Value} {t : TypeId} (h : w.heap[g]? = some (.cells cs t)) : ∀ j u, cs.toList[j]? = some u → w.cell? ((⟨g, 0, none⟩ : Addr).add j) = some u := by
  intro j u hj
  rw [Addr.add_mid, Nat.zero_add]
  exact cell_of h (by simpa using hj)
/-- The three reads of a client, one by one. -/
theorem cliR_step (n : Nat) (l : List UInt8) (b : Nat) {x q : Nat} {l1 l2 l3 : List UInt8} {a : List UInt8} {e1 e2 e3 : Nat} (h1 : Cod.rnum l = (x, l1, e1)) (h2 : Cod.rnum l1 = (q, l2, e2)) (h3 : Cod.rtext l2 = (a, l3, e3)) :
    cliR (n + 1) l b = if e1 ≠ 0 ∨ x ≤ b then none else if e2 ≠ 0 ∨ q = 0 then none else if e3 ≠ 0 then none else (cliR n l3 x).map fun p => ((x, (q, str a)) :: p.1, p.2) := by
  show (if (Cod.rnum l).2.2 ≠ 0 ∨ (Cod.rnum l).1 ≤ b then none else if (Cod.rnum (Cod.rnum l).2.1).2.2 ≠ 0 ∨ (Cod.rnum (Cod.rnum l).2.1).1 = 0 then none else if (Cod.rtext (Cod.rnum (Cod.rnum l).2.1).2.1).2.2 ≠ 0 then none else (cliR n (Cod.rtext (Cod.rnum (Cod.rnum l).2.1).2.1).2.1 (Cod.rnum l).1).map fun p => (((Cod.rnum l).1, ((Cod.rnum (Cod.rnum l).2.1).1, str (Cod.rtext (Cod.rnum (Cod.rnum l).2.1).2.1).1)) :: p.1, p.2)) = _
  rw [h1]; simp only; rw [h2]; simp only; rw [h3]
end Go.Proofs.Ytcaemfogknaioaa
