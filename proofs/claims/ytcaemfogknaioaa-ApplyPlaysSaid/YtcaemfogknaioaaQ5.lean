/- Walks: the document's Apply. -/
import Derived.Test.YtcaemfogknaioaaQ2
import Derived.Test.YtcaemfogknaioaaD3
namespace Go.Proofs.Ytcaemfogknaioaa
set_option linter.unusedVariables false
set_option linter.unusedSimpArgs false
open Go.RowKit Mk Go.Sort

theorem rstep_any (s d : ByteArray) (hs : s.size ≤ 1099511627776) (hd : d.size ≤ 1099511627776) (w : World) :
    Calls Try.prog 37 #[.string s, .string d] w fun e w' => e = .returned (.tuple #[.string (stepM s d).1, .string (stepM s d).2]) ∧ Below w.heap.size w w' := by
  have N := Lib.hid (fun w => rnumw_any s.size (by omega) w)
  have hz := num_size s.size
  unfold stepM
  generalize str (Cod.num s.size) = X at *
  have k1 : s.size + d.size ≤ 9223372036854775807 := by omega
  have k2 : X.size + d.size ≤ 9223372036854775807 := by omega
  go_enter Try.func37, Try.ntmps37
  go_wp2_with fail
  refine (N.out w).mono ?_
  rintro e w' ⟨rfl, hb⟩
  go_wp2
  go_ret2
  exact ⟨rfl, hb⟩
/-- The document's loop; its blocks: the box and its clients' row. -/
abbrev Rf (w : World) (b : Nat) (v : Value) (m : LoopM) : Prop := RfRep w b (fun g => g = b ∨ v.ownBlock = some g) v m
/-- The clients that are laid anew, behind some rounds. -/
structure OutAt (W0 : World) (O : List (Nat × Last)) (ov : Value) (wr : World) : Prop where
  has : sl wr 86 3 ov O.length (cliV O)
  own : ∀ g, ov.ownBlock = some g → W0.heap.size ≤ g
  chg : Chg (fun _ => False) W0 wr
section
variable {w w' W0 wr w4 : World} {b : Nat} {F G : Nat → Prop} {v ov ov' : Value} {m : LoopM} {O : List (Nat × Last)}
theorem OutAt.row (h : OutAt W0 O ov wr) (o : Obj) : sl (wr.alloc o) 86 3 ov O.length (cliV O) := sl.stay h.has (fun g hg => Below.heap_alloc _ _ _ (sl.lt h.has hg))
theorem OutAt.step (h : OutAt W0 O ov wr) {k q : Nat} {a : ByteArray} (hs : sl w4 86 3 ov' (O.length + 1) (cliV O ++ [.int .u64 (k : Nat), .int .u64 (q : Nat), .string a])) (hg : (wr.alloc (.cells #[.int .u64 (k : Nat), .int .u64 (q : Nat), .string a] 86)).grownBy w4 ov.ownBlock) (ha : ov'.ownBlock = ov.ownBlock ∨ ov'.ownBlock = some (wr.alloc (.cells #[.int .u64 (k : Nat), .int .u64 (q : Nat), .string a] 86)).heap.size) :
    (∃ o' c', ov' = .slice o' (O.length + 1) c') ∧ OutAt W0 (O ++ [(k, (q, a))]) ov' w4 := by
  refine ⟨sl_shape hs, ?_, fun g hg' => ?_, ?_⟩
  · rw [List.length_append]; unfold cliV at hs ⊢; rw [List.flatMap_append]; exact hs
  · rcases ha with e | e
    · exact h.own g (by rw [← e]; exact hg')
    · rw [e] at hg'
      have := Option.some.inj hg'
      have := h.chg.size
      simp only [World.size_alloc] at *
      omega
  · exact (h.chg.alloc _).grown hg (fun i hi => Or.inr (h.own i hi))
theorem Rf.index (h : Rf w b v m) (idx : Nat) (hi : idx < 18446744073709551616) : w.frozen? ⟨b, 1, none⟩ = false ∧ Rf (w.setCell ⟨b, 1, none⟩ (.int .u64 (idx : Nat))) b v (atM m idx) := by
  have hz : ∀ g, g ≠ b → (w.setCell ⟨b, 1, none⟩ (.int .u64 (idx : Nat))).heap[g]? = w.heap[g]? := fun g hg => Below.heap_setCell _ _ _ _ (fun e => hg e)
  exact ⟨frozen_of h.box, Mk.heap_setCell_same (i := 1) h.box _, h.cl.stay fun g hg => by obtain ⟨cur, hh⟩ := sl_typ h.cl hg; exact hz g (typ_ne hh h.box (by decide)), hi, Or.inl rfl, fun g hg => Or.inr hg⟩
theorem Rf.state (h : Rf w b v m) (s : ByteArray) : w.frozen? ⟨b, 0, none⟩ = false ∧ w.cell? ⟨b, 0, none⟩ = some (.string m.state) ∧ Rf (w.setCell ⟨b, 0, none⟩ (.string s)) b v ⟨s, m.index, m.clients⟩ := by
  have hz : ∀ g, g ≠ b → (w.setCell ⟨b, 0, none⟩ (.string s)).heap[g]? = w.heap[g]? := fun g hg => Below.heap_setCell _ _ _ _ (fun e => hg e)
  exact ⟨frozen_of h.box, cell_of h.box rfl, Mk.heap_setCell_same (i := 0) h.box _, h.cl.stay fun g hg => by obtain ⟨cur, hh⟩ := sl_typ h.cl hg; exact hz g (typ_ne hh h.box (by decide)), h.ix, Or.inl rfl, fun g hg => Or.inr hg⟩
theorem Rf.same (h : Rf w b v m) (c : Chg (fun _ => False) w w') : Rf w' b v m := h.stay c (fun _ _ f => f)
theorem Rf.clients (h : Rf w b v m) (o : OutAt w O ov w') : w'.frozen? ⟨b, 2, none⟩ = false ∧ w'.cell? ⟨b, 2, none⟩ = some v ∧ Rf (w'.setCell ⟨b, 2, none⟩ ov) b ov ⟨m.state, m.index, O⟩ := by
  have hbl := (Array.getElem?_eq_some_iff.1 h.box).1
  have hb1 := (o.chg.block b hbl (fun f => f)).trans h.box
  have hz : ∀ g, g ≠ b → (w'.setCell ⟨b, 2, none⟩ ov).heap[g]? = w'.heap[g]? := fun g hg => Below.heap_setCell _ _ _ _ (fun e => hg e)
  exact ⟨frozen_of hb1, cell_of hb1 rfl, Mk.heap_setCell_same (i := 2) hb1 _, o.has.stay fun g hg => hz g (by have := o.own g hg; omega), h.ix, Or.inl rfl, fun g hg => Or.inr hg⟩
end
end Go.Proofs.Ytcaemfogknaioaa
