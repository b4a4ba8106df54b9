/- The document's net: Send, Double. -/
import Derived.Test.YtpgioccbnkcjcaaP2
namespace Go.Proofs.Ytpgioccbnkcjcaa
open Go.RowKit Mk

theorem sl_shape {w : World} {e : TypeId} {size n : Nat} {v : Value} {xs : List Value} (h : sl w e size v n xs) : ∃ lo lc, v = .slice lo n lc ∧ ∀ ad, lo = some ad → ∃ g, ad = ⟨g, 0, none⟩ := by
  rcases h.2 with ⟨rfl, h0⟩ | ⟨g, cap, cur, rfl, _⟩
  · exact ⟨none, 0, by rw [h0], fun ad h => by cases h⟩
  · exact ⟨_, _, rfl, fun ad h => by cases h; exact ⟨g, rfl⟩⟩
def rowOf (R : Lay) : Nat → Prop := fun g => ∃ o, R.lo = some ⟨g, o, none⟩
section
variable {w : World} {x : Nat} {R : Lay} {F : Nat → Prop} {n : NetM}
theorem RefRep.row_type (h : RefRep w x R F n) {g : Nat} (hg : rowOf R g) : ∃ cur, w.heap[g]? = some (.cells cur 42) := by
  obtain ⟨o, e⟩ := hg
  have hl := h.l
  rcases hl.2 with ⟨e', _⟩ | ⟨g', cap, cur, e', hh, _⟩
  · rw [e] at e'; cases e'
  · rw [e] at e'
    simp only [Value.slice.injEq, Option.some.injEq, Addr.mk.injEq] at e'
    obtain ⟨⟨rfl, _⟩, _⟩ := e'
    exact ⟨_, hh⟩
theorem RefRep.row_ne (h : RefRep w x R F n) {g : Nat} (hg : rowOf R g) : g ≠ x ∧ g ≠ R.sb ∧ g ≠ R.tb ∧ g ≠ R.db := by
  obtain ⟨cur, hc⟩ := h.row_type hg
  obtain ⟨c1, h1⟩ := h.s.type
  obtain ⟨c2, h2⟩ := h.t.type
  obtain ⟨c3, h3⟩ := h.d.type
  have h0 := h.box
  refine ⟨fun e => ?_, fun e => ?_, fun e => ?_, fun e => ?_⟩ <;> subst e <;> simp_all
theorem RefRep.x_ne (h : RefRep w x R F n) : x ≠ R.sb ∧ x ≠ R.tb ∧ x ≠ R.db ∧ R.sb ≠ R.tb ∧ R.sb ≠ R.db ∧ R.tb ≠ R.db := by
  obtain ⟨c1, h1⟩ := h.s.type
  obtain ⟨c2, h2⟩ := h.t.type
  obtain ⟨c3, h3⟩ := h.d.type
  have h0 := h.box
  refine ⟨fun e => ?_, fun e => ?_, fun e => ?_, fun e => ?_, fun e => ?_, fun e => ?_⟩ <;> (try rw [← e] at h1) <;> (try rw [← e] at h2) <;> (try rw [← e] at h3) <;> simp_all
theorem RefRep.boxx (h : RefRep w x R F n) {w2 : World} (c : Chg (rowOf R) w w2) : w2.heap[x]? = w.heap[x]? := c.block x h.lts.1 (fun hg => (h.row_ne hg).1 rfl)
theorem RefRep.cellx (h : RefRep w x R F n) {w2 : World} (c : Chg (rowOf R) w w2) : w2.cell? ⟨x, 1, none⟩ = some (.slice R.lo n.l.length R.lc) := (World.cell?_of_block (a := ⟨x, 1, none⟩) (h.boxx c)).trans h.c1
theorem RefRep.frozx (h : RefRep w x R F n) {w2 : World} (c : Chg (rowOf R) w w2) : w2.frozen? ⟨x, 1, none⟩ = false := frozen_of ((h.boxx c).trans h.box)
theorem RefRep.row_in (h : RefRep w x R F n) {g : Nat} (hg : rowOf R g) : F g := by obtain ⟨o, e⟩ := hg; exact h.fl g o e
/-- Other messages, in a row of the same block or of a new one. -/
theorem RefRep.newL (h : RefRep w x R F n) {w2 : World} (c : Chg (rowOf R) w w2) {l' : List Msg} {lo' : Option Addr} {lc' m : Nat} (hm : m = l'.length) (hsl : sl w2 42 3 (.slice lo' m lc') m (pcells l'))
    (hat : ∀ g, (Value.slice lo' m lc').ownBlock = some g → rowOf R g ∨ w.heap.size ≤ g) (hlen : l'.length ≤ 16384) :
    RefIs (w2.setCell ⟨x, 1, none⟩ (.slice lo' m lc')) x (fun g => F g ∨ w.heap.size ≤ g) ⟨n.ms, l'⟩ ∧ Chg F w (w2.setCell ⟨x, 1, none⟩ (.slice lo' m lc')) := by
  subst hm
  obtain ⟨e1, e2, e3, -, -, -⟩ := h.x_ne
  have hk : ∀ g, g < w.heap.size → ¬ rowOf R g → g ≠ x → (w2.setCell ⟨x, 1, none⟩ (.slice lo' l'.length lc')).heap[g]? = w.heap[g]? := fun g hl hr hx => (Below.heap_setCell w2 ⟨x, 1, none⟩ _ g hx).trans (c.block g hl hr)
  have hown : ∀ g, (Value.slice lo' l'.length lc').ownBlock = some g → g ≠ x := fun g hg e => by
    rcases hat g hg with h1 | h1
    · exact (h.row_ne h1).1 e
    · have := h.lts.1; omega
  refine ⟨⟨⟨lo', lc', R.sb, R.sc, R.tb, R.tc, R.db, R.dc⟩, ?_, ?_, ?_, ?_, ?_, h.few, hlen, Or.inl h.fx, ?_, Or.inl h.fs, Or.inl h.ft, Or.inl h.fd⟩, ?_⟩
  · rw [Mk.heap_setCell_same ((h.boxx c).trans h.box)]; rfl
  · exact hsl.stay (fun g hg => Below.heap_setCell w2 ⟨x, 1, none⟩ _ g (hown g hg))
  · exact h.s.stay (fun g hg => by simp [Value.ownBlock] at hg; subst hg; exact hk _ h.lts.2.1 (fun hr => (h.row_ne hr).2.1 rfl) (Ne.symm e1))
  · exact h.t.stay (fun g hg => by simp [Value.ownBlock] at hg; subst hg; exact hk _ h.lts.2.2.1 (fun hr => (h.row_ne hr).2.2.1 rfl) (Ne.symm e2))
  · exact h.d.stay (fun g hg => by simp [Value.ownBlock] at hg; subst hg; exact hk _ h.lts.2.2.2 (fun hr => (h.row_ne hr).2.2.2 rfl) (Ne.symm e3))
  · intro g o e
    simp only at e
    rcases hat g (by rw [e]; rfl) with h1 | h1
    · exact Or.inl (h.row_in h1)
    · exact Or.inr h1
  · exact (c.mono (fun g hg => h.row_in hg)).setCell (a := ⟨x, 1, none⟩) (Or.inl h.fx) _

theorem own_row (R : Lay) (N lc : Nat) {g : Nat} (h : RefRep w x R F n) (hg : (Value.slice R.lo n.l.length R.lc).ownBlock = some g) : rowOf R g := by
  rcases h.l.2 with ⟨e, _⟩ | ⟨g', cap, cur, e, _⟩
  · rw [e] at hg; simp [Value.ownBlock] at hg
  · rw [e] at hg
    simp [Value.ownBlock] at hg
    subst hg
    simp only [Value.slice.injEq] at e
    exact ⟨0, e.1⟩
theorem pcells_snoc (l : List Msg) (m : Msg) : pcells (l ++ [m]) = pcells l ++ [.int .i64 m.frm, .int .i64 m.to, .string m.txt] := by simp [pcells, pkc, pkm]

set_option maxRecDepth 100000 in
set_option maxHeartbeats 1000000 in
theorem rsend_any (h : RefRep w x R F n) (i k : Int) (s : ByteArray) :
    Calls Try.prog 34 #[.pointer (some ⟨x, 0, none⟩), .int .i64 i, .int .i64 k, .string s] w fun e w' => e = .returned (.int .i64 (sendM n i k s).2) ∧ RefIs w' x (fun g => F g ∨ w.heap.size ≤ g) (sendM n i k s).1 ∧ Chg F w w' := by
  obtain ⟨i42, z42, hi42, hz42, hsz42, hby42, hzs42⟩ := info42b
  have MI := Lib.hid (rmay_any h i)
  have MK := Lib.hid (rmay_any h k)
  have H := Lib.hid h
  have HM := Lib.hid (show RefIs w x (fun g => F g ∨ w.heap.size ≤ g) n from ⟨R, h.wide (fun _ => Or.inl)⟩)
  have c1 := h.c1
  have hlen := h.under
  obtain ⟨N, hN⟩ : ∃ N, n.l.length = N := ⟨_, rfl⟩
  have HN := Lib.hid hN
  unfold sendM
  cases hi : may n.ms.length i
  · rw [if_pos (by simp)]
    rw [hi] at MI
    clear hi h hN
    go_enter Try.func34, Try.ntmps34
    go_wp2_with fail
    refine MI.out.mono ?_
    rintro e w' ⟨rfl, rfl⟩
    go_wp2
    go_ret
    exact ⟨rfl, HM.out, Chg.refl _ _⟩
  · cases hk : may n.ms.length k
    · rw [if_pos (by simp)]
      rw [hi] at MI
      rw [hk] at MK
      clear hi hk h hN
      go_enter Try.func34, Try.ntmps34
      go_wp2_with fail
      refine MI.out.mono ?_
      rintro e w' ⟨rfl, rfl⟩
      go_wp2_with fail
      refine MK.out.mono ?_
      rintro e w' ⟨rfl, rfl⟩
      go_wp2
      go_ret
      exact ⟨rfl, HM.out, Chg.refl _ _⟩
    · rw [if_neg (by simp)]
      rw [hi] at MI
      rw [hk] at MK
      rw [hN] at c1 hlen ⊢
      by_cases h4 : 4194304 < s.size
      · rw [if_pos h4]
        have h4' : decide ((4194304 : Int) < s.size) = true := by simp; omega
        clear hi hk h hN h4
        go_enter Try.func34, Try.ntmps34
        go_wp2_with fail
        refine MI.out.mono ?_
        rintro e w' ⟨rfl, rfl⟩
        go_wp2_with fail
        refine MK.out.mono ?_
        rintro e w' ⟨rfl, rfl⟩
        go_wp2
        go_ret
        exact ⟨rfl, HM.out, Chg.refl _ _⟩
      · rw [if_neg h4]
        have h4' : decide ((4194304 : Int) < s.size) = false := by simp; omega
        by_cases h6 : 16384 ≤ N
        · rw [if_pos h6]
          have h6' : decide ((16384 : Int) ≤ N) = true := by simp; omega
          clear hi hk h hN h4 h6
          go_enter Try.func34, Try.ntmps34
          go_wp2_with fail
          refine MI.out.mono ?_
          rintro e w' ⟨rfl, rfl⟩
          go_wp2_with fail
          refine MK.out.mono ?_
          rintro e w' ⟨rfl, rfl⟩
          go_wp2
          go_ret
          exact ⟨rfl, HM.out, Chg.refl _ _⟩
        · rw [if_neg h6]
          have h6' : decide ((16384 : Int) ≤ N) = false := by simp; omega
          obtain ⟨lo, hLo⟩ : ∃ lo, R.lo = lo := ⟨_, rfl⟩
          obtain ⟨lc, hLc⟩ : ∃ lc, R.lc = lc := ⟨_, rfl⟩
          have hl := h.l
          rw [hLo, hLc, hN] at hl
          rw [hLo, hLc] at c1
          have HA := Lib.hid (hl.stay (w' := w.alloc (.cells #[.int .i64 i, .int .i64 k, .string s] 42)) (fun g hg => Below.heap_alloc _ _ _ (hl.lt hg)))
          have hChg : ∀ w2, (w.alloc (.cells #[.int .i64 i, .int .i64 k, .string s] 42)).grownBy w2 (Value.slice lo N lc).ownBlock → Chg (rowOf R) w w2 := fun w2 hg => ((Chg.refl _ _).alloc _).grown hg (fun g hg => Or.inl (own_row R N lc h (by rw [hLo, hLc, hN]; exact hg)))
          have HC := Lib.hid hChg
          have hkx : (w.alloc (.cells #[.int .i64 i, .int .i64 k, .string s] 42)).cell? ⟨x, 1, none⟩ = some (.slice lo N lc) := (World.cell?_of_block (a := ⟨x, 1, none⟩) (Below.heap_alloc _ _ _ h.lts.1)).trans c1
          have HZ := Lib.hid (show (w.alloc (.cells #[.int .i64 i, .int .i64 k, .string s] 42)).heap.size = w.heap.size + 1 by simp)
          have HLo := Lib.hid hLo
          have HLc := Lib.hid hLc
          clear hi hk h hN h4 hl hLo hLc hChg
          have h6n : N < 16384 := by omega
          clear h6
          go_enter Try.func34, Try.ntmps34
          go_wp2_with fail
          refine MI.out.mono ?_
          rintro e w' ⟨rfl, rfl⟩
          go_wp2_with fail
          refine MK.out.mono ?_
          rintro e w' ⟨rfl, rfl⟩
          go_wp2_with (refine wpList_append_sl (by rfl) _ _ 49 (by rfl) 42 i42 z42 3 32 Try.underlying49 hi42 hz42 hsz42 hby42 hzs42 (by decide) (.slice lo N lc) N (pcells n.l) (by rfl) HA.out (some ⟨w'.heap.size, 0, none⟩) 1 1 [.int .i64 i, .int .i64 k, .string s] (by rfl) (by rfl) (fun _ => ⟨_, rfl, cell_new_three (Go.heap_alloc_new _ _)⟩) (fun h => absurd h (by decide)) (by simp [Value.oneCell']) (by simp only [maxLen]; omega) (by omega) ?_; intro v' w2 hsl hgrow hat; obtain ⟨lo2, lc2, rfl, hz2⟩ := sl_shape hsl; have hcg := HC.out w2 hgrow; have hcx := H.out.cellx hcg; have hfx := H.out.frozx hcg; rw [HLo.out, HLc.out, HN.out] at hcx; have HSL := Lib.hid hsl; have HAT := Lib.hid hat; have HCG := Lib.hid hcg; clear hsl hgrow hat hcg)
          have h9 := H.out.newL HCG.out (l' := n.l ++ [⟨i, k, s⟩]) (lo' := lo2) (lc' := lc2) (m := N + 1) (by rw [List.length_append, HN.out]; rfl) (by rw [pcells_snoc]; exact HSL.out) (fun g hg => ?_) (by rw [List.length_append, HN.out]; simp; omega)
          rotate_left
          · rcases HAT.out with e | e
            · rw [e] at hg
              exact Or.inl (own_row R N lc H.out (by rw [HLo.out, HLc.out, HN.out]; exact hg))
            · rw [e, HZ.out] at hg
              simp at hg
              exact Or.inr (by omega)
          have H9 := Lib.hid h9
          clear h9
          go_wp2
          go_ret
          exact ⟨rfl, H9.out.1, H9.out.2⟩

set_option maxRecDepth 100000 in
theorem rdouble_any (h : RefRep w x R F n) (i k j : Int) (hj : i64 j) :
    Calls Try.prog 37 #[.pointer (some ⟨x, 0, none⟩), .int .i64 i, .int .i64 k, .int .i64 j] w fun e w' => e = .returned (.int .i64 (doubleM n i k j).2) ∧ RefIs w' x (fun g => F g ∨ w.heap.size ≤ g) (doubleM n i k j).1 ∧ Chg F w w' := by
  have HL := rlook_any h i k j hj
  have H := Lib.hid h
  have c1 := h.c1
  obtain ⟨N, hN⟩ : ∃ N, n.l.length = N := ⟨_, rfl⟩
  rw [hN] at c1
  have HN := Lib.hid hN
  have HM := Lib.hid (show RefIs w x (fun g => F g ∨ w.heap.size ≤ g) n from ⟨R, h.wide (fun _ => Or.inl)⟩)
  unfold doubleM
  generalize (peekM n i k j).1 = T at *
  generalize (peekM n i k j).2 = c at *
  have HS := Lib.hid (rsend_any h i k T)
  replace HL := Lib.hid HL
  clear h hj hN
  by_cases h0 : c = 0
  · subst h0
    rw [if_pos rfl]
    obtain ⟨c2, hc2⟩ : ∃ c2, (sendM n i k T).2 = c2 := ⟨_, rfl⟩
    rw [hc2] at HS ⊢
    go_enter Try.func37, Try.ntmps37
    go_wp2_with fail
    refine HL.out.mono ?_
    rintro e w' ⟨⟨p, rfl, hp⟩, rfl⟩
    obtain ⟨pn, hpl, rfl, -, -, ht, -⟩ := hp trivial
    obtain ⟨g, hlo, -, -, a2⟩ := H.out.msg hpl
    rw [hlo] at c1
    rw [ht] at a2
    have q0 : (0 : Int) ≤ pn := by omega
    have q1 : (pn : Int) < N := by have := HN.out; omega
    clear hp ht hlo
    go_wp2_with fail
    refine HS.out.mono ?_
    rintro e w2 ⟨rfl, hk2⟩
    have HK := Lib.hid hk2
    clear hk2
    go_wp2
    go_ret
    exact ⟨rfl, HK.out⟩
  · have hd : decide (c = 0) = false := by simpa using h0
    rw [if_neg h0]
    go_enter Try.func37, Try.ntmps37
    go_wp2_with fail
    refine HL.out.mono ?_
    rintro e w' ⟨⟨p, rfl, hp⟩, rfl⟩
    clear hp
    go_wp2
    go_ret
    exact ⟨rfl, HM.out, Chg.refl _ _⟩
end
end Go.Proofs.Ytpgioccbnkcjcaa
