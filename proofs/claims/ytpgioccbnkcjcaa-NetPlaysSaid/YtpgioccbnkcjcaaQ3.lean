/- Both nets beside each other: what a call of both leaves. -/
import Derived.Test.YtpgioccbnkcjcaaQ2
import Derived.Test.YtpgioccbnkcjcaaNd
namespace Go.Proofs.Ytpgioccbnkcjcaa
open Go.RowKit Mk

structure Two (w : World) (b x : Nat) (Fa Fb : Nat → Prop) (n : NetM) : Prop where
  a : NetIs w b Fa n
  r : RefIs w x Fb n
  sep : ∀ g, Fa g → ¬ Fb g
  lt : ∀ g, Fa g ∨ Fb g → g < w.heap.size
  lim : ∀ m ∈ n.ms, m.draws < 18446744073709551616
structure TwoP (w : World) (b x : Nat) (Fa Fb : Nat → Prop) (w' : World) : Prop where
  ex : ∃ Fa' Fb' n', Two w' b x Fa' Fb' n' ∧ (∀ g, Fa' g → Fa g ∨ w.heap.size ≤ g) ∧ (∀ g, Fb' g → Fb g ∨ w.heap.size ≤ g)
  chg : Chg (fun g => Fa g ∨ Fb g) w w'
section
variable {w w0 w1 w1' w2 w3 : World} {b x : Nat} {Fa Fb G : Nat → Prop} {n n' : NetM}
theorem Two.stay (h : Two w b x Fa Fb n) (c : Chg G w w1) (hG : ∀ g, Fa g ∨ Fb g → ¬ G g) : Two w1 b x Fa Fb n :=
  ⟨h.a.stay c (fun g hg => hG g (Or.inl hg)), h.r.stay c (fun g hg => hG g (Or.inr hg)), h.sep, fun g hg => Nat.lt_of_lt_of_le (h.lt g hg) c.size, h.lim⟩
theorem Two.same (h : Two w b x Fa Fb n) (c : Chg (fun _ => False) w w1) : Two w1 b x Fa Fb n := h.stay c (fun _ _ f => f)
theorem TwoP.refl (h : Two w0 b x Fa Fb n) (c : Chg (fun _ => False) w w0) : TwoP w b x Fa Fb w0 :=
  ⟨⟨Fa, Fb, n, h, fun _ => Or.inl, fun _ => Or.inl⟩, c.mono (fun _ f => f.elim)⟩
theorem TwoP.same (h : TwoP w b x Fa Fb w1) (c : Chg (fun _ => False) w1 w2) : TwoP w b x Fa Fb w2 := by
  obtain ⟨⟨Fa', Fb', n', h1, h2, h3⟩, h4⟩ := h
  exact ⟨⟨Fa', Fb', n', h1.same c, h2, h3⟩, h4.trans (c.mono (fun _ f => f.elim))⟩
theorem TwoP.pre (h : TwoP w0 b x Fa Fb w1) (c : Chg (fun _ => False) w w0) : TwoP w b x Fa Fb w1 := by
  obtain ⟨⟨Fa', Fb', n', h1, h2, h3⟩, h4⟩ := h
  exact ⟨⟨Fa', Fb', n', h1, fun g hg => (h2 g hg).imp id (Nat.le_trans c.size), fun g hg => (h3 g hg).imp id (Nat.le_trans c.size)⟩, (c.mono (fun _ f => f.elim)).trans h4⟩
theorem Two.fin_ab (T : Two w0 b x Fa Fb n) (hA : NetIs w1 b (fun g => Fa g ∨ w0.heap.size ≤ g) n') (cA : Chg Fa w0 w1) (c1 : Chg (fun _ => False) w1 w1') (hB : RefIs w2 x (fun g => Fb g ∨ w1'.heap.size ≤ g) n') (cB : Chg Fb w1' w2) (lim : ∀ m ∈ n'.ms, m.draws < 18446744073709551616) : TwoP w0 b x Fa Fb w2 := by
  have hsz : w0.heap.size ≤ w1'.heap.size := Nat.le_trans cA.size c1.size
  refine ⟨⟨fun g => (Fa g ∨ w0.heap.size ≤ g) ∧ g < w1.heap.size, fun g => (Fb g ∨ w1'.heap.size ≤ g) ∧ g < w2.heap.size, n', ⟨?_, hB.tight, ?_, ?_, lim⟩, fun g hg => hg.1, fun g hg => hg.1.imp id (Nat.le_trans hsz)⟩, ?_⟩
  · refine ((hA.tight).stay c1 (fun _ _ f => f)).stay cB (fun g hg f => ?_)
    rcases hg.1 with h | h
    · exact T.sep g h f
    · have := T.lt g (Or.inr f); omega
  · rintro g ⟨h1, h2⟩ ⟨h3, h4⟩
    rcases h3 with h3 | h3
    · rcases h1 with h1 | h1
      · exact T.sep g h1 h3
      · have := T.lt g (Or.inr h3); omega
    · have := c1.size; omega
  · rintro g (⟨_, h⟩ | ⟨_, h⟩)
    · have := c1.size; have := cB.size; omega
    · exact h
  · exact ((cA.mono (fun _ => Or.inl)).trans (c1.mono (fun _ f => f.elim))).trans (cB.mono (fun _ => Or.inr))
theorem Two.fin_ba (T : Two w0 b x Fa Fb n) (hB : RefIs w1 x (fun g => Fb g ∨ w0.heap.size ≤ g) n') (cB : Chg Fb w0 w1) (hA : NetIs w2 b (fun g => Fa g ∨ w1.heap.size ≤ g) n') (cA : Chg Fa w1 w2) (lim : ∀ m ∈ n'.ms, m.draws < 18446744073709551616) : TwoP w0 b x Fa Fb w2 := by
  refine ⟨⟨fun g => (Fa g ∨ w1.heap.size ≤ g) ∧ g < w2.heap.size, fun g => (Fb g ∨ w0.heap.size ≤ g) ∧ g < w1.heap.size, n', ⟨hA.tight, ?_, ?_, ?_, lim⟩, fun g hg => hg.1.imp id (Nat.le_trans cB.size), fun g hg => hg.1⟩, ?_⟩
  · refine (hB.tight).stay cA (fun g hg f => ?_)
    rcases hg.1 with h | h
    · exact T.sep g f h
    · have := T.lt g (Or.inl f); omega
  · rintro g ⟨h1, h2⟩ ⟨h3, h4⟩
    rcases h1 with h1 | h1
    · rcases h3 with h3 | h3
      · exact T.sep g h1 h3
      · have := T.lt g (Or.inl h1); omega
    · omega
  · rintro g (⟨_, h⟩ | ⟨_, h⟩)
    · exact h
    · have := cA.size; omega
  · exact (cB.mono (fun _ => Or.inr)).trans (cA.mono (fun _ => Or.inl))
end
section
variable {n : NetM}
theorem lim_send (h : ∀ m ∈ n.ms, m.draws < 18446744073709551616) (i k : Int) (s : ByteArray) : ∀ m ∈ (sendM n i k s).1.ms, m.draws < 18446744073709551616 := by
  unfold sendM
  split
  · exact h
  · split
    · exact h
    · split <;> exact h
theorem lim_drop (h : ∀ m ∈ n.ms, m.draws < 18446744073709551616) (i k j : Int) : ∀ m ∈ (dropM n i k j).1.ms, m.draws < 18446744073709551616 := by
  unfold dropM
  split <;> exact h
theorem lim_double (h : ∀ m ∈ n.ms, m.draws < 18446744073709551616) (i k j : Int) : ∀ m ∈ (doubleM n i k j).1.ms, m.draws < 18446744073709551616 := by
  unfold doubleM
  split
  · exact lim_send h _ _ _
  · exact h
theorem lim_take (h : ∀ m ∈ n.ms, m.draws < 18446744073709551616) (i k j : Int) : ∀ m ∈ (takeM n i k j).1.ms, m.draws < 18446744073709551616 := by
  unfold takeM
  split
  · split
    · exact h
    · exact lim_drop h _ _ _
  · exact h
theorem lim_tick (h : ∀ m ∈ n.ms, m.draws < 18446744073709551616) (i : Int) : ∀ m ∈ (tickM n i).1.ms, m.draws < 18446744073709551616 := by
  unfold tickM
  split
  · rename_i m h1 h2
    exact lim_set h _ _ (h m (List.mem_of_getElem? h2))
  · exact h
theorem lim_draw (h : ∀ m ∈ n.ms, m.draws < 18446744073709551616) (i k : Int) : ∀ m ∈ (drawM n i k).1.ms, m.draws < 18446744073709551616 := by
  unfold drawM
  split
  · split
    · exact h
    · exact lim_set h _ _ (by simp only [u64]; omega)
  · exact h
theorem lim_part (h : ∀ m ∈ n.ms, m.draws < 18446744073709551616) (xs : List Int) : ∀ m ∈ (partM n xs).1.ms, m.draws < 18446744073709551616 := by
  unfold partM
  split
  · exact h
  · intro m hm
    obtain ⟨j, hj, e⟩ := List.getElem_of_mem hm
    simp only at hj e
    rw [sided_get] at e
    rw [sided_len] at hj
    have := h n.ms[j] (List.getElem_mem hj)
    split at e <;> (subst e; exact this)
theorem take_pkt (n : NetM) (i k j : Int) : ∃ (a c : Int) (s : ByteArray), (takeM n i k j).2.1 = .agg #[.int .i64 a, .int .i64 c, .string s] := by
  unfold takeM
  split
  · split
    · exact ⟨_, _, _, rfl⟩
    · exact ⟨_, _, _, rfl⟩
  · exact ⟨_, _, _, rfl⟩
end
end Go.Proofs.Ytpgioccbnkcjcaa
