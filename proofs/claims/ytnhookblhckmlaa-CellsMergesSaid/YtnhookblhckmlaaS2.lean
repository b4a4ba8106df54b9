/- What CellsPlays keeps. -/
import Derived.Test.YtnhookblhckmlaaS1
namespace Go.Proofs.Ytnhookblhckmlaa
set_option linter.unusedVariables false
set_option linter.unusedSimpArgs false
open Go.RowKit Mk Go.Sort

/-- Between two rounds: the cells and the document's slice hold M. -/
structure PlayAt (w : World) (xv : Value) (M : List CellM) (W : World) : Prop where
  cs : CS w.heap.size (fun g => xv.ownBlock = some g) w.heap.size M W
  x : Has W xv M
  below : RowKit.Below w.heap.size w W
theorem PlayAt.stay {w : World} {xv : Value} {M : List CellM} {W W' : World} (h : PlayAt w xv M W) (k : RowKit.Below W.heap.size W W') : PlayAt w xv M W' :=
  ⟨h.cs.stay k, h.x.stay k, below_go h.below (Nat.le_refl _) k⟩
/-- In a round: the cells hold M, the document's slice holds X, the step s lies at bx. -/
structure MidPlay (w : World) (s : StepM) (bx : Nat) (xv : Value) (M X : List CellM) (W : World) : Prop where
  cs : CS w.heap.size (fun g => xv.ownBlock = some g ∨ g = bx) w.heap.size M W
  x : Has W xv X
  box : W.heap[bx]? = some (.cells (stepL s).toArray 40)
  below : RowKit.Below w.heap.size w W
theorem MidPlay.stay {w : World} {s : StepM} {bx : Nat} {xv : Value} {M X : List CellM} {W W' : World} (h : MidPlay w s bx xv M X W) (k : RowKit.Below W.heap.size W W') : MidPlay w s bx xv M X W' :=
  ⟨h.cs.stay k, h.x.stay k, cell_alloc_keep h.box k, below_go h.below (Nat.le_refl _) k⟩
theorem MidPlay.of {w : World} {s : StepM} {xv : Value} {M : List CellM} {W : World} (h : PlayAt w xv M W) : MidPlay w s W.heap.size xv M M (W.alloc (.cells (stepL s).toArray 40)) := by
  have k : RowKit.Below W.heap.size W (W.alloc (.cells (stepL s).toArray 40)) := (Below.refl _ W).alloc (Nat.le_refl _) _
  exact ⟨(h.cs.keep k).mono (fun g e => e.elim Or.inl (fun e => Or.inr (by omega))), h.x.stay k, Go.heap_alloc_new _ _, below_go h.below (Nat.le_refl _) k⟩
theorem MidPlay.fin {w : World} {s : StepM} {bx : Nat} {xv : Value} {M : List CellM} {W : World} (h : MidPlay w s bx xv M M W) : PlayAt w xv M W := ⟨h.cs.mono (fun g e => Or.inl e), h.x, h.below⟩
theorem MidPlay.lt {w : World} {s : StepM} {bx : Nat} {xv : Value} {M X : List CellM} {W : World} (h : MidPlay w s bx xv M X W) : bx < W.heap.size := (Array.getElem?_eq_some_iff.1 h.box).1
theorem MidPlay.K {w : World} {s : StepM} {bx : Nat} {xv : Value} {M X : List CellM} {W : World} (h : MidPlay w s bx xv M X W) : ∀ g, (xv.ownBlock = some g ∨ g = bx) → g < W.heap.size := fun g e => by
  rcases e with e | rfl
  · exact sl.lt h.x e
  · exact h.lt
/-- The cells are turned, nothing else is. -/
theorem MidPlay.turn {w : World} {s : StepM} {bx : Nat} {xv : Value} {M M' X : List CellM} {W W' : World} (h : MidPlay w s bx xv M X W) (c : CS w.heap.size (fun g => xv.ownBlock = some g ∨ g = bx) w.heap.size M' W') (k : Chg (fun g => w.heap.size ≤ g ∧ ¬ (xv.ownBlock = some g ∨ g = bx)) W W') : MidPlay w s bx xv M' X W' :=
  ⟨c, sl.stay h.x (fun g hg => k.block g (sl.lt h.x hg) (fun f => f.2 (Or.inl hg))), (k.block bx h.lt (fun f => f.2 (Or.inr rfl))).trans h.box, below_chg h.below (Nat.le_refl _) k⟩
/-- The document's slice is a new one. -/
theorem MidPlay.next {w : World} {s : StepM} {bx : Nat} {xv v' : Value} {M X X' : List CellM} {W W' : World} (h : MidPlay w s bx xv M X W) (k : RowKit.Below W.heap.size W W') (hx : Has W' v' X') (ho : ∀ g, v'.ownBlock = some g → xv.ownBlock = some g ∨ W.heap.size ≤ g) : MidPlay w s bx v' M X' W' := by
  have h2 := h.stay k
  refine ⟨(h.cs.keep k).mono (fun g e => ?_), hx, h2.box, h2.below⟩
  rcases e with e | rfl
  · exact (ho g e).elim (fun e => Or.inl (Or.inl e)) Or.inr
  · exact Or.inl (Or.inr rfl)
theorem MidPlay.put {w : World} {s : StepM} {bx : Nat} {xv : Value} {M X : List CellM} {W : World} (h : MidPlay w s bx xv M X W) {so : Option Addr} {P : List CellM} (hp : At w so P) (hL : M.length + P.length ≤ 1099511627776) (cap : Nat) :
    Calls Try.prog 12 #[.pointer (some ⟨w.heap.size, 0, none⟩), .slice so P.length cap] W fun e w' => e = .returned (.tuple #[.int .i64 (putR P 0).1, .int .i64 (putR P 0).2]) ∧ MidPlay w s bx xv (putM M P) X w' := by
  refine (h.cs.put h.K h.below.size (hp.below h.below) (fun hne g o e => Or.inl (hp.lt hne e)) hL cap).mono ?_
  rintro e w' ⟨rfl, h1, h2⟩
  exact ⟨rfl, h.turn h1 h2⟩
theorem MidPlay.rput {w : World} {s : StepM} {bx : Nat} {xv : Value} {M X : List CellM} {W : World} (h : MidPlay w s bx xv M X W) {so : Option Addr} {P : List CellM} (hp : At w so P) (hL : X.length + P.length ≤ 1099511627776) (cap : Nat) :
    Calls Try.prog 16 #[xv, .slice so P.length cap] W fun e w' => ∃ o c, e = .returned (.tuple #[.slice o (putM X P).length c, .int .i64 (putR P 0).1, .int .i64 (putR P 0).2]) ∧ MidPlay w s bx (.slice o (putM X P).length c) M (putM X P) w' := by
  refine (rput_any h.x (hp.below h.below) hL).mono ?_
  rintro e w' ⟨v', rfl, h1, h2, h3⟩
  obtain ⟨o, c, rfl⟩ := h1.shape
  exact ⟨o, c, rfl, h.next h2 h1 h3⟩
theorem MidPlay.rtrim {w : World} {s : StepM} {bx : Nat} {xv : Value} {M : List CellM} {W : World} (h : MidPlay w s bx xv M M W) (hL : M.length ≤ 1099511627776) (b : Nat) :
    Calls Try.prog 17 #[xv, .int .u64 b] W fun e w' => ∃ o c, e = .returned (.slice o (trimM M b).length c) ∧ MidPlay w s bx (.slice o (trimM M b).length c) M (trimM M b) w' := by
  refine (rtrim_any h.x hL b).mono ?_
  rintro e w' ⟨v', rfl, h1, h2, h3⟩
  rw [rt_trim h.cs.ord] at h1
  obtain ⟨o, c, rfl⟩ := h1.shape
  exact ⟨o, c, rfl, h.next h2 h1 (fun g e => Or.inr (h3 g e))⟩
theorem MidPlay.trim {w : World} {s : StepM} {bx : Nat} {xv : Value} {M X : List CellM} {W : World} (h : MidPlay w s bx xv M X W) (hL : M.length ≤ 1099511627776) (b : Nat) :
    Calls Try.prog 15 #[.pointer (some ⟨w.heap.size, 0, none⟩), .int .u64 b] W fun e w' => e = .returned (.int .i64 ((M.length : Int) - (trimM M b).length)) ∧ MidPlay w s bx xv (trimM M b) X w' := by
  refine (h.cs.trim hL b).mono ?_
  rintro e w' ⟨rfl, h1, h2⟩
  exact ⟨rfl, h.turn h1 h2⟩
theorem MidPlay.get {w : World} {s : StepM} {bx : Nat} {xv : Value} {M X : List CellM} {W : World} (h : MidPlay w s bx xv M X W) (hL : M.length ≤ 1099511627776) (k : ByteArray) (t : Nat) {V : Value} (hV : seenV (getM M k t) = V) :
    Calls Try.prog 13 #[.pointer (some ⟨w.heap.size, 0, none⟩), .string k, .int .u64 t] W fun e w' => e = .returned V ∧ MidPlay w s bx xv M X w' ∧ RowKit.Below W.heap.size W w' := by
  rw [← hV]
  refine (h.cs.get hL k t).mono ?_
  rintro e w' ⟨rfl, h2⟩
  exact ⟨rfl, h.stay h2, h2⟩
theorem MidPlay.rget {w : World} {s : StepM} {bx : Nat} {xv : Value} {M X : List CellM} {W : World} (h : MidPlay w s bx xv M X W) (k : ByteArray) (t : Nat) {V : Value} (hV : seenV (getM X k t) = V) :
    Calls Try.prog 18 #[xv, .string k, .int .u64 t] W fun e w' => e = .returned V ∧ MidPlay w s bx xv M X w' ∧ RowKit.Below W.heap.size W w' := by
  rw [← hV]
  obtain ⟨so, cap, rfl, h1, -⟩ := h.x.at
  refine (rget_any h1 k t).mono ?_
  rintro e w' ⟨rfl, h2⟩
  exact ⟨rfl, h.stay h2, h2⟩
theorem PlayAt.len {w : World} {xv : Value} {M : List CellM} {W : World} (h : PlayAt w xv M W) :
    Calls Try.prog 24 #[.pointer (some ⟨w.heap.size, 0, none⟩)] W fun e w' => e = .returned (.int .i64 M.length) ∧ w' = W := h.cs.len
end Go.Proofs.Ytnhookblhckmlaa
