/- A range over a function: what the caller's own blocks are is told. Holds of any program. -/
import Derived.Test.YtgmmglmokkcgeaaGreatRange
import Derived.RangeFuncNested
import Derived.RangeFuncBound
import Derived.RangeFuncCalls
import Derived.RangeFuncLeaves
import Derived.RangeFuncFrom
import Derived.OwnWalkIn
import Derived.Shelf.SlIter.Nil
import Derived.Shelf.SortM.Plain
import Derived.Shelf.SortM.SortNone
import Derived.Ground.GgzProg
import Derived.Ground.SlgmProg
import Derived.Test.YtgmmglmokkcgeaaGreatProg
import Derived.Test.YtgmmglmokkcgeaaGreatR3
import Derived.Test.YtgmmglmokkcgeaaGreatA8
import Derived.Lib.SliceRun
import Derived.WalkSpells
import Derived.Test.YtgmmglmokkcgeaaGreatA7
import Derived.Shelf.Abstract
import Derived.Shelf.RegionOpen
import Derived.TacticsInMore
import Derived.LoopNIn
import Derived.LoopIn
set_option linter.unusedVariables false
set_option linter.unusedSimpArgs false
namespace Go.Proofs.YtgmmglmokkcgeaaGreat.Mk
open Go Go.RowKit

theorem chg_putObj {F : Nat → Prop} {w W : World} (h : Chg F w W) {r : Nat} (hr : F r ∨ w.heap.size ≤ r) (o : Obj) : Chg F w (W.putObj r o) :=
  ⟨h.os, h.tape, h.output, Nat.le_trans h.size (by simp), fun i hi hF => by
    have : i ≠ r := fun e => by subst e; rcases hr with a | a; exact hF a; omega
    rw [World.putObj_heap_other this]; exact h.block i hi hF⟩

/-- The next footprint: of what was in it, and of new blocks. -/
def Wider (F F' : Nat → Prop) (W : World) : Prop := ∀ g, F' g → F g ∨ W.heap.size ≤ g
theorem Wider.refl (F : Nat → Prop) (W : World) : Wider F F W := fun _ f => Or.inl f

/-- An iterator g lb: what it hands over (encs x), in what order (Ok: what may have come), what has come when it is at its end (S), which blocks it reads (R). The caller's own blocks, F, are told at each round; the iterator turns new blocks that are none of them, and no others. -/
def SeqF {α : Type} (P : Program) (g : Nat) (lb : Array Value) (encs : α → Array Value) (Ok S : List α → Prop) (R : Nat → Prop) (w : World) : Prop :=
  ∀ (l : Nat) (J Jx : List α → (Nat → Prop) → World → Prop) (W : World) (F0 : Nat → Prop), w.heap.size ≤ W.heap.size → (∀ g, R g → W.heap[g]? = w.heap[g]?) → (∀ g, F0 g → g < W.heap.size ∧ ¬ R g) →
    (∀ pre F W1 W2, J pre F W1 → Chg (fun g => W.heap.size ≤ g ∧ ¬ F g) W1 W2 → J pre F W2) →
    (∀ pre F W1 W2, Jx pre F W1 → Chg (fun g => W.heap.size ≤ g ∧ ¬ F g) W1 W2 → Jx pre F W2) →
    (∀ pre x F W1, J pre F W1 → Ok (pre ++ [x]) → YieldAt Fence.wide 1 P l (encs x) W1 fun e W' => ∃ F', Wider F F' W1 ∧ Chg F W1 W' ∧ (∀ g, F' g → g < W'.heap.size) ∧
      ((e = .returned (.bool true) ∧ J (pre ++ [x]) F' W') ∨ (e = .returned (.bool false) ∧ Jx (pre ++ [x]) F' W'))) →
    J [] F0 W →
    CallsIn Fence.wide 2 P g (#[.func (.yield l) #[] #[]] ++ lb) W fun e W' => (∃ v, e = .returned v) ∧ ((∃ xs F, S xs ∧ J xs F W') ∨ (∃ pre F, Ok pre ∧ Jx pre F W'))

/-- How the body of a round may be left. -/
def fromF {α : Type} (I : List α → (Nat → Prop) → World → Prop) (xs : List α) (F : Nat → Prop) (W W' : World) : Prop :=
  ∃ F', Wider F F' W ∧ (∀ g, F' g → g < W'.heap.size) ∧ Chg F W W' ∧ I xs F' W'
def postF {α : Type} (I : List α → (Nat → Prop) → World → Prop) (Ix : Code → List α → (Nat → Prop) → World → Prop) (xs : List α) (F : Nat → Prop) (W : World) : Exit → Act → World → Prop
  | .normal, _, W' => fromF I xs F W W'
  | .ret, _, W' => fromF (Ix .ret) xs F W W'
  | .exit id, _, W' => fromF (Ix (.exit id)) xs F W W'
  | .goto t, _, W' => fromF (Ix (.goto t)) xs F W W'
  | .panic _, _, _ => False
  | .outgrown, _, _ => False

theorem wp_rangeF {P : Program} {α : Type} {g : Operand} {ps : Array Tmp} {assign body : Code} {Q : Exit → Act → World → Prop} {a : Act} {w : World} {gf : Nat} {lb : Array Value}
    (hg : a.eval g = .func (.func gf) #[] lb) (eg : ∀ args w, (callFunc gf args).run P w = .ok (.enter gf args) w)
    {encs : α → Array Value} {Ok S : List α → Prop} {w0 : World} {R : Nat → Prop} (hseq : SeqF P gf lb encs Ok S R w0) (hb0 : w0.heap.size ≤ w.heap.size) (hR : ∀ g, R g → g < w0.heap.size ∧ w.heap[g]? = w0.heap[g]?) (hps : ∀ x, (encs x).size = ps.size)
    (I : List α → (Nat → Prop) → World → Prop) (Ix : Code → List α → (Nat → Prop) → World → Prop) (F0 : Nat → Prop) (hF0 : ∀ g, F0 g → g < w.heap.size ∧ ¬ R g)
    (hI : ∀ pre F W1 W2, I pre F W1 → Chg (fun g => w.heap.size ≤ g ∧ ¬ F g) W1 W2 → I pre F W2)
    (hIx : ∀ c pre F W1 W2, Ix c pre F W1 → Chg (fun g => w.heap.size ≤ g ∧ ¬ F g) W1 W2 → Ix c pre F W2)
    (h0 : I [] F0 w)
    (hround : ∀ (l : Nat) (pre : List α) (x : α) (F : Nat → Prop) (W : World), I pre F W → Ok (pre ++ [x]) → (∀ g, F g → g < W.heap.size) → ¬ F l → w.heap.size ≤ l → l < W.heap.size →
      assign.wpIn (Fence.wide.inRound l) 1 P (Exit.then (fun a₁ W1 => Below W.heap.size W W1 ∧ ∀ W2, Chg (fun g => g = l) W1 W2 → W2.heap.size = W1.heap.size → I pre F W2 →
        body.wpIn (Fence.wide.inRound l) 1 P (postF I Ix (pre ++ [x]) F W2) a₁ W2) (fun _ _ _ => False)) { tmps := (ps.zip (encs x)).foldl (fun t (p, v) => t.setIfInBounds p v) a.tmps, defers := [] } W)
    (hdone : ∀ (D : Nat) (xs : List α) (F : Nat → Prop) (W : World), w.heap.size ≤ D → ¬ F D → S xs → I xs F W → W.heap[D]? = some (.deferred (some [])) → Q .normal { a with defers := { target := .collected D, args := #[] } :: a.defers } W)
    (hstop : ∀ (D : Nat) (c : Code) (pre : List α) (F : Nat → Prop) (W : World), w.heap.size ≤ D → ¬ F D → Ok pre → Ix c pre F W → W.heap[D]? = some (.deferred (some [])) → c.wpIn Fence.wide 3 P Q { a with defers := { target := .collected D, args := #[] } :: a.defers } W) :
    (Code.rangeFunc g ps assign body).wpIn Fence.wide 3 P Q a w := by
  refine wpIn_rangeFunc ?_
  intro fn hfn
  show ∃ (l : Nat) (mark : List Deferred) (w₁ : World) (d : Deferred) (w₁' : World) (f : FuncId) (args : Array Value) (w₂ : World), (Instr.enterLoop fn a.tmps ps assign body none).run P w = .ok (l, mark) w₁ ∧ _
  obtain ⟨rec, hrec⟩ : ∃ rec : LoopState → Option Code → Loop, rec = fun st pe => { state := st, pending := pe, fn, tmps := a.tmps, params := ps, assign, body, defers := w.heap.size } := ⟨_, rfl⟩
  obtain ⟨W1, hW1⟩ : ∃ W1, (w.alloc (.deferred (some []))).alloc (.loop (rec .ready none)) = W1 := ⟨_, rfl⟩
  have hs1 : W1.heap.size = w.heap.size + 2 := by rw [← hW1]; simp
  have hL1 : W1.heap[w.heap.size + 1]? = some (.loop (rec .ready none)) := by
    rw [← hW1]; have := World.alloc_heap_new (w.alloc (.deferred (some []))) (.loop (rec .ready none)); rwa [World.size_alloc] at this
  have hK1 : W1.heap[w.heap.size]? = some (.deferred (some [])) := by
    rw [← hW1]; exact (Below.heap_alloc _ _ _ (by simp)).trans (World.alloc_heap_new w _)
  have hB1 : Below w.heap.size w W1 := by rw [← hW1]; exact ((Below.refl _ w).alloc (Nat.le_refl _) _).alloc (by simp) _
  have below_chg : ∀ {G : Nat → Prop} {A B : World}, Below A.heap.size A B → Chg G A B := fun h => ⟨h.os, h.tape, h.output, h.size, fun i hi _ => h.block i hi⟩
  have hI1 : I [] F0 W1 := hI _ _ _ _ h0 (below_chg hB1)
  refine ⟨w.heap.size + 1, [{ target := .collected w.heap.size, args := #[] }], W1, { target := .fn (.func gf) lb, args := #[.func (.yield (w.heap.size + 1)) #[] #[]] }, W1, gf,
    #[.func (.yield (w.heap.size + 1)) #[] #[]] ++ lb, W1, ?_, ?_, fun _ _ => trivial, ?_, (fun h => by cases h), ?_⟩
  · rw [← hW1, hrec]; exact run_enterLoop_outer _ _ _ _ _
  · simp only [resolve, hg]
    simp [go_sem]
  · simp [invoke, go_sem, eg]
  · refine (hseq (w.heap.size + 1)
      (fun pre FJ W => ∃ F, (∀ g, FJ g ↔ (F g ∨ g = w.heap.size ∨ g = w.heap.size + 1)) ∧ ¬ F w.heap.size ∧ ¬ F (w.heap.size + 1) ∧ (∀ g, F g → g < W.heap.size) ∧ I pre F W ∧ W.heap[w.heap.size + 1]? = some (.loop (rec .ready none)) ∧ W.heap[w.heap.size]? = some (.deferred (some [])))
      (fun pre FJ W => ∃ F c, (∀ g, FJ g ↔ (F g ∨ g = w.heap.size ∨ g = w.heap.size + 1)) ∧ ¬ F w.heap.size ∧ ¬ F (w.heap.size + 1) ∧ Ix c pre F W ∧ W.heap[w.heap.size + 1]? = some (.loop (rec .done (some c))) ∧ W.heap[w.heap.size]? = some (.deferred (some [])))
      W1 (fun g => F0 g ∨ g = w.heap.size ∨ g = w.heap.size + 1) (by omega) (fun g hg' => (hB1.block g (by have := hR g hg'; omega)).trans (hR g hg').2) ?_ ?_ ?_ ?_ ?_).mono ?_
    · intro g hg'
      rcases hg' with hg' | rfl | rfl
      · have := hF0 g hg'; exact ⟨by omega, this.2⟩
      · exact ⟨by omega, fun f => by have := hR _ f; omega⟩
      · exact ⟨by omega, fun f => by have := hR _ f; omega⟩
    · rintro pre FJ A B ⟨F, e1, e2, e3, e4, e5, e6, e7⟩ hc
      have hl := (Array.getElem?_eq_some_iff.1 e6).1
      refine ⟨F, e1, e2, e3, fun g hg' => Nat.lt_of_lt_of_le (e4 g hg') hc.size, hI _ _ _ _ e5 (hc.mono (fun g f => ⟨by omega, fun h => f.2 ((e1 g).2 (Or.inl h))⟩)), ?_, ?_⟩
      · rw [hc.block _ hl (fun f => f.2 ((e1 _).2 (Or.inr (Or.inr rfl))))]; exact e6
      · rw [hc.block _ (by omega) (fun f => f.2 ((e1 _).2 (Or.inr (Or.inl rfl))))]; exact e7
    · rintro pre FJ A B ⟨F, c, e1, e2, e3, e5, e6, e7⟩ hc
      have hl := (Array.getElem?_eq_some_iff.1 e6).1
      refine ⟨F, c, e1, e2, e3, hIx _ _ _ _ _ e5 (hc.mono (fun g f => ⟨by omega, fun h => f.2 ((e1 g).2 (Or.inl h))⟩)), ?_, ?_⟩
      · rw [hc.block _ hl (fun f => f.2 ((e1 _).2 (Or.inr (Or.inr rfl))))]; exact e6
      · rw [hc.block _ (by omega) (fun f => f.2 ((e1 _).2 (Or.inr (Or.inl rfl))))]; exact e7
    · rintro pre x FJ W ⟨F, e1, e2, e3, e4, e5, e6, e7⟩ hok
      have hl := (Array.getElem?_eq_some_iff.1 e6).1
      have hy := run_yield (P := P) (args := encs x) e6 (by rw [hrec]; exact hps x)
      rw [hrec] at hy
      refine ⟨fn, _, assign, body, hy, roundIn_of_wpIn trivial (wpIn_mono (hround (w.heap.size + 1) pre x F W e5 hok e4 e3 (by omega) hl) ?_)⟩
      intro ex a1 A1 hpost
      cases ex with
      | normal =>
        obtain ⟨hB, hgo⟩ := hpost
        have hlA : A1.heap[w.heap.size + 1]? = some (.loop (rec .ready none)) := (hB.block _ hl).trans e6
        have hDA : A1.heap[w.heap.size]? = some (.deferred (some [])) := (hB.block _ (by omega)).trans e7
        refine ⟨_, run_beginRound hlA (by rw [hrec]), ?_⟩
        have hlt := (Array.getElem?_eq_some_iff.1 hlA).1
        have hc2 : Chg (fun g => g = w.heap.size + 1) A1 (A1.putObj (w.heap.size + 1) (.loop { rec .ready none with state := .busy })) := chg_putObj (Chg.refl (fun g => g = w.heap.size + 1) A1) (Or.inl rfl) _
        have hI2 : I pre F (A1.putObj (w.heap.size + 1) (.loop { rec .ready none with state := .busy })) := by
          refine hI _ _ _ _ e5 (((below_chg (G := fun g => w.heap.size ≤ g ∧ ¬ F g) hB)).trans' hc2 (fun i e => ?_))
          subst e
          exact Or.inl ⟨by omega, e3⟩
        refine wpIn_mono (hgo _ hc2 (by simp) hI2) ?_
        have hl2 : (A1.putObj (w.heap.size + 1) (.loop { rec .ready none with state := .busy })).heap[w.heap.size + 1]? = some (.loop { rec .ready none with state := .busy }) := World.putObj_heap_same hlt
        have hD2 : (A1.putObj (w.heap.size + 1) (.loop { rec .ready none with state := .busy })).heap[w.heap.size]? = some (.deferred (some [])) := (World.putObj_heap_other (by omega)).trans hDA
        have fin : ∀ (jump : Option Code) (W3 : World) (K : List α → (Nat → Prop) → World → Prop) (hK : ∀ pre F W1 W2, K pre F W1 → Chg (fun g => w.heap.size ≤ g ∧ ¬ F g) W1 W2 → K pre F W2),
            fromF K (pre ++ [x]) F (A1.putObj (w.heap.size + 1) (.loop { rec .ready none with state := .busy })) W3 →
            ∃ F', Wider FJ (fun g => F' g ∨ g = w.heap.size ∨ g = w.heap.size + 1) W ∧ Chg FJ W (W3.putObj (w.heap.size + 1) (.loop (rec (if jump.isNone then .ready else .done) jump))) ∧
              (Instr.endRound (w.heap.size + 1) jump).run P W3 = .ok (.bool jump.isNone) (W3.putObj (w.heap.size + 1) (.loop (rec (if jump.isNone then .ready else .done) jump))) ∧
              ¬ F' w.heap.size ∧ ¬ F' (w.heap.size + 1) ∧ (∀ g, F' g → g < (W3.putObj (w.heap.size + 1) (.loop (rec (if jump.isNone then .ready else .done) jump))).heap.size) ∧ K (pre ++ [x]) F' (W3.putObj (w.heap.size + 1) (.loop (rec (if jump.isNone then .ready else .done) jump))) ∧
              (W3.putObj (w.heap.size + 1) (.loop (rec (if jump.isNone then .ready else .done) jump))).heap[w.heap.size + 1]? = some (.loop (rec (if jump.isNone then .ready else .done) jump)) ∧
              (W3.putObj (w.heap.size + 1) (.loop (rec (if jump.isNone then .ready else .done) jump))).heap[w.heap.size]? = some (.deferred (some [])) := by
          rintro jump W3 K hK ⟨F', hw, hlt3, hc3, hk3⟩
          have hsz2 : (A1.putObj (w.heap.size + 1) (.loop { rec .ready none with state := .busy })).heap.size = A1.heap.size := World.putObj_size
          have hl3 := (hc3.block _ (by omega) e3).trans hl2
          have hD3 := (hc3.block _ (by omega) e2).trans hD2
          have nl : ¬ F' (w.heap.size + 1) := fun f => by rcases hw _ f with f | f; exact e3 f; omega
          have nD : ¬ F' w.heap.size := fun f => by rcases hw _ f with f | f; exact e2 f; omega
          have hr := run_endRound (P := P) jump hl3
          have hWA := hB.size
          refine ⟨F', fun g f => ?_, ?_, ?_, nD, nl, fun g f => by rw [World.putObj_size]; exact hlt3 g f, hK _ _ _ _ hk3 (chg_putObj (Chg.refl _ _) (Or.inl ⟨by omega, nl⟩) _), World.putObj_heap_same (Array.getElem?_eq_some_iff.1 hl3).1, (World.putObj_heap_other (by omega)).trans hD3⟩
          · rcases f with f | f
            · rcases hw g f with f | f
              · exact Or.inl ((e1 g).2 (Or.inl f))
              · exact Or.inr (by omega)
            · exact Or.inl ((e1 g).2 (Or.inr f))
          · refine chg_putObj ((((below_chg (G := FJ) hB)).trans' hc2 (fun i e => ?_)).trans' hc3 (fun i f => Or.inl ((e1 i).2 (Or.inl f)))) (Or.inl ((e1 _).2 (Or.inr (Or.inr rfl)))) _
            subst e
            exact Or.inl ((e1 _).2 (Or.inr (Or.inr rfl)))
          · rw [hrec] at hr ⊢
            exact hr
        have big : ∀ {F' : Nat → Prop} {A : World} {o1 o2 : Obj}, (∀ g, F' g → g < A.heap.size) → A.heap[w.heap.size + 1]? = some o1 → A.heap[w.heap.size]? = some o2 → ∀ g, (F' g ∨ g = w.heap.size ∨ g = w.heap.size + 1) → g < A.heap.size := fun h6 h8 h9 g f => by
          have := (Array.getElem?_eq_some_iff.1 h8).1
          rcases f with f | f
          · exact h6 g f
          · omega
        rintro e a3 W3 hp
        cases e with
        | normal =>
          obtain ⟨F', h1, h2, h3, h4, h5, h6, h7, h8, h9⟩ := fin none W3 I hI hp
          exact ⟨_, _, h3, _, h1, h2, big h6 h8 h9, .inl ⟨rfl, F', fun g => Iff.rfl, h4, h5, h6, h7, h8, h9⟩⟩
        | ret =>
          obtain ⟨F', h1, h2, h3, h4, h5, h6, h7, h8, h9⟩ := fin (some .ret) W3 _ (hIx _) hp
          exact ⟨_, _, h3, _, h1, h2, big h6 h8 h9, .inr ⟨rfl, F', .ret, fun g => Iff.rfl, h4, h5, h7, h8, h9⟩⟩
        | exit id =>
          obtain ⟨F', h1, h2, h3, h4, h5, h6, h7, h8, h9⟩ := fin (some (.exit id)) W3 _ (hIx _) hp
          exact ⟨_, _, h3, _, h1, h2, big h6 h8 h9, .inr ⟨rfl, F', .exit id, fun g => Iff.rfl, h4, h5, h7, h8, h9⟩⟩
        | goto t =>
          obtain ⟨F', h1, h2, h3, h4, h5, h6, h7, h8, h9⟩ := fin (some (.goto t)) W3 _ (hIx _) hp
          exact ⟨_, _, h3, _, h1, h2, big h6 h8 h9, .inr ⟨rfl, F', .goto t, fun g => Iff.rfl, h4, h5, h7, h8, h9⟩⟩
        | panic ch => exact hp.elim
        | outgrown => exact hp.elim
      | exit id => exact hpost.elim
      | goto t => exact hpost.elim
      | ret => exact hpost.elim
      | panic chain => exact hpost.elim
      | outgrown => exact hpost.elim
    · refine ⟨F0, fun g => Iff.rfl, fun f => ?_, fun f => ?_, fun g f => ?_, hI1, hL1, hK1⟩
      · have := hF0 _ f; omega
      · have := hF0 _ f; omega
      · have := hF0 _ f; omega
    · rintro e W2 ⟨⟨v, rfl⟩, (⟨xs, FJ, hS, F, e1, e2, e3, e4, e5, e6, e7⟩ | ⟨pre, FJ, hSp, F, c, e1, e2, e3, e5, e6, e7⟩)⟩
      · have hr := run_endLoop (P := P) e6 (by rw [hrec]; simp)
        rw [hrec] at hr
        exact ⟨none, _, hr, hdone _ xs F _ (Nat.le_refl _) e2 hS (hI _ _ _ _ e5 (chg_putObj (Chg.refl _ _) (Or.inl ⟨by omega, e3⟩) _)) ((World.putObj_heap_other (by omega)).trans e7)⟩
      · have hr := run_endLoop (P := P) e6 (by rw [hrec]; simp)
        rw [hrec] at hr
        exact ⟨some c, _, hr, hstop _ c pre F _ (Nat.le_refl _) e2 hSp (hIx _ _ _ _ _ e5 (chg_putObj (Chg.refl _ _) (Or.inl ⟨by omega, e3⟩) _)) ((World.putObj_heap_other (by omega)).trans e7)⟩

/-- A round of a loop, asked for within another's. -/
theorem roundIn_widen {P : Program} {l0 : Nat} {f : FuncId} {tmps : Array Value} {assign body : Code} {w : World} {R : Ending → World → Prop} {m : Nat} (h : RoundIn Fence.wide m P l0 f tmps assign body w R) (l m' : Nat) : RoundIn (Fence.wide.inRound l) m' P l0 f tmps assign body w R :=
  ⟨h.1, fun c cs _ => h.2 c cs (fun d hd => by cases hd)⟩
/-- append onto a slice at the front of a row, within a fence. -/
theorem wpListIn_append_sl {F : Fence} {nn : Nat} {P : Program} {w : World} {ops : Array Oper} {rest : List Oper} {o : Oper} {a : Act} {Q : Exit → Act → World → Prop} (hgd : o.guard = none) (s x : Operand) (t : TypeId)
    (ho : o.op = .call { callee := .builtin .append, args := #[s, x], argTypes := #[t, t] })
    (e : TypeId) (i : TypeInfo) (z : Value) (size bytes : Nat) (ht : P.underlying t = some (.slice e)) (hi : P.info? e = some i) (hz : i.zero = some z)
    (hsize : i.size = size) (hby : i.bytes = bytes) (hzs : z.cells.size = size) (hsz : 0 < size)
    (v : Value) (n : Nat) (xs : List Value) (hs : a.eval s = v) (hown : sl w e size v n xs)
    (ad : Option Addr) (m c : Nat) (news : List Value) (hx : a.eval x = .slice ad m c) (hl : news.length = m * size) (hnews : 0 < m → ∃ a, ad = some a ∧ ∀ j u, news[j]? = some u → w.cell? (a.add j) = some u) (hx0 : m = 0 → ad = none → c = 0)
    (h1 : ∀ u ∈ news, u.oneCell' = true) (h63 : n + m ≤ maxLen) (hbytes : (n + m) * bytes ≤ 140737488355328)
    (h : ∀ v' w', sl w' e size v' (n + m) (xs ++ news) → w.grownBy w' v.ownBlock → (v'.ownBlock = v.ownBlock ∨ v'.ownBlock = some w.heap.size) → wpListIn F nn P ops Q rest (a.put o.dst v') w') :
    wpListIn F nn P ops Q (o :: rest) a w := by
  refine wpListIn_plain hgd fun K hK' => ?_
  obtain ⟨v', w', hrun, r1, r2, r3⟩ := run_append_sl (P := P) w t o.type e i z size bytes ht hi hz hsize hby hzs hsz v n xs hown ad m c news hl hnews hx0 h1 h63 hbytes
  unfold Oper.wpIn
  refine ⟨?_, ?_⟩
  · simp [Oper.about, ho, resolve, Target.leads, Sem.run_pure]
  · rw [Oper.semAt_plain F _ _ (by rw [ho]; intro c hc'; cases hc')]
    simp [execOp, ho, resolve, invoke, builtin, hs, hx, hrun, Result.andThen]
    exact hK' _ _ (h v' w' r1 r2 r3)
end Go.Proofs.YtgmmglmokkcgeaaGreat.Mk
/- The contracts of slices.Sorted(maps.Keys(m)) at this program, by the kit's lay-iter and lay-plain. -/
namespace Go.Proofs
open Go.RowKit Go.Maps Go.Sort Go.Shelf
def YtgmmglmokkcgeaaGreat.keys46_ren : Go.Shelf.Ren := ⟨fun | 7 => 46 | 10 => 89 | n => n, fun | 23 => 32 | 26 => 9 | 3 => 24 | 28 => 102 | 0 => 0 | 27 => 101 | 33 => 126 | 4 => 4 | n => n, fun | n => n⟩
theorem YtgmmglmokkcgeaaGreat.keys46 : Go.Proofs.SlLaysZ.n7 Tryz.prog YtgmmglmokkcgeaaGreat.keys46_ren := {
  mixed := by kernel_rfl
  f7 := ⟨Tryz.f46.name, by decide, Tryz.func46.trans (congrArg some (by kernel_rfl))⟩
  f10 := ⟨Tryz.f89.name, by decide, Tryz.func89.trans (congrArg some (by kernel_rfl))⟩
  t0 := Tryz.underlying0
  a0 := Tryz.isAgg0
  z0 := Tryz.sizeOf0
  v0 := Tryz.zeroValue0
  t4 := Tryz.underlying4
  a4 := Tryz.isAgg4
  z4 := Tryz.sizeOf4
  v4 := Tryz.zeroValue4
  t23 := Tryz.underlying32
  a23 := Tryz.isAgg32
  z23 := Tryz.sizeOf32
  v23 := Tryz.zeroValue32
  t26 := Tryz.underlying9
  a26 := Tryz.isAgg9
  z26 := Tryz.sizeOf9
  v26 := Tryz.zeroValue9
  t27 := Tryz.underlying101
  a27 := Tryz.isAgg101
  z27 := Tryz.sizeOf101
  v27 := Tryz.zeroValue101
  t28 := Tryz.underlying102
  a28 := Tryz.isAgg102
  z28 := Tryz.sizeOf102
  v28 := Tryz.zeroValue102
  t33 := Tryz.underlying126
  a33 := Tryz.isAgg126
  z33 := Tryz.sizeOf126
  v33 := Tryz.zeroValue126 }
def YtgmmglmokkcgeaaGreat.keys48_ren : Go.Shelf.Ren := ⟨fun | 7 => 48 | 10 => 91 | n => n, fun | 23 => 34 | 26 => 9 | 3 => 82 | 28 => 102 | 0 => 0 | 27 => 101 | 33 => 126 | 4 => 4 | n => n, fun | n => n⟩
theorem YtgmmglmokkcgeaaGreat.keys48 : Go.Proofs.SlLaysZ.n7 Tryz.prog YtgmmglmokkcgeaaGreat.keys48_ren := {
  mixed := by kernel_rfl
  f7 := ⟨Tryz.f48.name, by decide, Tryz.func48.trans (congrArg some (by kernel_rfl))⟩
  f10 := ⟨Tryz.f91.name, by decide, Tryz.func91.trans (congrArg some (by kernel_rfl))⟩
  t0 := Tryz.underlying0
  a0 := Tryz.isAgg0
  z0 := Tryz.sizeOf0
  v0 := Tryz.zeroValue0
  t4 := Tryz.underlying4
  a4 := Tryz.isAgg4
  z4 := Tryz.sizeOf4
  v4 := Tryz.zeroValue4
  t23 := Tryz.underlying34
  a23 := Tryz.isAgg34
  z23 := Tryz.sizeOf34
  v23 := Tryz.zeroValue34
  t26 := Tryz.underlying9
  a26 := Tryz.isAgg9
  z26 := Tryz.sizeOf9
  v26 := Tryz.zeroValue9
  t27 := Tryz.underlying101
  a27 := Tryz.isAgg101
  z27 := Tryz.sizeOf101
  v27 := Tryz.zeroValue101
  t28 := Tryz.underlying102
  a28 := Tryz.isAgg102
  z28 := Tryz.sizeOf102
  v28 := Tryz.zeroValue102
  t33 := Tryz.underlying126
  a33 := Tryz.isAgg126
  z33 := Tryz.sizeOf126
  v33 := Tryz.zeroValue126 }
def YtgmmglmokkcgeaaGreat.keys50_ren : Go.Shelf.Ren := ⟨fun | 7 => 50 | 10 => 92 | n => n, fun | 23 => 33 | 26 => 9 | 3 => 41 | 28 => 102 | 0 => 0 | 27 => 101 | 33 => 126 | 4 => 4 | n => n, fun | n => n⟩
theorem YtgmmglmokkcgeaaGreat.keys50 : Go.Proofs.SlLaysZ.n7 Tryz.prog YtgmmglmokkcgeaaGreat.keys50_ren := {
  mixed := by kernel_rfl
  f7 := ⟨Tryz.f50.name, by decide, Tryz.func50.trans (congrArg some (by kernel_rfl))⟩
  f10 := ⟨Tryz.f92.name, by decide, Tryz.func92.trans (congrArg some (by kernel_rfl))⟩
  t0 := Tryz.underlying0
  a0 := Tryz.isAgg0
  z0 := Tryz.sizeOf0
  v0 := Tryz.zeroValue0
  t4 := Tryz.underlying4
  a4 := Tryz.isAgg4
  z4 := Tryz.sizeOf4
  v4 := Tryz.zeroValue4
  t23 := Tryz.underlying33
  a23 := Tryz.isAgg33
  z23 := Tryz.sizeOf33
  v23 := Tryz.zeroValue33
  t26 := Tryz.underlying9
  a26 := Tryz.isAgg9
  z26 := Tryz.sizeOf9
  v26 := Tryz.zeroValue9
  t27 := Tryz.underlying101
  a27 := Tryz.isAgg101
  z27 := Tryz.sizeOf101
  v27 := Tryz.zeroValue101
  t28 := Tryz.underlying102
  a28 := Tryz.isAgg102
  z28 := Tryz.sizeOf102
  v28 := Tryz.zeroValue102
  t33 := Tryz.underlying126
  a33 := Tryz.isAgg126
  z33 := Tryz.sizeOf126
  v33 := Tryz.zeroValue126 }
def YtgmmglmokkcgeaaGreat.sorted45_ren : Go.Shelf.Ren := ⟨fun | 6 => 45 | 8 => 87 | 9 => 88 | 11 => 116 | 13 => 115 | 12 => 117 | 23 => 127 | 24 => 128 | 14 => 129 | 15 => 130 | 16 => 131 | 17 => 132 | 18 => 133 | 19 => 134 | 20 => 135 | 21 => 136 | 22 => 137 | 25 => 143 | 26 => 139 | 27 => 140 | 28 => 144 | 29 => 145 | 30 => 146 | 31 => 148 | n => n, fun | 26 => 9 | 28 => 102 | 24 => 25 | 0 => 0 | 3 => 3 | 37 => 118 | 48 => 23 | 50 => 24 | 4 => 4 | 40 => 160 | 39 => 159 | 45 => 80 | 5 => 5 | 9 => 9 | 51 => 173 | 55 => 176 | 57 => 180 | 58 => 181 | 33 => 126 | n => n, fun | n => n⟩
theorem YtgmmglmokkcgeaaGreat.sorted45 : Go.Proofs.SlLaysZ.n6 Tryz.prog YtgmmglmokkcgeaaGreat.sorted45_ren := {
  mixed := by kernel_rfl
  f6 := ⟨Tryz.f45.name, by decide, Tryz.func45.trans (congrArg some (by kernel_rfl))⟩
  f8 := ⟨Tryz.f87.name, by decide, Tryz.func87.trans (congrArg some (by kernel_rfl))⟩
  f11 := ⟨Tryz.f116.name, by decide, Tryz.func116.trans (congrArg some (by kernel_rfl))⟩
  t0 := Tryz.underlying0
  a0 := Tryz.isAgg0
  z0 := Tryz.sizeOf0
  v0 := Tryz.zeroValue0
  t24 := Tryz.underlying25
  a24 := Tryz.isAgg25
  z24 := Tryz.sizeOf25
  v24 := Tryz.zeroValue25
  t26 := Tryz.underlying9
  a26 := Tryz.isAgg9
  z26 := Tryz.sizeOf9
  v26 := Tryz.zeroValue9
  t28 := Tryz.underlying102
  a28 := Tryz.isAgg102
  z28 := Tryz.sizeOf102
  v28 := Tryz.zeroValue102
  i26 := by kernel_rfl }
def YtgmmglmokkcgeaaGreat.sort88_ren : Go.Shelf.Ren := ⟨fun | 6 => 88 | 8 => 115 | 9 => 117 | 19 => 127 | 20 => 128 | 21 => 129 | 22 => 130 | 23 => 131 | 24 => 132 | 25 => 133 | 26 => 134 | 27 => 135 | 28 => 136 | 29 => 137 | 36 => 143 | 31 => 139 | 32 => 140 | 37 => 144 | 38 => 145 | 39 => 146 | 41 => 148 | n => n, fun | 27 => 25 | 29 => 9 | 3 => 3 | 32 => 118 | 26 => 25 | 0 => 0 | 44 => 23 | 46 => 24 | 4 => 4 | 36 => 160 | 35 => 159 | 41 => 80 | 5 => 5 | 9 => 9 | 53 => 173 | 57 => 176 | 63 => 180 | 64 => 181 | n => n, fun | n => n⟩
theorem YtgmmglmokkcgeaaGreat.sort88 : Go.Proofs.SlLaysM.n6 Tryz.prog YtgmmglmokkcgeaaGreat.sort88_ren := {
  mixed := by kernel_rfl
  f6 := ⟨Tryz.f88.name, by decide, Tryz.func88.trans (congrArg some (by kernel_rfl))⟩
  f8 := Tryz.func115.trans (congrArg some (by kernel_rfl))
  f9 := ⟨Tryz.f117.name, by decide, Tryz.func117.trans (congrArg some (by kernel_rfl))⟩
  f19 := Tryz.func127.trans (congrArg some (by kernel_rfl))
  f20 := Tryz.func128.trans (congrArg some (by kernel_rfl))
  f21 := ⟨Tryz.f129.name, by decide, Tryz.func129.trans (congrArg some (by kernel_rfl))⟩
  f22 := ⟨Tryz.f130.name, by decide, Tryz.func130.trans (congrArg some (by kernel_rfl))⟩
  f23 := ⟨Tryz.f131.name, by decide, Tryz.func131.trans (congrArg some (by kernel_rfl))⟩
  f24 := ⟨Tryz.f132.name, by decide, Tryz.func132.trans (congrArg some (by kernel_rfl))⟩
  f25 := ⟨Tryz.f133.name, by decide, Tryz.func133.trans (congrArg some (by kernel_rfl))⟩
  f26 := ⟨Tryz.f134.name, by decide, Tryz.func134.trans (congrArg some (by kernel_rfl))⟩
  f27 := ⟨Tryz.f135.name, by decide, Tryz.func135.trans (congrArg some (by kernel_rfl))⟩
  f28 := ⟨Tryz.f136.name, by decide, Tryz.func136.trans (congrArg some (by kernel_rfl))⟩
  f29 := ⟨Tryz.f137.name, by decide, Tryz.func137.trans (congrArg some (by kernel_rfl))⟩
  f31 := Tryz.func139.trans (congrArg some (by kernel_rfl))
  f32 := Tryz.func140.trans (congrArg some (by kernel_rfl))
  f36 := ⟨Tryz.f143.name, by decide, Tryz.func143.trans (congrArg some (by kernel_rfl))⟩
  f37 := ⟨Tryz.f144.name, by decide, Tryz.func144.trans (congrArg some (by kernel_rfl))⟩
  f38 := ⟨Tryz.f145.name, by decide, Tryz.func145.trans (congrArg some (by kernel_rfl))⟩
  f39 := ⟨Tryz.f146.name, by decide, Tryz.func146.trans (congrArg some (by kernel_rfl))⟩
  f41 := ⟨Tryz.f148.name, by decide, Tryz.func148.trans (congrArg some (by kernel_rfl))⟩
  t0 := Tryz.underlying0
  a0 := Tryz.isAgg0
  z0 := Tryz.sizeOf0
  v0 := Tryz.zeroValue0
  t3 := Tryz.underlying3
  a3 := Tryz.isAgg3
  z3 := Tryz.sizeOf3
  v3 := Tryz.zeroValue3
  t4 := Tryz.underlying4
  a4 := Tryz.isAgg4
  z4 := Tryz.sizeOf4
  v4 := Tryz.zeroValue4
  t5 := Tryz.underlying5
  a5 := Tryz.isAgg5
  z5 := Tryz.sizeOf5
  v5 := Tryz.zeroValue5
  t9 := Tryz.underlying9
  a9 := Tryz.isAgg9
  z9 := Tryz.sizeOf9
  v9 := Tryz.zeroValue9
  t26 := Tryz.underlying25
  a26 := Tryz.isAgg25
  z26 := Tryz.sizeOf25
  v26 := Tryz.zeroValue25
  t27 := Tryz.underlying25
  a27 := Tryz.isAgg25
  z27 := Tryz.sizeOf25
  v27 := Tryz.zeroValue25
  t29 := Tryz.underlying9
  a29 := Tryz.isAgg9
  z29 := Tryz.sizeOf9
  v29 := Tryz.zeroValue9
  t32 := Tryz.underlying118
  a32 := Tryz.isAgg118
  z32 := Tryz.sizeOf118
  v32 := Tryz.zeroValue118
  t35 := Tryz.underlying159
  a35 := Tryz.isAgg159
  z35 := Tryz.sizeOf159
  v35 := Tryz.zeroValue159
  t36 := Tryz.underlying160
  a36 := Tryz.isAgg160
  z36 := Tryz.sizeOf160
  v36 := Tryz.zeroValue160
  t41 := Tryz.underlying80
  a41 := Tryz.isAgg80
  z41 := Tryz.sizeOf80
  v41 := Tryz.zeroValue80
  t44 := Tryz.underlying23
  a44 := Tryz.isAgg23
  z44 := Tryz.sizeOf23
  v44 := Tryz.zeroValue23
  t46 := Tryz.underlying24
  a46 := Tryz.isAgg24
  z46 := Tryz.sizeOf24
  v46 := Tryz.zeroValue24
  t53 := Tryz.underlying173
  a53 := Tryz.isAgg173
  z53 := Tryz.sizeOf173
  v53 := Tryz.zeroValue173
  t57 := Tryz.underlying176
  a57 := Tryz.isAgg176
  z57 := Tryz.sizeOf176
  v57 := Tryz.zeroValue176
  t63 := Tryz.underlying180
  a63 := Tryz.isAgg180
  z63 := Tryz.sizeOf180
  v63 := Tryz.zeroValue180
  t64 := Tryz.underlying181
  a64 := Tryz.isAgg181
  z64 := Tryz.sizeOf181
  v64 := Tryz.zeroValue181 }
theorem YtgmmglmokkcgeaaGreat.sorts45 (m : Nat) : AnyZ.SortsIn Tryz.prog YtgmmglmokkcgeaaGreat.sorted45_ren Fence.wide m :=
  ⟨fun blk off cap ss W hH hblk hsz => callsIn_wide.2 (AnyM.slices_Sort_string YtgmmglmokkcgeaaGreat.sort88 blk off cap ss W hH hblk hsz),
   fun p cap W => callsIn_wide.2 (AnyM.slices_Sort_string_none YtgmmglmokkcgeaaGreat.sort88 p cap W)⟩
theorem YtgmmglmokkcgeaaGreat.maps_Keys_46 (mb : Option Nat) (W : World) : CallsIn Fence.wide 5 Tryz.prog 46 #[.map mb] W fun e w' => e = .returned (.func (.func 89) #[] #[.pointer (some ⟨W.heap.size, 0, none⟩)]) ∧ w' = W.alloc (.cells #[.map mb] 32) :=
  AnyZ.keys_in YtgmmglmokkcgeaaGreat.keys46 Fence.wide 5 trivial rfl mb W
set_option maxHeartbeats 1000000 in
theorem YtgmmglmokkcgeaaGreat.slices_Sorted_keys_45_46 {H : Type} (b nn : Nat) (D0 : DataW H) (R : Value → Option (DataW H × List MemPlace)) (w : World) (hown : w.ownsMap Tryz.prog 9 R b nn D0) (hmax : Maps.size D0 ≤ maxLen) (hbytes : Maps.size D0 * 16 ≤ 140737488355328) :
    CallsIn Fence.wide 5 Tryz.prog 45 #[.func (.func 89) #[] #[.pointer (some ⟨w.heap.size, 0, none⟩)]] (w.alloc (.cells #[.map (some b)] 32)) fun e w' => ∃ (v : Value) (ss : List (List UInt8)), e = .returned v ∧ ss.Perm (strKeys D0) ∧
      w'.ownsRow (w.alloc (.cells #[.map (some b)] 32)).heap.size 9 1 v ss.length ((ss.mergeSort (fun x y => decide (x ≤ y))).map encStr) ∧ (v = .slice none 0 0 ↔ ss = []) ∧ Below (w.alloc (.cells #[.map (some b)] 32)).heap.size (w.alloc (.cells #[.map (some b)] 32)) w' := by
  have hbl := hown.lt
  have hseq : SeqGives Fence.wide 2 Tryz.prog 89 #[.pointer (some ⟨w.heap.size, 0, none⟩)] encStr (fun ss => ss.Perm (strKeys D0)) (Maps.size D0) (w.alloc (.cells #[.map (some b)] 32)) :=
    AnyZ.keys_gives (ρ := YtgmmglmokkcgeaaGreat.keys46_ren) { YtgmmglmokkcgeaaGreat.keys46 with } Fence.wide _ trivial rfl (by omega) w.heap.size b nn D0 _ (by simp) (by simp) (by
      obtain ⟨es, clock, hb, Ft, hs, hD⟩ := hown
      exact ⟨es, clock, (Below.heap_alloc _ _ b hbl).trans hb, Ft, hs, hD⟩)
  exact AnyZ.sorted_in YtgmmglmokkcgeaaGreat.sorted45 Fence.wide 5 trivial trivial trivial trivial rfl (by omega) (YtgmmglmokkcgeaaGreat.sorts45 _) (enters_of Tryz.func88 (by kernel_rfl) rfl) 89 #[.pointer (some ⟨w.heap.size, 0, none⟩)] trivial (enters_of Tryz.func89 (by kernel_rfl) rfl) _ _ hmax hbytes _ hseq
theorem YtgmmglmokkcgeaaGreat.maps_Keys_48 (mb : Option Nat) (W : World) : CallsIn Fence.wide 5 Tryz.prog 48 #[.map mb] W fun e w' => e = .returned (.func (.func 91) #[] #[.pointer (some ⟨W.heap.size, 0, none⟩)]) ∧ w' = W.alloc (.cells #[.map mb] 34) :=
  AnyZ.keys_in YtgmmglmokkcgeaaGreat.keys48 Fence.wide 5 trivial rfl mb W
set_option maxHeartbeats 1000000 in
theorem YtgmmglmokkcgeaaGreat.slices_Sorted_keys_45_48 {H : Type} (b nn : Nat) (D0 : DataW H) (R : Value → Option (DataW H × List MemPlace)) (w : World) (hown : w.ownsMap Tryz.prog 9 R b nn D0) (hmax : Maps.size D0 ≤ maxLen) (hbytes : Maps.size D0 * 16 ≤ 140737488355328) :
    CallsIn Fence.wide 5 Tryz.prog 45 #[.func (.func 91) #[] #[.pointer (some ⟨w.heap.size, 0, none⟩)]] (w.alloc (.cells #[.map (some b)] 34)) fun e w' => ∃ (v : Value) (ss : List (List UInt8)), e = .returned v ∧ ss.Perm (strKeys D0) ∧
      w'.ownsRow (w.alloc (.cells #[.map (some b)] 34)).heap.size 9 1 v ss.length ((ss.mergeSort (fun x y => decide (x ≤ y))).map encStr) ∧ (v = .slice none 0 0 ↔ ss = []) ∧ Below (w.alloc (.cells #[.map (some b)] 34)).heap.size (w.alloc (.cells #[.map (some b)] 34)) w' := by
  have hbl := hown.lt
  have hseq : SeqGives Fence.wide 2 Tryz.prog 91 #[.pointer (some ⟨w.heap.size, 0, none⟩)] encStr (fun ss => ss.Perm (strKeys D0)) (Maps.size D0) (w.alloc (.cells #[.map (some b)] 34)) :=
    AnyZ.keys_gives (ρ := YtgmmglmokkcgeaaGreat.keys48_ren) { YtgmmglmokkcgeaaGreat.keys48 with } Fence.wide _ trivial rfl (by omega) w.heap.size b nn D0 _ (by simp) (by simp) (by
      obtain ⟨es, clock, hb, Ft, hs, hD⟩ := hown
      exact ⟨es, clock, (Below.heap_alloc _ _ b hbl).trans hb, Ft, hs, hD⟩)
  exact AnyZ.sorted_in YtgmmglmokkcgeaaGreat.sorted45 Fence.wide 5 trivial trivial trivial trivial rfl (by omega) (YtgmmglmokkcgeaaGreat.sorts45 _) (enters_of Tryz.func88 (by kernel_rfl) rfl) 91 #[.pointer (some ⟨w.heap.size, 0, none⟩)] trivial (enters_of Tryz.func91 (by kernel_rfl) rfl) _ _ hmax hbytes _ hseq
theorem YtgmmglmokkcgeaaGreat.maps_Keys_50 (mb : Option Nat) (W : World) : CallsIn Fence.wide 5 Tryz.prog 50 #[.map mb] W fun e w' => e = .returned (.func (.func 92) #[] #[.pointer (some ⟨W.heap.size, 0, none⟩)]) ∧ w' = W.alloc (.cells #[.map mb] 33) :=
  AnyZ.keys_in YtgmmglmokkcgeaaGreat.keys50 Fence.wide 5 trivial rfl mb W
set_option maxHeartbeats 1000000 in
theorem YtgmmglmokkcgeaaGreat.slices_Sorted_keys_45_50 {H : Type} (b nn : Nat) (D0 : DataW H) (R : Value → Option (DataW H × List MemPlace)) (w : World) (hown : w.ownsMap Tryz.prog 9 R b nn D0) (hmax : Maps.size D0 ≤ maxLen) (hbytes : Maps.size D0 * 16 ≤ 140737488355328) :
    CallsIn Fence.wide 5 Tryz.prog 45 #[.func (.func 92) #[] #[.pointer (some ⟨w.heap.size, 0, none⟩)]] (w.alloc (.cells #[.map (some b)] 33)) fun e w' => ∃ (v : Value) (ss : List (List UInt8)), e = .returned v ∧ ss.Perm (strKeys D0) ∧
      w'.ownsRow (w.alloc (.cells #[.map (some b)] 33)).heap.size 9 1 v ss.length ((ss.mergeSort (fun x y => decide (x ≤ y))).map encStr) ∧ (v = .slice none 0 0 ↔ ss = []) ∧ Below (w.alloc (.cells #[.map (some b)] 33)).heap.size (w.alloc (.cells #[.map (some b)] 33)) w' := by
  have hbl := hown.lt
  have hseq : SeqGives Fence.wide 2 Tryz.prog 92 #[.pointer (some ⟨w.heap.size, 0, none⟩)] encStr (fun ss => ss.Perm (strKeys D0)) (Maps.size D0) (w.alloc (.cells #[.map (some b)] 33)) :=
    AnyZ.keys_gives (ρ := YtgmmglmokkcgeaaGreat.keys50_ren) { YtgmmglmokkcgeaaGreat.keys50 with } Fence.wide _ trivial rfl (by omega) w.heap.size b nn D0 _ (by simp) (by simp) (by
      obtain ⟨es, clock, hb, Ft, hs, hD⟩ := hown
      exact ⟨es, clock, (Below.heap_alloc _ _ b hbl).trans hb, Ft, hs, hD⟩)
  exact AnyZ.sorted_in YtgmmglmokkcgeaaGreat.sorted45 Fence.wide 5 trivial trivial trivial trivial rfl (by omega) (YtgmmglmokkcgeaaGreat.sorts45 _) (enters_of Tryz.func88 (by kernel_rfl) rfl) 92 #[.pointer (some ⟨w.heap.size, 0, none⟩)] trivial (enters_of Tryz.func92 (by kernel_rfl) rfl) _ _ hmax hbytes _ hseq
end Go.Proofs
/- The keys of a map, sorted: plain, and of a map in memory. -/
namespace Go.Proofs.YtgmmglmokkcgeaaGreat
set_option linter.unusedVariables false
set_option linter.unusedSimpArgs false
set_option linter.unusedSectionVars false
open Go.RowKit Mk Go.Sort


def strs (ns : List ByteArray) : List Value := ns.map Value.string
/-- The slice v holds these names. -/
def NL (w : World) (v : Value) (ns : List ByteArray) : Prop := sl w 9 1 v ns.length (strs ns)
theorem NL.shape {w : World} {v : Value} {L : List ByteArray} (h : NL w v L) : ∃ o c, v = .slice o L.length c := by
  rcases h.2 with ⟨rfl, e⟩ | ⟨g, cap, cur, rfl, _⟩
  · exact ⟨_, _, by rw [e]⟩
  · exact ⟨_, _, rfl⟩
theorem NL.cell {w : World} {v : Value} {L : List ByteArray} (h : NL w v L) {i : Nat} {s : ByteArray} (hs : L[i]? = some s) : ∃ g cap, v = .slice (some ⟨g, 0, none⟩) L.length cap ∧ w.cell? ⟨g, i, none⟩ = some (.string s) :=
  sl.cell h (by unfold strs; rw [List.getElem?_map, hs]; rfl)
theorem NL.stay {w w' : World} {v : Value} {L : List ByteArray} (h : NL w v L) (k : Below w.heap.size w w') : NL w' v L := sl.stay h (fun _ hg => k.block _ (sl.lt h hg))

/-- The names, rising. -/
def sortN (ns : List ByteArray) : List ByteArray := ((ns.map (·.toList)).mergeSort fun x y => decide (x ≤ y)).map fun l => ⟨l.toArray⟩
theorem back_list (s : ByteArray) : (⟨s.toList.toArray⟩ : ByteArray) = s := by
  rw [ByteArray.toList_eq]
theorem sortN_len (ns : List ByteArray) : (sortN ns).length = ns.length := by
  unfold sortN; rw [List.length_map, List.length_mergeSort, List.length_map]
theorem sortN_perm (ns : List ByteArray) : (sortN ns).Perm ns := by
  unfold sortN
  have h := (List.mergeSort_perm (ns.map (·.toList)) fun x y => decide (x ≤ y)).map (fun l : List UInt8 => (⟨l.toArray⟩ : ByteArray))
  refine h.trans ?_
  rw [List.map_map]
  have : (fun l : List UInt8 => (⟨l.toArray⟩ : ByteArray)) ∘ (fun s : ByteArray => s.toList) = id := by
    funext s; exact back_list s
  rw [this, List.map_id]
/-- Names that rise are the sorted ones. -/
theorem sortN_eq {ns ms : List ByteArray} (hp : ms.Perm ns) (hs : ms.Pairwise (fun a b => lessB a b = true)) : sortN ns = ms := by
  have hs : ms.Pairwise (fun a b => a.toList < b.toList) := hs.imp (fun h => by rw [lessB_eq] at h; simpa using h)
  have h1 : ((ns.map (·.toList)).mergeSort fun x y => decide (x ≤ y)) = ms.map (·.toList) := by
    refine List.Perm.eq_of_pairwise (le := fun x y : List UInt8 => x ≤ y) ?_ ?_ ?_ ?_
    · intro a b _ _ h1 h2
      exact List.le_antisymm h1 h2
    · have := List.pairwise_mergeSort (le := fun x y : List UInt8 => decide (x ≤ y)) (fun a b c h1 h2 => by
        simp only [decide_eq_true_eq] at *; exact List.le_trans h1 h2) (fun a b => by
        have := List.le_total a b
        simp only [Bool.or_eq_true, decide_eq_true_eq]; exact this) (ns.map (·.toList))
      exact this.imp (fun h => by simpa using h)
    · rw [List.pairwise_map]
      exact hs.imp (fun h => List.le_of_lt h)
    · exact (List.mergeSort_perm _ _).trans (hp.map _).symm
  unfold sortN
  rw [h1, List.map_map]
  have : (fun l : List UInt8 => (⟨l.toArray⟩ : ByteArray)) ∘ (fun s : ByteArray => s.toList) = id := by
    funext s; exact back_list s
  rw [this, List.map_id]

/-- Any element reads as something. -/
def Ru (v : Value) : Option (DataW Unit × List MemPlace) := some (.lit (.bool true), [])
theorem insert_perm {H : Type} (x : Lit × DataW H) (l : List (Lit × DataW H)) : (DataW.insert x l).Perm (x :: l) := by
  induction l with
  | nil => exact List.Perm.refl _
  | cons y l ih =>
    unfold DataW.insert
    split
    · exact List.Perm.refl _
    · exact (ih.cons y).trans (List.Perm.swap x y l)
theorem sorted_perm {H : Type} (l : List (Lit × DataW H)) : (l.foldr DataW.insert []).Perm l := by
  induction l with
  | nil => exact List.Perm.refl _
  | cons x l ih => exact (insert_perm x _).trans (ih.cons x)
theorem own_of_map {w : World} {r : Nat} {L : List (ByteArray × Value)} (h : mapAt okS kvS w r L) (hl : L.length ≤ maxLen) :
    ∃ D : DataW Unit, w.ownsMap Tryz.prog 9 Ru r L.length D ∧ (strKeys D).Perm (L.map (fun p => p.1.toList)) ∧ Go.Maps.size D = L.length := by
  obtain ⟨es, ck, hb, E⟩ := h
  have hlen : es.toList.length = L.length := by have := congrArg List.length E.is; simpa using this
  have hrd : ∀ x ∈ es.toList, ∃ s : ByteArray, x.key = .string s ∧ Go.WideElems.rd Tryz.prog 9 Ru x = some (.string s.data.toList, .lit (.bool true)) := fun x hx => by
    obtain ⟨p, hp, e1, _⟩ := E.key hx
    refine ⟨p.1, e1, ?_⟩
    unfold Go.WideElems.rd
    rw [e1]
    show (keyOf Tryz.prog 9 (.string p.1)).bind _ = _
    rw [Go.WideMaps.keyOf_string_mk Tryz.underlying9 (E.ok p hp)]
    rfl
  have hkeys : (es.toList.map (Go.WideElems.rg Tryz.prog 9 Ru)).map (fun p => strOf p.1) = L.map (fun p => p.1.toList) := by
    have h1 : (es.toList.map (Go.WideElems.rg Tryz.prog 9 Ru)).map (fun p => strOf p.1) = (es.toList.map (fun e => (e.key, e.val))).map (fun p => match p.1 with | .string s => s.toList | _ => []) := by
      rw [List.map_map, List.map_map]
      refine List.map_congr_left fun x hx => ?_
      obtain ⟨s, e1, e2⟩ := hrd x hx
      simp only [Function.comp, Go.WideElems.rg, e2, e1, Option.getD_some, strOf, ByteArray.toList_eq]
    rw [h1, E.is, List.map_map]
    rfl
  refine ⟨_, ⟨es, ck, hb, ⟨?_, E.stamped, fun x hx => ?_⟩, ?_, rfl⟩, ?_, ?_⟩
  · have : es.size = L.length := by rw [← hlen]; simp
    omega
  · obtain ⟨s, _, e2⟩ := hrd x hx
    exact ⟨_, e2⟩
  · have : es.size = L.length := by rw [← hlen]; simp
    omega
  · show (List.map (fun p : Lit × DataW Unit => strOf p.1) _).Perm _
    refine ((sorted_perm _).map _).trans ?_
    rw [hkeys]
  · show List.length _ = _
    rw [(sorted_perm _).length_eq]
    simpa using hlen
/-- What the library says of the sorted keys, in the words of this text. -/
theorem NL.of_row {w' : World} {B : Nat} {v : Value} {ss : List (List UInt8)} {ns : List ByteArray} (hp : ss.Perm (ns.map (·.toList))) (h : w'.ownsRow B 9 1 v ss.length ((ss.mergeSort (fun x y => decide (x ≤ y))).map Go.Proofs.encStr)) :
    NL w' v (sortN ns) ∧ ∀ g, v.ownBlock = some g → B ≤ g := by
  have e1 : ss.mergeSort (fun x y => decide (x ≤ y)) = (ns.map (·.toList)).mergeSort (fun x y => decide (x ≤ y)) := mergeSort_of_perm hp
  have e2 : ss.length = (sortN ns).length := by rw [sortN_len, hp.length_eq, List.length_map]
  have e3 : (ss.mergeSort (fun x y => decide (x ≤ y))).map Go.Proofs.encStr = strs (sortN ns) := by
    rw [e1]
    unfold strs sortN
    rw [List.map_map]
    rfl
  rw [e3, e2] at h
  obtain ⟨h1, h2⟩ := h
  refine ⟨⟨h1, h2.imp id ?_⟩, fun g hg => ?_⟩
  · rintro ⟨g, cap, cur, rfl, hB, hg, h3, h4, h5, h6⟩
    exact ⟨g, cap, cur, rfl, hg, h3, h4, by rw [h5]; omega, h6⟩
  · rcases h2 with ⟨rfl, _⟩ | ⟨g', cap, cur, rfl, hB, _⟩
    · simp [Value.ownBlock] at hg
    · simp [Value.ownBlock] at hg; omega
section
variable {w : World} {r : Nat} {L : List (ByteArray × Value)}
theorem keys50_any (mb : Option Nat) (W : World) : Calls Tryz.prog 50 #[.map mb] W fun e w' => e = .returned (.func (.func 92) #[] #[.pointer (some ⟨W.heap.size, 0, none⟩)]) ∧ w' = W.alloc (.cells #[.map mb] 33) :=
  callsIn_wide.1 (maps_Keys_50 mb W)
theorem sorted50_any (h : mapAt okS kvS w r L) (hl : L.length ≤ 1099511627776) :
    Calls Tryz.prog 45 #[.func (.func 92) #[] #[.pointer (some ⟨w.heap.size, 0, none⟩)]] (w.alloc (.cells #[.map (some r)] 33)) fun e w' => ∃ o c, e = .returned (.slice o (sortN (L.map (·.1))).length c) ∧
      NL w' (.slice o (sortN (L.map (·.1))).length c) (sortN (L.map (·.1))) ∧ Chg (fun _ => False) w w' ∧ ∀ g, (Value.slice o (sortN (L.map (·.1))).length c).ownBlock = some g → w.heap.size ≤ g := by
  obtain ⟨D, hD, hk, hs⟩ := own_of_map h (by unfold maxLen; omega)
  refine (callsIn_wide.1 (slices_Sorted_keys_45_50 r L.length D Ru w hD (by rw [hs]; unfold maxLen; omega) (by rw [hs]; omega))).mono ?_
  rintro e w' ⟨v, ss, rfl, hS, hrow, hnil, hb⟩
  obtain ⟨h1, h2⟩ := NL.of_row (ns := L.map (·.1)) ((hS.trans hk).trans (by rw [List.map_map]; exact List.Perm.refl _)) hrow
  obtain ⟨o, c, rfl⟩ := h1.shape
  refine ⟨o, c, rfl, h1, ((Chg.refl (fun _ => False) w).alloc _).trans (chg_of_below hb), fun g hg => ?_⟩
  have := h2 g hg
  simp at this
  omega
end
end Go.Proofs.YtgmmglmokkcgeaaGreat
/- Walks: maps.Clone, slices.Clone. Printed by genS2.py. -/
namespace Go.Proofs.YtgmmglmokkcgeaaGreat
set_option linter.unusedVariables false
set_option linter.unusedSimpArgs false
set_option linter.unusedSectionVars false
open Go.RowKit Mk Go.Sort

section
variable {w w' : World} {b : Nat} {R : Loc} {F G : Nat → Prop} {n : OM}
/-- A predicate's times are laid anew, all of them. -/
theorem OrRep.putRow (h : OrRep w b R F n) {x : ByteArray} {L : List Nat} {v : Value} {es : Array MapEntry} {ck : Nat} (c : Chg (fun g => ∃ u, lk R.rows x = some u ∧ u.ownBlock = some g) w w') (hv : sl w' 24 1 v L.length (timesV L))
    (hn : ∀ g, v.ownBlock = some g → (∃ u, lk R.rows x = some u ∧ u.ownBlock = some g) ∨ w.heap.size ≤ g) (E : Ent okS kvS es ck (upd R.rows x v)) (hL : L ≠ []) :
    OrRep (ChangeMaps.setBlock w' R.c (.map es ck)) b { R with rows := upd R.rows x v } (fun g => F g ∨ w.heap.size ≤ g) { n with com := fun p => if p = x then L else n.com p } := by
  obtain ⟨e1, e2, e3, e4, e5, e6⟩ := h.ne
  obtain ⟨b1, b2, b3, b4⟩ := h.b_ne
  have hown : ∀ u g, lk R.rows x = some u → u.ownBlock = some g → g ≠ b ∧ g ≠ R.d ∧ g ≠ R.l ∧ g ≠ R.t ∧ g ≠ R.c := fun u g hu hg => h.row_ne (lk_mem hu) hg
  have hlt := h.com.lt
  have hk : ∀ g, g < w.heap.size → g ≠ R.c → (∀ u, lk R.rows x = some u → u.ownBlock ≠ some g) → (ChangeMaps.setBlock w' R.c (.map es ck)).heap[g]? = w.heap[g]? := fun g hg hc hr => (heap_setBlock_ne hc).trans (c.block g hg (fun ⟨u, hu, hg⟩ => hr u hu hg))
  have hapart := h.com.apart
  have hold : ∀ p ∈ upd R.rows x v, p.1 ≠ x → p ∈ R.rows := fun p hp hne => by
    rcases mem_upd2 hp with rfl | hp
    · exact absurd rfl hne
    · exact hp
  have hnew : ∀ p ∈ upd R.rows x v, p.1 = x → p.2 = v := fun p hp he => by
    have hd := upd_apart hapart x v
    have h1 : lk (upd R.rows x v) x = some v := lk_upd_same _ _ _
    have h2 : (x, v) ∈ upd R.rows x v := lk_mem h1
    obtain ⟨i, hi, e⟩ := List.getElem_of_mem hp
    have := (lk_some hd (j := i) (x := p.1) (v := p.2) (by rw [List.getElem?_eq_getElem hi, e])).1
    rw [he, h1] at this
    exact (Option.some.inj this).symm
  have hvc : ∀ g, v.ownBlock = some g → g ≠ R.c := fun g hg => by
    rcases hn g hg with ⟨u, hu, hg⟩ | h1
    · exact (hown u g hu hg).2.2.2.2
    · omega
  have hother : ∀ p ∈ R.rows, p.1 ≠ x → ∀ g, p.2.ownBlock = some g → ∀ u, lk R.rows x = some u → u.ownBlock ≠ some g := fun p hp hne g hg u hu hug => by
    rcases h.apart p hp (x, u) (lk_mem hu) hne with h1 | h1
    · rw [h1] at hg; cases hg
    · exact h1 (by rw [hg]; exact hug.symm)
  refine ⟨?_, ?_, ?_, ?_, ⟨es, ck, setBlock_same (Nat.lt_of_lt_of_le hlt c.size), E⟩, ?_, ?_, ?_, ?_, h.ne, Or.inl h.fb, Or.inl h.fd, Or.inl h.fl, Or.inl h.ft, Or.inl h.fc, ?_⟩
  · exact (hk b h.lt b4 (fun u hu hg => (hown u b hu hg).1 rfl)).trans h.box
  · exact h.dec.stay (hk _ h.dec.lt e3 (fun u hu hg => (hown u _ hu hg).2.1 rfl))
  · exact h.las.stay (hk _ h.las.lt e5 (fun u hu hg => (hown u _ hu hg).2.2.1 rfl))
  · exact h.tab.stay (hk _ h.tab.lt e6 (fun u hu hg => (hown u _ hu hg).2.2.2.1 rfl))
  · intro p hp
    by_cases e : p.1 = x
    · rw [hnew p hp e]
      simp only [if_pos e]
      have : sl w' 24 1 v L.length (timesV L) := hv
      exact this.stay (fun g hg => heap_setBlock_ne (hvc g hg))
    · have hp' := hold p hp e
      simp only [if_neg e]
      exact (h.rows p hp').stay (fun g hg => hk g ((h.rows p hp').lt hg) (h.row_ne hp' hg).2.2.2.2 (hother p hp' e g hg))
  · intro y hy
    rw [lk_upd] at hy
    simp only
    by_cases e : y = x
    · rw [if_pos e] at hy; cases hy
    · rw [if_neg e] at hy
      rw [if_neg e]
      exact h.gone y hy
  · intro p hp
    simp only
    by_cases e : p.1 = x
    · rw [if_pos e]; exact hL
    · rw [if_neg e]; exact h.full p (hold p hp e)
  · have key : ∀ p ∈ upd R.rows x v, p.1 ≠ x → v.ownBlock = none ∨ v.ownBlock ≠ p.2.ownBlock := fun p hp hne => by
      have hp' := hold p hp hne
      cases hvo : v.ownBlock with
      | none => exact Or.inl rfl
      | some g =>
        refine Or.inr (fun e => ?_)
        rcases hn g hvo with ⟨u, hu, hug⟩ | h1
        · exact hother p hp' hne g e.symm u hu hug
        · have := (h.rows p hp').lt e.symm; omega
    intro p hp p' hp' hne
    by_cases e : p.1 = x
    · rw [hnew p hp e]
      exact key p' hp' (fun e' => hne (e.trans e'.symm))
    · by_cases e' : p'.1 = x
      · rw [hnew p' hp' e']
        rcases key p hp e with h1 | h1
        · cases hpo : p.2.ownBlock with
          | none => exact Or.inl rfl
          | some g => exact Or.inr (by rw [h1]; simp)
        · exact Or.inr (fun h2 => h1 h2.symm)
      · exact h.apart p (hold p hp e) p' (hold p' hp' e') hne
  · intro p hp g hg
    by_cases e : p.1 = x
    · rw [hnew p hp e] at hg
      rcases hn g hg with ⟨u, hu, hug⟩ | h1
      · exact Or.inl (h.frow (x, u) (lk_mem hu) g hug)
      · exact Or.inr h1
    · exact Or.inl (h.frow p (hold p hp e) g hg)
end
theorem run_eql_map {P : Program} (w : World) (t k e : TypeId) (p : Option Nat) (h : P.underlying t = some (.map k e)) : (binOp .eql t (.map p) (.map none)).run P w = .ok (.bool p.isNone) w := by
  have h1 : ∀ d, (Op.equalIn (d + 1) t (.map p) (.map none)).run P w = .ok p.isNone w := fun d => by cases p <;> simp [Op.equalIn, run_underlying h]
  simp only [binOp]
  simp [show Op.equal t (.map p) (.map none) = Op.equalIn (9999 + 1) t (.map p) (.map none) from rfl, h1 9999]
theorem run_typeAssert_map {P : Program} (w : World) (t xT k e : TypeId) (v : Value) (h : P.underlying t = some (.map k e)) : (Instr.typeAssert (.iface t v) xT t false).run P w = .ok v w := by
  simp [Instr.typeAssert, run_underlying h, go_sem, Result.andThen]
theorem run_maps_clone {P : Program} (w : World) {r : Nat} {es : Array MapEntry} {clock : Nat} (t : TypeId) (hb : w.heap[r]? = some (.map es clock)) :
    (Extern.MapsClone.clone #[.iface t (.map (some r))]).run P w = .ok (.iface t (.map (some w.heap.size))) (w.alloc (.map es clock)) := by
  have e : Extern.MapsClone.clone #[.iface t (.map (some r))] = (getObj r >>= fun o => match o with
      | .map entries clock => (newObj (.map entries clock) >>= fun n => pure (.iface t (.map (some n))))
      | _ => stuck "maps.clone: a map expected") := rfl
  rw [e]
  simp [MapKept.run_getObj_map hb, Result.andThen, go_sem]
set_option maxRecDepth 100000 in
theorem cloneD {w : World} {r : Nat} {L : List (Nat × Value)} (h : mapAt okU kvU w r L) : Calls Tryz.prog 33 #[.map (some r)] w fun e w' => e = .returned (.map (some w.heap.size)) ∧ mapAt okU kvU w' w.heap.size L ∧ Chg (fun _ => False) w w' ∧ w'.heap.size = w.heap.size + 1 := by
  obtain ⟨es, c, hb, hL⟩ := h
  have HL := Lib.hid hL
  have hq := run_eql_map (P := Tryz.prog) w 31 24 24 (some r) Tryz.underlying31
  clear hL
  go_enter Tryz.func33, Tryz.ntmps33
  go_wp2
  rw [run_callFunc_extern Tryz.func82 (by kernel_rfl) (by kernel_rfl) (by kernel_rfl) (e := Extern.MapsClone.clone) (by kernel_rfl), run_maps_clone w 31 hb]
  simp only [Result.andThen]
  rw [Oper.upon_value]
  go_wp2
  rw [run_typeAssert_map _ 31 20 _ _ _ Tryz.underlying31]
  simp only [Result.andThen]
  rw [Oper.upon_value]
  go_wp2
  go_ret
  exact ⟨rfl, ⟨es, c, Go.heap_alloc_new _ _, HL.out⟩, (Chg.refl _ _).alloc _, by simp⟩
set_option maxRecDepth 100000 in
theorem cloneL {w : World} {r : Nat} {L : List (ByteArray × Value)} (h : mapAt okS kvS w r L) : Calls Tryz.prog 34 #[.map (some r)] w fun e w' => e = .returned (.map (some w.heap.size)) ∧ mapAt okS kvS w' w.heap.size L ∧ Chg (fun _ => False) w w' ∧ w'.heap.size = w.heap.size + 1 := by
  obtain ⟨es, c, hb, hL⟩ := h
  have HL := Lib.hid hL
  have hq := run_eql_map (P := Tryz.prog) w 32 9 24 (some r) Tryz.underlying32
  clear hL
  go_enter Tryz.func34, Tryz.ntmps34
  go_wp2
  rw [run_callFunc_extern Tryz.func82 (by kernel_rfl) (by kernel_rfl) (by kernel_rfl) (e := Extern.MapsClone.clone) (by kernel_rfl), run_maps_clone w 32 hb]
  simp only [Result.andThen]
  rw [Oper.upon_value]
  go_wp2
  rw [run_typeAssert_map _ 32 20 _ _ _ Tryz.underlying32]
  simp only [Result.andThen]
  rw [Oper.upon_value]
  go_wp2
  go_ret
  exact ⟨rfl, ⟨es, c, Go.heap_alloc_new _ _, HL.out⟩, (Chg.refl _ _).alloc _, by simp⟩
set_option maxRecDepth 100000 in
theorem cloneT {w : World} {r : Nat} {L : List (ByteArray × Value)} (h : mapAt okS kvS w r L) : Calls Tryz.prog 35 #[.map (some r)] w fun e w' => e = .returned (.map (some w.heap.size)) ∧ mapAt okS kvS w' w.heap.size L ∧ Chg (fun _ => False) w w' ∧ w'.heap.size = w.heap.size + 1 := by
  obtain ⟨es, c, hb, hL⟩ := h
  have HL := Lib.hid hL
  have hq := run_eql_map (P := Tryz.prog) w 33 9 41 (some r) Tryz.underlying33
  clear hL
  go_enter Tryz.func35, Tryz.ntmps35
  go_wp2
  rw [run_callFunc_extern Tryz.func82 (by kernel_rfl) (by kernel_rfl) (by kernel_rfl) (e := Extern.MapsClone.clone) (by kernel_rfl), run_maps_clone w 33 hb]
  simp only [Result.andThen]
  rw [Oper.upon_value]
  go_wp2
  rw [run_typeAssert_map _ 33 20 _ _ _ Tryz.underlying33]
  simp only [Result.andThen]
  rw [Oper.upon_value]
  go_wp2
  go_ret
  exact ⟨rfl, ⟨es, c, Go.heap_alloc_new _ _, HL.out⟩, (Chg.refl _ _).alloc _, by simp⟩
section
variable {w : World} {v : Value} {n : Nat} {xs : List Value}
set_option maxRecDepth 100000 in
set_option maxHeartbeats 1000000 in
theorem sclone_any (h : sl w 24 1 v n xs) (hone : ∀ u ∈ xs, u.oneCell' = true) (hL : n ≤ 1099511627776) :
    Calls Tryz.prog 36 #[v] w fun e w' => ∃ o c, e = .returned (.slice o n c) ∧ sl w' 24 1 (.slice o n c) n xs ∧ Chg (fun _ => False) w w' ∧ (∀ g, (Value.slice o n c).ownBlock = some g → w.heap.size ≤ g) := by
  obtain ⟨i6, z6, hi6, hz6, hsz6, hby6, hzs6⟩ := el24.has
  have hlen := h.1
  rcases h.2 with ⟨rfl, rfl⟩ | ⟨g, cap, cur, rfl, hg, hnc, hcm, hcs, ht⟩
  · have q := fun (w : World) => Lib.run_eql_slice_nil (P := Tryz.prog) w 82 24 none 0 0 0 0 Tryz.underlying82
    go_enter Tryz.func36, Tryz.ntmps36
    go_wp2
    go_ret
    exact ⟨_, _, rfl, h, Chg.refl _ _, fun g e => by simp [Value.ownBlock] at e⟩
  · have hB : Chg (fun _ => False) w (w.alloc (.cells #[] 24)) := (Chg.refl _ w).alloc _
    have hS : sl (w.alloc (.cells #[] 24)) 24 1 (.slice (some ⟨g, 0, none⟩) n cap) n xs := sl.stay h (fun g' hg' => hB.block g' (sl.lt h hg') (fun f => f))
    have hE : sl (w.alloc (.cells #[] 24)) 24 1 (.slice (some ⟨w.heap.size, 0, none⟩) 0 0) 0 [] := ⟨rfl, Or.inr ⟨w.heap.size, 0, #[], rfl, Go.heap_alloc_new _ _, Nat.le_refl _, Nat.zero_le _, by simp, rfl⟩⟩
    have hN : ∀ j u, xs[j]? = some u → (w.alloc (.cells #[] 24)).cell? ((⟨g, 0, none⟩ : Addr).add j) = some u := fun j u hj => by
      obtain ⟨g', cap', e, hc⟩ := sl.cell hS hj
      cases e
      rw [Addr.add_mid, Nat.zero_add]
      exact hc
    have HN := Lib.hid hN
    have HE := Lib.hid hE
    have HO := Lib.hid hone
    have HL := Lib.hid hlen
    have HB := Lib.hid hB
    clear hN hE hone hlen hB hS h hg hcs ht
    have l1 : n ≤ maxLen := by simp only [maxLen]; omega
    have q := fun (w : World) => Lib.run_eql_slice_nil (P := Tryz.prog) w 82 24 (some ⟨g, 0, none⟩) n cap 0 0 Tryz.underlying82
    go_enter Tryz.func36, Tryz.ntmps36
    go_wp2_with (refine wpList_append_sl (by rfl) _ _ 82 (by rfl) 24 i6 z6 1 8 Tryz.underlying82 hi6 hz6 hsz6 hby6 hzs6 (by decide) (.slice (some ⟨w.heap.size, 0, none⟩) 0 0) 0 [] (by rfl) HE.out (some ⟨g, 0, none⟩) n cap xs (by rfl) HL.out (fun _ => ⟨_, rfl, HN.out⟩) (fun _ e => by cases e) HO.out (by omega) (by omega) ?_; intro v' w2 hsl hgrow hat)
    go_ret
    have hsl' : sl w2 24 1 v' n xs := by simpa using hsl
    obtain ⟨o', c', rfl⟩ := sl_shape hsl'
    refine ⟨o', c', rfl, hsl', ?_, fun i e => ?_⟩
    · exact HB.out.grown hgrow (fun i hi => by simp [Value.ownBlock] at hi; exact Or.inr (by omega))
    · rcases hat with e2 | e2
      · rw [e2] at e; simp [Value.ownBlock] at e; omega
      · rw [e2] at e; simp at e; omega
end
end Go.Proofs.YtgmmglmokkcgeaaGreat
/- Walks: what Tablets hands over. -/
namespace Go.Proofs.YtgmmglmokkcgeaaGreat
set_option linter.unusedVariables false
set_option linter.unusedSimpArgs false
set_option linter.unusedSectionVars false
open Go.RowKit Mk Go.Sort Go.Shelf
attribute [local go_sem] Oper.semAt_some

theorem OrRep.moved {w W : World} {b : Nat} {R : Loc} {F : Nat → Prop} {n : OM} (h : OrRep w b R F n) (hd : ∀ i, F i → W.heap[i]? = w.heap[i]?) : OrRep W b R F n where
  box := (hd _ h.fb).trans h.box
  dec := h.dec.stay (hd _ h.fd)
  las := h.las.stay (hd _ h.fl)
  tab := h.tab.stay (hd _ h.ft)
  com := h.com.stay (hd _ h.fc)
  rows p hp := (h.rows p hp).stay (fun g hg => hd g (h.frow p hp g hg))
  gone := h.gone
  full := h.full
  apart := h.apart
  ne := h.ne
  fb := h.fb
  fd := h.fd
  fl := h.fl
  ft := h.ft
  fc := h.fc
  frow := h.frow
/-- The tablets, rising by predicate. -/
def tabsM (T : List (ByteArray × Tb)) : List Tb := (sortN (T.map (·.1))).map (fun x => (lk T x).getD .zero)
/-- The iterator, k tablets handed over: the names and the copy that it goes over; the caller's word. -/
structure TabAt (N : List ByteArray) (T : List (ByteArray × Tb)) (J : List Tb → (Nat → Prop) → World → Prop) (n0 cm : Nat) (nv : Value) (k : Nat) (F : Nat → Prop) (wr : World) : Prop where
  has : NL wr nv N
  map : mapAt okS kvS wr cm (tv T)
  own : ∀ g, nv.ownBlock = some g → n0 ≤ g ∧ ¬ F g
  mown : n0 ≤ cm ∧ ¬ F cm
  say : J ((N.take k).map (fun x => (lk T x).getD .zero)) F wr
  size : n0 ≤ wr.heap.size
theorem lk_of_mem {K V : Type} [DecidableEq K] {L : List (K × V)} {x : K} (h : x ∈ L.map (·.1)) : ∃ v, lk L x = some v := by
  induction L with
  | nil => cases h
  | cons p L ih =>
    by_cases e : p.1 = x
    · exact ⟨p.2, by simp [lk, e]⟩
    · rw [List.map_cons, List.mem_cons] at h
      obtain ⟨v, hv⟩ := ih (h.resolve_left (fun e2 => e e2.symm))
      exact ⟨v, by simp [lk, e, hv]⟩
theorem tab_look {w : World} {r : Nat} {T : List (ByteArray × Tb)} (h : mapAt okS kvS w r (tv T)) {x : ByteArray} (hx : okS x) : (Instr.lookup 33 (.map (some r)) (.string x) false).run Tryz.prog w = .ok (tbV ((lk T x).getD .zero)) w := by
  have := run_lookup keysS Tryz.underlying33 (zero38 w) h hx false
  rw [tv, lk_map] at this
  simp only [kvS] at this
  rw [this]
  cases lk T x <;> simp

set_option maxRecDepth 100000 in
set_option maxHeartbeats 2000000 in
theorem tabs_seq {w : World} {b kb : Nat} {R : Loc} {F : Nat → Prop} {n : OM} (h : OrRep w b R F n) (hL : n.tab.length ≤ 1099511627776) (hkb : w.heap[kb]? = some (.cells #[.pointer (some ⟨b, 0, none⟩)] 30)) :
    SeqF Tryz.prog 49 #[.pointer (some ⟨kb, 0, none⟩)] (fun t : Tb => #[tbV t]) (fun pre => pre <+: tabsM n.tab) (fun xs => xs = tabsM n.tab) (fun g => g = kb ∨ F g) w := by
  intro l J Jx W F0 hsz hR hF0 hJ hJx hY h0
  have hor : OrRep W b R F n := h.moved (fun g hg => hR g (Or.inr hg))
  have hk := (hR kb (Or.inl rfl)).trans hkb
  have q0 : W.cell? ⟨kb, 0, none⟩ = some (.pointer (some ⟨b, 0, none⟩)) := cell_of hk rfl
  have d0 := hor.c6
  have NN := Lib.hid (none_any hor)
  have CT := Lib.hid (cloneT hor.tab)
  have e1 : (tv n.tab).map (·.1) = n.tab.map (·.1) := by simp [tv]
  have hL2 : (tv n.tab).length ≤ 1099511627776 := by simpa [tv] using hL
  have SO := fun (u : World) (r : Nat) (hm : mapAt okS kvS u r (tv n.tab)) => sorted50_any hm hL2
  rw [e1] at SO
  have hNk : ∀ x ∈ sortN (n.tab.map (·.1)), okS x := fun x hx => by
    have hx2 := (sortN_perm _).mem_iff.1 hx
    obtain ⟨p, hp, rfl⟩ := List.mem_map.1 hx2
    obtain ⟨_, _, _, E⟩ := hor.tab
    exact E.ok (p.1, tbV p.2) (List.mem_map.2 ⟨p, hp, rfl⟩)
  have hNl : (sortN (n.tab.map (·.1))).length ≤ 1099511627776 := by rw [sortN_len, List.length_map]; exact hL
  unfold tabsM at hY ⊢
  generalize sortN (n.tab.map (·.1)) = N at *
  generalize n.tab = T at *
  have SO := Lib.hid SO
  have HJ := Lib.hid hJ
  have HJx := Lib.hid hJx
  have HY := Lib.hid hY
  have H0 := Lib.hid h0
  have HF0 := Lib.hid hF0
  have HNK := Lib.hid hNk
  clear h hkb hR hF0 hJ hJx hY h0 hor hk hsz e1 hL2 hNk hL
  show CallsIn Fence.wide 2 Tryz.prog 49 #[.func (.yield l) #[] #[], .pointer (some ⟨kb, 0, none⟩)] W _
  refine callsIn_of_wp Tryz.func49 rfl trivial ?_ rfl
  simp only [Tryz.ntmps49, List.size_toArray, List.length_cons, List.length_nil, Nat.reduceAdd, Nat.reduceSub, Array.replicate_succ, Array.replicate_zero, List.push_toArray, List.append_toArray, List.nil_append, List.cons_append]
  gi_wp2_with (first | (refine ⟨trivial, ?_⟩; gi_at_call 29; refine (callsIn_wide.2 NN.out).mono ?_; rintro e w' ⟨rfl, rfl⟩) | (refine ⟨trivial, ?_⟩; gi_at_call 35; refine (callsIn_wide.2 CT.out).mono ?_; rintro e w2 ⟨rfl, hm, hc, -⟩) | (refine ⟨trivial, ?_⟩; gi_at_call 50; refine (callsIn_wide.2 (keys50_any _ _)).mono ?_; rintro e w3 ⟨rfl, rfl⟩) | (refine ⟨trivial, ?_⟩; gi_at_call 45; refine (callsIn_wide.2 (SO.out _ _ hm)).mono ?_; rintro e w4 ⟨o, c, rfl, hN, hc4, hown⟩))
  have HB := Lib.hid (show TabAt N T J w'.heap.size w'.heap.size (.slice o N.length c) 0 F0 w4 from
    ⟨hN, hm.stay (hc4.block _ hm.lt (fun f => f)), fun g hg => (have h1 := hown g hg; have h2 := hm.lt; ⟨by omega, fun f => by have := HF0.out g f; omega⟩), ⟨Nat.le_refl _, fun f => by have := HF0.out _ f; omega⟩, by
      have h5 := HJ.out _ _ _ _ H0.out ((hc.trans hc4).mono (fun _ f => f.elim))
      simpa using h5, Nat.le_trans hc.size hc4.size⟩)
  clear hN hm hc hc4 hown q0 d0 NN CT SO H0
  gi_loopw [17] (fun i wr => ∃ (k : Nat) (F : Nat → Prop), k ≤ N.length ∧ i = .int .i64 k ∧ Hid (TabAt N T J w'.heap.size w'.heap.size (.slice o N.length c) k F wr)) (fun i _ => N.length - (intOf i).toNat)
  case atStart => exact ⟨0, F0, by omega, rfl, HB⟩
  case round =>
    obtain ⟨k, F, hk, rfl, HI⟩ := hrel
    clear HB
    have l0 : (0 : Int) ≤ k := by omega
    by_cases hlt : k < N.length
    · obtain ⟨x, hx⟩ : ∃ x, N[k]? = some x := ⟨N[k]'hlt, List.getElem?_eq_getElem hlt⟩
      obtain ⟨t, ht⟩ : ∃ t, (lk T x).getD .zero = t := ⟨_, rfl⟩
      have hkt : (N.take (k + 1)).map (fun x => (lk T x).getD .zero) = (N.take k).map (fun x => (lk T x).getD .zero) ++ [t] := by rw [List.take_add_one, hx, ← ht]; simp
      have hpre : (N.take k).map (fun x => (lk T x).getD .zero) ++ [t] <+: N.map (fun x => (lk T x).getD .zero) := by rw [← hkt]; exact (List.take_prefix _ _).map _
      obtain ⟨g, cap, e, h0⟩ := HI.out.has.cell hx
      cases e
      have hlk := tab_look HI.out.map (HNK.out x (List.mem_of_getElem? hx))
      rw [ht] at hlk
      obtain ⟨fn, tmps, assign, body, hy, hR⟩ := HY.out ((N.take k).map (fun x => (lk T x).getD .zero)) t F wr HI.out.say hpre
      have hgo : ∀ (W' : World) (F' : Nat → Prop), Wider F F' wr → Chg F wr W' → J ((N.take k).map (fun x => (lk T x).getD .zero) ++ [t]) F' W' → TabAt N T J w'.heap.size w'.heap.size (.slice (some ⟨g, 0, none⟩) N.length c) (k + 1) F' W' := fun W' F' hw hc hj => by
        have hh := HI.out.has
        refine ⟨sl.stay hh (fun g' hg' => hc.block g' (sl.lt hh hg') (HI.out.own g' hg').2), HI.out.map.stay (hc.block _ HI.out.map.lt HI.out.mown.2), fun g' hg' => ⟨(HI.out.own g' hg').1, fun f => ?_⟩, ⟨HI.out.mown.1, fun f => ?_⟩, by rw [hkt]; exact hj, Nat.le_trans HI.out.size hc.size⟩
        · rcases hw g' f with f | f
          · exact (HI.out.own g' hg').2 f
          · have := sl.lt HI.out.has hg'
            omega
        · rcases hw _ f with f | f
          · exact HI.out.mown.2 f
          · have := HI.out.map.lt
            omega
      have HGO := Lib.hid hgo
      have HPRE := Lib.hid hpre
      obtain ⟨tp, tg, tt, ta, tn⟩ := t
      unfold tbV at hlk hy
      simp only at hlk hy
      have l1 : (k : Int) < N.length := by omega
      have q : decide (k < N.length) = true := by simpa using hlt
      clear hkt hpre hx hgo ht
      gi_wp2
      refine hR.mono ?_
      rintro e W' ⟨F', hw, hc, -, (⟨rfl, hj⟩ | ⟨rfl, hj⟩)⟩
      · have HG := Lib.hid (HGO.out W' F' hw hc hj)
        clear hw hc hj
        gi_wp2
        go_roundw
        case rel => exact ⟨k + 1, F', by omega, by go_num, HG⟩
        case measure => simp [intOf]; omega
      · have HG := Lib.hid hj
        clear hw hc hj
        gi_wp2
        refine bodyPost_ret (results_none rfl _ _ _) rfl ?_
        exact ⟨⟨_, rfl⟩, .inr ⟨_, F', HPRE.out, HG.out⟩⟩
    · obtain rfl : k = N.length := by omega
      have q : decide (N.length < N.length) = false := by simp
      gi_wp2
      go_end0
      have hj := HI.out.say
      rw [List.take_length] at hj
      exact ⟨⟨_, rfl⟩, .inl ⟨_, F, rfl, hj⟩⟩
end Go.Proofs.YtgmmglmokkcgeaaGreat
