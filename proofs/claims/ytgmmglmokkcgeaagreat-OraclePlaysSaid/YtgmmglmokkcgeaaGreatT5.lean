/- A range over a function: what the caller's own blocks are is told. Holds of any program. -/
import Derived.Test.YtgmmglmokkcgeaaGreatRange
import Derived.RangeFuncNested
import Derived.RangeFuncBound
import Derived.RangeFuncCalls
import Derived.RangeFuncLeaves
import Derived.RangeFuncFrom
import Derived.OwnWalkIn
import Derived.Test.YtgmmglmokkcgeaaGreatT2
import Derived.Test.YtgmmglmokkcgeaaGreatS2
import Derived.Test.YtgmmglmokkcgeaaGreatA7
import Derived.Shelf.Abstract
import Derived.Shelf.RegionOpen
import Derived.TacticsInMore
import Derived.LoopNIn
import Derived.LoopIn
import Derived.Test.YtgmmglmokkcgeaaGreatR2b
import Derived.Test.YtgmmglmokkcgeaaGreatAd
import Derived.Deep.QuietTactic
import Derived.BigQuiet
import Derived.Sort.BigQuietIn
import Derived.RangeFuncKeeps
import Derived.RegionTactic
import Derived.ChangeAlike
import Derived.Test.YtgmmglmokkcgeaaGreatS8
namespace Go.Proofs.YtgmmglmokkcgeaaGreat.Mk
open Go Go.RowKit

theorem chg_putObj {F : Nat → Prop} {w W : World} (h : Chg F w W) {r : Nat} (hr : F r ∨ w.heap.size ≤ r) (o : Obj) : Chg F w (W.putObj r o) :=
  ⟨h.os, h.tape, h.output, Nat.le_trans h.size (by simp), fun i hi hF => by
    have : i ≠ r := fun e => by subst e; rcases hr with a | a; exact hF a; omega
    rw [World.putObj_heap_other this]; exact h.block i hi hF⟩

/-- The next footprint: of what was in it, and of new blocks. -/
def Wider (F F' : Nat → Prop) (W : World) : Prop := ∀ g, F' g → F g ∨ W.heap.size ≤ g
theorem Wider.refl (F : Nat → Prop) (W : World) : Wider F F W := fun _ f => Or.inl f

/-- An iterator g lb: what it hands over (encs x), in what order (Ok: what may have come), what has come when it is at its end (S), which blocks it reads (R). The caller's own blocks, F, are told at each round; the iterator turns new blocks that are none of them, and no others. -/
def SeqF {α : Type} (P : Program) (g : Nat) (lb : Array Value) (encs : α → Array Value) (Ok S : List α → Prop) (R : Nat → Prop) (w : World) : Prop :=
  ∀ (l : Nat) (J Jx : List α → (Nat → Prop) → World → Prop) (W : World) (F0 : Nat → Prop), w.heap.size ≤ W.heap.size → (∀ g, R g → W.heap[g]? = w.heap[g]?) → (∀ g, F0 g → g < W.heap.size ∧ ¬ R g) →
    (∀ pre F W1 W2, J pre F W1 → Chg (fun g => W.heap.size ≤ g ∧ ¬ F g) W1 W2 → J pre F W2) →
    (∀ pre F W1 W2, Jx pre F W1 → Chg (fun g => W.heap.size ≤ g ∧ ¬ F g) W1 W2 → Jx pre F W2) →
    (∀ pre x F W1, J pre F W1 → Ok (pre ++ [x]) → YieldAt Fence.wide 1 P l (encs x) W1 fun e W' => ∃ F', Wider F F' W1 ∧ Chg F W1 W' ∧ (∀ g, F' g → g < W'.heap.size) ∧
      ((e = .returned (.bool true) ∧ J (pre ++ [x]) F' W') ∨ (e = .returned (.bool false) ∧ Jx (pre ++ [x]) F' W'))) →
    J [] F0 W →
    CallsIn Fence.wide 2 P g (#[.func (.yield l) #[] #[]] ++ lb) W fun e W' => (∃ v, e = .returned v) ∧ ((∃ xs F, S xs ∧ J xs F W') ∨ (∃ pre F, Ok pre ∧ Jx pre F W'))

/-- How the body of a round may be left. -/
def fromF {α : Type} (I : List α → (Nat → Prop) → World → Prop) (xs : List α) (F : Nat → Prop) (W W' : World) : Prop :=
  ∃ F', Wider F F' W ∧ (∀ g, F' g → g < W'.heap.size) ∧ Chg F W W' ∧ I xs F' W'
def postF {α : Type} (I : List α → (Nat → Prop) → World → Prop) (Ix : Code → List α → (Nat → Prop) → World → Prop) (xs : List α) (F : Nat → Prop) (W : World) : Exit → Act → World → Prop
  | .normal, _, W' => fromF I xs F W W'
  | .ret, _, W' => fromF (Ix .ret) xs F W W'
  | .exit id, _, W' => fromF (Ix (.exit id)) xs F W W'
  | .goto t, _, W' => fromF (Ix (.goto t)) xs F W W'
  | .panic _, _, _ => False
  | .outgrown, _, _ => False

theorem wp_rangeF {P : Program} {α : Type} {g : Operand} {ps : Array Tmp} {assign body : Code} {Q : Exit → Act → World → Prop} {a : Act} {w : World} {gf : Nat} {lb : Array Value}
    (hg : a.eval g = .func (.func gf) #[] lb) (eg : ∀ args w, (callFunc gf args).run P w = .ok (.enter gf args) w)
    {encs : α → Array Value} {Ok S : List α → Prop} {w0 : World} {R : Nat → Prop} (hseq : SeqF P gf lb encs Ok S R w0) (hb0 : w0.heap.size ≤ w.heap.size) (hR : ∀ g, R g → g < w0.heap.size ∧ w.heap[g]? = w0.heap[g]?) (hps : ∀ x, (encs x).size = ps.size)
    (I : List α → (Nat → Prop) → World → Prop) (Ix : Code → List α → (Nat → Prop) → World → Prop) (F0 : Nat → Prop) (hF0 : ∀ g, F0 g → g < w.heap.size ∧ ¬ R g)
    (hI : ∀ pre F W1 W2, I pre F W1 → Chg (fun g => w.heap.size ≤ g ∧ ¬ F g) W1 W2 → I pre F W2)
    (hIx : ∀ c pre F W1 W2, Ix c pre F W1 → Chg (fun g => w.heap.size ≤ g ∧ ¬ F g) W1 W2 → Ix c pre F W2)
    (h0 : I [] F0 w)
    (hround : ∀ (l : Nat) (pre : List α) (x : α) (F : Nat → Prop) (W : World), I pre F W → Ok (pre ++ [x]) → (∀ g, F g → g < W.heap.size) → ¬ F l → w.heap.size ≤ l → l < W.heap.size →
      assign.wpIn (Fence.wide.inRound l) 1 P (Exit.then (fun a₁ W1 => Below W.heap.size W W1 ∧ ∀ W2, Chg (fun g => g = l) W1 W2 → W2.heap.size = W1.heap.size → I pre F W2 →
        body.wpIn (Fence.wide.inRound l) 1 P (postF I Ix (pre ++ [x]) F W2) a₁ W2) (fun _ _ _ => False)) { tmps := (ps.zip (encs x)).foldl (fun t (p, v) => t.setIfInBounds p v) a.tmps, defers := [] } W)
    (hdone : ∀ (D : Nat) (xs : List α) (F : Nat → Prop) (W : World), w.heap.size ≤ D → ¬ F D → S xs → I xs F W → W.heap[D]? = some (.deferred (some [])) → Q .normal { a with defers := { target := .collected D, args := #[] } :: a.defers } W)
    (hstop : ∀ (D : Nat) (c : Code) (pre : List α) (F : Nat → Prop) (W : World), w.heap.size ≤ D → ¬ F D → Ok pre → Ix c pre F W → W.heap[D]? = some (.deferred (some [])) → c.wpIn Fence.wide 3 P Q { a with defers := { target := .collected D, args := #[] } :: a.defers } W) :
    (Code.rangeFunc g ps assign body).wpIn Fence.wide 3 P Q a w := by
  refine wpIn_rangeFunc ?_
  intro fn hfn
  show ∃ (l : Nat) (mark : List Deferred) (w₁ : World) (d : Deferred) (w₁' : World) (f : FuncId) (args : Array Value) (w₂ : World), (Instr.enterLoop fn a.tmps ps assign body none).run P w = .ok (l, mark) w₁ ∧ _
  obtain ⟨rec, hrec⟩ : ∃ rec : LoopState → Option Code → Loop, rec = fun st pe => { state := st, pending := pe, fn, tmps := a.tmps, params := ps, assign, body, defers := w.heap.size } := ⟨_, rfl⟩
  obtain ⟨W1, hW1⟩ : ∃ W1, (w.alloc (.deferred (some []))).alloc (.loop (rec .ready none)) = W1 := ⟨_, rfl⟩
  have hs1 : W1.heap.size = w.heap.size + 2 := by rw [← hW1]; simp
  have hL1 : W1.heap[w.heap.size + 1]? = some (.loop (rec .ready none)) := by
    rw [← hW1]; have := World.alloc_heap_new (w.alloc (.deferred (some []))) (.loop (rec .ready none)); rwa [World.size_alloc] at this
  have hK1 : W1.heap[w.heap.size]? = some (.deferred (some [])) := by
    rw [← hW1]; exact (Below.heap_alloc _ _ _ (by simp)).trans (World.alloc_heap_new w _)
  have hB1 : Below w.heap.size w W1 := by rw [← hW1]; exact ((Below.refl _ w).alloc (Nat.le_refl _) _).alloc (by simp) _
  have below_chg : ∀ {G : Nat → Prop} {A B : World}, Below A.heap.size A B → Chg G A B := fun h => ⟨h.os, h.tape, h.output, h.size, fun i hi _ => h.block i hi⟩
  have hI1 : I [] F0 W1 := hI _ _ _ _ h0 (below_chg hB1)
  refine ⟨w.heap.size + 1, [{ target := .collected w.heap.size, args := #[] }], W1, { target := .fn (.func gf) lb, args := #[.func (.yield (w.heap.size + 1)) #[] #[]] }, W1, gf,
    #[.func (.yield (w.heap.size + 1)) #[] #[]] ++ lb, W1, ?_, ?_, fun _ _ => trivial, ?_, (fun h => by cases h), ?_⟩
  · rw [← hW1, hrec]; exact run_enterLoop_outer _ _ _ _ _
  · simp only [resolve, hg]
    simp [go_sem]
  · simp [invoke, go_sem, eg]
  · refine (hseq (w.heap.size + 1)
      (fun pre FJ W => ∃ F, (∀ g, FJ g ↔ (F g ∨ g = w.heap.size ∨ g = w.heap.size + 1)) ∧ ¬ F w.heap.size ∧ ¬ F (w.heap.size + 1) ∧ (∀ g, F g → g < W.heap.size) ∧ I pre F W ∧ W.heap[w.heap.size + 1]? = some (.loop (rec .ready none)) ∧ W.heap[w.heap.size]? = some (.deferred (some [])))
      (fun pre FJ W => ∃ F c, (∀ g, FJ g ↔ (F g ∨ g = w.heap.size ∨ g = w.heap.size + 1)) ∧ ¬ F w.heap.size ∧ ¬ F (w.heap.size + 1) ∧ Ix c pre F W ∧ W.heap[w.heap.size + 1]? = some (.loop (rec .done (some c))) ∧ W.heap[w.heap.size]? = some (.deferred (some [])))
      W1 (fun g => F0 g ∨ g = w.heap.size ∨ g = w.heap.size + 1) (by omega) (fun g hg' => (hB1.block g (by have := hR g hg'; omega)).trans (hR g hg').2) ?_ ?_ ?_ ?_ ?_).mono ?_
    · intro g hg'
      rcases hg' with hg' | rfl | rfl
      · have := hF0 g hg'; exact ⟨by omega, this.2⟩
      · exact ⟨by omega, fun f => by have := hR _ f; omega⟩
      · exact ⟨by omega, fun f => by have := hR _ f; omega⟩
    · rintro pre FJ A B ⟨F, e1, e2, e3, e4, e5, e6, e7⟩ hc
      have hl := (Array.getElem?_eq_some_iff.1 e6).1
      refine ⟨F, e1, e2, e3, fun g hg' => Nat.lt_of_lt_of_le (e4 g hg') hc.size, hI _ _ _ _ e5 (hc.mono (fun g f => ⟨by omega, fun h => f.2 ((e1 g).2 (Or.inl h))⟩)), ?_, ?_⟩
      · rw [hc.block _ hl (fun f => f.2 ((e1 _).2 (Or.inr (Or.inr rfl))))]; exact e6
      · rw [hc.block _ (by omega) (fun f => f.2 ((e1 _).2 (Or.inr (Or.inl rfl))))]; exact e7
    · rintro pre FJ A B ⟨F, c, e1, e2, e3, e5, e6, e7⟩ hc
      have hl := (Array.getElem?_eq_some_iff.1 e6).1
      refine ⟨F, c, e1, e2, e3, hIx _ _ _ _ _ e5 (hc.mono (fun g f => ⟨by omega, fun h => f.2 ((e1 g).2 (Or.inl h))⟩)), ?_, ?_⟩
      · rw [hc.block _ hl (fun f => f.2 ((e1 _).2 (Or.inr (Or.inr rfl))))]; exact e6
      · rw [hc.block _ (by omega) (fun f => f.2 ((e1 _).2 (Or.inr (Or.inl rfl))))]; exact e7
    · rintro pre x FJ W ⟨F, e1, e2, e3, e4, e5, e6, e7⟩ hok
      have hl := (Array.getElem?_eq_some_iff.1 e6).1
      have hy := run_yield (P := P) (args := encs x) e6 (by rw [hrec]; exact hps x)
      rw [hrec] at hy
      refine ⟨fn, _, assign, body, hy, roundIn_of_wpIn trivial (wpIn_mono (hround (w.heap.size + 1) pre x F W e5 hok e4 e3 (by omega) hl) ?_)⟩
      intro ex a1 A1 hpost
      cases ex with
      | normal =>
        obtain ⟨hB, hgo⟩ := hpost
        have hlA : A1.heap[w.heap.size + 1]? = some (.loop (rec .ready none)) := (hB.block _ hl).trans e6
        have hDA : A1.heap[w.heap.size]? = some (.deferred (some [])) := (hB.block _ (by omega)).trans e7
        refine ⟨_, run_beginRound hlA (by rw [hrec]), ?_⟩
        have hlt := (Array.getElem?_eq_some_iff.1 hlA).1
        have hc2 : Chg (fun g => g = w.heap.size + 1) A1 (A1.putObj (w.heap.size + 1) (.loop { rec .ready none with state := .busy })) := chg_putObj (Chg.refl (fun g => g = w.heap.size + 1) A1) (Or.inl rfl) _
        have hI2 : I pre F (A1.putObj (w.heap.size + 1) (.loop { rec .ready none with state := .busy })) := by
          refine hI _ _ _ _ e5 (((below_chg (G := fun g => w.heap.size ≤ g ∧ ¬ F g) hB)).trans' hc2 (fun i e => ?_))
          subst e
          exact Or.inl ⟨by omega, e3⟩
        refine wpIn_mono (hgo _ hc2 (by simp) hI2) ?_
        have hl2 : (A1.putObj (w.heap.size + 1) (.loop { rec .ready none with state := .busy })).heap[w.heap.size + 1]? = some (.loop { rec .ready none with state := .busy }) := World.putObj_heap_same hlt
        have hD2 : (A1.putObj (w.heap.size + 1) (.loop { rec .ready none with state := .busy })).heap[w.heap.size]? = some (.deferred (some [])) := (World.putObj_heap_other (by omega)).trans hDA
        have fin : ∀ (jump : Option Code) (W3 : World) (K : List α → (Nat → Prop) → World → Prop) (hK : ∀ pre F W1 W2, K pre F W1 → Chg (fun g => w.heap.size ≤ g ∧ ¬ F g) W1 W2 → K pre F W2),
            fromF K (pre ++ [x]) F (A1.putObj (w.heap.size + 1) (.loop { rec .ready none with state := .busy })) W3 →
            ∃ F', Wider FJ (fun g => F' g ∨ g = w.heap.size ∨ g = w.heap.size + 1) W ∧ Chg FJ W (W3.putObj (w.heap.size + 1) (.loop (rec (if jump.isNone then .ready else .done) jump))) ∧
              (Instr.endRound (w.heap.size + 1) jump).run P W3 = .ok (.bool jump.isNone) (W3.putObj (w.heap.size + 1) (.loop (rec (if jump.isNone then .ready else .done) jump))) ∧
              ¬ F' w.heap.size ∧ ¬ F' (w.heap.size + 1) ∧ (∀ g, F' g → g < (W3.putObj (w.heap.size + 1) (.loop (rec (if jump.isNone then .ready else .done) jump))).heap.size) ∧ K (pre ++ [x]) F' (W3.putObj (w.heap.size + 1) (.loop (rec (if jump.isNone then .ready else .done) jump))) ∧
              (W3.putObj (w.heap.size + 1) (.loop (rec (if jump.isNone then .ready else .done) jump))).heap[w.heap.size + 1]? = some (.loop (rec (if jump.isNone then .ready else .done) jump)) ∧
              (W3.putObj (w.heap.size + 1) (.loop (rec (if jump.isNone then .ready else .done) jump))).heap[w.heap.size]? = some (.deferred (some [])) := by
          rintro jump W3 K hK ⟨F', hw, hlt3, hc3, hk3⟩
          have hsz2 : (A1.putObj (w.heap.size + 1) (.loop { rec .ready none with state := .busy })).heap.size = A1.heap.size := World.putObj_size
          have hl3 := (hc3.block _ (by omega) e3).trans hl2
          have hD3 := (hc3.block _ (by omega) e2).trans hD2
          have nl : ¬ F' (w.heap.size + 1) := fun f => by rcases hw _ f with f | f; exact e3 f; omega
          have nD : ¬ F' w.heap.size := fun f => by rcases hw _ f with f | f; exact e2 f; omega
          have hr := run_endRound (P := P) jump hl3
          have hWA := hB.size
          refine ⟨F', fun g f => ?_, ?_, ?_, nD, nl, fun g f => by rw [World.putObj_size]; exact hlt3 g f, hK _ _ _ _ hk3 (chg_putObj (Chg.refl _ _) (Or.inl ⟨by omega, nl⟩) _), World.putObj_heap_same (Array.getElem?_eq_some_iff.1 hl3).1, (World.putObj_heap_other (by omega)).trans hD3⟩
          · rcases f with f | f
            · rcases hw g f with f | f
              · exact Or.inl ((e1 g).2 (Or.inl f))
              · exact Or.inr (by omega)
            · exact Or.inl ((e1 g).2 (Or.inr f))
          · refine chg_putObj ((((below_chg (G := FJ) hB)).trans' hc2 (fun i e => ?_)).trans' hc3 (fun i f => Or.inl ((e1 i).2 (Or.inl f)))) (Or.inl ((e1 _).2 (Or.inr (Or.inr rfl)))) _
            subst e
            exact Or.inl ((e1 _).2 (Or.inr (Or.inr rfl)))
          · rw [hrec] at hr ⊢
            exact hr
        have big : ∀ {F' : Nat → Prop} {A : World} {o1 o2 : Obj}, (∀ g, F' g → g < A.heap.size) → A.heap[w.heap.size + 1]? = some o1 → A.heap[w.heap.size]? = some o2 → ∀ g, (F' g ∨ g = w.heap.size ∨ g = w.heap.size + 1) → g < A.heap.size := fun h6 h8 h9 g f => by
          have := (Array.getElem?_eq_some_iff.1 h8).1
          rcases f with f | f
          · exact h6 g f
          · omega
        rintro e a3 W3 hp
        cases e with
        | normal =>
          obtain ⟨F', h1, h2, h3, h4, h5, h6, h7, h8, h9⟩ := fin none W3 I hI hp
          exact ⟨_, _, h3, _, h1, h2, big h6 h8 h9, .inl ⟨rfl, F', fun g => Iff.rfl, h4, h5, h6, h7, h8, h9⟩⟩
        | ret =>
          obtain ⟨F', h1, h2, h3, h4, h5, h6, h7, h8, h9⟩ := fin (some .ret) W3 _ (hIx _) hp
          exact ⟨_, _, h3, _, h1, h2, big h6 h8 h9, .inr ⟨rfl, F', .ret, fun g => Iff.rfl, h4, h5, h7, h8, h9⟩⟩
        | exit id =>
          obtain ⟨F', h1, h2, h3, h4, h5, h6, h7, h8, h9⟩ := fin (some (.exit id)) W3 _ (hIx _) hp
          exact ⟨_, _, h3, _, h1, h2, big h6 h8 h9, .inr ⟨rfl, F', .exit id, fun g => Iff.rfl, h4, h5, h7, h8, h9⟩⟩
        | goto t =>
          obtain ⟨F', h1, h2, h3, h4, h5, h6, h7, h8, h9⟩ := fin (some (.goto t)) W3 _ (hIx _) hp
          exact ⟨_, _, h3, _, h1, h2, big h6 h8 h9, .inr ⟨rfl, F', .goto t, fun g => Iff.rfl, h4, h5, h7, h8, h9⟩⟩
        | panic ch => exact hp.elim
        | outgrown => exact hp.elim
      | exit id => exact hpost.elim
      | goto t => exact hpost.elim
      | ret => exact hpost.elim
      | panic chain => exact hpost.elim
      | outgrown => exact hpost.elim
    · refine ⟨F0, fun g => Iff.rfl, fun f => ?_, fun f => ?_, fun g f => ?_, hI1, hL1, hK1⟩
      · have := hF0 _ f; omega
      · have := hF0 _ f; omega
      · have := hF0 _ f; omega
    · rintro e W2 ⟨⟨v, rfl⟩, (⟨xs, FJ, hS, F, e1, e2, e3, e4, e5, e6, e7⟩ | ⟨pre, FJ, hSp, F, c, e1, e2, e3, e5, e6, e7⟩)⟩
      · have hr := run_endLoop (P := P) e6 (by rw [hrec]; simp)
        rw [hrec] at hr
        exact ⟨none, _, hr, hdone _ xs F _ (Nat.le_refl _) e2 hS (hI _ _ _ _ e5 (chg_putObj (Chg.refl _ _) (Or.inl ⟨by omega, e3⟩) _)) ((World.putObj_heap_other (by omega)).trans e7)⟩
      · have hr := run_endLoop (P := P) e6 (by rw [hrec]; simp)
        rw [hrec] at hr
        exact ⟨some c, _, hr, hstop _ c pre F _ (Nat.le_refl _) e2 hSp (hIx _ _ _ _ _ e5 (chg_putObj (Chg.refl _ _) (Or.inl ⟨by omega, e3⟩) _)) ((World.putObj_heap_other (by omega)).trans e7)⟩

/-- A round of a loop, asked for within another's. -/
theorem roundIn_widen {P : Program} {l0 : Nat} {f : FuncId} {tmps : Array Value} {assign body : Code} {w : World} {R : Ending → World → Prop} {m : Nat} (h : RoundIn Fence.wide m P l0 f tmps assign body w R) (l m' : Nat) : RoundIn (Fence.wide.inRound l) m' P l0 f tmps assign body w R :=
  ⟨h.1, fun c cs _ => h.2 c cs (fun d hd => by cases hd)⟩
/-- append onto a slice at the front of a row, within a fence. -/
theorem wpListIn_append_sl {F : Fence} {nn : Nat} {P : Program} {w : World} {ops : Array Oper} {rest : List Oper} {o : Oper} {a : Act} {Q : Exit → Act → World → Prop} (hgd : o.guard = none) (s x : Operand) (t : TypeId)
    (ho : o.op = .call { callee := .builtin .append, args := #[s, x], argTypes := #[t, t] })
    (e : TypeId) (i : TypeInfo) (z : Value) (size bytes : Nat) (ht : P.underlying t = some (.slice e)) (hi : P.info? e = some i) (hz : i.zero = some z)
    (hsize : i.size = size) (hby : i.bytes = bytes) (hzs : z.cells.size = size) (hsz : 0 < size)
    (v : Value) (n : Nat) (xs : List Value) (hs : a.eval s = v) (hown : sl w e size v n xs)
    (ad : Option Addr) (m c : Nat) (news : List Value) (hx : a.eval x = .slice ad m c) (hl : news.length = m * size) (hnews : 0 < m → ∃ a, ad = some a ∧ ∀ j u, news[j]? = some u → w.cell? (a.add j) = some u) (hx0 : m = 0 → ad = none → c = 0)
    (h1 : ∀ u ∈ news, u.oneCell' = true) (h63 : n + m ≤ maxLen) (hbytes : (n + m) * bytes ≤ 140737488355328)
    (h : ∀ v' w', sl w' e size v' (n + m) (xs ++ news) → w.grownBy w' v.ownBlock → (v'.ownBlock = v.ownBlock ∨ v'.ownBlock = some w.heap.size) → wpListIn F nn P ops Q rest (a.put o.dst v') w') :
    wpListIn F nn P ops Q (o :: rest) a w := by
  refine wpListIn_plain hgd fun K hK' => ?_
  obtain ⟨v', w', hrun, r1, r2, r3⟩ := run_append_sl (P := P) w t o.type e i z size bytes ht hi hz hsize hby hzs hsz v n xs hown ad m c news hl hnews hx0 h1 h63 hbytes
  unfold Oper.wpIn
  refine ⟨?_, ?_⟩
  · simp [Oper.about, ho, resolve, Target.leads, Sem.run_pure]
  · rw [Oper.semAt_plain F _ _ (by rw [ho]; intro c hc'; cases hc')]
    simp [execOp, ho, resolve, invoke, builtin, hs, hx, hrun, Result.andThen]
    exact hK' _ _ (h v' w' r1 r2 r3)
end Go.Proofs.YtgmmglmokkcgeaaGreat.Mk
/- Walks: what Tablets hands over. -/
namespace Go.Proofs.YtgmmglmokkcgeaaGreat
set_option linter.unusedVariables false
set_option linter.unusedSimpArgs false
set_option linter.unusedSectionVars false
open Go.RowKit Mk Go.Sort Go.Shelf
attribute [local go_sem] Oper.semAt_some

theorem OrRep.moved {w W : World} {b : Nat} {R : Loc} {F : Nat → Prop} {n : OM} (h : OrRep w b R F n) (hd : ∀ i, F i → W.heap[i]? = w.heap[i]?) : OrRep W b R F n where
  box := (hd _ h.fb).trans h.box
  dec := h.dec.stay (hd _ h.fd)
  las := h.las.stay (hd _ h.fl)
  tab := h.tab.stay (hd _ h.ft)
  com := h.com.stay (hd _ h.fc)
  rows p hp := (h.rows p hp).stay (fun g hg => hd g (h.frow p hp g hg))
  gone := h.gone
  full := h.full
  apart := h.apart
  ne := h.ne
  fb := h.fb
  fd := h.fd
  fl := h.fl
  ft := h.ft
  fc := h.fc
  frow := h.frow
/-- The tablets, rising by predicate. -/
def tabsM (T : List (ByteArray × Tb)) : List Tb := (sortN (T.map (·.1))).map (fun x => (lk T x).getD .zero)
/-- The iterator, k tablets handed over: the names and the copy that it goes over; the caller's word. -/
structure TabAt (N : List ByteArray) (T : List (ByteArray × Tb)) (J : List Tb → (Nat → Prop) → World → Prop) (n0 cm : Nat) (nv : Value) (k : Nat) (F : Nat → Prop) (wr : World) : Prop where
  has : NL wr nv N
  map : mapAt okS kvS wr cm (tv T)
  own : ∀ g, nv.ownBlock = some g → n0 ≤ g ∧ ¬ F g
  mown : n0 ≤ cm ∧ ¬ F cm
  say : J ((N.take k).map (fun x => (lk T x).getD .zero)) F wr
  size : n0 ≤ wr.heap.size
theorem lk_of_mem {K V : Type} [DecidableEq K] {L : List (K × V)} {x : K} (h : x ∈ L.map (·.1)) : ∃ v, lk L x = some v := by
  induction L with
  | nil => cases h
  | cons p L ih =>
    by_cases e : p.1 = x
    · exact ⟨p.2, by simp [lk, e]⟩
    · rw [List.map_cons, List.mem_cons] at h
      obtain ⟨v, hv⟩ := ih (h.resolve_left (fun e2 => e e2.symm))
      exact ⟨v, by simp [lk, e, hv]⟩
theorem tab_look {w : World} {r : Nat} {T : List (ByteArray × Tb)} (h : mapAt okS kvS w r (tv T)) {x : ByteArray} (hx : okS x) : (Instr.lookup 33 (.map (some r)) (.string x) false).run Tryz.prog w = .ok (tbV ((lk T x).getD .zero)) w := by
  have := run_lookup keysS Tryz.underlying33 (zero38 w) h hx false
  rw [tv, lk_map] at this
  simp only [kvS] at this
  rw [this]
  cases lk T x <;> simp

set_option maxRecDepth 100000 in
set_option maxHeartbeats 2000000 in
theorem tabs_seq {w : World} {b kb : Nat} {R : Loc} {F : Nat → Prop} {n : OM} (h : OrRep w b R F n) (hL : n.tab.length ≤ 1099511627776) (hkb : w.heap[kb]? = some (.cells #[.pointer (some ⟨b, 0, none⟩)] 30)) :
    SeqF Tryz.prog 49 #[.pointer (some ⟨kb, 0, none⟩)] (fun t : Tb => #[tbV t]) (fun pre => pre <+: tabsM n.tab) (fun xs => xs = tabsM n.tab) (fun g => g = kb ∨ F g) w := by
  intro l J Jx W F0 hsz hR hF0 hJ hJx hY h0
  have hor : OrRep W b R F n := h.moved (fun g hg => hR g (Or.inr hg))
  have hk := (hR kb (Or.inl rfl)).trans hkb
  have q0 : W.cell? ⟨kb, 0, none⟩ = some (.pointer (some ⟨b, 0, none⟩)) := cell_of hk rfl
  have d0 := hor.c6
  have NN := Lib.hid (none_any hor)
  have CT := Lib.hid (cloneT hor.tab)
  have e1 : (tv n.tab).map (·.1) = n.tab.map (·.1) := by simp [tv]
  have hL2 : (tv n.tab).length ≤ 1099511627776 := by simpa [tv] using hL
  have SO := fun (u : World) (r : Nat) (hm : mapAt okS kvS u r (tv n.tab)) => sorted50_any hm hL2
  rw [e1] at SO
  have hNk : ∀ x ∈ sortN (n.tab.map (·.1)), okS x := fun x hx => by
    have hx2 := (sortN_perm _).mem_iff.1 hx
    obtain ⟨p, hp, rfl⟩ := List.mem_map.1 hx2
    obtain ⟨_, _, _, E⟩ := hor.tab
    exact E.ok (p.1, tbV p.2) (List.mem_map.2 ⟨p, hp, rfl⟩)
  have hNl : (sortN (n.tab.map (·.1))).length ≤ 1099511627776 := by rw [sortN_len, List.length_map]; exact hL
  unfold tabsM at hY ⊢
  generalize sortN (n.tab.map (·.1)) = N at *
  generalize n.tab = T at *
  have SO := Lib.hid SO
  have HJ := Lib.hid hJ
  have HJx := Lib.hid hJx
  have HY := Lib.hid hY
  have H0 := Lib.hid h0
  have HF0 := Lib.hid hF0
  have HNK := Lib.hid hNk
  clear h hkb hR hF0 hJ hJx hY h0 hor hk hsz e1 hL2 hNk hL
  show CallsIn Fence.wide 2 Tryz.prog 49 #[.func (.yield l) #[] #[], .pointer (some ⟨kb, 0, none⟩)] W _
  refine callsIn_of_wp Tryz.func49 rfl trivial ?_ rfl
  simp only [Tryz.ntmps49, List.size_toArray, List.length_cons, List.length_nil, Nat.reduceAdd, Nat.reduceSub, Array.replicate_succ, Array.replicate_zero, List.push_toArray, List.append_toArray, List.nil_append, List.cons_append]
  gi_wp2_with (first | (refine ⟨trivial, ?_⟩; gi_at_call 29; refine (callsIn_wide.2 NN.out).mono ?_; rintro e w' ⟨rfl, rfl⟩) | (refine ⟨trivial, ?_⟩; gi_at_call 35; refine (callsIn_wide.2 CT.out).mono ?_; rintro e w2 ⟨rfl, hm, hc, -⟩) | (refine ⟨trivial, ?_⟩; gi_at_call 50; refine (callsIn_wide.2 (keys50_any _ _)).mono ?_; rintro e w3 ⟨rfl, rfl⟩) | (refine ⟨trivial, ?_⟩; gi_at_call 45; refine (callsIn_wide.2 (SO.out _ _ hm)).mono ?_; rintro e w4 ⟨o, c, rfl, hN, hc4, hown⟩))
  have HB := Lib.hid (show TabAt N T J w'.heap.size w'.heap.size (.slice o N.length c) 0 F0 w4 from
    ⟨hN, hm.stay (hc4.block _ hm.lt (fun f => f)), fun g hg => (have h1 := hown g hg; have h2 := hm.lt; ⟨by omega, fun f => by have := HF0.out g f; omega⟩), ⟨Nat.le_refl _, fun f => by have := HF0.out _ f; omega⟩, by
      have h5 := HJ.out _ _ _ _ H0.out ((hc.trans hc4).mono (fun _ f => f.elim))
      simpa using h5, Nat.le_trans hc.size hc4.size⟩)
  clear hN hm hc hc4 hown q0 d0 NN CT SO H0
  gi_loopw [17] (fun i wr => ∃ (k : Nat) (F : Nat → Prop), k ≤ N.length ∧ i = .int .i64 k ∧ Hid (TabAt N T J w'.heap.size w'.heap.size (.slice o N.length c) k F wr)) (fun i _ => N.length - (intOf i).toNat)
  case atStart => exact ⟨0, F0, by omega, rfl, HB⟩
  case round =>
    obtain ⟨k, F, hk, rfl, HI⟩ := hrel
    clear HB
    have l0 : (0 : Int) ≤ k := by omega
    by_cases hlt : k < N.length
    · obtain ⟨x, hx⟩ : ∃ x, N[k]? = some x := ⟨N[k]'hlt, List.getElem?_eq_getElem hlt⟩
      obtain ⟨t, ht⟩ : ∃ t, (lk T x).getD .zero = t := ⟨_, rfl⟩
      have hkt : (N.take (k + 1)).map (fun x => (lk T x).getD .zero) = (N.take k).map (fun x => (lk T x).getD .zero) ++ [t] := by rw [List.take_add_one, hx, ← ht]; simp
      have hpre : (N.take k).map (fun x => (lk T x).getD .zero) ++ [t] <+: N.map (fun x => (lk T x).getD .zero) := by rw [← hkt]; exact (List.take_prefix _ _).map _
      obtain ⟨g, cap, e, h0⟩ := HI.out.has.cell hx
      cases e
      have hlk := tab_look HI.out.map (HNK.out x (List.mem_of_getElem? hx))
      rw [ht] at hlk
      obtain ⟨fn, tmps, assign, body, hy, hR⟩ := HY.out ((N.take k).map (fun x => (lk T x).getD .zero)) t F wr HI.out.say hpre
      have hgo : ∀ (W' : World) (F' : Nat → Prop), Wider F F' wr → Chg F wr W' → J ((N.take k).map (fun x => (lk T x).getD .zero) ++ [t]) F' W' → TabAt N T J w'.heap.size w'.heap.size (.slice (some ⟨g, 0, none⟩) N.length c) (k + 1) F' W' := fun W' F' hw hc hj => by
        have hh := HI.out.has
        refine ⟨sl.stay hh (fun g' hg' => hc.block g' (sl.lt hh hg') (HI.out.own g' hg').2), HI.out.map.stay (hc.block _ HI.out.map.lt HI.out.mown.2), fun g' hg' => ⟨(HI.out.own g' hg').1, fun f => ?_⟩, ⟨HI.out.mown.1, fun f => ?_⟩, by rw [hkt]; exact hj, Nat.le_trans HI.out.size hc.size⟩
        · rcases hw g' f with f | f
          · exact (HI.out.own g' hg').2 f
          · have := sl.lt HI.out.has hg'
            omega
        · rcases hw _ f with f | f
          · exact HI.out.mown.2 f
          · have := HI.out.map.lt
            omega
      have HGO := Lib.hid hgo
      have HPRE := Lib.hid hpre
      obtain ⟨tp, tg, tt, ta, tn⟩ := t
      unfold tbV at hlk hy
      simp only at hlk hy
      have l1 : (k : Int) < N.length := by omega
      have q : decide (k < N.length) = true := by simpa using hlt
      clear hkt hpre hx hgo ht
      gi_wp2
      refine hR.mono ?_
      rintro e W' ⟨F', hw, hc, -, (⟨rfl, hj⟩ | ⟨rfl, hj⟩)⟩
      · have HG := Lib.hid (HGO.out W' F' hw hc hj)
        clear hw hc hj
        gi_wp2
        go_roundw
        case rel => exact ⟨k + 1, F', by omega, by go_num, HG⟩
        case measure => simp [intOf]; omega
      · have HG := Lib.hid hj
        clear hw hc hj
        gi_wp2
        refine bodyPost_ret (results_none rfl _ _ _) rfl ?_
        exact ⟨⟨_, rfl⟩, .inr ⟨_, F', HPRE.out, HG.out⟩⟩
    · obtain rfl : k = N.length := by omega
      have q : decide (N.length < N.length) = false := by simp
      gi_wp2
      go_end0
      have hj := HI.out.say
      rw [List.take_length] at hj
      exact ⟨⟨_, rfl⟩, .inl ⟨_, F, rfl, hj⟩⟩
end Go.Proofs.YtgmmglmokkcgeaaGreat
/- Walks: stands: both oracles show the same. -/
namespace Go.Proofs.YtgmmglmokkcgeaaGreat
set_option linter.unusedVariables false
set_option linter.unusedSimpArgs false
set_option linter.unusedSectionVars false
open Go.RowKit Mk Go.Sort Go.Shelf
attribute [local go_sem] Oper.semAt_some

/-- What the document's state has by predicate is what the oracle's iterator hands over. -/
theorem Alike.tabs {n : OM} {r : RM} (h : Alike n r) : tabsM n.tab = r.t.map (·.2) := by
  have hk : ∀ x, x ∈ n.tab.map (·.1) ↔ x ∈ r.t.map (·.1) := fun x => by
    have ht := h.t x
    constructor
    · intro hx
      obtain ⟨v, hv⟩ := lk_of_mem hx
      rw [hv] at ht
      exact List.mem_map.2 ⟨_, lk_mem ht.symm, rfl⟩
    · intro hx
      obtain ⟨v, hv⟩ := lk_of_mem hx
      rw [hv] at ht
      exact List.mem_map.2 ⟨_, lk_mem ht, rfl⟩
  have hn1 : (n.tab.map (·.1)).Nodup := by unfold List.Nodup; rw [List.pairwise_map]; exact h.ta
  have hn2 : (r.t.map (·.1)).Nodup := by unfold List.Nodup; rw [List.pairwise_map]; exact h.ts.apart lessB_ord
  have hs : sortN (n.tab.map (·.1)) = r.t.map (·.1) := sortN_eq ((List.perm_ext_iff_of_nodup hn2 hn1).2 (fun x => (hk x).symm)) (by rw [List.pairwise_map]; exact h.ts)
  unfold tabsM
  rw [hs, List.map_map]
  refine List.map_congr_left fun p hp => ?_
  obtain ⟨i, hi⟩ := List.mem_iff_getElem?.1 hp
  have := (lk_some (x := p.1) (v := p.2) (h.ts.apart lessB_ord) hi).1
  simp only [Function.comp, h.t, this, Option.getD_some]

/-- A region that draws, within a round: what was walked outside it. -/
theorem wpAnyIn_round {n : Nat} {P : Program} {md : Region.Mode} {ops : Array Oper} {Q : Exit → Act → World → Prop} (l : Nat) (hnd : ∀ (i : Nat) (o : Oper), ops[i]? = some o → ∀ c, o.op ≠ .defer c) :
    ∀ (fuel : Nat) (listed : Array Bool) (a : Act) (w : World), wpAnyIn Fence.wide n P md ops Q fuel listed a w → wpAnyIn (Fence.wide.inRound l) n P md ops Q fuel listed a w
  | 0, _, _, _, h => h
  | fuel + 1, listed, a, w, h => ⟨h.1, fun i hi => by
      have h2 := wpOpIn_mono (fun a' w' => wpAnyIn_round l hnd fuel (listed.setIfInBounds i true) a' w') (h.2 i hi)
      unfold wpOpIn at h2 ⊢
      cases ho : ops[i]? with
      | none => rw [ho] at h2; exact h2
      | some o =>
        rw [ho] at h2
        simp only at h2 ⊢
        split
        · rename_i hw
          rw [if_pos hw] at h2
          unfold Oper.wpIn at h2 ⊢
          refine ⟨h2.1, ?_⟩
          have h3 := h2.2
          rw [Oper.semAt_plain Fence.wide _ _ (hnd i o ho)] at h3
          rw [Oper.semAt_plain (Fence.wide.inRound l) _ _ (hnd i o ho)]
          generalize (execOp a.eval o).run P w = r at *
          cases r with
          | ok x w' => cases x <;> exact h3
          | halt x w' => cases x <;> exact h3
        · rename_i hw
          rw [if_neg hw] at h2
          exact h2⟩
theorem wpIn_region_quiet_round {P : Program} {n id l : Nat} {Q : Exit → Act → World → Prop} {a : Act} {w : World} {L : List Oper} (hm : P.follows .mixedOrders = true) (hB : Region.lexB .any L.toArray = true)
    (hnd : L.all (fun o => match o.op with | .defer _ => false | _ => true) = true)
    (h : wpQuietIn Fence.wide n P L.toArray (fun w' => ∃ n, w' = w.drewN n) (fun a' => ∀ w', (∃ n, w' = w.drewN n) → Q .normal a' w') L a) : (Code.region id L.toArray true).wpIn (Fence.wide.inRound l) n P Q a w := by
  simp only [Region.lexB, Bool.and_eq_true] at hB
  refine wpIn_region_any hm (wpAnyIn_round l (fun i o ho c e => ?_) _ _ _ _ ?_)
  · have hm := List.all_eq_true.1 hnd o (List.mem_of_getElem? (by simpa using ho))
    rw [e] at hm
    cases hm
  · refine wpAnyIn_of_quiet (F := Fence.wide) (C := fun w' => ∃ n, w' = w.drewN n) (Q := fun a' => ∀ w', (∃ n, w' = w.drewN n) → Q .normal a' w') rfl (fun _ w' hw' h => h w' hw') _ _ _ _ ⟨1, rfl⟩ ?_
    have := wpAnyQIn_lex (F := Fence.wide) (n := n) (C := fun w' => ∃ n, w' = w.drewN n) (md := .any) hB.1 L 0 (Array.replicate L.toArray.size false) a (by simp) (by simpa using hB.2) (by simpa using h)
    simpa using this
section
variable {w w' : World} {b : Nat} {R : Loc} {F : Nat → Prop} {n : OM}
theorem uid_any (h : OrRep w b R F n) : Calls Tryz.prog 11 #[.pointer (some ⟨b, 0, none⟩)] w fun e w' => e = .returned (.int .u64 (n.uid : Nat)) ∧ w' = w := by
  have c1 := h.c2
  have NN := Lib.hid (none_any h)
  clear h
  go_enter Tryz.func11, Tryz.ntmps11
  go_wp2_with fail
  refine NN.out.mono ?_
  rintro e w1 ⟨rfl, rfl⟩
  go_wp2_with fail
  go_ret
  exact ⟨rfl, rfl⟩
theorem mark_any (h : OrRep w b R F n) : Calls Tryz.prog 12 #[.pointer (some ⟨b, 0, none⟩)] w fun e w' => e = .returned (.int .u64 (n.mark : Nat)) ∧ w' = w := by
  have c1 := h.c3
  have NN := Lib.hid (none_any h)
  clear h
  go_enter Tryz.func12, Tryz.ntmps12
  go_wp2_with fail
  refine NN.out.mono ?_
  rintro e w1 ⟨rfl, rfl⟩
  go_wp2_with fail
  go_ret
  exact ⟨rfl, rfl⟩
theorem tablets_makes (p : Option Addr) (w : World) : Calls Tryz.prog 18 #[.pointer p] w fun e w' => e = .returned (.func (.func 49) #[] #[.pointer (some ⟨w.heap.size, 0, none⟩)]) ∧ w' = w.alloc (.cells #[.pointer p] 30) := by
  go_enter Tryz.func18, Tryz.ntmps18
  go_wp2
  go_ret
  exact ⟨rfl, rfl⟩
end
end Go.Proofs.YtgmmglmokkcgeaaGreat
/- Walk: stands: both oracles show the same. -/
namespace Go.Proofs.YtgmmglmokkcgeaaGreat
set_option linter.unusedVariables false
set_option linter.unusedSimpArgs false
set_option linter.unusedSectionVars false
open Go.RowKit Mk Go.Sort Go.Shelf
attribute [local go_sem] Oper.semAt_some

/-- What the loop over the tablets keeps. -/
structure StAt (w : World) (bx xb rb ib : Nat) (pre : List Tb) (F : Nat → Prop) (W : World) : Prop where
  chg : Chg (fun _ => False) w W
  hib : W.heap[ib]? = some (.cells #[.int .i64 pre.length] 3)
  hxb : W.heap[xb]? = some (.cells #[.pointer (some ⟨bx, 0, none⟩)] 63)
  hrb : W.heap[rb]? = some (.cells #[.bool false] 4)
  fp : ∀ g, F g ↔ g = ib
theorem StAt.go {w W W' : World} {bx xb rb ib N : Nat} {pre : List Tb} {F : Nat → Prop} (h : StAt w bx xb rb ib pre F W) (c : Chg (fun g => N ≤ g ∧ ¬ F g) W W') (h1 : w.heap.size ≤ N) (h2 : xb < N) (h3 : rb < N) : StAt w bx xb rb ib pre F W' where
  chg := h.chg.trans' c (fun i hi => Or.inr (by omega))
  hib := (c.block _ (Array.getElem?_eq_some_iff.1 h.hib).1 (fun f => f.2 ((h.fp _).2 rfl))).trans h.hib
  hxb := (c.block _ (Array.getElem?_eq_some_iff.1 h.hxb).1 (fun f => by omega)).trans h.hxb
  hrb := (c.block _ (Array.getElem?_eq_some_iff.1 h.hrb).1 (fun f => by omega)).trans h.hrb
  fp := h.fp
set_option maxRecDepth 100000 in
set_option maxHeartbeats 4000000 in
theorem stands_any {w : World} {bs bx : Nat} {R : Loc} {Q : RV} {F G : Nat → Prop} {n : OM} {r : RM} {B : Nat} (hs : OrRep w bs R F n) (hx : RRep w bx Q G r) (al : Alike n r) (hfit : Fit r B) (hB : B ≤ 900000) :
    Calls Tryz.prog 25 #[.pointer (some ⟨bs, 0, none⟩), .pointer (some ⟨bx, 0, none⟩)] w fun e w' => e = .returned (.bool true) ∧ Chg (fun _ => False) w w' := by
  obtain ⟨W0, HW0⟩ : ∃ W, Hid ((w.alloc (.cells #[.pointer (some ⟨bx, 0, none⟩)] 63)).alloc (.cells #[.bool false] 4) = W) := ⟨_, Lib.hid rfl⟩
  obtain ⟨xb, HXB⟩ : ∃ k, Hid (w.heap.size = k) := ⟨_, Lib.hid rfl⟩
  have hc0 : Chg (fun _ => False) w W0 := by rw [← HW0.out]; exact ((Chg.refl _ _).alloc _).alloc _
  have hx0 : W0.heap[xb]? = some (.cells #[.pointer (some ⟨bx, 0, none⟩)] 63) := by
    rw [← HW0.out, ← HXB.out, Below.heap_alloc _ _ _ (by simp)]; exact Go.heap_alloc_new _ _
  have hr0 : W0.heap[xb + 1]? = some (.cells #[.bool false] 4) := by
    rw [← HW0.out, ← HXB.out]
    have := Go.heap_alloc_new (w.alloc (.cells #[.pointer (some ⟨bx, 0, none⟩)] 63)) (.cells #[.bool false] 4)
    rwa [World.size_alloc] at this
  have hs0 : W0.heap.size = xb + 2 := by rw [← HW0.out, ← HXB.out]; simp
  have htl : n.tab.length = r.t.length := by
    have := congrArg List.length al.tabs
    unfold tabsM at this
    rw [List.length_map, sortN_len, List.length_map, List.length_map] at this
    exact this
  have HTB := Lib.hid al.tabs
  have HTP := Lib.hid al.tp
  have HC0 := Lib.hid hc0
  have HX0 := Lib.hid hx0
  have HR0 := Lib.hid hr0
  have HS0 := Lib.hid hs0
  have HS := Lib.hid (fun (u : World) (c : Chg (fun _ => False) w u) => hs.tight.same c)
  have HX := Lib.hid (fun (u : World) (c : Chg (fun _ => False) w u) => hx.same c)
  have HTL := Lib.hid (show n.tab.length ≤ 1099511627776 by have := hfit.tl; omega)
  have TT := Lib.hid (fun m => time_any (hs.same (hc0.trans (Chg.drewN' W0 m))))
  have TU := Lib.hid (fun m => uid_any (hs.same (hc0.trans (Chg.drewN' W0 m))))
  have TM := Lib.hid (fun m => mark_any (hs.same (hc0.trans (Chg.drewN' W0 m))))
  have x0 : W0.cell? ⟨xb, 0, none⟩ = some (.pointer (some ⟨bx, 0, none⟩)) := cell_of hx0 rfl
  have e0 : W0.cell? ⟨bx, 0, none⟩ = some (.int .u64 (n.time : Nat)) := by rw [al.time]; exact cell_of (hx.same hc0).box rfl
  have e1 : W0.cell? ⟨bx, 1, none⟩ = some (.int .u64 (n.uid : Nat)) := by rw [al.uid]; exact cell_of (hx.same hc0).box rfl
  have e2 : W0.cell? ⟨bx, 2, none⟩ = some (.int .u64 (n.mark : Nat)) := by rw [al.mark]; exact cell_of (hx.same hc0).box rfl
  have v0 : ((n.time : Int) != (n.time : Int)) = false := by simp
  have v1 : ((n.uid : Int) != (n.uid : Int)) = false := by simp
  have v2 : ((n.mark : Int) != (n.mark : Int)) = false := by simp
  have HRL := Lib.hid (show r.t.length ≤ 900000 by have := hfit.tl; omega)
  obtain ⟨L, HL⟩ : ∃ L, Hid (r.t.length = L) := ⟨_, Lib.hid rfl⟩
  clear hs hx al hfit hB hc0 hx0 hr0 hs0 htl
  refine callsIn_wide.1 (callsIn_of_wp_marks (F := Fence.wide) (n := 3) Tryz.func25 rfl trivial ?_)
  refine wpIn_wide.2 ?_
  simp only [Tryz.ntmps25, List.size_toArray, List.length_cons, List.length_nil, Nat.reduceAdd, Nat.reduceSub, Array.replicate_succ, Array.replicate_zero, List.push_toArray, List.append_toArray, List.nil_append, List.cons_append]
  go_upto_region 1 with fail
  rw [HW0.out, HXB.out]
  go_wp2_with fail
  go_quiet (first | (go_at_call 10; exact Calls.quiet_of_same (TT.out _)) | (go_at_call 11; exact Calls.quiet_of_same (TU.out _)) | (go_at_call 12; exact Calls.quiet_of_same (TM.out _)))
  have HC1 := Lib.hid (HC0.out.trans (Chg.drewN' W0 nq))
  have HX1 := Lib.hid (show (W0.drewN nq).heap[xb]? = _ from HX0.out)
  have HR1 := Lib.hid (show (W0.drewN nq).heap[xb + 1]? = _ from HR0.out)
  have HS1 := Lib.hid (show (W0.drewN nq).heap.size = xb + 2 from HS0.out)
  clear x0 e0 e1 e2 v0 v1 v2 TT TU TM HC0 HX0 HR0 HS0 HW0
  generalize W0.drewN nq = W1 at *
  go_upto_region 4 with fail
  rw [HS1.out]
  obtain ⟨W2, HW2⟩ : ∃ W, Hid (W1.alloc (.cells #[.int .i64 0] 3) = W) := ⟨_, Lib.hid rfl⟩
  rw [HW2.out]
  have HC2 := Lib.hid (show Chg (fun _ => False) w W2 by rw [← HW2.out]; exact HC1.out.alloc _)
  have HX2 := Lib.hid (show W2.heap[xb]? = some (.cells #[.pointer (some ⟨bx, 0, none⟩)] 63) by rw [← HW2.out, Below.heap_alloc _ _ _ (by rw [HS1.out]; omega)]; exact HX1.out)
  have HR2 := Lib.hid (show W2.heap[xb + 1]? = some (.cells #[.bool false] 4) by rw [← HW2.out, Below.heap_alloc _ _ _ (by rw [HS1.out]; omega)]; exact HR1.out)
  have HI2 := Lib.hid (show W2.heap[xb + 2]? = some (.cells #[.int .i64 0] 3) by rw [← HW2.out, ← HS1.out]; exact Go.heap_alloc_new _ _)
  have HS2 := Lib.hid (show W2.heap.size = xb + 3 by rw [← HW2.out, World.size_alloc, HS1.out])
  clear HW2 HC1 HX1 HR1 HS1
  go_wp2_with fail
  refine (tablets_makes _ _).mono ?_
  rintro e w' ⟨rfl, rfl⟩
  rw [HS2.out]
  obtain ⟨W3, HW3⟩ : ∃ W, Hid (W2.alloc (.cells #[.pointer (some ⟨bs, 0, none⟩)] 30) = W) := ⟨_, Lib.hid rfl⟩
  rw [HW3.out]
  have HC3 := Lib.hid (show Chg (fun _ => False) w W3 by rw [← HW3.out]; exact HC2.out.alloc _)
  have HK3 := Lib.hid (show W3.heap[xb + 3]? = some (.cells #[.pointer (some ⟨bs, 0, none⟩)] 30) by rw [← HW3.out, ← HS2.out]; exact Go.heap_alloc_new _ _)
  have HS3 := Lib.hid (show W3.heap.size = xb + 4 by rw [← HW3.out, World.size_alloc, HS2.out])
  have HA := Lib.hid (show StAt w bx xb (xb + 1) (xb + 2) [] (fun g => g = xb + 2) W3 from
    ⟨HC3.out, by rw [← HW3.out, Below.heap_alloc _ _ _ (by rw [HS2.out]; omega)]; exact HI2.out, by rw [← HW3.out, Below.heap_alloc _ _ _ (by rw [HS2.out]; omega)]; exact HX2.out, by rw [← HW3.out, Below.heap_alloc _ _ _ (by rw [HS2.out]; omega)]; exact HR2.out, fun g => Iff.rfl⟩)
  have SEQ := tabs_seq (HS.out _ HC3.out) HTL.out HK3.out
  rw [HTB.out] at SEQ
  have SEQ := Lib.hid SEQ
  clear HW3 HC2 HX2 HR2 HI2 HS2
  go_wp2_with fail
  refine (wpIn_wide (n := 3)).1 ?_
  refine wp_rangeF (w0 := W3) (gf := 49) (lb := #[.pointer (some ⟨xb + 3, 0, none⟩)]) rfl (enters_of Tryz.func49 (by kernel_rfl) rfl) SEQ.out (Nat.le_refl _) (fun g hg => ⟨?_, rfl⟩) (fun _ => rfl)
    (fun pre F W => StAt w bx xb (xb + 1) (xb + 2) pre F W) (fun c pre F W => False) (fun g => g = xb + 2)
    (fun g hg => ⟨by rw [HS3.out]; omega, fun f => ?_⟩)
    (fun pre F W1 W2 h c => h.go c (by rw [HS3.out]; have := HXB.out; omega) (by rw [HS3.out]; omega) (by rw [HS3.out]; omega))
    (fun c pre F W1 W2 h k => h)
    HA.out ?_ ?_ ?_
  · have := HS3.out
    have := HXB.out
    rcases hg with rfl | hg
    · omega
    · have := hg.2; omega
  · have := HXB.out
    rcases f with f | f
    · omega
    · have := f.2; omega
  · intro l pre t F W hI hok hF hl hwl hlW
    have hpl : pre.length < r.t.length := by
      have := hok.length_le
      simp at this
      omega
    have hti : r.t[pre.length].2 = t := by
      obtain ⟨rest, hrest⟩ := hok
      have h5 : (r.t.map (·.2))[pre.length]? = some t := by rw [← hrest]; simp
      rw [List.getElem?_map, List.getElem?_eq_getElem hpl] at h5
      simpa using h5
    have HTI := Lib.hid hti
    obtain ⟨tp, tg, tt, ta, tn⟩ := t
    simp only [tbV]
    clear hti
    gi_wp2
    refine ⟨(Below.refl _ W).alloc (Nat.le_refl _) _, fun W4 hc2 hsz hI2 => ?_⟩
    have hX : W4.heap[W.heap.size]? = some (.cells #[.string tp, .int .u32 (tg : Nat), .int .u32 (tt : Nat), .int .u64 (ta : Nat), .int .u64 (tn : Nat)] 41) := (hc2.block _ (by simp) (by omega)).trans (Go.heap_alloc_new _ _)
    obtain ⟨tb, HTBB⟩ : ∃ k, Hid (W.heap.size = k) := ⟨_, Lib.hid rfl⟩
    rw [HTBB.out] at hX ⊢
    have c0 : W4.cell? ⟨tb, 0, none⟩ = some (.string tp) := cell_of hX rfl
    have c1 : W4.cell? ⟨tb, 1, none⟩ = some (.int .u32 (tg : Nat)) := cell_of hX rfl
    have c2 : W4.cell? ⟨tb, 2, none⟩ = some (.int .u32 (tt : Nat)) := cell_of hX rfl
    have c3 : W4.cell? ⟨tb, 3, none⟩ = some (.int .u64 (ta : Nat)) := cell_of hX rfl
    have c4 : W4.cell? ⟨tb, 4, none⟩ = some (.int .u64 (tn : Nat)) := cell_of hX rfl
    have i0 : W4.cell? ⟨xb + 2, 0, none⟩ = some (.int .i64 pre.length) := cell_of hI2.hib rfl
    have if0 : W4.frozen? ⟨xb + 2, 0, none⟩ = false := frozen_of hI2.hib
    have x0 : W4.cell? ⟨xb, 0, none⟩ = some (.pointer (some ⟨bx, 0, none⟩)) := cell_of hI2.hxb rfl
    have hr := HX.out _ hI2.chg
    have t0 : W4.cell? ⟨bx, 5, none⟩ = some Q.t := cell_of hr.box rfl
    obtain ⟨g, cap, hQ, hg, d0, d1, d2, d3, d4⟩ := hr.t_at hpl
    rw [HTI.out] at d1 d2 d3 d4
    have hpe : r.t[pre.length].1 = tp := by rw [← HTP.out _ (List.getElem_mem hpl), HTI.out]
    rw [hpe] at d0
    rw [hQ, HL.out] at t0
    simp only at d1 d2 d3 d4
    have p0 : (0 : Int) ≤ pre.length := by omega
    have p1 : (pre.length : Int) < L := by have := HL.out; omega
    have p2 : decide (L ≤ pre.length) = false := decide_eq_false (by have := HL.out; omega)
    have p3 : decide ((L : Int) ≤ pre.length) = false := decide_eq_false (by omega)
    have p4 : pre.length + 1 ≤ 900001 := by have := HRL.out; omega
    have FIN := Lib.hid (fun m => show fromF (fun pre F W => StAt w bx xb (xb + 1) (xb + 2) pre F W) (pre ++ [(⟨tp, tg, tt, ta, tn⟩ : Tb)]) F W4 ((W4.drewN m).setCell ⟨xb + 2, 0, none⟩ (.int .i64 ((pre.length : Int) + 1))) from
      ⟨F, Wider.refl _ _, fun g f => by
        have := (hI2.fp g).1 f
        have h6 := (Array.getElem?_eq_some_iff.1 hI2.hib).1
        simp [World.setCell]
        show g < W4.heap.size
        omega, ((Chg.drewN' W4 m).mono (fun _ f => f.elim)).setCell (a := ⟨xb + 2, 0, none⟩) (Or.inl ((hI2.fp _).2 rfl)) _,
       (hI2.chg.trans (Chg.drewN' W4 m)).setCell (a := ⟨xb + 2, 0, none⟩) (Or.inr (by have := HXB.out; show w.heap.size ≤ xb + 2; omega)) _,
       by rw [Mk.heap_setCell_same (show (W4.drewN m).heap[xb + 2]? = _ from hI2.hib)]; simp, (Below.heap_setCell (W4.drewN m) ⟨xb + 2, 0, none⟩ _ xb (by show xb ≠ xb + 2; omega)).trans hI2.hxb, (Below.heap_setCell (W4.drewN m) ⟨xb + 2, 0, none⟩ _ (xb + 1) (by show xb + 1 ≠ xb + 2; omega)).trans hI2.hrb, hI2.fp⟩)
    clear hI hok hF hl hwl hlW hc2 hsz hI2 hX hr hQ hg hpe
    gi_wp2
    refine wpIn_region_quiet_round (by kernel_rfl) (by kernel_rfl) (by rfl) ?_
    repeat (gi_big_quiet_step (fail))
    refine wpQuietIn_nil ?_
    intro _ hw'
    obtain ⟨nq, hw''⟩ := hw'
    subst hw''
    gi_wp2
    exact FIN.out nq
  · rintro D xs F W hD hFD rfl hI hK
    have hr := HX.out _ hI.chg
    have i0 : W.cell? ⟨xb + 2, 0, none⟩ = some (.int .i64 L) := by rw [cell_of hI.hib (i := 0) (v := .int .i64 (List.length (r.t.map (·.2)))) rfl, List.length_map, HL.out]
    have x0 : W.cell? ⟨xb, 0, none⟩ = some (.pointer (some ⟨bx, 0, none⟩)) := cell_of hI.hxb rfl
    have b0 : W.cell? ⟨xb + 1, 0, none⟩ = some (.bool false) := cell_of hI.hrb rfl
    have f0 : W.frozen? ⟨xb + 1, 0, none⟩ = false := frozen_of hI.hrb
    have t0 : W.cell? ⟨bx, 5, none⟩ = some Q.t := cell_of hr.box rfl
    obtain ⟨oo, cc, hQ⟩ := sl_shape hr.t
    rw [hQ, HL.out] at t0
    have q0 : ((L : Int) == (L : Int)) = true := by simp
    have hDr : D ≠ xb + 1 := fun e => by
      subst e
      have := hI.hrb.symm.trans hK
      cases this
    have HI := Lib.hid hI
    have HK := Lib.hid hK
    have HDR := Lib.hid hDr
    have HD := Lib.hid hD
    clear hr hQ hI hK hDr hD hFD
    go_wp2_with fail
    go_region
    go_wp2_with fail
    have g1 : ((W.setCell ⟨xb + 1, 0, none⟩ (.bool true)).drew).heap[D]? = some (.deferred (some [])) := (Below.heap_setCell W ⟨xb + 1, 0, none⟩ (.bool true) D HDR.out).trans HK.out
    have gr : ((W.setCell ⟨xb + 1, 0, none⟩ (.bool true)).drew).heap[xb + 1]? = some (.cells #[.bool true] 4) := by
      show (W.setCell ⟨xb + 1, 0, none⟩ (.bool true)).heap[xb + 1]? = _
      rw [Mk.heap_setCell_same HI.out.hrb]; rfl
    have hc : Chg (fun _ => False) w ((W.setCell ⟨xb + 1, 0, none⟩ (.bool true)).drew) := (HI.out.chg.setCell (a := ⟨xb + 1, 0, none⟩) (Or.inr (by have := HXB.out; show w.heap.size ≤ xb + 1; omega)) _).drew
    have er : ((W.setCell ⟨xb + 1, 0, none⟩ (.bool true)).drew.putObj D (.deferred none)).cell? ⟨xb + 1, 0, none⟩ = some (.bool true) := cell_of ((heap_setBlock_ne (w := (W.setCell ⟨xb + 1, 0, none⟩ (.bool true)).drew) (o := .deferred none) (Ne.symm HDR.out)).trans gr) (i := 0) rfl
    refine ⟨by simp, .inl ⟨_, _, rfl, run_takeDeferred g1, ?_⟩⟩
    refine ⟨.bool true, ?_, rfl, ?_⟩
    · simp [results, Tryz.f25, go_sem, er]
    · exact hc.setBlock (Or.inr (by have := HD.out; have := HS3.out; have := HXB.out; omega)) (.deferred none)
  · rintro D c pre F W hD hFD hok hI hK
    exact hI.elim
end Go.Proofs.YtgmmglmokkcgeaaGreat
