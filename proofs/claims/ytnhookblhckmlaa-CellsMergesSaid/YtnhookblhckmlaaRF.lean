/- A range over a function: what the caller's own blocks are is told. Holds of any program. -/
import Derived.Test.YtnhookblhckmlaaFoot
import Derived.RangeFuncNested
import Derived.RangeFuncBound
import Derived.RangeFuncCalls
import Derived.RangeFuncLeaves
import Derived.RangeFuncFrom
import Derived.OwnWalkIn
namespace Go.Proofs.Ytnhookblhckmlaa.Mk
open Go Go.RowKit

theorem chg_putObj {F : Nat → Prop} {w W : World} (h : Chg F w W) {r : Nat} (hr : F r ∨ w.heap.size ≤ r) (o : Obj) : Chg F w (W.putObj r o) :=
  ⟨h.os, h.tape, h.output, Nat.le_trans h.size (by simp), fun i hi hF => by
    have : i ≠ r := fun e => by subst e; rcases hr with a | a; exact hF a; omega
    rw [World.putObj_heap_other this]; exact h.block i hi hF⟩

/-- The next footprint: of what was in it, and of new blocks. -/
def Wider (F F' : Nat → Prop) (W : World) : Prop := ∀ g, F' g → F g ∨ W.heap.size ≤ g
theorem Wider.refl (F : Nat → Prop) (W : World) : Wider F F W := fun _ f => Or.inl f

/-- An iterator g lb: what it hands over (encs x), in what order (Ok: what may have come), what has come when it is at its end (S), which blocks it reads (R). The caller's own blocks, F, are told at each round; the iterator turns new blocks that are none of them, and no others. -/
def SeqF {α : Type} (P : Program) (g : Nat) (lb : Array Value) (encs : α → Array Value) (Ok S : List α → Prop) (R : Nat → Prop) (w : World) : Prop :=
  ∀ (l : Nat) (J Jx : List α → (Nat → Prop) → World → Prop) (W : World) (F0 : Nat → Prop), w.heap.size ≤ W.heap.size → (∀ g, R g → W.heap[g]? = w.heap[g]?) → (∀ g, F0 g → g < W.heap.size ∧ ¬ R g) →
    (∀ pre F W1 W2, J pre F W1 → Chg (fun g => W.heap.size ≤ g ∧ ¬ F g) W1 W2 → J pre F W2) →
    (∀ pre F W1 W2, Jx pre F W1 → Chg (fun g => W.heap.size ≤ g ∧ ¬ F g) W1 W2 → Jx pre F W2) →
    (∀ pre x F W1, J pre F W1 → Ok (pre ++ [x]) → YieldAt Fence.wide 1 P l (encs x) W1 fun e W' => ∃ F', Wider F F' W1 ∧ Chg F W1 W' ∧ (∀ g, F' g → g < W'.heap.size) ∧
      ((e = .returned (.bool true) ∧ J (pre ++ [x]) F' W') ∨ (e = .returned (.bool false) ∧ Jx (pre ++ [x]) F' W'))) →
    J [] F0 W →
    CallsIn Fence.wide 2 P g (#[.func (.yield l) #[] #[]] ++ lb) W fun e W' => (∃ v, e = .returned v) ∧ ((∃ xs F, S xs ∧ J xs F W') ∨ (∃ pre F, Ok pre ∧ Jx pre F W'))

/-- How the body of a round may be left. -/
def fromF {α : Type} (I : List α → (Nat → Prop) → World → Prop) (xs : List α) (F : Nat → Prop) (W W' : World) : Prop :=
  ∃ F', Wider F F' W ∧ (∀ g, F' g → g < W'.heap.size) ∧ Chg F W W' ∧ I xs F' W'
def postF {α : Type} (I : List α → (Nat → Prop) → World → Prop) (Ix : Code → List α → (Nat → Prop) → World → Prop) (xs : List α) (F : Nat → Prop) (W : World) : Exit → Act → World → Prop
  | .normal, _, W' => fromF I xs F W W'
  | .ret, _, W' => fromF (Ix .ret) xs F W W'
  | .exit id, _, W' => fromF (Ix (.exit id)) xs F W W'
  | .goto t, _, W' => fromF (Ix (.goto t)) xs F W W'
  | .panic _, _, _ => False
  | .outgrown, _, _ => False

theorem wp_rangeF {P : Program} {α : Type} {g : Operand} {ps : Array Tmp} {assign body : Code} {Q : Exit → Act → World → Prop} {a : Act} {w : World} {gf : Nat} {lb : Array Value}
    (hg : a.eval g = .func (.func gf) #[] lb) (eg : ∀ args w, (callFunc gf args).run P w = .ok (.enter gf args) w)
    {encs : α → Array Value} {Ok S : List α → Prop} {w0 : World} {R : Nat → Prop} (hseq : SeqF P gf lb encs Ok S R w0) (hb0 : w0.heap.size ≤ w.heap.size) (hR : ∀ g, R g → g < w0.heap.size ∧ w.heap[g]? = w0.heap[g]?) (hps : ∀ x, (encs x).size = ps.size)
    (I : List α → (Nat → Prop) → World → Prop) (Ix : Code → List α → (Nat → Prop) → World → Prop) (F0 : Nat → Prop) (hF0 : ∀ g, F0 g → g < w.heap.size ∧ ¬ R g)
    (hI : ∀ pre F W1 W2, I pre F W1 → Chg (fun g => w.heap.size ≤ g ∧ ¬ F g) W1 W2 → I pre F W2)
    (hIx : ∀ c pre F W1 W2, Ix c pre F W1 → Chg (fun g => w.heap.size ≤ g ∧ ¬ F g) W1 W2 → Ix c pre F W2)
    (h0 : I [] F0 w)
    (hround : ∀ (l : Nat) (pre : List α) (x : α) (F : Nat → Prop) (W : World), I pre F W → Ok (pre ++ [x]) → (∀ g, F g → g < W.heap.size) → ¬ F l → w.heap.size ≤ l → l < W.heap.size →
      assign.wpIn (Fence.wide.inRound l) 1 P (Exit.then (fun a₁ W1 => Below W.heap.size W W1 ∧ ∀ W2, Chg (fun g => g = l) W1 W2 → W2.heap.size = W1.heap.size → I pre F W2 →
        body.wpIn (Fence.wide.inRound l) 1 P (postF I Ix (pre ++ [x]) F W2) a₁ W2) (fun _ _ _ => False)) { tmps := (ps.zip (encs x)).foldl (fun t (p, v) => t.setIfInBounds p v) a.tmps, defers := [] } W)
    (hdone : ∀ (D : Nat) (xs : List α) (F : Nat → Prop) (W : World), w.heap.size ≤ D → ¬ F D → S xs → I xs F W → W.heap[D]? = some (.deferred (some [])) → Q .normal { a with defers := { target := .collected D, args := #[] } :: a.defers } W)
    (hstop : ∀ (D : Nat) (c : Code) (pre : List α) (F : Nat → Prop) (W : World), w.heap.size ≤ D → ¬ F D → Ok pre → Ix c pre F W → W.heap[D]? = some (.deferred (some [])) → c.wpIn Fence.wide 3 P Q { a with defers := { target := .collected D, args := #[] } :: a.defers } W) :
    (Code.rangeFunc g ps assign body).wpIn Fence.wide 3 P Q a w := by
  refine wpIn_rangeFunc ?_
  intro fn hfn
  show ∃ (l : Nat) (mark : List Deferred) (w₁ : World) (d : Deferred) (w₁' : World) (f : FuncId) (args : Array Value) (w₂ : World), (Instr.enterLoop fn a.tmps ps assign body none).run P w = .ok (l, mark) w₁ ∧ _
  obtain ⟨rec, hrec⟩ : ∃ rec : LoopState → Option Code → Loop, rec = fun st pe => { state := st, pending := pe, fn, tmps := a.tmps, params := ps, assign, body, defers := w.heap.size } := ⟨_, rfl⟩
  obtain ⟨W1, hW1⟩ : ∃ W1, (w.alloc (.deferred (some []))).alloc (.loop (rec .ready none)) = W1 := ⟨_, rfl⟩
  have hs1 : W1.heap.size = w.heap.size + 2 := by rw [← hW1]; simp
  have hL1 : W1.heap[w.heap.size + 1]? = some (.loop (rec .ready none)) := by
    rw [← hW1]; have := World.alloc_heap_new (w.alloc (.deferred (some []))) (.loop (rec .ready none)); rwa [World.size_alloc] at this
  have hK1 : W1.heap[w.heap.size]? = some (.deferred (some [])) := by
    rw [← hW1]; exact (Below.heap_alloc _ _ _ (by simp)).trans (World.alloc_heap_new w _)
  have hB1 : Below w.heap.size w W1 := by rw [← hW1]; exact ((Below.refl _ w).alloc (Nat.le_refl _) _).alloc (by simp) _
  have below_chg : ∀ {G : Nat → Prop} {A B : World}, Below A.heap.size A B → Chg G A B := fun h => ⟨h.os, h.tape, h.output, h.size, fun i hi _ => h.block i hi⟩
  have hI1 : I [] F0 W1 := hI _ _ _ _ h0 (below_chg hB1)
  refine ⟨w.heap.size + 1, [{ target := .collected w.heap.size, args := #[] }], W1, { target := .fn (.func gf) lb, args := #[.func (.yield (w.heap.size + 1)) #[] #[]] }, W1, gf,
    #[.func (.yield (w.heap.size + 1)) #[] #[]] ++ lb, W1, ?_, ?_, fun _ _ => trivial, ?_, (fun h => by cases h), ?_⟩
  · rw [← hW1, hrec]; exact run_enterLoop_outer _ _ _ _ _
  · simp only [resolve, hg]
    simp [go_sem]
  · simp [invoke, go_sem, eg]
  · refine (hseq (w.heap.size + 1)
      (fun pre FJ W => ∃ F, (∀ g, FJ g ↔ (F g ∨ g = w.heap.size ∨ g = w.heap.size + 1)) ∧ ¬ F w.heap.size ∧ ¬ F (w.heap.size + 1) ∧ (∀ g, F g → g < W.heap.size) ∧ I pre F W ∧ W.heap[w.heap.size + 1]? = some (.loop (rec .ready none)) ∧ W.heap[w.heap.size]? = some (.deferred (some [])))
      (fun pre FJ W => ∃ F c, (∀ g, FJ g ↔ (F g ∨ g = w.heap.size ∨ g = w.heap.size + 1)) ∧ ¬ F w.heap.size ∧ ¬ F (w.heap.size + 1) ∧ Ix c pre F W ∧ W.heap[w.heap.size + 1]? = some (.loop (rec .done (some c))) ∧ W.heap[w.heap.size]? = some (.deferred (some [])))
      W1 (fun g => F0 g ∨ g = w.heap.size ∨ g = w.heap.size + 1) (by omega) (fun g hg' => (hB1.block g (by have := hR g hg'; omega)).trans (hR g hg').2) ?_ ?_ ?_ ?_ ?_).mono ?_
    · intro g hg'
      rcases hg' with hg' | rfl | rfl
      · have := hF0 g hg'; exact ⟨by omega, this.2⟩
      · exact ⟨by omega, fun f => by have := hR _ f; omega⟩
      · exact ⟨by omega, fun f => by have := hR _ f; omega⟩
    · rintro pre FJ A B ⟨F, e1, e2, e3, e4, e5, e6, e7⟩ hc
      have hl := (Array.getElem?_eq_some_iff.1 e6).1
      refine ⟨F, e1, e2, e3, fun g hg' => Nat.lt_of_lt_of_le (e4 g hg') hc.size, hI _ _ _ _ e5 (hc.mono (fun g f => ⟨by omega, fun h => f.2 ((e1 g).2 (Or.inl h))⟩)), ?_, ?_⟩
      · rw [hc.block _ hl (fun f => f.2 ((e1 _).2 (Or.inr (Or.inr rfl))))]; exact e6
      · rw [hc.block _ (by omega) (fun f => f.2 ((e1 _).2 (Or.inr (Or.inl rfl))))]; exact e7
    · rintro pre FJ A B ⟨F, c, e1, e2, e3, e5, e6, e7⟩ hc
      have hl := (Array.getElem?_eq_some_iff.1 e6).1
      refine ⟨F, c, e1, e2, e3, hIx _ _ _ _ _ e5 (hc.mono (fun g f => ⟨by omega, fun h => f.2 ((e1 g).2 (Or.inl h))⟩)), ?_, ?_⟩
      · rw [hc.block _ hl (fun f => f.2 ((e1 _).2 (Or.inr (Or.inr rfl))))]; exact e6
      · rw [hc.block _ (by omega) (fun f => f.2 ((e1 _).2 (Or.inr (Or.inl rfl))))]; exact e7
    · rintro pre x FJ W ⟨F, e1, e2, e3, e4, e5, e6, e7⟩ hok
      have hl := (Array.getElem?_eq_some_iff.1 e6).1
      have hy := run_yield (P := P) (args := encs x) e6 (by rw [hrec]; exact hps x)
      rw [hrec] at hy
      refine ⟨fn, _, assign, body, hy, roundIn_of_wpIn trivial (wpIn_mono (hround (w.heap.size + 1) pre x F W e5 hok e4 e3 (by omega) hl) ?_)⟩
      intro ex a1 A1 hpost
      cases ex with
      | normal =>
        obtain ⟨hB, hgo⟩ := hpost
        have hlA : A1.heap[w.heap.size + 1]? = some (.loop (rec .ready none)) := (hB.block _ hl).trans e6
        have hDA : A1.heap[w.heap.size]? = some (.deferred (some [])) := (hB.block _ (by omega)).trans e7
        refine ⟨_, run_beginRound hlA (by rw [hrec]), ?_⟩
        have hlt := (Array.getElem?_eq_some_iff.1 hlA).1
        have hc2 : Chg (fun g => g = w.heap.size + 1) A1 (A1.putObj (w.heap.size + 1) (.loop { rec .ready none with state := .busy })) := chg_putObj (Chg.refl (fun g => g = w.heap.size + 1) A1) (Or.inl rfl) _
        have hI2 : I pre F (A1.putObj (w.heap.size + 1) (.loop { rec .ready none with state := .busy })) := by
          refine hI _ _ _ _ e5 (((below_chg (G := fun g => w.heap.size ≤ g ∧ ¬ F g) hB)).trans' hc2 (fun i e => ?_))
          subst e
          exact Or.inl ⟨by omega, e3⟩
        refine wpIn_mono (hgo _ hc2 (by simp) hI2) ?_
        have hl2 : (A1.putObj (w.heap.size + 1) (.loop { rec .ready none with state := .busy })).heap[w.heap.size + 1]? = some (.loop { rec .ready none with state := .busy }) := World.putObj_heap_same hlt
        have hD2 : (A1.putObj (w.heap.size + 1) (.loop { rec .ready none with state := .busy })).heap[w.heap.size]? = some (.deferred (some [])) := (World.putObj_heap_other (by omega)).trans hDA
        have fin : ∀ (jump : Option Code) (W3 : World) (K : List α → (Nat → Prop) → World → Prop) (hK : ∀ pre F W1 W2, K pre F W1 → Chg (fun g => w.heap.size ≤ g ∧ ¬ F g) W1 W2 → K pre F W2),
            fromF K (pre ++ [x]) F (A1.putObj (w.heap.size + 1) (.loop { rec .ready none with state := .busy })) W3 →
            ∃ F', Wider FJ (fun g => F' g ∨ g = w.heap.size ∨ g = w.heap.size + 1) W ∧ Chg FJ W (W3.putObj (w.heap.size + 1) (.loop (rec (if jump.isNone then .ready else .done) jump))) ∧
              (Instr.endRound (w.heap.size + 1) jump).run P W3 = .ok (.bool jump.isNone) (W3.putObj (w.heap.size + 1) (.loop (rec (if jump.isNone then .ready else .done) jump))) ∧
              ¬ F' w.heap.size ∧ ¬ F' (w.heap.size + 1) ∧ (∀ g, F' g → g < (W3.putObj (w.heap.size + 1) (.loop (rec (if jump.isNone then .ready else .done) jump))).heap.size) ∧ K (pre ++ [x]) F' (W3.putObj (w.heap.size + 1) (.loop (rec (if jump.isNone then .ready else .done) jump))) ∧
              (W3.putObj (w.heap.size + 1) (.loop (rec (if jump.isNone then .ready else .done) jump))).heap[w.heap.size + 1]? = some (.loop (rec (if jump.isNone then .ready else .done) jump)) ∧
              (W3.putObj (w.heap.size + 1) (.loop (rec (if jump.isNone then .ready else .done) jump))).heap[w.heap.size]? = some (.deferred (some [])) := by
          rintro jump W3 K hK ⟨F', hw, hlt3, hc3, hk3⟩
          have hsz2 : (A1.putObj (w.heap.size + 1) (.loop { rec .ready none with state := .busy })).heap.size = A1.heap.size := World.putObj_size
          have hl3 := (hc3.block _ (by omega) e3).trans hl2
          have hD3 := (hc3.block _ (by omega) e2).trans hD2
          have nl : ¬ F' (w.heap.size + 1) := fun f => by rcases hw _ f with f | f; exact e3 f; omega
          have nD : ¬ F' w.heap.size := fun f => by rcases hw _ f with f | f; exact e2 f; omega
          have hr := run_endRound (P := P) jump hl3
          have hWA := hB.size
          refine ⟨F', fun g f => ?_, ?_, ?_, nD, nl, fun g f => by rw [World.putObj_size]; exact hlt3 g f, hK _ _ _ _ hk3 (chg_putObj (Chg.refl _ _) (Or.inl ⟨by omega, nl⟩) _), World.putObj_heap_same (Array.getElem?_eq_some_iff.1 hl3).1, (World.putObj_heap_other (by omega)).trans hD3⟩
          · rcases f with f | f
            · rcases hw g f with f | f
              · exact Or.inl ((e1 g).2 (Or.inl f))
              · exact Or.inr (by omega)
            · exact Or.inl ((e1 g).2 (Or.inr f))
          · refine chg_putObj ((((below_chg (G := FJ) hB)).trans' hc2 (fun i e => ?_)).trans' hc3 (fun i f => Or.inl ((e1 i).2 (Or.inl f)))) (Or.inl ((e1 _).2 (Or.inr (Or.inr rfl)))) _
            subst e
            exact Or.inl ((e1 _).2 (Or.inr (Or.inr rfl)))
          · rw [hrec] at hr ⊢
            exact hr
        have big : ∀ {F' : Nat → Prop} {A : World} {o1 o2 : Obj}, (∀ g, F' g → g < A.heap.size) → A.heap[w.heap.size + 1]? = some o1 → A.heap[w.heap.size]? = some o2 → ∀ g, (F' g ∨ g = w.heap.size ∨ g = w.heap.size + 1) → g < A.heap.size := fun h6 h8 h9 g f => by
          have := (Array.getElem?_eq_some_iff.1 h8).1
          rcases f with f | f
          · exact h6 g f
          · omega
        rintro e a3 W3 hp
        cases e with
        | normal =>
          obtain ⟨F', h1, h2, h3, h4, h5, h6, h7, h8, h9⟩ := fin none W3 I hI hp
          exact ⟨_, _, h3, _, h1, h2, big h6 h8 h9, .inl ⟨rfl, F', fun g => Iff.rfl, h4, h5, h6, h7, h8, h9⟩⟩
        | ret =>
          obtain ⟨F', h1, h2, h3, h4, h5, h6, h7, h8, h9⟩ := fin (some .ret) W3 _ (hIx _) hp
          exact ⟨_, _, h3, _, h1, h2, big h6 h8 h9, .inr ⟨rfl, F', .ret, fun g => Iff.rfl, h4, h5, h7, h8, h9⟩⟩
        | exit id =>
          obtain ⟨F', h1, h2, h3, h4, h5, h6, h7, h8, h9⟩ := fin (some (.exit id)) W3 _ (hIx _) hp
          exact ⟨_, _, h3, _, h1, h2, big h6 h8 h9, .inr ⟨rfl, F', .exit id, fun g => Iff.rfl, h4, h5, h7, h8, h9⟩⟩
        | goto t =>
          obtain ⟨F', h1, h2, h3, h4, h5, h6, h7, h8, h9⟩ := fin (some (.goto t)) W3 _ (hIx _) hp
          exact ⟨_, _, h3, _, h1, h2, big h6 h8 h9, .inr ⟨rfl, F', .goto t, fun g => Iff.rfl, h4, h5, h7, h8, h9⟩⟩
        | panic ch => exact hp.elim
        | outgrown => exact hp.elim
      | exit id => exact hpost.elim
      | goto t => exact hpost.elim
      | ret => exact hpost.elim
      | panic chain => exact hpost.elim
      | outgrown => exact hpost.elim
    · refine ⟨F0, fun g => Iff.rfl, fun f => ?_, fun f => ?_, fun g f => ?_, hI1, hL1, hK1⟩
      · have := hF0 _ f; omega
      · have := hF0 _ f; omega
      · have := hF0 _ f; omega
    · rintro e W2 ⟨⟨v, rfl⟩, (⟨xs, FJ, hS, F, e1, e2, e3, e4, e5, e6, e7⟩ | ⟨pre, FJ, hSp, F, c, e1, e2, e3, e5, e6, e7⟩)⟩
      · have hr := run_endLoop (P := P) e6 (by rw [hrec]; simp)
        rw [hrec] at hr
        exact ⟨none, _, hr, hdone _ xs F _ (Nat.le_refl _) e2 hS (hI _ _ _ _ e5 (chg_putObj (Chg.refl _ _) (Or.inl ⟨by omega, e3⟩) _)) ((World.putObj_heap_other (by omega)).trans e7)⟩
      · have hr := run_endLoop (P := P) e6 (by rw [hrec]; simp)
        rw [hrec] at hr
        exact ⟨some c, _, hr, hstop _ c pre F _ (Nat.le_refl _) e2 hSp (hIx _ _ _ _ _ e5 (chg_putObj (Chg.refl _ _) (Or.inl ⟨by omega, e3⟩) _)) ((World.putObj_heap_other (by omega)).trans e7)⟩

/-- A round of a loop, asked for within another's. -/
theorem roundIn_widen {P : Program} {l0 : Nat} {f : FuncId} {tmps : Array Value} {assign body : Code} {w : World} {R : Ending → World → Prop} {m : Nat} (h : RoundIn Fence.wide m P l0 f tmps assign body w R) (l m' : Nat) : RoundIn (Fence.wide.inRound l) m' P l0 f tmps assign body w R :=
  ⟨h.1, fun c cs _ => h.2 c cs (fun d hd => by cases hd)⟩
/-- append onto a slice at the front of a row, within a fence. -/
theorem wpListIn_append_sl {F : Fence} {nn : Nat} {P : Program} {w : World} {ops : Array Oper} {rest : List Oper} {o : Oper} {a : Act} {Q : Exit → Act → World → Prop} (hgd : o.guard = none) (s x : Operand) (t : TypeId)
    (ho : o.op = .call { callee := .builtin .append, args := #[s, x], argTypes := #[t, t] })
    (e : TypeId) (i : TypeInfo) (z : Value) (size bytes : Nat) (ht : P.underlying t = some (.slice e)) (hi : P.info? e = some i) (hz : i.zero = some z)
    (hsize : i.size = size) (hby : i.bytes = bytes) (hzs : z.cells.size = size) (hsz : 0 < size)
    (v : Value) (n : Nat) (xs : List Value) (hs : a.eval s = v) (hown : sl w e size v n xs)
    (ad : Option Addr) (m c : Nat) (news : List Value) (hx : a.eval x = .slice ad m c) (hl : news.length = m * size) (hnews : 0 < m → ∃ a, ad = some a ∧ ∀ j u, news[j]? = some u → w.cell? (a.add j) = some u) (hx0 : m = 0 → ad = none → c = 0)
    (h1 : ∀ u ∈ news, u.oneCell' = true) (h63 : n + m ≤ maxLen) (hbytes : (n + m) * bytes ≤ 140737488355328)
    (h : ∀ v' w', sl w' e size v' (n + m) (xs ++ news) → w.grownBy w' v.ownBlock → (v'.ownBlock = v.ownBlock ∨ v'.ownBlock = some w.heap.size) → wpListIn F nn P ops Q rest (a.put o.dst v') w') :
    wpListIn F nn P ops Q (o :: rest) a w := by
  refine wpListIn_plain hgd fun K hK' => ?_
  obtain ⟨v', w', hrun, r1, r2, r3⟩ := run_append_sl (P := P) w t o.type e i z size bytes ht hi hz hsize hby hzs hsz v n xs hown ad m c news hl hnews hx0 h1 h63 hbytes
  unfold Oper.wpIn
  refine ⟨?_, ?_⟩
  · simp [Oper.about, ho, resolve, Target.leads, Sem.run_pure]
  · rw [Oper.semAt_plain F _ _ (by rw [ho]; intro c hc'; cases hc')]
    simp [execOp, ho, resolve, invoke, builtin, hs, hx, hrun, Result.andThen]
    exact hK' _ _ (h v' w' r1 r2 r3)
end Go.Proofs.Ytnhookblhckmlaa.Mk
