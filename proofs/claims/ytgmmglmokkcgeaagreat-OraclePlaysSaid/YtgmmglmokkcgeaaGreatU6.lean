/- What OraclePlays keeps: both oracles side by side. -/
import Derived.Test.YtgmmglmokkcgeaaGreatU2
import Derived.Test.YtgmmglmokkcgeaaGreatT5
import Derived.Test.YtgmmglmokkcgeaaGreatS8
import Derived.Test.YtgmmglmokkcgeaaGreatS4
import Derived.Test.YtgmmglmokkcgeaaGreatS1
import Derived.Test.YtgmmglmokkcgeaaGreatRf
import Derived.Test.YtgmmglmokkcgeaaGreatE4
import Derived.Test.YtgmmglmokkcgeaaGreatB6
import Derived.Test.YtgmmglmokkcgeaaGreatAe
import Derived.Orders
import Derived.Deep.CutRange
namespace Go.Proofs.YtgmmglmokkcgeaaGreat
set_option linter.unusedVariables false
set_option linter.unusedSimpArgs false
set_option linter.unusedSectionVars false
open Go.RowKit Mk Go.Sort

/-- Both oracles, in blocks of their own. -/
structure Pair (w : World) (bs bx : Nat) (F G : Nat → Prop) (n : OM) (r : RM) : Prop where
  s : OrIs w bs F n
  x : ∃ Q, RRep w bx Q G r
  fl : ∀ g, F g → g < w.heap.size
  gl : ∀ g, G g → g < w.heap.size
  sep : ∀ g, F g → ¬ G g
theorem Pair.stay {w w' : World} {bs bx : Nat} {F G : Nat → Prop} {n : OM} {r : RM} (h : Pair w bs bx F G n r) {K : Nat → Prop} (c : Chg K w w') (hd : ∀ g, F g ∨ G g → ¬ K g) : Pair w' bs bx F G n r := by
  obtain ⟨Q, hQ⟩ := h.x
  exact ⟨h.s.stay c (fun i hi => hd i (Or.inl hi)), ⟨Q, hQ.stay c (fun i hi => hd i (Or.inr hi))⟩, fun g f => Nat.lt_of_lt_of_le (h.fl g f) c.size, fun g f => Nat.lt_of_lt_of_le (h.gl g f) c.size, h.sep⟩
theorem Pair.same {w w' : World} {bs bx : Nat} {F G : Nat → Prop} {n : OM} {r : RM} (h : Pair w bs bx F G n r) (c : Chg (fun _ => False) w w') : Pair w' bs bx F G n r := h.stay c (fun _ _ f => f)
/-- Behind some rounds. -/
structure PlAt (w W : World) (bs bx i : Nat) (n : OM) (r : RM) (F G : Nat → Prop) : Prop where
  p : Pair W bs bx F G n r
  chg : Chg (fun _ => False) w W
  fn : ∀ g, F g → w.heap.size ≤ g
  gn : ∀ g, G g → w.heap.size ≤ g
  al : Alike n r
  fit : Fit r (4096 * i)
  lim : Lim n (4096 * i)
theorem PlAt.same {w W W' : World} {bs bx i : Nat} {n : OM} {r : RM} {F G : Nat → Prop} (h : PlAt w W bs bx i n r F G) (c : Chg (fun _ => False) W W') : PlAt w W' bs bx i n r F G :=
  ⟨h.p.same c, h.chg.trans c, h.fn, h.gn, h.al, h.fit, h.lim⟩
theorem rnew_rep (w : World) : RRep (w.alloc (.cells #[.int .u64 0, .int .u64 0, .int .u64 0, .slice none 0 0, .slice none 0 0, .slice none 0 0, .slice none 0 0] 69)) w.heap.size ⟨.slice none 0 0, .slice none 0 0, .slice none 0 0, .slice none 0 0, []⟩ (fun g => g = w.heap.size) .new :=
  ⟨Go.heap_alloc_new _ _, sl_nil _ _ _, sl_nil _ _ _, sl_nil _ _ _, sl_nil _ _ _, rfl, by simp, rfl, by simp [Value.ownBlock], by simp [Value.ownBlock], by simp [Value.ownBlock], by simp [Value.ownBlock], by simp⟩
/-- While the copied keys are spoilt. -/
structure SpAt (ko : Option Addr) (kc K : Nat) (W wr : World) : Prop where
  chg : Chg (fun g => (Value.slice ko K kc).ownBlock = some g) W wr
  row : ∀ g, (Value.slice ko K kc).ownBlock = some g → ∃ cur, wr.heap[g]? = some (.cells cur 9) ∧ K ≤ cur.size
theorem SpAt.put {ko : Option Addr} {kc K : Nat} {W wr : World} (h : SpAt ko kc K W wr) {g i : Nat} (hg : (Value.slice ko K kc).ownBlock = some g) {cur : Array Value} (hk : wr.heap[g]? = some (.cells cur 9)) (v : Value) : SpAt ko kc K W (wr.setCell ⟨g, i, none⟩ v) := by
  obtain ⟨cur2, hk2, hs⟩ := h.row g hg
  rw [hk] at hk2
  cases hk2
  refine ⟨h.chg.setCell (a := ⟨g, i, none⟩) (Or.inl hg) v, fun g' hg' => ?_⟩
  have e : g' = g := by rw [hg] at hg'; exact (Option.some.inj hg').symm
  subst e
  exact ⟨_, Mk.heap_setCell_same hk v, by simpa using hs⟩
theorem opAt_copied {u w : World} {op : OpM} {ol l' : OpL} (h : OpAt u op ol) (hk : NL w (.slice l'.ko op.keys.length l'.kc) op.keys) (hn : NdL w (.slice l'.no op.needs.length l'.nc) op.needs) : OpAt w op l' :=
  ⟨hk.strsAt h.keys.len, hn.needsAt h.needs.len h.needs.lim h.needs.sz, h.k, h.n, h.st, h.g, h.to, h.at_⟩
end Go.Proofs.YtgmmglmokkcgeaaGreat
/- What holds while both oracles apply one command, in whatever order. -/
namespace Go.Proofs.YtgmmglmokkcgeaaGreat
set_option linter.unusedVariables false
set_option linter.unusedSimpArgs false
set_option linter.unusedSectionVars false
open Go.RowKit Mk Go.Sort

/-- How many have not come up. -/
def unl (listed : Array Bool) : Nat := listed.toList.countP (fun b => !b)
theorem unl_set {listed : Array Bool} {i : Nat} (h : listed.getD i true = false) : unl (listed.setIfInBounds i true) + 1 = unl listed := by
  have hi : i < listed.size := by
    rcases Nat.lt_or_ge i listed.size with h' | h'
    · exact h'
    · simp [Array.getD, Nat.not_lt.2 h'] at h
  have hv : listed[i] = false := by simpa [Array.getD, hi] using h
  unfold unl
  rw [Array.toList_setIfInBounds]
  have key : ∀ (l : List Bool) (i : Nat) (h : i < l.length), l[i] = false → (l.set i true).countP (fun b => !b) + 1 = l.countP (fun b => !b) := by
    intro l
    induction l with
    | nil => intro i h; simp at h
    | cons b l ih =>
      intro i h hb
      cases i with
      | zero => simp at hb; subst hb; simp [List.countP_cons]
      | succ i =>
        simp only [List.set_cons_succ, List.countP_cons]
        have := ih i (by simpa using h) (by simpa using hb)
        omega
  exact key listed.toList i (by simpa using hi) (by simpa using hv)
theorem unl_zero {listed : Array Bool} (h : unl listed = 0) (i : Nat) : listed.getD i true = true := by
  unfold unl at h
  rw [List.countP_eq_zero] at h
  rcases Nat.lt_or_ge i listed.size with h' | h'
  · have := h listed[i] (by simp)
    simpa [Array.getD, h'] using this
  · simp [Array.getD, Nat.not_lt.2 h']
section
variable {P : Program} {ops : Array Oper} {Q : Exit → Act → World → Prop} {md : Region.Mode}
/-- A region in whatever order, by what holds of each state that is reached. -/
theorem wpAny_inv {I : Array Bool → Act → World → Prop}
    (hs : ∀ listed a w, I listed a w → ∀ i, i < ops.size → listed.getD i true = false → (∀ o, ops[i]? = some o → ∀ e ∈ o.after, Region.binds md e = true → listed.getD e.on false = true) → wpOp P ops Q i (I (listed.setIfInBounds i true)) a w)
    (hd : ∀ listed a w, I listed a w → (∀ i, i < ops.size → listed.getD i true = true) → Q .normal a w)
    (ht : ∀ (i : Nat) (o : Oper), ops[i]? = some o → ∀ e ∈ o.after, e.on < i) (hz : ∀ listed a w, I listed a w → listed.size = ops.size) :
    ∀ fuel listed a w, I listed a w → unl listed ≤ fuel → wpAny P md ops Q fuel listed a w := by
  have hall : ∀ listed a w, I listed a w → Region.ready md ops listed = [] → ∀ i, i < ops.size → listed.getD i true = true := by
    intro listed a w hI h0 i
    induction i using Nat.strongRecOn with
    | ind i ih =>
      intro hi
      cases hc : listed.getD i true with
      | true => rfl
      | false =>
        exfalso
        have hm : i ∈ Region.ready md ops listed := by
          rw [mem_ready]
          refine ⟨hc, ops[i], Array.getElem?_eq_getElem hi, fun e he _ => ?_⟩
          have hlt := ht i ops[i] (Array.getElem?_eq_getElem hi) e he
          have h1 := ih e.on hlt (by omega)
          have hsz := hz listed a w hI
          have h2 : e.on < listed.size := by omega
          simp only [Array.getD, h2, dif_pos] at h1 ⊢
          exact h1
        rw [h0] at hm
        cases hm
  intro fuel
  induction fuel with
  | zero =>
    intro listed a w hI hu
    have hf : ∀ i, listed.getD i true = true := unl_zero (by omega)
    refine ⟨?_, hd listed a w hI (fun i _ => hf i)⟩
    cases hr : Region.ready md ops listed with
    | nil => rfl
    | cons i l =>
      have hm : i ∈ Region.ready md ops listed := by rw [hr]; simp
      have := (mem_ready.1 hm).1
      rw [hf i] at this
      cases this
  | succ fuel ih =>
    intro listed a w hI hu
    refine ⟨fun h0 => hd listed a w hI (hall listed a w hI h0), fun i hi => ?_⟩
    obtain ⟨hc, o, ho, hdep⟩ := mem_ready.1 hi
    exact wpOp_mono (fun a' w' h => ih _ a' w' h (by have := unl_set hc; omega)) (hs listed a w hI i (Array.getElem?_eq_some_iff.1 ho).1 hc (fun o' ho' => by rw [ho] at ho'; cases ho'; exact hdep))
theorem wpOp_of {i : Nat} {o : Oper} {a : Act} {w w' : World} {K : Act → World → Prop} {v : Value} (ho : ops[i]? = some o) (hw : Region.wanted o (yielded ops a.tmps) = true) (hrun : (execOp a.eval o).run P w = .ok (.value v) w') (hK : K (a.put o.dst v) w') : wpOp P ops Q i K a w := by
  unfold wpOp
  rw [ho]
  simp only [hw, if_true]
  refine Or.inl ?_
  unfold Oper.wp
  rw [hrun]
  exact hK
theorem wpOp_skip {i : Nat} {o : Oper} {a : Act} {w w' : World} {K : Act → World → Prop} (ho : ops[i]? = some o) (hw : Region.wanted o (yielded ops a.tmps) = true) (hrun : (execOp a.eval o).run P w = .ok .skip w') (hK : K (a.put o.dst undef) w') : wpOp P ops Q i K a w := by
  unfold wpOp
  rw [ho]
  simp only [hw, if_true]
  refine Or.inl ?_
  unfold Oper.wp
  rw [hrun]
  exact hK
theorem wpOp_wp {i : Nat} {o : Oper} {a : Act} {w : World} {K : Act → World → Prop} (ho : ops[i]? = some o) (hw : Region.wanted o (yielded ops a.tmps) = true) (h : o.wp P a w K Q) : wpOp P ops Q i K a w := by
  unfold wpOp
  rw [ho]
  simp only [hw, if_true]
  exact Or.inl h
end
theorem region_gen {P : Program} {ops : Array Oper} {Q : Exit → Act → World → Prop} {id : Nat} {a : Act} {w : World} (hm : P.follows .mixedOrders = true) (h : ∀ ops', ops = ops' → wpAny P .any ops' Q ops'.size (Array.replicate ops'.size false) a w.drew) : (Code.region id ops true).wp P Q a w := wp_region_any hm (h ops rfl)
def topo (ops : Array Oper) : Bool := (List.range ops.size).all fun i => ((ops[i]?).map fun o => o.after.all fun e => decide (e.on < i)).getD true
theorem topo_spec {ops : Array Oper} (h : topo ops = true) : ∀ (i : Nat) (o : Oper), ops[i]? = some o → ∀ e ∈ o.after, e.on < i := by
  intro i o ho e he
  unfold topo at h
  rw [List.all_eq_true] at h
  have := h i (by simp [(Array.getElem?_eq_some_iff.1 ho).1])
  rw [ho] at this
  simp only [Option.map_some, Option.getD_some] at this
  rw [Array.all_eq_true_iff_forall_mem] at this
  simpa using this e he
theorem rep_false (N k : Nat) : (Array.replicate N false).getD k false = false := by
  rw [Array.getD_eq_getD_getElem?]
  by_cases h : k < N
  · simp [h]
  · simp [h]
theorem gl (listed : Array Bool) {i : Nat} (hi : i < listed.size) (k : Nat) (b : Bool) : (listed.setIfInBounds i true).getD k b = if k = i then true else listed.getD k b := by
  by_cases e : k = i
  · subst e; simp [Array.getD, hi]
  · rw [if_neg e]
    rw [Array.getD_eq_getD_getElem?, Array.getD_eq_getD_getElem?, Array.getElem?_setIfInBounds_ne (Ne.symm e)]
theorem gs (t : Array Value) {d : Nat} (hd : d < t.size) (v : Value) (k : Nat) : (t.setIfInBounds d v).getD k undef = if k = d then v else t.getD k undef := by
  by_cases e : k = d
  · subst e; simp [Array.getD, hd]
  · rw [if_neg e]
    rw [Array.getD_eq_getD_getElem?, Array.getD_eq_getD_getElem?, Array.getElem?_setIfInBounds_ne (Ne.symm e)]
theorem bool_of {listed : Array Bool} {i : Nat} (hs : i < listed.size) (h : listed.getD i true = false) : listed.getD i false = false := by
  simp only [Array.getD, hs, dif_pos] at h ⊢
  exact h

abbrev anZ : Array Value := #[.int .i64 0, .int .u64 0, .int .u64 0, .string ⟨#[]⟩, .int .u32 0, .int .u32 0, .int .u64 0, .int .u64 0]
/-- What the region works on. -/
structure RE where
  W : World
  bs : Nat
  bx : Nat
  F : Nat → Prop
  G : Nat → Prop
  n : OM
  r : RM
  n1 : OM
  r1 : RM
  A : AnM
  t0 : Array Value
  V : Nat → Value
structure RS (E : RE) (c1 c2 a1 a2 s1 s2 : Bool) (p1 p2 : Value) (w : World) : Prop where
  st : ∃ F1 G1, Pair w E.bs E.bx F1 G1 (if c1 then E.n1 else E.n) (if c2 then E.r1 else E.r) ∧ (∀ g, F1 g → E.F g ∨ E.W.heap.size ≤ g) ∧ (∀ g, G1 g → E.G g ∨ E.W.heap.size ≤ g) ∧
    (a1 = true → ∃ b1, p1 = .pointer (some ⟨b1, 0, none⟩) ∧ E.W.heap.size ≤ b1 ∧ ¬ F1 b1 ∧ ¬ G1 b1 ∧ w.heap[b1]? = some (.cells (if s1 then anC E.A else anZ) 46)) ∧
    (a2 = true → ∃ b2, p2 = .pointer (some ⟨b2, 0, none⟩) ∧ E.W.heap.size ≤ b2 ∧ ¬ F1 b2 ∧ ¬ G1 b2 ∧ w.heap[b2]? = some (.cells (if s2 then anC E.A else anZ) 46))
  ne : a1 = true → a2 = true → p1 ≠ p2
  chg : Chg (fun g => E.F g ∨ E.G g) E.W w
section
variable {E : RE} {c1 c2 a1 a2 s1 s2 : Bool} {p1 p2 : Value} {w w' : World}
theorem RS.drew (h : RS E c1 c2 a1 a2 s1 s2 p1 p2 w) : RS E c1 c2 a1 a2 s1 s2 p1 p2 w.drew := by
  obtain ⟨F1, G1, h1, h2, h3, h4, h5⟩ := h.st
  exact ⟨⟨F1, G1, h1.same (Chg.refl _ _).drew, h2, h3, h4, h5⟩, h.ne, h.chg.drew⟩
theorem RS.al1 (h : RS E c1 c2 false a2 false s2 p1 p2 w) : RS E c1 c2 true a2 false s2 (.pointer (some ⟨w.heap.size, 0, none⟩)) p2 (w.alloc (.cells anZ 46)) := by
  obtain ⟨F1, G1, h1, h2, h3, h4, h5⟩ := h.st
  have hc : Chg (fun _ => False) w (w.alloc (.cells anZ 46)) := (Chg.refl _ _).alloc _
  refine ⟨⟨F1, G1, h1.same hc, h2, h3, fun _ => ⟨_, rfl, h.chg.size, fun f => by have := h1.fl _ f; omega, fun f => by have := h1.gl _ f; omega, Go.heap_alloc_new _ _⟩, fun e => ?_⟩, fun _ e => ?_, h.chg.alloc _⟩
  · obtain ⟨b2, q1, q2, q3, q4, q5⟩ := h5 e
    exact ⟨b2, q1, q2, q3, q4, (hc.block _ (Array.getElem?_eq_some_iff.1 q5).1 (fun f => f)).trans q5⟩
  · obtain ⟨b2, q1, q2, q3, q4, q5⟩ := h5 e
    have := (Array.getElem?_eq_some_iff.1 q5).1
    rw [q1]
    intro e2
    simp only [Value.pointer.injEq, Option.some.injEq, Addr.mk.injEq] at e2
    omega
theorem RS.al2 (h : RS E c1 c2 a1 false s1 false p1 p2 w) : RS E c1 c2 a1 true s1 false p1 (.pointer (some ⟨w.heap.size, 0, none⟩)) (w.alloc (.cells anZ 46)) := by
  obtain ⟨F1, G1, h1, h2, h3, h4, h5⟩ := h.st
  have hc : Chg (fun _ => False) w (w.alloc (.cells anZ 46)) := (Chg.refl _ _).alloc _
  refine ⟨⟨F1, G1, h1.same hc, h2, h3, fun e => ?_, fun _ => ⟨_, rfl, h.chg.size, fun f => by have := h1.fl _ f; omega, fun f => by have := h1.gl _ f; omega, Go.heap_alloc_new _ _⟩⟩, fun e _ => ?_, h.chg.alloc _⟩
  · obtain ⟨b2, q1, q2, q3, q4, q5⟩ := h4 e
    exact ⟨b2, q1, q2, q3, q4, (hc.block _ (Array.getElem?_eq_some_iff.1 q5).1 (fun f => f)).trans q5⟩
  · obtain ⟨b2, q1, q2, q3, q4, q5⟩ := h4 e
    have := (Array.getElem?_eq_some_iff.1 q5).1
    rw [q1]
    intro e2
    simp only [Value.pointer.injEq, Option.some.injEq, Addr.mk.injEq] at e2
    omega
theorem RS.call1 (h : RS E false c2 a1 a2 s1 s2 p1 p2 w) {args : Array Value}
    (hC : ∀ (F1 : Nat → Prop) (R : Loc), OrRep w E.bs R F1 E.n → (∀ g, F1 g → g < w.heap.size) → (∀ g, F1 g → E.F g ∨ E.W.heap.size ≤ g) → Calls Tryz.prog 9 args w fun e w' => e = .returned (anV E.A) ∧ To w E.bs F1 E.n1 w') :
    Calls Tryz.prog 9 args w fun e w' => e = .returned (anV E.A) ∧ RS E true c2 a1 a2 s1 s2 p1 p2 w' := by
  obtain ⟨F1, G1, h1, h2, h3, h4, h5⟩ := h.st
  obtain ⟨R, hR⟩ := h1.s
  refine (hC F1 R hR h1.fl h2).mono ?_
  rintro e w' ⟨rfl, hT⟩
  obtain ⟨Q, hQ⟩ := h1.x
  refine ⟨rfl, ⟨fun g => (F1 g ∨ w.heap.size ≤ g) ∧ g < w'.heap.size, G1, ⟨hT.is.tight, ⟨Q, hQ.stay hT.chg (fun i hi f => h1.sep i f hi)⟩, fun g f => f.2, fun g f => Nat.lt_of_lt_of_le (h1.gl g f) hT.chg.size, fun g f f2 => ?_⟩, fun g f => ?_, h3, fun e => ?_, fun e => ?_⟩, h.ne, ?_⟩
  · rcases f.1 with f | f
    · exact h1.sep g f f2
    · have := h1.gl g f2; omega
  · rcases f.1 with f | f
    · exact h2 g f
    · exact Or.inr (Nat.le_trans h.chg.size f)
  · obtain ⟨b1, q1, q2, q3, q4, q5⟩ := h4 e
    have hl := (Array.getElem?_eq_some_iff.1 q5).1
    exact ⟨b1, q1, q2, fun f => by rcases f.1 with f | f; exact q3 f; omega, q4, (hT.chg.block _ hl q3).trans q5⟩
  · obtain ⟨b1, q1, q2, q3, q4, q5⟩ := h5 e
    have hl := (Array.getElem?_eq_some_iff.1 q5).1
    exact ⟨b1, q1, q2, fun f => by rcases f.1 with f | f; exact q3 f; omega, q4, (hT.chg.block _ hl q3).trans q5⟩
  · exact h.chg.trans' hT.chg (fun i hi => by rcases h2 i hi with f | f; exact Or.inl (Or.inl f); exact Or.inr f)
theorem RS.call2 (h : RS E c1 false a1 a2 s1 s2 p1 p2 w) {args : Array Value}
    (hC : ∀ (G1 : Nat → Prop) (Q : RV), RRep w E.bx Q G1 E.r → (∀ g, G1 g → g < w.heap.size) → (∀ g, G1 g → E.G g ∨ E.W.heap.size ≤ g) → Calls Tryz.prog 23 args w fun e w' => e = .returned (anV E.A) ∧ RTo w E.bx G1 E.r1 w') :
    Calls Tryz.prog 23 args w fun e w' => e = .returned (anV E.A) ∧ RS E c1 true a1 a2 s1 s2 p1 p2 w' := by
  obtain ⟨F1, G1, h1, h2, h3, h4, h5⟩ := h.st
  obtain ⟨Q, hQ⟩ := h1.x
  refine (hC G1 Q hQ h1.gl h3).mono ?_
  rintro e w' ⟨rfl, hT⟩
  obtain ⟨Q1, hQ1⟩ := hT.is
  refine ⟨rfl, ⟨F1, fun g => (G1 g ∨ w.heap.size ≤ g) ∧ g < w'.heap.size, ⟨h1.s.stay hT.chg (fun i hi f => h1.sep i hi f), ⟨Q1, hQ1.tight⟩, fun g f => Nat.lt_of_lt_of_le (h1.fl g f) hT.chg.size, fun g f => f.2, fun g f f2 => ?_⟩, h2, fun g f => ?_, fun e => ?_, fun e => ?_⟩, h.ne, ?_⟩
  · rcases f2.1 with f2 | f2
    · exact h1.sep g f f2
    · have := h1.fl g f; omega
  · rcases f.1 with f | f
    · exact h3 g f
    · exact Or.inr (Nat.le_trans h.chg.size f)
  · obtain ⟨b1, q1, q2, q3, q4, q5⟩ := h4 e
    have hl := (Array.getElem?_eq_some_iff.1 q5).1
    exact ⟨b1, q1, q2, q3, fun f => by rcases f.1 with f | f; exact q4 f; omega, (hT.chg.block _ hl q4).trans q5⟩
  · obtain ⟨b1, q1, q2, q3, q4, q5⟩ := h5 e
    have hl := (Array.getElem?_eq_some_iff.1 q5).1
    exact ⟨b1, q1, q2, q3, fun f => by rcases f.1 with f | f; exact q4 f; omega, (hT.chg.block _ hl q4).trans q5⟩
  · exact h.chg.trans' hT.chg (fun i hi => by rcases h3 i hi with f | f; exact Or.inl (Or.inr f); exact Or.inr f)
theorem RS.sto1 (h : RS E c1 c2 true a2 false s2 p1 p2 w) {b1 : Nat} (hp : p1 = .pointer (some ⟨b1, 0, none⟩)) (hw : w'.heap[b1]? = some (.cells (anC E.A) 46)) (hc : Chg (fun g => g = b1) w w') : RS E c1 c2 true a2 true s2 p1 p2 w' := by
  obtain ⟨F1, G1, h1, h2, h3, h4, h5⟩ := h.st
  obtain ⟨b, q1, q2, q3, q4, q5⟩ := h4 rfl
  have e0 : b = b1 := by rw [hp] at q1; simpa using q1.symm
  subst e0
  refine ⟨⟨F1, G1, h1.stay hc (fun g hg e => by subst e; rcases hg with f | f; exact q3 f; exact q4 f), h2, h3, fun _ => ⟨b, hp, q2, q3, q4, hw⟩, fun e => ?_⟩, h.ne, h.chg.trans' hc (fun i e => by subst e; exact Or.inr q2)⟩
  obtain ⟨b2, r1, r2, r3, r4, r5⟩ := h5 e
  exact ⟨b2, r1, r2, r3, r4, (hc.block _ (Array.getElem?_eq_some_iff.1 r5).1 (fun e2 => h.ne rfl e (by rw [hp, r1, e2]))).trans r5⟩
theorem RS.sto2 (h : RS E c1 c2 a1 true s1 false p1 p2 w) {b2 : Nat} (hp : p2 = .pointer (some ⟨b2, 0, none⟩)) (hw : w'.heap[b2]? = some (.cells (anC E.A) 46)) (hc : Chg (fun g => g = b2) w w') : RS E c1 c2 a1 true s1 true p1 p2 w' := by
  obtain ⟨F1, G1, h1, h2, h3, h4, h5⟩ := h.st
  obtain ⟨b, q1, q2, q3, q4, q5⟩ := h5 rfl
  have e0 : b = b2 := by rw [hp] at q1; simpa using q1.symm
  subst e0
  refine ⟨⟨F1, G1, h1.stay hc (fun g hg e => by subst e; rcases hg with f | f; exact q3 f; exact q4 f), h2, h3, fun e => ?_, fun _ => ⟨b, hp, q2, q3, q4, hw⟩⟩, h.ne, h.chg.trans' hc (fun i e => by subst e; exact Or.inr q2)⟩
  obtain ⟨b1, r1, r2, r3, r4, r5⟩ := h4 e
  exact ⟨b1, r1, r2, r3, r4, (hc.block _ (Array.getElem?_eq_some_iff.1 r5).1 (fun e2 => h.ne e rfl (by rw [hp, r1, e2]))).trans r5⟩
end

/-- What holds in each state of the region. -/
structure RI (E : RE) (listed : Array Bool) (a : Act) (w : World) : Prop where
  size : listed.size = 13
  dfr : a.defers = []
  tsz : a.tmps.size = 123
  keep : ∀ k, k ≠ 8 → k ≠ 9 → (k < 35 ∨ 43 < k) → a.tmps.getD k undef = E.t0.getD k undef
  val : ∀ k, k < 9 → listed.getD k false = true → a.tmps.getD (35 + k) undef = E.V k
  o1 : listed.getD 11 false = true → listed.getD 9 false = true
  o2 : listed.getD 12 false = true → listed.getD 10 false = true
  st : RS E (listed.getD 2 false) (listed.getD 8 false) (listed.getD 9 false) (listed.getD 10 false) (listed.getD 11 false) (listed.getD 12 false) (a.tmps.getD 8 undef) (a.tmps.getD 9 undef) w
section
variable {E : RE} {listed : Array Bool} {a : Act} {w w' : World}
theorem putG (a : Act) {d : Nat} (hd : d < a.tmps.size) (v : Value) (k : Nat) : (a.put (some d) v).tmps.getD k undef = if k = d then v else a.tmps.getD k undef := gs a.tmps hd v k
/-- A value is laid into its slot; the world is one that its own state allows. -/
theorem RI.put (h : RI E listed a w) {i : Nat} (hi : i < 9) (hun : listed.getD i true = false) (hst : RS E ((listed.setIfInBounds i true).getD 2 false) ((listed.setIfInBounds i true).getD 8 false) (listed.getD 9 false) (listed.getD 10 false) (listed.getD 11 false) (listed.getD 12 false) (a.tmps.getD 8 undef) (a.tmps.getD 9 undef) w') :
    RI E (listed.setIfInBounds i true) (a.put (some (35 + i)) (E.V i)) w' := by
  have hil : i < listed.size := by rw [h.size]; omega
  have hsl : 35 + i < a.tmps.size := by rw [h.tsz]; omega
  refine ⟨by rw [Array.size_setIfInBounds]; exact h.size, by simpa [Act.put] using h.dfr, by simpa [Act.put] using h.tsz, fun k h8 h9 hk => ?_, fun k hk hl => ?_, fun e => ?_, fun e => ?_, ?_⟩
  · rw [putG a hsl, if_neg (by omega)]; exact h.keep k h8 h9 hk
  · rw [putG a hsl]
    by_cases e : k = i
    · subst e; rw [if_pos rfl]
    · rw [if_neg (by omega)]
      rw [gl _ hil, if_neg e] at hl
      exact h.val k hk hl
  · rw [gl _ hil, if_neg (by omega)] at e ⊢; exact h.o1 e
  · rw [gl _ hil, if_neg (by omega)] at e ⊢; exact h.o2 e
  · rw [putG a hsl, putG a hsl, if_neg (by omega), if_neg (by omega), gl _ hil 9, gl _ hil 10, gl _ hil 11, gl _ hil 12, if_neg (by omega), if_neg (by omega), if_neg (by omega), if_neg (by omega)]
    exact hst
theorem RI.pure (h : RI E listed a w) {i : Nat} (hi : i < 9) (h2 : i ≠ 2) (h8 : i ≠ 8) (hun : listed.getD i true = false) : RI E (listed.setIfInBounds i true) (a.put (some (35 + i)) (E.V i)) w := by
  have hil : i < listed.size := by rw [h.size]; omega
  refine h.put hi hun ?_
  rw [gl _ hil 2, gl _ hil 8, if_neg (Ne.symm h2), if_neg (Ne.symm h8)]
  exact h.st
theorem RI.un (h : RI E listed a w) {i : Nat} (hi : i < 13) (hun : listed.getD i true = false) : listed.getD i false = false := bool_of (by rw [h.size]; exact hi) hun
theorem RI.call1 (h : RI E listed a w) (hun : listed.getD 2 true = false) (hV : E.V 2 = anV E.A) {args : Array Value}
    (hC : ∀ (F1 : Nat → Prop) (R : Loc), OrRep w E.bs R F1 E.n → (∀ g, F1 g → g < w.heap.size) → (∀ g, F1 g → E.F g ∨ E.W.heap.size ≤ g) → Calls Tryz.prog 9 args w fun e w' => e = .returned (anV E.A) ∧ To w E.bs F1 E.n1 w') :
    Calls Tryz.prog 9 args w fun e w' => e = .returned (anV E.A) ∧ RI E (listed.setIfInBounds 2 true) (a.put (some 37) (anV E.A)) w' := by
  have hil : 2 < listed.size := by rw [h.size]; omega
  have hst := h.st
  rw [h.un (by omega) hun] at hst
  refine (hst.call1 hC).mono ?_
  rintro e w' ⟨rfl, hR⟩
  refine ⟨rfl, ?_⟩
  rw [← hV]
  refine h.put (i := 2) (by omega) hun ?_
  rw [gl _ hil 2, gl _ hil 8, if_pos rfl, if_neg (by omega)]
  exact hR
theorem RI.call2 (h : RI E listed a w) (hun : listed.getD 8 true = false) (hV : E.V 8 = anV E.A) {args : Array Value}
    (hC : ∀ (G1 : Nat → Prop) (Q : RV), RRep w E.bx Q G1 E.r → (∀ g, G1 g → g < w.heap.size) → (∀ g, G1 g → E.G g ∨ E.W.heap.size ≤ g) → Calls Tryz.prog 23 args w fun e w' => e = .returned (anV E.A) ∧ RTo w E.bx G1 E.r1 w') :
    Calls Tryz.prog 23 args w fun e w' => e = .returned (anV E.A) ∧ RI E (listed.setIfInBounds 8 true) (a.put (some 43) (anV E.A)) w' := by
  have hil : 8 < listed.size := by rw [h.size]; omega
  have hst := h.st
  rw [h.un (by omega) hun] at hst
  refine (hst.call2 hC).mono ?_
  rintro e w' ⟨rfl, hR⟩
  refine ⟨rfl, ?_⟩
  rw [← hV]
  refine h.put (i := 8) (by omega) hun ?_
  rw [gl _ hil 2, gl _ hil 8, if_neg (by omega), if_pos rfl]
  exact hR
theorem RI.alloc1 (h : RI E listed a w) (hun : listed.getD 9 true = false) : RI E (listed.setIfInBounds 9 true) (a.put (some 8) (.pointer (some ⟨w.heap.size, 0, none⟩))) (w.alloc (.cells anZ 46)) := by
  have hil : 9 < listed.size := by rw [h.size]; omega
  have hsl : 8 < a.tmps.size := by rw [h.tsz]; omega
  have h11 : listed.getD 11 false = false := by cases e : listed.getD 11 false with | false => rfl | true => have := h.o1 e; rw [h.un (by omega) hun] at this; cases this
  have hst := h.st
  rw [h.un (by omega) hun, h11] at hst
  refine ⟨by rw [Array.size_setIfInBounds]; exact h.size, by simpa [Act.put] using h.dfr, by simpa [Act.put] using h.tsz, fun k h8 h9 hk => ?_, fun k hk hl => ?_, fun _ => ?_, fun e => ?_, ?_⟩
  · rw [putG a hsl, if_neg h8]; exact h.keep k h8 h9 hk
  · rw [putG a hsl, if_neg (by omega)]
    rw [gl _ hil, if_neg (by omega)] at hl
    exact h.val k hk hl
  · rw [gl _ hil, if_pos rfl]
  · rw [gl _ hil, if_neg (by omega)] at e ⊢; exact h.o2 e
  · rw [putG a hsl, putG a hsl, if_pos rfl, if_neg (by omega), gl _ hil 2, gl _ hil 8, gl _ hil 9, gl _ hil 10, gl _ hil 11, gl _ hil 12, if_neg (by omega), if_neg (by omega), if_pos rfl, if_neg (by omega), if_neg (by omega), if_neg (by omega), h11]
    exact hst.al1
theorem RI.alloc2 (h : RI E listed a w) (hun : listed.getD 10 true = false) : RI E (listed.setIfInBounds 10 true) (a.put (some 9) (.pointer (some ⟨w.heap.size, 0, none⟩))) (w.alloc (.cells anZ 46)) := by
  have hil : 10 < listed.size := by rw [h.size]; omega
  have hsl : 9 < a.tmps.size := by rw [h.tsz]; omega
  have h12 : listed.getD 12 false = false := by cases e : listed.getD 12 false with | false => rfl | true => have := h.o2 e; rw [h.un (by omega) hun] at this; cases this
  have hst := h.st
  rw [h.un (by omega) hun, h12] at hst
  refine ⟨by rw [Array.size_setIfInBounds]; exact h.size, by simpa [Act.put] using h.dfr, by simpa [Act.put] using h.tsz, fun k h8 h9 hk => ?_, fun k hk hl => ?_, fun e => ?_, fun _ => ?_, ?_⟩
  · rw [putG a hsl, if_neg h9]; exact h.keep k h8 h9 hk
  · rw [putG a hsl, if_neg (by omega)]
    rw [gl _ hil, if_neg (by omega)] at hl
    exact h.val k hk hl
  · rw [gl _ hil, if_neg (by omega)] at e ⊢; exact h.o1 e
  · rw [gl _ hil, if_pos rfl]
  · rw [putG a hsl, putG a hsl, if_neg (by omega), if_pos rfl, gl _ hil 2, gl _ hil 8, gl _ hil 9, gl _ hil 10, gl _ hil 11, gl _ hil 12, if_neg (by omega), if_neg (by omega), if_neg (by omega), if_pos rfl, if_neg (by omega), if_neg (by omega), h12]
    exact hst.al2
theorem RI.store1 (h : RI E listed a w) (hun : listed.getD 11 true = false) (h9 : listed.getD 9 false = true) {b1 : Nat} (hp : a.tmps.getD 8 undef = .pointer (some ⟨b1, 0, none⟩)) (hw : w'.heap[b1]? = some (.cells (anC E.A) 46)) (hc : Chg (fun g => g = b1) w w') : RI E (listed.setIfInBounds 11 true) a w' := by
  have hil : 11 < listed.size := by rw [h.size]; omega
  have hst := h.st
  rw [h.un (by omega) hun, h9] at hst
  refine ⟨by rw [Array.size_setIfInBounds]; exact h.size, h.dfr, h.tsz, h.keep, fun k hk hl => ?_, fun _ => ?_, fun e => ?_, ?_⟩
  · rw [gl _ hil, if_neg (by omega)] at hl
    exact h.val k hk hl
  · rw [gl _ hil, if_neg (by omega)]; exact h9
  · rw [gl _ hil, if_neg (by omega)] at e ⊢; exact h.o2 e
  · rw [gl _ hil 2, gl _ hil 8, gl _ hil 9, gl _ hil 10, gl _ hil 11, gl _ hil 12, if_neg (by omega), if_neg (by omega), if_neg (by omega), if_neg (by omega), if_pos rfl, if_neg (by omega), h9]
    exact hst.sto1 hp hw hc
theorem RI.store2 (h : RI E listed a w) (hun : listed.getD 12 true = false) (h10 : listed.getD 10 false = true) {b2 : Nat} (hp : a.tmps.getD 9 undef = .pointer (some ⟨b2, 0, none⟩)) (hw : w'.heap[b2]? = some (.cells (anC E.A) 46)) (hc : Chg (fun g => g = b2) w w') : RI E (listed.setIfInBounds 12 true) a w' := by
  have hil : 12 < listed.size := by rw [h.size]; omega
  have hst := h.st
  rw [h.un (by omega) hun, h10] at hst
  refine ⟨by rw [Array.size_setIfInBounds]; exact h.size, h.dfr, h.tsz, h.keep, fun k hk hl => ?_, fun e => ?_, fun _ => ?_, ?_⟩
  · rw [gl _ hil, if_neg (by omega)] at hl
    exact h.val k hk hl
  · rw [gl _ hil, if_neg (by omega)] at e ⊢; exact h.o1 e
  · rw [gl _ hil, if_neg (by omega)]; exact h10
  · rw [gl _ hil 2, gl _ hil 8, gl _ hil 9, gl _ hil 10, gl _ hil 11, gl _ hil 12, if_neg (by omega), if_neg (by omega), if_neg (by omega), if_neg (by omega), if_neg (by omega), if_pos rfl, h10]
    exact hst.sto2 hp hw hc
/-- The frame behind the region. -/
def frm (t0 : Array Value) (V : Nat → Value) (p1 p2 : Value) : Array Value :=
  ((((((((((t0.setIfInBounds 8 p1).setIfInBounds 9 p2).setIfInBounds 35 (V 0)).setIfInBounds 36 (V 1)).setIfInBounds 37 (V 2)).setIfInBounds 38 (V 3)).setIfInBounds 39 (V 4)).setIfInBounds 40 (V 5)).setIfInBounds 41 (V 6)).setIfInBounds 42 (V 7)).setIfInBounds 43 (V 8)
theorem frm_size {t0 : Array Value} (ht : t0.size = 123) (V : Nat → Value) (p1 p2 : Value) : (frm t0 V p1 p2).size = 123 := by simp [frm, ht]
theorem frm_get {t0 : Array Value} (ht : t0.size = 123) (V : Nat → Value) (p1 p2 : Value) (k : Nat) : (frm t0 V p1 p2).getD k undef = if k = 43 then V 8 else if k = 42 then V 7 else if k = 41 then V 6 else if k = 40 then V 5 else if k = 39 then V 4 else if k = 38 then V 3 else if k = 37 then V 2 else if k = 36 then V 1 else if k = 35 then V 0 else if k = 9 then p2 else if k = 8 then p1 else t0.getD k undef := by
  unfold frm
  rw [gs _ (by simp [ht]), gs _ (by simp [ht]), gs _ (by simp [ht]), gs _ (by simp [ht]), gs _ (by simp [ht]), gs _ (by simp [ht]), gs _ (by simp [ht]), gs _ (by simp [ht]), gs _ (by simp [ht]), gs _ (by simp [ht]), gs _ (by simp [ht])]
theorem frm_ext {t0 tm : Array Value} {V : Nat → Value} {p1 p2 : Value} (ht : t0.size = 123) (hsz : tm.size = 123) (h8 : tm.getD 8 undef = p1) (h9 : tm.getD 9 undef = p2) (hV : ∀ k, k < 9 → tm.getD (35 + k) undef = V k)
    (hk : ∀ k, k ≠ 8 → k ≠ 9 → (k < 35 ∨ 43 < k) → tm.getD k undef = t0.getD k undef) : tm = frm t0 V p1 p2 := by
  have hfs := frm_size ht V p1 p2
  have hg : ∀ k, tm.getD k undef = (frm t0 V p1 p2).getD k undef := fun k => by
    rw [frm_get ht]
    by_cases e43 : k = 43
    · rw [if_pos e43, e43]; exact hV 8 (by omega)
    rw [if_neg e43]
    by_cases e42 : k = 42
    · rw [if_pos e42, e42]; exact hV 7 (by omega)
    rw [if_neg e42]
    by_cases e41 : k = 41
    · rw [if_pos e41, e41]; exact hV 6 (by omega)
    rw [if_neg e41]
    by_cases e40 : k = 40
    · rw [if_pos e40, e40]; exact hV 5 (by omega)
    rw [if_neg e40]
    by_cases e39 : k = 39
    · rw [if_pos e39, e39]; exact hV 4 (by omega)
    rw [if_neg e39]
    by_cases e38 : k = 38
    · rw [if_pos e38, e38]; exact hV 3 (by omega)
    rw [if_neg e38]
    by_cases e37 : k = 37
    · rw [if_pos e37, e37]; exact hV 2 (by omega)
    rw [if_neg e37]
    by_cases e36 : k = 36
    · rw [if_pos e36, e36]; exact hV 1 (by omega)
    rw [if_neg e36]
    by_cases e35 : k = 35
    · rw [if_pos e35, e35]; exact hV 0 (by omega)
    rw [if_neg e35]
    by_cases e9 : k = 9
    · rw [if_pos e9, e9]; exact h9
    rw [if_neg e9]
    by_cases e8 : k = 8
    · rw [if_pos e8, e8]; exact h8
    rw [if_neg e8]
    exact hk k e8 e9 (by omega)
  refine Array.ext (by rw [hsz, hfs]) (fun i h1 h2 => ?_)
  have := hg i
  rw [Array.getD_eq_getD_getElem?, Array.getD_eq_getD_getElem?, Array.getElem?_eq_getElem h1, Array.getElem?_eq_getElem h2] at this
  simpa using this
theorem RI.fin (h : RI E listed a w) (hall : ∀ i, i < 13 → listed.getD i true = true) (ht : E.t0.size = 123) :
    ∃ (b1 b2 : Nat) (F1 G1 : Nat → Prop), a = { tmps := frm E.t0 E.V (.pointer (some ⟨b1, 0, none⟩)) (.pointer (some ⟨b2, 0, none⟩)), defers := [] } ∧ Pair w E.bs E.bx F1 G1 E.n1 E.r1 ∧ (∀ g, F1 g → E.F g ∨ E.W.heap.size ≤ g) ∧ (∀ g, G1 g → E.G g ∨ E.W.heap.size ≤ g) ∧
      (E.W.heap.size ≤ b1 ∧ ¬ F1 b1 ∧ ¬ G1 b1 ∧ w.heap[b1]? = some (.cells (anC E.A) 46)) ∧ (E.W.heap.size ≤ b2 ∧ ¬ F1 b2 ∧ ¬ G1 b2 ∧ w.heap[b2]? = some (.cells (anC E.A) 46)) ∧ Chg (fun g => E.F g ∨ E.G g) E.W w := by
  have hal : ∀ k, k < 13 → listed.getD k false = true := fun k hk => by
    have := hall k hk
    have hl := h.size
    have h2 : k < listed.size := by omega
    simp only [Array.getD, h2, dif_pos] at this ⊢
    exact this
  have hst := h.st
  rw [hal 2 (by omega), hal 8 (by omega), hal 9 (by omega), hal 10 (by omega), hal 11 (by omega), hal 12 (by omega)] at hst
  obtain ⟨F1, G1, h1, h2, h3, h4, h5⟩ := hst.st
  obtain ⟨b1, q1, q2, q3, q4, q5⟩ := h4 rfl
  obtain ⟨b2, r1, r2, r3, r4, r5⟩ := h5 rfl
  refine ⟨b1, b2, F1, G1, ?_, h1, h2, h3, ⟨q2, q3, q4, q5⟩, ⟨r2, r3, r4, r5⟩, hst.chg⟩
  have he := frm_ext (V := E.V) ht h.tsz q1 r1 (fun k hk => h.val k hk (hal k (by omega))) h.keep
  have hd := h.dfr
  obtain ⟨tm, df⟩ := a
  simp only at hd he
  rw [hd, ← he]
theorem RI.start {t0 : Array Value} (ht : E.t0.size = 123) (hE : Pair E.W E.bs E.bx E.F E.G E.n E.r) : RI E (Array.replicate 13 false) { tmps := E.t0, defers := [] } E.W.drew := by
  refine ⟨by simp, rfl, ht, fun _ _ _ _ => rfl, (fun k _ h => by rw [rep_false] at h; cases h), (fun h => by rw [rep_false] at h; cases h), (fun h => by rw [rep_false] at h; cases h), ?_⟩
  simp only [rep_false]
  exact ⟨⟨E.F, E.G, by simpa using hE.same (Chg.refl _ _).drew, fun g f => Or.inl f, fun g f => Or.inl f, (fun e => by cases e), (fun e => by cases e)⟩, (fun e => by cases e), (Chg.refl _ _).drew⟩
/-- The region, walked by what holds in each state. -/
theorem wpAny_at {ops : Array Oper} {Q : Exit → Act → World → Prop} {t0 : Array Value} {W : World} (E : Array Value → RE) (hE : ∀ t, (E t).t0 = t ∧ (E t).W = W) (ht : t0.size = 123) (hP : Pair W (E t0).bs (E t0).bx (E t0).F (E t0).G (E t0).n (E t0).r) (hsz : ops.size = 13) (htop : topo ops = true)
    (hs : ∀ listed a w, RI (E t0) listed a w → ∀ i, i < 13 → listed.getD i true = false → (∀ o, ops[i]? = some o → ∀ e ∈ o.after, Region.binds .any e = true → listed.getD e.on false = true) → wpOp Tryz.prog ops Q i (RI (E t0) (listed.setIfInBounds i true)) a w)
    (hd : ∀ (b1 b2 : Nat) (F1 G1 : Nat → Prop) w, Pair w (E t0).bs (E t0).bx F1 G1 (E t0).n1 (E t0).r1 → (∀ g, F1 g → (E t0).F g ∨ W.heap.size ≤ g) → (∀ g, G1 g → (E t0).G g ∨ W.heap.size ≤ g) →
      (W.heap.size ≤ b1 ∧ ¬ F1 b1 ∧ ¬ G1 b1 ∧ w.heap[b1]? = some (.cells (anC (E t0).A) 46)) → (W.heap.size ≤ b2 ∧ ¬ F1 b2 ∧ ¬ G1 b2 ∧ w.heap[b2]? = some (.cells (anC (E t0).A) 46)) → Chg (fun g => (E t0).F g ∨ (E t0).G g) W w →
      Q .normal { tmps := frm t0 (E t0).V (.pointer (some ⟨b1, 0, none⟩)) (.pointer (some ⟨b2, 0, none⟩)), defers := [] } w) :
    wpAny Tryz.prog .any ops Q 13 (Array.replicate 13 false) { tmps := t0, defers := [] } W.drew := by
  obtain ⟨e1, e2⟩ := hE t0
  refine wpAny_inv (I := RI (E t0)) (fun listed a w hI i hi hun hdep => hs listed a w hI i (by omega) hun hdep) (fun listed a w hI hall => ?_) (topo_spec htop) (fun _ _ _ h => by rw [hsz]; exact h.size) _ _ _ _ ?_ (by decide)
  · obtain ⟨b1, b2, F1, G1, ha, q1, q2, q3, q4, q5, q6⟩ := hI.fin (fun i hi => hall i (by omega)) (by rw [e1]; exact ht)
    rw [e2] at q2 q3 q4 q5 q6
    rw [ha, e1]
    exact hd b1 b2 F1 G1 w q1 q2 q3 q4 q5 q6
  · have := RI.start (E := E t0) (t0 := t0) (by rw [e1]; exact ht) (by rw [e2]; exact hP)
    rw [e1, e2] at this
    exact this
end
end Go.Proofs.YtgmmglmokkcgeaaGreat
/- Walk: OraclePlays. -/
namespace Go.Proofs.YtgmmglmokkcgeaaGreat
set_option linter.unusedVariables false
set_option linter.unusedSimpArgs false
set_option linter.unusedSectionVars false
open Go.RowKit Mk Go.Sort

set_option maxRecDepth 100000 in
set_option maxHeartbeats 8000000 in
theorem walkOraclePlays {w : World} {so : Option Addr} {N cp : Nat} {L : List (OpM × OpL)} (h : OpsAt w so L) (hl : L.length = N) (hx : ∀ p ∈ L, OpX p) :
    Calls Tryz.prog 5 #[.slice so N cp] w fun e w' => e = .returned (.bool true) ∧ Chg (fun _ => False) w w' := by
  have H := Lib.hid h
  have HL := Lib.hid hl
  have HXX := Lib.hid hx
  have ln := h.len
  rw [hl] at ln
  clear h hl hx
  go_enter Tryz.func5, Tryz.ntmps5
  go_wp2_with fail
  refine (lives_any _).mono ?_
  rintro e w1 ⟨rfl, h1⟩
  have C1 := Lib.hid h1
  have SM := Lib.hid (small_any (cp := cp) (H.out.stay h1) HL.out)
  clear h1
  go_wp2_with fail
  refine SM.out.mono ?_
  rintro e w2 ⟨z, rfl, hz, h2⟩
  have C2 := Lib.hid (C1.out.trans h2)
  clear h2 SM C1
  cases z
  · clear hz
    go_wp2_with fail
    go_ret
    exact ⟨rfl, C2.out⟩
  have hN : N ≤ 100 := hz rfl
  clear hz
  go_wp2_with fail
  refine (new_any _).mono ?_
  rintro e w3 ⟨bs, rfl, hs, h3⟩
  have C3 := Lib.hid (C2.out.trans h3)
  have HS3 := Lib.hid hs.tight
  have HZ3 := Lib.hid h3.size
  obtain ⟨W4, HW4⟩ : ∃ W, Hid (w3.alloc (.cells #[.int .u64 0, .int .u64 0, .int .u64 0, .slice none 0 0, .slice none 0 0, .slice none 0 0, .slice none 0 0] 69) = W) := ⟨_, Lib.hid rfl⟩
  obtain ⟨bx, HBX⟩ : ∃ k, Hid (w3.heap.size = k) := ⟨_, Lib.hid rfl⟩
  have h34 : Chg (fun _ => False) w3 W4 := by rw [← HW4.out]; exact (Chg.refl _ _).alloc _
  have HP := Lib.hid (show PlAt w W4 bs bx 0 .new .new (fun g => w2.heap.size ≤ g ∧ g < w3.heap.size) (fun g => g = bx) from
    ⟨⟨hs.tight.same h34, ⟨_, by have := rnew_rep w3; rw [HW4.out, HBX.out] at this; exact this⟩, fun g f => Nat.lt_of_lt_of_le f.2 h34.size, fun g f => by subst f; rw [← HW4.out, ← HBX.out]; simp, fun g f e => by have := HBX.out; omega⟩, C3.out.trans h34,
      fun g f => Nat.le_trans C2.out.size f.1, fun g f => by subst f; rw [← HBX.out]; exact C3.out.size, Alike.new, Fit.new, lim_new⟩)
  clear hs h3 h34
  go_upto_region 6 with fail
  rw [HW4.out, HBX.out]
  go_wp2_with fail
  clear HW4 HBX HS3 HZ3 C3 C2
  go_loopw [5] (fun i wr => ∃ (k : Nat) (n : OM) (r : RM) (F G : Nat → Prop), i = .int .i64 k ∧ k ≤ N ∧ Hid (PlAt w wr bs bx k n r F G)) (fun i _ => N - (intOf i).toNat)
  case atStart => exact ⟨0, _, _, _, _, rfl, Nat.zero_le _, HP⟩
  case round =>
    clear HP
    obtain ⟨k, n, r, F, G, rfl, hk, HP⟩ := hrel
    generalize wr = W0 at *
    by_cases hlt : k < N
    · have d0 : decide ((k : Int) < N) = true := decide_eq_true (by omega)
      have l0 : (0 : Int) ≤ k := by omega
      have l1 : (k : Int) < N := by omega
      have hkL : k < L.length := by rw [HL.out]; exact hlt
      obtain ⟨g, o, rfl, hg, hc⟩ := H.out.cell k hkL
      have hop := (H.out.ops _ (List.getElem_mem hkL))
      have hox := HXX.out _ (List.getElem_mem hkL)
      obtain ⟨p, hp⟩ : ∃ p, L[k] = p := ⟨_, rfl⟩
      rw [hp] at hc hop hox
      obtain ⟨op, ol⟩ := p
      simp only at hc hop
      have HG := Lib.hid hg
      have CC := Lib.hid (fun (u : World) (cu : Chg (fun _ => False) w u) (c : Nat) (v : Value) (hv : (opC op ol)[c]? = some v) => (World.cell?_of_block (a := ⟨g, o + k * 9 + c, none⟩) (cu.block g hg (fun f => f))).trans (hc c v hv))
      have HOA := Lib.hid (fun (u : World) (cu : Chg (fun _ => False) w u) => hop.1.same cu)
      have HPS := Lib.hid hop.2
      have HOX := Lib.hid hox
      have x0 : W0.cell? ⟨g, o + k * 9, none⟩ = some (.int .u8 (op.k : Nat)) := CC.out W0 HP.out.chg 0 _ rfl
      have x1 : W0.cell? ⟨g, o + k * 9 + 1, none⟩ = some (.int .u32 (op.n : Nat)) := CC.out W0 HP.out.chg 1 _ rfl
      have x2 : W0.cell? ⟨g, o + k * 9 + 2, none⟩ = some (.int .u64 (op.st : Nat)) := CC.out W0 HP.out.chg 2 _ rfl
      have x3 : W0.cell? ⟨g, o + k * 9 + 3, none⟩ = some (.slice ol.ko op.keys.length ol.kc) := CC.out W0 HP.out.chg 3 _ rfl
      have x4 : W0.cell? ⟨g, o + k * 9 + 4, none⟩ = some (.slice ol.no op.needs.length ol.nc) := CC.out W0 HP.out.chg 4 _ rfl
      have x5 : W0.cell? ⟨g, o + k * 9 + 5, none⟩ = some (.string op.pred) := CC.out W0 HP.out.chg 5 _ rfl
      have x6 : W0.cell? ⟨g, o + k * 9 + 6, none⟩ = some (.int .u32 (op.g : Nat)) := CC.out W0 HP.out.chg 6 _ rfl
      have x7 : W0.cell? ⟨g, o + k * 9 + 7, none⟩ = some (.int .u32 (op.to : Nat)) := CC.out W0 HP.out.chg 7 _ rfl
      have x8 : W0.cell? ⟨g, o + k * 9 + 8, none⟩ = some (.int .u64 (op.at_ : Nat)) := CC.out W0 HP.out.chg 8 _ rfl
      have CP := Lib.hid (copied_any (HOA.out _ HP.out.chg) hox)
      clear hg hc hop hox hp hkL
      go_wp2_with fail
      refine CP.out.mono ?_
      rintro e W1 ⟨l', rfl, hnk, hnd, hok, hon, c1⟩
      have C1 := Lib.hid c1
      have HNK := Lib.hid hnk
      have HND := Lib.hid hnd
      have HOK := Lib.hid hok
      have HON := Lib.hid hon
      clear x0 x1 x2 x3 x4 x5 x6 x7 x8 CP c1 hnk hnd hok hon
      obtain ⟨R, hR⟩ := HP.out.p.s
      have h01 := C1.out
      obtain ⟨W2, HW2⟩ : ∃ W, Hid (W1.alloc (.cells #[.int .u8 (op.k : Nat), .int .u32 (op.n : Nat), .int .u64 (op.st : Nat), .slice l'.ko op.keys.length l'.kc, .slice l'.no op.needs.length l'.nc, .string op.pred, .int .u32 (op.g : Nat), .int .u32 (op.to : Nat), .int .u64 (op.at_ : Nat)] 28) = W) := ⟨_, Lib.hid rfl⟩
      obtain ⟨ib, HIB⟩ : ∃ k, Hid (W1.heap.size = k) := ⟨_, Lib.hid rfl⟩
      have h12 : Chg (fun _ => False) W1 W2 := by rw [← HW2.out]; exact (Chg.refl _ _).alloc _
      have hib2 : W2.heap[ib]? = some (.cells (opC op l') 28) := by rw [← HW2.out, ← HIB.out]; exact Go.heap_alloc_new _ _
      have CY := Lib.hid (copy_any (hR.same (h01.trans h12)) (fun x => Nat.le_trans (HP.out.lim.com x) (by omega)))
      have HC12 := Lib.hid h12
      have HW2S := Lib.hid (show ib + 1 = W2.heap.size by rw [← HW2.out, World.size_alloc, HIB.out])
      have HIB2 := Lib.hid hib2
      clear hR h01 h12 hib2
      go_upto_region 10 with fail
      rw [HW2.out, HIB.out]
      go_wp2_with fail
      refine CY.out.mono ?_
      rintro e W3 ⟨cb, rfl, hcb, c3⟩
      have C3 := Lib.hid c3
      have HCB := Lib.hid hcb.tight
      clear c3 hcb CY HW2
      go_upto_region 11 with fail
      obtain ⟨an, han⟩ : ∃ A : AnM, (applyM n op).2 = A := ⟨_, rfl⟩
      have hal := HP.out.al.apply op
      have c03 : Chg (fun _ => False) W0 W3 := (C1.out.trans HC12.out).trans C3.out
      have hP3 := HP.out.p.same c03
      have hcw : Chg (fun _ => False) w W3 := HP.out.chg.trans c03
      have hib3 : W3.heap[ib]? = some (.cells (opC op l') 28) := (C3.out.block _ (Array.getElem?_eq_some_iff.1 HIB2.out).1 (fun f => f)).trans HIB2.out
      have hibn : W0.heap.size ≤ ib := by rw [← HIB.out]; exact C1.out.size
      have hnk3 : NL W3 (.slice l'.ko op.keys.length l'.kc) op.keys := sl.stay HNK.out (fun g hg => (HC12.out.trans C3.out).block g (sl.lt HNK.out hg) (fun f => f))
      have hnd3 : NdL W3 (.slice l'.no op.needs.length l'.nc) op.needs := sl.stay HND.out (fun g hg => (HC12.out.trans C3.out).block g (sl.lt HND.out hg) (fun f => f))
      have HAN := Lib.hid han
      have HAL := Lib.hid hal
      have C03 := Lib.hid c03
      have HP3 := Lib.hid hP3
      have HCW := Lib.hid hcw
      have HIB3 := Lib.hid hib3
      have HIBN := Lib.hid hibn
      have HNKF := Lib.hid (show ∀ g, (Value.slice l'.ko op.keys.length l'.kc).ownBlock = some g → ¬ (F g ∨ G g) from fun g hg f => by have := HOK.out g hg; rcases f with f | f; have := HP.out.p.fl _ f; omega; have := HP.out.p.gl _ f; omega)
      have HNDF := Lib.hid (show ∀ g, (Value.slice l'.no op.needs.length l'.nc).ownBlock = some g → ¬ (F g ∨ G g) from fun g hg f => by have := HON.out g hg; rcases f with f | f; have := HP.out.p.fl _ f; omega; have := HP.out.p.gl _ f; omega)
      have HIBF := Lib.hid (show ¬ (F ib ∨ G ib) from fun f => by rcases f with f | f; have := HP.out.p.fl _ f; omega; have := HP.out.p.gl _ f; omega)
      have HCW2 := Lib.hid (fun (u : World) (cu : Chg (fun g => F g ∨ G g) W3 u) => (show Chg (fun _ => False) w u from hcw.trans' cu (fun i hi => Or.inr (by rcases hi with f | f; exact HP.out.fn _ f; exact HP.out.gn _ f))))
      have HNK3 := Lib.hid hnk3
      have HND3 := Lib.hid hnd3
      clear han hal c03 hP3 hcw hib3 hibn hnk3 hnd3
      go_cut [8, 9] from 35 to 43 (fun s8 s9 wx => ∃ (b1 b2 : Nat) (F1 G1 : Nat → Prop), s8 = .pointer (some ⟨b1, 0, none⟩) ∧ s9 = .pointer (some ⟨b2, 0, none⟩) ∧ Hid (Pair wx bs bx F1 G1 (applyM n op).1 (rapplyM r op).1 ∧ (∀ g, F1 g → F g ∨ W3.heap.size ≤ g) ∧ (∀ g, G1 g → G g ∨ W3.heap.size ≤ g) ∧
          (W3.heap.size ≤ b1 ∧ ¬ F1 b1 ∧ ¬ G1 b1 ∧ wx.heap[b1]? = some (.cells (anC an) 46)) ∧ (W3.heap.size ≤ b2 ∧ ¬ F1 b2 ∧ ¬ G1 b2 ∧ wx.heap[b2]? = some (.cells (anC an) 46)) ∧ Chg (fun g => F g ∨ G g) W3 wx))
      case first =>
        refine region_gen (by kernel_rfl) (fun ops hops => ?_)
        have hsz : ops.size = 13 := by rw [← hops]; rfl
        rw [hsz]
        refine wpAny_at (fun t => { W := W3, bs := bs, bx := bx, F := F, G := G, n := n, r := r, n1 := (applyM n op).1, r1 := (rapplyM r op).1, A := an, t0 := t, V := fun i => match i with | 0 => .pointer (some ⟨bs, 0, none⟩) | 1 => .agg (opC op l') | 2 => anV an | 3 => .pointer (some ⟨bx, 0, none⟩) | 4 => .slice (some ⟨g, o, none⟩) N cp | 5 => .int .i64 k | 6 => .pointer (some ⟨g, o + k * 9, none⟩) | 7 => .agg (opC op ol) | _ => anV an }) (fun t => ⟨rfl, rfl⟩) rfl HP3.out hsz (by rw [← hops]; kernel_rfl) ?hs ?hd
        case hd =>
          intro b1 b2 F1 G1 w1 q1 q2 q3 q4 q5 q6
          have HQ := Lib.hid (And.intro q1 (And.intro q2 (And.intro q3 (And.intro q4 (And.intro q5 q6)))))
          clear q1 q2 q3 q4 q5 q6 hops hsz
          simp only [frm, List.setIfInBounds_toArray, List.set_cons_zero, List.set_cons_succ]
          go_wp2_with fail
          go_meet
          case rel => exact ⟨b1, b2, F1, G1, rfl, rfl, HQ⟩
        case hs =>
          intro listed a w1 hI i hi hun hdep
          have d : ∀ j, ((ops[i]?).map fun o => o.after.any fun e => e.on == j && Region.binds .any e) = some true → listed.getD j false = true := fun j hj => by
            cases hoi : ops[i]? with
            | none => rw [hoi] at hj; cases hj
            | some oo =>
              rw [hoi] at hj
              simp only [Option.map_some, Option.some.injEq] at hj
              rw [Array.any_eq_true'] at hj
              obtain ⟨e, he, h6⟩ := hj
              simp only [Bool.and_eq_true, beq_iff_eq] at h6
              rw [← h6.1]
              exact hdep _ hoi e he h6.2
          match i, hi, hun, d with
          | 0, _, hun, d =>
            have t3 : a.tmps.getD 3 undef = .pointer (some ⟨bs, 0, none⟩) := hI.keep 3 (by decide) (by decide) (by decide)
            exact wpOp_of (v := .pointer (some ⟨bs, 0, none⟩)) (w' := w1) (by rw [← hops]; rfl) (by rfl) (by simp [execOp, Act.eval, t3, go_sem]) (hI.pure (i := 0) (by decide) (by decide) (by decide) hun)
          | 1, _, hun, d =>
            have t6 : a.tmps.getD 6 undef = .pointer (some ⟨ib, 0, none⟩) := hI.keep 6 (by decide) (by decide) (by decide)
            have hb : w1.heap[ib]? = some (.cells (opC op l') 28) := (hI.st.chg.block _ (Array.getElem?_eq_some_iff.1 HIB3.out).1 HIBF.out).trans HIB3.out
            have c0 : w1.cell? ⟨ib, 0, none⟩ = some (.int .u8 (op.k : Nat)) := cell_of hb rfl
            have c1 : w1.cell? ⟨ib, 1, none⟩ = some (.int .u32 (op.n : Nat)) := cell_of hb rfl
            have c2 : w1.cell? ⟨ib, 2, none⟩ = some (.int .u64 (op.st : Nat)) := cell_of hb rfl
            have c3 : w1.cell? ⟨ib, 3, none⟩ = some (.slice l'.ko op.keys.length l'.kc) := cell_of hb rfl
            have c4 : w1.cell? ⟨ib, 4, none⟩ = some (.slice l'.no op.needs.length l'.nc) := cell_of hb rfl
            have c5 : w1.cell? ⟨ib, 5, none⟩ = some (.string op.pred) := cell_of hb rfl
            have c6 : w1.cell? ⟨ib, 6, none⟩ = some (.int .u32 (op.g : Nat)) := cell_of hb rfl
            have c7 : w1.cell? ⟨ib, 7, none⟩ = some (.int .u32 (op.to : Nat)) := cell_of hb rfl
            have c8 : w1.cell? ⟨ib, 8, none⟩ = some (.int .u64 (op.at_ : Nat)) := cell_of hb rfl
            exact wpOp_of (v := .agg (opC op l')) (w' := w1) (by rw [← hops]; rfl) (by rfl) (by simp [execOp, Act.eval, t6, go_sem, c0, c1, c2, c3, c4, c5, c6, c7, c8]) (hI.pure (i := 1) (by decide) (by decide) (by decide) hun)
          | 2, _, hun, d =>
            have t35 : a.tmps.getD 35 undef = .pointer (some ⟨bs, 0, none⟩) := hI.val 0 (by decide) (d 0 (by rw [← hops]; kernel_rfl))
            have t36 : a.tmps.getD 36 undef = .agg (opC op l') := hI.val 1 (by decide) (d 1 (by rw [← hops]; kernel_rfl))
            refine wpOp_wp (by rw [← hops]; rfl) (by rfl) ?_
            unfold Oper.wp
            simp [execOp, Act.eval, t35, t36, go_sem]
            refine (hI.call1 hun rfl (fun F1 R hR hlt hF => ?_)).mono ?_
            · rw [← HAN.out]
              refine apply_all hR hlt (opAt_copied (HOA.out _ (HCW2.out _ hI.st.chg)) (sl.stay HNK3.out (fun g hg => hI.st.chg.block g (sl.lt HNK3.out hg) (HNKF.out g hg))) (sl.stay HND3.out (fun g hg => hI.st.chg.block g (sl.lt HND3.out hg) (HNDF.out g hg)))) HPS.out (HP.out.lim.mono (by omega)) (fun g' o' hg' hf => ?_)
              have hg2 : (W0.heap.size ≤ g' ∧ g' < W3.heap.size) := by
                rcases hg' with ⟨_, e⟩ | ⟨_, e⟩
                · exact ⟨HOK.out g' (by rw [e]; rfl), sl.lt HNK3.out (by rw [e]; rfl)⟩
                · exact ⟨HON.out g' (by rw [e]; rfl), sl.lt HND3.out (by rw [e]; rfl)⟩
              rcases hF g' hf with f | f
              · have := HP.out.p.fl _ f; omega
              · have f' : W3.heap.size ≤ g' := f
                omega
            · rintro e w' ⟨rfl, hR⟩
              exact hR
          | 3, _, hun, d =>
            have t4 : a.tmps.getD 4 undef = .pointer (some ⟨bx, 0, none⟩) := hI.keep 4 (by decide) (by decide) (by decide)
            exact wpOp_of (v := .pointer (some ⟨bx, 0, none⟩)) (w' := w1) (by rw [← hops]; rfl) (by rfl) (by simp [execOp, Act.eval, t4, go_sem]) (hI.pure (i := 3) (by decide) (by decide) (by decide) hun)
          | 4, _, hun, d =>
            have t0 : a.tmps.getD 0 undef = .slice (some ⟨g, o, none⟩) N cp := hI.keep 0 (by decide) (by decide) (by decide)
            exact wpOp_of (v := .slice (some ⟨g, o, none⟩) N cp) (w' := w1) (by rw [← hops]; rfl) (by rfl) (by simp [execOp, Act.eval, t0, go_sem]) (hI.pure (i := 4) (by decide) (by decide) (by decide) hun)
          | 5, _, hun, d =>
            have t5 : a.tmps.getD 5 undef = .int .i64 k := hI.keep 5 (by decide) (by decide) (by decide)
            exact wpOp_of (v := .int .i64 k) (w' := w1) (by rw [← hops]; rfl) (by rfl) (by simp [execOp, Act.eval, t5, go_sem]) (hI.pure (i := 5) (by decide) (by decide) (by decide) hun)
          | 6, _, hun, d =>
            have t39 : a.tmps.getD 39 undef = .slice (some ⟨g, o, none⟩) N cp := hI.val 4 (by decide) (d 4 (by rw [← hops]; kernel_rfl))
            have t40 : a.tmps.getD 40 undef = .int .i64 k := hI.val 5 (by decide) (d 5 (by rw [← hops]; kernel_rfl))
            exact wpOp_of (v := .pointer (some ⟨g, o + k * 9, none⟩)) (w' := w1) (by rw [← hops]; rfl) (by rfl) (by simp [execOp, Act.eval, t39, t40, go_sem, l0, l1]) (hI.pure (i := 6) (by decide) (by decide) (by decide) hun)
          | 7, _, hun, d =>
            have t41 : a.tmps.getD 41 undef = .pointer (some ⟨g, o + k * 9, none⟩) := hI.val 6 (by decide) (d 6 (by rw [← hops]; kernel_rfl))
            have hcw := HCW2.out _ hI.st.chg
            have c0 : w1.cell? ⟨g, o + k * 9, none⟩ = some (.int .u8 (op.k : Nat)) := CC.out w1 hcw 0 _ rfl
            have c1 : w1.cell? ⟨g, o + k * 9 + 1, none⟩ = some (.int .u32 (op.n : Nat)) := CC.out w1 hcw 1 _ rfl
            have c2 : w1.cell? ⟨g, o + k * 9 + 2, none⟩ = some (.int .u64 (op.st : Nat)) := CC.out w1 hcw 2 _ rfl
            have c3 : w1.cell? ⟨g, o + k * 9 + 3, none⟩ = some (.slice ol.ko op.keys.length ol.kc) := CC.out w1 hcw 3 _ rfl
            have c4 : w1.cell? ⟨g, o + k * 9 + 4, none⟩ = some (.slice ol.no op.needs.length ol.nc) := CC.out w1 hcw 4 _ rfl
            have c5 : w1.cell? ⟨g, o + k * 9 + 5, none⟩ = some (.string op.pred) := CC.out w1 hcw 5 _ rfl
            have c6 : w1.cell? ⟨g, o + k * 9 + 6, none⟩ = some (.int .u32 (op.g : Nat)) := CC.out w1 hcw 6 _ rfl
            have c7 : w1.cell? ⟨g, o + k * 9 + 7, none⟩ = some (.int .u32 (op.to : Nat)) := CC.out w1 hcw 7 _ rfl
            have c8 : w1.cell? ⟨g, o + k * 9 + 8, none⟩ = some (.int .u64 (op.at_ : Nat)) := CC.out w1 hcw 8 _ rfl
            exact wpOp_of (v := .agg (opC op ol)) (w' := w1) (by rw [← hops]; rfl) (by rfl) (by simp [execOp, Act.eval, t41, go_sem, c0, c1, c2, c3, c4, c5, c6, c7, c8]) (hI.pure (i := 7) (by decide) (by decide) (by decide) hun)
          | 8, _, hun, d =>
            have t38 : a.tmps.getD 38 undef = .pointer (some ⟨bx, 0, none⟩) := hI.val 3 (by decide) (d 3 (by rw [← hops]; kernel_rfl))
            have t42 : a.tmps.getD 42 undef = .agg (opC op ol) := hI.val 7 (by decide) (d 7 (by rw [← hops]; kernel_rfl))
            refine wpOp_wp (by rw [← hops]; rfl) (by rfl) ?_
            unfold Oper.wp
            simp [execOp, Act.eval, t38, t42, go_sem]
            refine (hI.call2 hun rfl (fun G1 Q hQ hlt hG => ?_)).mono ?_
            · rw [← HAN.out, HAL.out.1]
              refine rapply_any hQ hlt (HOA.out _ (HCW2.out _ hI.st.chg)) HP.out.fit (by omega) (fun g' o' hg' hf => ?_)
              have hg2 : g' < w.heap.size := by
                have h0 := HOA.out w (Chg.refl _ _)
                rcases hg' with ⟨h1, e⟩ | ⟨h1, e⟩
                · obtain ⟨g2, o2, e2, h2, _⟩ := h0.keys.cell 0 (List.length_pos_iff.2 h1)
                  rw [e] at e2
                  simp only [Option.some.injEq, Addr.mk.injEq] at e2
                  rw [e2.1]; exact h2
                · obtain ⟨g2, o2, e2, h2, _⟩ := h0.needs.cell 0 (List.length_pos_iff.2 h1)
                  rw [e] at e2
                  simp only [Option.some.injEq, Addr.mk.injEq] at e2
                  rw [e2.1]; exact h2
              rcases hG g' hf with f | f
              · have := HP.out.gn _ f; omega
              · have f' : W3.heap.size ≤ g' := f
                have := HCW.out.size
                omega
            · rintro e w' ⟨rfl, hR⟩
              exact hR
          | 9, _, hun, d =>
            exact wpOp_of (v := .pointer (some ⟨w1.heap.size, 0, none⟩)) (w' := w1.alloc (.cells anZ 46)) (by rw [← hops]; rfl) (by rfl) (by simp [execOp, Act.eval, go_sem]) (hI.alloc1 hun)
          | 10, _, hun, d =>
            exact wpOp_of (v := .pointer (some ⟨w1.heap.size, 0, none⟩)) (w' := w1.alloc (.cells anZ 46)) (by rw [← hops]; rfl) (by rfl) (by simp [execOp, Act.eval, go_sem]) (hI.alloc2 hun)
          | 11, _, hun, d =>
            have tv : a.tmps.getD 37 undef = anV an := hI.val 2 (by decide) (d 2 (by rw [← hops]; kernel_rfl))
            obtain ⟨F1, G1, q1, q2, q3, q4, q5⟩ := hI.st.st
            have h9 := d 9 (by rw [← hops]; kernel_rfl)
            obtain ⟨b1, r1, r2, r3, r4, r5⟩ := q4 h9
            rw [hI.un (by decide) hun] at r5
            simp only [Bool.false_eq_true, if_false] at r5
            have hfin := fun w' hh hc => hI.store1 (w' := w') hun h9 r1 hh hc
            obtain ⟨ac, af, am, tp, tg, tt, ta, tn⟩ := an
            obtain ⟨hh, hc⟩ := fin8 r5 (.int .i64 (ac : Nat)) (.int .u64 (af : Nat)) (.int .u64 (am : Nat)) (.string tp) (.int .u32 (tg : Nat)) (.int .u32 (tt : Nat)) (.int .u64 (ta : Nat)) (.int .u64 (tn : Nat))
            have z0 : w1.cell? ⟨b1, 0, none⟩ = some (.int .i64 0) := cell_of r5 rfl
            have f0 : w1.frozen? ⟨b1, 0, none⟩ = false := frozen_of r5
            have z1 : w1.cell? ⟨b1, 1, none⟩ = some (.int .u64 0) := cell_of r5 rfl
            have f1 : w1.frozen? ⟨b1, 1, none⟩ = false := frozen_of r5
            have z2 : w1.cell? ⟨b1, 2, none⟩ = some (.int .u64 0) := cell_of r5 rfl
            have f2 : w1.frozen? ⟨b1, 2, none⟩ = false := frozen_of r5
            have z3 : w1.cell? ⟨b1, 3, none⟩ = some (.string ⟨#[]⟩) := cell_of r5 rfl
            have f3 : w1.frozen? ⟨b1, 3, none⟩ = false := frozen_of r5
            have z4 : w1.cell? ⟨b1, 4, none⟩ = some (.int .u32 0) := cell_of r5 rfl
            have f4 : w1.frozen? ⟨b1, 4, none⟩ = false := frozen_of r5
            have z5 : w1.cell? ⟨b1, 5, none⟩ = some (.int .u32 0) := cell_of r5 rfl
            have f5 : w1.frozen? ⟨b1, 5, none⟩ = false := frozen_of r5
            have z6 : w1.cell? ⟨b1, 6, none⟩ = some (.int .u64 0) := cell_of r5 rfl
            have f6 : w1.frozen? ⟨b1, 6, none⟩ = false := frozen_of r5
            have z7 : w1.cell? ⟨b1, 7, none⟩ = some (.int .u64 0) := cell_of r5 rfl
            have f7 : w1.frozen? ⟨b1, 7, none⟩ = false := frozen_of r5
            have hfin2 := hfin _ hh hc
            unfold anV anC at tv
            simp only at tv
            refine wpOp_wp (by rw [← hops]; rfl) (by rfl) ?_
            unfold Oper.wp
            simp [execOp, Act.eval, r1, tv, go_sem, z0, z1, z2, z3, z4, z5, z6, z7, f0, f1, f2, f3, f4, f5, f6, f7]
            exact hfin2
          | 12, _, hun, d =>
            have tv : a.tmps.getD 43 undef = anV an := hI.val 8 (by decide) (d 8 (by rw [← hops]; kernel_rfl))
            obtain ⟨F1, G1, q1, q2, q3, q4, q5⟩ := hI.st.st
            have h9 := d 10 (by rw [← hops]; kernel_rfl)
            obtain ⟨b1, r1, r2, r3, r4, r5⟩ := q5 h9
            rw [hI.un (by decide) hun] at r5
            simp only [Bool.false_eq_true, if_false] at r5
            have hfin := fun w' hh hc => hI.store2 (w' := w') hun h9 r1 hh hc
            obtain ⟨ac, af, am, tp, tg, tt, ta, tn⟩ := an
            obtain ⟨hh, hc⟩ := fin8 r5 (.int .i64 (ac : Nat)) (.int .u64 (af : Nat)) (.int .u64 (am : Nat)) (.string tp) (.int .u32 (tg : Nat)) (.int .u32 (tt : Nat)) (.int .u64 (ta : Nat)) (.int .u64 (tn : Nat))
            have z0 : w1.cell? ⟨b1, 0, none⟩ = some (.int .i64 0) := cell_of r5 rfl
            have f0 : w1.frozen? ⟨b1, 0, none⟩ = false := frozen_of r5
            have z1 : w1.cell? ⟨b1, 1, none⟩ = some (.int .u64 0) := cell_of r5 rfl
            have f1 : w1.frozen? ⟨b1, 1, none⟩ = false := frozen_of r5
            have z2 : w1.cell? ⟨b1, 2, none⟩ = some (.int .u64 0) := cell_of r5 rfl
            have f2 : w1.frozen? ⟨b1, 2, none⟩ = false := frozen_of r5
            have z3 : w1.cell? ⟨b1, 3, none⟩ = some (.string ⟨#[]⟩) := cell_of r5 rfl
            have f3 : w1.frozen? ⟨b1, 3, none⟩ = false := frozen_of r5
            have z4 : w1.cell? ⟨b1, 4, none⟩ = some (.int .u32 0) := cell_of r5 rfl
            have f4 : w1.frozen? ⟨b1, 4, none⟩ = false := frozen_of r5
            have z5 : w1.cell? ⟨b1, 5, none⟩ = some (.int .u32 0) := cell_of r5 rfl
            have f5 : w1.frozen? ⟨b1, 5, none⟩ = false := frozen_of r5
            have z6 : w1.cell? ⟨b1, 6, none⟩ = some (.int .u64 0) := cell_of r5 rfl
            have f6 : w1.frozen? ⟨b1, 6, none⟩ = false := frozen_of r5
            have z7 : w1.cell? ⟨b1, 7, none⟩ = some (.int .u64 0) := cell_of r5 rfl
            have f7 : w1.frozen? ⟨b1, 7, none⟩ = false := frozen_of r5
            have hfin2 := hfin _ hh hc
            unfold anV anC at tv
            simp only at tv
            refine wpOp_wp (by rw [← hops]; rfl) (by rfl) ?_
            unfold Oper.wp
            simp [execOp, Act.eval, r1, tv, go_sem, z0, z1, z2, z3, z4, z5, z6, z7, f0, f1, f2, f3, f4, f5, f6, f7]
            exact hfin2
          | i + 13, hi, _, _ => omega
      case rest =>
        obtain ⟨b1, b2, F1, G1, rfl, rfl, HQ⟩ := hcut
        generalize wc = W5 at *
        obtain ⟨ac, af, am, tp, tg, tt, ta, tn⟩ := an
        have c35 := HQ.out.2.2.2.2.2
        have hib5 : W5.heap[ib]? = some (.cells (opC op l') 28) := (c35.block _ (Array.getElem?_eq_some_iff.1 HIB3.out).1 HIBF.out).trans HIB3.out
        have hnk5 : NL W5 (.slice l'.ko op.keys.length l'.kc) op.keys := sl.stay HNK3.out (fun g hg => c35.block g (sl.lt HNK3.out hg) (HNKF.out g hg))
        have hnd5 : NdL W5 (.slice l'.no op.needs.length l'.nc) op.needs := sl.stay HND3.out (fun g hg => c35.block g (sl.lt HND3.out hg) (HNDF.out g hg))
        have hoa5 : OpAt W5 op l' := opAt_copied (HOA.out _ (HCW2.out _ c35)) hnk5 hnd5
        have hcb5 : OrIs W5 cb (fun g => W2.heap.size ≤ g ∧ g < W3.heap.size) n := HCB.out.stay c35 (fun i hi f => by
          have h5 := C1.out.size
          have h6 := HC12.out.size
          rcases f with f | f
          · have := HP.out.p.fl _ f; omega
          · have := HP.out.p.gl _ f; omega)
        have I24 : ∀ (d : Nat) (os : Array Obj), Calls Tryz.prog 24 #[.agg #[.int .u8 (op.k : Nat), .int .u32 (op.n : Nat), .int .u64 (op.st : Nat), .slice l'.ko op.keys.length l'.kc, .slice l'.no op.needs.length l'.nc, .string op.pred, .int .u32 (op.g : Nat), .int .u32 (op.to : Nat), .int .u64 (op.at_ : Nat)], .agg #[.int .u8 (op.k : Nat), .int .u32 (op.n : Nat), .int .u64 (op.st : Nat), .slice ol.ko op.keys.length ol.kc, .slice ol.no op.needs.length ol.nc, .string op.pred, .int .u32 (op.g : Nat), .int .u32 (op.to : Nat), .int .u64 (op.at_ : Nat)]] (grow (redrawn W5 d) os) fun e w'' => e = .returned (.bool true) ∧ ∃ p : Regrown, w'' = grow (redrawn W5 p.d) p.os := fun d os =>
          Calls.regrown_of ((sameop_any (hoa5.same (chg_of_below (below_regrown W5 d os))) ((HOA.out _ (HCW2.out _ c35)).same (chg_of_below (below_regrown W5 d os)))).mono fun e w' hh => ⟨hh.1, below_of_chg hh.2⟩)
        have p0 : W5.cell? ⟨b1, 0, none⟩ = some (.int .i64 (ac : Nat)) := cell_of HQ.out.2.2.2.1.2.2.2 rfl
        have gp0 := fun p os => cell_regrown p0 p os
        have q0 : W5.cell? ⟨b2, 0, none⟩ = some (.int .i64 (ac : Nat)) := cell_of HQ.out.2.2.2.2.1.2.2.2 rfl
        have gq0 := fun p os => cell_regrown q0 p os
        have p1 : W5.cell? ⟨b1, 1, none⟩ = some (.int .u64 (af : Nat)) := cell_of HQ.out.2.2.2.1.2.2.2 rfl
        have gp1 := fun p os => cell_regrown p1 p os
        have q1 : W5.cell? ⟨b2, 1, none⟩ = some (.int .u64 (af : Nat)) := cell_of HQ.out.2.2.2.2.1.2.2.2 rfl
        have gq1 := fun p os => cell_regrown q1 p os
        have p2 : W5.cell? ⟨b1, 2, none⟩ = some (.int .u64 (am : Nat)) := cell_of HQ.out.2.2.2.1.2.2.2 rfl
        have gp2 := fun p os => cell_regrown p2 p os
        have q2 : W5.cell? ⟨b2, 2, none⟩ = some (.int .u64 (am : Nat)) := cell_of HQ.out.2.2.2.2.1.2.2.2 rfl
        have gq2 := fun p os => cell_regrown q2 p os
        have p3 : W5.cell? ⟨b1, 3, none⟩ = some (.string tp) := cell_of HQ.out.2.2.2.1.2.2.2 rfl
        have gp3 := fun p os => cell_regrown p3 p os
        have q3 : W5.cell? ⟨b2, 3, none⟩ = some (.string tp) := cell_of HQ.out.2.2.2.2.1.2.2.2 rfl
        have gq3 := fun p os => cell_regrown q3 p os
        have p4 : W5.cell? ⟨b1, 4, none⟩ = some (.int .u32 (tg : Nat)) := cell_of HQ.out.2.2.2.1.2.2.2 rfl
        have gp4 := fun p os => cell_regrown p4 p os
        have q4 : W5.cell? ⟨b2, 4, none⟩ = some (.int .u32 (tg : Nat)) := cell_of HQ.out.2.2.2.2.1.2.2.2 rfl
        have gq4 := fun p os => cell_regrown q4 p os
        have p5 : W5.cell? ⟨b1, 5, none⟩ = some (.int .u32 (tt : Nat)) := cell_of HQ.out.2.2.2.1.2.2.2 rfl
        have gp5 := fun p os => cell_regrown p5 p os
        have q5 : W5.cell? ⟨b2, 5, none⟩ = some (.int .u32 (tt : Nat)) := cell_of HQ.out.2.2.2.2.1.2.2.2 rfl
        have gq5 := fun p os => cell_regrown q5 p os
        have p6 : W5.cell? ⟨b1, 6, none⟩ = some (.int .u64 (ta : Nat)) := cell_of HQ.out.2.2.2.1.2.2.2 rfl
        have gp6 := fun p os => cell_regrown p6 p os
        have q6 : W5.cell? ⟨b2, 6, none⟩ = some (.int .u64 (ta : Nat)) := cell_of HQ.out.2.2.2.2.1.2.2.2 rfl
        have gq6 := fun p os => cell_regrown q6 p os
        have p7 : W5.cell? ⟨b1, 7, none⟩ = some (.int .u64 (tn : Nat)) := cell_of HQ.out.2.2.2.1.2.2.2 rfl
        have gp7 := fun p os => cell_regrown p7 p os
        have q7 : W5.cell? ⟨b2, 7, none⟩ = some (.int .u64 (tn : Nat)) := cell_of HQ.out.2.2.2.2.1.2.2.2 rfl
        have gq7 := fun p os => cell_regrown q7 p os
        have x0 : W5.cell? ⟨ib, 0, none⟩ = some (.int .u8 (op.k : Nat)) := cell_of hib5 rfl
        have gx0 := fun p os => cell_regrown x0 p os
        have y0 : W5.cell? ⟨g, o + k * 9, none⟩ = some (.int .u8 (op.k : Nat)) := CC.out W5 (HCW2.out _ c35) 0 _ rfl
        have gy0 := fun p os => cell_regrown y0 p os
        have x1 : W5.cell? ⟨ib, 1, none⟩ = some (.int .u32 (op.n : Nat)) := cell_of hib5 rfl
        have gx1 := fun p os => cell_regrown x1 p os
        have y1 : W5.cell? ⟨g, o + k * 9 + 1, none⟩ = some (.int .u32 (op.n : Nat)) := CC.out W5 (HCW2.out _ c35) 1 _ rfl
        have gy1 := fun p os => cell_regrown y1 p os
        have x2 : W5.cell? ⟨ib, 2, none⟩ = some (.int .u64 (op.st : Nat)) := cell_of hib5 rfl
        have gx2 := fun p os => cell_regrown x2 p os
        have y2 : W5.cell? ⟨g, o + k * 9 + 2, none⟩ = some (.int .u64 (op.st : Nat)) := CC.out W5 (HCW2.out _ c35) 2 _ rfl
        have gy2 := fun p os => cell_regrown y2 p os
        have x3 : W5.cell? ⟨ib, 3, none⟩ = some (.slice l'.ko op.keys.length l'.kc) := cell_of hib5 rfl
        have gx3 := fun p os => cell_regrown x3 p os
        have y3 : W5.cell? ⟨g, o + k * 9 + 3, none⟩ = some (.slice ol.ko op.keys.length ol.kc) := CC.out W5 (HCW2.out _ c35) 3 _ rfl
        have gy3 := fun p os => cell_regrown y3 p os
        have x4 : W5.cell? ⟨ib, 4, none⟩ = some (.slice l'.no op.needs.length l'.nc) := cell_of hib5 rfl
        have gx4 := fun p os => cell_regrown x4 p os
        have y4 : W5.cell? ⟨g, o + k * 9 + 4, none⟩ = some (.slice ol.no op.needs.length ol.nc) := CC.out W5 (HCW2.out _ c35) 4 _ rfl
        have gy4 := fun p os => cell_regrown y4 p os
        have x5 : W5.cell? ⟨ib, 5, none⟩ = some (.string op.pred) := cell_of hib5 rfl
        have gx5 := fun p os => cell_regrown x5 p os
        have y5 : W5.cell? ⟨g, o + k * 9 + 5, none⟩ = some (.string op.pred) := CC.out W5 (HCW2.out _ c35) 5 _ rfl
        have gy5 := fun p os => cell_regrown y5 p os
        have x6 : W5.cell? ⟨ib, 6, none⟩ = some (.int .u32 (op.g : Nat)) := cell_of hib5 rfl
        have gx6 := fun p os => cell_regrown x6 p os
        have y6 : W5.cell? ⟨g, o + k * 9 + 6, none⟩ = some (.int .u32 (op.g : Nat)) := CC.out W5 (HCW2.out _ c35) 6 _ rfl
        have gy6 := fun p os => cell_regrown y6 p os
        have x7 : W5.cell? ⟨ib, 7, none⟩ = some (.int .u32 (op.to : Nat)) := cell_of hib5 rfl
        have gx7 := fun p os => cell_regrown x7 p os
        have y7 : W5.cell? ⟨g, o + k * 9 + 7, none⟩ = some (.int .u32 (op.to : Nat)) := CC.out W5 (HCW2.out _ c35) 7 _ rfl
        have gy7 := fun p os => cell_regrown y7 p os
        have x8 : W5.cell? ⟨ib, 8, none⟩ = some (.int .u64 (op.at_ : Nat)) := cell_of hib5 rfl
        have gx8 := fun p os => cell_regrown x8 p os
        have y8 : W5.cell? ⟨g, o + k * 9 + 8, none⟩ = some (.int .u64 (op.at_ : Nat)) := CC.out W5 (HCW2.out _ c35) 8 _ rfl
        have gy8 := fun p os => cell_regrown y8 p os
        have C35 := Lib.hid c35
        have HIB5 := Lib.hid hib5
        have HNK5 := Lib.hid hnk5
        have HCB5 := Lib.hid hcb5
        clear c35 hib5 hnk5 hnd5 hoa5 hcb5
        go_wp2_with fail
        refine wp_region_quiet_below (by kernel_rfl) (by kernel_rfl) ?_
        repeat (go_big_quiet_step (with_reducible exact I24 _ _))
        refine wpQuiet_nil ?_
        intro _ hw'
        obtain ⟨⟨dq, osq⟩, hw''⟩ := hw'
        subst hw''
        have c6 : Chg (fun _ => False) W5 (grow (redrawn W5 dq) osq) := chg_of_below (below_regrown W5 dq osq)
        obtain ⟨W6, HW6⟩ : ∃ W6, Hid (grow (redrawn W5 dq) osq = W6) := ⟨_, Lib.hid rfl⟩
        rw [HW6.out] at c6 ⊢
        have C6 := Lib.hid c6
        clear I24 gp0 p0 gq0 q0 gp1 p1 gq1 q1 gp2 p2 gq2 q2 gp3 p3 gq3 q3 gp4 p4 gq4 q4 gp5 p5 gq5 q5 gp6 p6 gq6 q6 gp7 p7 gq7 q7 gx0 x0 gy0 y0 gx1 x1 gy1 y1 gx2 x2 gy2 y2 gx3 x3 gy3 y3 gx4 x4 gy4 y4 gx5 x5 gy5 y5 gx6 x6 gy6 y6 gx7 x7 gy7 y7 gx8 x8 gy8 y8 c6
        clear HW6
        have hHP6 : Pair W6 bs bx F1 G1 (applyM n op).1 (rapplyM r op).1 := HQ.out.1.same C6.out
        have hnk6 : NL W6 (.slice l'.ko op.keys.length l'.kc) op.keys := sl.stay HNK5.out (fun g hg => C6.out.block g (sl.lt HNK5.out hg) (fun f => f))
        have HP6 := Lib.hid hHP6
        have HNK6 := Lib.hid hnk6
        have HIB6 := Lib.hid ((C6.out.block _ (Array.getElem?_eq_some_iff.1 HIB5.out).1 (fun f => f)).trans HIB5.out)
        have HB16 := Lib.hid ((C6.out.block _ (Array.getElem?_eq_some_iff.1 HQ.out.2.2.2.1.2.2.2).1 (fun f => f)).trans HQ.out.2.2.2.1.2.2.2)
        have HCB6 := Lib.hid (HCB5.out.same C6.out)
        have C06 := Lib.hid ((HCW2.out _ C35.out).trans C6.out)
        obtain ⟨K, hK⟩ : ∃ K, op.keys.length = K := ⟨_, rfl⟩
        have hKl : K ≤ 9223372036854775807 := by rw [← hK]; exact (HOA.out w (Chg.refl _ _)).keys.len
        have HKK := Lib.hid hK
        have KO := Lib.hid (show ∀ g, (Value.slice l'.ko K l'.kc).ownBlock = some g → W0.heap.size ≤ g ∧ g < ib from fun g hg => by
          rw [← hK] at hg
          have := sl.lt HNK.out hg
          exact ⟨HOK.out g hg, by have := HIB.out; omega⟩)
        have HSP := Lib.hid (show SpAt l'.ko l'.kc K W6 W6 from ⟨Chg.refl _ _, fun g hg => by
          have h6 := hnk6
          rw [hK] at h6
          unfold NL at h6
          rw [hK] at h6
          rcases h6.2 with ⟨e, _⟩ | ⟨g', cap, cur, e, hh, h1, h2, h3, _⟩
          · rw [e] at hg; simp [Value.ownBlock] at hg
          · rw [e] at hg
            simp only [Value.ownBlock, Option.some.injEq] at hg
            subst hg
            exact ⟨cur, hh, by omega⟩⟩)
        clear hHP6 hnk6 hK
        go_wp2_with fail
        go_loopw [10] (fun s wr => ∃ j : Nat, s = .int .i64 j ∧ j ≤ K ∧ Hid (SpAt l'.ko l'.kc K W6 wr)) (fun s _ => K - (intOf s).toNat)
        case atStart => exact ⟨0, rfl, Nat.zero_le _, HSP⟩
        case round =>
          clear HSP
          obtain ⟨j, rfl, hj, HSP⟩ := hrel
          generalize wr = W7 at *
          have hib7 : W7.heap[ib]? = some (.cells (opC op l') 28) := (HSP.out.chg.block _ (Array.getElem?_eq_some_iff.1 HIB6.out).1 (fun e => by have := (KO.out _ e).2; omega)).trans HIB6.out
          have k3 : W7.cell? ⟨ib, 3, none⟩ = some (.slice l'.ko K l'.kc) := by rw [← HKK.out]; exact cell_of hib7 rfl
          have HIB7 := Lib.hid hib7
          clear hib7
          by_cases hjt : j < K
          · have q0 : decide ((j : Int) < K) = true := decide_eq_true (by omega)
            obtain ⟨kg, cap, e, _⟩ := HNK6.out.cell (i := j) (s := op.keys[j]'(by rw [HKK.out]; exact hjt)) (List.getElem?_eq_getElem _)
            simp only [Value.slice.injEq] at e
            obtain ⟨cur, hkg, hcs⟩ := HSP.out.row kg (by rw [e.1]; rfl)
            have q1 : (0 : Int) ≤ j := by omega
            have q2 : (j : Int) < K := by omega
            have hjc : j < cur.size := by omega
            have kc : W7.cell? ⟨kg, j, none⟩ = some cur[j] := cell_of hkg (Array.getElem?_eq_getElem hjc)
            have kf : W7.frozen? ⟨kg, j, none⟩ = false := frozen_of hkg
            rw [e.1] at k3
            have HE := Lib.hid (HSP.out.put (g := kg) (i := j) (by rw [e.1]; rfl) hkg (.string ⟨#[115, 112, 111, 105, 108, 116]⟩))
            generalize cur[j] = cj at *
            clear e hkg hcs hjc
            go_wp2_with fail
            go_roundw
            case rel => exact ⟨j + 1, by go_num, by omega, HE⟩
            case measure => simp [intOf]; omega
          · obtain rfl : j = K := by omega
            have q0 : decide ((j : Int) < (j : Int)) = false := by simp
            have hsz : ib + 1 = W2.heap.size ∧ W2.heap.size ≤ W3.heap.size ∧ W0.heap.size ≤ ib := by
              have h1 := HIB.out
              have h2 := C3.out.size
              have h3 := HIBN.out
              exact ⟨HW2S.out, h2, h3⟩
            have KO2 := fun g (hg : (Value.slice l'.ko j l'.kc).ownBlock = some g) => KO.out g hg
            have hP7 : Pair W7 bs bx F1 G1 (applyM n op).1 (rapplyM r op).1 := HP6.out.stay HSP.out.chg (fun g hg e => by
              have h1 := KO2 g e
              rcases hg with f | f
              · rcases HQ.out.2.1 g f with f | f
                · have := HP.out.p.fl _ f; omega
                · omega
              · rcases HQ.out.2.2.1 g f with f | f
                · have := HP.out.p.gl _ f; omega
                · omega)
            have hb17 : W7.heap[b1]? = some (.cells (anC ⟨ac, af, am, ⟨tp, tg, tt, ta, tn⟩⟩) 46) := (HSP.out.chg.block _ (Array.getElem?_eq_some_iff.1 HB16.out).1 (fun e => by have := KO2 _ e; have := HQ.out.2.2.2.1.1; omega)).trans HB16.out
            have hcb7 : OrIs W7 cb (fun g => W2.heap.size ≤ g ∧ g < W3.heap.size) n := HCB6.out.stay HSP.out.chg (fun g hg e => by have := KO2 _ e; omega)
            have hcw7 : Chg (fun _ => False) w W7 := C06.out.trans' HSP.out.chg (fun g e => Or.inr (by have := KO2 _ e; have := HP.out.chg.size; omega))
            have HP7 := Lib.hid hP7
            have HB17 := Lib.hid hb17
            have HCB7 := Lib.hid hcb7
            have HCW7 := Lib.hid hcw7
            have HAL2 := Lib.hid HAL.out.2
            have HFIT := Lib.hid (show Fit (rapplyM r op).1 (4096 * (k + 1)) from by have := HP.out.fit.apply op; rw [show 4096 * (k + 1) = 4096 * k + 4096 by omega]; exact this)
            have HLIM := Lib.hid (show Lim (applyM n op).1 (4096 * (k + 1)) from by have := HP.out.lim.apply op; rw [show 4096 * (k + 1) = 4096 * k + 4096 by omega]; exact this)
            have HB9 := Lib.hid (show 4096 * (k + 1) ≤ 900000 by omega)
            have ASK := Lib.hid (fun (u : World) (cu : Chg (fun _ => False) W7 u) (o2 : OpM) (l2 : OpL) (h2 : OpAt u o2 l2) (h3 : o2.pred.size ≤ maxLen) (h4 : ∀ k ∈ o2.keys, k.size ≤ maxLen) => (show Calls Tryz.prog 26 #[.pointer (some ⟨bs, 0, none⟩), .pointer (some ⟨bx, 0, none⟩), .agg (opC o2 l2)] u (fun e w' => e = .returned (.bool true) ∧ Chg (fun _ => False) u w') from by
              obtain ⟨R7, hR7⟩ := hP7.s
              obtain ⟨Q7, hQ7⟩ := hP7.x
              exact asks_any (hR7.same cu) (hQ7.same cu) HAL2.out HFIT.out HB9.out h2 h3 h4))
            have STD := Lib.hid (show Calls Tryz.prog 25 #[.pointer (some ⟨bs, 0, none⟩), .pointer (some ⟨bx, 0, none⟩)] W7 (fun e w' => e = .returned (.bool true) ∧ Chg (fun _ => False) W7 w') from by
              obtain ⟨R7, hR7⟩ := hP7.s
              obtain ⟨Q7, hQ7⟩ := hP7.x
              exact stands_any hR7 hQ7 HAL2.out HFIT.out HB9.out)
            clear hsz KO2 hP7 hb17 hcb7 hcw7
            go_wp2_with fail
            refine STD.out.mono ?_
            rintro e W8 ⟨rfl, c8⟩
            have C8 := Lib.hid c8
            clear STD k3
            have y0 : W8.cell? ⟨g, o + k * 9, none⟩ = some (.int .u8 (op.k : Nat)) := CC.out W8 (HCW7.out.trans c8) 0 _ rfl
            have y1 : W8.cell? ⟨g, o + k * 9 + 1, none⟩ = some (.int .u32 (op.n : Nat)) := CC.out W8 (HCW7.out.trans c8) 1 _ rfl
            have y2 : W8.cell? ⟨g, o + k * 9 + 2, none⟩ = some (.int .u64 (op.st : Nat)) := CC.out W8 (HCW7.out.trans c8) 2 _ rfl
            have y3 : W8.cell? ⟨g, o + k * 9 + 3, none⟩ = some (.slice ol.ko op.keys.length ol.kc) := CC.out W8 (HCW7.out.trans c8) 3 _ rfl
            have y4 : W8.cell? ⟨g, o + k * 9 + 4, none⟩ = some (.slice ol.no op.needs.length ol.nc) := CC.out W8 (HCW7.out.trans c8) 4 _ rfl
            have y5 : W8.cell? ⟨g, o + k * 9 + 5, none⟩ = some (.string op.pred) := CC.out W8 (HCW7.out.trans c8) 5 _ rfl
            have y6 : W8.cell? ⟨g, o + k * 9 + 6, none⟩ = some (.int .u32 (op.g : Nat)) := CC.out W8 (HCW7.out.trans c8) 6 _ rfl
            have y7 : W8.cell? ⟨g, o + k * 9 + 7, none⟩ = some (.int .u32 (op.to : Nat)) := CC.out W8 (HCW7.out.trans c8) 7 _ rfl
            have y8 : W8.cell? ⟨g, o + k * 9 + 8, none⟩ = some (.int .u64 (op.at_ : Nat)) := CC.out W8 (HCW7.out.trans c8) 8 _ rfl
            have A1 := Lib.hid (ASK.out W8 c8 op ol (HOA.out _ (HCW7.out.trans c8)) HPS.out HOX.out.sz)
            clear c8 q0
            go_wp2_with fail
            refine A1.out.mono ?_
            rintro e W9 ⟨rfl, c9⟩
            have C9 := Lib.hid (C8.out.trans c9)
            clear A1 c9 y0 y1 y2 y3 y4 y5 y6 y7 y8
            go_wp2_with fail
            go_loopw [11] (fun s wr => ∃ i : Nat, s = .int .i64 i ∧ i ≤ k + 3 ∧ Hid (Chg (fun _ => False) W7 wr)) (fun s _ => k + 3 - (intOf s).toNat)
            case atStart => exact ⟨0, rfl, Nat.zero_le _, C9⟩
            case round =>
              clear C9 C8
              obtain ⟨i, rfl, hi, C9⟩ := hrel
              generalize wr = W9 at *
              by_cases hik : i ≤ k
              · have q0 : decide (i ≤ k) = true := decide_eq_true hik
                have q0' : decide ((i : Int) ≤ (k : Int)) = true := decide_eq_true (by omega)
                have hiL : i < L.length := by rw [HL.out]; omega
                obtain ⟨g2, o2, e, hg2, hc2⟩ := H.out.cell i hiL
                simp only [Option.some.injEq, Addr.mk.injEq] at e
                obtain ⟨rfl, rfl, _⟩ := e
                have hop2 := (H.out.ops _ (List.getElem_mem hiL))
                have hox2 := HXX.out _ (List.getElem_mem hiL)
                obtain ⟨p2, hp2⟩ : ∃ p, L[i] = p := ⟨_, rfl⟩
                rw [hp2] at hc2 hop2 hox2
                obtain ⟨op2, ol2⟩ := p2
                simp only at hc2 hop2
                have cw9 := HCW7.out.trans C9.out
                have CC2 := Lib.hid (fun (c : Nat) (v : Value) (hv : (opC op2 ol2)[c]? = some v) => (World.cell?_of_block (a := ⟨g, o + i * 9 + c, none⟩) (cw9.block g hg2 (fun f => f))).trans (hc2 c v hv))
                have y0 : W9.cell? ⟨g, o + i * 9, none⟩ = some (.int .u8 (op2.k : Nat)) := CC2.out 0 _ rfl
                have y1 : W9.cell? ⟨g, o + i * 9 + 1, none⟩ = some (.int .u32 (op2.n : Nat)) := CC2.out 1 _ rfl
                have y2 : W9.cell? ⟨g, o + i * 9 + 2, none⟩ = some (.int .u64 (op2.st : Nat)) := CC2.out 2 _ rfl
                have y3 : W9.cell? ⟨g, o + i * 9 + 3, none⟩ = some (.slice ol2.ko op2.keys.length ol2.kc) := CC2.out 3 _ rfl
                have y4 : W9.cell? ⟨g, o + i * 9 + 4, none⟩ = some (.slice ol2.no op2.needs.length ol2.nc) := CC2.out 4 _ rfl
                have y5 : W9.cell? ⟨g, o + i * 9 + 5, none⟩ = some (.string op2.pred) := CC2.out 5 _ rfl
                have y6 : W9.cell? ⟨g, o + i * 9 + 6, none⟩ = some (.int .u32 (op2.g : Nat)) := CC2.out 6 _ rfl
                have y7 : W9.cell? ⟨g, o + i * 9 + 7, none⟩ = some (.int .u32 (op2.to : Nat)) := CC2.out 7 _ rfl
                have y8 : W9.cell? ⟨g, o + i * 9 + 8, none⟩ = some (.int .u64 (op2.at_ : Nat)) := CC2.out 8 _ rfl
                have A1 := Lib.hid (ASK.out W9 C9.out op2 ol2 (hop2.1.same cw9) hop2.2 hox2.sz)
                have i0 : (0 : Int) ≤ i := by omega
                have i1 : (i : Int) < N := by omega
                have i2 : i ≤ 100 := by omega
                clear hg2 hc2 hop2 hox2 hp2 hiL cw9 CC2
                go_wp2_with fail
                refine A1.out.mono ?_
                rintro e W10 ⟨rfl, c10⟩
                have C10 := Lib.hid (C9.out.trans c10)
                clear A1 c10 y0 y1 y2 y3 y4 y5 y6 y7 y8
                go_wp2_with fail
                go_roundw
                case rel => exact ⟨i + 3, by go_num, by omega, C10⟩
                case measure => simp [intOf]; omega
              · have q0 : decide (i ≤ k) = false := decide_eq_false hik
                have q0' : decide ((i : Int) ≤ (k : Int)) = false := decide_eq_false (by omega)
                have hb19 := (C9.out.block _ (Array.getElem?_eq_some_iff.1 HB17.out).1 (fun f => f)).trans HB17.out
                have y0 : W9.cell? ⟨b1, 0, none⟩ = some (.int .i64 (ac : Nat)) := cell_of hb19 rfl
                have HFIN := Lib.hid (fun (u : World) (cu : Chg (fun _ => False) W7 u) => (show PlAt w u bs bx (k + 1) (applyM n op).1 (rapplyM r op).1 F1 G1 from
                  ⟨HP7.out.same cu, HCW7.out.trans cu, fun g' f => by
                    rcases HQ.out.2.1 g' f with f | f
                    · exact HP.out.fn g' f
                    · have := HCW.out.size; omega, fun g' f => by
                    rcases HQ.out.2.2.1 g' f with f | f
                    · exact HP.out.gn g' f
                    · have := HCW.out.size; omega, HAL2.out, HFIT.out, HLIM.out⟩))
                clear hb19 ASK
                by_cases hac : ac = 0
                · subst hac
                  go_wp2_with fail
                  go_roundw
                  case rel => exact ⟨k + 1, _, _, _, _, by go_num, by omega, Lib.hid (HFIN.out _ C9.out)⟩
                  case measure => simp [intOf]; omega
                · have v1 : ((ac : Int) != 0) = true := by simp; omega
                  have v2 : ((ac : Int) == 0) = false := by simp; omega
                  have hsame : (applyM n op).1 = n := refused_same (by rw [HAN.out]; exact hac)
                  have SY := Lib.hid (show Calls Tryz.prog 16 #[.pointer (some ⟨cb, 0, none⟩), .pointer (some ⟨bs, 0, none⟩)] W9 (fun e w' => e = .returned (.bool true) ∧ Chg (fun _ => False) W9 w') from by
                    obtain ⟨R7, hR7⟩ := (HP7.out.same C9.out).s
                    obtain ⟨R8, hR8⟩ := HCB7.out.same C9.out
                    rw [hsame] at hR7
                    exact same_yes hR8 hR7)
                  have HAC := Lib.hid hac
                  clear hsame hac
                  go_wp2_with fail
                  refine SY.out.mono ?_
                  rintro e W10 ⟨rfl, c10⟩
                  have C10 := Lib.hid (C9.out.trans c10)
                  clear SY c10 y0
                  go_wp2_with fail
                  go_roundw
                  case rel => exact ⟨k + 1, _, _, _, _, by go_num, by omega, Lib.hid (HFIN.out _ C10.out)⟩
                  case measure => simp [intOf]; omega
    · obtain rfl : k = N := by omega
      have d0 : decide ((k : Int) < (k : Int)) = false := by simp
      obtain ⟨R, hR⟩ := HP.out.p.s
      obtain ⟨Q, hQ⟩ := HP.out.p.x
      have CY := Lib.hid (copy_any hR (fun x => Nat.le_trans (HP.out.lim.com x) (by omega)))
      have HS := Lib.hid (fun (u : World) (cu : Chg (fun _ => False) W0 u) => hR.same cu)
      have HX := Lib.hid (fun (u : World) (cu : Chg (fun _ => False) W0 u) => hQ.same cu)
      clear hR hQ
      go_wp2_with fail
      refine CY.out.mono ?_
      rintro e W1 ⟨cb, rfl, hcb, c1⟩
      have C1 := Lib.hid c1
      obtain ⟨Rc, hRc⟩ := hcb.tight
      have HCB := Lib.hid hRc
      have SY := Lib.hid (same_yes hRc (HS.out _ c1))
      clear c1 hcb hRc CY
      go_wp2_with fail
      refine SY.out.mono ?_
      rintro e W2 ⟨rfl, c2⟩
      have C2 := Lib.hid c2
      have TO := Lib.hid (timesop_any W2 1 (by decide))
      clear c2 SY
      go_wp2_with fail
      refine TO.out.mono ?_
      rintro e W3 ⟨rfl, c3⟩
      have C3 := Lib.hid c3
      have AP := Lib.hid (apply_all (o := opT 1) (l := ⟨none, 0, none, 0⟩) ((HCB.out.same C2.out).same c3) (fun g f => by have := f.2; have := C2.out.size; have := c3.size; omega) (opT_at W3 (by decide)) (by decide) (HP.out.lim.mono (by omega)) (fun g o e => by rcases e with ⟨_, e⟩ | ⟨_, e⟩ <;> cases e))
      clear c3 TO
      go_wp2_with fail
      refine AP.out.mono ?_
      rintro e W4 ⟨rfl, hT⟩
      have hcw4 : Chg (fun _ => False) W0 W4 := ((C1.out.trans C2.out).trans C3.out).trans' hT.chg (fun g f => Or.inr f.1)
      obtain ⟨R4, hR4⟩ := hT.is
      have hne : (applyM n (opT 1)).1.time ≠ n.time := by
        have hm : mayM (opT 1) = true := by kernel_rfl
        unfold applyM
        rw [if_pos hm]
        show n.time + 1 ≠ n.time
        omega
      have SN := Lib.hid (same_no hR4 (HS.out _ hcw4) hne)
      have HCW4 := Lib.hid hcw4
      clear hT hcw4 hR4 hne AP
      go_wp2_with fail
      refine SN.out.mono ?_
      rintro e W5 ⟨rfl, c5⟩
      have C5 := Lib.hid (HCW4.out.trans c5)
      have ST := Lib.hid (stands_any (HS.out _ C5.out) (HX.out _ C5.out) HP.out.al HP.out.fit (by omega))
      clear c5 SN
      go_wp2_with fail
      refine ST.out.mono ?_
      rintro e W6 ⟨rfl, c6⟩
      have C6 := Lib.hid ((HP.out.chg.trans C5.out).trans c6)
      clear c6 ST
      go_wp2_with fail
      go_ret
      exact ⟨rfl, C6.out⟩
end Go.Proofs.YtgmmglmokkcgeaaGreat
/- OraclePlays' walk, as its frame wants it. -/
namespace Go.Proofs.YtgmmglmokkcgeaaGreat
open Go.RowKit Mk Go.Sort
theorem playsIs {v : Value} {W : World} (h : ∃ so n cp L, v = .slice so n cp ∧ L.length = n ∧ OpsAt W so L ∧ ∀ p ∈ L, OpX p) :
    Calls Tryz.prog 5 #[v] W fun e w' => e = .returned (.bool true) ∧ Below W.heap.size W w' := by
  obtain ⟨so, n, cp, L, rfl, hl, ha, hx⟩ := h
  exact (walkOraclePlays (cp := cp) ha hl hx).mono fun e w' hh => ⟨hh.1, below_of_chg hh.2⟩
end Go.Proofs.YtgmmglmokkcgeaaGreat
