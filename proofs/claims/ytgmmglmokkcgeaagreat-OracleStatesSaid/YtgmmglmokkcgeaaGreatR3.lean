/- Lists of structs in memory, laid by appends; the document's oracle in memory. -/
import Derived.Test.YtgmmglmokkcgeaaGreatX1
import Derived.Test.YtgmmglmokkcgeaaGreatA5
namespace Go.Proofs.YtgmmglmokkcgeaaGreat
set_option linter.unusedVariables false
set_option linter.unusedSimpArgs false
set_option linter.unusedSectionVars false
open Go.RowKit Mk Go.Sort

theorem sl_typ {w : World} {e : TypeId} {size : Nat} {v : Value} {n : Nat} {xs : List Value} (h : sl w e size v n xs) {g : Nat} (hg : v.ownBlock = some g) : ∃ cur, w.heap[g]? = some (.cells cur e) := by
  rcases h.2 with ⟨rfl, _⟩ | ⟨g', cap, cur, rfl, hh, _⟩
  · simp [Value.ownBlock] at hg
  · simp [Value.ownBlock] at hg; subst hg; exact ⟨cur, hh⟩
theorem sl_shape {w : World} {e : TypeId} {size : Nat} {v : Value} {n : Nat} {xs : List Value} (h : sl w e size v n xs) : ∃ o c, v = .slice o n c := by
  rcases h.2 with ⟨rfl, e⟩ | ⟨g, cap, cur, rfl, _⟩
  · exact ⟨_, _, by rw [e]⟩
  · exact ⟨_, _, rfl⟩
theorem typ_ne {w : World} {g g' : Nat} {c c' : Array Value} {t t' : TypeId} (h : w.heap[g]? = some (.cells c t)) (h' : w.heap[g']? = some (.cells c' t')) (ht : t ≠ t') : g ≠ g' := by
  rintro rfl
  rw [h] at h'
  injection h' with h'
  injection h' with _ h'
  exact ht h'
theorem flat_at {α β : Type} {f : α → List β} {s : Nat} (hf : ∀ a, (f a).length = s) : ∀ (L : List α) (i c : Nat) (hi : i < L.length), c < s → (L.flatMap f)[i * s + c]? = (f L[i])[c]?
  | [], i, c, hi, hc => by simp at hi
  | a :: L, 0, c, hi, hc => by
    rw [List.flatMap_cons, Nat.zero_mul, Nat.zero_add, List.getElem?_append_left (by rw [hf]; exact hc)]
    rfl
  | a :: L, i + 1, c, hi, hc => by
    rw [List.flatMap_cons, List.getElem?_append_right (by rw [hf, Nat.succ_mul]; omega), hf]
    have e : (i + 1) * s + c - s = i * s + c := by rw [Nat.succ_mul]; omega
    rw [e, flat_at hf L i c (by simpa using hi) hc]
    rfl
/-- A type's row of the table. -/
structure El (e size bytes : Nat) : Prop where
  has : ∃ (i : TypeInfo) (z : Value), Tryz.prog.info? e = some i ∧ i.zero = some z ∧ i.size = size ∧ i.bytes = bytes ∧ z.cells.size = size
theorem el_of {e size bytes : Nat} (h : ((Tryz.prog.info? e).map fun i => (i.size, i.bytes, i.zero.map (·.cells.size))) = some (size, bytes, some size)) : El e size bytes := ⟨by
  cases hi : Tryz.prog.info? e with
  | none => rw [hi] at h; cases h
  | some i =>
    rw [hi] at h
    simp only [Option.map_some, Option.some.injEq, Prod.mk.injEq] at h
    obtain ⟨h1, h2, h3⟩ := h
    cases hz : i.zero with
    | none => rw [hz] at h3; cases h3
    | some z => rw [hz] at h3; exact ⟨i, z, rfl, hz, h1, h2, by simpa using h3⟩⟩
/-- A slice that a function lays for itself: behind its start, of these elements. -/
structure Out {α : Type} (W0 : World) (e size : Nat) (enc : α → List Value) (O : List α) (ov : Value) (wr : World) : Prop where
  has : sl wr e size ov O.length (O.flatMap enc)
  own : ∀ g, ov.ownBlock = some g → W0.heap.size ≤ g
  chg : Chg (fun _ => False) W0 wr
section
variable {α : Type} {W0 wr w4 : World} {e size bytes : Nat} {enc : α → List Value} {O : List α} {ov ov' : Value}
theorem Out.nil (W0 : World) (e size : Nat) (enc : α → List Value) : Out W0 e size enc [] (.slice none 0 0) W0 := ⟨sl_nil _ _ _, fun g e => by simp [Value.ownBlock] at e, Chg.refl _ _⟩
theorem Out.same (h : Out W0 e size enc O ov wr) (c : Chg (fun _ => False) wr w4) : Out W0 e size enc O ov w4 := ⟨h.has.stay (fun g hg => c.block g (h.has.lt hg) (fun f => f)), h.own, h.chg.trans c⟩
theorem Out.row (h : Out W0 e size enc O ov wr) (o : Obj) : sl (wr.alloc o) e size ov O.length (O.flatMap enc) := sl.stay h.has (fun g hg => Below.heap_alloc _ _ _ (sl.lt h.has hg))
theorem Out.step (h : Out W0 e size enc O ov wr) {p : α} {o : Obj} (hs : sl w4 e size ov' (O.length + 1) (O.flatMap enc ++ enc p)) (hg : (wr.alloc o).grownBy w4 ov.ownBlock) (ha : ov'.ownBlock = ov.ownBlock ∨ ov'.ownBlock = some (wr.alloc o).heap.size) :
    (∃ o' c', ov' = .slice o' (O.length + 1) c') ∧ Out W0 e size enc (O ++ [p]) ov' w4 := by
  have hs' : sl w4 e size ov' (O ++ [p]).length ((O ++ [p]).flatMap enc) := by rw [List.length_append, List.flatMap_append]; simpa using hs
  refine ⟨sl_shape hs, hs', fun g hg' => ?_, ?_⟩
  · rcases ha with e | e
    · exact h.own g (by rw [← e]; exact hg')
    · rw [e] at hg'
      have := Option.some.inj hg'
      have := h.chg.size
      simp only [World.size_alloc] at *
      omega
  · exact (h.chg.alloc _).grown hg (fun i hi => Or.inr (h.own i hi))
theorem cells_new {w : World} {cs : List Value} {t : TypeId} : ∀ j u, cs[j]? = some u → (w.alloc (.cells cs.toArray t)).cell? ((⟨w.heap.size, 0, none⟩ : Addr).add j) = some u := by
  intro j u hj
  rw [Addr.add_mid]
  exact cell_of (Go.heap_alloc_new _ _) (by simpa using hj)
/-- One element is appended to what a function lays. -/
theorem wpList_out {ops : Array Oper} {rest : List Oper} {o : Oper} {a : Act} {Q : Exit → Act → World → Prop} (hgd : o.guard = none) (s x : Operand) (t : TypeId)
    (ho : o.op = .call { callee := .builtin .append, args := #[s, x], argTypes := #[t, t] }) (ht : Tryz.prog.underlying t = some (.slice e)) (hE : El e size bytes) (hsz : 0 < size)
    (oo : Option Addr) (oc : Nat) (HO : Hid (Out W0 e size enc O (.slice oo O.length oc) wr)) (hs : a.eval s = .slice oo O.length oc) (p : α) (hp : (enc p).length = size)
    (hx : a.eval x = .slice (some ⟨wr.heap.size, 0, none⟩) 1 1) (h1 : ∀ u ∈ enc p, u.oneCell' = true) (h63 : O.length + 1 ≤ maxLen) (hb : (O.length + 1) * bytes ≤ 140737488355328)
    (h : ∀ o' c' w', Hid (Out W0 e size enc (O ++ [p]) (.slice o' (O.length + 1) c') w') → wpList Tryz.prog ops Q rest (a.put o.dst (.slice o' (O.length + 1) c')) w') :
    wpList Tryz.prog ops Q (o :: rest) a (wr.alloc (.cells (enc p).toArray e)) := by
  obtain ⟨i, z, hi, hz, hsi, hby, hzs⟩ := hE.has
  refine wpList_append_sl hgd s x t ho e i z size bytes ht hi hz hsi hby hzs hsz (.slice oo O.length oc) O.length (O.flatMap enc) hs (HO.out.row _) (some ⟨wr.heap.size, 0, none⟩) 1 1 (enc p) hx (by rw [Nat.one_mul]; exact hp) (fun _ => ⟨_, rfl, cells_new⟩) (fun h => absurd h (by decide)) h1 h63 hb ?_
  intro v' w' hs' hg ha
  obtain ⟨⟨o', c', rfl⟩, hn⟩ := HO.out.step hs' hg ha
  exact h o' c' w' (Lib.hid hn)
theorem Out.cell (h : Out W0 e size enc O ov wr) (hE : ∀ a, (enc a).length = size) {i c : Nat} (hi : i < O.length) (hc : c < size) {u : Value} (hu : (enc O[i])[c]? = some u) : ∃ g cap, ov = .slice (some ⟨g, 0, none⟩) O.length cap ∧ wr.cell? ⟨g, i * size + c, none⟩ = some u :=
  sl.cell h.has (by rw [flat_at hE _ _ _ hi hc]; exact hu)
end

theorem el139 : El 139 2 16 := el_of (by kernel_rfl)
theorem el141 : El 141 2 24 := el_of (by kernel_rfl)
theorem el41 : El 41 5 40 := el_of (by kernel_rfl)
theorem el145 : El 145 2 40 := el_of (by kernel_rfl)
theorem el24 : El 24 1 8 := el_of (by kernel_rfl)

def dE (p : Nat × Nat) : List Value := [.int .u64 (p.1 : Nat), .int .u64 (p.2 : Nat)]
def kE (p : ByteArray × Nat) : List Value := [.string p.1, .int .u64 (p.2 : Nat)]
def tE (p : ByteArray × Tb) : List Value := [.string p.1, .int .u32 (p.2.g : Nat), .int .u32 (p.2.to : Nat), .int .u64 (p.2.at_ : Nat), .int .u64 (p.2.tn : Nat)]
def cE (p : (ByteArray × List Nat) × Value) : List Value := [.string p.1.1, p.2]
structure RV where
  d : Value
  k : Value
  t : Value
  c : Value
  cl : List ((ByteArray × List Nat) × Value)
abbrev rC (r : RM) (R : RV) : Array Value := #[.int .u64 (r.time : Nat), .int .u64 (r.uid : Nat), .int .u64 (r.mark : Nat), R.d, R.k, R.t, R.c]
structure RRep (w : World) (b : Nat) (R : RV) (F : Nat → Prop) (r : RM) : Prop where
  box : w.heap[b]? = some (.cells (rC r R) 69)
  d : sl w 139 2 R.d r.d.length (r.d.flatMap dE)
  k : sl w 141 2 R.k r.k.length (r.k.flatMap kE)
  t : sl w 41 5 R.t r.t.length (r.t.flatMap tE)
  c : sl w 145 2 R.c R.cl.length (R.cl.flatMap cE)
  cl : R.cl.map (·.1) = r.c
  inn : ∀ p ∈ R.cl, sl w 24 1 p.2 p.1.2.length (timesV p.1.2)
  fb : F b
  fd : ∀ g, R.d.ownBlock = some g → F g
  fk : ∀ g, R.k.ownBlock = some g → F g
  ft : ∀ g, R.t.ownBlock = some g → F g
  fc : ∀ g, R.c.ownBlock = some g → F g
  fi : ∀ p ∈ R.cl, ∀ g, p.2.ownBlock = some g → F g
structure RTo (w : World) (b : Nat) (F : Nat → Prop) (r : RM) (w' : World) : Prop where
  is : ∃ R, RRep w' b R (fun g => F g ∨ w.heap.size ≤ g) r
  chg : Chg F w w'
section
variable {w w' w1 w2 : World} {b : Nat} {R : RV} {F G : Nat → Prop} {r r1 r2 : RM}
theorem RRep.lt (h : RRep w b R F r) : b < w.heap.size := (Array.getElem?_eq_some_iff.1 h.box).1
theorem RRep.stay (h : RRep w b R F r) (c : Chg G w w') (hd : ∀ i, F i → ¬ G i) : RRep w' b R F r where
  box := (c.block b h.lt (hd _ h.fb)).trans h.box
  d := h.d.stay (fun g hg => c.block g (h.d.lt hg) (hd _ (h.fd g hg)))
  k := h.k.stay (fun g hg => c.block g (h.k.lt hg) (hd _ (h.fk g hg)))
  t := h.t.stay (fun g hg => c.block g (h.t.lt hg) (hd _ (h.ft g hg)))
  c := h.c.stay (fun g hg => c.block g (h.c.lt hg) (hd _ (h.fc g hg)))
  cl := h.cl
  inn p hp := (h.inn p hp).stay (fun g hg => c.block g ((h.inn p hp).lt hg) (hd _ (h.fi p hp g hg)))
  fb := h.fb
  fd := h.fd
  fk := h.fk
  ft := h.ft
  fc := h.fc
  fi := h.fi
theorem RRep.same (h : RRep w b R F r) (c : Chg (fun _ => False) w w') : RRep w' b R F r := h.stay c (fun _ _ f => f)
theorem RRep.wide (h : RRep w b R F r) (hG : ∀ g, F g → G g) : RRep w b R G r :=
  ⟨h.box, h.d, h.k, h.t, h.c, h.cl, h.inn, hG _ h.fb, fun g e => hG _ (h.fd g e), fun g e => hG _ (h.fk g e), fun g e => hG _ (h.ft g e), fun g e => hG _ (h.fc g e), fun p hp g e => hG _ (h.fi p hp g e)⟩
theorem RRep.tight (h : RRep w b R F r) : RRep w b R (fun g => F g ∧ g < w.heap.size) r :=
  ⟨h.box, h.d, h.k, h.t, h.c, h.cl, h.inn, ⟨h.fb, h.lt⟩, fun g e => ⟨h.fd g e, h.d.lt e⟩, fun g e => ⟨h.fk g e, h.k.lt e⟩, fun g e => ⟨h.ft g e, h.t.lt e⟩, fun g e => ⟨h.fc g e, h.c.lt e⟩, fun p hp g e => ⟨h.fi p hp g e, (h.inn p hp).lt e⟩⟩
theorem RRep.to (h : RRep w b R F r) (c : Chg F w w') (h' : RRep w' b R F r1) : RTo w b F r1 w' := ⟨⟨R, h'.wide (fun _ => Or.inl)⟩, c⟩
theorem RTo.trans (h : RTo w b F r1 w1) (h2 : RTo w1 b (fun g => F g ∨ w.heap.size ≤ g) r2 w2) : RTo w b F r2 w2 := by
  obtain ⟨R, hr⟩ := h2.is
  exact ⟨⟨R, hr.wide (fun g e => by rcases e with e | e; exact e; exact Or.inr (Nat.le_trans h.chg.size e))⟩, h.chg.trans' h2.chg (fun _ e => e)⟩
theorem RRep.d_at (h : RRep w b R F r) {i : Nat} (hi : i < r.d.length) : ∃ g cap, R.d = .slice (some ⟨g, 0, none⟩) r.d.length cap ∧ g < w.heap.size ∧ w.cell? ⟨g, i * 2, none⟩ = some (.int .u64 (r.d[i].1 : Nat)) ∧ w.cell? ⟨g, i * 2 + 1, none⟩ = some (.int .u64 (r.d[i].2 : Nat)) := by
  obtain ⟨g, cap, e, c0⟩ := sl.cell h.d (i := i * 2 + 0) (u := .int .u64 (r.d[i].1 : Nat)) (by rw [flat_at (f := dE) (s := 2) (fun _ => rfl) _ _ _ hi (by decide)]; rfl)
  obtain ⟨g', cap', e', c1⟩ := sl.cell h.d (i := i * 2 + 1) (u := .int .u64 (r.d[i].2 : Nat)) (by rw [flat_at (f := dE) (s := 2) (fun _ => rfl) _ _ _ hi (by decide)]; rfl)
  rw [e] at e'
  cases e'
  exact ⟨g, cap, e, h.d.lt (by rw [e]; rfl), c0, c1⟩
theorem RRep.k_at (h : RRep w b R F r) {i : Nat} (hi : i < r.k.length) : ∃ g cap, R.k = .slice (some ⟨g, 0, none⟩) r.k.length cap ∧ g < w.heap.size ∧ w.cell? ⟨g, i * 2, none⟩ = some (.string r.k[i].1) ∧ w.cell? ⟨g, i * 2 + 1, none⟩ = some (.int .u64 (r.k[i].2 : Nat)) := by
  obtain ⟨g, cap, e, c0⟩ := sl.cell h.k (i := i * 2 + 0) (u := .string r.k[i].1) (by rw [flat_at (f := kE) (s := 2) (fun _ => rfl) _ _ _ hi (by decide)]; rfl)
  obtain ⟨g', cap', e', c1⟩ := sl.cell h.k (i := i * 2 + 1) (u := .int .u64 (r.k[i].2 : Nat)) (by rw [flat_at (f := kE) (s := 2) (fun _ => rfl) _ _ _ hi (by decide)]; rfl)
  rw [e] at e'
  cases e'
  exact ⟨g, cap, e, h.k.lt (by rw [e]; rfl), c0, c1⟩
theorem RRep.t_at (h : RRep w b R F r) {i : Nat} (hi : i < r.t.length) : ∃ g cap, R.t = .slice (some ⟨g, 0, none⟩) r.t.length cap ∧ g < w.heap.size ∧ w.cell? ⟨g, i * 5, none⟩ = some (.string r.t[i].1) ∧ w.cell? ⟨g, i * 5 + 1, none⟩ = some (.int .u32 (r.t[i].2.g : Nat)) ∧
    w.cell? ⟨g, i * 5 + 2, none⟩ = some (.int .u32 (r.t[i].2.to : Nat)) ∧ w.cell? ⟨g, i * 5 + 3, none⟩ = some (.int .u64 (r.t[i].2.at_ : Nat)) ∧ w.cell? ⟨g, i * 5 + 4, none⟩ = some (.int .u64 (r.t[i].2.tn : Nat)) := by
  obtain ⟨g, cap, e, c0⟩ := sl.cell h.t (i := i * 5 + 0) (u := .string r.t[i].1) (by rw [flat_at (f := tE) (s := 5) (fun _ => rfl) _ _ _ hi (by decide)]; rfl)
  obtain ⟨g1, cap1, e1, c1⟩ := sl.cell h.t (i := i * 5 + 1) (u := .int .u32 (r.t[i].2.g : Nat)) (by rw [flat_at (f := tE) (s := 5) (fun _ => rfl) _ _ _ hi (by decide)]; rfl)
  obtain ⟨g2, cap2, e2, c2⟩ := sl.cell h.t (i := i * 5 + 2) (u := .int .u32 (r.t[i].2.to : Nat)) (by rw [flat_at (f := tE) (s := 5) (fun _ => rfl) _ _ _ hi (by decide)]; rfl)
  obtain ⟨g3, cap3, e3, c3⟩ := sl.cell h.t (i := i * 5 + 3) (u := .int .u64 (r.t[i].2.at_ : Nat)) (by rw [flat_at (f := tE) (s := 5) (fun _ => rfl) _ _ _ hi (by decide)]; rfl)
  obtain ⟨g4, cap4, e4, c4⟩ := sl.cell h.t (i := i * 5 + 4) (u := .int .u64 (r.t[i].2.tn : Nat)) (by rw [flat_at (f := tE) (s := 5) (fun _ => rfl) _ _ _ hi (by decide)]; rfl)
  rw [e] at e1 e2 e3 e4
  cases e1
  cases e2
  cases e3
  cases e4
  exact ⟨g, cap, e, h.t.lt (by rw [e]; rfl), c0, c1, c2, c3, c4⟩
theorem RRep.cl_len (h : RRep w b R F r) : R.cl.length = r.c.length := by have := congrArg List.length h.cl; simpa using this
theorem RRep.c_at (h : RRep w b R F r) {i : Nat} (hi : i < R.cl.length) : ∃ g cap, R.c = .slice (some ⟨g, 0, none⟩) R.cl.length cap ∧ g < w.heap.size ∧ w.cell? ⟨g, i * 2, none⟩ = some (.string R.cl[i].1.1) ∧ w.cell? ⟨g, i * 2 + 1, none⟩ = some R.cl[i].2 := by
  obtain ⟨g, cap, e, c0⟩ := sl.cell h.c (i := i * 2 + 0) (u := .string R.cl[i].1.1) (by rw [flat_at (f := cE) (s := 2) (fun _ => rfl) _ _ _ hi (by decide)]; rfl)
  obtain ⟨g', cap', e', c1⟩ := sl.cell h.c (i := i * 2 + 1) (u := R.cl[i].2) (by rw [flat_at (f := cE) (s := 2) (fun _ => rfl) _ _ _ hi (by decide)]; rfl)
  rw [e] at e'
  cases e'
  exact ⟨g, cap, e, h.c.lt (by rw [e]; rfl), c0, c1⟩
/-- A cell of the box is set: no list's block. -/
theorem RRep.off (h : RRep w b R F r) : (∀ g, R.d.ownBlock = some g → g ≠ b) ∧ (∀ g, R.k.ownBlock = some g → g ≠ b) ∧ (∀ g, R.t.ownBlock = some g → g ≠ b) ∧ (∀ g, R.c.ownBlock = some g → g ≠ b) ∧ ∀ p ∈ R.cl, ∀ g, p.2.ownBlock = some g → g ≠ b :=
  ⟨fun g e => by obtain ⟨c, hc⟩ := sl_typ h.d e; exact typ_ne hc h.box (by decide), fun g e => by obtain ⟨c, hc⟩ := sl_typ h.k e; exact typ_ne hc h.box (by decide), fun g e => by obtain ⟨c, hc⟩ := sl_typ h.t e; exact typ_ne hc h.box (by decide), fun g e => by obtain ⟨c, hc⟩ := sl_typ h.c e; exact typ_ne hc h.box (by decide), fun p hp g e => by obtain ⟨c, hc⟩ := sl_typ (h.inn p hp) e; exact typ_ne hc h.box (by decide)⟩
theorem RRep.setBox (h : RRep w b R F r) {r' : RM} {i : Nat} {v : Value} (e : (rC r R).setIfInBounds i v = rC r' R) (e1 : r'.d = r.d) (e2 : r'.k = r.k) (e3 : r'.t = r.t) (e4 : r'.c = r.c) : w.frozen? ⟨b, i, none⟩ = false ∧ RRep (w.setCell ⟨b, i, none⟩ v) b R F r' := by
  obtain ⟨o1, o2, o3, o4, o5⟩ := h.off
  have hk : ∀ g, g ≠ b → (w.setCell ⟨b, i, none⟩ v).heap[g]? = w.heap[g]? := fun g hg => Below.heap_setCell w ⟨b, i, none⟩ _ g hg
  refine ⟨frozen_of h.box, by rw [Mk.heap_setCell_same h.box, e], ?_, ?_, ?_, h.c.stay (fun g e => hk _ (o4 g e)), by rw [e4]; exact h.cl, fun p hp => (h.inn p hp).stay (fun g e => hk _ (o5 p hp g e)), h.fb, h.fd, h.fk, h.ft, h.fc, h.fi⟩
  · rw [e1]; exact h.d.stay (fun g e => hk _ (o1 g e))
  · rw [e2]; exact h.k.stay (fun g e => hk _ (o2 g e))
  · rw [e3]; exact h.t.stay (fun g e => hk _ (o3 g e))
theorem RRep.putD (h : RRep w b R F r) {D : List (Nat × Nat)} {v : Value} (o : Out w 139 2 dE D v w1) : w1.frozen? ⟨b, 3, none⟩ = false ∧ w1.cell? ⟨b, 3, none⟩ = some R.d ∧ RTo w b F { r with d := D } (w1.setCell ⟨b, 3, none⟩ v) := by
  have h1 := h.same o.chg
  obtain ⟨o1, o2, o3, o4, o5⟩ := h1.off
  have hk : ∀ g, g ≠ b → (w1.setCell ⟨b, 3, none⟩ v).heap[g]? = w1.heap[g]? := fun g hg => Below.heap_setCell w1 ⟨b, 3, none⟩ _ g hg
  refine ⟨frozen_of h1.box, cell_of h1.box (i := 3) (v := R.d) rfl, ⟨{ R with d := v }, by rw [Mk.heap_setCell_same h1.box]; rfl, o.has.stay (fun g e => hk g (by have := o.own g e; have := h.lt; omega)), h1.k.stay (fun g e => hk _ (o2 g e)), h1.t.stay (fun g e => hk _ (o3 g e)), h1.c.stay (fun g e => hk _ (o4 g e)), h.cl, fun p hp => (h1.inn p hp).stay (fun g e => hk _ (o5 p hp g e)), Or.inl h.fb, fun g e => Or.inr (o.own g e), fun g e => Or.inl (h.fk g e), fun g e => Or.inl (h.ft g e), fun g e => Or.inl (h.fc g e), fun p hp g e => Or.inl (h.fi p hp g e)⟩, ?_⟩
  exact (o.chg.mono (fun _ f => f.elim)).setCell (a := ⟨b, 3, none⟩) (Or.inl h.fb) _
theorem RRep.putK (h : RRep w b R F r) {D : List (ByteArray × Nat)} {v : Value} (o : Out w 141 2 kE D v w1) : w1.frozen? ⟨b, 4, none⟩ = false ∧ w1.cell? ⟨b, 4, none⟩ = some R.k ∧ RTo w b F { r with k := D } (w1.setCell ⟨b, 4, none⟩ v) := by
  have h1 := h.same o.chg
  obtain ⟨o1, o2, o3, o4, o5⟩ := h1.off
  have hk : ∀ g, g ≠ b → (w1.setCell ⟨b, 4, none⟩ v).heap[g]? = w1.heap[g]? := fun g hg => Below.heap_setCell w1 ⟨b, 4, none⟩ _ g hg
  refine ⟨frozen_of h1.box, cell_of h1.box (i := 4) (v := R.k) rfl, ⟨{ R with k := v }, by rw [Mk.heap_setCell_same h1.box]; rfl, h1.d.stay (fun g e => hk _ (o1 g e)), o.has.stay (fun g e => hk g (by have := o.own g e; have := h.lt; omega)), h1.t.stay (fun g e => hk _ (o3 g e)), h1.c.stay (fun g e => hk _ (o4 g e)), h.cl, fun p hp => (h1.inn p hp).stay (fun g e => hk _ (o5 p hp g e)), Or.inl h.fb, fun g e => Or.inl (h.fd g e), fun g e => Or.inr (o.own g e), fun g e => Or.inl (h.ft g e), fun g e => Or.inl (h.fc g e), fun p hp g e => Or.inl (h.fi p hp g e)⟩, ?_⟩
  exact (o.chg.mono (fun _ f => f.elim)).setCell (a := ⟨b, 4, none⟩) (Or.inl h.fb) _
theorem RRep.putT (h : RRep w b R F r) {D : List (ByteArray × Tb)} {v : Value} (o : Out w 41 5 tE D v w1) : w1.frozen? ⟨b, 5, none⟩ = false ∧ w1.cell? ⟨b, 5, none⟩ = some R.t ∧ RTo w b F { r with t := D } (w1.setCell ⟨b, 5, none⟩ v) := by
  have h1 := h.same o.chg
  obtain ⟨o1, o2, o3, o4, o5⟩ := h1.off
  have hk : ∀ g, g ≠ b → (w1.setCell ⟨b, 5, none⟩ v).heap[g]? = w1.heap[g]? := fun g hg => Below.heap_setCell w1 ⟨b, 5, none⟩ _ g hg
  refine ⟨frozen_of h1.box, cell_of h1.box (i := 5) (v := R.t) rfl, ⟨{ R with t := v }, by rw [Mk.heap_setCell_same h1.box]; rfl, h1.d.stay (fun g e => hk _ (o1 g e)), h1.k.stay (fun g e => hk _ (o2 g e)), o.has.stay (fun g e => hk g (by have := o.own g e; have := h.lt; omega)), h1.c.stay (fun g e => hk _ (o4 g e)), h.cl, fun p hp => (h1.inn p hp).stay (fun g e => hk _ (o5 p hp g e)), Or.inl h.fb, fun g e => Or.inl (h.fd g e), fun g e => Or.inl (h.fk g e), fun g e => Or.inr (o.own g e), fun g e => Or.inl (h.fc g e), fun p hp g e => Or.inl (h.fi p hp g e)⟩, ?_⟩
  exact (o.chg.mono (fun _ f => f.elim)).setCell (a := ⟨b, 5, none⟩) (Or.inl h.fb) _
/-- The lists of commits: the elements' own slices are the old ones, or new. -/
theorem RRep.putC (h : RRep w b R F r) {D : List ((ByteArray × List Nat) × Value)} {v : Value} (o : Out w 145 2 cE D v w1) (hi : ∀ p ∈ D, sl w1 24 1 p.2 p.1.2.length (timesV p.1.2)) (hf : ∀ p ∈ D, ∀ g, p.2.ownBlock = some g → F g ∨ w.heap.size ≤ g) : w1.frozen? ⟨b, 6, none⟩ = false ∧ w1.cell? ⟨b, 6, none⟩ = some R.c ∧ RTo w b F { r with c := D.map (·.1) } (w1.setCell ⟨b, 6, none⟩ v) := by
  have h1 := h.same o.chg
  obtain ⟨o1, o2, o3, o4, o5⟩ := h1.off
  have hk : ∀ g, g ≠ b → (w1.setCell ⟨b, 6, none⟩ v).heap[g]? = w1.heap[g]? := fun g hg => Below.heap_setCell w1 ⟨b, 6, none⟩ _ g hg
  refine ⟨frozen_of h1.box, cell_of h1.box (i := 6) (v := R.c) rfl, ⟨{ R with c := v, cl := D }, by rw [Mk.heap_setCell_same h1.box]; rfl, h1.d.stay (fun g e => hk _ (o1 g e)), h1.k.stay (fun g e => hk _ (o2 g e)), h1.t.stay (fun g e => hk _ (o3 g e)), o.has.stay (fun g e => hk g (by have := o.own g e; have := h.lt; omega)), rfl, fun p hp => (hi p hp).stay (fun g e => hk _ (by obtain ⟨c, hc⟩ := sl_typ (hi p hp) e; exact typ_ne hc h1.box (by decide))), Or.inl h.fb, fun g e => Or.inl (h.fd g e), fun g e => Or.inl (h.fk g e), fun g e => Or.inl (h.ft g e), fun g e => Or.inr (o.own g e), hf⟩, ?_⟩
  exact (o.chg.mono (fun _ f => f.elim)).setCell (a := ⟨b, 6, none⟩) (Or.inl h.fb) _
end
end Go.Proofs.YtgmmglmokkcgeaaGreat
