/- The oracle's state in memory. -/
import Derived.Test.YtgmmglmokkcgeaaGreatA4
import Derived.Test.YtgmmglmokkcgeaaGreatRange
import Derived.StringKeys
namespace Go.Proofs.YtgmmglmokkcgeaaGreat
set_option linter.unusedVariables false
set_option linter.unusedSimpArgs false
open Go.RowKit Mk Go.Sort

def okU (x : Nat) : Prop := x < 18446744073709551616
def kvU (x : Nat) : Value := .int .u64 x
theorem keysU : Mk.Keys Tryz.prog 24 okU kvU where
  keyed := Go.Maps.int_keyed Tryz.underlying24
  inj a b h := by simp [kvU] at h; omega
  lit x hx := ⟨_, Go.Maps.keyOf_int_mk Tryz.underlying24 (by unfold okU at hx; exact WalkArith.wf_u64 (by omega))⟩
def okS (x : ByteArray) : Prop := x.size ≤ maxLen
def kvS (x : ByteArray) : Value := .string x
theorem keysS : Mk.Keys Tryz.prog 9 okS kvS where
  keyed := Go.Maps.string_keyed Tryz.underlying9
  inj a b h := by simpa [kvS] using h
  lit x hx := ⟨_, Go.WideMaps.keyOf_string_mk Tryz.underlying9 hx⟩
theorem lk_map {K V W : Type} [DecidableEq K] (f : V → W) (L : List (K × V)) (x : K) : lk (L.map fun p => (p.1, f p.2)) x = (lk L x).map f := by
  induction L with
  | nil => rfl
  | cons p L ih => simp only [List.map_cons, lk, ih]; split <;> rfl
theorem upd_map {K V W : Type} [DecidableEq K] (f : V → W) (L : List (K × V)) (x : K) (v : V) : upd (L.map fun p => (p.1, f p.2)) x (f v) = (upd L x v).map fun p => (p.1, f p.2) := by
  induction L with
  | nil => rfl
  | cons p L ih => simp only [List.map_cons, upd, ih]; split <;> rfl
theorem del_map {K V W : Type} [DecidableEq K] (f : V → W) (L : List (K × V)) (x : K) : del (L.map fun p => (p.1, f p.2)) x = (del L x).map fun p => (p.1, f p.2) := by
  induction L with
  | nil => rfl
  | cons p L ih => simp only [List.map_cons, del, ih]; split <;> rfl

def tbV (t : Tb) : Value := .agg #[.string t.p, .int .u32 (t.g : Nat), .int .u32 (t.to : Nat), .int .u64 (t.at_ : Nat), .int .u64 (t.tn : Nat)]
def nV (x : Nat) : Value := .int .u64 (x : Nat)
def nv {K : Type} (L : List (K × Nat)) : List (K × Value) := L.map fun p => (p.1, nV p.2)
def tv (L : List (ByteArray × Tb)) : List (ByteArray × Value) := L.map fun p => (p.1, tbV p.2)
/-- Where the state's maps lie. -/
structure Loc where
  d : Nat
  l : Nat
  t : Nat
  c : Nat
  rows : List (ByteArray × Value)
abbrev stC (n : OM) (R : Loc) : Array Value := #[.bool true, .int .u64 (n.time : Nat), .int .u64 (n.uid : Nat), .int .u64 (n.mark : Nat), .map (some R.d), .map (some R.l), .map (some R.t), .map (some R.c)]
def timesV (l : List Nat) : List Value := l.map nV
structure OrRep (w : World) (b : Nat) (R : Loc) (F : Nat → Prop) (n : OM) : Prop where
  box : w.heap[b]? = some (.cells (stC n R) 36)
  dec : mapAt okU kvU w R.d (nv n.dec)
  las : mapAt okS kvS w R.l (nv n.las)
  tab : mapAt okS kvS w R.t (tv n.tab)
  com : mapAt okS kvS w R.c R.rows
  rows : ∀ p ∈ R.rows, sl w 24 1 p.2 (n.com p.1).length (timesV (n.com p.1))
  gone : ∀ x, lk R.rows x = none → n.com x = []
  full : ∀ p ∈ R.rows, n.com p.1 ≠ []
  apart : ∀ p ∈ R.rows, ∀ p' ∈ R.rows, p.1 ≠ p'.1 → p.2.ownBlock = none ∨ p.2.ownBlock ≠ p'.2.ownBlock
  ne : R.d ≠ R.l ∧ R.d ≠ R.t ∧ R.d ≠ R.c ∧ R.l ≠ R.t ∧ R.l ≠ R.c ∧ R.t ≠ R.c
  fb : F b
  fd : F R.d
  fl : F R.l
  ft : F R.t
  fc : F R.c
  frow : ∀ p ∈ R.rows, ∀ g, p.2.ownBlock = some g → F g
def OrIs (w : World) (b : Nat) (F : Nat → Prop) (n : OM) : Prop := ∃ R, OrRep w b R F n
section
variable {w w' : World} {b : Nat} {R : Loc} {F G : Nat → Prop} {n : OM}
theorem OrRep.stay (h : OrRep w b R F n) (c : Chg G w w') (hd : ∀ i, F i → ¬ G i) : OrRep w' b R F n where
  box := (c.block b (Array.getElem?_eq_some_iff.1 h.box).1 (hd _ h.fb)).trans h.box
  dec := h.dec.stay (c.block _ h.dec.lt (hd _ h.fd))
  las := h.las.stay (c.block _ h.las.lt (hd _ h.fl))
  tab := h.tab.stay (c.block _ h.tab.lt (hd _ h.ft))
  com := h.com.stay (c.block _ h.com.lt (hd _ h.fc))
  rows p hp := (h.rows p hp).stay (fun g hg => c.block g ((h.rows p hp).lt hg) (hd g (h.frow p hp g hg)))
  gone := h.gone
  full := h.full
  apart := h.apart
  ne := h.ne
  fb := h.fb
  fd := h.fd
  fl := h.fl
  ft := h.ft
  fc := h.fc
  frow := h.frow
theorem OrRep.same (h : OrRep w b R F n) (c : Chg (fun _ => False) w w') : OrRep w' b R F n := h.stay c (fun _ _ f => f)
theorem OrRep.wide (h : OrRep w b R F n) (hG : ∀ g, F g → G g) : OrRep w b R G n :=
  ⟨h.box, h.dec, h.las, h.tab, h.com, h.rows, h.gone, h.full, h.apart, h.ne, hG _ h.fb, hG _ h.fd, hG _ h.fl, hG _ h.ft, hG _ h.fc, fun p hp g hg => hG _ (h.frow p hp g hg)⟩
theorem OrRep.tight (h : OrRep w b R F n) : OrRep w b R (fun g => F g ∧ g < w.heap.size) n :=
  ⟨h.box, h.dec, h.las, h.tab, h.com, h.rows, h.gone, h.full, h.apart, h.ne, ⟨h.fb, (Array.getElem?_eq_some_iff.1 h.box).1⟩, ⟨h.fd, h.dec.lt⟩, ⟨h.fl, h.las.lt⟩, ⟨h.ft, h.tab.lt⟩, ⟨h.fc, h.com.lt⟩, fun p hp g hg => ⟨h.frow p hp g hg, (h.rows p hp).lt hg⟩⟩
theorem OrIs.stay (h : OrIs w b F n) (c : Chg G w w') (hd : ∀ i, F i → ¬ G i) : OrIs w' b F n := by obtain ⟨R, h⟩ := h; exact ⟨R, h.stay c hd⟩
theorem OrIs.same (h : OrIs w b F n) (c : Chg (fun _ => False) w w') : OrIs w' b F n := by obtain ⟨R, h⟩ := h; exact ⟨R, h.same c⟩
theorem OrIs.wide (h : OrIs w b F n) (hG : ∀ g, F g → G g) : OrIs w b G n := by obtain ⟨R, h⟩ := h; exact ⟨R, h.wide hG⟩
theorem OrIs.tight (h : OrIs w b F n) : OrIs w b (fun g => F g ∧ g < w.heap.size) n := by obtain ⟨R, h⟩ := h; exact ⟨R, h.tight⟩
theorem OrRep.lt (h : OrRep w b R F n) : b < w.heap.size := (Array.getElem?_eq_some_iff.1 h.box).1
/-- The box is no map, no row. -/
theorem OrRep.b_ne (h : OrRep w b R F n) : b ≠ R.d ∧ b ≠ R.l ∧ b ≠ R.t ∧ b ≠ R.c := by
  obtain ⟨_, _, h1, _⟩ := h.dec
  obtain ⟨_, _, h2, _⟩ := h.las
  obtain ⟨_, _, h3, _⟩ := h.tab
  obtain ⟨_, _, h4, _⟩ := h.com
  have hb := h.box
  refine ⟨fun e => ?_, fun e => ?_, fun e => ?_, fun e => ?_⟩ <;> rw [e] at hb
  · rw [h1] at hb; cases hb
  · rw [h2] at hb; cases hb
  · rw [h3] at hb; cases hb
  · rw [h4] at hb; cases hb
theorem OrRep.row_ne (h : OrRep w b R F n) {p : ByteArray × Value} (hp : p ∈ R.rows) {g : Nat} (hg : p.2.ownBlock = some g) : g ≠ b ∧ g ≠ R.d ∧ g ≠ R.l ∧ g ≠ R.t ∧ g ≠ R.c := by
  obtain ⟨_, _, h1, _⟩ := h.dec
  obtain ⟨_, _, h2, _⟩ := h.las
  obtain ⟨_, _, h3, _⟩ := h.tab
  obtain ⟨_, _, h4, _⟩ := h.com
  have hb := h.box
  rcases (h.rows p hp).2 with ⟨e, _⟩ | ⟨g', cap, cur, e, hh, _⟩
  · rw [e] at hg; simp [Value.ownBlock] at hg
  · rw [e] at hg
    simp [Value.ownBlock] at hg
    subst hg
    refine ⟨fun e => ?_, fun e => ?_, fun e => ?_, fun e => ?_, fun e => ?_⟩ <;> rw [e] at hh
    · rw [hb] at hh; simp at hh
    · rw [h1] at hh; cases hh
    · rw [h2] at hh; cases hh
    · rw [h3] at hh; cases hh
    · rw [h4] at hh; cases hh
/-- A number of the box is set. -/
theorem OrRep.setBox (h : OrRep w b R F n) {n' : OM} {i : Nat} {v : Value} (e : (stC n R).setIfInBounds i v = stC n' R) (e1 : n'.dec = n.dec) (e2 : n'.las = n.las) (e3 : n'.tab = n.tab) (e4 : n'.com = n.com) : OrRep (w.setCell ⟨b, i, none⟩ v) b R F n' := by
  obtain ⟨n1, n2, n3, n4⟩ := h.b_ne
  have hk : ∀ g, g ≠ b → (w.setCell ⟨b, i, none⟩ v).heap[g]? = w.heap[g]? := fun g hg => Below.heap_setCell w ⟨b, i, none⟩ _ g hg
  refine ⟨by rw [Mk.heap_setCell_same h.box, e], by rw [e1]; exact h.dec.stay (hk _ n1.symm), by rw [e2]; exact h.las.stay (hk _ n2.symm), by rw [e3]; exact h.tab.stay (hk _ n3.symm), h.com.stay (hk _ n4.symm), fun p hp => by rw [e4]; exact (h.rows p hp).stay (fun g hg => hk g (h.row_ne hp hg).1), by rw [e4]; exact h.gone, by rw [e4]; exact h.full, h.apart, h.ne, h.fb, h.fd, h.fl, h.ft, h.fc, h.frow⟩
theorem setBlock_same {w : World} {r : Nat} {o : Obj} (h : r < w.heap.size) : (ChangeMaps.setBlock w r o).heap[r]? = some o := by
  show (w.heap.setIfInBounds r o)[r]? = _
  rw [Array.getElem?_setIfInBounds_self_of_lt h]
theorem OrRep.putD (h : OrRep w b R F n) {D : List (Nat × Nat)} {es : Array MapEntry} {ck : Nat} (E : Ent okU kvU es ck (nv D)) : OrRep (ChangeMaps.setBlock w R.d (.map es ck)) b R F { n with dec := D } := by
  obtain ⟨e1, e2, e3, e4, e5, e6⟩ := h.ne
  have hk : ∀ g, g ≠ R.d → (ChangeMaps.setBlock w R.d (.map es ck)).heap[g]? = w.heap[g]? := fun g hg => heap_setBlock_ne hg
  exact ⟨(hk _ h.b_ne.1).trans h.box, ⟨es, ck, setBlock_same h.dec.lt, E⟩, h.las.stay (hk _ e1.symm), h.tab.stay (hk _ e2.symm), h.com.stay (hk _ e3.symm), fun p hp => (h.rows p hp).stay (fun g hg => hk g (h.row_ne hp hg).2.1), h.gone, h.full, h.apart, h.ne, h.fb, h.fd, h.fl, h.ft, h.fc, h.frow⟩
theorem OrRep.putL (h : OrRep w b R F n) {D : List (ByteArray × Nat)} {es : Array MapEntry} {ck : Nat} (E : Ent okS kvS es ck (nv D)) : OrRep (ChangeMaps.setBlock w R.l (.map es ck)) b R F { n with las := D } := by
  obtain ⟨e1, e2, e3, e4, e5, e6⟩ := h.ne
  have hk : ∀ g, g ≠ R.l → (ChangeMaps.setBlock w R.l (.map es ck)).heap[g]? = w.heap[g]? := fun g hg => heap_setBlock_ne hg
  exact ⟨(hk _ h.b_ne.2.1).trans h.box, h.dec.stay (hk _ e1), ⟨es, ck, setBlock_same h.las.lt, E⟩, h.tab.stay (hk _ e4.symm), h.com.stay (hk _ e5.symm), fun p hp => (h.rows p hp).stay (fun g hg => hk g (h.row_ne hp hg).2.2.1), h.gone, h.full, h.apart, h.ne, h.fb, h.fd, h.fl, h.ft, h.fc, h.frow⟩
theorem OrRep.putT (h : OrRep w b R F n) {D : List (ByteArray × Tb)} {es : Array MapEntry} {ck : Nat} (E : Ent okS kvS es ck (tv D)) : OrRep (ChangeMaps.setBlock w R.t (.map es ck)) b R F { n with tab := D } := by
  obtain ⟨e1, e2, e3, e4, e5, e6⟩ := h.ne
  have hk : ∀ g, g ≠ R.t → (ChangeMaps.setBlock w R.t (.map es ck)).heap[g]? = w.heap[g]? := fun g hg => heap_setBlock_ne hg
  exact ⟨(hk _ h.b_ne.2.2.1).trans h.box, h.dec.stay (hk _ e2), h.las.stay (hk _ e4), ⟨es, ck, setBlock_same h.tab.lt, E⟩, h.com.stay (hk _ e6.symm), fun p hp => (h.rows p hp).stay (fun g hg => hk g (h.row_ne hp hg).2.2.2.1), h.gone, h.full, h.apart, h.ne, h.fb, h.fd, h.fl, h.ft, h.fc, h.frow⟩
/-- A commit's time is laid behind a predicate's. -/
theorem OrRep.putC (h : OrRep w b R F n) {x : ByteArray} {T : Nat} {v : Value} {es : Array MapEntry} {ck : Nat} (c : Chg (fun g => ∃ u, lk R.rows x = some u ∧ u.ownBlock = some g) w w') (hv : sl w' 24 1 v ((n.com x).length + 1) (timesV (n.com x) ++ [nV T]))
    (hn : ∀ g, v.ownBlock = some g → (∃ u, lk R.rows x = some u ∧ u.ownBlock = some g) ∨ w.heap.size ≤ g) (E : Ent okS kvS es ck (upd R.rows x v)) :
    OrRep (ChangeMaps.setBlock w' R.c (.map es ck)) b { R with rows := upd R.rows x v } (fun g => F g ∨ w.heap.size ≤ g) { n with com := fun p => if p = x then n.com p ++ [T] else n.com p } := by
  obtain ⟨e1, e2, e3, e4, e5, e6⟩ := h.ne
  obtain ⟨b1, b2, b3, b4⟩ := h.b_ne
  have hown : ∀ u g, lk R.rows x = some u → u.ownBlock = some g → g ≠ b ∧ g ≠ R.d ∧ g ≠ R.l ∧ g ≠ R.t ∧ g ≠ R.c := fun u g hu hg => h.row_ne (lk_mem hu) hg
  have hlt := h.com.lt
  have hk : ∀ g, g < w.heap.size → g ≠ R.c → (∀ u, lk R.rows x = some u → u.ownBlock ≠ some g) → (ChangeMaps.setBlock w' R.c (.map es ck)).heap[g]? = w.heap[g]? := fun g hg hc hr => (heap_setBlock_ne hc).trans (c.block g hg (fun ⟨u, hu, hg⟩ => hr u hu hg))
  have hapart := h.com.apart
  have hold : ∀ p ∈ upd R.rows x v, p.1 ≠ x → p ∈ R.rows := fun p hp hne => by
    rcases mem_upd2 hp with rfl | hp
    · exact absurd rfl hne
    · exact hp
  have hnew : ∀ p ∈ upd R.rows x v, p.1 = x → p.2 = v := fun p hp he => by
    have hd := upd_apart hapart x v
    have h1 : lk (upd R.rows x v) x = some v := lk_upd_same _ _ _
    have h2 : (x, v) ∈ upd R.rows x v := lk_mem h1
    obtain ⟨i, hi, e⟩ := List.getElem_of_mem hp
    have := (lk_some hd (j := i) (x := p.1) (v := p.2) (by rw [List.getElem?_eq_getElem hi, e])).1
    rw [he, h1] at this
    exact (Option.some.inj this).symm
  have hvc : ∀ g, v.ownBlock = some g → g ≠ R.c := fun g hg => by
    rcases hn g hg with ⟨u, hu, hg⟩ | h1
    · exact (hown u g hu hg).2.2.2.2
    · omega
  have hother : ∀ p ∈ R.rows, p.1 ≠ x → ∀ g, p.2.ownBlock = some g → ∀ u, lk R.rows x = some u → u.ownBlock ≠ some g := fun p hp hne g hg u hu hug => by
    rcases h.apart p hp (x, u) (lk_mem hu) hne with h1 | h1
    · rw [h1] at hg; cases hg
    · exact h1 (by rw [hg]; exact hug.symm)
  refine ⟨?_, ?_, ?_, ?_, ⟨es, ck, setBlock_same (Nat.lt_of_lt_of_le hlt c.size), E⟩, ?_, ?_, ?_, ?_, h.ne, Or.inl h.fb, Or.inl h.fd, Or.inl h.fl, Or.inl h.ft, Or.inl h.fc, ?_⟩
  · exact (hk b h.lt b4 (fun u hu hg => (hown u b hu hg).1 rfl)).trans h.box
  · exact h.dec.stay (hk _ h.dec.lt e3 (fun u hu hg => (hown u _ hu hg).2.1 rfl))
  · exact h.las.stay (hk _ h.las.lt e5 (fun u hu hg => (hown u _ hu hg).2.2.1 rfl))
  · exact h.tab.stay (hk _ h.tab.lt e6 (fun u hu hg => (hown u _ hu hg).2.2.2.1 rfl))
  · intro p hp
    by_cases e : p.1 = x
    · rw [hnew p hp e]
      simp only [if_pos e]
      rw [e]
      have : sl w' 24 1 v ((n.com x ++ [T]).length) (timesV (n.com x ++ [T])) := by
        rw [List.length_append]; unfold timesV; rw [List.map_append]; exact hv
      exact this.stay (fun g hg => heap_setBlock_ne (hvc g hg))
    · have hp' := hold p hp e
      simp only [if_neg e]
      exact (h.rows p hp').stay (fun g hg => hk g ((h.rows p hp').lt hg) (h.row_ne hp' hg).2.2.2.2 (hother p hp' e g hg))
  · intro y hy
    rw [lk_upd] at hy
    simp only
    by_cases e : y = x
    · rw [if_pos e] at hy; cases hy
    · rw [if_neg e] at hy
      rw [if_neg e]
      exact h.gone y hy
  · intro p hp
    simp only
    by_cases e : p.1 = x
    · rw [if_pos e]; simp
    · rw [if_neg e]; exact h.full p (hold p hp e)
  · have key : ∀ p ∈ upd R.rows x v, p.1 ≠ x → v.ownBlock = none ∨ v.ownBlock ≠ p.2.ownBlock := fun p hp hne => by
      have hp' := hold p hp hne
      cases hvo : v.ownBlock with
      | none => exact Or.inl rfl
      | some g =>
        refine Or.inr (fun e => ?_)
        rcases hn g hvo with ⟨u, hu, hug⟩ | h1
        · exact hother p hp' hne g e.symm u hu hug
        · have := (h.rows p hp').lt e.symm; omega
    intro p hp p' hp' hne
    by_cases e : p.1 = x
    · rw [hnew p hp e]
      exact key p' hp' (fun e' => hne (e.trans e'.symm))
    · by_cases e' : p'.1 = x
      · rw [hnew p' hp' e']
        rcases key p hp e with h1 | h1
        · cases hpo : p.2.ownBlock with
          | none => exact Or.inl rfl
          | some g => exact Or.inr (by rw [h1]; simp)
        · exact Or.inr (fun h2 => h1 h2.symm)
      · exact h.apart p (hold p hp e) p' (hold p' hp' e') hne
  · intro p hp g hg
    by_cases e : p.1 = x
    · rw [hnew p hp e] at hg
      rcases hn g hg with ⟨u, hu, hug⟩ | h1
      · exact Or.inl (h.frow (x, u) (lk_mem hu) g hug)
      · exact Or.inr h1
    · exact Or.inl (h.frow p (hold p hp e) g hg)
end
/-- What a command leaves. -/
structure To (w : World) (b : Nat) (F : Nat → Prop) (n : OM) (w' : World) : Prop where
  is : OrIs w' b (fun g => F g ∨ w.heap.size ≤ g) n
  chg : Chg F w w'
end Go.Proofs.YtgmmglmokkcgeaaGreat
