/- A state in memory, whatever its rows hold; and the list form that it is alike. Printed by genY1.py (off A5 and S2). -/
import Derived.Test.YtgmmglmokkcgeaaGreatT3
import Derived.Test.YtgmmglmokkcgeaaGreatX4
namespace Go.Proofs.YtgmmglmokkcgeaaGreat
set_option linter.unusedVariables false
set_option linter.unusedSimpArgs false
set_option linter.unusedSectionVars false
open Go.RowKit Mk Go.Sort

theorem nodup_le2 {K : Type} [DecidableEq K] {A B : List K} (ha : A.Nodup) (hs : ∀ x ∈ A, x ∈ B) : A.length ≤ B.length := by
  induction A generalizing B with
  | nil => simp
  | cons x A ih =>
    obtain ⟨h1, h2⟩ := List.nodup_cons.1 ha
    have hx := hs x (by simp)
    have := ih (B := B.erase x) h2 (fun y hy => (List.mem_erase_of_ne (fun (e : y = x) => h1 (by rw [← e]; exact hy))).2 (hs y (by simp [hy])))
    rw [List.length_erase_of_mem hx] at this
    have hl := List.length_pos_of_mem hx
    simp only [List.length_cons]
    omega
structure RawRep (w : World) (b : Nat) (R : Loc) (F : Nat → Prop) (n : OM) : Prop where
  box : w.heap[b]? = some (.cells (stC n R) 36)
  dec : mapAt okU kvU w R.d (nv n.dec)
  las : mapAt okS kvS w R.l (nv n.las)
  tab : mapAt okS kvS w R.t (tv n.tab)
  com : mapAt okS kvS w R.c R.rows
  rows : ∀ p ∈ R.rows, sl w 24 1 p.2 (n.com p.1).length (timesV (n.com p.1))
  gone : ∀ x, lk R.rows x = none → n.com x = []
  apart : ∀ p ∈ R.rows, ∀ p' ∈ R.rows, p.1 ≠ p'.1 → p.2.ownBlock = none ∨ p.2.ownBlock ≠ p'.2.ownBlock
  ne : R.d ≠ R.l ∧ R.d ≠ R.t ∧ R.d ≠ R.c ∧ R.l ≠ R.t ∧ R.l ≠ R.c ∧ R.t ≠ R.c
  fb : F b
  fd : F R.d
  fl : F R.l
  ft : F R.t
  fc : F R.c
  frow : ∀ p ∈ R.rows, ∀ g, p.2.ownBlock = some g → F g
section
variable {w w' : World} {b : Nat} {R : Loc} {F G : Nat → Prop} {n : OM}
theorem RawRep.stay (h : RawRep w b R F n) (c : Chg G w w') (hd : ∀ i, F i → ¬ G i) : RawRep w' b R F n where
  box := (c.block b (Array.getElem?_eq_some_iff.1 h.box).1 (hd _ h.fb)).trans h.box
  dec := h.dec.stay (c.block _ h.dec.lt (hd _ h.fd))
  las := h.las.stay (c.block _ h.las.lt (hd _ h.fl))
  tab := h.tab.stay (c.block _ h.tab.lt (hd _ h.ft))
  com := h.com.stay (c.block _ h.com.lt (hd _ h.fc))
  rows p hp := (h.rows p hp).stay (fun g hg => c.block g ((h.rows p hp).lt hg) (hd g (h.frow p hp g hg)))
  gone := h.gone
  apart := h.apart
  ne := h.ne
  fb := h.fb
  fd := h.fd
  fl := h.fl
  ft := h.ft
  fc := h.fc
  frow := h.frow
theorem RawRep.same (h : RawRep w b R F n) (c : Chg (fun _ => False) w w') : RawRep w' b R F n := h.stay c (fun _ _ f => f)
theorem RawRep.wide (h : RawRep w b R F n) (hG : ∀ g, F g → G g) : RawRep w b R G n :=
  ⟨h.box, h.dec, h.las, h.tab, h.com, h.rows, h.gone, h.apart, h.ne, hG _ h.fb, hG _ h.fd, hG _ h.fl, hG _ h.ft, hG _ h.fc, fun p hp g hg => hG _ (h.frow p hp g hg)⟩
theorem RawRep.tight (h : RawRep w b R F n) : RawRep w b R (fun g => F g ∧ g < w.heap.size) n :=
  ⟨h.box, h.dec, h.las, h.tab, h.com, h.rows, h.gone, h.apart, h.ne, ⟨h.fb, (Array.getElem?_eq_some_iff.1 h.box).1⟩, ⟨h.fd, h.dec.lt⟩, ⟨h.fl, h.las.lt⟩, ⟨h.ft, h.tab.lt⟩, ⟨h.fc, h.com.lt⟩, fun p hp g hg => ⟨h.frow p hp g hg, (h.rows p hp).lt hg⟩⟩
theorem RawRep.lt (h : RawRep w b R F n) : b < w.heap.size := (Array.getElem?_eq_some_iff.1 h.box).1
/-- The box is no map, no row. -/
theorem RawRep.b_ne (h : RawRep w b R F n) : b ≠ R.d ∧ b ≠ R.l ∧ b ≠ R.t ∧ b ≠ R.c := by
  obtain ⟨_, _, h1, _⟩ := h.dec
  obtain ⟨_, _, h2, _⟩ := h.las
  obtain ⟨_, _, h3, _⟩ := h.tab
  obtain ⟨_, _, h4, _⟩ := h.com
  have hb := h.box
  refine ⟨fun e => ?_, fun e => ?_, fun e => ?_, fun e => ?_⟩ <;> rw [e] at hb
  · rw [h1] at hb; cases hb
  · rw [h2] at hb; cases hb
  · rw [h3] at hb; cases hb
  · rw [h4] at hb; cases hb
theorem RawRep.row_ne (h : RawRep w b R F n) {p : ByteArray × Value} (hp : p ∈ R.rows) {g : Nat} (hg : p.2.ownBlock = some g) : g ≠ b ∧ g ≠ R.d ∧ g ≠ R.l ∧ g ≠ R.t ∧ g ≠ R.c := by
  obtain ⟨_, _, h1, _⟩ := h.dec
  obtain ⟨_, _, h2, _⟩ := h.las
  obtain ⟨_, _, h3, _⟩ := h.tab
  obtain ⟨_, _, h4, _⟩ := h.com
  have hb := h.box
  rcases (h.rows p hp).2 with ⟨e, _⟩ | ⟨g', cap, cur, e, hh, _⟩
  · rw [e] at hg; simp [Value.ownBlock] at hg
  · rw [e] at hg
    simp [Value.ownBlock] at hg
    subst hg
    refine ⟨fun e => ?_, fun e => ?_, fun e => ?_, fun e => ?_, fun e => ?_⟩ <;> rw [e] at hh
    · rw [hb] at hh; simp at hh
    · rw [h1] at hh; cases hh
    · rw [h2] at hh; cases hh
    · rw [h3] at hh; cases hh
    · rw [h4] at hh; cases hh
/-- A number of the box is set. -/
theorem RawRep.setBox (h : RawRep w b R F n) {n' : OM} {i : Nat} {v : Value} (e : (stC n R).setIfInBounds i v = stC n' R) (e1 : n'.dec = n.dec) (e2 : n'.las = n.las) (e3 : n'.tab = n.tab) (e4 : n'.com = n.com) : RawRep (w.setCell ⟨b, i, none⟩ v) b R F n' := by
  obtain ⟨n1, n2, n3, n4⟩ := h.b_ne
  have hk : ∀ g, g ≠ b → (w.setCell ⟨b, i, none⟩ v).heap[g]? = w.heap[g]? := fun g hg => Below.heap_setCell w ⟨b, i, none⟩ _ g hg
  refine ⟨by rw [Mk.heap_setCell_same h.box, e], by rw [e1]; exact h.dec.stay (hk _ n1.symm), by rw [e2]; exact h.las.stay (hk _ n2.symm), by rw [e3]; exact h.tab.stay (hk _ n3.symm), h.com.stay (hk _ n4.symm), fun p hp => by rw [e4]; exact (h.rows p hp).stay (fun g hg => hk g (h.row_ne hp hg).1), by rw [e4]; exact h.gone, h.apart, h.ne, h.fb, h.fd, h.fl, h.ft, h.fc, h.frow⟩
theorem RawRep.putD (h : RawRep w b R F n) {D : List (Nat × Nat)} {es : Array MapEntry} {ck : Nat} (E : Ent okU kvU es ck (nv D)) : RawRep (ChangeMaps.setBlock w R.d (.map es ck)) b R F { n with dec := D } := by
  obtain ⟨e1, e2, e3, e4, e5, e6⟩ := h.ne
  have hk : ∀ g, g ≠ R.d → (ChangeMaps.setBlock w R.d (.map es ck)).heap[g]? = w.heap[g]? := fun g hg => heap_setBlock_ne hg
  exact ⟨(hk _ h.b_ne.1).trans h.box, ⟨es, ck, setBlock_same h.dec.lt, E⟩, h.las.stay (hk _ e1.symm), h.tab.stay (hk _ e2.symm), h.com.stay (hk _ e3.symm), fun p hp => (h.rows p hp).stay (fun g hg => hk g (h.row_ne hp hg).2.1), h.gone, h.apart, h.ne, h.fb, h.fd, h.fl, h.ft, h.fc, h.frow⟩
theorem RawRep.putL (h : RawRep w b R F n) {D : List (ByteArray × Nat)} {es : Array MapEntry} {ck : Nat} (E : Ent okS kvS es ck (nv D)) : RawRep (ChangeMaps.setBlock w R.l (.map es ck)) b R F { n with las := D } := by
  obtain ⟨e1, e2, e3, e4, e5, e6⟩ := h.ne
  have hk : ∀ g, g ≠ R.l → (ChangeMaps.setBlock w R.l (.map es ck)).heap[g]? = w.heap[g]? := fun g hg => heap_setBlock_ne hg
  exact ⟨(hk _ h.b_ne.2.1).trans h.box, h.dec.stay (hk _ e1), ⟨es, ck, setBlock_same h.las.lt, E⟩, h.tab.stay (hk _ e4.symm), h.com.stay (hk _ e5.symm), fun p hp => (h.rows p hp).stay (fun g hg => hk g (h.row_ne hp hg).2.2.1), h.gone, h.apart, h.ne, h.fb, h.fd, h.fl, h.ft, h.fc, h.frow⟩
theorem RawRep.putT (h : RawRep w b R F n) {D : List (ByteArray × Tb)} {es : Array MapEntry} {ck : Nat} (E : Ent okS kvS es ck (tv D)) : RawRep (ChangeMaps.setBlock w R.t (.map es ck)) b R F { n with tab := D } := by
  obtain ⟨e1, e2, e3, e4, e5, e6⟩ := h.ne
  have hk : ∀ g, g ≠ R.t → (ChangeMaps.setBlock w R.t (.map es ck)).heap[g]? = w.heap[g]? := fun g hg => heap_setBlock_ne hg
  exact ⟨(hk _ h.b_ne.2.2.1).trans h.box, h.dec.stay (hk _ e2), h.las.stay (hk _ e4), ⟨es, ck, setBlock_same h.tab.lt, E⟩, h.com.stay (hk _ e6.symm), fun p hp => (h.rows p hp).stay (fun g hg => hk g (h.row_ne hp hg).2.2.2.1), h.gone, h.apart, h.ne, h.fb, h.fd, h.fl, h.ft, h.fc, h.frow⟩
/-- A predicate's times are laid anew, all of them. -/
theorem RawRep.putRow (h : RawRep w b R F n) {x : ByteArray} {L : List Nat} {v : Value} {es : Array MapEntry} {ck : Nat} (c : Chg (fun g => ∃ u, lk R.rows x = some u ∧ u.ownBlock = some g) w w') (hv : sl w' 24 1 v L.length (timesV L))
    (hn : ∀ g, v.ownBlock = some g → (∃ u, lk R.rows x = some u ∧ u.ownBlock = some g) ∨ w.heap.size ≤ g) (E : Ent okS kvS es ck (upd R.rows x v)) :
    RawRep (ChangeMaps.setBlock w' R.c (.map es ck)) b { R with rows := upd R.rows x v } (fun g => F g ∨ w.heap.size ≤ g) { n with com := fun p => if p = x then L else n.com p } := by
  obtain ⟨e1, e2, e3, e4, e5, e6⟩ := h.ne
  obtain ⟨b1, b2, b3, b4⟩ := h.b_ne
  have hown : ∀ u g, lk R.rows x = some u → u.ownBlock = some g → g ≠ b ∧ g ≠ R.d ∧ g ≠ R.l ∧ g ≠ R.t ∧ g ≠ R.c := fun u g hu hg => h.row_ne (lk_mem hu) hg
  have hlt := h.com.lt
  have hk : ∀ g, g < w.heap.size → g ≠ R.c → (∀ u, lk R.rows x = some u → u.ownBlock ≠ some g) → (ChangeMaps.setBlock w' R.c (.map es ck)).heap[g]? = w.heap[g]? := fun g hg hc hr => (heap_setBlock_ne hc).trans (c.block g hg (fun ⟨u, hu, hg⟩ => hr u hu hg))
  have hapart := h.com.apart
  have hold : ∀ p ∈ upd R.rows x v, p.1 ≠ x → p ∈ R.rows := fun p hp hne => by
    rcases mem_upd2 hp with rfl | hp
    · exact absurd rfl hne
    · exact hp
  have hnew : ∀ p ∈ upd R.rows x v, p.1 = x → p.2 = v := fun p hp he => by
    have hd := upd_apart hapart x v
    have h1 : lk (upd R.rows x v) x = some v := lk_upd_same _ _ _
    have h2 : (x, v) ∈ upd R.rows x v := lk_mem h1
    obtain ⟨i, hi, e⟩ := List.getElem_of_mem hp
    have := (lk_some hd (j := i) (x := p.1) (v := p.2) (by rw [List.getElem?_eq_getElem hi, e])).1
    rw [he, h1] at this
    exact (Option.some.inj this).symm
  have hvc : ∀ g, v.ownBlock = some g → g ≠ R.c := fun g hg => by
    rcases hn g hg with ⟨u, hu, hg⟩ | h1
    · exact (hown u g hu hg).2.2.2.2
    · omega
  have hother : ∀ p ∈ R.rows, p.1 ≠ x → ∀ g, p.2.ownBlock = some g → ∀ u, lk R.rows x = some u → u.ownBlock ≠ some g := fun p hp hne g hg u hu hug => by
    rcases h.apart p hp (x, u) (lk_mem hu) hne with h1 | h1
    · rw [h1] at hg; cases hg
    · exact h1 (by rw [hg]; exact hug.symm)
  refine ⟨?_, ?_, ?_, ?_, ⟨es, ck, setBlock_same (Nat.lt_of_lt_of_le hlt c.size), E⟩, ?_, ?_, ?_, h.ne, Or.inl h.fb, Or.inl h.fd, Or.inl h.fl, Or.inl h.ft, Or.inl h.fc, ?_⟩
  · exact (hk b h.lt b4 (fun u hu hg => (hown u b hu hg).1 rfl)).trans h.box
  · exact h.dec.stay (hk _ h.dec.lt e3 (fun u hu hg => (hown u _ hu hg).2.1 rfl))
  · exact h.las.stay (hk _ h.las.lt e5 (fun u hu hg => (hown u _ hu hg).2.2.1 rfl))
  · exact h.tab.stay (hk _ h.tab.lt e6 (fun u hu hg => (hown u _ hu hg).2.2.2.1 rfl))
  · intro p hp
    by_cases e : p.1 = x
    · rw [hnew p hp e]
      simp only [if_pos e]
      have : sl w' 24 1 v L.length (timesV L) := hv
      exact this.stay (fun g hg => heap_setBlock_ne (hvc g hg))
    · have hp' := hold p hp e
      simp only [if_neg e]
      exact (h.rows p hp').stay (fun g hg => hk g ((h.rows p hp').lt hg) (h.row_ne hp' hg).2.2.2.2 (hother p hp' e g hg))
  · intro y hy
    rw [lk_upd] at hy
    simp only
    by_cases e : y = x
    · rw [if_pos e] at hy; cases hy
    · rw [if_neg e] at hy
      rw [if_neg e]
      exact h.gone y hy
  · have key : ∀ p ∈ upd R.rows x v, p.1 ≠ x → v.ownBlock = none ∨ v.ownBlock ≠ p.2.ownBlock := fun p hp hne => by
      have hp' := hold p hp hne
      cases hvo : v.ownBlock with
      | none => exact Or.inl rfl
      | some g =>
        refine Or.inr (fun e => ?_)
        rcases hn g hvo with ⟨u, hu, hug⟩ | h1
        · exact hother p hp' hne g e.symm u hu hug
        · have := (h.rows p hp').lt e.symm; omega
    intro p hp p' hp' hne
    by_cases e : p.1 = x
    · rw [hnew p hp e]
      exact key p' hp' (fun e' => hne (e.trans e'.symm))
    · by_cases e' : p'.1 = x
      · rw [hnew p' hp' e']
        rcases key p hp e with h1 | h1
        · cases hpo : p.2.ownBlock with
          | none => exact Or.inl rfl
          | some g => exact Or.inr (by rw [h1]; simp)
        · exact Or.inr (fun h2 => h1 h2.symm)
      · exact h.apart p (hold p hp e) p' (hold p' hp' e') hne
  · intro p hp g hg
    by_cases e : p.1 = x
    · rw [hnew p hp e] at hg
      rcases hn g hg with ⟨u, hu, hug⟩ | h1
      · exact Or.inl (h.frow (x, u) (lk_mem hu) g hug)
      · exact Or.inr h1
    · exact Or.inl (h.frow p (hold p hp e) g hg)
end
theorem RawRep.moved {w W : World} {b : Nat} {R : Loc} {F : Nat → Prop} {n : OM} (h : RawRep w b R F n) (hd : ∀ i, F i → W.heap[i]? = w.heap[i]?) : RawRep W b R F n where
  box := (hd _ h.fb).trans h.box
  dec := h.dec.stay (hd _ h.fd)
  las := h.las.stay (hd _ h.fl)
  tab := h.tab.stay (hd _ h.ft)
  com := h.com.stay (hd _ h.fc)
  rows p hp := (h.rows p hp).stay (fun g hg => hd g (h.frow p hp g hg))
  gone := h.gone
  apart := h.apart
  ne := h.ne
  fb := h.fb
  fd := h.fd
  fl := h.fl
  ft := h.ft
  fc := h.fc
  frow := h.frow
theorem OrRep.raw {w : World} {b : Nat} {R : Loc} {F : Nat → Prop} {n : OM} (h : OrRep w b R F n) : RawRep w b R F n :=
  ⟨h.box, h.dec, h.las, h.tab, h.com, h.rows, h.gone, h.apart, h.ne, h.fb, h.fd, h.fl, h.ft, h.fc, h.frow⟩
theorem RawRep.full {w : World} {b : Nat} {R : Loc} {F : Nat → Prop} {n : OM} (h : RawRep w b R F n) (hf : ∀ p ∈ R.rows, n.com p.1 ≠ []) : OrRep w b R F n :=
  ⟨h.box, h.dec, h.las, h.tab, h.com, h.rows, h.gone, hf, h.apart, h.ne, h.fb, h.fd, h.fl, h.ft, h.fc, h.frow⟩
/-- The state in memory is alike the list form. -/
structure LikeR (R : Loc) (n : OM) (r : RM) : Prop where
  time : n.time = r.time
  uid : n.uid = r.uid
  mark : n.mark = r.mark
  d : ∀ x, lk n.dec x = lk r.d x
  ds : Ris ltN r.d
  k : ∀ x, lk n.las x = lk r.k x
  ks : Ris lessB r.k
  t : ∀ x, lk n.tab x = lk r.t x
  ts : Ris lessB r.t
  c : ∀ x, lk r.c x = (lk R.rows x).map (fun _ => n.com x)
  cs : Ris lessB r.c
/-- Two lists of pairs that tell the same have the same pairs. -/
theorem perm_of_lk {K V : Type} [DecidableEq K] {A B : List (K × V)} (ha : A.Pairwise (fun p q => p.1 ≠ q.1)) (hb : B.Pairwise (fun p q => p.1 ≠ q.1)) (h : ∀ x, lk A x = lk B x) : ∀ p, p ∈ A ↔ p ∈ B := fun p => by
  constructor
  · intro hp
    have h1 := lk_of_mem' ha hp
    rw [h] at h1
    exact lk_mem h1
  · intro hp
    have h1 := lk_of_mem' hb hp
    rw [← h] at h1
    exact lk_mem h1
theorem len_of_lk {K V W : Type} [DecidableEq K] {A : List (K × V)} {B : List (K × W)} (ha : A.Pairwise (fun p q => p.1 ≠ q.1)) (hb : B.Pairwise (fun p q => p.1 ≠ q.1)) (h : ∀ x, (lk A x).isSome = (lk B x).isSome) : A.length = B.length := by
  have key : ∀ {V W : Type} {A : List (K × V)} {B : List (K × W)}, A.Pairwise (fun p q => p.1 ≠ q.1) → (∀ x, (lk A x).isSome = (lk B x).isSome) → A.length ≤ B.length := fun {V W A B} ha h => by
    have := nodup_le2 (A := A.map (·.1)) (B := B.map (·.1)) (by unfold List.Nodup; rw [List.pairwise_map]; exact ha) (fun x hx => by
      obtain ⟨p, hp, rfl⟩ := List.mem_map.1 hx
      have h1 := lk_of_mem' ha hp
      have h2 := h p.1
      rw [h1] at h2
      obtain ⟨v, hv⟩ := Option.isSome_iff_exists.1 h2.symm
      exact List.mem_map.2 ⟨_, lk_mem hv, rfl⟩)
    simpa using this
  exact Nat.le_antisymm (key ha h) (key hb (fun x => (h x).symm))
theorem RawRep.lens {w : World} {b : Nat} {R : Loc} {F : Nat → Prop} {n : OM} {r : RM} (h : RawRep w b R F n) (hl : LikeR R n r) : n.dec.length = r.d.length ∧ n.las.length = r.k.length ∧ n.tab.length = r.t.length ∧ R.rows.length = r.c.length := by
  have pa : ∀ {K V : Type} {L : List (K × V)} {f : V → Value}, (L.map fun p => (p.1, f p.2)).Pairwise (fun p q => p.1 ≠ q.1) → L.Pairwise (fun p q => p.1 ≠ q.1) := fun {K V L f} h => (List.pairwise_map (f := fun p : K × V => (p.1, f p.2))).1 h
  exact ⟨len_of_lk (pa h.dec.apart) (hl.ds.apart ltN_ord) (fun x => by rw [hl.d]), len_of_lk (pa h.las.apart) (hl.ks.apart lessB_ord) (fun x => by rw [hl.k]), len_of_lk (pa h.tab.apart) (hl.ts.apart lessB_ord) (fun x => by rw [hl.t]), len_of_lk h.com.apart (hl.cs.apart lessB_ord) (fun x => by rw [hl.c]; cases lk R.rows x <;> rfl)⟩
/-- The sorted keys are the list form's. -/
theorem sortN_like {V W : Type} {A : List (ByteArray × V)} {B : List (ByteArray × W)} (ha : A.Pairwise (fun p q => p.1 ≠ q.1)) (hb : Ris lessB B) (h : ∀ x, (lk A x).isSome = (lk B x).isSome) : sortN (A.map (·.1)) = B.map (·.1) := by
  have hk : ∀ x, x ∈ A.map (·.1) ↔ x ∈ B.map (·.1) := fun x => by
    constructor
    · intro hx
      obtain ⟨v, hv⟩ := lk_of_mem hx
      have h2 := h x
      rw [hv] at h2
      obtain ⟨v, hv⟩ := Option.isSome_iff_exists.1 h2.symm
      exact List.mem_map.2 ⟨_, lk_mem hv, rfl⟩
    · intro hx
      obtain ⟨v, hv⟩ := lk_of_mem hx
      have h2 := h x
      rw [hv] at h2
      obtain ⟨v, hv⟩ := Option.isSome_iff_exists.1 h2
      exact List.mem_map.2 ⟨_, lk_mem hv, rfl⟩
  have hn1 : (A.map (·.1)).Nodup := by unfold List.Nodup; rw [List.pairwise_map]; exact ha
  have hn2 : (B.map (·.1)).Nodup := by unfold List.Nodup; rw [List.pairwise_map]; exact hb.apart lessB_ord
  exact sortN_eq ((List.perm_ext_iff_of_nodup hn2 hn1).2 (fun x => (hk x).symm)) (by rw [List.pairwise_map]; exact hb)
theorem tabsM_like {T : List (ByteArray × Tb)} {t : List (ByteArray × Tb)} (ha : T.Pairwise (fun p q => p.1 ≠ q.1)) (ht : Ris lessB t) (h : ∀ x, lk T x = lk t x) : tabsM T = t.map (·.2) := by
  unfold tabsM
  rw [sortN_like ha ht (fun x => by rw [h]), List.map_map]
  refine List.map_congr_left fun p hp => ?_
  simp only [Function.comp, h, lk_of_mem' (ht.apart lessB_ord) hp, Option.getD_some]
end Go.Proofs.YtgmmglmokkcgeaaGreat
