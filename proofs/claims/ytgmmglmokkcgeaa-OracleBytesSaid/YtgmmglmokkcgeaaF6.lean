/- What any bytes are read as; plain. -/
import Derived.Test.YtgmmglmokkcgeaaD7
import Derived.Test.YtgmmglmokkcgeaaD8
import Derived.Test.YtgmmglmokkcgeaaA3
import Derived.Test.YtgmmglmokkcgeaaAg
import Derived.Deep.RegionWith
import Derived.Laws.ResultCell
import Derived.Laws.Rows
namespace Go.Proofs.Ytgmmglmokkcgeaa
set_option linter.unusedVariables false
set_option linter.unusedSimpArgs false
open Mk

def keysR : Nat → RdS → List ByteArray → RdS × List ByteArray
  | 0, r, l => (r, l)
  | n + 1, r, l => if r.bad then (r, l) else keysR n (textR r).2 (l ++ [(textR r).1])
def needR (r : RdS) : (ByteArray × Nat) × RdS := (((textR r).1, (numR (textR r).2).1), (numR (textR r).2).2)
def needsR : Nat → RdS → List (ByteArray × Nat) → RdS × List (ByteArray × Nat)
  | 0, r, l => (r, l)
  | n + 1, r, l => if r.bad then (r, l) else needsR n (needR r).2 (l ++ [(needR r).1])
def op0 (k : Nat) : OpM := ⟨k, 0, 0, [], [], ⟨#[]⟩, 0, 0, 0⟩
/-- A command of bytes, and what is left of them. -/
def bodyR (k : Nat) (r : RdS) : OpM × RdS :=
  if k = 1 ∨ k = 2 then ({ op0 k with n := (smallR r).1 }, (smallR r).2)
  else if k = 3 then
    let r1 := (numR r).2
    let K := keysR (numR r1).1 (numR r1).2 []
    let N := needsR (numR K.1).1 (numR K.1).2 []
    ({ op0 3 with st := (numR r).1, keys := K.2, needs := N.2 }, N.1)
  else if k = 4 then ({ op0 4 with st := (numR r).1 }, (numR r).2)
  else if k = 5 then ({ op0 5 with pred := (textR r).1, g := (smallR (textR r).2).1 }, (smallR (textR r).2).2)
  else if k = 6 then ((⟨6, 0, 0, [], [], (textR r).1, 0, (smallR (textR r).2).1, 0⟩ : OpM), (smallR (textR r).2).2)
  else if k = 7 ∨ k = 8 then ({ op0 k with pred := (textR r).1, at_ := (numR (textR r).2).1 }, (numR (textR r).2).2)
  else if k = 9 then ({ op0 9 with at_ := (numR r).1 }, (numR r).2)
  else (op0 k, r)
/-- What bytes are read as. -/
def goodR (k : Nat) (s : ByteArray) : Bool := !(bodyR k ⟨s.extract 1 s.size, false⟩).2.bad && (mayM (bodyR k ⟨s.extract 1 s.size, false⟩).1 && decide (str (bytesL (bodyR k ⟨s.extract 1 s.size, false⟩).1) = s))
theorem rnum_less {l : List UInt8} (h : (Cod.rnum l).2.2 = 0) : (Cod.rnum l).2.1.length + 1 ≤ l.length := by
  cases l with
  | nil => simp [Cod.rnum] at h
  | cons c r =>
    have hu : Cod.rnum (c :: r) = if 8 < c.toNat then (0, [], 21) else if r.length < c.toNat then (0, [], 20) else if 0 < c.toNat ∧ r.head? = some 0 then (0, [], 21) else (Cod.big (r.take c.toNat), r.drop c.toNat, 0) := rfl
    rw [hu] at h ⊢
    by_cases e1 : 8 < c.toNat
    · rw [if_pos e1] at h; simp at h
    · rw [if_neg e1] at h ⊢
      by_cases e2 : r.length < c.toNat
      · rw [if_pos e2] at h; simp at h
      · rw [if_neg e2] at h ⊢
        by_cases e3 : 0 < c.toNat ∧ r.head? = some 0
        · rw [if_pos e3] at h; simp at h
        · rw [if_neg e3]
          simp only [List.length_drop, List.length_cons]
          omega
theorem rtext_less {l : List UInt8} (h : (Cod.rtext l).2.2 = 0) : (Cod.rtext l).2.1.length + 1 ≤ l.length := by
  unfold Cod.rtext at h ⊢
  split
  · rename_i e; rw [if_pos e] at h; exact absurd h e
  · rename_i e
    rw [if_neg e] at h
    have h0 := rnum_less (by omega : (Cod.rnum l).2.2 = 0)
    split
    · rename_i e2; rw [if_pos e2] at h; simp at h
    · simp only [List.length_drop]; omega
theorem textR_less {r : RdS} (h : (textR r).2.bad = false) : (textR r).2.s.size + 1 ≤ r.s.size := by
  unfold textR at h ⊢
  simp only [Bool.or_eq_false_iff, decide_eq_false_iff_not, ne_eq, Decidable.not_not] at h
  have := rtext_less h.2
  rw [len_list] at this
  exact this
theorem bad_text {r : RdS} (h : r.bad = true) : (textR r).2.bad = true := by unfold textR; simp [h]
theorem bad_num {r : RdS} (h : r.bad = true) : (numR r).2.bad = true := by unfold numR; simp [h]
/-- How many there can be. -/
structure Few (S : Nat) (r : RdS) (n : Nat) : Prop where
  len : n + r.s.size ≤ S + 1
  ok : r.bad = false → n + r.s.size ≤ S
theorem Few.text {S : Nat} {r : RdS} {n : Nat} (h : Few S r n) (hb : r.bad = false) : Few S (textR r).2 (n + 1) := by
  have h1 := (textR_le r).1
  have h2 := h.ok hb
  exact ⟨by omega, fun e => by have := textR_less e; omega⟩
theorem Few.need {S : Nat} {r : RdS} {n : Nat} (h : Few S r n) (hb : r.bad = false) : Few S (needR r).2 (n + 1) := by
  have h1 := (textR_le r).1
  have h3 := (numR_le (textR r).2).1
  have h2 := h.ok hb
  refine ⟨by unfold needR; simp only; omega, fun e => ?_⟩
  unfold needR at e ⊢
  simp only at e ⊢
  have : (textR r).2.bad = false := by
    cases hh : (textR r).2.bad
    · rfl
    · rw [bad_num hh] at e; cases e
  have := textR_less this
  omega
end Go.Proofs.Ytgmmglmokkcgeaa
/- What lies where while a command is read. -/
namespace Go.Proofs.Ytgmmglmokkcgeaa
set_option linter.unusedVariables false
set_option linter.unusedSimpArgs false
open Go.RowKit Mk Go.Sort

def keysV (l : List ByteArray) : List Value := l.map Value.string
def needsV (l : List (ByteArray × Nat)) : List Value := l.flatMap fun x => [.string x.1, .int .u64 (x.2 : Nat)]
abbrev boxC (o : OpM) (kv nv : Value) : Array Value := #[.int .u8 (o.k : Nat), .int .u32 (o.n : Nat), .int .u64 (o.st : Nat), kv, nv, .string o.pred, .int .u32 (o.g : Nat), .int .u32 (o.to : Nat), .int .u64 (o.at_ : Nat)]
theorem sl_typ {w : World} {e : TypeId} {size : Nat} {v : Value} {n : Nat} {xs : List Value} (h : sl w e size v n xs) {g : Nat} (hg : v.ownBlock = some g) : ∃ cur, w.heap[g]? = some (.cells cur e) := by
  rcases h.2 with ⟨rfl, _⟩ | ⟨g', cap, cur, rfl, hh, _⟩
  · simp [Value.ownBlock] at hg
  · simp [Value.ownBlock] at hg; subst hg; exact ⟨cur, hh⟩
theorem typ_ne {w : World} {g g' : Nat} {c c' : Array Value} {t t' : TypeId} (h : w.heap[g]? = some (.cells c t)) (h' : w.heap[g']? = some (.cells c' t')) (ht : t ≠ t') : g ≠ g' := by
  rintro rfl
  rw [h] at h'
  injection h' with h'
  injection h' with _ h'
  exact ht h'
/-- While a command is read: its box and slices, the reader. -/
structure RoAt (t : TypeId) (w : World) (kb rb : Nat) (V : Option Nat) (S : Nat) (o : OpM) (kv nv : Value) (r : RdS) (W : World) : Prop where
  box : W.heap[kb]? = some (.cells (boxC o kv nv) 34)
  rd : RdAt t W rb r
  keys : sl W 9 1 kv o.keys.length (keysV o.keys)
  needs : sl W 50 2 nv o.needs.length (needsV o.needs)
  chg : Chg (fun _ => False) w W
  kn : w.heap.size ≤ kb
  rn : w.heap.size ≤ rb
  ko : ∀ g, kv.ownBlock = some g → w.heap.size ≤ g
  no : ∀ g, nv.ownBlock = some g → w.heap.size ≤ g
  t : t = 94 ∨ t = 100
  sz : r.s.size ≤ S
  S : S ≤ 1099511627776
  var : ∀ vb, V = some vb → W.heap[vb]? = some (.cells #[.pointer (some ⟨rb, 0, none⟩)] 92)
section
variable {w W W' : World} {kb rb S : Nat} {V : Option Nat} {o : OpM} {kv nv : Value} {r : RdS} {t : TypeId}
theorem RoAt.ne (h : RoAt t w kb rb V S o kv nv r W) : kb ≠ rb := typ_ne h.box h.rd (by rcases h.t with e | e <;> rw [e] <;> decide)
theorem RoAt.rd_ne (h : RoAt t w kb rb V S o kv nv r W) {g : Nat} {c : Array Value} {t' : TypeId} (hg : W.heap[g]? = some (.cells c t')) (ht : t' = 9 ∨ t' = 50) : g ≠ rb := typ_ne hg h.rd (by rcases h.t with e | e <;> rw [e] <;> rcases ht with e | e <;> rw [e] <;> decide)
theorem RoAt.var_ne (h : RoAt t w kb rb V S o kv nv r W) {vb : Nat} (hv : V = some vb) : vb ≠ rb := typ_ne (h.var vb hv) h.rd (by rcases h.t with e | e <;> rw [e] <;> decide)
theorem RoAt.same (h : RoAt t w kb rb V S o kv nv r W) (c : Chg (fun _ => False) W W') : RoAt t w kb rb V S o kv nv r W' where
  box := (c.block kb (Array.getElem?_eq_some_iff.1 h.box).1 (fun f => f)).trans h.box
  rd := h.rd.stay c
  keys := h.keys.stay fun g hg => c.block g (h.keys.lt hg) (fun f => f)
  needs := h.needs.stay fun g hg => c.block g (h.needs.lt hg) (fun f => f)
  chg := h.chg.trans c
  kn := h.kn
  rn := h.rn
  ko := h.ko
  no := h.no
  t := h.t
  sz := h.sz
  S := h.S
  var vb e := (c.block vb (Array.getElem?_eq_some_iff.1 (h.var vb e)).1 (fun f => f)).trans (h.var vb e)
theorem RoAt.read (h : RoAt t w kb rb V S o kv nv r W) {r' : RdS} (h1 : RdAt t W' rb r') (c : Chg (fun g => g = rb) W W') (hs : r'.s.size ≤ r.s.size) : RoAt t w kb rb V S o kv nv r' W' where
  box := (c.block kb (Array.getElem?_eq_some_iff.1 h.box).1 h.ne).trans h.box
  rd := h1
  keys := h.keys.stay fun g hg => by obtain ⟨cur, hh⟩ := sl_typ h.keys hg; exact c.block g (h.keys.lt hg) (h.rd_ne hh (Or.inl rfl))
  needs := h.needs.stay fun g hg => by obtain ⟨cur, hh⟩ := sl_typ h.needs hg; exact c.block g (h.needs.lt hg) (h.rd_ne hh (Or.inr rfl))
  chg := h.chg.trans' c (fun i e => Or.inr (by have := h.rn; omega))
  kn := h.kn
  rn := h.rn
  ko := h.ko
  no := h.no
  t := h.t
  sz := Nat.le_trans hs h.sz
  S := h.S
  var vb e := (c.block vb (Array.getElem?_eq_some_iff.1 (h.var vb e)).1 (h.var_ne e)).trans (h.var vb e)
/-- A field of it that is no slice. -/
theorem RoAt.set (h : RoAt t w kb rb V S o kv nv r W) {i : Nat} {v : Value} {o' : OpM} (hk : o'.keys = o.keys) (hn : o'.needs = o.needs) (hb : ∀ W' : World, W'.heap[kb]? = some (.cells (boxC o kv nv) 34) → (W'.setCell ⟨kb, i, none⟩ v).heap[kb]? = some (.cells (boxC o' kv nv) 34)) :
    W.frozen? ⟨kb, i, none⟩ = false ∧ RoAt t w kb rb V S o' kv nv r (W.setCell ⟨kb, i, none⟩ v) := by
  have hz : ∀ g, g ≠ kb → (W.setCell ⟨kb, i, none⟩ v).heap[g]? = W.heap[g]? := fun g hg => Below.heap_setCell _ _ _ _ (fun e => hg e)
  refine ⟨frozen_of h.box, hb W h.box, (hz rb h.ne.symm).trans h.rd, ?_, ?_, h.chg.setCell (Or.inr h.kn) _, h.kn, h.rn, h.ko, h.no, h.t, h.sz, h.S, fun vb e => (hz vb (typ_ne (h.var vb e) h.box (by decide))).trans (h.var vb e)⟩
  · rw [hk]; exact h.keys.stay fun g hg => by obtain ⟨cur, hh⟩ := sl_typ h.keys hg; exact hz g (typ_ne hh h.box (by decide))
  · rw [hn]; exact h.needs.stay fun g hg => by obtain ⟨cur, hh⟩ := sl_typ h.needs hg; exact hz g (typ_ne hh h.box (by decide))
theorem RoAt.set_n (h : RoAt t w kb rb V S o kv nv r W) (x : Nat) : W.frozen? ⟨kb, 1, none⟩ = false ∧ RoAt t w kb rb V S { o with n := x } kv nv r (W.setCell ⟨kb, 1, none⟩ (.int .u32 (x : Nat))) := h.set rfl rfl fun _ hh => Mk.heap_setCell_same (i := 1) hh _
theorem RoAt.set_st (h : RoAt t w kb rb V S o kv nv r W) (x : Nat) : W.frozen? ⟨kb, 2, none⟩ = false ∧ RoAt t w kb rb V S { o with st := x } kv nv r (W.setCell ⟨kb, 2, none⟩ (.int .u64 (x : Nat))) := h.set rfl rfl fun _ hh => Mk.heap_setCell_same (i := 2) hh _
theorem RoAt.set_pred (h : RoAt t w kb rb V S o kv nv r W) (x : ByteArray) : W.frozen? ⟨kb, 5, none⟩ = false ∧ RoAt t w kb rb V S { o with pred := x } kv nv r (W.setCell ⟨kb, 5, none⟩ (.string x)) := h.set rfl rfl fun _ hh => Mk.heap_setCell_same (i := 5) hh _
theorem RoAt.set_g (h : RoAt t w kb rb V S o kv nv r W) (x : Nat) : W.frozen? ⟨kb, 6, none⟩ = false ∧ RoAt t w kb rb V S { o with g := x } kv nv r (W.setCell ⟨kb, 6, none⟩ (.int .u32 (x : Nat))) := h.set rfl rfl fun _ hh => Mk.heap_setCell_same (i := 6) hh _
theorem RoAt.set_to (h : RoAt t w kb rb V S o kv nv r W) (x : Nat) : W.frozen? ⟨kb, 7, none⟩ = false ∧ RoAt t w kb rb V S { o with «to» := x } kv nv r (W.setCell ⟨kb, 7, none⟩ (.int .u32 (x : Nat))) := h.set rfl rfl fun _ hh => Mk.heap_setCell_same (i := 7) hh _
theorem RoAt.set_at (h : RoAt t w kb rb V S o kv nv r W) (x : Nat) : W.frozen? ⟨kb, 8, none⟩ = false ∧ RoAt t w kb rb V S { o with at_ := x } kv nv r (W.setCell ⟨kb, 8, none⟩ (.int .u64 (x : Nat))) := h.set rfl rfl fun _ hh => Mk.heap_setCell_same (i := 8) hh _
/-- A key more. -/
theorem RoAt.key (h : RoAt t w kb rb V S o kv nv r W) {x : ByteArray} {kv' : Value} (hs : sl W' 9 1 kv' (o.keys.length + 1) (keysV o.keys ++ [.string x])) (hg : W.grownBy W' kv.ownBlock) (ha : kv'.ownBlock = kv.ownBlock ∨ kv'.ownBlock = some W.heap.size) :
    W'.frozen? ⟨kb, 3, none⟩ = false ∧ W'.cell? ⟨kb, 3, none⟩ = some kv ∧ RoAt t w kb rb V S { o with keys := o.keys ++ [x] } kv' nv r (W'.setCell ⟨kb, 3, none⟩ kv') := by
  have c : Chg (fun g => kv.ownBlock = some g) W W' := (Chg.refl _ W).grown hg (fun i e => Or.inl e)
  have hbl := (Array.getElem?_eq_some_iff.1 h.box).1
  have hk : ∀ g, kv.ownBlock = some g → g ≠ kb ∧ g ≠ rb ∧ nv.ownBlock ≠ some g := fun g e => by
    obtain ⟨cur, hh⟩ := sl_typ h.keys e
    refine ⟨typ_ne hh h.box (by decide), h.rd_ne hh (Or.inl rfl), fun e' => ?_⟩
    obtain ⟨cur', hh'⟩ := sl_typ h.needs e'
    exact typ_ne hh hh' (by decide) rfl
  have hb1 : W'.heap[kb]? = some (.cells (boxC o kv nv) 34) := (c.block kb hbl (fun e => (hk _ e).1 rfl)).trans h.box
  have hz : ∀ g, g ≠ kb → (W'.setCell ⟨kb, 3, none⟩ kv').heap[g]? = W'.heap[g]? := fun g hg => Below.heap_setCell _ _ _ _ (fun e => hg e)
  have hrl := h.rd.lt
  have hv : ∀ vb, V = some vb → kv.ownBlock ≠ some vb := fun vb e e' => by obtain ⟨cur, hh⟩ := sl_typ h.keys e'; exact typ_ne hh (h.var vb e) (by decide) rfl
  refine ⟨frozen_of hb1, cell_of hb1 rfl, Mk.heap_setCell_same (i := 3) hb1 _, ?_, ?_, ?_, ?_, h.kn, h.rn, ?_, h.no, h.t, h.sz, h.S, fun vb e => (hz vb (typ_ne (h.var vb e) h.box (by decide))).trans ((c.block vb (Array.getElem?_eq_some_iff.1 (h.var vb e)).1 (fun e' => hv vb e e')).trans (h.var vb e))⟩
  · exact (hz rb h.ne.symm).trans ((c.block rb hrl (fun e => (hk _ e).2.1 rfl)).trans h.rd)
  · have : sl W' 9 1 kv' (o.keys ++ [x]).length (keysV (o.keys ++ [x])) := by
      rw [List.length_append]; unfold keysV at hs ⊢; rw [List.map_append]; exact hs
    exact this.stay fun g hg => by obtain ⟨cur, hh⟩ := sl_typ this hg; exact hz g (typ_ne hh hb1 (by decide))
  · exact h.needs.stay fun g hg => by
      obtain ⟨cur, hh⟩ := sl_typ h.needs hg
      exact (hz g (typ_ne hh h.box (by decide))).trans (c.block g (h.needs.lt hg) (fun e => (hk _ e).2.2 hg))
  · exact (h.chg.trans' c (fun i e => Or.inr (h.ko i e))).setCell (Or.inr h.kn) _
  · intro g hg
    rcases ha with e | e
    · exact h.ko g (e ▸ hg)
    · rw [e] at hg; cases hg; exact h.chg.size
/-- A need more. -/
theorem RoAt.need (h : RoAt t w kb rb V S o kv nv r W) {x : ByteArray × Nat} {nv' : Value} (hs : sl W' 50 2 nv' (o.needs.length + 1) (needsV o.needs ++ [.string x.1, .int .u64 (x.2 : Nat)])) (hg : W.grownBy W' nv.ownBlock) (ha : nv'.ownBlock = nv.ownBlock ∨ nv'.ownBlock = some W.heap.size) :
    W'.frozen? ⟨kb, 4, none⟩ = false ∧ W'.cell? ⟨kb, 4, none⟩ = some nv ∧ RoAt t w kb rb V S { o with needs := o.needs ++ [x] } kv nv' r (W'.setCell ⟨kb, 4, none⟩ nv') := by
  have c : Chg (fun g => nv.ownBlock = some g) W W' := (Chg.refl _ W).grown hg (fun i e => Or.inl e)
  have hbl := (Array.getElem?_eq_some_iff.1 h.box).1
  have hk : ∀ g, nv.ownBlock = some g → g ≠ kb ∧ g ≠ rb ∧ kv.ownBlock ≠ some g := fun g e => by
    obtain ⟨cur, hh⟩ := sl_typ h.needs e
    refine ⟨typ_ne hh h.box (by decide), h.rd_ne hh (Or.inr rfl), fun e' => ?_⟩
    obtain ⟨cur', hh'⟩ := sl_typ h.keys e'
    exact typ_ne hh hh' (by decide) rfl
  have hb1 : W'.heap[kb]? = some (.cells (boxC o kv nv) 34) := (c.block kb hbl (fun e => (hk _ e).1 rfl)).trans h.box
  have hz : ∀ g, g ≠ kb → (W'.setCell ⟨kb, 4, none⟩ nv').heap[g]? = W'.heap[g]? := fun g hg => Below.heap_setCell _ _ _ _ (fun e => hg e)
  have hrl := h.rd.lt
  have hv : ∀ vb, V = some vb → nv.ownBlock ≠ some vb := fun vb e e' => by obtain ⟨cur, hh⟩ := sl_typ h.needs e'; exact typ_ne hh (h.var vb e) (by decide) rfl
  refine ⟨frozen_of hb1, cell_of hb1 rfl, Mk.heap_setCell_same (i := 4) hb1 _, ?_, ?_, ?_, ?_, h.kn, h.rn, h.ko, ?_, h.t, h.sz, h.S, fun vb e => (hz vb (typ_ne (h.var vb e) h.box (by decide))).trans ((c.block vb (Array.getElem?_eq_some_iff.1 (h.var vb e)).1 (fun e' => hv vb e e')).trans (h.var vb e))⟩
  · exact (hz rb h.ne.symm).trans ((c.block rb hrl (fun e => (hk _ e).2.1 rfl)).trans h.rd)
  · exact h.keys.stay fun g hg => by
      obtain ⟨cur, hh⟩ := sl_typ h.keys hg
      exact (hz g (typ_ne hh h.box (by decide))).trans (c.block g (h.keys.lt hg) (fun e => (hk _ e).2.2 hg))
  · have : sl W' 50 2 nv' (o.needs ++ [x]).length (needsV (o.needs ++ [x])) := by
      rw [List.length_append]; unfold needsV at hs ⊢; rw [List.flatMap_append]; exact hs
    exact this.stay fun g hg => by obtain ⟨cur, hh⟩ := sl_typ this hg; exact hz g (typ_ne hh hb1 (by decide))
  · exact (h.chg.trans' c (fun i e => Or.inr (h.no i e))).setCell (Or.inr h.kn) _
  · intro g hg
    rcases ha with e | e
    · exact h.no g (e ▸ hg)
    · rw [e] at hg; cases hg; exact h.chg.size
end
end Go.Proofs.Ytgmmglmokkcgeaa
/- Walks: the closures of Read: a key more, a need more. -/
namespace Go.Proofs.Ytgmmglmokkcgeaa
set_option linter.unusedVariables false
set_option linter.unusedSimpArgs false
open Go.RowKit Mk Go.Sort

theorem info9 : ∃ (i : TypeInfo) (z : Value), Try.prog.info? 9 = some i ∧ i.zero = some z ∧ i.size = 1 ∧ i.bytes = 16 ∧ z.cells.size = 1 := by
  obtain ⟨i, hi, hzz⟩ := Option.map_eq_some_iff.1 (show (Try.prog.info? 9).map (fun i => (i.zero, i.size, i.bytes)) = some (some (.string ⟨#[]⟩), 1, 16) by kernel_rfl)
  simp only [Prod.mk.injEq] at hzz
  exact ⟨i, _, hi, hzz.1, hzz.2.1, hzz.2.2, rfl⟩
theorem info50 : ∃ (i : TypeInfo) (z : Value), Try.prog.info? 50 = some i ∧ i.zero = some z ∧ i.size = 2 ∧ i.bytes = 24 ∧ z.cells.size = 2 := by
  obtain ⟨i, hi, hzz⟩ := Option.map_eq_some_iff.1 (show (Try.prog.info? 50).map (fun i => (i.zero, i.size, i.bytes)) = some (some (.agg #[.string ⟨#[]⟩, .int .u64 0]), 2, 24) by kernel_rfl)
  simp only [Prod.mk.injEq] at hzz
  exact ⟨i, _, hi, hzz.1, hzz.2.1, hzz.2.2, rfl⟩
theorem RoAt.see {w W : World} {kb rb S : Nat} {V : Option Nat} {o : OpM} {kv nv : Value} {r : RdS} {t : TypeId} (h : RoAt t w kb rb V S o kv nv r W) : (∃ lo lc, kv = .slice lo o.keys.length lc) ∧ (∃ lo lc, nv = .slice lo o.needs.length lc) ∧
    W.cell? ⟨kb, 3, none⟩ = some kv ∧ W.cell? ⟨kb, 4, none⟩ = some nv ∧ W.cell? ⟨kb, 0, none⟩ = some (.int .u8 (o.k : Nat)) ∧ (∀ vb, V = some vb → W.cell? ⟨vb, 0, none⟩ = some (.pointer (some ⟨rb, 0, none⟩))) ∧ W.cell? ⟨rb, 1, none⟩ = some (.bool r.bad) :=
  ⟨sl_shape h.keys, sl_shape h.needs, cell_of h.box rfl, cell_of h.box rfl, cell_of h.box rfl, fun vb e => cell_of (h.var vb e) rfl, cell_of h.rd rfl⟩

section
variable {w W : World} {kb rb vb S : Nat} {o : OpM} {kv nv : Value} {r : RdS}
set_option maxRecDepth 100000 in
set_option maxHeartbeats 4000000 in
theorem clo42 (h : RoAt 94 w kb rb (some vb) S o kv nv r W) (hl : o.keys.length ≤ 1099511627777) :
    Calls Try.prog 42 #[.pointer (some ⟨kb, 0, none⟩), .pointer (some ⟨vb, 0, none⟩)] W fun e W' => e = .returned (.tuple #[]) ∧ ∃ kv', RoAt 94 w kb rb (some vb) S { o with keys := o.keys ++ [(textR r).1] } kv' nv (textR r).2 W' := by
  obtain ⟨⟨ko, kc, rfl⟩, -, k3, -, -, kv0, -⟩ := h.see
  have v0 := kv0 vb rfl
  have T := Lib.hid ((rdtext_any (h.same (Chg.refl _ W).drew).rd (Nat.le_trans h.sz h.S)).mono fun e W' hh => show e = .returned (.string (textR r).1) ∧ RoAt 94 w kb rb (some vb) S o (.slice ko o.keys.length kc) nv (textR r).2 W' from ⟨hh.1, (h.same (Chg.refl _ W).drew).read hh.2.1 hh.2.2 (textR_le r).1⟩)
  obtain ⟨i9, z9, hi9, hz9, hsz9, hby9, hzs9⟩ := info9
  have HTL1 := Lib.hid (show o.keys.length + 1 ≤ maxLen by simp only [maxLen]; omega)
  have HTL2 := Lib.hid (show (o.keys.length + 1) * 16 ≤ 140737488355328 by omega)
  have HF := Lib.hid (fun (W1 : World) (h1 : RoAt 94 w kb rb (some vb) S o (.slice ko o.keys.length kc) nv (textR r).2 W1) (v' : Value) (w2 : World) hs hg ha => (h1.same ((Chg.refl _ W1).alloc (.cells #[.string (textR r).1] 9))).key (x := (textR r).1) (kv' := v') (W' := w2) hs hg ha)
  have HN := Lib.hid (show ∀ W1 : World, RoAt 94 w kb rb (some vb) S o (.slice ko o.keys.length kc) nv (textR r).2 W1 → sl (W1.alloc (.cells #[.string (textR r).1] 9)) 9 1 (.slice ko o.keys.length kc) o.keys.length (keysV o.keys) from fun W1 h1 => (h1.same ((Chg.refl _ W1).alloc _)).keys)
  clear h kv0 hl
  generalize (textR r).1 = x at *
  generalize (textR r).2 = r' at *
  obtain ⟨L, hL⟩ : ∃ L, Hid (keysV o.keys = L) := ⟨_, Lib.hid rfl⟩
  go_enter Try.func42, Try.ntmps42
  go_wp2_with fail
  go_region_law (first
    | (go_simp; go_at_call 43; with_reducible refine T.out.mono ?_; rintro e W1 ⟨rfl, hO⟩; have y3 := hO.see.2.2.1; have y4 := ((hO.same ((Chg.refl _ W1).alloc (.cells #[.string x] 9))).see).2.2.1; have HO := Lib.hid hO; have HCN := Lib.hid (Mk.cell_new_one (Go.heap_alloc_new W1 (.cells #[.string x] 9))); clear hO)
    | (refine step_append_sl (by rfl) _ _ 31 (by rfl) 9 i9 z9 1 16 Try.underlying31 hi9 hz9 hsz9 hby9 hzs9 (by decide) (.slice ko o.keys.length kc) o.keys.length (keysV o.keys) (by rfl) (HN.out W1 HO.out) (some ⟨W1.heap.size, 0, none⟩) 1 1 [.string x] (by rfl) (by rfl) (fun _ => ⟨_, rfl, HCN.out⟩) (fun h => absurd h (by decide)) (by simp [Value.oneCell']) HTL1.out HTL2.out ?_; intro v' w4 hs hg4 ha; obtain ⟨y1, y5, y2⟩ := HF.out W1 HO.out v' w4 hs hg4 ha; have HY := Lib.hid y2; clear y2; obtain ⟨vo, vc, rfl⟩ := sl_shape hs; clear hs hg4 ha))
  all_goals
    go_wp2
    go_end0
    exact ⟨rfl, _, HY.out⟩
theorem cell_new_two {w : World} {g : Nat} {cs : Array Value} {t : TypeId} (h : w.heap[g]? = some (.cells cs t)) : ∀ j u, cs.toList[j]? = some u → w.cell? ((⟨g, 0, none⟩ : Addr).add j) = some u := by
  intro j u hj
  rw [Addr.add_mid, Nat.zero_add]
  exact cell_of h (by simpa using hj)
theorem RoAt.apart {w W W' : World} {kb rb S : Nat} {V : Option Nat} {o : OpM} {kv nv : Value} {r : RdS} {t : TypeId} (h : RoAt t w kb rb V S o kv nv r W) {nb : Nat} (c : Chg (fun g => g = nb) W W') (hn : w.heap.size ≤ nb) (h1 : kb ≠ nb) (h2 : rb ≠ nb) (h3 : ∀ vb, V = some vb → vb ≠ nb) (h4 : ∀ g, kv.ownBlock = some g → g ≠ nb) (h5 : ∀ g, nv.ownBlock = some g → g ≠ nb) : RoAt t w kb rb V S o kv nv r W' where
  box := (c.block kb (Array.getElem?_eq_some_iff.1 h.box).1 h1).trans h.box
  rd := (c.block rb h.rd.lt h2).trans h.rd
  keys := h.keys.stay fun g hg => c.block g (h.keys.lt hg) (h4 g hg)
  needs := h.needs.stay fun g hg => c.block g (h.needs.lt hg) (h5 g hg)
  chg := h.chg.trans' c (fun i e => Or.inr (by omega))
  kn := h.kn
  rn := h.rn
  ko := h.ko
  no := h.no
  t := h.t
  sz := h.sz
  S := h.S
  var vb e := (c.block vb (Array.getElem?_eq_some_iff.1 (h.var vb e)).1 (h3 vb e)).trans (h.var vb e)
/-- A need's box beside it: made, and its number set. -/
theorem RoAt.box50 {t : TypeId} {V : Option Nat} {W1 W3 : World} {r1 r2 : RdS} {x : ByteArray} {v : Nat} (h : RoAt t w kb rb V S o kv nv r1 W1) (h3 : RoAt t w kb rb V S o kv nv r2 W3) (c : Chg (fun g => g = rb) (W1.alloc (.cells #[.string x, .int .u64 0] 50)) W3) :
    W3.frozen? ⟨W1.heap.size, 1, none⟩ = false ∧ W3.cell? ⟨W1.heap.size, 1, none⟩ = some (.int .u64 0) ∧ RoAt t w kb rb V S o kv nv r2 (W3.setCell ⟨W1.heap.size, 1, none⟩ (.int .u64 (v : Nat))) ∧
      (W3.setCell ⟨W1.heap.size, 1, none⟩ (.int .u64 (v : Nat))).cell? ⟨W1.heap.size, 0, none⟩ = some (.string x) ∧ (W3.setCell ⟨W1.heap.size, 1, none⟩ (.int .u64 (v : Nat))).cell? ⟨W1.heap.size, 1, none⟩ = some (.int .u64 (v : Nat)) := by
  have hr := h.rd.lt
  have hb : W3.heap[W1.heap.size]? = some (.cells #[.string x, .int .u64 0] 50) := (c.block _ (by simp) (by omega)).trans (Go.heap_alloc_new _ _)
  have hb2 := Mk.heap_setCell_same (i := 1) hb (.int .u64 (v : Nat))
  refine ⟨frozen_of hb, cell_of hb rfl, h3.apart ((Chg.refl (fun g => g = W1.heap.size) W3).setCell (a := ⟨W1.heap.size, 1, none⟩) (Or.inl rfl) _) h.chg.size ?_ ?_ ?_ ?_ ?_, cell_of hb2 rfl, cell_of hb2 rfl⟩
  · have := (Array.getElem?_eq_some_iff.1 h.box).1; omega
  · omega
  · intro vb e; have := (Array.getElem?_eq_some_iff.1 (h.var vb e)).1; omega
  · intro g e; have := h.keys.lt e; omega
  · intro g e; have := h.needs.lt e; omega
set_option maxRecDepth 100000 in
set_option maxHeartbeats 4000000 in
theorem clo44 (h : RoAt 94 w kb rb (some vb) S o kv nv r W) (hl : o.needs.length ≤ 1099511627777) :
    Calls Try.prog 44 #[.pointer (some ⟨vb, 0, none⟩), .pointer (some ⟨kb, 0, none⟩)] W fun e W' => e = .returned (.tuple #[]) ∧ ∃ nv', RoAt 94 w kb rb (some vb) S { o with needs := o.needs ++ [(needR r).1] } kv nv' (needR r).2 W' := by
  obtain ⟨-, ⟨no, nc, rfl⟩, -, -, -, kv0, -⟩ := h.see
  have v0 := kv0 vb rfl
  have T := Lib.hid ((rdtext_any h.rd (Nat.le_trans h.sz h.S)).mono fun e W' hh => show e = .returned (.string (textR r).1) ∧ RoAt 94 w kb rb (some vb) S o kv (.slice no o.needs.length nc) (textR r).2 W' from ⟨hh.1, h.read hh.2.1 hh.2.2 (textR_le r).1⟩)
  obtain ⟨i9, z9, hi9, hz9, hsz9, hby9, hzs9⟩ := info50
  have HTL1 := Lib.hid (show o.needs.length + 1 ≤ maxLen by simp only [maxLen]; omega)
  have HTL2 := Lib.hid (show (o.needs.length + 1) * 24 ≤ 140737488355328 by omega)
  unfold needR
  simp only
  clear h kv0 hl
  generalize (textR r).1 = x at *
  generalize (textR r).2 = r' at *
  go_enter Try.func44, Try.ntmps44
  go_wp2_with fail
  refine T.out.mono ?_
  rintro e W1 ⟨rfl, h1⟩
  clear T v0
  have h2 := h1.same ((Chg.refl _ W1).alloc (.cells #[.string x, .int .u64 0] 50))
  have v1 := h2.see.2.2.2.2.2.1 vb rfl
  have N := Lib.hid ((rdnum_any h2.rd (Nat.le_trans h2.sz h2.S)).mono fun e W' hh => show e = .returned (.int .u64 ((numR r').1 : Nat)) ∧ RoAt 94 w kb rb (some vb) S o kv (.slice no o.needs.length nc) (numR r').2 W' ∧ Chg (fun g => g = rb) (W1.alloc (.cells #[.string x, .int .u64 0] 50)) W' from ⟨hh.1, h2.read hh.2.1 hh.2.2 (numR_le r').1, hh.2.2⟩)
  have HB := Lib.hid (fun (W3 : World) h3 c => RoAt.box50 (W3 := W3) (r2 := (numR r').2) (x := x) (v := (numR r').1) h1 h3 c)
  clear h1 h2
  obtain ⟨n, HNn⟩ : ∃ n, Hid ((numR r').1 = n) := ⟨_, Lib.hid rfl⟩
  obtain ⟨r2, HRr⟩ : ∃ r2, Hid ((numR r').2 = r2) := ⟨_, Lib.hid rfl⟩
  rw [HNn.out, HRr.out] at N HB
  generalize hnb : W1.heap.size = nb at *
  go_wp2_with fail
  refine N.out.mono ?_
  rintro e W3 ⟨rfl, h3, c3⟩
  obtain ⟨y1, y2, y3, y4, y5⟩ := HB.out W3 h3 c3
  have H4 := Lib.hid y3
  clear h3 c3 HB N v1
  have k4 := y3.see.2.2.2.1
  have hz3 : (W3.setCell ⟨nb, 1, none⟩ (.int .u64 (n : Nat))).heap.size = W3.heap.size := by simp [World.setCell]
  have HCN := Lib.hid (cell_new_two (Go.heap_alloc_new (W3.setCell ⟨nb, 1, none⟩ (.int .u64 (n : Nat))) (.cells #[.string x, .int .u64 (n : Nat)] 50)))
  rw [hz3] at HCN
  clear hz3
  have HSL := Lib.hid (y3.same ((Chg.refl _ _).alloc (.cells #[.string x, .int .u64 (n : Nat)] 50))).needs
  have HF := Lib.hid (fun (v' : Value) (w2 : World) hs hg ha => (y3.same ((Chg.refl _ _).alloc (.cells #[.string x, .int .u64 (n : Nat)] 50))).need (x := (x, n)) (nv' := v') (W' := w2) hs hg ha)
  clear y3
  go_wp2_with (refine wpList_append_sl (by rfl) _ _ 32 (by rfl) 50 i9 z9 2 24 Try.underlying32 hi9 hz9 hsz9 hby9 hzs9 (by decide) (.slice no o.needs.length nc) o.needs.length (needsV o.needs) (by rfl) HSL.out (some ⟨W3.heap.size, 0, none⟩) 1 1 [.string x, .int .u64 (n : Nat)] (by rfl) (by rfl) (fun _ => ⟨_, rfl, HCN.out⟩) (fun h => absurd h (by decide)) (by simp [Value.oneCell']) HTL1.out HTL2.out ?_; intro v' w4 hs hg4 ha; obtain ⟨x1, x2, x3⟩ := HF.out v' w4 hs hg4 ha; have HY := Lib.hid x3; clear x3; obtain ⟨vo, vc, rfl⟩ := sl_shape hs; clear hs hg4 ha)
  go_wp2
  go_end0
  rw [HNn.out, HRr.out]
  exact ⟨rfl, _, HY.out⟩
end
end Go.Proofs.Ytgmmglmokkcgeaa
/- Walks: many. -/
namespace Go.Proofs.Ytgmmglmokkcgeaa
set_option linter.unusedVariables false
set_option linter.unusedSimpArgs false
open Go.RowKit Mk Go.Sort

/-- At most so many steps, while the reader is well. -/
def runR {σ : Type} (rd : σ → RdS) (next : σ → σ) : Nat → σ → σ
  | 0, s => s
  | n + 1, s => if (rd s).bad then s else runR rd next n (next s)
theorem runR_bad {σ : Type} (rd : σ → RdS) (next : σ → σ) {s : σ} (h : (rd s).bad = true) (n : Nat) : runR rd next n s = s := by
  cases n
  · rfl
  · unfold runR; rw [h]; rfl
theorem runR_next {σ : Type} (rd : σ → RdS) (next : σ → σ) {s : σ} (h : (rd s).bad = false) (n : Nat) : runR rd next (n + 1) s = runR rd next n (next s) := by
  show (if (rd s).bad = true then s else runR rd next n (next s)) = _
  rw [h]
  rfl
theorem keysR_run (n : Nat) (r : RdS) (l : List ByteArray) : keysR n r l = runR (fun s : RdS × List ByteArray => s.1) (fun s => ((textR s.1).2, s.2 ++ [(textR s.1).1])) n (r, l) := by
  induction n generalizing r l with
  | zero => rfl
  | succ n ih => unfold keysR runR; simp only [ih]
theorem needsR_run (n : Nat) (r : RdS) (l : List (ByteArray × Nat)) : needsR n r l = runR (fun s : RdS × List (ByteArray × Nat) => s.1) (fun s => ((needR s.1).2, s.2 ++ [(needR s.1).1])) n (r, l) := by
  induction n generalizing r l with
  | zero => rfl
  | succ n ih => unfold needsR runR; simp only [ih]
theorem enters_of {P : Program} {f : FuncId} {fn : Func} {c : Code} (hf : P.funcs[f]? = some fn) (hname : (fn.name == "runtime.NumGoroutine") = false) (hb : fn.body = some c) : ∀ args u, (callFunc f args).run P u = .ok (.enter f args) u := by
  intro args w
  have h1 : fn.name ≠ "runtime.NumGoroutine" := by simpa using hname
  simp [callFunc, hf, h1, hb, mark]
theorem enters42 : ∀ args u, (callFunc 42 args).run Try.prog u = .ok (.enter 42 args) u := enters_of Try.func42 (by kernel_rfl) rfl
theorem enters44 : ∀ args u, (callFunc 44 args).run Try.prog u = .ok (.enter 44 args) u := enters_of Try.func44 (by kernel_rfl) rfl

section
variable {σ : Type} {St : σ → World → Prop} {rd : σ → RdS} {next : σ → σ} {f : FuncId} {caps : Array Value} {rb N : Nat} {s0 : σ} {W : World}
set_option maxRecDepth 100000 in
set_option maxHeartbeats 4000000 in
theorem many_any (hent : ∀ args u, (callFunc f args).run Try.prog u = .ok (.enter f args) u)
    (hnum : Calls Try.prog 40 #[.pointer (some ⟨rb, 0, none⟩)] W fun e W' => e = .returned (.int .u64 (N : Nat)) ∧ St s0 W')
    (hrd : ∀ s W, St s W → RdAt 94 W rb (rd s))
    (hstep : ∀ s W, St s W → (rd s).bad = false → Calls Try.prog f caps W fun e W' => e = .returned (.tuple #[]) ∧ St (next s) W') (hN : N < 18446744073709551616) :
    Calls Try.prog 41 #[.pointer (some ⟨rb, 0, none⟩), .func (.func f) #[] caps] W fun e W' => e = .returned (.tuple #[]) ∧ St (runR rd next N s0) W' := by
  have HS := Lib.hid hstep
  have HR := Lib.hid hrd
  have HU := Lib.hid hnum
  obtain ⟨F, HF⟩ : ∃ F, Hid (runR rd next N s0 = F) := ⟨_, Lib.hid rfl⟩
  rw [HF.out]
  clear hstep hrd hnum
  go_enter Try.func41, Try.ntmps41
  go_wp2_with fail
  refine HU.out.mono ?_
  rintro e w1 ⟨rfl, h1⟩
  have H1 := Lib.hid h1
  clear h1 HU
  go_wp2
  go_loopw [4] (fun i wr => ∃ (k : Nat) (s : σ), i = .int .u64 k ∧ k < 18446744073709551616 ∧ Hid (runR rd next k s = F) ∧ Hid (St s wr)) (fun i _ => (intOf i).toNat)
  case atStart => exact ⟨N, s0, rfl, hN, HF, H1⟩
  case round =>
    obtain ⟨k, s, rfl, hk, HK, HT⟩ := hrel
    clear H1
    have b1 : wr.cell? ⟨rb, 1, none⟩ = some (.bool (rd s).bad) := cell_of (HR.out s wr HT.out) rfl
    obtain ⟨bd, hbd⟩ : ∃ bd, (rd s).bad = bd := ⟨_, rfl⟩
    rw [hbd] at b1
    cases k with
    | zero =>
      have HE := Lib.hid (show s = F from HK.out)
      clear hbd
      go_wp2
      go_end0
      exact ⟨rfl, by rw [← HE.out]; exact HT.out⟩
    | succ k =>
      have q1 : decide ((0 : Int) < ((k + 1 : Nat) : Int)) = true := by simp <;> omega
      have q2 : decide ((0 : Int) < (k : Int) + 1) = true := by simp <;> omega
      have q3 : decide (0 < k + 1) = true := by simp
      have q4 : IntKind.u64.wrap (k : Int) = k := by simp only [IntKind.wrap, IntKind.bits, IntKind.signed]; simp; omega
      cases bd
      · have HC := Lib.hid (HS.out s wr HT.out hbd)
        have HE := Lib.hid (show runR rd next k (next s) = F by rw [← runR_next rd next hbd]; exact HK.out)
        clear hbd
        go_wp2_with fail
        refine HC.out.mono ?_
        rintro e w2 ⟨rfl, h2⟩
        have H2 := Lib.hid h2
        clear h2
        go_wp2
        go_roundw
        case rel => exact ⟨k, next s, by go_num, by omega, HE, H2⟩
        case measure => simp [intOf]
      · have HE := Lib.hid (show s = F by rw [← HK.out]; exact (runR_bad rd next hbd _).symm)
        clear hbd
        go_wp2
        go_end0
        exact ⟨rfl, by rw [← HE.out]; exact HT.out⟩
end
section
variable {w W : World} {kb rb vb S : Nat} {o : OpM} {kv nv : Value} {r : RdS}
theorem many_keys (h : RoAt 94 w kb rb (some vb) S o kv nv r W) (h0 : o.keys = []) :
    Calls Try.prog 41 #[.pointer (some ⟨rb, 0, none⟩), .func (.func 42) #[] #[.pointer (some ⟨kb, 0, none⟩), .pointer (some ⟨vb, 0, none⟩)]] W fun e W' => e = .returned (.tuple #[]) ∧
      ∃ kv', RoAt 94 w kb rb (some vb) S { o with keys := (keysR (numR r).1 (numR r).2 []).2 } kv' nv (keysR (numR r).1 (numR r).2 []).1 W' := by
  have hm := many_any (St := fun (s : RdS × List ByteArray) W' => (∃ kv', RoAt 94 w kb rb (some vb) S { o with keys := s.2 } kv' nv s.1 W') ∧ Few S s.1 s.2.length) (rd := fun s => s.1) (next := fun s => ((textR s.1).2, s.2 ++ [(textR s.1).1]))
    (caps := #[.pointer (some ⟨kb, 0, none⟩), .pointer (some ⟨vb, 0, none⟩)]) (N := (numR r).1) (s0 := ((numR r).2, [])) (W := W) (rb := rb) enters42
    ((rdnum_any h.rd (Nat.le_trans h.sz h.S)).mono fun e W' hh => ⟨hh.1, ⟨kv, by have := h.read hh.2.1 hh.2.2 (numR_le r).1; rw [← h0]; exact this⟩, by have := (numR_le r).1; have := h.sz; exact ⟨by simp; omega, fun _ => by simp; omega⟩⟩)
    (fun s W' hs => by obtain ⟨⟨kv', h'⟩, _⟩ := hs; exact h'.rd)
    (fun s W' hs hb => by
      obtain ⟨⟨kv', h'⟩, hf⟩ := hs
      have hl := hf.len
      have hS := h'.S
      exact (clo42 h' (by simp only; omega)).mono fun e W2 hh => ⟨hh.1, hh.2, by simp only [List.length_append, List.length_singleton]; exact hf.text hb⟩) (numR_le r).2
  rw [← keysR_run] at hm
  exact hm.mono fun e W' hh => ⟨hh.1, hh.2.1⟩
theorem many_needs (h : RoAt 94 w kb rb (some vb) S o kv nv r W) (h0 : o.needs = []) :
    Calls Try.prog 41 #[.pointer (some ⟨rb, 0, none⟩), .func (.func 44) #[] #[.pointer (some ⟨vb, 0, none⟩), .pointer (some ⟨kb, 0, none⟩)]] W fun e W' => e = .returned (.tuple #[]) ∧
      ∃ nv', RoAt 94 w kb rb (some vb) S { o with needs := (needsR (numR r).1 (numR r).2 []).2 } kv nv' (needsR (numR r).1 (numR r).2 []).1 W' := by
  have hm := many_any (St := fun (s : RdS × List (ByteArray × Nat)) W' => (∃ nv', RoAt 94 w kb rb (some vb) S { o with needs := s.2 } kv nv' s.1 W') ∧ Few S s.1 s.2.length) (rd := fun s => s.1) (next := fun s => ((needR s.1).2, s.2 ++ [(needR s.1).1]))
    (caps := #[.pointer (some ⟨vb, 0, none⟩), .pointer (some ⟨kb, 0, none⟩)]) (N := (numR r).1) (s0 := ((numR r).2, [])) (W := W) (rb := rb) enters44
    ((rdnum_any h.rd (Nat.le_trans h.sz h.S)).mono fun e W' hh => ⟨hh.1, ⟨nv, by have := h.read hh.2.1 hh.2.2 (numR_le r).1; rw [← h0]; exact this⟩, by have := (numR_le r).1; have := h.sz; exact ⟨by simp; omega, fun _ => by simp; omega⟩⟩)
    (fun s W' hs => by obtain ⟨⟨nv', h'⟩, _⟩ := hs; exact h'.rd)
    (fun s W' hs hb => by
      obtain ⟨⟨nv', h'⟩, hf⟩ := hs
      have hl := hf.len
      have hS := h'.S
      exact (clo44 h' (by simp only; omega)).mono fun e W2 hh => ⟨hh.1, hh.2, by simp only [List.length_append, List.length_singleton]; exact hf.need hb⟩) (numR_le r).2
  rw [← needsR_run] at hm
  exact hm.mono fun e W' hh => ⟨hh.1, hh.2.1⟩
end
end Go.Proofs.Ytgmmglmokkcgeaa
/- What a command that was read is. -/
namespace Go.Proofs.Ytgmmglmokkcgeaa
set_option linter.unusedVariables false
set_option linter.unusedSimpArgs false
open Go.RowKit Mk Go.Sort

structure OpOk (S : Nat) (o : OpM) : Prop where
  k : o.k < 256
  n : o.n < 4294967296
  st : o.st < 18446744073709551616
  g : o.g < 4294967296
  «to» : o.to < 4294967296
  at_ : o.at_ < 18446744073709551616
  needs : ∀ x ∈ o.needs, x.1.size ≤ S ∧ x.2 < 18446744073709551616
theorem needR_le (r : RdS) : (needR r).2.s.size ≤ r.s.size ∧ (needR r).1.1.size ≤ r.s.size ∧ (needR r).1.2 < 18446744073709551616 := by
  have h1 := textR_le r
  have h2 := numR_le (textR r).2
  unfold needR
  simp only
  exact ⟨by omega, h1.2, h2.2⟩
theorem needsR_ok {S : Nat} (n : Nat) (r : RdS) (l : List (ByteArray × Nat)) (hr : r.s.size ≤ S) (hl : ∀ x ∈ l, x.1.size ≤ S ∧ x.2 < 18446744073709551616) : (needsR n r l).1.s.size ≤ S ∧ ∀ x ∈ (needsR n r l).2, x.1.size ≤ S ∧ x.2 < 18446744073709551616 := by
  induction n generalizing r l with
  | zero => exact ⟨hr, hl⟩
  | succ n ih =>
    unfold needsR
    have h := needR_le r
    split
    · exact ⟨hr, hl⟩
    · refine ih _ _ (by omega) fun x hx => ?_
      rcases List.mem_append.1 hx with hx | hx
      · exact hl x hx
      · rw [List.mem_singleton.1 hx]; exact ⟨by omega, h.2.2⟩
theorem keysR_le {S : Nat} (n : Nat) (r : RdS) (l : List ByteArray) (hr : r.s.size ≤ S) : (keysR n r l).1.s.size ≤ S := by
  induction n generalizing r l with
  | zero => exact hr
  | succ n ih =>
    unfold keysR
    have h := textR_le r
    split
    · exact hr
    · exact ih _ _ (by omega)
theorem op0_ok {S k : Nat} (hk : k < 256) : OpOk S (op0 k) := ⟨hk, by simp [op0], by simp [op0], by simp [op0], by simp [op0], by simp [op0], fun x hx => by simp [op0] at hx⟩
theorem body_ok {S k : Nat} (hk : k < 256) {r : RdS} (hr : r.s.size ≤ S) : OpOk S (bodyR k r).1 := by
  have h0 : OpOk S (op0 k) := op0_ok hk
  have hn := fun x hx => h0.needs x hx
  unfold bodyR
  split
  · exact ⟨hk, (smallR_le r).2, h0.st, h0.g, h0.to, h0.at_, hn⟩
  split
  · have h3 : OpOk S (op0 3) := op0_ok (by decide)
    have ha := numR_le r
    have hb := numR_le (numR r).2
    have hc := keysR_le (S := S) (numR (numR r).2).1 (numR (numR r).2).2 [] (by omega)
    have hd := numR_le (keysR (numR (numR r).2).1 (numR (numR r).2).2 []).1
    have he := needsR_ok (S := S) (numR (keysR (numR (numR r).2).1 (numR (numR r).2).2 []).1).1 (numR (keysR (numR (numR r).2).1 (numR (numR r).2).2 []).1).2 [] (by omega) (fun x hx => by simp at hx)
    exact ⟨h3.k, h3.n, ha.2, h3.g, h3.to, h3.at_, he.2⟩
  split
  · have h3 : OpOk S (op0 4) := op0_ok (by decide)
    exact ⟨h3.k, h3.n, (numR_le r).2, h3.g, h3.to, h3.at_, h3.needs⟩
  split
  · have h3 : OpOk S (op0 5) := op0_ok (by decide)
    exact ⟨h3.k, h3.n, h3.st, (smallR_le _).2, h3.to, h3.at_, h3.needs⟩
  split
  · have h3 : OpOk S (op0 6) := op0_ok (by decide)
    exact ⟨h3.k, h3.n, h3.st, h3.g, (smallR_le _).2, h3.at_, h3.needs⟩
  split
  · exact ⟨hk, h0.n, h0.st, h0.g, h0.to, (numR_le _).2, h0.needs⟩
  split
  · have h3 : OpOk S (op0 9) := op0_ok (by decide)
    exact ⟨h3.k, h3.n, h3.st, h3.g, h3.to, (numR_le _).2, h3.needs⟩
  · exact h0
theorem keysV_at {l : List ByteArray} {i : Nat} (h : i < l.length) : (keysV l)[i]? = some (.string l[i]) := by
  unfold keysV
  rw [List.getElem?_map, List.getElem?_eq_getElem h]
  rfl
theorem needsV_at (l : List (ByteArray × Nat)) {i : Nat} (h : i < l.length) : (needsV l)[i * 2]? = some (.string l[i].1) ∧ (needsV l)[i * 2 + 1]? = some (.int .u64 (l[i].2 : Nat)) := by
  induction l generalizing i with
  | nil => simp at h
  | cons x l ih =>
    have hu : needsV (x :: l) = .string x.1 :: .int .u64 (x.2 : Nat) :: needsV l := rfl
    rw [hu]
    cases i with
    | zero => exact ⟨rfl, rfl⟩
    | succ i =>
      have := ih (i := i) (by simpa using h)
      rw [show (i + 1) * 2 = i * 2 + 1 + 1 by omega]
      exact this
theorem RoAt.opAt {t : TypeId} {w W : World} {kb rb S : Nat} {V : Option Nat} {o : OpM} {r : RdS} {l : OpL} (h : RoAt t w kb rb V S o (.slice l.ko o.keys.length l.kc) (.slice l.no o.needs.length l.nc) r W) (hok : OpOk S o) : OpAt W o l := by
  have hS := h.S
  refine ⟨⟨by have := h.keys.le; simp only [maxLen] at this; omega, fun i hi => ?_⟩, ⟨by have := h.needs.le; simp only [maxLen] at this; omega, fun i hi => ?_, fun x hx => (hok.needs x hx).2, fun x hx => by have := (hok.needs x hx).1; simp only [maxLen]; omega⟩, hok.k, hok.n, hok.st, hok.g, hok.to, hok.at_⟩
  · obtain ⟨g, cap, e, hc⟩ := sl.cell h.keys (keysV_at hi)
    injection e with e1 e2 e3
    exact ⟨g, 0, e1, block_lt_of_cell hc, by simpa using hc⟩
  · obtain ⟨g, cap, e, hc⟩ := sl.cell h.needs (needsV_at o.needs hi).1
    obtain ⟨g', cap', e', hc'⟩ := sl.cell h.needs (needsV_at o.needs hi).2
    injection e with e1 e2 e3
    rw [e1] at e'
    injection e' with e4 e5 e6
    injection e4 with e4
    injection e4 with e4
    subst e4
    exact ⟨g, 0, e1, block_lt_of_cell hc, by simpa using hc, by simpa using hc'⟩
end Go.Proofs.Ytgmmglmokkcgeaa
/- Walks: Read. -/
namespace Go.Proofs.Ytgmmglmokkcgeaa
set_option linter.unusedVariables false
set_option linter.unusedSimpArgs false
open Go.RowKit Mk Go.Sort

abbrev nilS : Value := .slice none 0 0
def nilL : OpL := ⟨none, 0, none, 0⟩
theorem read_begin (w : World) (t : TypeId) (ht : t = 94 ∨ t = 100) (s : ByteArray) {k S : Nat} (hs : s.size ≤ S) (hS : S ≤ 1099511627776) :
    RoAt t w (w.heap.size + 1 + 1) w.heap.size (some (w.heap.size + 1)) S (op0 k) nilS nilS ⟨s, false⟩ (((w.alloc (.cells #[.string s, .bool false] t)).alloc (.cells #[.pointer (some ⟨w.heap.size, 0, none⟩)] 92)).alloc (.cells (boxC (op0 k) nilS nilS) 34)) where
  box := by have := Go.heap_alloc_new ((w.alloc (.cells #[.string s, .bool false] t)).alloc (.cells #[.pointer (some ⟨w.heap.size, 0, none⟩)] 92)) (.cells (boxC (op0 k) nilS nilS) 34); simpa using this
  rd := ((Below.heap_alloc _ _ _ (by simp; omega)).trans (Below.heap_alloc _ _ _ (by simp))).trans (Go.heap_alloc_new w _)
  keys := sl_nil _ _ _
  needs := sl_nil _ _ _
  chg := (((Chg.refl _ w).alloc _).alloc _).alloc _
  kn := by omega
  rn := by omega
  ko g e := by simp [Value.ownBlock] at e
  no g e := by simp [Value.ownBlock] at e
  t := ht
  sz := hs
  S := hS
  var vb e := by
    obtain rfl : w.heap.size + 1 = vb := Option.some.inj e
    have := Go.heap_alloc_new (w.alloc (.cells #[.string s, .bool false] t)) (.cells #[.pointer (some ⟨w.heap.size, 0, none⟩)] 92)
    rw [World.size_alloc] at this
    exact (Below.heap_alloc _ _ _ (by simp)).trans this
theorem body_else {k : Nat} (h : ∀ j, 1 ≤ j → j ≤ 9 → k ≠ j) (r : RdS) : bodyR k r = (op0 k, r) := by
  have h1 := h 1 (by decide) (by decide)
  have h2 := h 2 (by decide) (by decide)
  have h3 := h 3 (by decide) (by decide)
  have h4 := h 4 (by decide) (by decide)
  have h5 := h 5 (by decide) (by decide)
  have h6 := h 6 (by decide) (by decide)
  have h7 := h 7 (by decide) (by decide)
  have h8 := h 8 (by decide) (by decide)
  have h9 := h 9 (by decide) (by decide)
  simp [bodyR, h1, h2, h3, h4, h5, h6, h7, h8, h9]
def readM (k : Nat) (s : ByteArray) : OpM × Nat := if goodR k s then ((bodyR k ⟨s.extract 1 s.size, false⟩).1, 0) else (op0 0, 200)
theorem bytes_inj {a b : ByteArray} (h : a.toList = b.toList) : a = b := by
  rw [ByteArray.toList_eq, ByteArray.toList_eq] at h
  cases a; cases b
  congr 1
  exact Array.toList_inj.1 h
def fin9W (w : World) (b : Nat) (v0 v1 v2 v3 v4 v5 v6 v7 v8 : Value) : World := ((((((((w.setCell ⟨b, 0, none⟩ v0).setCell ⟨b, 1, none⟩ v1).setCell ⟨b, 2, none⟩ v2).setCell ⟨b, 3, none⟩ v3).setCell ⟨b, 4, none⟩ v4).setCell ⟨b, 5, none⟩ v5).setCell ⟨b, 6, none⟩ v6).setCell ⟨b, 7, none⟩ v7).setCell ⟨b, 8, none⟩ v8
theorem fin9 {w : World} {b : Nat} {t : TypeId} {c0 c1 c2 c3 c4 c5 c6 c7 c8 : Value} (h : w.heap[b]? = some (.cells #[c0, c1, c2, c3, c4, c5, c6, c7, c8] t)) (v0 v1 v2 v3 v4 v5 v6 v7 v8 : Value) :
    (fin9W w b v0 v1 v2 v3 v4 v5 v6 v7 v8).heap[b]? = some (.cells #[v0, v1, v2, v3, v4, v5, v6, v7, v8] t) ∧ Chg (fun g => g = b) w (fin9W w b v0 v1 v2 v3 v4 v5 v6 v7 v8) := by
  unfold fin9W
  refine ⟨?_, ?_⟩
  · have h0 : (w.setCell ⟨b, 0, none⟩ v0).heap[b]? = some (.cells #[v0, c1, c2, c3, c4, c5, c6, c7, c8] t) := Mk.heap_setCell_same (i := 0) h v0
    have h1 : ((w.setCell ⟨b, 0, none⟩ v0).setCell ⟨b, 1, none⟩ v1).heap[b]? = some (.cells #[v0, v1, c2, c3, c4, c5, c6, c7, c8] t) := Mk.heap_setCell_same (i := 1) h0 v1
    have h2 : (((w.setCell ⟨b, 0, none⟩ v0).setCell ⟨b, 1, none⟩ v1).setCell ⟨b, 2, none⟩ v2).heap[b]? = some (.cells #[v0, v1, v2, c3, c4, c5, c6, c7, c8] t) := Mk.heap_setCell_same (i := 2) h1 v2
    have h3 : ((((w.setCell ⟨b, 0, none⟩ v0).setCell ⟨b, 1, none⟩ v1).setCell ⟨b, 2, none⟩ v2).setCell ⟨b, 3, none⟩ v3).heap[b]? = some (.cells #[v0, v1, v2, v3, c4, c5, c6, c7, c8] t) := Mk.heap_setCell_same (i := 3) h2 v3
    have h4 : (((((w.setCell ⟨b, 0, none⟩ v0).setCell ⟨b, 1, none⟩ v1).setCell ⟨b, 2, none⟩ v2).setCell ⟨b, 3, none⟩ v3).setCell ⟨b, 4, none⟩ v4).heap[b]? = some (.cells #[v0, v1, v2, v3, v4, c5, c6, c7, c8] t) := Mk.heap_setCell_same (i := 4) h3 v4
    have h5 : ((((((w.setCell ⟨b, 0, none⟩ v0).setCell ⟨b, 1, none⟩ v1).setCell ⟨b, 2, none⟩ v2).setCell ⟨b, 3, none⟩ v3).setCell ⟨b, 4, none⟩ v4).setCell ⟨b, 5, none⟩ v5).heap[b]? = some (.cells #[v0, v1, v2, v3, v4, v5, c6, c7, c8] t) := Mk.heap_setCell_same (i := 5) h4 v5
    have h6 : (((((((w.setCell ⟨b, 0, none⟩ v0).setCell ⟨b, 1, none⟩ v1).setCell ⟨b, 2, none⟩ v2).setCell ⟨b, 3, none⟩ v3).setCell ⟨b, 4, none⟩ v4).setCell ⟨b, 5, none⟩ v5).setCell ⟨b, 6, none⟩ v6).heap[b]? = some (.cells #[v0, v1, v2, v3, v4, v5, v6, c7, c8] t) := Mk.heap_setCell_same (i := 6) h5 v6
    have h7 : ((((((((w.setCell ⟨b, 0, none⟩ v0).setCell ⟨b, 1, none⟩ v1).setCell ⟨b, 2, none⟩ v2).setCell ⟨b, 3, none⟩ v3).setCell ⟨b, 4, none⟩ v4).setCell ⟨b, 5, none⟩ v5).setCell ⟨b, 6, none⟩ v6).setCell ⟨b, 7, none⟩ v7).heap[b]? = some (.cells #[v0, v1, v2, v3, v4, v5, v6, v7, c8] t) := Mk.heap_setCell_same (i := 7) h6 v7
    have h8 : (((((((((w.setCell ⟨b, 0, none⟩ v0).setCell ⟨b, 1, none⟩ v1).setCell ⟨b, 2, none⟩ v2).setCell ⟨b, 3, none⟩ v3).setCell ⟨b, 4, none⟩ v4).setCell ⟨b, 5, none⟩ v5).setCell ⟨b, 6, none⟩ v6).setCell ⟨b, 7, none⟩ v7).setCell ⟨b, 8, none⟩ v8).heap[b]? = some (.cells #[v0, v1, v2, v3, v4, v5, v6, v7, v8] t) := Mk.heap_setCell_same (i := 8) h7 v8
    exact h8
  · have c := Chg.refl (fun g => g = b) w
    have c := c.setCell (a := ⟨b, 0, none⟩) (Or.inl rfl) v0
    have c := c.setCell (a := ⟨b, 1, none⟩) (Or.inl rfl) v1
    have c := c.setCell (a := ⟨b, 2, none⟩) (Or.inl rfl) v2
    have c := c.setCell (a := ⟨b, 3, none⟩) (Or.inl rfl) v3
    have c := c.setCell (a := ⟨b, 4, none⟩) (Or.inl rfl) v4
    have c := c.setCell (a := ⟨b, 5, none⟩) (Or.inl rfl) v5
    have c := c.setCell (a := ⟨b, 6, none⟩) (Or.inl rfl) v6
    have c := c.setCell (a := ⟨b, 7, none⟩) (Or.inl rfl) v7
    exact c.setCell (a := ⟨b, 8, none⟩) (Or.inl rfl) v8
theorem op0_at (w : World) : OpAt w (op0 0) nilL := ⟨⟨by simp [op0], fun i hi => by simp [op0] at hi⟩, ⟨by simp [op0], fun i hi => by simp [op0] at hi, fun x hx => by simp [op0] at hx, fun x hx => by simp [op0] at hx⟩, by simp [op0], by simp [op0], by simp [op0], by simp [op0], by simp [op0], by simp [op0]⟩
/-- The op that was read stays, its box being another's. -/
theorem OpAt.apart9 {w w' : World} {b : Nat} {cs : Array Value} {o : OpM} {l : OpL} (h : OpAt w o l) (hb : w.heap[b]? = some (.cells cs 34)) (c : Chg (fun g => g = b) w w') (hk : ∀ g oo, l.ko = some ⟨g, oo, none⟩ → g ≠ b) (hn : ∀ g oo, l.no = some ⟨g, oo, none⟩ → g ≠ b) : OpAt w' o l := by
  refine ⟨⟨h.keys.len, fun i hi => ?_⟩, ⟨h.needs.len, fun i hi => ?_, h.needs.lim, h.needs.sz⟩, h.k, h.n, h.st, h.g, h.to, h.at_⟩
  · obtain ⟨g, oo, e, hg, hc⟩ := h.keys.cell i hi
    exact ⟨g, oo, e, Nat.lt_of_lt_of_le hg c.size, (World.cell?_of_block (a := ⟨g, oo + i, none⟩) (c.block g hg (hk g oo e))).trans hc⟩
  · obtain ⟨g, oo, e, hg, hc, hd⟩ := h.needs.cell i hi
    exact ⟨g, oo, e, Nat.lt_of_lt_of_le hg c.size, (World.cell?_of_block (a := ⟨g, oo + i * 2, none⟩) (c.block g hg (hn g oo e))).trans hc, (World.cell?_of_block (a := ⟨g, oo + i * 2 + 1, none⟩) (c.block g hg (hn g oo e))).trans hd⟩

end Go.Proofs.Ytgmmglmokkcgeaa
