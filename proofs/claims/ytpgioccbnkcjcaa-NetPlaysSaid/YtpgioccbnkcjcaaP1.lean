/- The document's net: what its memory is; May, find, look. -/
import Derived.Test.YtpgioccbnkcjcaaNk
namespace Go.Proofs.Ytpgioccbnkcjcaa
open Go.RowKit Mk

/-- A slice of one cell each, with a store at one of its cells. -/
theorem Mk.sl.set1 {w : World} {e : TypeId} {g n cap : Nat} {xs : List Value} (h : sl w e 1 (.slice (some ⟨g, 0, none⟩) n cap) n xs) {i : Nat} (hi : i < n) (u : Value) : sl (w.setCell ⟨g, i, none⟩ u) e 1 (.slice (some ⟨g, 0, none⟩) n cap) n (xs.set i u) := by
  rcases h with ⟨h1, ⟨h0, _⟩ | ⟨g', cap', cur, hv, hh, a, b, c, d⟩⟩
  · cases h0
  · cases hv
    refine ⟨by rw [List.length_set]; exact h1, Or.inr ⟨g, cap, cur.setIfInBounds i u, rfl, heap_setCell_same hh u, a, b, by simpa using c, ?_⟩⟩
    rw [← d, Array.toList_setIfInBounds, List.take_set]
theorem Mk.sl.frozen {w : World} {e : TypeId} {size g n cap : Nat} {xs : List Value} (h : sl w e size (.slice (some ⟨g, 0, none⟩) n cap) n xs) (i : Nat) : w.frozen? ⟨g, i, none⟩ = false := by
  rcases h with ⟨h1, ⟨h0, _⟩ | ⟨g', cap', cur, hv, hh, a, b, c, d⟩⟩
  · cases h0
  · cases hv
    exact frozen_of hh
theorem Mk.sl.type {w : World} {e : TypeId} {size g n cap : Nat} {xs : List Value} (h : sl w e size (.slice (some ⟨g, 0, none⟩) n cap) n xs) : ∃ cur, w.heap[g]? = some (.cells cur e) := by
  rcases h with ⟨h1, ⟨h0, _⟩ | ⟨g', cap', cur, hv, hh, a, b, c, d⟩⟩
  · cases h0
  · cases hv
    exact ⟨_, hh⟩
theorem Mk.sl.at {w : World} {e : TypeId} {size g n cap : Nat} {xs : List Value} (h : sl w e size (.slice (some ⟨g, 0, none⟩) n cap) n xs) {i : Nat} {u : Value} (hi : xs[i]? = some u) : w.cell? ⟨g, i, none⟩ = some u := by
  obtain ⟨g', cap', e', hc⟩ := h.cell hi
  cases e'
  exact hc

/-- Where the document's net lies. -/
structure Lay where
  lo : Option Addr
  lc : Nat
  sb : Nat
  sc : Nat
  tb : Nat
  tc : Nat
  db : Nat
  dc : Nat
def pcells (l : List Msg) : List Value := (l.map pkm).flatMap pkc
def scells (ms : List Mach) : List Value := .bool false :: ms.map fun m => .bool m.side
def tcells (ms : List Mach) : List Value := .int .i64 0 :: ms.map fun m => .int .i64 m.ticks
def dcells (ms : List Mach) : List Value := .int .u64 0 :: ms.map fun m => .int .u64 (m.draws : Nat)
structure RefRep (w : World) (x : Nat) (R : Lay) (F : Nat → Prop) (n : NetM) : Prop where
  box : w.heap[x]? = some (.cells #[.int .i64 n.ms.length, .slice R.lo n.l.length R.lc, .slice (some ⟨R.sb, 0, none⟩) (n.ms.length + 1 : Nat) R.sc, .slice (some ⟨R.tb, 0, none⟩) (n.ms.length + 1 : Nat) R.tc, .slice (some ⟨R.db, 0, none⟩) (n.ms.length + 1 : Nat) R.dc] 84)
  l : sl w 42 3 (.slice R.lo n.l.length R.lc) n.l.length (pcells n.l)
  s : sl w 4 1 (.slice (some ⟨R.sb, 0, none⟩) (n.ms.length + 1 : Nat) R.sc) (n.ms.length + 1) (scells n.ms)
  t : sl w 3 1 (.slice (some ⟨R.tb, 0, none⟩) (n.ms.length + 1 : Nat) R.tc) (n.ms.length + 1) (tcells n.ms)
  d : sl w 26 1 (.slice (some ⟨R.db, 0, none⟩) (n.ms.length + 1 : Nat) R.dc) (n.ms.length + 1) (dcells n.ms)
  few : n.ms.length ≤ 64 ∧ 0 < n.ms.length
  under : n.l.length ≤ 16384
  fx : F x
  fl : ∀ g o, R.lo = some ⟨g, o, none⟩ → F g
  fs : F R.sb
  ft : F R.tb
  fd : F R.db
def RefIs (w : World) (x : Nat) (F : Nat → Prop) (n : NetM) : Prop := ∃ R, RefRep w x R F n

theorem own_slice (a : Option Addr) (n c : Nat) {g : Nat} (h : (Value.slice a n c).ownBlock = some g) : ∃ ad, a = some ad ∧ ad.block = g := by
  cases a with
  | none => simp [Value.ownBlock] at h
  | some ad => simp [Value.ownBlock] at h; exact ⟨ad, rfl, h⟩
theorem RefRep.fl' {w : World} {x : Nat} {R : Lay} {F : Nat → Prop} {n : NetM} (h : RefRep w x R F n) {g : Nat} (hg : (Value.slice R.lo n.l.length R.lc).ownBlock = some g) : F g := by
  rcases h.l.2 with ⟨e, _⟩ | ⟨g', cap, cur, e, _⟩
  · rw [e] at hg; simp [Value.ownBlock] at hg
  · rw [e] at hg
    simp [Value.ownBlock] at hg
    subst hg
    simp only [Value.slice.injEq] at e
    exact h.fl _ _ e.1
theorem RefRep.stay {w w' : World} {x : Nat} {R : Lay} {F G : Nat → Prop} {n : NetM} (h : RefRep w x R F n) (c : Chg G w w') (hd : ∀ i, F i → ¬ G i) : RefRep w' x R F n where
  box := (c.block x (Array.getElem?_eq_some_iff.1 h.box).1 (hd x h.fx)).trans h.box
  l := h.l.stay (fun g hg => c.block g (h.l.lt hg) (hd g (h.fl' hg)))
  s := h.s.stay (fun g hg => c.block g (h.s.lt hg) (hd g (by simp [Value.ownBlock] at hg; exact hg ▸ h.fs)))
  t := h.t.stay (fun g hg => c.block g (h.t.lt hg) (hd g (by simp [Value.ownBlock] at hg; exact hg ▸ h.ft)))
  d := h.d.stay (fun g hg => c.block g (h.d.lt hg) (hd g (by simp [Value.ownBlock] at hg; exact hg ▸ h.fd)))
  few := h.few
  under := h.under
  fx := h.fx
  fl := h.fl
  fs := h.fs
  ft := h.ft
  fd := h.fd
theorem RefIs.stay {w w' : World} {x : Nat} {F G : Nat → Prop} {n : NetM} (h : RefIs w x F n) (c : Chg G w w') (hd : ∀ i, F i → ¬ G i) : RefIs w' x F n := by
  obtain ⟨R, h⟩ := h
  exact ⟨R, h.stay c hd⟩
theorem RefRep.wide {w : World} {x : Nat} {R : Lay} {F G : Nat → Prop} {n : NetM} (h : RefRep w x R F n) (hG : ∀ g, F g → G g) : RefRep w x R G n :=
  ⟨h.box, h.l, h.s, h.t, h.d, h.few, h.under, hG _ h.fx, fun g o e => hG _ (h.fl g o e), hG _ h.fs, hG _ h.ft, hG _ h.fd⟩
theorem RefIs.wide {w : World} {x : Nat} {F G : Nat → Prop} {n : NetM} (h : RefIs w x F n) (hG : ∀ g, F g → G g) : RefIs w x G n := by
  obtain ⟨R, h⟩ := h
  exact ⟨R, h.wide hG⟩
theorem RefRep.lts {w : World} {x : Nat} {R : Lay} {F : Nat → Prop} {n : NetM} (h : RefRep w x R F n) : x < w.heap.size ∧ R.sb < w.heap.size ∧ R.tb < w.heap.size ∧ R.db < w.heap.size :=
  ⟨(Array.getElem?_eq_some_iff.1 h.box).1, h.s.lt rfl, h.t.lt rfl, h.d.lt rfl⟩
theorem RefRep.tight {w : World} {x : Nat} {R : Lay} {F : Nat → Prop} {n : NetM} (h : RefRep w x R F n) : RefRep w x R (fun g => F g ∧ g < w.heap.size) n :=
  ⟨h.box, h.l, h.s, h.t, h.d, h.few, h.under, ⟨h.fx, h.lts.1⟩, fun g o e => ⟨h.fl g o e, h.l.lt (by rw [e]; rfl)⟩, ⟨h.fs, h.lts.2.1⟩, ⟨h.ft, h.lts.2.2.1⟩, ⟨h.fd, h.lts.2.2.2⟩⟩
theorem RefIs.tight {w : World} {x : Nat} {F : Nat → Prop} {n : NetM} (h : RefIs w x F n) : RefIs w x (fun g => F g ∧ g < w.heap.size) n := by
  obtain ⟨R, h⟩ := h
  exact ⟨R, h.tight⟩

section
variable {w : World} {x : Nat} {R : Lay} {F : Nat → Prop} {n : NetM}
theorem RefRep.c0 (h : RefRep w x R F n) : w.cell? ⟨x, 0, none⟩ = some (.int .i64 n.ms.length) := cell_of h.box (by simp)
theorem RefRep.c1 (h : RefRep w x R F n) : w.cell? ⟨x, 1, none⟩ = some (.slice R.lo n.l.length R.lc) := cell_of h.box (by simp)
theorem RefRep.c2 (h : RefRep w x R F n) : w.cell? ⟨x, 2, none⟩ = some (.slice (some ⟨R.sb, 0, none⟩) (n.ms.length + 1 : Nat) R.sc) := cell_of h.box (by simp)
theorem RefRep.c3 (h : RefRep w x R F n) : w.cell? ⟨x, 3, none⟩ = some (.slice (some ⟨R.tb, 0, none⟩) (n.ms.length + 1 : Nat) R.tc) := cell_of h.box (by simp)
theorem RefRep.c4 (h : RefRep w x R F n) : w.cell? ⟨x, 4, none⟩ = some (.slice (some ⟨R.db, 0, none⟩) (n.ms.length + 1 : Nat) R.dc) := cell_of h.box (by simp)
/-- A message's cells. -/
theorem RefRep.msg (h : RefRep w x R F n) {j : Nat} (hj : j < n.l.length) : ∃ g, R.lo = some ⟨g, 0, none⟩ ∧ w.cell? ⟨g, j * 3, none⟩ = some (.int .i64 n.l[j].frm) ∧ w.cell? ⟨g, j * 3 + 1, none⟩ = some (.int .i64 n.l[j].to) ∧ w.cell? ⟨g, j * 3 + 2, none⟩ = some (.string n.l[j].txt) := by
  have hj' : j < (n.l.map pkm).length := by simpa using hj
  have e : (n.l.map pkm)[j] = pkm n.l[j] := by simp
  have g0 := pk_get (n.l.map pkm) j hj' 0 (by omega)
  have g1 := pk_get (n.l.map pkm) j hj' 1 (by omega)
  have g2 := pk_get (n.l.map pkm) j hj' 2 (by omega)
  rw [e] at g0 g1 g2
  simp only [pkc, pkm, Nat.add_zero, List.getElem?_cons_zero, List.getElem?_cons_succ] at g0 g1 g2
  obtain ⟨g, cap, hv, a0⟩ := h.l.cell g0
  simp only [Value.slice.injEq] at hv
  have hl := h.l
  rw [hv.1] at hl
  exact ⟨g, hv.1, a0, hl.at g1, hl.at g2⟩

theorem rmay_any (h : RefRep w x R F n) (i : Int) :
    Calls Try.prog 50 #[.pointer (some ⟨x, 0, none⟩), .int .i64 i] w fun e w' => e = .returned (.bool (may n.ms.length i)) ∧ w' = w := by
  have c0 := h.c0
  unfold may
  generalize n.ms.length = N at *
  clear h
  by_cases h1 : 1 ≤ i
  · have d1 : decide (1 ≤ i) = true := by simpa using h1
    rw [d1, Bool.true_and]
    go_enter Try.func50, Try.ntmps50
    go_wp2
    go_ret
    exact ⟨rfl, rfl⟩
  · have d1 : decide (1 ≤ i) = false := by simpa using h1
    rw [d1, Bool.false_and]
    go_enter Try.func50, Try.ntmps50
    go_wp2
    go_ret
    exact ⟨rfl, rfl⟩

/-- Where the u-th message of a link stands. -/
def posL : List Msg → Lnk → Nat → Option Nat
  | [], _, _ => none
  | m :: l, x, u => if m.frm = x.1 ∧ m.to = x.2 then (match u with | 0 => some 0 | u + 1 => (posL l x u).map (· + 1)) else (posL l x u).map (· + 1)
def posI (l : List Msg) (x : Lnk) (u : Nat) : Int := match posL l x u with
  | some k => k
  | none => -1
theorem posL_some {l : List Msg} {x : Lnk} {u k : Nat} (h : posL l x u = some k) : ∃ (hk : k < l.length) (hu : u < (q l x).length), l[k].frm = x.1 ∧ l[k].to = x.2 ∧ l[k].txt = (q l x)[u] ∧ dropL l x u = l.eraseIdx k := by
  induction l generalizing u k with
  | nil => simp [posL] at h
  | cons m l ih =>
    by_cases hm : m.frm = x.1 ∧ m.to = x.2
    · have hq : q (m :: l) x = m.txt :: q l x := by simp [q, hm]
      cases u with
      | zero =>
        simp [posL, hm] at h
        subst h
        simp only [hq]
        exact ⟨by simp, by simp, hm.1, hm.2, rfl, by simp [dropL, hm]⟩
      | succ u =>
        simp [posL, hm] at h
        obtain ⟨k', hk', rfl⟩ := h
        obtain ⟨a, b, c, d, e, f⟩ := ih hk'
        simp only [hq]
        exact ⟨by simpa using a, by simpa using b, c, d, e, by simp [dropL, hm, f]⟩
    · have hq : q (m :: l) x = q l x := by simp [q, hm]
      have hp : posL (m :: l) x u = (posL l x u).map (· + 1) := by cases u <;> simp [posL, hm]
      rw [hp] at h
      obtain ⟨k', hk', rfl⟩ := Option.map_eq_some_iff.1 h
      obtain ⟨a, b, c, d, e, f⟩ := ih hk'
      simp only [hq]
      exact ⟨by simpa using a, b, c, d, e, by cases u <;> simp [dropL, hm, f]⟩
theorem posL_none {l : List Msg} {x : Lnk} {u : Nat} (h : posL l x u = none) : (q l x).length ≤ u := by
  induction l generalizing u with
  | nil => simp [q]
  | cons m l ih =>
    by_cases hm : m.frm = x.1 ∧ m.to = x.2
    · have hq : q (m :: l) x = m.txt :: q l x := by simp [q, hm]
      cases u with
      | zero => simp [posL, hm] at h
      | succ u =>
        simp [posL, hm] at h
        have := ih h
        rw [hq]
        simpa using this
    · have hq : q (m :: l) x = q l x := by simp [q, hm]
      have hp : posL (m :: l) x u = (posL l x u).map (· + 1) := by cases u <;> simp [posL, hm]
      rw [hp] at h
      rw [hq]
      exact ih (by simpa using h)

set_option maxRecDepth 100000 in
set_option maxHeartbeats 1000000 in
theorem rfind_any (h : RefRep w x R F n) (i k : Int) (u : Nat) (hu : (u : Int) ≤ 9223372036854775807) :
    Calls Try.prog 52 #[.pointer (some ⟨x, 0, none⟩), .int .i64 i, .int .i64 k, .int .i64 u] w fun e w' => e = .returned (.int .i64 (posI n.l (i, k) u)) ∧ w' = w := by
  have c1 := h.c1
  have hlen := h.under
  obtain ⟨N, hN⟩ : ∃ N, n.l.length = N := ⟨_, rfl⟩
  have H := Lib.hid h
  have HN := Lib.hid hN
  rw [hN] at c1 hlen
  clear h hN
  go_enter Try.func52, Try.ntmps52
  go_wp2
  go_loop [3, 9] (fun a b => ∃ (u' j : Nat), a = .int .i64 u' ∧ b = .int .i64 j ∧ j ≤ N ∧ u' ≤ u ∧ Hid (posL n.l (i, k) u = (posL (n.l.drop j) (i, k) u').map (· + j))) (fun _ b => N - (intOf b).toNat)
  case atStart => exact ⟨u, 0, rfl, rfl, by omega, by omega, Lib.hid (by simp)⟩
  case round =>
    obtain ⟨u', j, rfl, rfl, hj, hu', HP⟩ := hrel
    by_cases hlt : j < N
    · have hd : decide ((j : Int) < N) = true := by simp; omega
      have hjl : j < n.l.length := by rw [HN.out]; exact hlt
      obtain ⟨g, hlo, a0, a1, -⟩ := H.out.msg hjl
      rw [hlo] at c1
      have hdr := List.drop_eq_getElem_cons hjl
      have q0 : (0 : Int) ≤ j := by omega
      have q1 : (j : Int) < N := by omega
      obtain ⟨mm, hmm⟩ : ∃ mm, n.l[j] = mm := ⟨_, rfl⟩
      rw [hmm] at a0 a1 hdr
      obtain ⟨mf, mt, mx⟩ := mm
      simp only at a0 a1
      by_cases hf : mf = i
      · have hdf : decide (mf = i) = true := by simpa using hf
        by_cases ht : mt = k
        · have hdt : decide (mt = k) = true := by simpa using ht
          by_cases h0 : u' = 0
          · subst h0
            have hR : posI n.l (i, k) u = j := by
              unfold posI
              rw [HP.out, hdr]
              simp [posL, hf, ht]
            clear hdr hmm hlo
            go_wp2
            go_ret
            exact ⟨by first | rfl | (rw [hR]; rfl), rfl⟩
          · have hd0 : decide ((u' : Int) = 0) = false := by simp; omega
            obtain ⟨u2, rfl⟩ : ∃ u2, u' = u2 + 1 := ⟨u' - 1, by omega⟩
            have HP2 := Lib.hid (show posL n.l (i, k) u = (posL (n.l.drop (j + 1)) (i, k) u2).map (· + (j + 1)) by
              rw [HP.out, hdr]
              simp [posL, hf, ht]
              cases posL (n.l.drop (j + 1)) (i, k) u2 <;> simp <;> omega)
            clear hdr hmm hlo
            go_wp2
            go_round
            case rel => exact ⟨u2, j + 1, by go_num, by go_num, by omega, by omega, HP2⟩
            case measure => simp [intOf]; omega
        · have hdt : decide (mt = k) = false := by simpa using ht
          have HP2 := Lib.hid (show posL n.l (i, k) u = (posL (n.l.drop (j + 1)) (i, k) u').map (· + (j + 1)) by
            rw [HP.out, hdr]
            have hp : posL (⟨mf, mt, mx⟩ :: n.l.drop (j + 1)) (i, k) u' = (posL (n.l.drop (j + 1)) (i, k) u').map (· + 1) := by cases u' <;> simp [posL, ht]
            rw [hp]
            cases posL (n.l.drop (j + 1)) (i, k) u' <;> simp <;> omega)
          clear hdr hmm hlo
          go_wp2
          go_round
          case rel => exact ⟨u', j + 1, rfl, by go_num, by omega, by omega, HP2⟩
          case measure => simp [intOf]; omega
      · have hdf : decide (mf = i) = false := by simpa using hf
        have HP2 := Lib.hid (show posL n.l (i, k) u = (posL (n.l.drop (j + 1)) (i, k) u').map (· + (j + 1)) by
          rw [HP.out, hdr]
          have hp : posL (⟨mf, mt, mx⟩ :: n.l.drop (j + 1)) (i, k) u' = (posL (n.l.drop (j + 1)) (i, k) u').map (· + 1) := by cases u' <;> simp [posL, hf]
          rw [hp]
          cases posL (n.l.drop (j + 1)) (i, k) u' <;> simp <;> omega)
        clear hdr hmm hlo
        go_wp2
        go_round
        case rel => exact ⟨u', j + 1, rfl, by go_num, by omega, by omega, HP2⟩
        case measure => simp [intOf]; omega
    · have hd : decide ((j : Int) < N) = false := by simp; omega
      have hR : posI n.l (i, k) u = -1 := by
        unfold posI
        rw [HP.out, List.drop_of_length_le (by rw [HN.out]; omega)]
        simp [posL]
      go_wp2
      go_ret
      exact ⟨by first | rfl | (rw [hR]; rfl), rfl⟩
end
end Go.Proofs.Ytpgioccbnkcjcaa
