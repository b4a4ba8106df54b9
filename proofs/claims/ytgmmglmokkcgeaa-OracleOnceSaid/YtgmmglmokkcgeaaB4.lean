/- A transaction is decided once: what the law keeps. -/
import Derived.Test.YtgmmglmokkcgeaaAj
import Derived.Test.YtgmmglmokkcgeaaB3
namespace Go.Proofs.Ytgmmglmokkcgeaa
set_option linter.unusedVariables false
set_option linter.unusedSimpArgs false
open Go.RowKit Mk Go.Sort

def iV (x : Nat) : Value := .int .i64 (x : Nat)
def iv (L : List (Nat × Nat)) : List (Nat × Value) := L.map fun p => (p.1, iV p.2)
theorem mem_nv {K : Type} {D : List (K × Nat)} {p : K × Value} (h : p ∈ nv D) : ∃ x c, p = (x, nV c) ∧ (x, c) ∈ D := by
  unfold nv at h
  obtain ⟨⟨x, c⟩, hy, rfl⟩ := List.mem_map.1 h
  exact ⟨x, c, rfl, hy⟩
theorem mem_iv {D : List (Nat × Nat)} {p : Nat × Value} (h : p ∈ iv D) : ∃ x c, p = (x, iV c) ∧ (x, c) ∈ D := by
  unfold iv at h
  obtain ⟨⟨x, c⟩, hy, rfl⟩ := List.mem_map.1 h
  exact ⟨x, c, rfl, hy⟩
/-- Is one of these tablets not there, or on its way? -/
def movM (n : OM) (x : ByteArray × Nat) : Bool := !(lk n.tab x.1).isSome || (((lk n.tab x.1).getD .zero).to != 0)
theorem mov_clear {n : OM} {o : OpM} (h : clearM n o = true) : o.needs.any (movM n) = false := by
  unfold clearM at h
  simp only [Bool.and_eq_true, List.all_eq_true] at h
  rw [List.any_eq_false]
  intro x hx
  have := h.2 x hx
  unfold needM at this
  unfold movM
  cases hl : lk n.tab x.1 with
  | none => rw [hl] at this; cases this
  | some t =>
    rw [hl] at this
    simp only [Bool.and_eq_true] at this
    simp [beq_iff_eq.1 this.1]
/-- What the law keeps: the state n, what was told of starts (D), of times (S). -/
structure OnAt (w : World) (x : ByteArray) (b j r1 r2 : Nat) (n : OM) (D S : List (Nat × Nat)) (F : Nat → Prop) (wr : World) : Prop where
  chg : Chg (fun _ => False) w wr
  is : OrIs wr b F n
  fb : ∀ g, F g → w.heap.size ≤ g ∧ g < wr.heap.size
  inv : OInv n
  lim : Lim n (4096 * j)
  decm : mapAt okU kvU wr r1 (nv D)
  seem : mapAt okU kvU wr r2 (iv S)
  f1 : ¬ F r1 ∧ w.heap.size ≤ r1
  f2 : ¬ F r2 ∧ w.heap.size ≤ r2
  ne : r1 ≠ r2
  once : OnceD n D
  seen : ∀ p ∈ S, p.1 ≤ n.time ∧ p.2 = seenM (n.com x) p.1
section
variable {w wr w1 w2 w3 : World} {x : ByteArray} {b j r1 r2 : Nat} {n : OM} {D S : List (Nat × Nat)} {F : Nat → Prop}
theorem OnAt.stay (h : OnAt w x b j r1 r2 n D S F wr) {G : Nat → Prop} (c : Chg G wr w1) (h1 : ¬ G r1) (h2 : ¬ G r2) (h3 : ∀ i, F i → ¬ G i) (h4 : ∀ i, G i → w.heap.size ≤ i) : OnAt w x b j r1 r2 n D S F w1 where
  chg := h.chg.trans' c (fun g f => Or.inr (h4 g f))
  is := h.is.stay c h3
  fb g f := ⟨(h.fb g f).1, Nat.lt_of_lt_of_le (h.fb g f).2 c.size⟩
  inv := h.inv
  lim := h.lim
  decm := h.decm.stay (c.block _ h.decm.lt h1)
  seem := h.seem.stay (c.block _ h.seem.lt h2)
  f1 := h.f1
  f2 := h.f2
  ne := h.ne
  once := h.once
  seen := h.seen
theorem OnAt.same (h : OnAt w x b j r1 r2 n D S F wr) (c : Chg (fun _ => False) wr w1) : OnAt w x b j r1 r2 n D S F w1 :=
  h.stay c (fun f => f) (fun f => f) (fun _ _ f => f) (fun _ f => f.elim)
theorem OnAt.mono (h : OnAt w x b j r1 r2 n D S F wr) {k : Nat} (hk : j ≤ k) : OnAt w x b k r1 r2 n D S F wr := { h with lim := h.lim.mono (by omega) }
theorem OnAt.lookD (h : OnAt w x b j r1 r2 n D S F wr) {st : Nat} (hs : st < 18446744073709551616) : (Instr.lookup 45 (.map (some r1)) (.int .u64 (st : Nat)) true).run Try.prog wr = .ok (.tuple #[.int .u64 ((lk D st).getD 0 : Nat), .bool (lk D st).isSome]) wr := by
  have hz : (zeroValue 30).run Try.prog wr = .ok (.int .u64 0) wr := by simp [go_sem]
  have h1 := run_lookup (P := Try.prog) keysU Try.underlying45 hz h.decm (x := st) hs true
  unfold kvU nv at h1
  rw [lk_map, if_pos rfl] at h1
  rw [h1]
  cases lk D st <;> rfl
theorem OnAt.putD (h : OnAt w x b j r1 r2 n D S F wr) {st c : Nat} (hs : st < 18446744073709551616) (hO : OnceD n (upd D st c)) : ∃ es ck, (Instr.mapUpdate 45 (.map (some r1)) (.int .u64 (st : Nat)) (.int .u64 (c : Nat))).run Try.prog wr = .ok () (ChangeMaps.setBlock wr r1 (.map es ck)) ∧ OnAt w x b j r1 r2 n (upd D st c) S F (ChangeMaps.setBlock wr r1 (.map es ck)) := by
  obtain ⟨es, ck, h1, h2⟩ := run_update (P := Try.prog) keysU Try.underlying45 h.decm (x := st) hs (nV c)
  rw [show upd (nv D) st (nV c) = nv (upd D st c) from upd_map nV D st c] at h2
  refine ⟨es, ck, h1, ?_⟩
  have hc : Chg (fun g => g = r1) wr (ChangeMaps.setBlock wr r1 (.map es ck)) := (Chg.refl (fun g => g = r1) wr).setBlock (Or.inl rfl) _
  exact {
    chg := h.chg.trans' hc (fun g e => Or.inr (by rw [e]; exact h.f1.2))
    is := h.is.stay hc (fun i f e => h.f1.1 (by rw [← e]; exact f))
    fb := fun g f => ⟨(h.fb g f).1, Nat.lt_of_lt_of_le (h.fb g f).2 hc.size⟩
    inv := h.inv
    lim := h.lim
    decm := ⟨es, ck, setBlock_same h.decm.lt, h2⟩
    seem := h.seem.stay (hc.block _ h.seem.lt (fun e => h.ne e.symm))
    f1 := h.f1
    f2 := h.f2
    ne := h.ne
    once := hO
    seen := h.seen }
theorem OnAt.putS (h : OnAt w x b j r1 r2 n D S F wr) (ht : n.time < 18446744073709551616) : ∃ es ck, (Instr.mapUpdate 46 (.map (some r2)) (.int .u64 (n.time : Nat)) (.int .i64 (seenM (n.com x) n.time : Nat))).run Try.prog wr = .ok () (ChangeMaps.setBlock wr r2 (.map es ck)) ∧ ∃ S', OnAt w x b j r1 r2 n D S' F (ChangeMaps.setBlock wr r2 (.map es ck)) := by
  obtain ⟨es, ck, h1, h2⟩ := run_update (P := Try.prog) keysU Try.underlying46 h.seem (x := n.time) ht (iV (seenM (n.com x) n.time))
  rw [show upd (iv S) n.time (iV (seenM (n.com x) n.time)) = iv (upd S n.time (seenM (n.com x) n.time)) from upd_map iV S n.time _] at h2
  refine ⟨es, ck, h1, upd S n.time (seenM (n.com x) n.time), ?_⟩
  have hc : Chg (fun g => g = r2) wr (ChangeMaps.setBlock wr r2 (.map es ck)) := (Chg.refl (fun g => g = r2) wr).setBlock (Or.inl rfl) _
  exact {
    chg := h.chg.trans' hc (fun g e => Or.inr (by rw [e]; exact h.f2.2))
    is := h.is.stay hc (fun i f e => h.f2.1 (by rw [← e]; exact f))
    fb := fun g f => ⟨(h.fb g f).1, Nat.lt_of_lt_of_le (h.fb g f).2 hc.size⟩
    inv := h.inv
    lim := h.lim
    decm := h.decm.stay (hc.block _ h.decm.lt (fun e => h.ne e))
    seem := ⟨es, ck, setBlock_same h.seem.lt, h2⟩
    f1 := h.f1
    f2 := h.f2
    ne := h.ne
    once := h.once
    seen := fun p hp => by
      rcases mem_upd2 hp with rfl | hp
      · exact ⟨Nat.le_refl _, rfl⟩
      · exact h.seen p hp }
/-- What a command that was let in says. -/
theorem OnAt.plain (h : OnAt w x b j r1 r2 n D S F wr) {o : OpM} (hc : (applyM n o).2.code = 0) :
    (givenM o (applyM n o).2 n.time ≠ 0 → givenM o (applyM n o).2 n.time = n.time + 1) ∧ (givenM o (applyM n o).2 n.time = 0 → (applyM n o).1.time = n.time) ∧ n.time ≤ (applyM n o).1.time ∧
    (o.k = 3 → n.time < (applyM n o).2.commit → o.needs.any (movM n) = false) ∧
    (o.k = 3 ∨ o.k = 4 → (∀ c, lk D o.st = some c → c = (applyM n o).2.commit) ∧ ((applyM n o).2.commit ≠ 0 → o.st < (applyM n o).2.commit) ∧ OnceD (applyM n o).1 (upd D o.st (applyM n o).2.commit)) := by
  have hm : mayM o = true := by
    cases hm : mayM o with
    | true => rfl
    | false => unfold applyM at hc; rw [if_neg (by rw [hm]; decide)] at hc; simp at hc
  obtain ⟨g1, g2⟩ := given_next h.inv hm hc
  refine ⟨g1, fun g0 => ?_, time_le n o, fun hk ht => mov_clear (commit_needs h.inv hm hk hc ht), fun hk => h.once.tell h.inv hm hk hc⟩
  rcases g2 g0 with e | e
  · exact e
  · exfalso
    unfold givenM at g0
    rw [if_pos e] at g0
    have ea : applyM n o = doM n o := by unfold applyM; rw [if_pos hm]
    have : doM n o = ({ n with time := n.time + o.n }, ⟨0, n.time + 1, 0, .zero⟩) := by unfold doM; rw [e]; rfl
    rw [ea, this] at g0
    simp at g0
end
end Go.Proofs.Ytgmmglmokkcgeaa
