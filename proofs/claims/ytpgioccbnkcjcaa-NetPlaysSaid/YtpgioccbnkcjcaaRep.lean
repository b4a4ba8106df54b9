/- The net: what its memory is. -/
import Derived.Test.YtpgioccbnkcjcaaFoot
import Derived.Test.YtpgioccbnkcjcaaRows
import Derived.DeepKeys4
import Derived.WalkSpells
import Derived.WalkLawsBesides
namespace Go.Proofs.Ytpgioccbnkcjcaa
open Go.RowKit Mk

abbrev Lnk := Int × Int
def lkv (x : Lnk) : Value := .agg #[.int .i64 x.1, .int .i64 x.2]
def lok (x : Lnk) : Prop := (Lit.int .i64 x.1).wf = true ∧ (Lit.int .i64 x.2).wf = true

theorem Try.laidOut : laidOutB Try.prog = true := by kernel_rfl
theorem Try.row72 : (72 : TypeId) < Try.prog.types.size := of_decide_eq_true (by kernel_rfl)
theorem Try.wide72 : (match Try.prog.underlying 72 with | some (.array _ _) | some (.struct _) => true | _ => false) = true := by rw [Try.underlying72]
theorem Try.law72 : WideMaps.KeyLaw Try.prog 72 := deep_law_laid Try.laidOut (m := 2) (by omega) Try.row72 (by kernel_rfl) Try.wide72
theorem Try.keyType72 : Try.prog.keyType 72 = true := by kernel_rfl
theorem Try.cells72 : Try.prog.cellsOf 72 = 2 := by kernel_rfl
theorem Try.cells3 : Try.prog.cellsOf 3 = 1 := by kernel_rfl

theorem lit_pair {P : Program} {k e : TypeId} {f1 f2 : Field} (hu : P.underlying k = some (.struct #[f1, f2])) (h1 : f1.type = e) (h2 : f2.type = e) (o1 : f1.offset = 0) (o2 : f2.offset = 1) (n1 : (f1.name != "_") = true) (n2 : (f2.name != "_") = true)
    (he : P.underlying e = some (.int .i64)) (hk : P.keyType k = true) (hc : P.cellsOf k = 2) (hce : P.cellsOf e = 1) (hsz : ∃ m, P.types.size = m + 1) {a b : Int} (ha : (Lit.int .i64 a).wf = true) (hb : (Lit.int .i64 b).wf = true) :
    keyOf P k (.agg #[.int .i64 a, .int .i64 b]) = some (.string (keyBytes [.int .i64 a, .int .i64 b])) := by
  obtain ⟨m, hm⟩ := hsz
  have hf : (Value.agg #[.int .i64 a, .int .i64 b]).formed P k = true := by simp [Value.formed, hu, hc]
  unfold keyOf
  simp [hu, hk, hf, hm, Program.keyLits, he, Value.cells, hc, hce, ha, hb, h1, h2, o1, o2, n1, n2] at *

theorem lkeys : Mk.Keys Try.prog 72 lok lkv where
  keyed := Go.Maps.Keyed.of_law Try.law72
  inj a b h := by
    obtain ⟨a1, a2⟩ := a
    obtain ⟨b1, b2⟩ := b
    simp [lkv] at h
    simp [h]
  lit x hx := ⟨_, lit_pair Try.underlying72 rfl rfl rfl rfl (by decide) (by decide) Try.underlying3 Try.keyType72 Try.cells72 Try.cells3 (Nat.exists_eq_succ_of_ne_zero (fun h => absurd (h ▸ Try.row72) (Nat.not_lt_zero _))) hx.1 hx.2⟩

structure Msg where
  frm : Int
  to : Int
  txt : ByteArray
structure Mach where
  ticks : Int
  draws : Nat
  side : Bool
structure NetM where
  ms : List Mach
  l : List Msg

/-- What is under way on a link. -/
def q (l : List Msg) (x : Lnk) : List ByteArray := (l.filter (fun m => m.frm = x.1 ∧ m.to = x.2)).map (·.txt)
def mcells (ms : List Mach) : List Value := ms.flatMap fun m => [.int .i64 m.ticks, .int .u64 m.draws, .bool m.side]

/-- Where the machines lie: the block, the slice's capacity, what lies behind. -/
structure MB where
  b : Nat
  c : Nat
  rest : List Value
instance : Coe MB Nat := ⟨MB.b⟩
structure NetRep (w : World) (b r : Nat) (mb : MB) (L : List (Lnk × Value)) (F : Nat → Prop) (n : NetM) : Prop where
  net : w.heap[b]? = some (.cells #[.map (some r), .slice (some ⟨mb, 0, none⟩) n.ms.length mb.c, .int .i64 n.l.length] 67)
  mach : w.heap[mb.b]? = some (.cells (mcells n.ms ++ mb.rest).toArray 69)
  map : mapAt lok lkv w r L
  rows : ∀ p ∈ L, sl w 9 1 p.2 (q n.l p.1).length ((q n.l p.1).map .string)
  gone : ∀ x, lk L x = none → q n.l x = []
  apart : ∀ p ∈ L, ∀ p' ∈ L, p.1 ≠ p'.1 → p.2.ownBlock = none ∨ p.2.ownBlock ≠ p'.2.ownBlock
  few : n.ms.length ≤ 64 ∧ 0 < n.ms.length
  under : n.l.length ≤ 16384
  fb : F b
  fmb : F mb
  fr : F r
  frow : ∀ p ∈ L, ∀ g, p.2.ownBlock = some g → F g

def NetIs (w : World) (b : Nat) (F : Nat → Prop) (n : NetM) : Prop := ∃ r mb L, NetRep w b r mb L F n

theorem mcells_len (ms : List Mach) : (mcells ms).length = 3 * ms.length := by
  induction ms with
  | nil => rfl
  | cons m ms ih => simp only [mcells, List.flatMap_cons, List.length_append, List.length_cons, List.length_nil] at ih ⊢; omega
theorem mcells_get (ms : List Mach) (j : Nat) (h : j < ms.length) (i : Nat) (hi : i < 3) : (mcells ms)[3 * j + i]? = [Value.int .i64 ms[j].ticks, .int .u64 ms[j].draws, .bool ms[j].side][i]? := by
  induction ms generalizing j with
  | nil => simp at h
  | cons m ms ih =>
    cases j with
    | zero =>
      simp only [mcells, List.flatMap_cons, Nat.mul_zero, Nat.zero_add, List.getElem_cons_zero]
      rw [List.getElem?_append_left (by simpa using hi)]
    | succ j =>
      simp only [mcells, List.flatMap_cons, List.getElem_cons_succ] at ih ⊢
      rw [List.getElem?_append_right (by simp; omega), ← ih j (by simpa using h)]
      congr 1
      simp; omega

/-- It stays what it is while none of its blocks is turned. -/
theorem NetRep.stay {w w' : World} {b r : Nat} {mb : MB} {L : List (Lnk × Value)} {F G : Nat → Prop} {n : NetM} (h : NetRep w b r mb L F n) (c : Chg G w w') (hd : ∀ i, F i → ¬ G i) : NetRep w' b r mb L F n where
  net := (c.block b (Array.getElem?_eq_some_iff.1 h.net).1 (hd b h.fb)).trans h.net
  mach := (c.block mb (Array.getElem?_eq_some_iff.1 h.mach).1 (hd mb h.fmb)).trans h.mach
  map := h.map.stay (c.block r h.map.lt (hd r h.fr))
  rows p hp := (h.rows p hp).stay (fun g hg => c.block g ((h.rows p hp).lt hg) (hd g (h.frow p hp g hg)))
  gone := h.gone
  apart := h.apart
  few := h.few
  under := h.under
  fb := h.fb
  fmb := h.fmb
  fr := h.fr
  frow := h.frow
theorem NetIs.stay {w w' : World} {b : Nat} {F G : Nat → Prop} {n : NetM} (h : NetIs w b F n) (c : Chg G w w') (hd : ∀ i, F i → ¬ G i) : NetIs w' b F n := by
  obtain ⟨r, mb, L, h⟩ := h
  exact ⟨r, mb, L, h.stay c hd⟩

/-- The memory of New: no message. -/
theorem NetRep.lt {w : World} {b r : Nat} {mb : MB} {L : List (Lnk × Value)} {F : Nat → Prop} {n : NetM} (h : NetRep w b r mb L F n) : b < w.heap.size ∧ mb < w.heap.size ∧ r < w.heap.size :=
  ⟨(Array.getElem?_eq_some_iff.1 h.net).1, (Array.getElem?_eq_some_iff.1 h.mach).1, h.map.lt⟩
theorem NetRep.ne {w : World} {b r : Nat} {mb : MB} {L : List (Lnk × Value)} {F : Nat → Prop} {n : NetM} (h : NetRep w b r mb L F n) : b ≠ mb ∧ b ≠ r ∧ mb ≠ r := by
  obtain ⟨es, c, hr, _⟩ := h.map
  refine ⟨fun e => ?_, fun e => ?_, fun e => ?_⟩
  · have := h.net; rw [e, h.mach] at this; simp at this
  · have := h.net; rw [e, hr] at this; simp at this
  · have := h.mach; rw [e, hr] at this; simp at this
theorem NetRep.row_ne {w : World} {b r : Nat} {mb : MB} {L : List (Lnk × Value)} {F : Nat → Prop} {n : NetM} (h : NetRep w b r mb L F n) {p : Lnk × Value} (hp : p ∈ L) {g : Nat} (hg : p.2.ownBlock = some g) : g ≠ b ∧ g ≠ mb ∧ g ≠ r := by
  obtain ⟨es, c, hr, _⟩ := h.map
  rcases (h.rows p hp).2 with ⟨e, _⟩ | ⟨g', cap, cur, e, hh, _⟩
  · rw [e] at hg; simp [Value.ownBlock] at hg
  · rw [e] at hg
    simp [Value.ownBlock] at hg
    subst hg
    refine ⟨fun e => ?_, fun e => ?_, fun e => ?_⟩
    · rw [e, h.net] at hh; simp at hh
    · rw [e, h.mach] at hh; simp at hh
    · rw [e, hr] at hh; simp at hh
end Go.Proofs.Ytpgioccbnkcjcaa
