/- Walks: the law's makers of commands. -/
import Derived.Test.YtgmmglmokkcgeaaGreatAd
namespace Go.Proofs.YtgmmglmokkcgeaaGreat
set_option linter.unusedVariables false
set_option linter.unusedSimpArgs false
open Go.RowKit Mk Go.Sort

def opT (n : Nat) : OpM := ⟨1, n, 0, [], [], ⟨#[]⟩, 0, 0, 0⟩
def opC3 (st : Nat) (k p : ByteArray) (t : Nat) : OpM := ⟨3, 0, st, [k], [(p, t)], ⟨#[]⟩, 0, 0, 0⟩
set_option maxRecDepth 100000 in
theorem timesop_any (w : World) (n : Nat) (hn : n < 4294967296) : Calls Tryz.prog 27 #[.int .u32 (n : Nat)] w fun e w' => e = .returned (.agg (opC (opT n) ⟨none, 0, none, 0⟩)) ∧ Chg (fun _ => False) w w' := by
  go_enter Tryz.func27, Tryz.ntmps27
  go_wp2
  refine bodyPost_ret (results_cell_row (p := 2) (ty := 28) rfl _ _ w.heap.size 28 _ (0, 0) _ rfl (Go.heap_alloc_new _ _) Tryz.underlying28 rfl (by kernel_rfl)) rfl ⟨rfl, (Chg.refl _ _).alloc _⟩
set_option maxRecDepth 100000 in
theorem commitop_any (w : World) (st : Nat) (hn : st < 18446744073709551616) (k p : ByteArray) (t : Nat) (ht : t < 18446744073709551616) (hp : p.size ≤ maxLen) : Calls Tryz.prog 28 #[.int .u64 (st : Nat), .string k, .string p, .int .u64 (t : Nat)] w fun e w' => ∃ l, e = .returned (.agg (opC (opC3 st k p t) l)) ∧ OpAt w' (opC3 st k p t) l ∧ (∀ g o', l.ko = some ⟨g, o', none⟩ ∨ l.no = some ⟨g, o', none⟩ → w.heap.size ≤ g) ∧ Chg (fun _ => False) w w' := by
  go_enter Tryz.func28, Tryz.ntmps28
  go_wp2
  generalize hK : (Obj.cells #[Value.string k] 9 : Obj) = OK
  generalize hP : (Obj.cells #[Value.string p, Value.int IntKind.u64 (t : Nat)] 109 : Obj) = OP
  refine bodyPost_ret (results_cell_row (p := 8) (ty := 28) rfl _ _ w.heap.size 28 _ (0, 0) _ rfl ((Below.heap_alloc _ _ _ (by simp; omega)).trans ((Below.heap_alloc _ _ _ (by simp)).trans (Go.heap_alloc_new _ _))) Tryz.underlying28 rfl (by kernel_rfl)) rfl ⟨⟨some ⟨w.heap.size + 1, 0, none⟩, 1, some ⟨w.heap.size + 1 + 1, 0, none⟩, 1⟩, rfl, ?_, ?_, (((Chg.refl _ _).alloc _).alloc _).alloc _⟩
  · generalize (Obj.cells #[Value.int IntKind.u8 3, Value.int IntKind.u32 0, Value.int IntKind.u64 (st : Nat), Value.slice (some ⟨w.heap.size + 1, 0, none⟩) 1 1, Value.slice (some ⟨w.heap.size + 1 + 1, 0, none⟩) 1 1, Value.string ⟨#[]⟩, Value.int IntKind.u32 0, Value.int IntKind.u32 0, Value.int IntKind.u64 0] 28 : Obj) = O0
    have e1 : (((w.alloc O0).alloc OK).alloc OP).heap[w.heap.size + 1]? = some OK := (Below.heap_alloc _ _ _ (by simp)).trans (by have := Go.heap_alloc_new (w.alloc O0) OK; simpa using this)
    have e2 : (((w.alloc O0).alloc OK).alloc OP).heap[w.heap.size + 1 + 1]? = some OP := by have := Go.heap_alloc_new ((w.alloc O0).alloc OK) OP; simpa using this
    subst hK hP
    exact {
      keys := ⟨by simp [opC3], fun i hi => by
        obtain rfl : i = 0 := by simp [opC3] at hi; omega
        exact ⟨_, _, rfl, by simp, cell_of e1 rfl⟩⟩
      needs := ⟨by simp [opC3], fun i hi => by
        obtain rfl : i = 0 := by simp [opC3] at hi; omega
        exact ⟨_, _, rfl, by simp, cell_of e2 rfl, cell_of e2 rfl⟩, by simpa [opC3] using ht, by simpa [opC3] using hp⟩
      k := (by decide : 3 < 256)
      n := (by decide : 0 < 4294967296)
      st := hn
      g := (by decide : 0 < 4294967296)
      «to» := (by decide : 0 < 4294967296)
      at_ := (by decide : 0 < 18446744073709551616) }
  · intro g o' h
    simp only [Option.some.injEq, Addr.mk.injEq] at h
    omega
end Go.Proofs.YtgmmglmokkcgeaaGreat
/- Walks: lives. -/
namespace Go.Proofs.YtgmmglmokkcgeaaGreat
set_option linter.unusedVariables false
set_option linter.unusedSimpArgs false
open Go.RowKit Mk Go.Sort

def opG (g : Nat) : OpM := ⟨5, 0, 0, [], [], ⟨#[97]⟩, g, 0, 0⟩
def opF (g : Nat) : OpM := ⟨6, 0, 0, [], [], ⟨#[97]⟩, 0, g, 0⟩
def N1 : OM := (applyM .new (opT 3)).1
def N2 : OM := (applyM N1 (opT 1)).1
def N3 : OM := (applyM N2 (opG 1)).1
def N4 : OM := (applyM N3 (opG 2)).1
def N5 : OM := (applyM N4 (opC3 1 ⟨#[107]⟩ ⟨#[97]⟩ 1)).1
def N6 : OM := (applyM N5 (opC3 2 ⟨#[107]⟩ ⟨#[97]⟩ 1)).1
def N7 : OM := (applyM N6 (opC3 9 ⟨#[107]⟩ ⟨#[97]⟩ 1)).1
def N8 : OM := (applyM N7 (opF 2)).1
def N9 : OM := (applyM N8 (opC3 3 ⟨#[106]⟩ ⟨#[97]⟩ 1)).1
theorem V1 : (applyM .new (opT 3)).2 = ⟨0, 1, 0, .zero⟩ := by kernel_rfl
theorem V2 : (applyM N1 (opT 1)).2 = ⟨0, 4, 0, .zero⟩ := by kernel_rfl
theorem V3 : (applyM N2 (opG 1)).2 = ⟨0, 0, 0, ⟨⟨#[97]⟩, 1, 0, 0, 1⟩⟩ := by kernel_rfl
theorem V4 : (applyM N3 (opG 2)).2 = ⟨202, 0, 0, ⟨⟨#[97]⟩, 1, 0, 0, 1⟩⟩ := by kernel_rfl
theorem V5 : (applyM N4 (opC3 1 ⟨#[107]⟩ ⟨#[97]⟩ 1)).2 = ⟨0, 0, 5, .zero⟩ := by kernel_rfl
theorem V6 : (applyM N5 (opC3 2 ⟨#[107]⟩ ⟨#[97]⟩ 1)).2 = ⟨0, 0, 0, .zero⟩ := by kernel_rfl
theorem V7 : (applyM N6 (opC3 9 ⟨#[107]⟩ ⟨#[97]⟩ 1)).2 = ⟨201, 0, 0, .zero⟩ := by kernel_rfl
theorem V8 : (applyM N7 (opF 2)).2 = ⟨0, 0, 0, ⟨⟨#[97]⟩, 1, 2, 6, 2⟩⟩ := by kernel_rfl
theorem V9 : (applyM N8 (opC3 3 ⟨#[106]⟩ ⟨#[97]⟩ 1)).2 = ⟨0, 0, 0, .zero⟩ := by kernel_rfl
theorem V10 : N9.com ⟨#[97]⟩ = [5] := by kernel_rfl
theorem lim_new : Lim .new 0 := ⟨Nat.le_refl _, Nat.le_refl _, fun p hp => by simp [OM.new] at hp, fun p => Nat.le_refl _⟩

theorem U1 : anV (applyM .new (opT 3)).2 = .agg #[.int .i64 0, .int .u64 1, .int .u64 0, .string ⟨#[]⟩, .int .u32 0, .int .u32 0, .int .u64 0, .int .u64 0] := by rw [V1]; rfl
theorem U2 : anV (applyM N1 (opT 1)).2 = .agg #[.int .i64 0, .int .u64 4, .int .u64 0, .string ⟨#[]⟩, .int .u32 0, .int .u32 0, .int .u64 0, .int .u64 0] := by rw [V2]; rfl
theorem U3 : anV (applyM N2 (opG 1)).2 = .agg #[.int .i64 0, .int .u64 0, .int .u64 0, .string ⟨#[97]⟩, .int .u32 1, .int .u32 0, .int .u64 0, .int .u64 1] := by rw [V3]; rfl
theorem U4 : anV (applyM N3 (opG 2)).2 = .agg #[.int .i64 202, .int .u64 0, .int .u64 0, .string ⟨#[97]⟩, .int .u32 1, .int .u32 0, .int .u64 0, .int .u64 1] := by rw [V4]; rfl
theorem U5 : anV (applyM N4 (opC3 1 ⟨#[107]⟩ ⟨#[97]⟩ 1)).2 = .agg #[.int .i64 0, .int .u64 0, .int .u64 5, .string ⟨#[]⟩, .int .u32 0, .int .u32 0, .int .u64 0, .int .u64 0] := by rw [V5]; rfl
theorem U6 : anV (applyM N5 (opC3 2 ⟨#[107]⟩ ⟨#[97]⟩ 1)).2 = .agg #[.int .i64 0, .int .u64 0, .int .u64 0, .string ⟨#[]⟩, .int .u32 0, .int .u32 0, .int .u64 0, .int .u64 0] := by rw [V6]; rfl
theorem U7 : anV (applyM N6 (opC3 9 ⟨#[107]⟩ ⟨#[97]⟩ 1)).2 = .agg #[.int .i64 201, .int .u64 0, .int .u64 0, .string ⟨#[]⟩, .int .u32 0, .int .u32 0, .int .u64 0, .int .u64 0] := by rw [V7]; rfl
theorem U8 : anV (applyM N7 (opF 2)).2 = .agg #[.int .i64 0, .int .u64 0, .int .u64 0, .string ⟨#[97]⟩, .int .u32 1, .int .u32 2, .int .u64 6, .int .u64 2] := by rw [V8]; rfl
theorem U9 : anV (applyM N8 (opC3 3 ⟨#[106]⟩ ⟨#[97]⟩ 1)).2 = .agg #[.int .i64 0, .int .u64 0, .int .u64 0, .string ⟨#[]⟩, .int .u32 0, .int .u32 0, .int .u64 0, .int .u64 0] := by rw [V9]; rfl
/-- As the contract, of a state whose inner blocks are not named. -/
theorem apply_is {w w1 : World} {b : Nat} {F : Nat → Prop} {n : OM} {o : OpM} {l : OpL} (h : OrIs w b F n) (c : Chg (fun _ => False) w w1) (ho : OpAt w1 o l) (hps : o.pred.size ≤ maxLen) (hlm : Lim n 1099511627776) (hsep : ∀ g o', (o.keys ≠ [] ∧ l.ko = some ⟨g, o', none⟩) ∨ (o.needs ≠ [] ∧ l.no = some ⟨g, o', none⟩) → F g → w.heap.size ≤ g) (h9 : o.k ≠ 9) :
    Calls Tryz.prog 9 #[.pointer (some ⟨b, 0, none⟩), .agg (opC o l)] w1 fun e w' => e = .returned (anV (applyM n o).2) ∧ To w b F (applyM n o).1 w' := by
  obtain ⟨R, h⟩ := h.tight
  refine (apply_any (h.same c) (fun g hg => Nat.lt_of_lt_of_le hg.2 c.size) ho hps hlm (fun g o' e f => by have := hsep g o' e f.1; have := f.2; omega) h9).mono ?_
  rintro e w' ⟨rfl, hT⟩
  refine ⟨rfl, hT.is.wide (fun g hg => ?_), (c.mono (fun _ f => f.elim)).trans (hT.chg.mono fun g hg => hg.1)⟩
  rcases hg with a | a
  · exact Or.inl a.1
  · exact Or.inr (Nat.le_trans c.size a)
/-- The law's way: the state, and the answers kept. -/
structure LiveSt (w wk : World) (b : Nat) (n : OM) (B : List (Nat × AnM)) : Prop where
  chg : Chg (fun _ => False) w wk
  is : ∃ F, OrIs wk b F n ∧ (∀ g, F g → w.heap.size ≤ g ∧ g < wk.heap.size) ∧ ∀ p ∈ B, wk.heap[p.1]? = some (.cells (anC p.2) 46) ∧ ¬ F p.1
theorem LiveSt.same {w wk w1 : World} {b : Nat} {n : OM} {B : List (Nat × AnM)} (h : LiveSt w wk b n B) (c : Chg (fun _ => False) wk w1) : LiveSt w w1 b n B := by
  obtain ⟨F, h1, h2, h3⟩ := h.is
  refine ⟨h.chg.trans c, F, h1.same c, fun g f => ⟨(h2 g f).1, Nat.lt_of_lt_of_le (h2 g f).2 c.size⟩, fun p hp => ⟨(c.block _ (Array.getElem?_eq_some_iff.1 (h3 p hp).1).1 (fun f => f)).trans (h3 p hp).1, (h3 p hp).2⟩⟩
theorem LiveSt.box {w wk : World} {b : Nat} {n : OM} {B : List (Nat × AnM)} (h : LiveSt w wk b n B) (a : AnM) : LiveSt w (wk.alloc (.cells (anC a) 46)) b n ((wk.heap.size, a) :: B) := by
  have h' := h.same ((Chg.refl _ _).alloc (.cells (anC a) 46))
  obtain ⟨F, h1, h2, h3⟩ := h.is
  have c : Chg (fun _ => False) wk (wk.alloc (.cells (anC a) 46)) := (Chg.refl _ _).alloc _
  refine ⟨h'.chg, F, h1.same c, fun g f => ⟨(h2 g f).1, Nat.lt_of_lt_of_le (h2 g f).2 c.size⟩, fun p hp => ?_⟩
  rcases List.mem_cons.1 hp with rfl | hp
  · exact ⟨Go.heap_alloc_new _ _, fun f => Nat.lt_irrefl _ (h2 _ f).2⟩
  · exact ⟨(c.block _ (Array.getElem?_eq_some_iff.1 (h3 p hp).1).1 (fun f => f)).trans (h3 p hp).1, (h3 p hp).2⟩
theorem LiveSt.box2 {w wk : World} {b : Nat} {n : OM} {B : List (Nat × AnM)} (h : LiveSt w wk b n B) (a a' : AnM) : LiveSt w ((wk.alloc (.cells (anC a) 46)).alloc (.cells (anC a') 46)) b n ((wk.heap.size + 1, a') :: (wk.heap.size, a) :: B) := by
  have := (h.box a).box a'
  simpa using this
theorem LiveSt.apply {w wk w1 : World} {b : Nat} {n : OM} {B : List (Nat × AnM)} {o : OpM} {l : OpL} (h : LiveSt w wk b n B) (c : Chg (fun _ => False) wk w1) (ho : OpAt w1 o l) (hsep : ∀ g o', l.ko = some ⟨g, o', none⟩ ∨ l.no = some ⟨g, o', none⟩ → wk.heap.size ≤ g) (hps : o.pred.size ≤ maxLen) (hlm : Lim n 1099511627776) (h9 : o.k ≠ 9) :
    Calls Tryz.prog 9 #[.pointer (some ⟨b, 0, none⟩), .agg (opC o l)] w1 fun e w' => e = .returned (anV (applyM n o).2) ∧ LiveSt w w' b (applyM n o).1 B := by
  obtain ⟨F, h1, h2, h3⟩ := h.is
  refine (apply_is h1 c ho hps hlm (fun g o' e _ => hsep g o' (e.imp And.right And.right)) h9).mono ?_
  rintro e w' ⟨rfl, hT⟩
  refine ⟨rfl, h.chg.trans' hT.chg (fun g f => Or.inr (h2 g f).1), ?_⟩
  obtain ⟨R, hI⟩ := hT.is.tight
  refine ⟨_, ⟨R, hI⟩, ?_, fun p hp => ?_⟩
  · rintro g ⟨a | a, e⟩
    · exact ⟨(h2 g a).1, e⟩
    · exact ⟨Nat.le_trans h.chg.size a, e⟩
  · have hlt := (Array.getElem?_eq_some_iff.1 (h3 p hp).1).1
    refine ⟨(hT.chg.block _ hlt (h3 p hp).2).trans (h3 p hp).1, ?_⟩
    rintro ⟨a | a, -⟩
    · exact (h3 p hp).2 a
    · omega
theorem opT_at (w : World) {n : Nat} (hn : n < 4294967296) : OpAt w (opT n) ⟨none, 0, none, 0⟩ :=
  ⟨⟨by simp [opT], fun i hi => by simp [opT] at hi⟩, ⟨by simp [opT], fun i hi => by simp [opT] at hi, by simp [opT], by simp [opT]⟩, (by decide : 1 < 256), hn, (by decide : 0 < 18446744073709551616), (by decide : 0 < 4294967296), (by decide : 0 < 4294967296), (by decide : 0 < 18446744073709551616)⟩
theorem opG_at (w : World) {n : Nat} (hn : n < 4294967296) : OpAt w (opG n) ⟨none, 0, none, 0⟩ :=
  ⟨⟨by simp [opG], fun i hi => by simp [opG] at hi⟩, ⟨by simp [opG], fun i hi => by simp [opG] at hi, by simp [opG], by simp [opG]⟩, (by decide : 5 < 256), (by decide : 0 < 4294967296), (by decide : 0 < 18446744073709551616), hn, (by decide : 0 < 4294967296), (by decide : 0 < 18446744073709551616)⟩
theorem opF_at (w : World) {n : Nat} (hn : n < 4294967296) : OpAt w (opF n) ⟨none, 0, none, 0⟩ :=
  ⟨⟨by simp [opF], fun i hi => by simp [opF] at hi⟩, ⟨by simp [opF], fun i hi => by simp [opF] at hi, by simp [opF], by simp [opF]⟩, (by decide : 6 < 256), (by decide : 0 < 4294967296), (by decide : 0 < 18446744073709551616), (by decide : 0 < 4294967296), hn, (by decide : 0 < 18446744073709551616)⟩
theorem LiveSt.seen {w wk : World} {b : Nat} {n : OM} {B : List (Nat × AnM)} (h : LiveSt w wk b n B) {x : ByteArray} (hx : x.size ≤ maxLen) (hs : (n.com x).Pairwise (· ≤ ·)) (hl : (n.com x).length ≤ 1099511628032) (t : Nat) : Calls Tryz.prog 13 #[.pointer (some ⟨b, 0, none⟩), .string x, .int .u64 t] wk fun e w' => e = .returned (.int .i64 (seenM (n.com x) t : Nat)) ∧ w' = wk := by
  obtain ⟨F, ⟨R, h1⟩, -⟩ := h.is
  exact seen_any h1 hx hs hl t

set_option maxRecDepth 100000 in
set_option maxHeartbeats 4000000 in
theorem lives_any (w : World) : Calls Tryz.prog 6 #[] w fun e w' => e = .returned (.bool true) ∧ Chg (fun _ => False) w w' := by
  have L0 := Lib.hid (lim_new.mono (show 0 ≤ 1099511627776 by decide))
  have L1 := Lib.hid (show Lim N1 1099511627776 from (lim_new.apply (opT 3)).mono (by decide))
  have L2 := Lib.hid (show Lim N2 1099511627776 from ((lim_new.apply (opT 3)).apply (opT 1)).mono (by decide))
  have L3 := Lib.hid (show Lim N3 1099511627776 from (((lim_new.apply (opT 3)).apply (opT 1)).apply (opG 1)).mono (by decide))
  have L4 := Lib.hid (show Lim N4 1099511627776 from ((((lim_new.apply (opT 3)).apply (opT 1)).apply (opG 1)).apply (opG 2)).mono (by decide))
  have L5 := Lib.hid (show Lim N5 1099511627776 from (((((lim_new.apply (opT 3)).apply (opT 1)).apply (opG 1)).apply (opG 2)).apply (opC3 1 ⟨#[107]⟩ ⟨#[97]⟩ 1)).mono (by decide))
  have L6 := Lib.hid (show Lim N6 1099511627776 from ((((((lim_new.apply (opT 3)).apply (opT 1)).apply (opG 1)).apply (opG 2)).apply (opC3 1 ⟨#[107]⟩ ⟨#[97]⟩ 1)).apply (opC3 2 ⟨#[107]⟩ ⟨#[97]⟩ 1)).mono (by decide))
  have L7 := Lib.hid (show Lim N7 1099511627776 from (((((((lim_new.apply (opT 3)).apply (opT 1)).apply (opG 1)).apply (opG 2)).apply (opC3 1 ⟨#[107]⟩ ⟨#[97]⟩ 1)).apply (opC3 2 ⟨#[107]⟩ ⟨#[97]⟩ 1)).apply (opC3 9 ⟨#[107]⟩ ⟨#[97]⟩ 1)).mono (by decide))
  have L8 := Lib.hid (show Lim N8 1099511627776 from ((((((((lim_new.apply (opT 3)).apply (opT 1)).apply (opG 1)).apply (opG 2)).apply (opC3 1 ⟨#[107]⟩ ⟨#[97]⟩ 1)).apply (opC3 2 ⟨#[107]⟩ ⟨#[97]⟩ 1)).apply (opC3 9 ⟨#[107]⟩ ⟨#[97]⟩ 1)).apply (opF 2)).mono (by decide))
  go_enter Tryz.func6, Tryz.ntmps6
  go_wp2_with fail
  refine (new_any w).mono ?_
  rintro e w0 ⟨b, rfl, hn, hc⟩
  have HL := Lib.hid (show LiveSt w w0 b .new [] from ⟨hc, _, hn.tight, fun g hg => hg, by simp⟩)
  clear hn hc
  go_wp2_with fail
  refine (timesop_any w0 3 (by decide)).mono ?_
  rintro e v0 ⟨rfl, hc⟩
  have HM := Lib.hid (HL.out.same hc)
  clear hc HL
  go_wp2_with fail
  refine (HM.out.apply (o := opT 3) (Chg.refl _ _) (opT_at _ (by decide)) (by rintro g o' (e | e) <;> cases e) (by decide) L0.out (by decide)).mono ?_
  rintro e w1 ⟨rfl, hl⟩
  have HL := Lib.hid (show LiveSt w w1 b N1 _ from hl)
  rw [U1]
  clear hl HM
  go_wp2_with fail
  refine (timesop_any w1 1 (by decide)).mono ?_
  rintro e v1 ⟨rfl, hc⟩
  have HM := Lib.hid (HL.out.same hc)
  clear hc HL
  go_wp2_with fail
  refine (HM.out.apply (o := opT 1) (Chg.refl _ _) (opT_at _ (by decide)) (by rintro g o' (e | e) <;> cases e) (by decide) L1.out (by decide)).mono ?_
  rintro e w2 ⟨rfl, hl⟩
  have HL := Lib.hid (show LiveSt w w2 b N2 _ from hl)
  rw [U2]
  clear hl HM
  go_wp2_with fail
  have HL' := Lib.hid (show LiveSt w ((w2.alloc (.cells #[.int .i64 0, .int .u64 1, .int .u64 0, .string ⟨#[]⟩, .int .u32 0, .int .u32 0, .int .u64 0, .int .u64 0] 46)).alloc (.cells #[.int .i64 0, .int .u64 4, .int .u64 0, .string ⟨#[]⟩, .int .u32 0, .int .u32 0, .int .u64 0, .int .u64 0] 46)) b N2 _ from HL.out.box2 ⟨0, 1, 0, ⟨⟨#[]⟩, 0, 0, 0, 0⟩⟩ ⟨0, 4, 0, ⟨⟨#[]⟩, 0, 0, 0, 0⟩⟩)
  clear HL
  have HL := HL'
  clear HL'
  generalize ((w2.alloc (.cells #[.int .i64 0, .int .u64 1, .int .u64 0, .string ⟨#[]⟩, .int .u32 0, .int .u32 0, .int .u64 0, .int .u64 0] 46)).alloc (.cells #[.int .i64 0, .int .u64 4, .int .u64 0, .string ⟨#[]⟩, .int .u32 0, .int .u32 0, .int .u64 0, .int .u64 0] 46)) = W0 at *
  generalize w2.heap.size = k0 at *
  have HM := HL
  clear HL
  refine (HM.out.apply (o := opG 1) (l := ⟨none, 0, none, 0⟩) (Chg.refl _ _) (opG_at _ (by decide)) (by rintro g o' (e | e) <;> cases e) (by decide) L2.out (by decide)).mono ?_
  rintro e w3 ⟨rfl, hl⟩
  have HL := Lib.hid (show LiveSt w w3 b N3 _ from hl)
  rw [U3]
  clear hl HM
  go_wp2_with fail
  have HL' := Lib.hid (show LiveSt w (w3.alloc (.cells #[.int .i64 0, .int .u64 0, .int .u64 0, .string ⟨#[97]⟩, .int .u32 1, .int .u32 0, .int .u64 0, .int .u64 1] 46)) b N3 _ from HL.out.box ⟨0, 0, 0, ⟨⟨#[97]⟩, 1, 0, 0, 1⟩⟩)
  clear HL
  have HL := HL'
  clear HL'
  generalize (w3.alloc (.cells #[.int .i64 0, .int .u64 0, .int .u64 0, .string ⟨#[97]⟩, .int .u32 1, .int .u32 0, .int .u64 0, .int .u64 1] 46)) = W2 at *
  generalize w3.heap.size = k2 at *
  have HM := HL
  clear HL
  refine (HM.out.apply (o := opG 2) (l := ⟨none, 0, none, 0⟩) (Chg.refl _ _) (opG_at _ (by decide)) (by rintro g o' (e | e) <;> cases e) (by decide) L3.out (by decide)).mono ?_
  rintro e w4 ⟨rfl, hl⟩
  have HL := Lib.hid (show LiveSt w w4 b N4 _ from hl)
  rw [U4]
  clear hl HM
  go_wp2_with fail
  have HL' := Lib.hid (show LiveSt w (w4.alloc (.cells #[.int .i64 202, .int .u64 0, .int .u64 0, .string ⟨#[97]⟩, .int .u32 1, .int .u32 0, .int .u64 0, .int .u64 1] 46)) b N4 _ from HL.out.box ⟨202, 0, 0, ⟨⟨#[97]⟩, 1, 0, 0, 1⟩⟩)
  clear HL
  have HL := HL'
  clear HL'
  generalize (w4.alloc (.cells #[.int .i64 202, .int .u64 0, .int .u64 0, .string ⟨#[97]⟩, .int .u32 1, .int .u32 0, .int .u64 0, .int .u64 1] 46)) = W3 at *
  generalize w4.heap.size = k3 at *
  refine (commitop_any W3 1 (by decide) ⟨#[107]⟩ ⟨#[97]⟩ 1 (by decide) (by decide)).mono ?_
  rintro e v4 ⟨l4, rfl, ho, hsep, hc⟩
  have HO := Lib.hid ho
  have HS := Lib.hid hsep
  have HC := Lib.hid hc
  clear ho hsep hc
  have HM := HL
  clear HL
  go_wp2_with fail
  refine (HM.out.apply (o := opC3 1 ⟨#[107]⟩ ⟨#[97]⟩ 1) HC.out HO.out HS.out (by decide) L4.out (by decide)).mono ?_
  rintro e w5 ⟨rfl, hl⟩
  have HL := Lib.hid (show LiveSt w w5 b N5 _ from hl)
  rw [U5]
  clear hl HM HO HS HC
  go_wp2_with fail
  refine (commitop_any w5 2 (by decide) ⟨#[107]⟩ ⟨#[97]⟩ 1 (by decide) (by decide)).mono ?_
  rintro e v5 ⟨l5, rfl, ho, hsep, hc⟩
  have HO := Lib.hid ho
  have HS := Lib.hid hsep
  have HC := Lib.hid hc
  clear ho hsep hc
  have HM := HL
  clear HL
  go_wp2_with fail
  refine (HM.out.apply (o := opC3 2 ⟨#[107]⟩ ⟨#[97]⟩ 1) HC.out HO.out HS.out (by decide) L5.out (by decide)).mono ?_
  rintro e w6 ⟨rfl, hl⟩
  have HL := Lib.hid (show LiveSt w w6 b N6 _ from hl)
  rw [U6]
  clear hl HM HO HS HC
  go_wp2_with fail
  have HL' := Lib.hid (show LiveSt w ((w6.alloc (.cells #[.int .i64 0, .int .u64 0, .int .u64 5, .string ⟨#[]⟩, .int .u32 0, .int .u32 0, .int .u64 0, .int .u64 0] 46)).alloc (.cells #[.int .i64 0, .int .u64 0, .int .u64 0, .string ⟨#[]⟩, .int .u32 0, .int .u32 0, .int .u64 0, .int .u64 0] 46)) b N6 _ from HL.out.box2 ⟨0, 0, 5, ⟨⟨#[]⟩, 0, 0, 0, 0⟩⟩ ⟨0, 0, 0, ⟨⟨#[]⟩, 0, 0, 0, 0⟩⟩)
  clear HL
  have HL := HL'
  clear HL'
  generalize ((w6.alloc (.cells #[.int .i64 0, .int .u64 0, .int .u64 5, .string ⟨#[]⟩, .int .u32 0, .int .u32 0, .int .u64 0, .int .u64 0] 46)).alloc (.cells #[.int .i64 0, .int .u64 0, .int .u64 0, .string ⟨#[]⟩, .int .u32 0, .int .u32 0, .int .u64 0, .int .u64 0] 46)) = W4 at *
  generalize w6.heap.size = k4 at *
  refine (commitop_any W4 9 (by decide) ⟨#[107]⟩ ⟨#[97]⟩ 1 (by decide) (by decide)).mono ?_
  rintro e v6 ⟨l6, rfl, ho, hsep, hc⟩
  have HO := Lib.hid ho
  have HS := Lib.hid hsep
  have HC := Lib.hid hc
  clear ho hsep hc
  have HM := HL
  clear HL
  go_wp2_with fail
  refine (HM.out.apply (o := opC3 9 ⟨#[107]⟩ ⟨#[97]⟩ 1) HC.out HO.out HS.out (by decide) L6.out (by decide)).mono ?_
  rintro e w7 ⟨rfl, hl⟩
  have HL := Lib.hid (show LiveSt w w7 b N7 _ from hl)
  rw [U7]
  clear hl HM HO HS HC
  go_wp2_with fail
  have HL' := Lib.hid (show LiveSt w (w7.alloc (.cells #[.int .i64 201, .int .u64 0, .int .u64 0, .string ⟨#[]⟩, .int .u32 0, .int .u32 0, .int .u64 0, .int .u64 0] 46)) b N7 _ from HL.out.box ⟨201, 0, 0, ⟨⟨#[]⟩, 0, 0, 0, 0⟩⟩)
  clear HL
  have HL := HL'
  clear HL'
  generalize (w7.alloc (.cells #[.int .i64 201, .int .u64 0, .int .u64 0, .string ⟨#[]⟩, .int .u32 0, .int .u32 0, .int .u64 0, .int .u64 0] 46)) = W6 at *
  generalize w7.heap.size = k6 at *
  have HM := HL
  clear HL
  refine (HM.out.apply (o := opF 2) (l := ⟨none, 0, none, 0⟩) (Chg.refl _ _) (opF_at _ (by decide)) (by rintro g o' (e | e) <;> cases e) (by decide) L7.out (by decide)).mono ?_
  rintro e w8 ⟨rfl, hl⟩
  have HL := Lib.hid (show LiveSt w w8 b N8 _ from hl)
  rw [U8]
  clear hl HM
  go_wp2_with fail
  have HL' := Lib.hid (show LiveSt w (w8.alloc (.cells #[.int .i64 0, .int .u64 0, .int .u64 0, .string ⟨#[97]⟩, .int .u32 1, .int .u32 2, .int .u64 6, .int .u64 2] 46)) b N8 _ from HL.out.box ⟨0, 0, 0, ⟨⟨#[97]⟩, 1, 2, 6, 2⟩⟩)
  clear HL
  have HL := HL'
  clear HL'
  generalize (w8.alloc (.cells #[.int .i64 0, .int .u64 0, .int .u64 0, .string ⟨#[97]⟩, .int .u32 1, .int .u32 2, .int .u64 6, .int .u64 2] 46)) = W7 at *
  generalize w8.heap.size = k7 at *
  refine (commitop_any W7 3 (by decide) ⟨#[106]⟩ ⟨#[97]⟩ 1 (by decide) (by decide)).mono ?_
  rintro e v8 ⟨l8, rfl, ho, hsep, hc⟩
  have HO := Lib.hid ho
  have HS := Lib.hid hsep
  have HC := Lib.hid hc
  clear ho hsep hc
  have HM := HL
  clear HL
  go_wp2_with fail
  refine (HM.out.apply (o := opC3 3 ⟨#[106]⟩ ⟨#[97]⟩ 1) HC.out HO.out HS.out (by decide) L8.out (by decide)).mono ?_
  rintro e w9 ⟨rfl, hl⟩
  have HL := Lib.hid (show LiveSt w w9 b N9 _ from hl)
  rw [U9]
  clear hl HM HO HS HC
  obtain ⟨F, -, -, hB⟩ := HL.out.is
  have hb0 := (hB (k0, ⟨0, 1, 0, ⟨⟨#[]⟩, 0, 0, 0, 0⟩⟩) (by simp)).1
  have lt0 : k0 < w9.heap.size := (Array.getElem?_eq_some_iff.1 hb0).1
  have q01 : w9.cell? ⟨k0, 1, none⟩ = some (.int .u64 1) := cell_of hb0 rfl
  have hb1 := (hB (k0 + 1, ⟨0, 4, 0, ⟨⟨#[]⟩, 0, 0, 0, 0⟩⟩) (by simp)).1
  have lt1 : k0 + 1 < w9.heap.size := (Array.getElem?_eq_some_iff.1 hb1).1
  have q11 : w9.cell? ⟨k0 + 1, 1, none⟩ = some (.int .u64 4) := cell_of hb1 rfl
  have hb2 := (hB (k2, ⟨0, 0, 0, ⟨⟨#[97]⟩, 1, 0, 0, 1⟩⟩) (by simp)).1
  have lt2 : k2 < w9.heap.size := (Array.getElem?_eq_some_iff.1 hb2).1
  have q23 : w9.cell? ⟨k2, 3, none⟩ = some (.string ⟨#[97]⟩) := cell_of hb2 rfl
  have q24 : w9.cell? ⟨k2, 4, none⟩ = some (.int .u32 1) := cell_of hb2 rfl
  have q25 : w9.cell? ⟨k2, 5, none⟩ = some (.int .u32 0) := cell_of hb2 rfl
  have q26 : w9.cell? ⟨k2, 6, none⟩ = some (.int .u64 0) := cell_of hb2 rfl
  have q27 : w9.cell? ⟨k2, 7, none⟩ = some (.int .u64 1) := cell_of hb2 rfl
  have hb3 := (hB (k3, ⟨202, 0, 0, ⟨⟨#[97]⟩, 1, 0, 0, 1⟩⟩) (by simp)).1
  have lt3 : k3 < w9.heap.size := (Array.getElem?_eq_some_iff.1 hb3).1
  have q30 : w9.cell? ⟨k3, 0, none⟩ = some (.int .i64 202) := cell_of hb3 rfl
  have q33 : w9.cell? ⟨k3, 3, none⟩ = some (.string ⟨#[97]⟩) := cell_of hb3 rfl
  have q34 : w9.cell? ⟨k3, 4, none⟩ = some (.int .u32 1) := cell_of hb3 rfl
  have q35 : w9.cell? ⟨k3, 5, none⟩ = some (.int .u32 0) := cell_of hb3 rfl
  have q36 : w9.cell? ⟨k3, 6, none⟩ = some (.int .u64 0) := cell_of hb3 rfl
  have q37 : w9.cell? ⟨k3, 7, none⟩ = some (.int .u64 1) := cell_of hb3 rfl
  have hb4 := (hB (k4, ⟨0, 0, 5, ⟨⟨#[]⟩, 0, 0, 0, 0⟩⟩) (by simp)).1
  have lt4 : k4 < w9.heap.size := (Array.getElem?_eq_some_iff.1 hb4).1
  have q42 : w9.cell? ⟨k4, 2, none⟩ = some (.int .u64 5) := cell_of hb4 rfl
  have hb5 := (hB (k4 + 1, ⟨0, 0, 0, ⟨⟨#[]⟩, 0, 0, 0, 0⟩⟩) (by simp)).1
  have lt5 : k4 + 1 < w9.heap.size := (Array.getElem?_eq_some_iff.1 hb5).1
  have q50 : w9.cell? ⟨k4 + 1, 0, none⟩ = some (.int .i64 0) := cell_of hb5 rfl
  have q52 : w9.cell? ⟨k4 + 1, 2, none⟩ = some (.int .u64 0) := cell_of hb5 rfl
  have hb6 := (hB (k6, ⟨201, 0, 0, ⟨⟨#[]⟩, 0, 0, 0, 0⟩⟩) (by simp)).1
  have lt6 : k6 < w9.heap.size := (Array.getElem?_eq_some_iff.1 hb6).1
  have q60 : w9.cell? ⟨k6, 0, none⟩ = some (.int .i64 201) := cell_of hb6 rfl
  have hb7 := (hB (k7, ⟨0, 0, 0, ⟨⟨#[97]⟩, 1, 2, 6, 2⟩⟩) (by simp)).1
  have lt7 : k7 < w9.heap.size := (Array.getElem?_eq_some_iff.1 hb7).1
  have q73 : w9.cell? ⟨k7, 3, none⟩ = some (.string ⟨#[97]⟩) := cell_of hb7 rfl
  have q74 : w9.cell? ⟨k7, 4, none⟩ = some (.int .u32 1) := cell_of hb7 rfl
  have q75 : w9.cell? ⟨k7, 5, none⟩ = some (.int .u32 2) := cell_of hb7 rfl
  have q76 : w9.cell? ⟨k7, 6, none⟩ = some (.int .u64 6) := cell_of hb7 rfl
  have q77 : w9.cell? ⟨k7, 7, none⟩ = some (.int .u64 2) := cell_of hb7 rfl
  clear hb0 hb1 hb2 hb3 hb4 hb5 hb6 hb7 hB
  have HL' := Lib.hid (show LiveSt w (w9.alloc (.cells #[.int .i64 0, .int .u64 0, .int .u64 0, .string ⟨#[]⟩, .int .u32 0, .int .u32 0, .int .u64 0, .int .u64 0] 46)) b N9 _ from HL.out.box ⟨0, 0, 0, ⟨⟨#[]⟩, 0, 0, 0, 0⟩⟩)
  clear HL
  have s4 : seenM (N9.com ⟨#[97]⟩) 4 = 0 := by rw [V10]; decide
  have s5 : seenM (N9.com ⟨#[97]⟩) 5 = 1 := by rw [V10]; decide
  have T4 := Lib.hid (HL'.out.seen (x := ⟨#[97]⟩) (by decide) (by rw [V10]; simp) (by rw [V10]; decide) 4)
  have T5 := Lib.hid (HL'.out.seen (x := ⟨#[97]⟩) (by decide) (by rw [V10]; simp) (by rw [V10]; decide) 5)
  rw [s4] at T4
  rw [s5] at T5
  have HC := Lib.hid HL'.out.chg
  clear HL' s4 s5
  go_wp2_with fail
  refine T4.out.mono ?_
  rintro e x1 ⟨rfl, rfl⟩
  go_wp2_with fail
  refine T5.out.mono ?_
  rintro e x1 ⟨rfl, rfl⟩
  go_wp2
  go_ret
  exact ⟨rfl, HC.out⟩
end Go.Proofs.YtgmmglmokkcgeaaGreat
