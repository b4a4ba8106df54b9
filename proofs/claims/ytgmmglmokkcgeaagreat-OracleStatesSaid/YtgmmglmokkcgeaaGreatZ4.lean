/- Walks: made1. Printed by genZ4.py. -/
import Derived.Test.YtgmmglmokkcgeaaGreatZ3
import Derived.Test.YtgmmglmokkcgeaaGreatA1
import Derived.Deep.Cut
import Derived.Deep.QuietTactic
import Derived.BigQuiet
import Derived.Lib.QuietBelow
namespace Go.Proofs.YtgmmglmokkcgeaaGreat
set_option linter.unusedVariables false
set_option linter.unusedSimpArgs false
set_option linter.unusedSectionVars false
open Go.RowKit Mk Go.Sort

def hasT (T : List (Nat × Value)) (y : Nat) : Bool := (lk T y).isSome
def allT (T : List (Nat × Value)) : Prop := ∀ p ∈ T, p.2 = .bool true
def bad1 (T M s c : Nat) (h : Bool) : Bool := decide (s = 0) || decide (T < s) || decide (T < c) || (decide (c ≠ 0) && (decide (c ≤ s) || h)) || (decide (c = 0) && decide (s < M))
def bad2 (M : Nat) (k : ByteArray) (t : Nat) (h : Bool) : Bool := decide (k.size < 1) || decide (16384 < k.size) || decide (t ≤ M) || !h
theorem Made.d1 {m : RM} (h : Made m) {x c : Nat} (hm : (x, c) ∈ m.d) {hb : Bool} (hh : hb = true → ∃ q ∈ m.d, q.2 = c ∧ q.1 ≠ x) : bad1 m.time m.mark x c hb = false := by
  have h1 := h.pos _ hm
  have h2 := h.dst _ hm
  have h3 := h.low _ hm
  simp only at h1 h2 h3
  unfold bad1
  simp only [Bool.or_eq_false_iff, Bool.and_eq_false_iff, decide_eq_false_iff_not, Decidable.not_not]
  refine ⟨⟨⟨⟨by omega, by omega⟩, by omega⟩, ?_⟩, ?_⟩
  · by_cases e : c = 0
    · exact Or.inl e
    · refine Or.inr ⟨by have := h2 e; omega, ?_⟩
      cases hb
      · rfl
      · obtain ⟨q, hq, e1, e2⟩ := hh rfl
        exact absurd (h.uniq q hq _ hm e1 (by rw [e1]; exact e)) e2
  · by_cases e : c = 0
    · exact Or.inr (by have := h3 e; omega)
    · exact Or.inl e
theorem Made.k2 {m : RM} (h : Made m) {k : ByteArray} {t : Nat} (hm : (k, t) ∈ m.k) {hb : Bool} (hh : (∃ q ∈ m.d, q.2 = t) → hb = true) : bad2 m.mark k t hb = false := by
  have h1 := h.ksz _ hm
  have h2 := h.km _ hm
  have h3 := hh (h.kd _ hm)
  simp only at h1 h2
  unfold bad2
  simp only [Bool.or_eq_false_iff, decide_eq_false_iff_not]
  exact ⟨⟨⟨by omega, by omega⟩, by omega⟩, by rw [h3]; rfl⟩
def bad3 (T : Nat) (t : Tb) (h : Bool) : Bool := !predOk t.p || decide (t.g = 0) || decide (t.tn = 0) || (decide (t.to = 0) != decide (t.at_ = 0)) || decide (T < t.at_) || decide (t.to = t.g) || (h && decide (t.at_ ≠ 0)) || (decide (t.tn % 2 = 0) != decide (t.to ≠ 0))
theorem Made.t3 {m : RM} (h : Made m) {k : ByteArray} {t : Tb} (hm : (k, t) ∈ m.t) {hb : Bool} (hh : hb = true → ∃ q ∈ m.d, q.2 = t.at_) : bad3 m.time t hb = false := by
  obtain ⟨h1, h2⟩ := h.tp _ hm
  obtain ⟨g1, g2, g3, g4, g5, g6⟩ := h.tg _ hm
  have h3 := h.td _ hm
  simp only at h1 h2 g1 g2 g3 g4 g5 g6 h3
  unfold bad3
  rw [h1, h2]
  have e1 : (decide (t.to = 0) != decide (t.at_ = 0)) = false := by by_cases e : t.to = 0 <;> simp [e, ← g3]
  have e2 : (decide (t.tn % 2 = 0) != decide (t.to ≠ 0)) = false := by by_cases e : t.tn % 2 = 0 <;> simp [e, ← g6]
  have e3 : (hb && decide (t.at_ ≠ 0)) = false := by
    cases hb
    · rfl
    · by_cases e : t.at_ = 0
      · simp [e]
      · obtain ⟨q, hq, e4⟩ := hh rfl
        exact absurd e4 (h3 e q hq)
  rw [e1, e2, e3]
  simp [g1, g2, g5]
  omega
section
variable {w w' : World} {b : Nat} {R : Loc} {F : Nat → Prop} {n : OM} {m : RM}
theorem times_look {w : World} {tb : Nat} {T : List (Nat × Value)} (hm : mapAt okU kvU w tb T) (ha : allT T) {y : Nat} (hy : y < 18446744073709551616) : (Instr.lookup 132 (.map (some tb)) (.int .u64 (y : Nat)) false).run Tryz.prog w = .ok (.bool (hasT T y)) w := by
  have := run_lookup keysU Tryz.underlying132 (z := .bool false) (w := w) (by simp [go_sem]) hm (x := y) hy false
  simp only [kvU] at this
  rw [this]
  unfold hasT
  cases hl : lk T y with
  | none => rfl
  | some v =>
    have := ha _ (lk_mem hl)
    simp only at this
    rw [this]
    rfl
theorem RawRep.memD (h : RawRep w b R F n) (hl : LikeR R n m) {p : Nat × Nat} (hp : p ∈ n.dec) : p ∈ m.d :=
  (perm_of_lk ((List.pairwise_map (f := fun p : Nat × Nat => (p.1, nV p.2))).1 h.dec.apart) (hl.ds.apart ltN_ord) hl.d p).1 hp
theorem RawRep.memD' (h : RawRep w b R F n) (hl : LikeR R n m) {p : Nat × Nat} (hp : p ∈ m.d) : p ∈ n.dec :=
  (perm_of_lk ((List.pairwise_map (f := fun p : Nat × Nat => (p.1, nV p.2))).1 h.dec.apart) (hl.ds.apart ltN_ord) hl.d p).2 hp
theorem RawRep.memL (h : RawRep w b R F n) (hl : LikeR R n m) {p : ByteArray × Nat} (hp : p ∈ n.las) : p ∈ m.k :=
  (perm_of_lk ((List.pairwise_map (f := fun p : ByteArray × Nat => (p.1, nV p.2))).1 h.las.apart) (hl.ks.apart lessB_ord) hl.k p).1 hp
theorem RawRep.memT (h : RawRep w b R F n) (hl : LikeR R n m) {p : ByteArray × Tb} (hp : p ∈ n.tab) : p ∈ m.t :=
  (perm_of_lk ((List.pairwise_map (f := fun p : ByteArray × Tb => (p.1, tbV p.2))).1 h.tab.apart) (hl.ts.apart lessB_ord) hl.t p).1 hp
theorem RawRep.memC (h : RawRep w b R F n) (hl : LikeR R n m) {p : ByteArray × Value} (hp : p ∈ R.rows) : (p.1, n.com p.1) ∈ m.c := by
  have h1 := lk_of_mem' h.com.apart hp
  have h2 := hl.c p.1
  rw [h1] at h2
  exact lk_mem h2
/-- In the loop over the decisions. -/
structure M1 (w : World) (b : Nat) (R : Loc) (F : Nat → Prop) (n : OM) (it tb : Nat) (left T : List (Nat × Value)) (wr : World) : Prop where
  st : RawRep wr b R F n
  over : rangeAt okU kvU wr it R.d (nv n.dec) left
  tm : mapAt okU kvU wr tb T
  all : allT T
  said : ∀ y, hasT T y = true ↔ ∃ p ∈ nv n.dec, p.2 = nV y ∧ p ∉ left
  chg : Chg (fun _ => False) w wr
  new : w.heap.size ≤ tb ∧ w.heap.size ≤ it ∧ tb ≠ it
  fl : ∀ g, F g → g < w.heap.size
/-- In the loops behind it. -/
structure M2 (w : World) (b : Nat) (R : Loc) (F : Nat → Prop) (n : OM) (tb : Nat) (T : List (Nat × Value)) (wr : World) : Prop where
  st : RawRep wr b R F n
  tm : mapAt okU kvU wr tb T
  all : allT T
  said : ∀ y, hasT T y = true ↔ ∃ p ∈ nv n.dec, p.2 = nV y
  chg : Chg (fun _ => False) w wr
  new : w.heap.size ≤ tb
  fl : ∀ g, F g → g < w.heap.size
theorem M2.same {tb : Nat} {T : List (Nat × Value)} {W W' : World} (h : M2 w b R F n tb T W) (c : Chg (fun _ => False) W W') : M2 w b R F n tb T W' :=
  ⟨h.st.same c, h.tm.stay (c.block _ h.tm.lt (fun f => f)), h.all, h.said, h.chg.trans c, h.new, h.fl⟩
/-- A block of its own has turned. -/
theorem M2.off {tb it : Nat} {T : List (Nat × Value)} {W W' : World} (h : M2 w b R F n tb T W) (c : Chg (fun g => g = it) W W') (h1 : w.heap.size ≤ it) (h2 : tb ≠ it) : M2 w b R F n tb T W' :=
  ⟨h.st.stay c (fun g f e => by have := h.fl g f; omega), h.tm.stay (c.block _ h.tm.lt h2), h.all, h.said, h.chg.trans' c (fun i e => Or.inr (by omega)), h.new, h.fl⟩
theorem M2.has {tb : Nat} {T : List (Nat × Value)} {W : World} (h : M2 w b R F n tb T W) (hl : LikeR R n m) (y : Nat) : hasT T y = true ↔ ∃ q ∈ m.d, q.2 = y := by
  rw [h.said]
  constructor
  · rintro ⟨p, hp, e⟩
    obtain ⟨q, hq, rfl⟩ := List.mem_map.1 hp
    refine ⟨q, h.st.memD hl hq, ?_⟩
    simp only [nV, Value.int.injEq, true_and] at e
    omega
  · rintro ⟨q, hq, rfl⟩
    exact ⟨_, List.mem_map.2 ⟨q, h.st.memD' hl hq, rfl⟩, rfl⟩
theorem M1.next {it tb : Nat} {left T a bb : List (Nat × Value)} {p : Nat × Value} {W w1 : World} (h : M1 w b R F n it tb left T W) (h0 : left = a ++ p :: bb) (c : Chg (fun i => i = it) W w1) (ho : rangeAt okU kvU w1 it R.d (nv n.dec) (a ++ bb)) {y : Nat} (hy : p.2 = nV y) (hyo : y < 18446744073709551616) :
    RawRep w1 b R F n ∧ mapAt okU kvU w1 tb T ∧ ∃ es ck, (Instr.mapUpdate 132 (.map (some tb)) (.int .u64 (y : Nat)) (.bool true)).run Tryz.prog w1 = .ok () (ChangeMaps.setBlock w1 tb (.map es ck)) ∧ Hid (M1 w b R F n it tb (a ++ bb) (upd T y (.bool true)) (ChangeMaps.setBlock w1 tb (.map es ck))) := by
  have hst := h.st.stay c (fun g f e => by have := h.fl g f; have := h.new; omega)
  have htm := h.tm.stay (c.block _ h.tm.lt h.new.2.2)
  obtain ⟨es, ck, h1, h2⟩ := run_update keysU Tryz.underlying132 htm (x := y) hyo (.bool true)
  refine ⟨hst, htm, es, ck, h1, Lib.hid ⟨?_, ?_, ⟨es, ck, setBlock_same htm.lt, h2⟩, ?_, ?_, ?_, h.new, h.fl⟩⟩
  · exact hst.stay ((Chg.refl (fun g => g = tb) w1).setBlock (Or.inl rfl) _) (fun g f e => by have := h.fl g f; have := h.new; omega)
  · refine rangeAt.stay (ok := okU) (kv := kvU) ho (heap_setBlock_ne ?_) (heap_setBlock_ne h.new.2.2.symm)
    intro e
    have := h.fl _ h.st.fd
    have := h.new
    omega
  · intro q hq
    rcases mem_upd2 hq with rfl | hq
    · rfl
    · exact h.all q hq
  · intro z
    have hd : left.Pairwise (fun p q => p.1 ≠ q.1) := h.st.dec.apart.sublist h.over.sub
    have hpl : p ∈ nv n.dec := h.over.sub.subset (by rw [h0]; simp)
    have e1 : hasT (upd T y (.bool true)) z = (decide (z = y) || hasT T z) := by
      unfold hasT
      rw [lk_upd]
      by_cases e : z = y <;> simp [e]
    rw [e1, Bool.or_eq_true, decide_eq_true_eq, h.said]
    rw [h0] at hd ⊢
    have hna : p ∉ a ++ bb := by
      intro hp
      have := List.pairwise_append.1 hd
      rcases List.mem_append.1 hp with hp | hp
      · exact this.2.2 p hp p (by simp) rfl
      · exact (List.pairwise_cons.1 this.2.1).1 p hp rfl
    constructor
    · rintro (rfl | ⟨q, hq, e, hn⟩)
      · exact ⟨p, hpl, hy, hna⟩
      · exact ⟨q, hq, e, fun hh => hn (by simp only [List.mem_append, List.mem_cons] at hh ⊢; exact hh.imp id Or.inr)⟩
    · rintro ⟨q, hq, e, hn⟩
      by_cases hqp : q = p
      · left
        rw [hqp, hy] at e
        simp only [nV, Value.int.injEq, true_and] at e
        omega
      · right
        refine ⟨q, hq, e, fun hh => hn ?_⟩
        simp only [List.mem_append, List.mem_cons] at hh ⊢
        exact hh.imp id (fun h => h.resolve_left hqp)
  · exact (h.chg.trans' c (fun i e => Or.inr (by have := h.new; omega))).setBlock (Or.inr h.new.1) _
set_option maxRecDepth 100000 in
set_option maxHeartbeats 8000000 in
theorem made_any (h : RawRep w b R F n) (hF : ∀ g, F g → g < w.heap.size) (hl : LikeR R n m) (hw : Wid m) (hrow : ∀ p ∈ m.c, p.2.length ≤ 1099511627776) :
    Calls Tryz.prog 60 #[.pointer (some ⟨b, 0, none⟩)] w fun e w' => MadeSays (Made m) w e w' := by
  have HL := Lib.hid hl
  have HW := Lib.hid hw
  have HRW := Lib.hid hrow
  obtain ⟨TT, HTT⟩ : ∃ t, Hid (n.time = t) := ⟨_, Lib.hid rfl⟩
  obtain ⟨MM, HMM⟩ : ∃ t, Hid (n.mark = t) := ⟨_, Lib.hid rfl⟩
  have h1 : ∀ v : World, (Instr.makeMap 132 none).run Tryz.prog v = .ok (.map (some v.heap.size)) (v.alloc (.map #[] 0)) := fun v => run_makeMap 132 v
  obtain ⟨W1, HW1⟩ : ∃ W, Hid (w.alloc (.map #[] 0) = W) := ⟨_, Lib.hid rfl⟩
  obtain ⟨tb, HTB⟩ : ∃ k, Hid (w.heap.size = k) := ⟨_, Lib.hid rfl⟩
  have hr1 : RawRep W1 b R F n := by rw [← HW1.out]; exact h.same ((Chg.refl _ w).alloc _)
  obtain ⟨it, hrg, ho⟩ := hr1.dec.range (P := Tryz.prog) Tryz.underlying31
  have hs1 : W1.heap.size = tb + 1 := by rw [← HW1.out, ← HTB.out, World.size_alloc]
  have HU0 := Lib.hid (show M1 w b R F n (tb + 1) tb (nv n.dec) [] (W1.alloc it) from by
    rw [hs1] at ho
    have hc : Chg (fun _ => False) w W1 := by rw [← HW1.out]; exact (Chg.refl _ w).alloc _
    have htm : mapAt okU kvU W1 tb [] := by rw [← HW1.out, ← HTB.out]; exact mapAt_made w
    exact ⟨hr1.same ((Chg.refl _ W1).alloc _), ho, htm.stay (Below.heap_alloc _ _ _ htm.lt), by intro p hp; simp at hp, fun y => ⟨fun e => by simp [hasT, lk] at e, fun ⟨p, hp, _, hn⟩ => absurd hp hn⟩, hc.alloc _, ⟨by rw [HTB.out]; exact Nat.le_refl _, by rw [HTB.out]; omega, by omega⟩, hF⟩)
  have c4 : W1.cell? ⟨b, 4, none⟩ = some (.map (some R.d)) := hr1.c4
  rw [hs1] at hrg
  clear hl hw hrow ho hs1 hr1 h hF
  go_enter Tryz.func60, Tryz.ntmps60
  go_upto_region 2 with fail
  rw [HW1.out, HTB.out]
  go_wp2_with fail
  clear h1
  go_loopw [] (fun wr => ∃ left T, Hid (M1 w b R F n (tb + 1) tb left T wr)) (fun wr => wr.rangeLeft R.d (tb + 1))
  case atStart => exact ⟨_, _, HU0⟩
  case round =>
    clear HU0 hrg c4
    obtain ⟨left, T, HU⟩ := hrel
    rcases HU.out.over.next (P := Tryz.prog) with ⟨hl0, hn⟩ | ⟨a, p, bb, w1, hl0, hn, hc, hsz, ho, hen⟩
    · have HU2 := Lib.hid (show M2 w b R F n tb T wr from ⟨HU.out.st, HU.out.tm, HU.out.all, fun y => by rw [HU.out.said, hl0]; simp, HU.out.chg, HU.out.new.1, HU.out.fl⟩)
      clear HU hl0
      have c5 := HU2.out.st.c5
      obtain ⟨it2, hrg, ho⟩ := HU2.out.st.las.range (P := Tryz.prog) Tryz.underlying32
      obtain ⟨ir, HIR⟩ : ∃ k, Hid (wr.heap.size = k) := ⟨_, Lib.hid rfl⟩
      have HV0 := Lib.hid (show M2 w b R F n tb T (wr.alloc it2) ∧ rangeAt okS kvS (wr.alloc it2) ir R.l (nv n.las) (nv n.las) ∧ w.heap.size ≤ ir ∧ tb ≠ ir from ⟨HU2.out.same ((Chg.refl _ wr).alloc _), by rw [← HIR.out]; exact ho, by rw [← HIR.out]; exact HU2.out.chg.size, by have := HU2.out.tm.lt; have := HIR.out; omega⟩)
      rw [HIR.out] at hrg
      clear ho HU2
      generalize wr = W2 at *
      go_wp2_with fail
      go_loopw [] (fun wr => ∃ left, Hid (M2 w b R F n tb T wr ∧ rangeAt okS kvS wr ir R.l (nv n.las) left ∧ w.heap.size ≤ ir ∧ tb ≠ ir)) (fun wr => wr.rangeLeft R.l ir)
      case atStart => exact ⟨_, HV0⟩
      case round =>
        clear HV0 hrg c5 hn
        obtain ⟨left2, HV⟩ := hrel
        rcases HV.out.2.1.next (P := Tryz.prog) with ⟨hl0, hn⟩ | ⟨a, p, bb, w1, hl0, hn, hc, hsz, ho, hen⟩
        · have HU2 := Lib.hid HV.out.1
          clear HV hl0
          generalize wr = W3 at *
          have c6 := HU2.out.st.c6
          obtain ⟨it3, hrg, ho⟩ := HU2.out.st.tab.range (P := Tryz.prog) Tryz.underlying33
          obtain ⟨ir3, HIR3⟩ : ∃ k, Hid (W3.heap.size = k) := ⟨_, Lib.hid rfl⟩
          have HV0 := Lib.hid (show M2 w b R F n tb T (W3.alloc it3) ∧ rangeAt okS kvS (W3.alloc it3) ir3 R.t (tv n.tab) (tv n.tab) ∧ w.heap.size ≤ ir3 ∧ tb ≠ ir3 from ⟨HU2.out.same ((Chg.refl _ W3).alloc _), by rw [← HIR3.out]; exact ho, by rw [← HIR3.out]; exact HU2.out.chg.size, by have := HU2.out.tm.lt; have := HIR3.out; omega⟩)
          rw [HIR3.out] at hrg
          clear ho HU2
          go_wp2_with fail
          go_loopw [] (fun wr => ∃ left, Hid (M2 w b R F n tb T wr ∧ rangeAt okS kvS wr ir3 R.t (tv n.tab) left ∧ w.heap.size ≤ ir3 ∧ tb ≠ ir3)) (fun wr => wr.rangeLeft R.t ir3)
          case atStart => exact ⟨_, HV0⟩
          case round =>
            clear HV0 hrg c6 hn
            obtain ⟨left3, HV⟩ := hrel
            rcases HV.out.2.1.next (P := Tryz.prog) with ⟨hl0, hn⟩ | ⟨a, p, bb, w1, hl0, hn, hc, hsz, ho, hen⟩
            · have HU2 := Lib.hid HV.out.1
              clear HV hl0
              generalize wr = W4 at *
              have c7 := HU2.out.st.c7
              obtain ⟨it4, hrg, ho⟩ := HU2.out.st.com.range (P := Tryz.prog) Tryz.underlying34
              obtain ⟨ir4, HIR4⟩ : ∃ k, Hid (W4.heap.size = k) := ⟨_, Lib.hid rfl⟩
              have HV0 := Lib.hid (show M2 w b R F n tb T (W4.alloc it4) ∧ rangeAt okS kvS (W4.alloc it4) ir4 R.c R.rows R.rows ∧ w.heap.size ≤ ir4 ∧ tb ≠ ir4 from ⟨HU2.out.same ((Chg.refl _ W4).alloc _), by rw [← HIR4.out]; exact ho, by rw [← HIR4.out]; exact HU2.out.chg.size, by have := HU2.out.tm.lt; have := HIR4.out; omega⟩)
              rw [HIR4.out] at hrg
              clear ho HU2
              go_wp2_with fail
              go_loopw [] (fun wr => ∃ left, Hid (M2 w b R F n tb T wr ∧ rangeAt okS kvS wr ir4 R.c R.rows left ∧ w.heap.size ≤ ir4 ∧ tb ≠ ir4)) (fun wr => wr.rangeLeft R.c ir4)
              case atStart => exact ⟨_, HV0⟩
              case round =>
                clear HV0 hrg c7 hn
                obtain ⟨left4, HV⟩ := hrel
                rcases HV.out.2.1.next (P := Tryz.prog) with ⟨hl0, hn⟩ | ⟨a, p, bb, w1, hl0, hn, hc, hsz, ho, hen⟩
                · have HU2 := Lib.hid HV.out.1
                  clear HV hl0
                  generalize wr = W7 at *
                  have c1 : W7.cell? ⟨b, 1, none⟩ = some (.int .u64 (TT : Nat)) := by rw [← HTT.out]; exact HU2.out.st.c1
                  have c3 : W7.cell? ⟨b, 3, none⟩ = some (.int .u64 (MM : Nat)) := by rw [← HMM.out]; exact HU2.out.st.c3
                  have HCG := Lib.hid HU2.out.chg
                  have HMT := Lib.hid (show Made m → MM ≤ TT from fun hM => by rw [← HTT.out, ← HMM.out, HL.out.time, HL.out.mark]; exact hM.mt)
                  by_cases hle : MM ≤ TT
                  · have f1 : decide ((MM : Int) ≤ TT) = true := decide_eq_true (by omega)
                    have f2 : decide (MM ≤ TT) = true := decide_eq_true hle
                    go_wp2_with fail
                    go_quiet (fail)
                    go_wp2_with fail
                    go_ret
                    exact ⟨⟨true, rfl, fun _ => rfl⟩, HCG.out.trans (Chg.drewN' W7 nq)⟩
                  · have f1 : decide ((MM : Int) ≤ TT) = false := decide_eq_false (by omega)
                    have f2 : decide (MM ≤ TT) = false := decide_eq_false hle
                    have HNO := Lib.hid (show Made m → False from fun hM => hle (HMT.out hM))
                    go_wp2_with fail
                    go_quiet (fail)
                    go_wp2_with fail
                    go_ret
                    exact ⟨⟨false, rfl, fun hM => (HNO.out hM).elim⟩, HCG.out.trans (Chg.drewN' W7 nq)⟩
                · obtain ⟨x, v⟩ := p
                  have hen' := hen w1 rfl rfl
                  have hm : (x, v) ∈ R.rows := HV.out.2.1.sub.subset (by rw [hl0]; simp)
                  have hmc := HV.out.1.st.memC HL.out hm
                  have hxs : okS x := by obtain ⟨_, _, _, E⟩ := HV.out.1.st.com; exact E.ok _ hm
                  have HG := Lib.hid (show M2 w b R F n tb T w1 ∧ rangeAt okS kvS w1 ir4 R.c R.rows (a ++ bb) ∧ w.heap.size ≤ ir4 ∧ tb ≠ ir4 from ⟨HV.out.1.off hc HV.out.2.2.1 HV.out.2.2.2, ho, HV.out.2.2⟩)
                  have HRL := Lib.hid HV.out.2.1.left_eq
                  have HL0 := Lib.hid hl0
                  have hrow := HG.out.1.st.rows _ hm
                  obtain ⟨l, HLL⟩ : ∃ l, Hid (n.com x = l) := ⟨_, Lib.hid rfl⟩
                  simp only [HLL.out] at hmc hrow
                  have HMC := Lib.hid hmc
                  have HWC := Lib.hid (HW.out.c _ hmc).2.2
                  have HLE := Lib.hid (HRW.out _ hmc)
                  simp only at HWC HLE
                  obtain ⟨N, HNN⟩ : ∃ N, Hid (l.length = N) := ⟨_, Lib.hid rfl⟩
                  have hrow2 : NumsAt w1 v l := hrow
                  obtain ⟨o5, c5, rfl⟩ := sl_shape hrow2
                  have HROW := Lib.hid hrow2
                  rw [HNN.out] at HROW hn hen'
                  have hlkT := run_lookup keysS Tryz.underlying33 (zero38 w1) HG.out.1.st.tab hxs true
                  rw [tv, lk_map] at hlkT
                  simp only [if_true, kvS] at hlkT
                  obtain ⟨tt, HTT2⟩ : ∃ tt, Hid ((lk n.tab x).getD .zero = tt) := ⟨_, Lib.hid rfl⟩
                  obtain ⟨is, HIS⟩ : ∃ is, Hid ((lk n.tab x).isSome = is) := ⟨_, Lib.hid rfl⟩
                  have hlkT2 : (Instr.lookup 33 (.map (some R.t)) (.string x) true).run Tryz.prog w1 = .ok (.tuple #[tbV tt, .bool is]) w1 := by
                    rw [hlkT, ← HTT2.out, ← HIS.out]
                    cases lk n.tab x <;> rfl
                  clear hlkT
                  have c6 := HG.out.1.st.c6
                  have HIS2 := Lib.hid (show Made m → is = true from fun hM => by
                    obtain ⟨t, ht⟩ := (hM.ct _ HMC.out).2.1
                    rw [← HIS.out, HL.out.t]
                    simp only at ht
                    rw [ht]; rfl)
                  have HCG := Lib.hid HG.out.1.chg
                  obtain ⟨tp, tg, tt1, ta, tn⟩ := tt
                  unfold tbV at hlkT2
                  simp only at hlkT2
                  obtain ⟨W5, HW5⟩ : ∃ W, Hid (w1.alloc (.cells #[.string tp, .int .u32 (tg : Nat), .int .u32 (tt1 : Nat), .int .u64 (ta : Nat), .int .u64 (tn : Nat)] 41) = W) := ⟨_, Lib.hid rfl⟩
                  have HG5 := Lib.hid (show M2 w b R F n tb T W5 ∧ rangeAt okS kvS W5 ir4 R.c R.rows (a ++ bb) ∧ NumsAt W5 (.slice o5 N c5) l ∧ Chg (fun _ => False) w W5 from by
                    have hc5 : Chg (fun _ => False) w1 W5 := by rw [← HW5.out]; exact (Chg.refl _ _).alloc _
                    exact ⟨HG.out.1.same hc5, rangeAt.stay (ok := okS) (kv := kvS) HG.out.2.1 (hc5.block _ HG.out.2.1.lt.1 (fun f => f)) (hc5.block _ HG.out.2.1.lt.2.1 (fun f => f)), sl.stay HROW.out (fun g hg => hc5.block g (sl.lt HROW.out hg) (fun f => f)), HG.out.1.chg.trans hc5⟩)
                  have HNEW := Lib.hid HG.out.2.2
                  unfold kvS at hn hen'
                  clear hen ho hm hmc hc hsz hl0 hrow hrow2 HG HROW hxs
                  go_upto_region 22 with fail
                  rw [HW5.out]
                  clear hn hen' hlkT2 c6 HW5
                  cases is with
                  | false =>
                    have HNO := Lib.hid (show Made m → False from fun hM => by have := HIS2.out hM; cases this)
                    go_wp2_with fail
                    go_ret
                    exact ⟨⟨false, rfl, fun hM => (HNO.out hM).elim⟩, HG5.out.2.2.2⟩
                  | true =>
                    by_cases hN0 : N = 0
                    · have f1 : ((N : Int) == 0) = true := by simp [hN0]
                      have f2 : decide ((N : Int) = 0) = true := by simp [hN0]
                      have HNO := Lib.hid (show Made m → False from fun hM => by
                        have h1 := (hM.ct _ HMC.out).1
                        simp only at h1
                        exact h1 (List.eq_nil_of_length_eq_zero (by rw [HNN.out]; exact hN0)))
                      clear hN0
                      go_wp2_with fail
                      go_ret
                      exact ⟨⟨false, rfl, fun hM => (HNO.out hM).elim⟩, HG5.out.2.2.2⟩
                    · have f1 : ((N : Int) == 0) = false := by simp [hN0]
                      have f2 : decide ((N : Int) = 0) = false := by simp [hN0]
                      have IS := Lib.hid (by have := isSorted_any HG5.out.2.2.1 HLE.out; exact this)
                      go_wp2_with fail
                      refine IS.out.mono ?_
                      rintro e W6 ⟨⟨z, rfl, hz⟩, hc6⟩
                      have HZ := Lib.hid hz
                      have HC6 := Lib.hid hc6
                      clear hz hc6
                      have HG6 := Lib.hid (show M2 w b R F n tb T W6 ∧ rangeAt okS kvS W6 ir4 R.c R.rows (a ++ bb) ∧ NumsAt W6 (.slice o5 N c5) l ∧ Chg (fun _ => False) w W6 from
                        ⟨HG5.out.1.same HC6.out, rangeAt.stay (ok := okS) (kv := kvS) HG5.out.2.1 (HC6.out.block _ HG5.out.2.1.lt.1 (fun f => f)) (HC6.out.block _ HG5.out.2.1.lt.2.1 (fun f => f)), sl.stay HG5.out.2.2.1 (fun g hg => HC6.out.block g (sl.lt HG5.out.2.2.1 hg) (fun f => f)), HG5.out.2.2.2.trans HC6.out⟩)
                      cases z with
                      | false =>
                        have HNO := Lib.hid (show Made m → False from fun hM => by have := HZ.out (hM.ct _ HMC.out).2.2; cases this)
                        go_wp2_with fail
                        go_ret
                        exact ⟨⟨false, rfl, fun hM => (HNO.out hM).elim⟩, HG6.out.2.2.2⟩
                      | true =>
                        clear f1 f2 HZ IS HC6 HG5 hN0
                        go_wp2_with fail
                        go_loopw [207] (fun i wr => ∃ j : Nat, j ≤ N ∧ i = .int .i64 (j : Nat) ∧ Hid (wr = W6)) (fun i _ => N - (intOf i).toNat)
                        case atStart => exact ⟨0, Nat.zero_le _, rfl, Lib.hid rfl⟩
                        case round =>
                          obtain ⟨j, hj, rfl, HWW⟩ := hrel
                          obtain rfl : W6 = wr := HWW.out.symm
                          by_cases hlt : j < N
                          · have hd : decide ((j : Int) < N) = true := decide_eq_true (by omega)
                            have hd' : decide (j < N) = true := decide_eq_true hlt
                            obtain ⟨t, ht⟩ : ∃ t, l[j]? = some t := ⟨_, List.getElem?_eq_getElem (by rw [HNN.out]; exact hlt)⟩
                            have htm := List.mem_of_getElem? ht
                            obtain ⟨g, ho, a0⟩ := NumsAt.at_ HG6.out.2.2.1 ht
                            subst ho
                            have hlk := times_look HG6.out.1.tm HG6.out.1.all (y := t) (HWC.out t htm)
                            have HHB := Lib.hid (HG6.out.1.has HL.out t)
                            obtain ⟨hb, HHH⟩ : ∃ z, Hid (hasT T t = z) := ⟨_, Lib.hid rfl⟩
                            rw [HHH.out] at hlk HHB
                            have HMD := Lib.hid (show Made m → t ≠ 0 ∧ hb = true from fun hM => by
                              have := hM.cd _ HMC.out t htm
                              exact ⟨this.1, HHB.out.2 this.2⟩)
                            have l0 : (0 : Int) ≤ j := by omega
                            have l1 : (j : Int) < N := by omega
                            have HTJ := Lib.hid ht
                            clear ht htm
                            cases hb with
                            | false =>
                              have HNO := Lib.hid (show Made m → False from fun hM => by have := (HMD.out hM).2; cases this)
                              go_wp2_with fail
                              go_ret
                              exact ⟨⟨false, rfl, fun hM => (HNO.out hM).elim⟩, HG6.out.2.2.2⟩
                            | true =>
                              by_cases ht0 : t = 0
                              · have f1 : ((t : Int) == 0) = true := by simp [ht0]
                                have HNO := Lib.hid (show Made m → False from fun hM => (HMD.out hM).1 ht0)
                                clear ht0
                                go_wp2_with fail
                                go_ret
                                exact ⟨⟨false, rfl, fun hM => (HNO.out hM).elim⟩, HG6.out.2.2.2⟩
                              · have f1 : ((t : Int) == 0) = false := by simp [ht0]
                                have HLN := Lib.hid HLE.out
                                have HNB := Lib.hid (show N ≤ 1099511627776 by have := HLE.out; have := HNN.out; omega)
                                cases j with
                                | zero =>
                                  have lk := HNB.out
                                  clear HLN
                                  go_wp2_with fail
                                  go_roundw
                                  case rel => first | exact ⟨1, by omega, by first | rfl | go_num, Lib.hid rfl⟩ | exact ⟨1, by omega, by first | rfl | go_num, Lib.hid trivial⟩
                                  case measure => simp [intOf]; omega
                                | succ i =>
                                  obtain ⟨I, HI⟩ : ∃ I : Int, Hid (((i + 1 : Nat) : Int) = I) := ⟨_, Lib.hid rfl⟩
                                  rw [HI.out] at hd l0 l1 ⊢
                                  have e0 : (i : Int) + 1 = I := by have := HI.out; omega
                                  have q1 : decide ((0 : Int) < I) = true := decide_eq_true (by omega)
                                  have q2 : IntKind.i64.wrap (I - 1) = (i : Int) := by rw [IntWalk.i64_in _ (by have := HNB.out; omega)]; omega
                                  have q3 : I - 1 = (i : Int) := by omega
                                  have q4 : I.toNat = i + 1 := by omega
                                  have q5 : IntKind.i64.wrap (I + 1) = I + 1 := by rw [IntWalk.i64_in _ (by have := HNB.out; omega)]
                                  have q6 : I + 1 = ((i + 1 + 1 : Nat) : Int) := by omega
                                  have Q6 := Lib.hid q6
                                  have lkN := HNB.out
                                  have l2 : (0 : Int) ≤ i := by omega
                                  have l3 : (i : Int) < N := by omega
                                  obtain ⟨u, hu⟩ : ∃ u, l[i]? = some u := ⟨_, List.getElem?_eq_getElem (by rw [HNN.out]; omega)⟩
                                  obtain ⟨g2, ho2, a1⟩ := NumsAt.at_ HG6.out.2.2.1 hu
                                  obtain rfl : g2 = g := by injection ho2 with e; injection e with e; exact e.symm
                                  have HUJ := Lib.hid hu
                                  clear ho2 hu e0 q6
                                  by_cases hut : u = t
                                  · have f4 : ((u : Int) == (t : Int)) = true := by simp [hut]
                                    have f5 : decide ((u : Int) = (t : Int)) = true := by simp [hut]
                                    have HNO := Lib.hid (show Made m → False from fun hM => by
                                      have hp := (hM.ct _ HMC.out).2.2
                                      obtain ⟨i1, e1⟩ := List.getElem?_eq_some_iff.1 HTJ.out
                                      obtain ⟨i2, e2⟩ := List.getElem?_eq_some_iff.1 HUJ.out
                                      have := List.pairwise_iff_getElem.1 hp i (i + 1) i2 i1 (by omega)
                                      simp only at this
                                      omega)
                                    clear hut
                                    go_wp2_with fail
                                    go_ret
                                    exact ⟨⟨false, rfl, fun hM => (HNO.out hM).elim⟩, HG6.out.2.2.2⟩
                                  · have f4 : ((u : Int) == (t : Int)) = false := by rw [beq_eq_false_iff_ne]; omega
                                    have f5 : decide ((u : Int) = (t : Int)) = false := decide_eq_false (by omega)
                                    go_wp2_with fail
                                    go_roundw
                                    case rel => first | exact ⟨i + 1 + 1, by omega, by rw [Q6.out], Lib.hid rfl⟩ | exact ⟨i + 1 + 1, by omega, by rw [Q6.out], Lib.hid trivial⟩
                                    case measure => simp only [intOf]; omega
                          · obtain rfl : N = j := by omega
                            have hd : decide ((N : Int) < N) = false := by simp
                            have hd' : decide (N < N) = false := by simp
                            go_wp2_with fail
                            go_roundw
                            case rel => exact ⟨a ++ bb, Lib.hid ⟨HG6.out.1, HG6.out.2.1, HNEW.out⟩⟩
                            case measure => rw [HG6.out.2.1.left_eq, HRL.out, HL0.out]; simp
            · obtain ⟨k, v⟩ := p
              have hen' := hen w1 rfl rfl
              have hm : (k, v) ∈ tv n.tab := HV.out.2.1.sub.subset (by rw [hl0]; simp)
              obtain ⟨⟨k', t⟩, hq, e⟩ := List.mem_map.1 hm
              simp only [Prod.mk.injEq] at e
              obtain ⟨rfl, rfl⟩ := e
              have hmk := HV.out.1.st.memT HL.out hq
              have HX := Lib.hid (HW.out.t _ hmk)
              have HMK := Lib.hid hmk
              have HG := Lib.hid (show M2 w b R F n tb T w1 ∧ rangeAt okS kvS w1 ir3 R.t (tv n.tab) (a ++ bb) ∧ w.heap.size ≤ ir3 ∧ tb ≠ ir3 from ⟨HV.out.1.off hc HV.out.2.2.1 HV.out.2.2.2, ho, HV.out.2.2⟩)
              have HRL := Lib.hid HV.out.2.1.left_eq
              have HL0 := Lib.hid hl0
              obtain ⟨hb, HHH⟩ : ∃ z, Hid (hasT T t.at_ = z) := ⟨_, Lib.hid rfl⟩
              have HHB := Lib.hid (HG.out.1.has HL.out t.at_)
              rw [HHH.out] at HHB
              obtain ⟨z, HZ⟩ : ∃ z, Hid (bad3 TT t hb = z) := ⟨_, Lib.hid rfl⟩
              obtain ⟨W5, HW5⟩ : ∃ W, Hid (w1.alloc (.cells #[.string t.p, .int .u32 (t.g : Nat), .int .u32 (t.to : Nat), .int .u64 (t.at_ : Nat), .int .u64 (t.tn : Nat)] 41) = W) := ⟨_, Lib.hid rfl⟩
              obtain ⟨xb, HXB⟩ : ∃ k, Hid (w1.heap.size = k) := ⟨_, Lib.hid rfl⟩
              have hx5 : W5.heap[xb]? = some (.cells #[.string t.p, .int .u32 (t.g : Nat), .int .u32 (t.to : Nat), .int .u64 (t.at_ : Nat), .int .u64 (t.tn : Nat)] 41) := by rw [← HW5.out, ← HXB.out]; exact Go.heap_alloc_new _ _
              have HG5 := Lib.hid (show M2 w b R F n tb T W5 ∧ rangeAt okS kvS W5 ir3 R.t (tv n.tab) (a ++ bb) from by
                have hc5 : Chg (fun _ => False) w1 W5 := by rw [← HW5.out]; exact (Chg.refl _ _).alloc _
                exact ⟨HG.out.1.same hc5, rangeAt.stay (ok := okS) (kv := kvS) HG.out.2.1 (hc5.block _ HG.out.2.1.lt.1 (fun f => f)) (hc5.block _ HG.out.2.1.lt.2.1 (fun f => f))⟩)
              have x1 : W5.cell? ⟨b, 1, none⟩ = some (.int .u64 (TT : Nat)) := by rw [← HTT.out]; exact HG5.out.1.st.c1
              have y0 : W5.cell? ⟨xb, 0, none⟩ = some (.string t.p) := cell_of hx5 rfl
              have y1 : W5.cell? ⟨xb, 1, none⟩ = some (.int .u32 (t.g : Nat)) := cell_of hx5 rfl
              have y2 : W5.cell? ⟨xb, 2, none⟩ = some (.int .u32 (t.to : Nat)) := cell_of hx5 rfl
              have y3 : W5.cell? ⟨xb, 3, none⟩ = some (.int .u64 (t.at_ : Nat)) := cell_of hx5 rfl
              have y4 : W5.cell? ⟨xb, 4, none⟩ = some (.int .u64 (t.tn : Nat)) := cell_of hx5 rfl
              have hlk : ∀ (d : Nat) (os : Array Obj), (Instr.lookup 132 (.map (some tb)) (.int .u64 (t.at_ : Nat)) false).run Tryz.prog (grow (redrawn W5 d) os) = .ok (.bool hb) (grow (redrawn W5 d) os) := fun d os => by
                rw [← HHH.out]
                exact times_look (HG5.out.1.same (chg_of_below (below_regrown W5 d os))).tm HG5.out.1.all HX.out.2.2.2.2.1
              have PR : ∀ (d : Nat) (os : Array Obj), Calls Tryz.prog 70 #[.string t.p] (grow (redrawn W5 d) os) fun e w'' => e = .returned (.int .i64 (if predOk t.p then 0 else 40)) ∧ ∃ p : Regrown, w'' = grow (redrawn W5 p.d) p.os := fun d os => Calls.regrown_of ((pred_any t.p (grow (redrawn W5 d) os)).mono fun e w' hh => ⟨hh.1, below_of_chg hh.2⟩)
              have PR := Lib.hid PR
              have hm2 : t.tn % 2 = 0 ∨ t.tn % 2 = 1 := by omega
              have HTN := Lib.hid HX.out.2.2.2.2.2
              unfold tbV at hn hen'
              obtain ⟨tp, tg, tt, ta, tn⟩ := t
              simp only at *
              have g0 := fun p os => cell_regrown y0 p os
              have g1 := fun p os => cell_regrown y1 p os
              have g2 := fun p os => cell_regrown y2 p os
              have g3 := fun p os => cell_regrown y3 p os
              have g4 := fun p os => cell_regrown y4 p os
              have g5 := fun p os => cell_regrown x1 p os
              clear hen ho hm hq hmk hc hsz hl0 hx5
              go_upto_region 16 with fail
              rw [HW5.out, HXB.out]
              clear hn hen' HW5
              go_cut [173] from 114 to 173 (fun s173 wx => Hid (Chg (fun _ => False) W5 wx) ∧ s173 = .bool z)
              case first => as_aux_lemma =>
                by_cases q1 : predOk tp = true
                · rw [if_pos q1] at PR
                  by_cases q2 : tg = 0
                  · have f0q2 : (((tg : Nat) : Int) == 0) = true := by simp [q2]
                    have f1q2 : (((tg : Nat) : Int) != 0) = false := by simp [q2]
                    have f2q2 : (tg == 0) = true := by simp [q2]
                    have f3q2 : (decide ((tg : Int) = 0)) = true := by simp [q2]
                    have Hq2 := Lib.hid q2
                    clear q2
                    refine wp_region_quiet_below (by kernel_rfl) (by kernel_rfl) ?_
                    try simp only [List.append_eq, List.cons_append, List.nil_append]
                    repeat (go_big_quiet_step (with_reducible exact PR.out _ _))
                    refine wpQuiet_nil ?_
                    intro _ hw'
                    obtain ⟨⟨dq, osq⟩, hw''⟩ := hw'
                    subst hw''
                    have HCQ := Lib.hid (chg_of_below (below_regrown W5 dq osq))
                    go_wp2_with fail
                    go_meet
                    try have q2 := Hq2.out
                    try have q3 := Hq3.out
                    try have q4 := Hq4.out
                    try have q5 := Hq5.out
                    try have q7 := Hq7.out
                    try have q9 := Hq9.out
                    exact ⟨HCQ, by rw [← HZ.out]; first | (exfalso; omega) | (simp [bad3, *]; done) | (simp [bad3, *]; omega)⟩
                  · have f0q2 : (((tg : Nat) : Int) == 0) = false := by simp [q2] <;> omega
                    have f1q2 : (((tg : Nat) : Int) != 0) = true := by simp [q2]
                    have f2q2 : (tg == 0) = false := by simp [q2] <;> omega
                    have f3q2 : (decide ((tg : Int) = 0)) = false := by simp [q2] <;> omega
                    by_cases q3 : tn = 0
                    · have f0q3 : (((tn : Nat) : Int) == 0) = true := by simp [q3]
                      have f1q3 : (((tn : Nat) : Int) != 0) = false := by simp [q3]
                      have f2q3 : (tn == 0) = true := by simp [q3]
                      have f3q3 : (decide ((tn : Int) = 0)) = true := by simp [q3]
                      have Hq3 := Lib.hid q3
                      clear q3
                      refine wp_region_quiet_below (by kernel_rfl) (by kernel_rfl) ?_
                      try simp only [List.append_eq, List.cons_append, List.nil_append]
                      repeat (go_big_quiet_step (with_reducible exact PR.out _ _))
                      refine wpQuiet_nil ?_
                      intro _ hw'
                      obtain ⟨⟨dq, osq⟩, hw''⟩ := hw'
                      subst hw''
                      have HCQ := Lib.hid (chg_of_below (below_regrown W5 dq osq))
                      go_wp2_with fail
                      go_meet
                      try have q2 := Hq2.out
                      try have q3 := Hq3.out
                      try have q4 := Hq4.out
                      try have q5 := Hq5.out
                      try have q7 := Hq7.out
                      try have q9 := Hq9.out
                      exact ⟨HCQ, by rw [← HZ.out]; first | (exfalso; omega) | (simp [bad3, *]; done) | (simp [bad3, *]; omega)⟩
                    · have f0q3 : (((tn : Nat) : Int) == 0) = false := by simp [q3] <;> omega
                      have f1q3 : (((tn : Nat) : Int) != 0) = true := by simp [q3]
                      have f2q3 : (tn == 0) = false := by simp [q3] <;> omega
                      have f3q3 : (decide ((tn : Int) = 0)) = false := by simp [q3] <;> omega
                      by_cases q4 : tt = 0
                      · have f0q4 : (((tt : Nat) : Int) == 0) = true := by simp [q4]
                        have f1q4 : (((tt : Nat) : Int) != 0) = false := by simp [q4]
                        have f2q4 : (tt == 0) = true := by simp [q4]
                        have f3q4 : (decide ((tt : Int) = 0)) = true := by simp [q4]
                        have Hq4 := Lib.hid q4
                        clear q4
                        by_cases q5 : ta = 0
                        · have f0q5 : (((ta : Nat) : Int) == 0) = true := by simp [q5]
                          have f1q5 : (((ta : Nat) : Int) != 0) = false := by simp [q5]
                          have f2q5 : (ta == 0) = true := by simp [q5]
                          have f3q5 : (decide ((ta : Int) = 0)) = true := by simp [q5]
                          have Hq5 := Lib.hid q5
                          clear q5
                          have f1z : decide (((TT : Nat) : Int) < ((ta : Nat) : Int)) = false := decide_eq_false (by have := Hq5.out; omega)
                          have f2z : decide (TT < ta) = false := decide_eq_false (by have := Hq5.out; omega)
                          by_cases q7 : tt = tg
                          · have f1q7 : (((tt : Nat) : Int) == ((tg : Nat) : Int)) = true := by simp [q7]
                            have f2q7 : (tt == tg) = true := by simp [q7]
                            have f3q7 : decide (((tt : Nat) : Int) = ((tg : Nat) : Int)) = true := by simp [q7]
                            have Hq7 := Lib.hid q7
                            clear q7
                            refine wp_region_quiet_below (by kernel_rfl) (by kernel_rfl) ?_
                            try simp only [List.append_eq, List.cons_append, List.nil_append]
                            repeat (go_big_quiet_step (with_reducible exact PR.out _ _))
                            refine wpQuiet_nil ?_
                            intro _ hw'
                            obtain ⟨⟨dq, osq⟩, hw''⟩ := hw'
                            subst hw''
                            have HCQ := Lib.hid (chg_of_below (below_regrown W5 dq osq))
                            go_wp2_with fail
                            go_meet
                            try have q2 := Hq2.out
                            try have q3 := Hq3.out
                            try have q4 := Hq4.out
                            try have q5 := Hq5.out
                            try have q7 := Hq7.out
                            try have q9 := Hq9.out
                            exact ⟨HCQ, by rw [← HZ.out]; first | (exfalso; omega) | (simp [bad3, *]; done) | (simp [bad3, *]; omega)⟩
                          · have f1q7 : (((tt : Nat) : Int) == ((tg : Nat) : Int)) = false := by rw [beq_eq_false_iff_ne]; omega
                            have f2q7 : (tt == tg) = false := by simp [q7]
                            have f3q7 : decide (((tt : Nat) : Int) = ((tg : Nat) : Int)) = false := decide_eq_false (by omega)
                            by_cases q8 : hb = true
                            · subst q8
                              by_cases q9 : tn % 2 = 0
                              · have m1 : (tn : Int).tmod 2 = 0 := by rw [Int.tmod_eq_emod_of_nonneg (by omega)]; omega
                                have m2 : (tn : Int) % 2 = 0 := by omega
                                have Hq9 := Lib.hid q9
                                clear q9
                                refine wp_region_quiet_below (by kernel_rfl) (by kernel_rfl) ?_
                                try simp only [List.append_eq, List.cons_append, List.nil_append]
                                repeat (go_big_quiet_step (with_reducible exact PR.out _ _))
                                refine wpQuiet_nil ?_
                                intro _ hw'
                                obtain ⟨⟨dq, osq⟩, hw''⟩ := hw'
                                subst hw''
                                have HCQ := Lib.hid (chg_of_below (below_regrown W5 dq osq))
                                go_wp2_with fail
                                go_meet
                                try have q2 := Hq2.out
                                try have q3 := Hq3.out
                                try have q4 := Hq4.out
                                try have q5 := Hq5.out
                                try have q7 := Hq7.out
                                try have q9 := Hq9.out
                                exact ⟨HCQ, by rw [← HZ.out]; first | (exfalso; omega) | (simp [bad3, *]; done) | (simp [bad3, *]; omega)⟩
                              · have m1 : (tn : Int).tmod 2 = 1 := by rw [Int.tmod_eq_emod_of_nonneg (by omega)]; omega
                                have m2 : (tn : Int) % 2 = 1 := by omega
                                refine wp_region_quiet_below (by kernel_rfl) (by kernel_rfl) ?_
                                try simp only [List.append_eq, List.cons_append, List.nil_append]
                                repeat (go_big_quiet_step (with_reducible exact PR.out _ _))
                                refine wpQuiet_nil ?_
                                intro _ hw'
                                obtain ⟨⟨dq, osq⟩, hw''⟩ := hw'
                                subst hw''
                                have HCQ := Lib.hid (chg_of_below (below_regrown W5 dq osq))
                                go_wp2_with fail
                                go_meet
                                try have q2 := Hq2.out
                                try have q3 := Hq3.out
                                try have q4 := Hq4.out
                                try have q5 := Hq5.out
                                try have q7 := Hq7.out
                                try have q9 := Hq9.out
                                exact ⟨HCQ, by rw [← HZ.out]; first | (exfalso; omega) | (simp [bad3, *]; done) | (simp [bad3, *]; omega)⟩
                            · have q8b : hb = false := by simpa using q8
                              subst q8b
                              by_cases q9 : tn % 2 = 0
                              · have m1 : (tn : Int).tmod 2 = 0 := by rw [Int.tmod_eq_emod_of_nonneg (by omega)]; omega
                                have m2 : (tn : Int) % 2 = 0 := by omega
                                have Hq9 := Lib.hid q9
                                clear q9
                                refine wp_region_quiet_below (by kernel_rfl) (by kernel_rfl) ?_
                                try simp only [List.append_eq, List.cons_append, List.nil_append]
                                repeat (go_big_quiet_step (with_reducible exact PR.out _ _))
                                refine wpQuiet_nil ?_
                                intro _ hw'
                                obtain ⟨⟨dq, osq⟩, hw''⟩ := hw'
                                subst hw''
                                have HCQ := Lib.hid (chg_of_below (below_regrown W5 dq osq))
                                go_wp2_with fail
                                go_meet
                                try have q2 := Hq2.out
                                try have q3 := Hq3.out
                                try have q4 := Hq4.out
                                try have q5 := Hq5.out
                                try have q7 := Hq7.out
                                try have q9 := Hq9.out
                                exact ⟨HCQ, by rw [← HZ.out]; first | (exfalso; omega) | (simp [bad3, *]; done) | (simp [bad3, *]; omega)⟩
                              · have m1 : (tn : Int).tmod 2 = 1 := by rw [Int.tmod_eq_emod_of_nonneg (by omega)]; omega
                                have m2 : (tn : Int) % 2 = 1 := by omega
                                refine wp_region_quiet_below (by kernel_rfl) (by kernel_rfl) ?_
                                try simp only [List.append_eq, List.cons_append, List.nil_append]
                                repeat (go_big_quiet_step (with_reducible exact PR.out _ _))
                                refine wpQuiet_nil ?_
                                intro _ hw'
                                obtain ⟨⟨dq, osq⟩, hw''⟩ := hw'
                                subst hw''
                                have HCQ := Lib.hid (chg_of_below (below_regrown W5 dq osq))
                                go_wp2_with fail
                                go_meet
                                try have q2 := Hq2.out
                                try have q3 := Hq3.out
                                try have q4 := Hq4.out
                                try have q5 := Hq5.out
                                try have q7 := Hq7.out
                                try have q9 := Hq9.out
                                exact ⟨HCQ, by rw [← HZ.out]; first | (exfalso; omega) | (simp [bad3, *]; done) | (simp [bad3, *]; omega)⟩
                        · have f0q5 : (((ta : Nat) : Int) == 0) = false := by simp [q5] <;> omega
                          have f1q5 : (((ta : Nat) : Int) != 0) = true := by simp [q5]
                          have f2q5 : (ta == 0) = false := by simp [q5] <;> omega
                          have f3q5 : (decide ((ta : Int) = 0)) = false := by simp [q5] <;> omega
                          refine wp_region_quiet_below (by kernel_rfl) (by kernel_rfl) ?_
                          try simp only [List.append_eq, List.cons_append, List.nil_append]
                          repeat (go_big_quiet_step (with_reducible exact PR.out _ _))
                          refine wpQuiet_nil ?_
                          intro _ hw'
                          obtain ⟨⟨dq, osq⟩, hw''⟩ := hw'
                          subst hw''
                          have HCQ := Lib.hid (chg_of_below (below_regrown W5 dq osq))
                          go_wp2_with fail
                          go_meet
                          try have q2 := Hq2.out
                          try have q3 := Hq3.out
                          try have q4 := Hq4.out
                          try have q5 := Hq5.out
                          try have q7 := Hq7.out
                          try have q9 := Hq9.out
                          exact ⟨HCQ, by rw [← HZ.out]; first | (exfalso; omega) | (simp [bad3, *]; done) | (simp [bad3, *]; omega)⟩
                      · have f0q4 : (((tt : Nat) : Int) == 0) = false := by simp [q4] <;> omega
                        have f1q4 : (((tt : Nat) : Int) != 0) = true := by simp [q4]
                        have f2q4 : (tt == 0) = false := by simp [q4] <;> omega
                        have f3q4 : (decide ((tt : Int) = 0)) = false := by simp [q4] <;> omega
                        by_cases q5 : ta = 0
                        · have f0q5 : (((ta : Nat) : Int) == 0) = true := by simp [q5]
                          have f1q5 : (((ta : Nat) : Int) != 0) = false := by simp [q5]
                          have f2q5 : (ta == 0) = true := by simp [q5]
                          have f3q5 : (decide ((ta : Int) = 0)) = true := by simp [q5]
                          have Hq5 := Lib.hid q5
                          clear q5
                          refine wp_region_quiet_below (by kernel_rfl) (by kernel_rfl) ?_
                          try simp only [List.append_eq, List.cons_append, List.nil_append]
                          repeat (go_big_quiet_step (with_reducible exact PR.out _ _))
                          refine wpQuiet_nil ?_
                          intro _ hw'
                          obtain ⟨⟨dq, osq⟩, hw''⟩ := hw'
                          subst hw''
                          have HCQ := Lib.hid (chg_of_below (below_regrown W5 dq osq))
                          go_wp2_with fail
                          go_meet
                          try have q2 := Hq2.out
                          try have q3 := Hq3.out
                          try have q4 := Hq4.out
                          try have q5 := Hq5.out
                          try have q7 := Hq7.out
                          try have q9 := Hq9.out
                          exact ⟨HCQ, by rw [← HZ.out]; first | (exfalso; omega) | (simp [bad3, *]; done) | (simp [bad3, *]; omega)⟩
                        · have f0q5 : (((ta : Nat) : Int) == 0) = false := by simp [q5] <;> omega
                          have f1q5 : (((ta : Nat) : Int) != 0) = true := by simp [q5]
                          have f2q5 : (ta == 0) = false := by simp [q5] <;> omega
                          have f3q5 : (decide ((ta : Int) = 0)) = false := by simp [q5] <;> omega
                          by_cases q6 : TT < ta
                          · have f1q6 : decide ((TT : Int) < ta) = true := decide_eq_true (by omega)
                            have f2q6 : decide (TT < ta) = true := decide_eq_true q6
                            refine wp_region_quiet_below (by kernel_rfl) (by kernel_rfl) ?_
                            try simp only [List.append_eq, List.cons_append, List.nil_append]
                            repeat (go_big_quiet_step (with_reducible exact PR.out _ _))
                            refine wpQuiet_nil ?_
                            intro _ hw'
                            obtain ⟨⟨dq, osq⟩, hw''⟩ := hw'
                            subst hw''
                            have HCQ := Lib.hid (chg_of_below (below_regrown W5 dq osq))
                            go_wp2_with fail
                            go_meet
                            try have q2 := Hq2.out
                            try have q3 := Hq3.out
                            try have q4 := Hq4.out
                            try have q5 := Hq5.out
                            try have q7 := Hq7.out
                            try have q9 := Hq9.out
                            exact ⟨HCQ, by rw [← HZ.out]; first | (exfalso; omega) | (simp [bad3, *]; done) | (simp [bad3, *]; omega)⟩
                          · have f1q6 : decide ((TT : Int) < ta) = false := decide_eq_false (by omega)
                            have f2q6 : decide (TT < ta) = false := decide_eq_false q6
                            by_cases q7 : tt = tg
                            · have f1q7 : (((tt : Nat) : Int) == ((tg : Nat) : Int)) = true := by simp [q7]
                              have f2q7 : (tt == tg) = true := by simp [q7]
                              have f3q7 : decide (((tt : Nat) : Int) = ((tg : Nat) : Int)) = true := by simp [q7]
                              have Hq7 := Lib.hid q7
                              clear q7
                              refine wp_region_quiet_below (by kernel_rfl) (by kernel_rfl) ?_
                              try simp only [List.append_eq, List.cons_append, List.nil_append]
                              repeat (go_big_quiet_step (with_reducible exact PR.out _ _))
                              refine wpQuiet_nil ?_
                              intro _ hw'
                              obtain ⟨⟨dq, osq⟩, hw''⟩ := hw'
                              subst hw''
                              have HCQ := Lib.hid (chg_of_below (below_regrown W5 dq osq))
                              go_wp2_with fail
                              go_meet
                              try have q2 := Hq2.out
                              try have q3 := Hq3.out
                              try have q4 := Hq4.out
                              try have q5 := Hq5.out
                              try have q7 := Hq7.out
                              try have q9 := Hq9.out
                              exact ⟨HCQ, by rw [← HZ.out]; first | (exfalso; omega) | (simp [bad3, *]; done) | (simp [bad3, *]; omega)⟩
                            · have f1q7 : (((tt : Nat) : Int) == ((tg : Nat) : Int)) = false := by rw [beq_eq_false_iff_ne]; omega
                              have f2q7 : (tt == tg) = false := by simp [q7]
                              have f3q7 : decide (((tt : Nat) : Int) = ((tg : Nat) : Int)) = false := decide_eq_false (by omega)
                              by_cases q8 : hb = true
                              · subst q8
                                refine wp_region_quiet_below (by kernel_rfl) (by kernel_rfl) ?_
                                try simp only [List.append_eq, List.cons_append, List.nil_append]
                                repeat (go_big_quiet_step (with_reducible exact PR.out _ _))
                                refine wpQuiet_nil ?_
                                intro _ hw'
                                obtain ⟨⟨dq, osq⟩, hw''⟩ := hw'
                                subst hw''
                                have HCQ := Lib.hid (chg_of_below (below_regrown W5 dq osq))
                                go_wp2_with fail
                                go_meet
                                try have q2 := Hq2.out
                                try have q3 := Hq3.out
                                try have q4 := Hq4.out
                                try have q5 := Hq5.out
                                try have q7 := Hq7.out
                                try have q9 := Hq9.out
                                exact ⟨HCQ, by rw [← HZ.out]; first | (exfalso; omega) | (simp [bad3, *]; done) | (simp [bad3, *]; omega)⟩
                              · have q8b : hb = false := by simpa using q8
                                subst q8b
                                by_cases q9 : tn % 2 = 0
                                · have m1 : (tn : Int).tmod 2 = 0 := by rw [Int.tmod_eq_emod_of_nonneg (by omega)]; omega
                                  have m2 : (tn : Int) % 2 = 0 := by omega
                                  have Hq9 := Lib.hid q9
                                  clear q9
                                  refine wp_region_quiet_below (by kernel_rfl) (by kernel_rfl) ?_
                                  try simp only [List.append_eq, List.cons_append, List.nil_append]
                                  repeat (go_big_quiet_step (with_reducible exact PR.out _ _))
                                  refine wpQuiet_nil ?_
                                  intro _ hw'
                                  obtain ⟨⟨dq, osq⟩, hw''⟩ := hw'
                                  subst hw''
                                  have HCQ := Lib.hid (chg_of_below (below_regrown W5 dq osq))
                                  go_wp2_with fail
                                  go_meet
                                  try have q2 := Hq2.out
                                  try have q3 := Hq3.out
                                  try have q4 := Hq4.out
                                  try have q5 := Hq5.out
                                  try have q7 := Hq7.out
                                  try have q9 := Hq9.out
                                  exact ⟨HCQ, by rw [← HZ.out]; first | (exfalso; omega) | (simp [bad3, *]; done) | (simp [bad3, *]; omega)⟩
                                · have m1 : (tn : Int).tmod 2 = 1 := by rw [Int.tmod_eq_emod_of_nonneg (by omega)]; omega
                                  have m2 : (tn : Int) % 2 = 1 := by omega
                                  refine wp_region_quiet_below (by kernel_rfl) (by kernel_rfl) ?_
                                  try simp only [List.append_eq, List.cons_append, List.nil_append]
                                  repeat (go_big_quiet_step (with_reducible exact PR.out _ _))
                                  refine wpQuiet_nil ?_
                                  intro _ hw'
                                  obtain ⟨⟨dq, osq⟩, hw''⟩ := hw'
                                  subst hw''
                                  have HCQ := Lib.hid (chg_of_below (below_regrown W5 dq osq))
                                  go_wp2_with fail
                                  go_meet
                                  try have q2 := Hq2.out
                                  try have q3 := Hq3.out
                                  try have q4 := Hq4.out
                                  try have q5 := Hq5.out
                                  try have q7 := Hq7.out
                                  try have q9 := Hq9.out
                                  exact ⟨HCQ, by rw [← HZ.out]; first | (exfalso; omega) | (simp [bad3, *]; done) | (simp [bad3, *]; omega)⟩
                · rw [if_neg q1] at PR
                  refine wp_region_quiet_below (by kernel_rfl) (by kernel_rfl) ?_
                  try simp only [List.append_eq, List.cons_append, List.nil_append]
                  repeat (go_big_quiet_step (with_reducible exact PR.out _ _))
                  refine wpQuiet_nil ?_
                  intro _ hw'
                  obtain ⟨⟨dq, osq⟩, hw''⟩ := hw'
                  subst hw''
                  have HCQ := Lib.hid (chg_of_below (below_regrown W5 dq osq))
                  go_wp2_with fail
                  go_meet
                  try have q2 := Hq2.out
                  try have q3 := Hq3.out
                  try have q4 := Hq4.out
                  try have q5 := Hq5.out
                  try have q7 := Hq7.out
                  try have q9 := Hq9.out
                  exact ⟨HCQ, by rw [← HZ.out]; first | (exfalso; omega) | (simp [bad3, *]; done) | (simp [bad3, *]; omega)⟩
              case rest =>
                obtain ⟨HCW, rfl⟩ := hcut
                clear hlk y0 y1 y2 y3 y4 x1 g0 g1 g2 g3 g4 g5 PR
                have HG6 := Lib.hid (show M2 w b R F n tb T wc ∧ rangeAt okS kvS wc ir3 R.t (tv n.tab) (a ++ bb) ∧ w.heap.size ≤ ir3 ∧ tb ≠ ir3 from ⟨HG5.out.1.same HCW.out, rangeAt.stay (ok := okS) (kv := kvS) HG5.out.2 (HCW.out.block _ HG5.out.2.lt.1 (fun f => f)) (HCW.out.block _ HG5.out.2.lt.2.1 (fun f => f)), HG.out.2.2⟩)
                generalize wc = W6 at *
                cases z
                · go_wp2_with fail
                  go_roundw
                  case rel => exact ⟨a ++ bb, HG6⟩
                  case measure => rw [HG6.out.2.1.left_eq, HRL.out, HL0.out]; simp
                · have HNO := Lib.hid (show Made m → False from fun hM => by
                    have h1 := hM.t3 HMK.out (hb := hb) (fun e => HHB.out.1 e)
                    have h2 := HZ.out
                    rw [← HTT.out, HL.out.time] at h2
                    rw [h1] at h2
                    cases h2)
                  have HCG := Lib.hid HG6.out.1.chg
                  go_wp2_with fail
                  go_ret
                  exact ⟨⟨false, rfl, fun hM => (HNO.out hM).elim⟩, HCG.out⟩
        · obtain ⟨k, v⟩ := p
          have hen' := hen w1 rfl rfl
          have hm : (k, v) ∈ nv n.las := HV.out.2.1.sub.subset (by rw [hl0]; simp)
          obtain ⟨⟨k', t⟩, hq, e⟩ := List.mem_map.1 hm
          simp only [Prod.mk.injEq] at e
          obtain ⟨rfl, rfl⟩ := e
          have hmk := HV.out.1.st.memL HL.out hq
          have HX := Lib.hid (HW.out.k _ hmk)
          have HMK := Lib.hid hmk
          have HG := Lib.hid (show M2 w b R F n tb T w1 ∧ rangeAt okS kvS w1 ir R.l (nv n.las) (a ++ bb) ∧ w.heap.size ≤ ir ∧ tb ≠ ir from ⟨HV.out.1.off hc HV.out.2.2.1 HV.out.2.2.2, ho, HV.out.2.2⟩)
          have HRL := Lib.hid HV.out.2.1.left_eq
          have HL0 := Lib.hid hl0
          have c3 : w1.cell? ⟨b, 3, none⟩ = some (.int .u64 (MM : Nat)) := by rw [← HMM.out]; exact HG.out.1.st.c3
          have hlk := times_look HG.out.1.tm HG.out.1.all HX.out.2
          have HHB := Lib.hid (HG.out.1.has HL.out t)
          obtain ⟨hb, HHH⟩ : ∃ z, Hid (hasT T t = z) := ⟨_, Lib.hid rfl⟩
          simp only at hlk
          rw [HHH.out] at hlk HHB
          obtain ⟨z, HZ⟩ : ∃ z, Hid (bad2 MM k' t hb = z) := ⟨_, Lib.hid rfl⟩
          unfold kvS nV at *
          clear hen ho hm hq hmk hc hsz hl0
          go_upto_region 11 with fail
          go_cut [104] from 83 to 104 (fun s104 wx => wx = w1 ∧ s104 = .bool z)
          case first => as_aux_lemma =>
            by_cases b1 : k'.size < 1
            · have f1b1 : decide ((k'.size : Int) < 1) = true := decide_eq_true (by omega)
              have f2b1 : decide (k'.size < 1) = true := decide_eq_true b1
              go_wp2_with fail
              go_meet
              exact ⟨rfl, by rw [← HZ.out]; simp [bad2, *]⟩
            · have f1b1 : decide ((k'.size : Int) < 1) = false := decide_eq_false (by omega)
              have f2b1 : decide (k'.size < 1) = false := decide_eq_false b1
              by_cases b2 : 16384 < k'.size
              · have f1b2 : decide ((16384 : Int) < k'.size) = true := decide_eq_true (by omega)
                have f2b2 : decide (16384 < k'.size) = true := decide_eq_true b2
                go_wp2_with fail
                go_meet
                exact ⟨rfl, by rw [← HZ.out]; simp [bad2, *]⟩
              · have f1b2 : decide ((16384 : Int) < k'.size) = false := decide_eq_false (by omega)
                have f2b2 : decide (16384 < k'.size) = false := decide_eq_false b2
                by_cases b3 : t ≤ MM
                · have f1b3 : decide ((t : Int) ≤ MM) = true := decide_eq_true (by omega)
                  have f2b3 : decide (t ≤ MM) = true := decide_eq_true b3
                  go_wp2_with fail
                  go_meet
                  exact ⟨rfl, by rw [← HZ.out]; simp [bad2, *]⟩
                · have f1b3 : decide ((t : Int) ≤ MM) = false := decide_eq_false (by omega)
                  have f2b3 : decide (t ≤ MM) = false := decide_eq_false b3
                  by_cases b4 : hb = true
                  · subst b4
                    go_wp2_with fail
                    go_meet
                    exact ⟨rfl, by rw [← HZ.out]; simp [bad2, *]⟩
                  · have b5 : hb = false := by simpa using b4
                    subst b5
                    go_wp2_with fail
                    go_meet
                    exact ⟨rfl, by rw [← HZ.out]; simp [bad2, *]⟩
          case rest =>
            obtain ⟨hwx, rfl⟩ := hcut
            obtain rfl : w1 = _ := hwx.symm
            clear hlk c3 hn hen'
            cases z
            · go_wp2_with fail
              go_roundw
              case rel => exact ⟨a ++ bb, HG⟩
              case measure => rw [HG.out.2.1.left_eq, HRL.out, HL0.out]; simp
            · have HNO := Lib.hid (show Made m → False from fun hM => by
                have h1 := hM.k2 HMK.out (hb := hb) (fun e => HHB.out.2 e)
                have h2 := HZ.out
                rw [← HMM.out, HL.out.mark] at h2
                rw [h1] at h2
                cases h2)
              have HCG := Lib.hid HG.out.1.chg
              go_wp2_with fail
              go_ret
              exact ⟨⟨false, rfl, fun hM => (HNO.out hM).elim⟩, HCG.out⟩
    · obtain ⟨x, v⟩ := p
      have hen' := hen w1 rfl rfl
      have hm : (x, v) ∈ nv n.dec := HU.out.over.sub.subset (by rw [hl0]; simp)
      obtain ⟨⟨x', c⟩, hq, e⟩ := List.mem_map.1 hm
      simp only [Prod.mk.injEq] at e
      obtain ⟨e1, e2⟩ := e
      subst e1
      have hmd := HU.out.st.memD HL.out hq
      have HX := Lib.hid (HW.out.d _ hmd)
      have HMD := Lib.hid hmd
      obtain ⟨hst1, htm1, es, ck, hup, HG⟩ := HU.out.next hl0 hc ho (y := c) e2.symm (HW.out.d _ hmd).2
      have HRL := Lib.hid HU.out.over.left_eq
      have HL0 := Lib.hid hl0
      have HHB := Lib.hid (show hasT T c = true → ∃ q ∈ m.d, q.2 = c ∧ q.1 ≠ x' from fun e => by
        obtain ⟨p2, hp2, e3, hnl⟩ := (HU.out.said c).1 e
        obtain ⟨q, hq2, rfl⟩ := List.mem_map.1 hp2
        refine ⟨q, HU.out.st.memD HL.out hq2, by simp only [nV, Value.int.injEq, true_and] at e3; omega, fun e4 => ?_⟩
        have hd := HU.out.st.dec.apart
        have h5 := lk_of_mem' hd hp2
        have h6 := lk_of_mem' hd hm
        simp only at h5 h6
        rw [e4, h6] at h5
        refine hnl ?_
        rw [hl0, e4]
        have h7 := Option.some.inj h5
        rw [← h7]
        simp)
      subst e2
      have c1 : w1.cell? ⟨b, 1, none⟩ = some (.int .u64 (TT : Nat)) := by rw [← HTT.out]; exact hst1.c1
      have c3 : w1.cell? ⟨b, 3, none⟩ = some (.int .u64 (MM : Nat)) := by rw [← HMM.out]; exact hst1.c3
      have hlk := times_look htm1 HU.out.all (y := c) HX.out.2
      obtain ⟨hb, HHH⟩ : ∃ z, Hid (hasT T c = z) := ⟨_, Lib.hid rfl⟩
      rw [HHH.out] at hlk HHB
      obtain ⟨z, HZ⟩ : ∃ z, Hid (bad1 TT MM x' c hb = z) := ⟨_, Lib.hid rfl⟩
      have HCG := Lib.hid (HU.out.chg.trans' hc (fun i e => Or.inr (by have := HU.out.new; omega)))
      unfold kvU nV at *
      generalize x' = x at *
      clear hen ho hm hq hmd hst1 htm1 HU hc hsz hl0
      go_upto_region 5 with fail
      go_cut [70] from 27 to 70 (fun s70 wx => wx = w1 ∧ s70 = .bool z)
      case first => as_aux_lemma =>
        by_cases a1 : x = 0
        · have f1a1 : ((x : Int) == 0) = true := by simp [a1]
          have f2a1 : ((x : Int) != 0) = false := by simp [a1]
          have f3a1 : (x == 0) = true := by simp [a1]
          have f4a1 : decide ((x : Int) = 0) = true := by simp [a1]
          have Ha1 := Lib.hid a1
          clear a1
          go_wp2_with fail
          go_meet
          try have a1 := Ha1.out
          try have a4 := Ha4.out
          exact ⟨rfl, by rw [← HZ.out]; simp [bad1, *]⟩
        · have f1a1 : ((x : Int) == 0) = false := by simp [a1]
          have f2a1 : ((x : Int) != 0) = true := by simp [a1]
          have f3a1 : (x == 0) = false := by simp [a1]
          have f4a1 : decide ((x : Int) = 0) = false := by simp [a1]
          by_cases a2 : TT < x
          · have f1a2 : decide ((TT : Int) < x) = true := decide_eq_true (by omega)
            have f2a2 : decide (TT < x) = true := decide_eq_true a2
            go_wp2_with fail
            go_meet
            try have a1 := Ha1.out
            try have a4 := Ha4.out
            exact ⟨rfl, by rw [← HZ.out]; simp [bad1, *]⟩
          · have f1a2 : decide ((TT : Int) < x) = false := decide_eq_false (by omega)
            have f2a2 : decide (TT < x) = false := decide_eq_false a2
            by_cases a3 : TT < c
            · have f1a3 : decide ((TT : Int) < c) = true := decide_eq_true (by omega)
              have f2a3 : decide (TT < c) = true := decide_eq_true a3
              go_wp2_with fail
              go_meet
              try have a1 := Ha1.out
              try have a4 := Ha4.out
              exact ⟨rfl, by rw [← HZ.out]; simp [bad1, *]⟩
            · have f1a3 : decide ((TT : Int) < c) = false := decide_eq_false (by omega)
              have f2a3 : decide (TT < c) = false := decide_eq_false a3
              by_cases a4 : c = 0
              · have f1a4 : ((c : Int) == 0) = true := by simp [a4]
                have f2a4 : ((c : Int) != 0) = false := by simp [a4]
                have f3a4 : (c == 0) = true := by simp [a4]
                have f4a4 : decide ((c : Int) = 0) = true := by simp [a4]
                have Ha4 := Lib.hid a4
                clear a4
                by_cases a5 : x < MM
                · have f1a5 : decide ((x : Int) < MM) = true := decide_eq_true (by omega)
                  have f2a5 : decide (x < MM) = true := decide_eq_true a5
                  go_wp2_with fail
                  go_meet
                  try have a1 := Ha1.out
                  try have a4 := Ha4.out
                  exact ⟨rfl, by rw [← HZ.out]; simp [bad1, *]⟩
                · have f1a5 : decide ((x : Int) < MM) = false := decide_eq_false (by omega)
                  have f2a5 : decide (x < MM) = false := decide_eq_false a5
                  go_wp2_with fail
                  go_meet
                  try have a1 := Ha1.out
                  try have a4 := Ha4.out
                  exact ⟨rfl, by rw [← HZ.out]; simp [bad1, *]⟩
              · have f1a4 : ((c : Int) == 0) = false := by simp [a4]
                have f2a4 : ((c : Int) != 0) = true := by simp [a4]
                have f3a4 : (c == 0) = false := by simp [a4]
                have f4a4 : decide ((c : Int) = 0) = false := by simp [a4]
                by_cases a6 : c ≤ x
                · have f1a6 : decide ((c : Int) ≤ x) = true := decide_eq_true (by omega)
                  have f2a6 : decide (c ≤ x) = true := decide_eq_true a6
                  go_wp2_with fail
                  go_meet
                  try have a1 := Ha1.out
                  try have a4 := Ha4.out
                  exact ⟨rfl, by rw [← HZ.out]; simp [bad1, *]⟩
                · have f1a6 : decide ((c : Int) ≤ x) = false := decide_eq_false (by omega)
                  have f2a6 : decide (c ≤ x) = false := decide_eq_false a6
                  by_cases a7 : hb = true
                  · subst a7
                    go_wp2_with fail
                    go_meet
                    try have a1 := Ha1.out
                    try have a4 := Ha4.out
                    exact ⟨rfl, by rw [← HZ.out]; simp [bad1, *]⟩
                  · have a8 : hb = false := by simpa using a7
                    subst a8
                    go_wp2_with fail
                    go_meet
                    try have a1 := Ha1.out
                    try have a4 := Ha4.out
                    exact ⟨rfl, by rw [← HZ.out]; simp [bad1, *]⟩
      case rest =>
        obtain ⟨hwx, rfl⟩ := hcut
        obtain rfl : w1 = _ := hwx.symm
        clear hlk c1 c3 hn hen'
        cases z
        · go_wp2_with fail
          go_roundw
          case rel => exact ⟨a ++ bb, _, HG⟩
          case measure => rw [HG.out.over.left_eq, HRL.out, HL0.out]; simp
        · have HNO := Lib.hid (show Made m → False from fun hM => by
            have h1 := hM.d1 HMD.out (hb := hb) HHB.out
            have h2 := HZ.out
            rw [← HTT.out, ← HMM.out, HL.out.time, HL.out.mark] at h2
            rw [h1] at h2
            cases h2)
          go_wp2_with fail
          go_ret
          exact ⟨⟨false, rfl, fun hM => (HNO.out hM).elim⟩, HCG.out⟩
end
end Go.Proofs.YtgmmglmokkcgeaaGreat
