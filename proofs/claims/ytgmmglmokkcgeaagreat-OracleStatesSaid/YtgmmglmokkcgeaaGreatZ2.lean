/- Walks: the closures of ReadState: a tablet. -/
import Derived.Test.YtgmmglmokkcgeaaGreatY9
import Derived.RegionTactic
import Derived.Deep.RegionWith
namespace Go.Proofs.YtgmmglmokkcgeaaGreat
set_option linter.unusedVariables false
set_option linter.unusedSimpArgs false
set_option linter.unusedSectionVars false
open Go.RowKit Mk Go.Sort

/-- A tablet's box beside. -/
structure TbRep (w : World) (rv sv rb b S : Nat) (R : Loc) (F : Nat → Prop) (n : OM) (r : RdS) (m : RM) (tb : Nat) (cs : Array Value) (W : World) : Prop where
  rs : RsRep w rv sv rb b S R F n r m W
  box : W.heap[tb]? = some (.cells cs 41)
  new : w.heap.size ≤ tb
  nf : ¬ F tb
section
variable {w W W' : World} {rv sv rb b S tb : Nat} {R : Loc} {F : Nat → Prop} {n : OM} {r : RdS} {m : RM} {cs : Array Value}
theorem TbRep.begin (h : RsRep w rv sv rb b S R F n r m W) (cs : Array Value) (hF : ∀ g, F g → g < W.heap.size) : TbRep w rv sv rb b S R F n r m W.heap.size cs (W.alloc (.cells cs 41)) :=
  ⟨h.same ((Chg.refl _ W).alloc _), Go.heap_alloc_new _ _, h.chg.size, fun f => by have := hF _ f; omega⟩
theorem TbRep.ne (h : TbRep w rv sv rb b S R F n r m tb cs W) : tb ≠ rb := typ_ne h.box h.rs.rd (by decide)
theorem TbRep.same (h : TbRep w rv sv rb b S R F n r m tb cs W) (c : Chg (fun _ => False) W W') : TbRep w rv sv rb b S R F n r m tb cs W' :=
  ⟨h.rs.same c, (c.block tb (Array.getElem?_eq_some_iff.1 h.box).1 (fun f => f)).trans h.box, h.new, h.nf⟩
theorem TbRep.num (h : TbRep w rv sv rb b S R F n r m tb cs W) {u : World} (cu : Chg (fun _ => False) W u) : Calls Tryz.prog 51 #[.pointer (some ⟨rb, 0, none⟩)] u fun e W' => e = .returned (.int .u64 ((numR r).1 : Nat)) ∧ Hid (TbRep w rv sv rb b S R F n (numR r).2 m tb cs W') :=
  (h.rs.num cu).mono fun e W' hh => ⟨hh.1, Lib.hid ⟨hh.2.out.1, (hh.2.out.2.block tb (Array.getElem?_eq_some_iff.1 h.box).1 h.ne).trans h.box, h.new, h.nf⟩⟩
theorem TbRep.small (h : TbRep w rv sv rb b S R F n r m tb cs W) {u : World} (cu : Chg (fun _ => False) W u) : Calls Tryz.prog 57 #[.pointer (some ⟨rb, 0, none⟩)] u fun e W' => e = .returned (.int .u32 ((smallR r).1 : Nat)) ∧ Hid (TbRep w rv sv rb b S R F n (smallR r).2 m tb cs W') :=
  (h.rs.small cu).mono fun e W' hh => ⟨hh.1, Lib.hid ⟨hh.2.out.1, (hh.2.out.2.block tb (Array.getElem?_eq_some_iff.1 h.box).1 h.ne).trans h.box, h.new, h.nf⟩⟩
theorem TbRep.fz (h : TbRep w rv sv rb b S R F n r m tb cs W) (i : Nat) : W.frozen? ⟨tb, i, none⟩ = false := frozen_of h.box
theorem TbRep.v (h : TbRep w rv sv rb b S R F n r m tb cs W) : W.cell? ⟨rv, 0, none⟩ = some (.pointer (some ⟨rb, 0, none⟩)) := cell_of h.rs.rvar rfl
/-- Its cells are set. -/
theorem TbRep.set (h : TbRep w rv sv rb b S R F n r m tb cs W) (i : Nat) (v : Value) : TbRep w rv sv rb b S R F n r m tb (cs.setIfInBounds i v) (W.setCell ⟨tb, i, none⟩ v) := by
  have hz : ∀ g, g ≠ tb → (W.setCell ⟨tb, i, none⟩ v).heap[g]? = W.heap[g]? := fun g hg => Below.heap_setCell _ _ _ _ hg
  have c : Chg (fun g => g = tb) W (W.setCell ⟨tb, i, none⟩ v) := (Chg.refl (fun g => g = tb) W).setCell (a := ⟨tb, i, none⟩) (Or.inl rfl) _
  have hbox := Mk.heap_setCell_same (i := i) h.box v
  refine ⟨⟨(hz rb h.ne.symm).trans h.rs.rd, (hz rv (typ_ne h.rs.rvar h.box (by decide))).trans h.rs.rvar, (hz sv (typ_ne h.rs.svar h.box (by decide))).trans h.rs.svar, h.rs.st.stay c (fun g f e => h.nf (by rw [← e]; exact f)), h.rs.like, h.rs.fn, h.rs.chg.setCell (Or.inr h.new) _, h.rs.rn, h.rs.sz, h.rs.S⟩, hbox, h.new, h.nf⟩
theorem TbRep.keepv (h : TbRep w rv sv rb b S R F n r m tb cs W) (i : Nat) (v : Value) : (W.setCell ⟨tb, i, none⟩ v).cell? ⟨rv, 0, none⟩ = some (.pointer (some ⟨rb, 0, none⟩)) := (h.set i v).v
theorem TbRep.bits {x : ByteArray} {a1 a2 a3 a4 : Value} (h : TbRep w rv sv rb b S R F n r m tb #[.string x, a1, a2, a3, a4] W) : W.cell? ⟨tb, 1, none⟩ = some a1 ∧ W.cell? ⟨tb, 2, none⟩ = some a2 ∧ W.cell? ⟨tb, 3, none⟩ = some a3 ∧ W.cell? ⟨tb, 4, none⟩ = some a4 ∧
    W.frozen? ⟨tb, 1, none⟩ = false ∧ W.frozen? ⟨tb, 2, none⟩ = false ∧ W.frozen? ⟨tb, 3, none⟩ = false ∧ W.frozen? ⟨tb, 4, none⟩ = false :=
  ⟨cell_of h.box rfl, cell_of h.box rfl, cell_of h.box rfl, cell_of h.box rfl, h.fz _, h.fz _, h.fz _, h.fz _⟩
set_option maxRecDepth 100000 in
set_option maxHeartbeats 4000000 in
theorem clo56 (h : RsAt w rv sv rb b S r m W) :
    Calls Tryz.prog 56 #[.pointer (some ⟨rv, 0, none⟩), .pointer (some ⟨sv, 0, none⟩)] W fun e W' => e = .returned (.tuple #[]) ∧ RsAt w rv sv rb b S (tabN (r, m.t)).1 { m with t := (tabN (r, m.t)).2 } W' := by
  obtain ⟨R, F, n, h⟩ := h
  obtain ⟨G, h, hF⟩ : ∃ G, RsRep w rv sv rb b S R G n r m W ∧ ∀ g, G g → g < W.heap.size := ⟨fun g => F g ∧ g < W.heap.size, ⟨h.rd, h.rvar, h.svar, h.st.tight, h.like, fun g f => h.fn g f.1, h.chg, h.rn, h.sz, h.S⟩, fun g f => f.2⟩
  have N1 := Lib.hid (h.text (Chg.refl _ W))
  have v0 : W.cell? ⟨rv, 0, none⟩ = some (.pointer (some ⟨rb, 0, none⟩)) := cell_of h.rvar rfl
  have HX := Lib.hid (show (textR r).1.size ≤ maxLen by have := (textR_le r).2; have := h.sz; have := h.S; unfold maxLen; omega)
  have HG := Lib.hid (show ∀ W1 : World, W.heap.size ≤ W1.heap.size → ∀ g, G g → g < W1.heap.size from fun W1 hs g f => Nat.lt_of_lt_of_le (hF g f) hs)
  unfold tabN tabR
  simp only
  clear h hF
  generalize (textR r).1 = x at *
  generalize (textR r).2 = r1 at *
  obtain ⟨y1, HY1⟩ : ∃ v, Hid ((smallR r1).1 = v) := ⟨_, Lib.hid rfl⟩
  obtain ⟨r2, HR2⟩ : ∃ v, Hid ((smallR r1).2 = v) := ⟨_, Lib.hid rfl⟩
  rw [HY1.out, HR2.out]
  obtain ⟨y2, HY2⟩ : ∃ v, Hid ((smallR r2).1 = v) := ⟨_, Lib.hid rfl⟩
  obtain ⟨r3, HR3⟩ : ∃ v, Hid ((smallR r2).2 = v) := ⟨_, Lib.hid rfl⟩
  rw [HY2.out, HR3.out]
  obtain ⟨y3, HY3⟩ : ∃ v, Hid ((numR r3).1 = v) := ⟨_, Lib.hid rfl⟩
  obtain ⟨r4, HR4⟩ : ∃ v, Hid ((numR r3).2 = v) := ⟨_, Lib.hid rfl⟩
  rw [HY3.out, HR4.out]
  obtain ⟨y4, HY4⟩ : ∃ v, Hid ((numR r4).1 = v) := ⟨_, Lib.hid rfl⟩
  obtain ⟨r5, HR5⟩ : ∃ v, Hid ((numR r4).2 = v) := ⟨_, Lib.hid rfl⟩
  rw [HY4.out, HR5.out]
  go_enter Tryz.func56, Tryz.ntmps56
  go_wp2_with fail
  refine N1.out.mono ?_
  rintro e W1 ⟨rfl, H1⟩
  have HB := Lib.hid (TbRep.begin H1.out.1 #[.string x, .int .u32 0, .int .u32 0, .int .u64 0, .int .u64 0] (HG.out W1 H1.out.2.size))
  obtain ⟨W2, HW2⟩ : ∃ U, Hid (W1.alloc (.cells #[.string x, .int .u32 0, .int .u32 0, .int .u64 0, .int .u64 0] 41) = U) := ⟨_, Lib.hid rfl⟩
  obtain ⟨tb, HTB⟩ : ∃ k, Hid (W1.heap.size = k) := ⟨_, Lib.hid rfl⟩
  rw [HW2.out, HTB.out] at HB
  clear v0 N1 H1 HG
  have v0 := HB.out.v
  have C1 := Lib.hid (fun (u : World) (cu : Chg (fun _ => False) W2 u) => HB.out.small cu)
  rw [HY1.out, HR2.out] at C1
  have C2 := Lib.hid (fun (V u : World) (hv : TbRep w rv sv rb b S R G n r2 m tb #[.string x, .int .u32 0, .int .u32 0, .int .u64 0, .int .u64 0] V) (cu : Chg (fun _ => False) V u) => hv.small cu)
  rw [HY2.out, HR3.out] at C2
  have C3 := Lib.hid (fun (V u : World) (hv : TbRep w rv sv rb b S R G n r3 m tb #[.string x, .int .u32 0, .int .u32 0, .int .u64 0, .int .u64 0] V) (cu : Chg (fun _ => False) V u) => hv.num cu)
  rw [HY3.out, HR4.out] at C3
  have C4 := Lib.hid (fun (V u : World) (hv : TbRep w rv sv rb b S R G n r4 m tb #[.string x, .int .u32 0, .int .u32 0, .int .u64 0, .int .u64 0] V) (cu : Chg (fun _ => False) V u) => hv.num cu)
  rw [HY4.out, HR5.out] at C4
  go_upto_region 1 with fail
  rw [HW2.out, HTB.out]
  go_region_held3 (fun u => u.cell? ⟨rv, 0, none⟩ = some (.pointer (some ⟨rb, 0, none⟩))) (first | with_reducible assumption | with_reducible exact (HB.out.same (Chg.refl _ _).drew).v | with_reducible exact HC.out.v | with_reducible exact (HC.out.set _ _).v | with_reducible exact ((HC.out.set _ _).set _ _).v | with_reducible exact (((HC.out.set _ _).set _ _).set _ _).v | with_reducible exact ((((HC.out.set _ _).set _ _).set _ _).set _ _).v) ((first
    | (go_at_call 57; (with_reducible refine (C2.out _ _ HC1.out (Chg.refl _ _)).mono ?_); rintro e W4 ⟨rfl, HC2⟩; have HC := HC2; obtain ⟨z1, z2, z3, z4, q1, q2, q3, q4⟩ := HC2.out.bits)
    | (go_at_call 57; (with_reducible refine (C1.out _ (Chg.refl _ _).drew).mono ?_); rintro e W3 ⟨rfl, HC1⟩; have HC := HC1; obtain ⟨z1, z2, z3, z4, q1, q2, q3, q4⟩ := HC1.out.bits)
    | (go_at_call 51; (with_reducible refine (C4.out _ _ HC3.out (Chg.refl _ _)).mono ?_); rintro e W6 ⟨rfl, HC4⟩; have HC := HC4; obtain ⟨z1, z2, z3, z4, q1, q2, q3, q4⟩ := HC4.out.bits)
    | (go_at_call 51; (with_reducible refine (C3.out _ _ HC2.out (Chg.refl _ _)).mono ?_); rintro e W5 ⟨rfl, HC3⟩; have HC := HC3; obtain ⟨z1, z2, z3, z4, q1, q2, q3, q4⟩ := HC3.out.bits)))
  have HD := Lib.hid (show TbRep w rv sv rb b S R G n r5 m tb #[.string x, .int .u32 (y1 : Nat), .int .u32 (y2 : Nat), .int .u64 (y3 : Nat), .int .u64 (y4 : Nat)] ((((W6.setCell ⟨tb, 1, none⟩ (.int .u32 (y1 : Nat))).setCell ⟨tb, 2, none⟩ (.int .u32 (y2 : Nat))).setCell ⟨tb, 3, none⟩ (.int .u64 (y3 : Nat))).setCell ⟨tb, 4, none⟩ (.int .u64 (y4 : Nat))) from
    (((HC.out.set 1 _).set 2 _).set 3 _).set 4 _)
  clear HC HC1 HC2 HC3 HC4 C1 C2 C3 C4 z1 z2 z3 z4 q1 q2 q3 q4 v0 HB
  generalize ((((W6.setCell ⟨tb, 1, none⟩ (.int .u32 (y1 : Nat))).setCell ⟨tb, 2, none⟩ (.int .u32 (y2 : Nat))).setCell ⟨tb, 3, none⟩ (.int .u64 (y3 : Nat))).setCell ⟨tb, 4, none⟩ (.int .u64 (y4 : Nat))) = W7 at *
  have KY := Lib.hid (fun (u : World) (hb : u.heap[b]? = W7.heap[b]?) (hs : u.heap[sv]? = W7.heap[sv]?) (ht : u.heap[tb]? = W7.heap[tb]?) => show u.cell? ⟨sv, 0, none⟩ = some (.pointer (some ⟨b, 0, none⟩)) ∧ u.cell? ⟨b, 6, none⟩ = some (.map (some R.t)) ∧ u.cell? ⟨tb, 0, none⟩ = some (.string x) ∧ u.cell? ⟨tb, 1, none⟩ = some (.int .u32 (y1 : Nat)) ∧ u.cell? ⟨tb, 2, none⟩ = some (.int .u32 (y2 : Nat)) ∧ u.cell? ⟨tb, 3, none⟩ = some (.int .u64 (y3 : Nat)) ∧ u.cell? ⟨tb, 4, none⟩ = some (.int .u64 (y4 : Nat)) from
    (have k := ht.trans HD.out.box; ⟨cell_of (hs.trans HD.out.rs.svar) rfl, cell_of (hb.trans HD.out.rs.st.box) rfl, cell_of k rfl, cell_of k rfl, cell_of k rfl, cell_of k rfl, cell_of k rfl⟩))
  obtain ⟨x1, x2, x3, x4, x5, x6, x7⟩ := KY.out W7 rfl rfl rfl
  obtain ⟨es, ck, hup, HE⟩ := (HD.out.same (Chg.refl _ W7).drew).rs.setT (x := x) (t := ⟨x, y1, y2, y3, y4⟩) HX.out
  unfold tbV at hup
  simp only at hup
  have HK2 := Lib.hid (KY.out (ChangeMaps.setBlock W7.drew R.t (.map es ck)) (heap_setBlock_ne HD.out.rs.st.b_ne.2.2.1) (heap_setBlock_ne (fun e => (HD.out.rs.fn _ HD.out.rs.st.ft).2.2.2 e.symm)) (heap_setBlock_ne (fun e => HD.out.nf (by rw [e]; exact HD.out.rs.st.ft))))
  go_wp2_with fail
  go_region_held3 (fun u => u.cell? ⟨sv, 0, none⟩ = some (.pointer (some ⟨b, 0, none⟩)) ∧ u.cell? ⟨b, 6, none⟩ = some (.map (some R.t)) ∧ u.cell? ⟨tb, 0, none⟩ = some (.string x) ∧ u.cell? ⟨tb, 1, none⟩ = some (.int .u32 (y1 : Nat)) ∧ u.cell? ⟨tb, 2, none⟩ = some (.int .u32 (y2 : Nat)) ∧ u.cell? ⟨tb, 3, none⟩ = some (.int .u64 (y3 : Nat)) ∧ u.cell? ⟨tb, 4, none⟩ = some (.int .u64 (y4 : Nat))) (first | exact KY.out W7.drew rfl rfl rfl | exact HK2.out) (fail)
  go_wp2
  go_end0
  exact ⟨rfl, HE.out⟩
end
end Go.Proofs.YtgmmglmokkcgeaaGreat
/- Walks: the closures of ReadState: a predicate's times. -/
namespace Go.Proofs.YtgmmglmokkcgeaaGreat
set_option linter.unusedVariables false
set_option linter.unusedSimpArgs false
set_option linter.unusedSectionVars false
open Go.RowKit Mk Go.Sort

/-- How many there can be. -/
structure Few (S : Nat) (r : RdS) (n : Nat) : Prop where
  len : n + r.s.size ≤ S + 1
  ok : r.bad = false → n + r.s.size ≤ S
theorem numR_less {r : RdS} (h : (numR r).2.bad = false) : (numR r).2.s.size + 1 ≤ r.s.size := by
  unfold numR at h ⊢
  simp only [Bool.or_eq_false_iff, decide_eq_false_iff_not, ne_eq, Decidable.not_not] at h
  have := rnum_less h.2
  rw [len_list] at this
  exact this
theorem Few.num {S : Nat} {r : RdS} {n : Nat} (h : Few S r n) (hb : r.bad = false) : Few S (numR r).2 (n + 1) := by
  have h1 := (numR_le r).1
  have h2 := h.ok hb
  exact ⟨by omega, fun e => by have := numR_less e; omega⟩
/-- A list of times beside, in a variable. -/
structure RwRep (w : World) (rv sv rb b S : Nat) (R : Loc) (F : Nat → Prop) (n : OM) (r : RdS) (m : RM) (lb : Nat) (lv : Value) (l : List Nat) (W : World) : Prop where
  rs : RsRep w rv sv rb b S R F n r m W
  box : W.heap[lb]? = some (.cells #[lv] 82)
  row : NumsAt W lv l
  new : w.heap.size ≤ lb
  nf : ¬ F lb
  own : ∀ g, lv.ownBlock = some g → ¬ F g ∧ w.heap.size ≤ g
  fl : ∀ g, F g → g < W.heap.size
def RwAt (w : World) (rv sv rb b S : Nat) (R : Loc) (F : Nat → Prop) (n : OM) (r : RdS) (m : RM) (lb : Nat) (l : List Nat) (W : World) : Prop := ∃ lv, RwRep w rv sv rb b S R F n r m lb lv l W
section
variable {w W W' : World} {rv sv rb b S lb : Nat} {R : Loc} {F : Nat → Prop} {n : OM} {r : RdS} {m : RM} {lv : Value} {l : List Nat}
theorem RwRep.ne (h : RwRep w rv sv rb b S R F n r m lb lv l W) : lb ≠ rb := typ_ne h.box h.rs.rd (by decide)
theorem RwRep.own_ne (h : RwRep w rv sv rb b S R F n r m lb lv l W) {g : Nat} (hg : lv.ownBlock = some g) : g ≠ rb ∧ g ≠ rv ∧ g ≠ sv ∧ g ≠ lb := by
  obtain ⟨cur, hh⟩ := sl_typ h.row hg
  exact ⟨typ_ne hh h.rs.rd (by decide), typ_ne hh h.rs.rvar (by decide), typ_ne hh h.rs.svar (by decide), typ_ne hh h.box (by decide)⟩
theorem RwRep.same (h : RwRep w rv sv rb b S R F n r m lb lv l W) (c : Chg (fun _ => False) W W') : RwRep w rv sv rb b S R F n r m lb lv l W' :=
  ⟨h.rs.same c, (c.block lb (Array.getElem?_eq_some_iff.1 h.box).1 (fun f => f)).trans h.box, sl.stay h.row (fun g hg => c.block g (sl.lt h.row hg) (fun f => f)), h.new, h.nf, h.own, fun g f => Nat.lt_of_lt_of_le (h.fl g f) c.size⟩
theorem RwRep.num (h : RwRep w rv sv rb b S R F n r m lb lv l W) {u : World} (cu : Chg (fun _ => False) W u) : Calls Tryz.prog 51 #[.pointer (some ⟨rb, 0, none⟩)] u fun e W' => e = .returned (.int .u64 ((numR r).1 : Nat)) ∧ Hid (RwRep w rv sv rb b S R F n (numR r).2 m lb lv l W') :=
  (h.rs.num cu).mono fun e W' hh => ⟨hh.1, Lib.hid ⟨hh.2.out.1, (hh.2.out.2.block lb (Array.getElem?_eq_some_iff.1 h.box).1 h.ne).trans h.box, sl.stay h.row (fun g hg => hh.2.out.2.block g (sl.lt h.row hg) (h.own_ne hg).1), h.new, h.nf, h.own, fun g f => Nat.lt_of_lt_of_le (h.fl g f) hh.2.out.2.size⟩⟩
/-- A time more. -/
theorem RwRep.more (h : RwRep w rv sv rb b S R F n r m lb lv l W) {x : Nat} {v' : Value} (hs : sl W' 24 1 v' (l.length + 1) ((l.map fun x => Value.int .u64 (x : Nat)) ++ [.int .u64 (x : Nat)])) (hg : W.grownBy W' lv.ownBlock) (ha : v'.ownBlock = lv.ownBlock ∨ v'.ownBlock = some W.heap.size) :
    W'.frozen? ⟨lb, 0, none⟩ = false ∧ W'.cell? ⟨lb, 0, none⟩ = some lv ∧ RwRep w rv sv rb b S R F n r m lb v' (l ++ [x]) (W'.setCell ⟨lb, 0, none⟩ v') := by
  have c : Chg (fun g => lv.ownBlock = some g) W W' := (Chg.refl _ W).grown hg (fun i e => Or.inl e)
  have hbl := (Array.getElem?_eq_some_iff.1 h.box).1
  have hb1 : W'.heap[lb]? = some (.cells #[lv] 82) := (c.block lb hbl (fun e => (h.own_ne e).2.2.2 rfl)).trans h.box
  have hz : ∀ g, g ≠ lb → (W'.setCell ⟨lb, 0, none⟩ v').heap[g]? = W'.heap[g]? := fun g hg => Below.heap_setCell _ _ _ _ hg
  have hN : NumsAt W' v' (l ++ [x]) := by
    unfold NumsAt
    rw [List.map_append, List.length_append]
    exact hs
  have hsz := h.rs.chg.size
  have cF : Chg (fun g => lv.ownBlock = some g ∨ g = lb) W (W'.setCell ⟨lb, 0, none⟩ v') := (c.mono (G := fun g => lv.ownBlock = some g ∨ g = lb) (fun g e => Or.inl e)).setCell (a := ⟨lb, 0, none⟩) (Or.inl (Or.inr rfl)) _
  refine ⟨frozen_of hb1, cell_of hb1 rfl, ⟨⟨?_, ?_, ?_, ?_, h.rs.like, h.rs.fn, ?_, h.rs.rn, h.rs.sz, h.rs.S⟩, Mk.heap_setCell_same (i := 0) hb1 _, ?_, h.new, h.nf, ?_, ?_⟩⟩
  · exact (cF.block rb h.rs.rd.lt (fun e => by rcases e with e | e; exact (h.own_ne e).1 rfl; exact h.ne e.symm)).trans h.rs.rd
  · exact (cF.block rv (Array.getElem?_eq_some_iff.1 h.rs.rvar).1 (fun e => by rcases e with e | e; exact (h.own_ne e).2.1 rfl; exact typ_ne h.rs.rvar h.box (by decide) e)).trans h.rs.rvar
  · exact (cF.block sv (Array.getElem?_eq_some_iff.1 h.rs.svar).1 (fun e => by rcases e with e | e; exact (h.own_ne e).2.2.1 rfl; exact typ_ne h.rs.svar h.box (by decide) e)).trans h.rs.svar
  · exact h.rs.st.stay cF (fun g f e => by rcases e with e | e; exact (h.own g e).1 f; exact h.nf (by rw [← e]; exact f))
  · exact h.rs.chg.trans' cF (fun i e => Or.inr (by rcases e with e | e; exact (h.own i e).2; rw [e]; exact h.new))
  · exact sl.stay hN (fun g hg => hz g (by obtain ⟨cur, hh⟩ := sl_typ hN hg; exact typ_ne hh hb1 (by decide)))
  · intro g e
    rcases ha with e2 | e2
    · rw [e2] at e; exact h.own g e
    · rw [e2] at e; cases e; exact ⟨fun f => by have := h.fl _ f; omega, hsz⟩
  · intro g f
    have := h.fl g f
    have := cF.size
    omega
theorem RwRep.see (h : RwRep w rv sv rb b S R F n r m lb lv l W) : W.cell? ⟨lb, 0, none⟩ = some lv ∧ W.cell? ⟨rv, 0, none⟩ = some (.pointer (some ⟨rb, 0, none⟩)) ∧ ∃ o c, lv = .slice o l.length c := ⟨cell_of h.box rfl, cell_of h.rs.rvar rfl, sl_shape h.row⟩
set_option maxRecDepth 100000 in
set_option maxHeartbeats 4000000 in
theorem clo59 (h : RwAt w rv sv rb b S R F n r m lb l W) (hl : l.length ≤ 1099511627777) :
    Calls Tryz.prog 59 #[.pointer (some ⟨lb, 0, none⟩), .pointer (some ⟨rv, 0, none⟩)] W fun e W' => e = .returned (.tuple #[]) ∧ RwAt w rv sv rb b S R F n (rowN (r, l)).1 m lb (rowN (r, l)).2 W' := by
  obtain ⟨lv, h⟩ := h
  obtain ⟨k3, v0, ko, kc, rfl⟩ := h.see
  have T := Lib.hid (h.num (u := W.drew) (Chg.refl _ W).drew)
  obtain ⟨i9, z9, hi9, hz9, hsz9, hby9, hzs9⟩ := el24.has
  have HTL1 := Lib.hid (show l.length + 1 ≤ maxLen by simp only [maxLen]; omega)
  have HTL2 := Lib.hid (show (l.length + 1) * 8 ≤ 140737488355328 by omega)
  unfold rowN
  simp only
  clear h hl
  generalize (numR r).1 = x at *
  generalize (numR r).2 = r' at *
  have HF := Lib.hid (fun (W1 : World) (h1 : RwRep w rv sv rb b S R F n r' m lb (.slice ko l.length kc) l W1) (v' : Value) (w2 : World) hs hg ha => (h1.same ((Chg.refl _ W1).alloc (.cells #[.int .u64 (x : Nat)] 24))).more (x := x) (v' := v') (W' := w2) hs hg ha)
  have HN := Lib.hid (show ∀ W1 : World, RwRep w rv sv rb b S R F n r' m lb (.slice ko l.length kc) l W1 → sl (W1.alloc (.cells #[.int .u64 (x : Nat)] 24)) 24 1 (.slice ko l.length kc) l.length (l.map fun x => Value.int .u64 (x : Nat)) from fun W1 h1 => (h1.same ((Chg.refl _ W1).alloc _)).row)
  go_enter Tryz.func59, Tryz.ntmps59
  go_wp2_with fail
  go_region_law (first
    | (go_simp; go_at_call 51; with_reducible refine T.out.mono ?_; rintro e W1 ⟨rfl, hO⟩; have y3 := hO.out.see.1; have y4 := (hO.out.same ((Chg.refl _ W1).alloc (.cells #[.int .u64 (x : Nat)] 24))).see.1; have HO := Lib.hid hO.out; have HCN := Lib.hid (cell_new_one (Go.heap_alloc_new W1 (.cells #[.int .u64 (x : Nat)] 24))); clear hO)
    | (refine step_append_sl (by rfl) _ _ 82 (by rfl) 24 i9 z9 1 8 Tryz.underlying82 hi9 hz9 hsz9 hby9 hzs9 (by decide) (.slice ko l.length kc) l.length (l.map fun x => Value.int .u64 (x : Nat)) (by rfl) (HN.out W1 HO.out) (some ⟨W1.heap.size, 0, none⟩) 1 1 [.int .u64 (x : Nat)] (by rfl) (by rfl) (fun _ => ⟨_, rfl, HCN.out⟩) (fun h => absurd h (by decide)) (by simp [Value.oneCell']) HTL1.out HTL2.out ?_; intro v' w4 hs hg4 ha; obtain ⟨y1, y5, y2⟩ := HF.out W1 HO.out v' w4 hs hg4 ha; have HY := Lib.hid y2; clear y2; obtain ⟨vo, vc, rfl⟩ := sl_shape hs; clear hs hg4 ha))
  all_goals
    go_wp2
    go_end0
    exact ⟨rfl, _, HY.out⟩
theorem many59 (h : RwAt w rv sv rb b S R F n r m lb [] W) :
    Calls Tryz.prog 52 #[.pointer (some ⟨rb, 0, none⟩), .func (.func 59) #[] #[.pointer (some ⟨lb, 0, none⟩), .pointer (some ⟨rv, 0, none⟩)]] W fun e W' => e = .returned (.tuple #[]) ∧ RwAt w rv sv rb b S R F n (rowR r).1 m lb (rowR r).2 W' := by
  obtain ⟨lv, h⟩ := h
  have hm := many_any (St := fun (s : RdS × List Nat) W' => RwAt w rv sv rb b S R F n s.1 m lb s.2 W' ∧ Few S s.1 s.2.length) (rd := fun s => s.1) (next := rowN)
    (caps := #[.pointer (some ⟨lb, 0, none⟩), .pointer (some ⟨rv, 0, none⟩)]) (N := (numR r).1) (s0 := ((numR r).2, [])) (W := W) (rb := rb) (entersU Tryz.func59 (by kernel_rfl) rfl)
    ((h.num (Chg.refl _ W)).mono fun e W' hh => ⟨hh.1, ⟨lv, hh.2.out⟩, by have := (numR_le r).1; have := h.rs.sz; exact ⟨by simp; omega, fun _ => by simp; omega⟩⟩)
    (fun s W' hs => by obtain ⟨⟨v, h'⟩, _⟩ := hs; exact h'.rs.rd)
    (fun s W' hs hb => by
      obtain ⟨h', hf⟩ := hs
      have hl := hf.len
      have hS := h.rs.S
      refine (clo59 h' (by omega)).mono fun e W2 hh => ⟨hh.1, hh.2, ?_⟩
      unfold rowN
      simp only [List.length_append, List.length_singleton]
      exact hf.num hb) (numR_le r).2
  exact hm.mono fun e W' hh => ⟨hh.1, hh.2.1⟩
set_option maxRecDepth 100000 in
set_option maxHeartbeats 4000000 in
theorem clo58 (h : RsAt w rv sv rb b S r m W) :
    Calls Tryz.prog 58 #[.pointer (some ⟨rv, 0, none⟩), .pointer (some ⟨sv, 0, none⟩)] W fun e W' => e = .returned (.tuple #[]) ∧ RsAt w rv sv rb b S (comN (r, m.c)).1 { m with c := (comN (r, m.c)).2 } W' := by
  obtain ⟨R, F, n, h⟩ := h
  obtain ⟨G, h, hF⟩ : ∃ G, RsRep w rv sv rb b S R G n r m W ∧ ∀ g, G g → g < W.heap.size := ⟨fun g => F g ∧ g < W.heap.size, ⟨h.rd, h.rvar, h.svar, h.st.tight, h.like, fun g f => h.fn g f.1, h.chg, h.rn, h.sz, h.S⟩, fun g f => f.2⟩
  have N1 := Lib.hid (h.text (Chg.refl _ W))
  have v0 : W.cell? ⟨rv, 0, none⟩ = some (.pointer (some ⟨rb, 0, none⟩)) := cell_of h.rvar rfl
  have HX := Lib.hid (show (textR r).1.size ≤ maxLen by have := (textR_le r).2; have := h.sz; have := h.S; unfold maxLen; omega)
  have HG := Lib.hid (show ∀ W1 : World, W.heap.size ≤ W1.heap.size → ∀ g, G g → g < W1.heap.size from fun W1 hs g f => Nat.lt_of_lt_of_le (hF g f) hs)
  unfold comN
  simp only
  clear h hF
  generalize (textR r).1 = x at *
  generalize (textR r).2 = r1 at *
  go_enter Tryz.func58, Tryz.ntmps58
  go_wp2_with fail
  refine N1.out.mono ?_
  rintro e W1 ⟨rfl, H1⟩
  have HB := Lib.hid (show RwRep w rv sv rb b S R G n r1 m W1.heap.size (.slice none 0 0) [] (W1.alloc (.cells #[.slice none 0 0] 82)) from
    ⟨H1.out.1.same ((Chg.refl _ W1).alloc _), Go.heap_alloc_new _ _, sl_nil _ _ _, H1.out.1.chg.size, fun f => by have := HG.out W1 H1.out.2.size _ f; omega, fun g e => by simp [Value.ownBlock] at e, fun g f => by have := HG.out W1 H1.out.2.size _ f; simp; omega⟩)
  obtain ⟨W2, HW2⟩ : ∃ U, Hid (W1.alloc (.cells #[.slice none 0 0] 82) = U) := ⟨_, Lib.hid rfl⟩
  obtain ⟨lb, HTB⟩ : ∃ k, Hid (W1.heap.size = k) := ⟨_, Lib.hid rfl⟩
  rw [HW2.out, HTB.out] at HB
  clear v0 N1 H1 HG
  have v0 : W2.cell? ⟨rv, 0, none⟩ = some (.pointer (some ⟨rb, 0, none⟩)) := HB.out.see.2.1
  have MM := Lib.hid (many59 ⟨_, HB.out⟩)
  obtain ⟨r2, HR2⟩ : ∃ v, Hid ((rowR r1).1 = v) := ⟨_, Lib.hid rfl⟩
  obtain ⟨l, HL⟩ : ∃ v, Hid ((rowR r1).2 = v) := ⟨_, Lib.hid rfl⟩
  rw [HR2.out, HL.out] at MM
  go_upto_region 2 with fail
  rw [HW2.out, HTB.out]
  go_wp2_with fail
  refine MM.out.mono ?_
  rintro e W3 ⟨rfl, H3⟩
  obtain ⟨lv, hD⟩ := H3
  have HD := Lib.hid hD
  obtain ⟨lo, lc, rfl⟩ := hD.see.2.2
  clear hD HB MM v0
  have KY := Lib.hid (fun (u : World) (hb : u.heap[b]? = W3.heap[b]?) (hs : u.heap[sv]? = W3.heap[sv]?) (ht : u.heap[lb]? = W3.heap[lb]?) => show u.cell? ⟨sv, 0, none⟩ = some (.pointer (some ⟨b, 0, none⟩)) ∧ u.cell? ⟨b, 7, none⟩ = some (.map (some R.c)) ∧ u.cell? ⟨lb, 0, none⟩ = some (.slice lo l.length lc) from
    ⟨cell_of (hs.trans HD.out.rs.svar) rfl, cell_of (hb.trans HD.out.rs.st.box) rfl, cell_of (ht.trans HD.out.box) rfl⟩)
  obtain ⟨x1, x2, x3⟩ := KY.out W3 rfl rfl rfl
  have hD2 := HD.out.same (Chg.refl _ W3).drew
  obtain ⟨es, ck, hup, HE⟩ := hD2.rs.setC (x := x) (l := l) HX.out hD2.row (fun g hg => ⟨(hD2.own g hg).1, (hD2.own g hg).2, (hD2.own_ne hg).1, (hD2.own_ne hg).2.1, (hD2.own_ne hg).2.2.1⟩)
  have HK2 := Lib.hid (KY.out (ChangeMaps.setBlock W3.drew R.c (.map es ck)) (heap_setBlock_ne HD.out.rs.st.b_ne.2.2.2) (heap_setBlock_ne (fun e => (HD.out.rs.fn _ HD.out.rs.st.fc).2.2.2 e.symm)) (heap_setBlock_ne (fun e => HD.out.nf (by rw [e]; exact HD.out.rs.st.fc))))
  have HE2 := Lib.hid (show RsAt w rv sv rb b S (rowR r1).1 { m with c := lay lessB x (rowR r1).2 m.c } (ChangeMaps.setBlock W3.drew R.c (.map es ck)) from by rw [HR2.out, HL.out]; exact HE.out)
  clear hD2 HE
  go_wp2_with fail
  go_region_held3 (fun u => u.cell? ⟨sv, 0, none⟩ = some (.pointer (some ⟨b, 0, none⟩)) ∧ u.cell? ⟨b, 7, none⟩ = some (.map (some R.c)) ∧ u.cell? ⟨lb, 0, none⟩ = some (.slice lo l.length lc)) (first | exact KY.out W3.drew rfl rfl rfl | exact HK2.out) (fail)
  go_wp2
  go_end0
  exact ⟨rfl, HE2.out⟩
end
end Go.Proofs.YtgmmglmokkcgeaaGreat
