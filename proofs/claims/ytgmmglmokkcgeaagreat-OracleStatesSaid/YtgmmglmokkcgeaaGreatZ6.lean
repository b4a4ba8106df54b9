/- Walks: ReadState. -/
import Derived.Test.YtgmmglmokkcgeaaGreatZ2
import Derived.Test.YtgmmglmokkcgeaaGreatZ4
namespace Go.Proofs.YtgmmglmokkcgeaaGreat
set_option linter.unusedVariables false
set_option linter.unusedSimpArgs false
set_option linter.unusedSectionVars false
open Go.RowKit Mk Go.Sort

section
variable {w W : World} {rv sv rb b S : Nat} {r : RdS} {m : RM}
theorem RsAt.rd (h : RsAt w rv sv rb b S r m W) : RdAt 112 W rb r := by obtain ⟨R, F, n, h⟩ := h; exact h.rd
theorem many53 (h : RsAt w rv sv rb b S r m W) (h0 : m.d = []) :
    Calls Tryz.prog 52 #[.pointer (some ⟨rb, 0, none⟩), .func (.func 53) #[] #[.pointer (some ⟨rv, 0, none⟩), .pointer (some ⟨sv, 0, none⟩)]] W fun e W' => e = .returned (.tuple #[]) ∧ RsAt w rv sv rb b S (decR r).1 { m with d := (decR r).2 } W' := by
  obtain ⟨R, F, n, h⟩ := h
  exact many_any (St := fun (s : RdS × List (Nat × Nat)) W' => RsAt w rv sv rb b S s.1 { m with d := s.2 } W') (rd := fun s => s.1) (next := decN)
    (caps := #[.pointer (some ⟨rv, 0, none⟩), .pointer (some ⟨sv, 0, none⟩)]) (N := (numR r).1) (s0 := ((numR r).2, [])) (W := W) (rb := rb) (entersU Tryz.func53 (by kernel_rfl) rfl)
    ((h.num (Chg.refl _ W)).mono fun e W' hh => ⟨hh.1, R, F, n, by have := hh.2.out.1; rw [← h0]; exact this⟩)
    (fun s W' hs => hs.rd) (fun s W' hs hb => clo53 hs) (numR_le r).2
theorem many54 (h : RsAt w rv sv rb b S r m W) (h0 : m.k = []) :
    Calls Tryz.prog 52 #[.pointer (some ⟨rb, 0, none⟩), .func (.func 54) #[] #[.pointer (some ⟨rv, 0, none⟩), .pointer (some ⟨sv, 0, none⟩)]] W fun e W' => e = .returned (.tuple #[]) ∧ RsAt w rv sv rb b S (lasR r).1 { m with k := (lasR r).2 } W' := by
  obtain ⟨R, F, n, h⟩ := h
  exact many_any (St := fun (s : RdS × List (ByteArray × Nat)) W' => RsAt w rv sv rb b S s.1 { m with k := s.2 } W') (rd := fun s => s.1) (next := lasN)
    (caps := #[.pointer (some ⟨rv, 0, none⟩), .pointer (some ⟨sv, 0, none⟩)]) (N := (numR r).1) (s0 := ((numR r).2, [])) (W := W) (rb := rb) (entersU Tryz.func54 (by kernel_rfl) rfl)
    ((h.num (Chg.refl _ W)).mono fun e W' hh => ⟨hh.1, R, F, n, by have := hh.2.out.1; rw [← h0]; exact this⟩)
    (fun s W' hs => hs.rd) (fun s W' hs hb => clo54 hs) (numR_le r).2
theorem many56 (h : RsAt w rv sv rb b S r m W) (h0 : m.t = []) :
    Calls Tryz.prog 52 #[.pointer (some ⟨rb, 0, none⟩), .func (.func 56) #[] #[.pointer (some ⟨rv, 0, none⟩), .pointer (some ⟨sv, 0, none⟩)]] W fun e W' => e = .returned (.tuple #[]) ∧ RsAt w rv sv rb b S (tabsR r).1 { m with t := (tabsR r).2 } W' := by
  obtain ⟨R, F, n, h⟩ := h
  exact many_any (St := fun (s : RdS × List (ByteArray × Tb)) W' => RsAt w rv sv rb b S s.1 { m with t := s.2 } W') (rd := fun s => s.1) (next := tabN)
    (caps := #[.pointer (some ⟨rv, 0, none⟩), .pointer (some ⟨sv, 0, none⟩)]) (N := (numR r).1) (s0 := ((numR r).2, [])) (W := W) (rb := rb) (entersU Tryz.func56 (by kernel_rfl) rfl)
    ((h.num (Chg.refl _ W)).mono fun e W' hh => ⟨hh.1, R, F, n, by have := hh.2.out.1; rw [← h0]; exact this⟩)
    (fun s W' hs => hs.rd) (fun s W' hs hb => clo56 hs) (numR_le r).2
theorem many58 (h : RsAt w rv sv rb b S r m W) (h0 : m.c = []) :
    Calls Tryz.prog 52 #[.pointer (some ⟨rb, 0, none⟩), .func (.func 58) #[] #[.pointer (some ⟨rv, 0, none⟩), .pointer (some ⟨sv, 0, none⟩)]] W fun e W' => e = .returned (.tuple #[]) ∧ RsAt w rv sv rb b S (comR r).1 { m with c := (comR r).2 } W' := by
  obtain ⟨R, F, n, h⟩ := h
  exact many_any (St := fun (s : RdS × List (ByteArray × List Nat)) W' => RsAt w rv sv rb b S s.1 { m with c := s.2 } W') (rd := fun s => s.1) (next := comN)
    (caps := #[.pointer (some ⟨rv, 0, none⟩), .pointer (some ⟨sv, 0, none⟩)]) (N := (numR r).1) (s0 := ((numR r).2, [])) (W := W) (rb := rb) (entersU Tryz.func58 (by kernel_rfl) rfl)
    ((h.num (Chg.refl _ W)).mono fun e W' hh => ⟨hh.1, R, F, n, by have := hh.2.out.1; rw [← h0]; exact this⟩)
    (fun s W' hs => hs.rd) (fun s W' hs hb => clo58 hs) (numR_le r).2
/-- A state in memory, in list form; of these blocks. -/
def StAtR (W : World) (b : Nat) (F : Nat → Prop) (m : RM) : Prop := ∃ R n, RawRep W b R F n ∧ LikeR R n m
/-- What ReadState answers: the state of the bytes, or that they are none's. -/
def ReadSays (s : ByteArray) (w : World) (e : Ending) (w' : World) : Prop :=
  Chg (fun _ => False) w w' ∧ ((e = .returned (.tuple #[.pointer none, .int .i64 200]) ∧ ¬ ((parseR s).1.bad = false ∧ str (bytesR (parseR s).2) = s ∧ Made (parseR s).2)) ∨
    (∃ b F, e = .returned (.tuple #[.pointer (some ⟨b, 0, none⟩), .int .i64 0]) ∧ StAtR w' b F (parseR s).2 ∧ (∀ g, F g → w.heap.size ≤ g ∧ g < w'.heap.size) ∧ (parseR s).1.bad = false ∧ str (bytesR (parseR s).2) = s))
theorem rows_none {R : Loc} {F : Nat → Prop} (h : OrRep W b R F .new) : R.rows = [] := by
  cases hr : R.rows with
  | nil => rfl
  | cons p l => exact absurd rfl (h.full p (by rw [hr]; simp))
/-- The reader and the state, made. -/
theorem read_start {s : ByteArray} (hs : s.size ≤ S) (hS : S ≤ 1099511627776) {W1 W2 : World} (hW1 : W1 = (w.alloc (.cells #[.string s, .bool false] 112)).alloc (.cells #[.pointer (some ⟨w.heap.size, 0, none⟩)] 110)) (h : OrIs W2 b (fun g => W1.heap.size ≤ g) .new) (c : Chg (fun _ => False) W1 W2) :
    RsAt w (w.heap.size + 1) W2.heap.size w.heap.size b S ⟨s, false⟩ .new (W2.alloc (.cells #[.pointer (some ⟨b, 0, none⟩)] 30)) := by
  obtain ⟨R, h⟩ := h.tight
  have hr := rows_none h
  have e1 : W1.heap.size = w.heap.size + 2 := by rw [hW1]; simp
  have b1 : W1.heap[w.heap.size]? = some (.cells #[.string s, .bool false] 112) := by rw [hW1]; exact (Below.heap_alloc _ _ _ (by simp)).trans (Go.heap_alloc_new w _)
  have b2 : W1.heap[w.heap.size + 1]? = some (.cells #[.pointer (some ⟨w.heap.size, 0, none⟩)] 110) := by
    rw [hW1]
    have := Go.heap_alloc_new (w.alloc (.cells #[.string s, .bool false] 112)) (.cells #[.pointer (some ⟨w.heap.size, 0, none⟩)] 110)
    rwa [World.size_alloc] at this
  have c2 : Chg (fun _ => False) W1 (W2.alloc (.cells #[.pointer (some ⟨b, 0, none⟩)] 30)) := c.alloc _
  have hsz := c.size
  refine ⟨R, _, _, ⟨(c2.block _ (by omega) (fun f => f)).trans b1, (c2.block _ (by omega) (fun f => f)).trans b2, Go.heap_alloc_new _ _, h.raw.same ((Chg.refl _ W2).alloc _), ⟨rfl, rfl, rfl, fun _ => rfl, List.Pairwise.nil, fun _ => rfl, List.Pairwise.nil, fun _ => rfl, List.Pairwise.nil, fun x => by rw [hr]; rfl, List.Pairwise.nil⟩, fun g f => ?_, ?_, Nat.le_refl _, hs, hS⟩⟩
  · obtain ⟨f1, f2⟩ := f
    exact ⟨by omega, by omega, by omega, by omega⟩
  · exact Chg.trans (by rw [hW1]; exact ((Chg.refl _ w).alloc _).alloc _) c2
end
end Go.Proofs.YtgmmglmokkcgeaaGreat
/- Walks: ReadState: its numbers, its maps, whether they are a state's. -/
namespace Go.Proofs.YtgmmglmokkcgeaaGreat
set_option linter.unusedVariables false
set_option linter.unusedSimpArgs false
set_option linter.unusedSectionVars false
open Go.RowKit Mk Go.Sort

section
variable {w W W' : World} {rv sv rb b S : Nat} {R : Loc} {F : Nat → Prop} {n : OM} {r : RdS} {m : RM}
theorem RsRep.vs (h : RsRep w rv sv rb b S R F n r m W) : W.cell? ⟨rv, 0, none⟩ = some (.pointer (some ⟨rb, 0, none⟩)) ∧ W.cell? ⟨sv, 0, none⟩ = some (.pointer (some ⟨b, 0, none⟩)) := ⟨cell_of h.rvar rfl, cell_of h.svar rfl⟩
theorem RsRep.cb (h : RsRep w rv sv rb b S R F n r m W) (i : Nat) (v : Value) : Chg F W (W.setCell ⟨b, i, none⟩ v) := (Chg.refl F W).setCell (a := ⟨b, i, none⟩) (Or.inl h.st.fb) _
theorem RsRep.set1 (h : RsRep w rv sv rb b S R F n r m W) (x : Nat) : RsRep w rv sv rb b S R F { n with time := x } r { m with time := x } (W.setCell ⟨b, 1, none⟩ (.int .u64 (x : Nat))) :=
  h.put (h.st.setBox (n' := { n with time := x }) rfl rfl rfl rfl rfl) ⟨rfl, h.like.uid, h.like.mark, h.like.d, h.like.ds, h.like.k, h.like.ks, h.like.t, h.like.ts, h.like.c, h.like.cs⟩ (h.cb _ _) (fun g f => Or.inl f)
theorem RsRep.set2 (h : RsRep w rv sv rb b S R F n r m W) (x : Nat) : RsRep w rv sv rb b S R F { n with uid := x } r { m with uid := x } (W.setCell ⟨b, 2, none⟩ (.int .u64 (x : Nat))) :=
  h.put (h.st.setBox (n' := { n with uid := x }) rfl rfl rfl rfl rfl) ⟨h.like.time, rfl, h.like.mark, h.like.d, h.like.ds, h.like.k, h.like.ks, h.like.t, h.like.ts, h.like.c, h.like.cs⟩ (h.cb _ _) (fun g f => Or.inl f)
theorem RsRep.set3 (h : RsRep w rv sv rb b S R F n r m W) (x : Nat) : RsRep w rv sv rb b S R F { n with mark := x } r { m with mark := x } (W.setCell ⟨b, 3, none⟩ (.int .u64 (x : Nat))) :=
  h.put (h.st.setBox (n' := { n with mark := x }) rfl rfl rfl rfl rfl) ⟨h.like.time, h.like.uid, rfl, h.like.d, h.like.ds, h.like.k, h.like.ks, h.like.t, h.like.ts, h.like.c, h.like.cs⟩ (h.cb _ _) (fun g f => Or.inl f)
theorem RsRep.bits (h : RsRep w rv sv rb b S R F n r m W) : W.cell? ⟨b, 1, none⟩ = some (.int .u64 (n.time : Nat)) ∧ W.cell? ⟨b, 2, none⟩ = some (.int .u64 (n.uid : Nat)) ∧ W.cell? ⟨b, 3, none⟩ = some (.int .u64 (n.mark : Nat)) ∧ W.frozen? ⟨b, 1, none⟩ = false ∧ W.frozen? ⟨b, 2, none⟩ = false ∧ W.frozen? ⟨b, 3, none⟩ = false :=
  ⟨h.st.c1, h.st.c2, h.st.c3, frozen_of h.st.box, frozen_of h.st.box, frozen_of h.st.box⟩
theorem RsRep.num' (h : RsRep w rv sv rb b S R F n r m W) {u : World} (cu : Chg (fun _ => False) W u) : Calls Tryz.prog 51 #[.pointer (some ⟨rb, 0, none⟩)] u fun e W' => e = .returned (.int .u64 ((numR r).1 : Nat)) ∧ Hid (RsRep w rv sv rb b S R F n (numR r).2 m W') :=
  (h.num cu).mono fun e W' hh => ⟨hh.1, Lib.hid hh.2.out.1⟩
theorem RsAt.tight (h : RsAt w rv sv rb b S r m W) : ∃ R F n, RsRep w rv sv rb b S R F n r m W ∧ ∀ g, F g → g < W.heap.size := by
  obtain ⟨R, F, n, h⟩ := h
  exact ⟨R, fun g => F g ∧ g < W.heap.size, n, ⟨h.rd, h.rvar, h.svar, h.st.tight, h.like, fun g f => h.fn g f.1, h.chg, h.rn, h.sz, h.S⟩, fun g f => f.2⟩
set_option maxRecDepth 100000 in
set_option maxHeartbeats 8000000 in
theorem readState_any (s : ByteArray) (w : World) (hs : s.size ≤ 17179869183) : Calls Tryz.prog 21 #[.string s] w fun e w' => ReadSays s w e w' := by
  obtain ⟨W1, HW1⟩ : ∃ W, Hid ((w.alloc (.cells #[.string s, .bool false] 112)).alloc (.cells #[.pointer (some ⟨w.heap.size, 0, none⟩)] 110) = W) := ⟨_, Lib.hid rfl⟩
  have NW := Lib.hid (new_any W1)
  obtain ⟨rb, HRB⟩ : ∃ k, Hid (w.heap.size = k) := ⟨_, Lib.hid rfl⟩
  obtain ⟨rv, HRV⟩ : ∃ k, Hid (w.heap.size + 1 = k) := ⟨_, Lib.hid rfl⟩
  have HS := Lib.hid hs
  obtain ⟨Q, HQ⟩ : ∃ Q, Hid ((fun e w' => ReadSays s w e w') = Q) := ⟨_, Lib.hid rfl⟩
  rw [HQ.out]
  clear hs
  go_enter Tryz.func21, Tryz.ntmps21
  go_upto_region 2 with fail
  rw [HW1.out, HRB.out]
  rw [HRB.out] at HRV
  try rw [HRV.out]
  go_wp2_with fail
  refine NW.out.mono ?_
  rintro e W2 ⟨b, rfl, hor, hc⟩
  have H0 := Lib.hid (read_start (s := s) (S := 17179869183) (w := w) (b := b) HS.out (by omega) (W2 := W2) HW1.out.symm hor hc)
  obtain ⟨W3, HW3⟩ : ∃ W, Hid (W2.alloc (.cells #[.pointer (some ⟨b, 0, none⟩)] 30) = W) := ⟨_, Lib.hid rfl⟩
  obtain ⟨sv, HSV⟩ : ∃ k, Hid (W2.heap.size = k) := ⟨_, Lib.hid rfl⟩
  rw [HW3.out, HSV.out, HRB.out, HRV.out] at H0
  clear hor hc NW
  obtain ⟨R, F, n, h3⟩ := H0.out
  have H3 := Lib.hid h3
  obtain ⟨v0, v1⟩ := h3.vs
  clear h3 H0
  obtain ⟨y1, HY1⟩ : ∃ v, Hid ((numR ⟨s, false⟩).1 = v) := ⟨_, Lib.hid rfl⟩
  obtain ⟨r1, HR1⟩ : ∃ v, Hid ((numR ⟨s, false⟩).2 = v) := ⟨_, Lib.hid rfl⟩
  obtain ⟨y2, HY2⟩ : ∃ v, Hid ((numR r1).1 = v) := ⟨_, Lib.hid rfl⟩
  obtain ⟨r2, HR2⟩ : ∃ v, Hid ((numR r1).2 = v) := ⟨_, Lib.hid rfl⟩
  obtain ⟨y3, HY3⟩ : ∃ v, Hid ((numR r2).1 = v) := ⟨_, Lib.hid rfl⟩
  obtain ⟨r3, HR3⟩ : ∃ v, Hid ((numR r2).2 = v) := ⟨_, Lib.hid rfl⟩
  have C1 := Lib.hid (fun (u : World) (cu : Chg (fun _ => False) W3 u) => H3.out.num' cu)
  rw [HY1.out, HR1.out] at C1
  have C2 := Lib.hid (fun (V u : World) (hv : RsRep w rv sv rb b 17179869183 R F n r1 .new V) (cu : Chg (fun _ => False) V u) => hv.num' cu)
  rw [HY2.out, HR2.out] at C2
  have C3 := Lib.hid (fun (V u : World) (hv : RsRep w rv sv rb b 17179869183 R F n r2 .new V) (cu : Chg (fun _ => False) V u) => hv.num' cu)
  rw [HY3.out, HR3.out] at C3
  go_upto_region 3 with fail
  rw [HW3.out, HSV.out]
  go_region_held3 (fun u => u.cell? ⟨rv, 0, none⟩ = some (.pointer (some ⟨rb, 0, none⟩)) ∧ u.cell? ⟨sv, 0, none⟩ = some (.pointer (some ⟨b, 0, none⟩))) (first | with_reducible assumption | with_reducible exact (H3.out.same (Chg.refl _ _).drew).vs | with_reducible exact HC.out.vs | with_reducible exact (HC.out.set1 _).vs | with_reducible exact ((HC.out.set1 _).set2 _).vs | with_reducible exact (((HC.out.set1 _).set2 _).set3 _).vs) ((first
    | (go_at_call 51; (with_reducible refine (C3.out _ _ HC2.out (Chg.refl _ _)).mono ?_); rintro e W6 ⟨rfl, HC3⟩; have HC := HC3; obtain ⟨z1, z2, z3, q1, q2, q3⟩ := HC3.out.bits)
    | (go_at_call 51; (with_reducible refine (C2.out _ _ HC1.out (Chg.refl _ _)).mono ?_); rintro e W5 ⟨rfl, HC2⟩; have HC := HC2; obtain ⟨z1, z2, z3, q1, q2, q3⟩ := HC2.out.bits)
    | (go_at_call 51; (with_reducible refine (C1.out _ (Chg.refl _ _).drew).mono ?_); rintro e W4 ⟨rfl, HC1⟩; have HC := HC1; obtain ⟨z1, z2, z3, q1, q2, q3⟩ := HC1.out.bits)))
  have HD := Lib.hid (show RsAt w rv sv rb b 17179869183 r3 { RM.new with time := y1, uid := y2, mark := y3 } (((W6.setCell ⟨b, 1, none⟩ (.int .u64 (y1 : Nat))).setCell ⟨b, 2, none⟩ (.int .u64 (y2 : Nat))).setCell ⟨b, 3, none⟩ (.int .u64 (y3 : Nat))) from
    ⟨_, _, _, ((HC.out.set1 _).set2 _).set3 _⟩)
  clear HC HC1 HC2 HC3 C1 C2 C3 z1 z2 z3 q1 q2 q3 v0 v1 H3
  generalize (((W6.setCell ⟨b, 1, none⟩ (.int .u64 (y1 : Nat))).setCell ⟨b, 2, none⟩ (.int .u64 (y2 : Nat))).setCell ⟨b, 3, none⟩ (.int .u64 (y3 : Nat))) = W7 at *
  have MD := Lib.hid (many53 HD.out rfl)
  obtain ⟨d4, HD4⟩ : ∃ v, Hid ((decR r3).2 = v) := ⟨_, Lib.hid rfl⟩
  obtain ⟨r4, HR4⟩ : ∃ v, Hid ((decR r3).1 = v) := ⟨_, Lib.hid rfl⟩
  rw [HD4.out, HR4.out] at MD
  have v0 : W7.cell? ⟨rv, 0, none⟩ = some (.pointer (some ⟨rb, 0, none⟩)) := by obtain ⟨_, _, _, h⟩ := HD.out; exact h.vs.1
  go_wp2_with fail
  refine MD.out.mono ?_
  rintro e W8 ⟨rfl, h8⟩
  have H8 := Lib.hid h8
  have MK := Lib.hid (many54 H8.out rfl)
  obtain ⟨d5, HD5⟩ : ∃ v, Hid ((lasR r4).2 = v) := ⟨_, Lib.hid rfl⟩
  obtain ⟨r5, HR5⟩ : ∃ v, Hid ((lasR r4).1 = v) := ⟨_, Lib.hid rfl⟩
  rw [HD5.out, HR5.out] at MK
  clear v0 h8 MD HD
  have v0 : W8.cell? ⟨rv, 0, none⟩ = some (.pointer (some ⟨rb, 0, none⟩)) := by obtain ⟨_, _, _, h⟩ := H8.out; exact h.vs.1
  go_wp2_with fail
  refine MK.out.mono ?_
  rintro e W9 ⟨rfl, h9⟩
  have H9 := Lib.hid h9
  have MT := Lib.hid (many56 H9.out rfl)
  obtain ⟨d6, HD6⟩ : ∃ v, Hid ((tabsR r5).2 = v) := ⟨_, Lib.hid rfl⟩
  obtain ⟨r6, HR6⟩ : ∃ v, Hid ((tabsR r5).1 = v) := ⟨_, Lib.hid rfl⟩
  rw [HD6.out, HR6.out] at MT
  clear v0 h9 MK H8
  have v0 : W9.cell? ⟨rv, 0, none⟩ = some (.pointer (some ⟨rb, 0, none⟩)) := by obtain ⟨_, _, _, h⟩ := H9.out; exact h.vs.1
  go_wp2_with fail
  refine MT.out.mono ?_
  rintro e W10 ⟨rfl, h10⟩
  have H10 := Lib.hid h10
  have MC := Lib.hid (many58 H10.out rfl)
  obtain ⟨d7, HD7⟩ : ∃ v, Hid ((comR r6).2 = v) := ⟨_, Lib.hid rfl⟩
  obtain ⟨r7, HR7⟩ : ∃ v, Hid ((comR r6).1 = v) := ⟨_, Lib.hid rfl⟩
  rw [HD7.out, HR7.out] at MC
  clear v0 h10 MT H9
  have v0 : W10.cell? ⟨rv, 0, none⟩ = some (.pointer (some ⟨rb, 0, none⟩)) := by obtain ⟨_, _, _, h⟩ := H10.out; exact h.vs.1
  go_wp2_with fail
  refine MC.out.mono ?_
  rintro e W11 ⟨rfl, h11⟩
  have HPR := Lib.hid (show parseR s = (r7, ⟨y1, y2, y3, d4, d5, d6, d7⟩) from by
    unfold parseR
    simp only [HY1.out, HR1.out, HY2.out, HR2.out, HY3.out, HR3.out, HD4.out, HR4.out, HD5.out, HR5.out, HD6.out, HR6.out, HD7.out, HR7.out])
  have H11 := Lib.hid (show RsAt w rv sv rb b 17179869183 (parseR s).1 (parseR s).2 W11 from by rw [HPR.out]; exact h11)
  clear v0 h11 MC H10 HPR HY1 HR1 HY2 HR2 HY3 HR3 HD4 HR4 HD5 HR5 HD6 HR6 HD7 HR7
  obtain ⟨R', F', n', h12, hF12⟩ := H11.out.tight
  have HB := Lib.hid h12
  have HFB := Lib.hid hF12
  obtain ⟨v0, v1⟩ := h12.vs
  have v2 : W11.cell? ⟨rb, 1, none⟩ = some (.bool (parseR s).1.bad) := cell_of h12.rd rfl
  clear h12 hF12 H11
  obtain ⟨bd, HBD⟩ : ∃ z, Hid ((parseR s).1.bad = z) := ⟨_, Lib.hid rfl⟩
  rw [HBD.out] at v2
  obtain ⟨BB, HBB⟩ : ∃ B, Hid (str (bytesR (parseR s).2) = B) := ⟨_, Lib.hid rfl⟩
  cases bd with
  | true =>
    go_wp2_with fail
    rw [← HQ.out]
    exact ⟨HB.out.chg, Or.inl ⟨rfl, fun h => by have h1 := h.1; rw [HBD.out] at h1; cases h1⟩⟩
  | false =>
    have BY := Lib.hid (bytesS_any HB.out.st HFB.out HB.out.like (parse_wid (S := 17179869183) HS.out (by omega)) (by have := parse_len HBD.out; have := HS.out; omega) (fun p hp => parse_rows HS.out p hp))
    rw [HBB.out] at BY
    go_wp2_with fail
    refine BY.out.mono ?_
    rintro e W12 ⟨rfl, c12⟩
    have HB2 := Lib.hid (HB.out.same c12)
    have HF2 := Lib.hid (fun g f => Nat.lt_of_lt_of_le (HFB.out g f) c12.size)
    clear v0 v1 v2 c12 BY HB HFB
    obtain ⟨v0, v1⟩ := HB2.out.vs
    obtain ⟨z, HZ⟩ : ∃ z, Hid (decide (BB = s) = z) := ⟨_, Lib.hid rfl⟩
    have hq2 : (BB.toList == s.toList) = z := by
      rw [← HZ.out]
      by_cases e : BB = s
      · subst e; simp
      · have : BB.toList ≠ s.toList := fun h => e (bytes_inj h)
        simp [e, this]
    cases z with
    | false =>
      go_wp2_with fail
      rw [← HQ.out]
      exact ⟨HB2.out.chg, Or.inl ⟨rfl, fun h => by have h1 := h.2.1; rw [HBB.out] at h1; have h2 := HZ.out; simp [h1] at h2⟩⟩
    | true =>
      have MA := Lib.hid (made_any HB2.out.st HF2.out HB2.out.like (parse_wid (S := 17179869183) HS.out (by omega)) (fun p hp => by have := parse_rows HS.out p hp; omega))
      go_wp2_with fail
      refine MA.out.mono ?_
      rintro e W13 ⟨⟨y, rfl, hy⟩, c13⟩
      have HY := Lib.hid hy
      have HB3 := Lib.hid (HB2.out.same c13)
      have HF3 := Lib.hid (fun g f => Nat.lt_of_lt_of_le (HF2.out g f) c13.size)
      clear v0 v1 hy c13 MA HB2 HF2 hq2
      obtain ⟨v0, v1⟩ := HB3.out.vs
      cases y with
      | false =>
        go_wp2_with fail
        rw [← HQ.out]
        exact ⟨HB3.out.chg, Or.inl ⟨rfl, fun h => by have h1 := HY.out h.2.2; cases h1⟩⟩
      | true =>
        go_wp2_with fail
        rw [← HQ.out]
        exact ⟨HB3.out.chg, Or.inr ⟨b, _, rfl, ⟨_, _, HB3.out.st, HB3.out.like⟩, fun g f => ⟨(HB3.out.fn g f).1, HF3.out g f⟩, HBD.out, by rw [HBB.out]; exact of_decide_eq_true HZ.out⟩⟩
end
end Go.Proofs.YtgmmglmokkcgeaaGreat
