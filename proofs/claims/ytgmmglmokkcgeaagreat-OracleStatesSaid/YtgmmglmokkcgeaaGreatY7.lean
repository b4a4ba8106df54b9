/- Walks: Bytes of a state. -/
import Derived.Test.YtgmmglmokkcgeaaGreatY6
import Derived.RangeFuncKeeps
import Derived.StillTailTactics
namespace Go.Proofs.YtgmmglmokkcgeaaGreat
set_option linter.unusedVariables false
set_option linter.unusedSimpArgs false
set_option linter.unusedSectionVars false
open Go.RowKit Mk Go.Sort Go.Shelf
attribute [local go_sem] Oper.semAt_some

/-- In the loop over the tablets. -/
structure BtAt (w : World) (b vb wb : Nat) (R : Loc) (F : Nat → Prop) (n : OM) (r : RM) (pre : List Tb) (G : Nat → Prop) (W : World) : Prop where
  bw : BwAt w b vb wb R F n (pre3 r pre.length) W
  fp : ∀ g, G g ↔ g = wb
section
variable {w w' : World} {b : Nat} {R : Loc} {F : Nat → Prop} {n : OM} {r : RM}
theorem BtAt.go {W W' : World} {vb wb N : Nat} {pre : List Tb} {G : Nat → Prop} (h : BtAt w b vb wb R F n r pre G W) (c : Chg (fun g => N ≤ g ∧ ¬ G g) W W') (h1 : w.heap.size ≤ N) (h2 : vb < N) : BtAt w b vb wb R F n r pre G W' where
  bw := ⟨h.bw.st.stay c (fun g f e => by have := h.bw.fl g f; omega), (c.block wb h.bw.wr.lt (fun f => f.2 ((h.fp _).2 rfl))).trans h.bw.wr, (c.block vb (Array.getElem?_eq_some_iff.1 h.bw.var).1 (fun f => by omega)).trans h.bw.var, h.bw.chg.trans' c (fun i hi => Or.inr (by omega)), h.bw.new, h.bw.fl⟩
  fp := h.fp
theorem RawRep.tabA (h : RawRep w b R F n) : n.tab.Pairwise (fun p q => p.1 ≠ q.1) := (List.pairwise_map (f := fun p : ByteArray × Tb => (p.1, tbV p.2))).1 h.tab.apart
theorem tablets_seq_makes (p : Option Addr) (w : World) : Calls Tryz.prog 18 #[.pointer p] w fun e w' => e = .returned (.func (.func 49) #[] #[.pointer (some ⟨w.heap.size, 0, none⟩)]) ∧ w' = w.alloc (.cells #[.pointer p] 30) := by
  go_enter Tryz.func18, Tryz.ntmps18
  go_wp2
  go_ret
  exact ⟨rfl, rfl⟩
set_option maxRecDepth 100000 in
set_option maxHeartbeats 8000000 in
theorem bytesS_any (h : RawRep w b R F n) (hF : ∀ g, F g → g < w.heap.size) (hl : LikeR R n r) (hw : Wid r) (hz : (bytesR r).length ≤ 1099511627776) (hc : ∀ p ∈ r.c, p.2.length ≤ 17179869184) :
    Calls Tryz.prog 17 #[.pointer (some ⟨b, 0, none⟩)] w fun e w' => e = .returned (.string (str (bytesR r))) ∧ Chg (fun _ => False) w w' := by
  have NN := Lib.hid (rnone_any h)
  have HB0 := Lib.hid (bw_begin h hF)
  obtain ⟨wb, HWB⟩ : ∃ k, Hid (w.heap.size = k) := ⟨_, Lib.hid rfl⟩
  obtain ⟨W1, HW1⟩ : ∃ W, Hid ((w.alloc (.cells #[.string ⟨#[]⟩] 94)).alloc (.cells #[.pointer (some ⟨wb, 0, none⟩)] 92) = W) := ⟨_, Lib.hid rfl⟩
  rw [HWB.out, HW1.out] at HB0
  obtain ⟨vb, HVB⟩ : ∃ k, Hid (wb + 1 = k) := ⟨_, Lib.hid rfl⟩
  rw [HVB.out] at HB0
  have HL := Lib.hid hl
  have HW := Lib.hid hw
  have HZ := Lib.hid hz
  have HC := Lib.hid hc
  have HF := Lib.hid hF
  obtain ⟨K1, HK1⟩ : ∃ k, Hid (r.d.length = k) := ⟨_, Lib.hid rfl⟩
  obtain ⟨K2, HK2⟩ : ∃ k, Hid (r.k.length = k) := ⟨_, Lib.hid rfl⟩
  obtain ⟨K3, HK3⟩ : ∃ k, Hid (r.t.length = k) := ⟨_, Lib.hid rfl⟩
  obtain ⟨K4, HK4⟩ : ∃ k, Hid (r.c.length = k) := ⟨_, Lib.hid rfl⟩
  have HPT := Lib.hid (show K1 ≤ 1099511627776 ∧ K2 ≤ 1099511627776 ∧ K3 ≤ 1099511627776 ∧ K4 ≤ 1099511627776 by
    have := bytes_parts r; rw [HK1.out, HK2.out, HK3.out, HK4.out] at this; omega)
  have HTX := Lib.hid (bytes_texts r)
  clear h hF hl hw hz hc
  refine callsIn_wide.1 (callsIn_of_wp_marks (F := Fence.wide) (n := 3) Tryz.func17 rfl trivial ?_)
  refine wpIn_wide.2 ?_
  simp only [Tryz.ntmps17, List.size_toArray, List.length_cons, List.length_nil, Nat.reduceAdd, Nat.reduceSub, Array.replicate_succ, Array.replicate_zero, List.push_toArray, List.append_toArray, List.nil_append, List.cons_append]
  go_wp2_with fail
  refine NN.out.mono ?_
  rintro e w1 ⟨rfl, hw1⟩
  obtain rfl : w = w1 := hw1.symm
  clear NN
  -- region 4
  have v1 : W1.cell? ⟨vb, 0, none⟩ = some (.pointer (some ⟨wb, 0, none⟩)) := cell_of HB0.out.var rfl
  have c1 := HB0.out.st.c1
  have c2 := HB0.out.st.c2
  have c3 := HB0.out.st.c3
  have c4 := HB0.out.st.c4
  have ql := fun ty => (HB0.out.same (Chg.refl _ W1).drew).st.lenD HL.out ty
  rw [HK1.out] at ql
  go_upto_region 4 with fail
  rw [HWB.out, HVB.out, HW1.out]
  have CN := Lib.hid (HB0.out.numC (L' := pre0 r) 4 [n.time, n.uid, n.mark, K1] rfl (by simp) (by
    have h2 := HW.out; have h1 := HL.out
    intro x hx; simp at hx
    rcases hx with rfl | rfl | rfl | rfl
    · rw [h1.time]; exact h2.time
    · rw [h1.uid]; exact h2.uid
    · rw [h1.mark]; exact h2.mark
    · have := HPT.out.1; omega) (by simp) (by
    have h1 := HL.out
    rw [h1.time, h1.uid, h1.mark, ← HK1.out]
    simp [pre0]))
  have HWR := Lib.hid (wrap_len K1 HPT.out.1)
  clear HW1
  have KEY := Lib.hid (fun (u : World) (c : Chg (fun g => g = wb) W1 u) => show Chg (fun g => g = wb) W1 u ∧ u.cell? ⟨vb, 0, none⟩ = some (.pointer (some ⟨wb, 0, none⟩)) ∧ u.cell? ⟨b, 1, none⟩ = some (.int .u64 (n.time : Nat)) ∧ u.cell? ⟨b, 2, none⟩ = some (.int .u64 (n.uid : Nat)) ∧ u.cell? ⟨b, 3, none⟩ = some (.int .u64 (n.mark : Nat)) ∧ u.cell? ⟨b, 4, none⟩ = some (.map (some R.d)) ∧ (Builtin.len_ #[31] 3 #[.map (some R.d)]).run Tryz.prog u = .ok (.int .i64 (K1 : Nat)) u from
    (have k := HB0.out.keep c; ⟨c, cell_of k.2 rfl, k.1.c1, k.1.c2, k.1.c3, k.1.c4, by rw [← HK1.out]; exact k.1.lenD HL.out 3⟩))
  go_region_held3 (fun u => Chg (fun g => g = wb) W1 u ∧ u.cell? ⟨vb, 0, none⟩ = some (.pointer (some ⟨wb, 0, none⟩)) ∧ u.cell? ⟨b, 1, none⟩ = some (.int .u64 (n.time : Nat)) ∧ u.cell? ⟨b, 2, none⟩ = some (.int .u64 (n.uid : Nat)) ∧ u.cell? ⟨b, 3, none⟩ = some (.int .u64 (n.mark : Nat)) ∧ u.cell? ⟨b, 4, none⟩ = some (.map (some R.d)) ∧ (Builtin.len_ #[31] 3 #[.map (some R.d)]).run Tryz.prog u = .ok (.int .i64 (K1 : Nat)) u) (first | exact KEY.out _ (Chg.refl _ _).drew | exact KEY.out _ HB.out.2 | (refine KEY.out _ (Chg.alloc ?_ _); assumption) | (refine KEY.out _ (Chg.alloc ?_ _); exact (Chg.refl _ _).drew) | (refine KEY.out _ (Chg.drew (Chg.alloc ?_ _)); exact (Chg.refl _ _))) ((go_at_call 42; (with_reducible refine (CN.out _ _ _ ((Chg.refl _ _).alloc _).drew (Go.heap_alloc_new _ _) (by simp [HWR.out])).mono ?_); rintro e W2 ⟨rfl, HB⟩))
  have HB1 := Lib.hid HB.out.1
  clear v1 c1 c2 c3 c4 ql CN HWR HB KEY HB0
  -- PRINTED by genY7.py from here
  have c4 := HB1.out.st.c4
  have SD := Lib.hid (HB1.out.sortD HL.out (by rw [HK1.out]; exact HPT.out.1))
  rw [HK1.out] at SD
  go_wp2_with (first | (go_at_call 44; refine (keys44_any _ _).mono ?_; rintro e w3 ⟨rfl, hw3⟩; subst hw3) | (go_at_call 43; refine SD.out.mono ?_; rintro e W3 ⟨o, c, rfl, HB2⟩))
  have HB3 := Lib.hid (show BwAt w b vb wb R F n (pre1 r 0) W3 ∧ NumsAt W3 (.slice o K1 c) (r.d.map (·.1)) from by rw [pre1_0]; exact HB2.out)
  clear HB2 HB1 c4 SD
  go_loopw [43] (fun i wr => ∃ k : Nat, k ≤ K1 ∧ i = .int .i64 k ∧ Hid (BwAt w b vb wb R F n (pre1 r k) wr ∧ NumsAt wr (.slice o K1 c) (r.d.map (·.1)))) (fun i _ => K1 - (intOf i).toNat)
  case atStart => exact ⟨0, by omega, rfl, HB3⟩
  case round =>
    obtain ⟨k, hk, rfl, HI⟩ := hrel
    clear HB3
    by_cases hlt : k < K1
    · have hd : decide ((k : Int) < K1) = true := by simp; omega
      have hd' : decide (k < K1) = true := by simpa using hlt
      obtain ⟨⟨x, v⟩, hp⟩ : ∃ p, r.d[k]? = some p := ⟨_, List.getElem?_eq_getElem (by rw [HK1.out]; exact hlt)⟩
      have hx := HW.out.d _ (List.mem_of_getElem? hp)
      obtain ⟨g, hog, a0⟩ := HI.out.2.at_ (i := k) (x := x) (by rw [List.getElem?_map, hp]; rfl)
      subst hog
      have HI1 := Lib.hid HI.out.1
      have HI2 := Lib.hid HI.out.2
      have v1 : wr.cell? ⟨vb, 0, none⟩ = some (.pointer (some ⟨wb, 0, none⟩)) := cell_of HI1.out.var rfl
      have c4 := HI1.out.st.c4
      have l0 : (0 : Int) ≤ k := by omega
      have l1 : (k : Int) < K1 := by omega
      have lk := HPT.out.1
      have CN := Lib.hid (HI1.out.numC (L' := pre1 r (k + 1)) 2 [x, v] rfl (by simp) (by intro y hy; simp at hy; rcases hy with rfl | rfl; exact hx.1; exact hx.2) (by have := pre1_le r k; have := HZ.out; omega) (by rw [pre1_succ hp]; simp))
      have HX := Lib.hid hx.1
      have HP := Lib.hid hp
      clear HI hp hx
      go_wp2_with fail
      have KEY := Lib.hid (fun (u : World) (c : Chg (fun g => g = wb) wr u) => show Chg (fun g => g = wb) wr u ∧ u.cell? ⟨vb, 0, none⟩ = some (.pointer (some ⟨wb, 0, none⟩)) ∧ u.cell? ⟨b, 4, none⟩ = some (.map (some R.d)) ∧ (Instr.lookup 31 (.map (some R.d)) (.int .u64 (x : Nat)) false).run Tryz.prog u = .ok (.int .u64 (v : Nat)) u from
        (have k := HI1.out.keep c; ⟨c, cell_of k.2 rfl, k.1.c4, k.1.valD HL.out HX.out HP.out⟩))
      go_region_held3 (fun u => Chg (fun g => g = wb) wr u ∧ u.cell? ⟨vb, 0, none⟩ = some (.pointer (some ⟨wb, 0, none⟩)) ∧ u.cell? ⟨b, 4, none⟩ = some (.map (some R.d)) ∧ (Instr.lookup 31 (.map (some R.d)) (.int .u64 (x : Nat)) false).run Tryz.prog u = .ok (.int .u64 (v : Nat)) u) (first | exact KEY.out _ (Chg.refl _ _).drew | exact KEY.out _ HB.out.2 | (refine KEY.out _ (Chg.alloc ?_ _); assumption) | (refine KEY.out _ (Chg.alloc ?_ _); exact (Chg.refl _ _).drew) | (refine KEY.out _ (Chg.drew (Chg.alloc ?_ _)); exact (Chg.refl _ _))) ((go_at_call 42; (with_reducible refine (CN.out _ _ _ ((Chg.refl _ _).alloc _).drew (Go.heap_alloc_new _ _) (by simp)).mono ?_); rintro e W4 ⟨rfl, HB⟩))
      have HG := Lib.hid (show BwAt w b vb wb R F n (pre1 r (k + 1)) W4 ∧ NumsAt W4 (.slice (some ⟨g, 0, none⟩) K1 c) (r.d.map (·.1)) from ⟨HB.out.1, HI2.out.off HI1.out.wr HB.out.2⟩)
      clear v1 c4 a0 CN KEY HB HI1 HI2
      go_wp2_with fail
      go_roundw
      case rel => exact ⟨k + 1, by omega, by go_num, HG⟩
      case measure => simp [intOf]; omega
    · obtain rfl : K1 = k := by omega
      have hd : decide ((K1 : Int) < K1) = false := by simp
      have hd' : decide (K1 < K1) = false := by simp
      have HB1 := Lib.hid HI.out.1
      clear HI hk hlt
      generalize wr = W5 at *
      have v1 : W5.cell? ⟨vb, 0, none⟩ = some (.pointer (some ⟨wb, 0, none⟩)) := cell_of HB1.out.var rfl
      have c5 := HB1.out.st.c5
      have CN := Lib.hid (HB1.out.numC (L' := pre2 r 0) 1 [K2] rfl (by simp) (by intro y hy; simp at hy; subst hy; have := HPT.out; omega) (by have := pre1_end r; rw [HK1.out] at this; have := HZ.out; omega) (by rw [pre2_0, ← HK2.out, ← HK1.out]; simp))
      have HWR := Lib.hid (wrap_len K2 (by have := HPT.out; omega))
      go_wp2_with fail
      have KEY := Lib.hid (fun (u : World) (c : Chg (fun g => g = wb) W5 u) => show Chg (fun g => g = wb) W5 u ∧ u.cell? ⟨vb, 0, none⟩ = some (.pointer (some ⟨wb, 0, none⟩)) ∧ u.cell? ⟨b, 5, none⟩ = some (.map (some R.l)) ∧ (Builtin.len_ #[32] 3 #[.map (some R.l)]).run Tryz.prog u = .ok (.int .i64 (K2 : Nat)) u from
        (have k := HB1.out.keep c; ⟨c, cell_of k.2 rfl, k.1.c5, by rw [← HK2.out]; exact k.1.lenL HL.out 3⟩))
      go_region_held3 (fun u => Chg (fun g => g = wb) W5 u ∧ u.cell? ⟨vb, 0, none⟩ = some (.pointer (some ⟨wb, 0, none⟩)) ∧ u.cell? ⟨b, 5, none⟩ = some (.map (some R.l)) ∧ (Builtin.len_ #[32] 3 #[.map (some R.l)]).run Tryz.prog u = .ok (.int .i64 (K2 : Nat)) u) (first | exact KEY.out _ (Chg.refl _ _).drew | exact KEY.out _ HB.out.2 | (refine KEY.out _ (Chg.alloc ?_ _); assumption) | (refine KEY.out _ (Chg.alloc ?_ _); exact (Chg.refl _ _).drew) | (refine KEY.out _ (Chg.drew (Chg.alloc ?_ _)); exact (Chg.refl _ _))) ((go_at_call 42; (with_reducible refine (CN.out _ _ _ ((Chg.refl _ _).alloc _).drew (Go.heap_alloc_new _ _) (by simp [HWR.out])).mono ?_); rintro e W6 ⟨rfl, HB⟩))
      have HB2 := Lib.hid HB.out.1
      clear v1 c5 CN HWR KEY HB HB1
      have c5 := HB2.out.st.c5
      have SD := Lib.hid (HB2.out.sortL HL.out (by rw [HK2.out]; exact HPT.out.2.1))
      rw [HK2.out] at SD
      go_wp2_with (first | (go_at_call 46; refine (keys46_any _ _).mono ?_; rintro e w3 ⟨rfl, hw3⟩; subst hw3) | (go_at_call 45; refine SD.out.mono ?_; rintro e W7 ⟨o2, c2, rfl, HB3⟩))
      clear HB2 c5 SD
      go_loopw [74] (fun i wr => ∃ k : Nat, k ≤ K2 ∧ i = .int .i64 k ∧ Hid (BwAt w b vb wb R F n (pre2 r k) wr ∧ NL wr (.slice o2 K2 c2) (r.k.map (·.1)))) (fun i _ => K2 - (intOf i).toNat)
      case atStart => exact ⟨0, by omega, rfl, HB3⟩
      case round =>
        obtain ⟨k, hk, rfl, HI⟩ := hrel
        clear HB3
        by_cases hlt : k < K2
        · have hd : decide ((k : Int) < K2) = true := by simp; omega
          have hd' : decide (k < K2) = true := by simpa using hlt
          obtain ⟨⟨x, v⟩, hp⟩ : ∃ p, r.k[k]? = some p := ⟨_, List.getElem?_eq_getElem (by rw [HK2.out]; exact hlt)⟩
          have hx := HW.out.k _ (List.mem_of_getElem? hp)
          have hxs := HTX.out.1 _ (List.mem_of_getElem? hp)
          obtain ⟨g, hog, a0⟩ := HI.out.2.at_ (i := k) (x := x) (by rw [List.getElem?_map, hp]; rfl)
          subst hog
          have HI1 := Lib.hid HI.out.1
          have HI2 := Lib.hid HI.out.2
          have v1 : wr.cell? ⟨vb, 0, none⟩ = some (.pointer (some ⟨wb, 0, none⟩)) := cell_of HI1.out.var rfl
          have l0 : (0 : Int) ≤ k := by omega
          have l1 : (k : Int) < K2 := by omega
          have lk := HPT.out.2.1
          have TX := Lib.hid (HI1.out.textC (L' := pre2 r k ++ Cod.text x.data.toList) (Chg.refl _ wr) x (by have := pre2_le r k; have := HZ.out; omega) (by have := HZ.out; simp only at hxs; omega) rfl)
          have HX := Lib.hid (show x.size ≤ maxLen by have := HZ.out; simp only at hxs; unfold maxLen; omega)
          have HV := Lib.hid hx.2
          have HP := Lib.hid hp
          clear HI hp hx hxs
          go_wp2_with (go_at_call 47; refine TX.out.mono ?_; rintro e W8 ⟨rfl, HT⟩)
          have HB1 := Lib.hid HT.out.1
          have HN := Lib.hid (HI2.out.off HI1.out.wr HT.out.2)
          clear v1 a0 TX HT HI1 HI2
          have v1 : W8.cell? ⟨vb, 0, none⟩ = some (.pointer (some ⟨wb, 0, none⟩)) := cell_of HB1.out.var rfl
          have c5 := HB1.out.st.c5
          have CN := Lib.hid (HB1.out.numC (L' := pre2 r (k + 1)) 1 [v] rfl (by simp) (by intro y hy; simp at hy; subst hy; exact HV.out) (by have := pre2_mid HP.out; have := HZ.out; simp only at *; omega) (by rw [pre2_succ HP.out]; simp))
          have KEY := Lib.hid (fun (u : World) (c : Chg (fun g => g = wb) W8 u) => show Chg (fun g => g = wb) W8 u ∧ u.cell? ⟨vb, 0, none⟩ = some (.pointer (some ⟨wb, 0, none⟩)) ∧ u.cell? ⟨b, 5, none⟩ = some (.map (some R.l)) ∧ (Instr.lookup 32 (.map (some R.l)) (.string x) false).run Tryz.prog u = .ok (.int .u64 (v : Nat)) u from
            (have k := HB1.out.keep c; ⟨c, cell_of k.2 rfl, k.1.c5, k.1.valL HL.out HX.out HP.out⟩))
          go_region_held3 (fun u => Chg (fun g => g = wb) W8 u ∧ u.cell? ⟨vb, 0, none⟩ = some (.pointer (some ⟨wb, 0, none⟩)) ∧ u.cell? ⟨b, 5, none⟩ = some (.map (some R.l)) ∧ (Instr.lookup 32 (.map (some R.l)) (.string x) false).run Tryz.prog u = .ok (.int .u64 (v : Nat)) u) (first | exact KEY.out _ (Chg.refl _ _).drew | exact KEY.out _ HB.out.2 | (refine KEY.out _ (Chg.alloc ?_ _); assumption) | (refine KEY.out _ (Chg.alloc ?_ _); exact (Chg.refl _ _).drew) | (refine KEY.out _ (Chg.drew (Chg.alloc ?_ _)); exact (Chg.refl _ _))) ((go_at_call 42; (with_reducible refine (CN.out _ _ _ ((Chg.refl _ _).alloc _).drew (Go.heap_alloc_new _ _) (by simp)).mono ?_); rintro e W9 ⟨rfl, HB⟩))
          have HG := Lib.hid (show BwAt w b vb wb R F n (pre2 r (k + 1)) W9 ∧ NL W9 (.slice (some ⟨g, 0, none⟩) K2 c2) (r.k.map (·.1)) from ⟨HB.out.1, HN.out.off HB1.out.wr HB.out.2⟩)
          clear v1 c5 CN KEY HB HB1 HN
          go_wp2_with fail
          go_roundw
          case rel => exact ⟨k + 1, by omega, by go_num, HG⟩
          case measure => simp [intOf]; omega
        · obtain rfl : K2 = k := by omega
          have hd : decide ((K2 : Int) < K2) = false := by simp
          have hd' : decide (K2 < K2) = false := by simp
          have HB1 := Lib.hid HI.out.1
          clear HI hk hlt
          generalize wr = W10 at *
          have v1 : W10.cell? ⟨vb, 0, none⟩ = some (.pointer (some ⟨wb, 0, none⟩)) := cell_of HB1.out.var rfl
          have c6 := HB1.out.st.c6
          have CN := Lib.hid (HB1.out.numC (L' := pre3 r 0) 1 [K3] rfl (by simp) (by intro y hy; simp at hy; subst hy; have := HPT.out; omega) (by have := pre2_end r; rw [HK2.out] at this; have := HZ.out; omega) (by rw [pre3_0, ← HK3.out, ← HK2.out]; simp))
          have HWR := Lib.hid (wrap_len K3 (by have := HPT.out; omega))
          go_wp2_with fail
          have KEY := Lib.hid (fun (u : World) (c : Chg (fun g => g = wb) W10 u) => show Chg (fun g => g = wb) W10 u ∧ u.cell? ⟨vb, 0, none⟩ = some (.pointer (some ⟨wb, 0, none⟩)) ∧ u.cell? ⟨b, 6, none⟩ = some (.map (some R.t)) ∧ (Builtin.len_ #[33] 3 #[.map (some R.t)]).run Tryz.prog u = .ok (.int .i64 (K3 : Nat)) u from
            (have k := HB1.out.keep c; ⟨c, cell_of k.2 rfl, k.1.c6, by rw [← HK3.out]; exact k.1.lenT HL.out 3⟩))
          go_region_held3 (fun u => Chg (fun g => g = wb) W10 u ∧ u.cell? ⟨vb, 0, none⟩ = some (.pointer (some ⟨wb, 0, none⟩)) ∧ u.cell? ⟨b, 6, none⟩ = some (.map (some R.t)) ∧ (Builtin.len_ #[33] 3 #[.map (some R.t)]).run Tryz.prog u = .ok (.int .i64 (K3 : Nat)) u) (first | exact KEY.out _ (Chg.refl _ _).drew | exact KEY.out _ HB.out.2 | (refine KEY.out _ (Chg.alloc ?_ _); assumption) | (refine KEY.out _ (Chg.alloc ?_ _); exact (Chg.refl _ _).drew) | (refine KEY.out _ (Chg.drew (Chg.alloc ?_ _)); exact (Chg.refl _ _))) ((go_at_call 42; (with_reducible refine (CN.out _ _ _ ((Chg.refl _ _).alloc _).drew (Go.heap_alloc_new _ _) (by simp [HWR.out])).mono ?_); rintro e W11 ⟨rfl, HB⟩))
          have HB2 := Lib.hid HB.out.1
          clear v1 c6 CN HWR KEY HB HB1
          go_wp2_with (go_at_call 18; refine (tablets_seq_makes _ _).mono ?_; rintro e w3 ⟨rfl, hw3⟩; subst hw3)
          obtain ⟨W12, HW12⟩ : ∃ W, Hid (W11.alloc (.cells #[.pointer (some ⟨b, 0, none⟩)] 30) = W) := ⟨_, Lib.hid rfl⟩
          obtain ⟨kb, HKB⟩ : ∃ k, Hid (W11.heap.size = k) := ⟨_, Lib.hid rfl⟩
          rw [HW12.out, HKB.out]
          have HB3 := Lib.hid (show BwAt w b vb wb R F n (pre3 r 0) W12 by rw [← HW12.out]; exact HB2.out.same ((Chg.refl _ _).alloc _))
          have HKC := Lib.hid (show W12.heap[kb]? = some (.cells #[.pointer (some ⟨b, 0, none⟩)] 30) by rw [← HW12.out, ← HKB.out]; exact Go.heap_alloc_new _ _)
          have HKN := Lib.hid (show w.heap.size ≤ kb ∧ wb < kb ∧ vb < kb ∧ W12.heap.size = kb + 1 from ⟨by rw [← HKB.out]; exact HB2.out.chg.size, by rw [← HKB.out]; exact HB2.out.wr.lt, by rw [← HKB.out]; exact (Array.getElem?_eq_some_iff.1 HB2.out.var).1, by rw [← HW12.out, World.size_alloc, HKB.out]⟩)
          have SEQ := rtabs_seq HB3.out.st (by rw [(HB3.out.st.lens HL.out).2.2.1, HK3.out]; exact HPT.out.2.2.1) HKC.out
          rw [tabsM_like HB3.out.st.tabA HL.out.ts HL.out.t] at SEQ
          have SEQ := Lib.hid SEQ
          clear HB2 HW12
          refine (wpIn_wide (n := 3)).1 ?_
          refine wp_rangeF (w0 := W12) (gf := 49) (lb := #[.pointer (some ⟨kb, 0, none⟩)]) rfl (entersU Tryz.func49 (by kernel_rfl) rfl) SEQ.out (Nat.le_refl _) (fun g hg => ⟨?_, rfl⟩) (fun _ => rfl)
            (fun pre G W => BtAt w b vb wb R F n r pre G W) (fun c pre G W => False) (fun g => g = wb)
            (fun g hg => ⟨by rw [HKN.out.2.2.2]; have := HKN.out; omega, fun f => ?_⟩)
            (fun pre G W1 W2 h c => h.go c (by rw [HKN.out.2.2.2]; have := HKN.out; omega) (by rw [HKN.out.2.2.2]; have := HKN.out; omega))
            (fun c pre G W1 W2 h k => h)
            ⟨HB3.out, fun g => Iff.rfl⟩ ?_ ?_ ?_
          · have := HKN.out
            rcases hg with rfl | hg
            · omega
            · have := HB3.out.fl g hg; omega
          · have := HKN.out
            have := HWB.out
            rcases f with f | f
            · omega
            · have := HB3.out.fl g f; omega
          · intro l pre t G W hI hok hG hl hwl hlW
            have hpl : pre.length < r.t.length := by
              have := hok.length_le
              simp at this
              omega
            obtain ⟨q, hq, hqt⟩ : ∃ q, r.t[pre.length]? = some q ∧ q.2 = t := by
              obtain ⟨rest, hrest⟩ := hok
              have h5 : (r.t.map (·.2))[pre.length]? = some t := by rw [← hrest]; simp
              rw [List.getElem?_map, List.getElem?_eq_getElem hpl] at h5
              exact ⟨_, List.getElem?_eq_getElem hpl, by simpa using h5⟩
            have HQ := Lib.hid hq
            have hwt := HW.out.t _ (List.mem_of_getElem? hq)
            have hts := HTX.out.2.1 _ (List.mem_of_getElem? hq)
            rw [hqt] at hwt hts
            have HQT := Lib.hid hqt
            have HGB := Lib.hid hG
            obtain ⟨tp, tg, tt, ta, tn⟩ := t
            simp only at hwt hts
            have HWT := Lib.hid hwt
            have HTS := Lib.hid hts
            simp only [tbV]
            clear hq hqt hwt hts hpl hG
            gi_wp2
            refine ⟨(Below.refl _ W).alloc (Nat.le_refl _) _, fun W4 hc2 hsz hI2 => ?_⟩
            have hX : W4.heap[W.heap.size]? = some (.cells #[.string tp, .int .u32 (tg : Nat), .int .u32 (tt : Nat), .int .u64 (ta : Nat), .int .u64 (tn : Nat)] 41) := (hc2.block _ (by simp) (by omega)).trans (Go.heap_alloc_new _ _)
            obtain ⟨tb, HTBB⟩ : ∃ k, Hid (W.heap.size = k) := ⟨_, Lib.hid rfl⟩
            rw [HTBB.out] at hX ⊢
            have HXX := Lib.hid hX
            have HI2 := Lib.hid hI2
            have c0 : W4.cell? ⟨tb, 0, none⟩ = some (.string tp) := cell_of hX rfl
            have v1 : W4.cell? ⟨vb, 0, none⟩ = some (.pointer (some ⟨wb, 0, none⟩)) := cell_of hI2.bw.var rfl
            have TX := Lib.hid (hI2.bw.textC (L' := pre3 r pre.length ++ Cod.text tp.data.toList) (Chg.refl _ W4) tp (by have := pre3_le r pre.length; have := HZ.out; omega) (by have := HZ.out; have := HTS.out; omega) rfl)
            have w1 : IntKind.u64.wrap (tg : Int) = (tg : Int) := wrap_len tg (by have := HWT.out; omega)
            have w2 : IntKind.u64.wrap (tt : Int) = (tt : Int) := wrap_len tt (by have := HWT.out; omega)
            have hs5 : pre3 r (pre.length + 1) = (pre3 r pre.length ++ Cod.text tp.data.toList) ++ (Cod.num tg ++ (Cod.num tt ++ (Cod.num ta ++ Cod.num tn))) := by rw [pre3_succ HQ.out, HQT.out]
            have MID := Lib.hid (fun (W5 : World) (HT : Hid (BwTo w b vb wb R F n (pre3 r pre.length ++ Cod.text tp.data.toList) W4 W5)) =>
              show W5.cell? ⟨vb, 0, none⟩ = some (.pointer (some ⟨wb, 0, none⟩)) ∧ W5.cell? ⟨tb, 1, none⟩ = some (.int .u32 (tg : Nat)) ∧ W5.cell? ⟨tb, 2, none⟩ = some (.int .u32 (tt : Nat)) ∧ W5.cell? ⟨tb, 3, none⟩ = some (.int .u64 (ta : Nat)) ∧ W5.cell? ⟨tb, 4, none⟩ = some (.int .u64 (tn : Nat)) ∧ Hid (NumC w b vb wb R F n (pre3 r (pre.length + 1)) W5 4 [tg, tt, ta, tn]) from
                (have hne : tb ≠ wb := typ_ne HXX.out HI2.out.bw.wr (by decide)
                 have hX5 := (HT.out.2.block tb (Array.getElem?_eq_some_iff.1 HXX.out).1 hne).trans HXX.out
                 ⟨cell_of HT.out.1.var rfl, cell_of hX5 rfl, cell_of hX5 rfl, cell_of hX5 rfl, cell_of hX5 rfl, Lib.hid (HT.out.1.numC (L' := pre3 r (pre.length + 1)) 4 [tg, tt, ta, tn] rfl (by simp) (by have := HWT.out; intro y hy; simp at hy; rcases hy with rfl | rfl | rfl | rfl <;> omega) (by have := pre3_mid HQ.out; rw [HQT.out] at this; have := HZ.out; simp only at *; omega) (by rw [hs5]; simp))⟩))
            clear hI hok hl hwl hlW hc2 hsz hI2 hX hs5
            gi_wp2_with (first | (refine ⟨trivial, ?_⟩; gi_at_call 47; refine (CallsIn.inRound l (callsIn_wide.2 TX.out)).mono ?_; rintro e W5 ⟨rfl, HT⟩; obtain ⟨v5, d1, d2, d3, d4, CN⟩ := MID.out W5 HT; clear TX MID c0 v1) | (refine ⟨trivial, ?_⟩; gi_at_call 42; refine (CallsIn.inRound l (callsIn_wide.2 (CN.out _ _ _ ((Chg.refl _ _).alloc _) (Go.heap_alloc_new _ _) (by simp [w1, w2])))).mono ?_; rintro e W6 ⟨rfl, HB⟩))
            have HT2 := Lib.hid HT.out.2
            have HFP := Lib.hid HI2.out.fp
            have HC6 := Lib.hid (HT2.out.trans HB.out.2)
            refine ⟨G, Wider.refl _ _, fun g f => ?_, HC6.out.mono (fun g e => (HFP.out g).2 e), ⟨?_, HFP.out⟩⟩
            · have h1 := (HFP.out g).1 f
              have h2 := HB.out.1.wr.lt
              omega
            · rw [List.length_append]
              exact HB.out.1
          · rintro D xs G W hD hGD rfl hI hK
            have HB1 := Lib.hid (show BwAt w b vb wb R F n (pre3 r K3) W by have := hI.bw; rwa [List.length_map, HK3.out] at this)
            have HKD := Lib.hid hK
            have HDN := Lib.hid (show w.heap.size ≤ D by rw [HKN.out.2.2.2] at hD; have := HKN.out; omega)
            clear hI hK hD hGD SEQ HB3 HKC
            generalize W = W13 at *
            have v1 : W13.cell? ⟨vb, 0, none⟩ = some (.pointer (some ⟨wb, 0, none⟩)) := cell_of HB1.out.var rfl
            have c7 := HB1.out.st.c7
            have CN := Lib.hid (HB1.out.numC (L' := pre4 r 0) 1 [K4] rfl (by simp) (by intro y hy; simp at hy; subst hy; have := HPT.out; omega) (by have := pre3_end r; rw [HK3.out] at this; have := HZ.out; omega) (by rw [pre4_0, ← HK4.out, ← HK3.out]; simp))
            have HWR := Lib.hid (wrap_len K4 (by have := HPT.out; omega))
            go_wp2_with fail
            have KEY := Lib.hid (fun (u : World) (c : Chg (fun g => g = wb) W13 u) => show Chg (fun g => g = wb) W13 u ∧ u.cell? ⟨vb, 0, none⟩ = some (.pointer (some ⟨wb, 0, none⟩)) ∧ u.cell? ⟨b, 7, none⟩ = some (.map (some R.c)) ∧ (Builtin.len_ #[34] 3 #[.map (some R.c)]).run Tryz.prog u = .ok (.int .i64 (K4 : Nat)) u from
              (have k := HB1.out.keep c; ⟨c, cell_of k.2 rfl, k.1.c7, by rw [← HK4.out]; exact k.1.lenC HL.out 3⟩))
            go_region_held3 (fun u => Chg (fun g => g = wb) W13 u ∧ u.cell? ⟨vb, 0, none⟩ = some (.pointer (some ⟨wb, 0, none⟩)) ∧ u.cell? ⟨b, 7, none⟩ = some (.map (some R.c)) ∧ (Builtin.len_ #[34] 3 #[.map (some R.c)]).run Tryz.prog u = .ok (.int .i64 (K4 : Nat)) u) (first | exact KEY.out _ (Chg.refl _ _).drew | exact KEY.out _ HB.out.2 | (refine KEY.out _ (Chg.alloc ?_ _); assumption) | (refine KEY.out _ (Chg.alloc ?_ _); exact (Chg.refl _ _).drew) | (refine KEY.out _ (Chg.drew (Chg.alloc ?_ _)); exact (Chg.refl _ _))) ((go_at_call 42; (with_reducible refine (CN.out _ _ _ ((Chg.refl _ _).alloc _).drew (Go.heap_alloc_new _ _) (by simp [HWR.out])).mono ?_); rintro e W14 ⟨rfl, HB⟩))
            have HKE := Lib.hid ((HB.out.2.block D (Array.getElem?_eq_some_iff.1 HKD.out).1 (fun e => by have h1 := HKD.out; have h2 := HB1.out.wr; unfold WrAt at h2; rw [e, h2] at h1; cases h1)).trans HKD.out)
            have HB2 := Lib.hid HB.out.1
            clear v1 c7 CN HWR KEY HB HB1
            have c7 := HB2.out.st.c7
            have SD := Lib.hid (HB2.out.sortC HL.out (by rw [HK4.out]; exact HPT.out.2.2.2))
            rw [HK4.out] at SD
            go_wp2_with (first | (go_at_call 48; refine (keys48_any _ _).mono ?_; rintro e w3 ⟨rfl, hw3⟩; subst hw3) | (go_at_call 45; refine SD.out.mono ?_; rintro e W15 ⟨o4, c4, rfl, HB3⟩))
            have HB4 := Lib.hid (show BwAt w b vb wb R F n (pre4 r 0) W15 ∧ NL W15 (.slice o4 K4 c4) (r.c.map (·.1)) ∧ W15.heap[D]? = some (.deferred (some [])) from ⟨HB3.out.1, HB3.out.2.1, (HB3.out.2.2.block D (Array.getElem?_eq_some_iff.1 HKE.out).1 (fun f => f)).trans HKE.out⟩)
            clear HB2 c7 SD HB3 HKE HKD
            go_loopw [136] (fun i wr => ∃ k : Nat, k ≤ K4 ∧ i = .int .i64 k ∧ Hid (BwAt w b vb wb R F n (pre4 r k) wr ∧ NL wr (.slice o4 K4 c4) (r.c.map (·.1)) ∧ wr.heap[D]? = some (.deferred (some [])))) (fun i _ => K4 - (intOf i).toNat)
            case atStart => exact ⟨0, by omega, rfl, HB4⟩
            case round =>
              obtain ⟨k, hk, rfl, HI⟩ := hrel
              clear HB4
              by_cases hlt : k < K4
              · have hd : decide ((k : Int) < K4) = true := by simp; omega
                have hd' : decide (k < K4) = true := by simpa using hlt
                obtain ⟨⟨x, l⟩, hp⟩ : ∃ p, r.c[k]? = some p := ⟨_, List.getElem?_eq_getElem (by rw [HK4.out]; exact hlt)⟩
                have hx := HW.out.c _ (List.mem_of_getElem? hp)
                have hxs := HTX.out.2.2 _ (List.mem_of_getElem? hp)
                have hxl := HC.out _ (List.mem_of_getElem? hp)
                obtain ⟨g, hog, a0⟩ := HI.out.2.1.at_ (i := k) (x := x) (by rw [List.getElem?_map, hp]; rfl)
                subst hog
                have HI1 := Lib.hid HI.out.1
                have HI2 := Lib.hid HI.out.2.1
                have HI3 := Lib.hid HI.out.2.2
                obtain ⟨o5, c5, hrow, hcom⟩ := HI1.out.st.rowC HL.out hp
                have HROW := Lib.hid hrow
                have HCOM := Lib.hid hcom
                have v1 : wr.cell? ⟨vb, 0, none⟩ = some (.pointer (some ⟨wb, 0, none⟩)) := cell_of HI1.out.var rfl
                have l0 : (0 : Int) ≤ k := by omega
                have l1 : (k : Int) < K4 := by omega
                have lk := HPT.out.2.2.2
                have TX := Lib.hid (HI1.out.textC (L' := pre4 r k ++ Cod.text x.data.toList) (Chg.refl _ wr) x (by have := pre4_le r k; have := HZ.out; omega) (by have := HZ.out; simp only at hxs; omega) rfl)
                have HX := Lib.hid (show x.size ≤ maxLen by have := HZ.out; simp only at hxs; unfold maxLen; omega)
                have HV := Lib.hid hx.2.2
                have HP := Lib.hid hp
                have HXL := Lib.hid (show l.length ≤ 17179869184 from hxl)
                have HS1 := Lib.hid (pre4_succ hp)
                have HM := Lib.hid (pre4_mid hp)
                obtain ⟨N, HNN⟩ : ∃ N, Hid (l.length = N) := ⟨_, Lib.hid rfl⟩
                simp only at HS1 HM HV
                rw [HNN.out] at HROW HXL HS1 HM
                clear HI hp hx hxs hxl hrow hcom
                go_wp2_with (go_at_call 47; refine TX.out.mono ?_; rintro e W16 ⟨rfl, HT⟩)
                have HB1 := Lib.hid HT.out.1
                have HN := Lib.hid (HI2.out.off HI1.out.wr HT.out.2)
                have dn : ∀ {U V : World} {s : ByteArray}, WrAt U wb s → Chg (fun g => g = wb) U V → U.heap[D]? = some (.deferred (some [])) → V.heap[D]? = some (.deferred (some [])) := fun h2 c h1 => (c.block D (Array.getElem?_eq_some_iff.1 h1).1 (fun e => by unfold WrAt at h2; rw [e, h2] at h1; cases h1)).trans h1
                have DN := Lib.hid (fun (U V : World) (s : ByteArray) (h1 : WrAt U wb s) (h2 : Chg (fun g => g = wb) U V) (h3 : U.heap[D]? = some (.deferred (some []))) => dn h1 h2 h3)
                clear dn
                have HD1 := Lib.hid (DN.out _ _ _ HI1.out.wr HT.out.2 HI3.out)
                clear v1 a0 TX HT HI1 HI2 HI3
                have v1 : W16.cell? ⟨vb, 0, none⟩ = some (.pointer (some ⟨wb, 0, none⟩)) := cell_of HB1.out.var rfl
                have c7 := HB1.out.st.c7
                have CN := Lib.hid (HB1.out.numC (L' := (pre4 r k ++ Cod.text x.data.toList) ++ Cod.num N) 1 [N] rfl (by simp) (by intro y hy; simp at hy; subst hy; have := HXL.out; omega) (by have := HM.out.1; have := HZ.out; omega) (by simp))
                have HWR := Lib.hid (wrap_len N (by have := HXL.out; omega))
                have KEY := Lib.hid (fun (u : World) (c : Chg (fun g => g = wb) W16 u) => show Chg (fun g => g = wb) W16 u ∧ u.cell? ⟨vb, 0, none⟩ = some (.pointer (some ⟨wb, 0, none⟩)) ∧ u.cell? ⟨b, 7, none⟩ = some (.map (some R.c)) ∧ (Instr.lookup 34 (.map (some R.c)) (.string x) false).run Tryz.prog u = .ok (.slice o5 N c5) u from
                  (have k := HB1.out.keep c; ⟨c, cell_of k.2 rfl, k.1.c7, k.1.runC HX.out HROW.out⟩))
                go_region_held3 (fun u => Chg (fun g => g = wb) W16 u ∧ u.cell? ⟨vb, 0, none⟩ = some (.pointer (some ⟨wb, 0, none⟩)) ∧ u.cell? ⟨b, 7, none⟩ = some (.map (some R.c)) ∧ (Instr.lookup 34 (.map (some R.c)) (.string x) false).run Tryz.prog u = .ok (.slice o5 N c5) u) (first | exact KEY.out _ (Chg.refl _ _).drew | exact KEY.out _ HB.out.2 | (refine KEY.out _ (Chg.alloc ?_ _); assumption) | (refine KEY.out _ (Chg.alloc ?_ _); exact (Chg.refl _ _).drew) | (refine KEY.out _ (Chg.drew (Chg.alloc ?_ _)); exact (Chg.refl _ _))) ((go_at_call 42; (with_reducible refine (CN.out _ _ _ ((Chg.refl _ _).alloc _).drew (Go.heap_alloc_new _ _) (by simp [HWR.out])).mono ?_); rintro e W17 ⟨rfl, HB⟩))
                have HB2 := Lib.hid HB.out.1
                have HN2 := Lib.hid (HN.out.off HB1.out.wr HB.out.2)
                have HD2 := Lib.hid (DN.out _ _ _ HB1.out.wr HB.out.2 HD1.out)
                clear v1 c7 CN KEY HB HB1 HN HD1 HWR
                have v1 : W17.cell? ⟨vb, 0, none⟩ = some (.pointer (some ⟨wb, 0, none⟩)) := cell_of HB2.out.var rfl
                have c7 := HB2.out.st.c7
                have CN := Lib.hid (fun (u : World) (cu : Chg (fun _ => False) W17 u) => show Calls Tryz.prog 42 #[.pointer (some ⟨wb, 0, none⟩), .slice o5 N c5] u fun e W' => e = .returned (.tuple #[]) ∧ Hid (BwTo w b vb wb R F n (pre4 r (k + 1)) W17 W') from by
                  have h1 := (HB2.out.same cu).st.numsC HROW.out HCOM.out
                  rw [← HNN.out] at h1 ⊢
                  exact HB2.out.rowC cu h1 (by rw [HNN.out]; exact HXL.out) HV.out (by have := HM.out.2; have := HZ.out; omega) (by rw [HS1.out]))
                go_wp2_with fail
                have KEY := Lib.hid (fun (u : World) (c : Chg (fun g => g = wb) W17 u) => show Chg (fun g => g = wb) W17 u ∧ u.cell? ⟨vb, 0, none⟩ = some (.pointer (some ⟨wb, 0, none⟩)) ∧ u.cell? ⟨b, 7, none⟩ = some (.map (some R.c)) ∧ (Instr.lookup 34 (.map (some R.c)) (.string x) false).run Tryz.prog u = .ok (.slice o5 N c5) u from
                  (have k := HB2.out.keep c; ⟨c, cell_of k.2 rfl, k.1.c7, k.1.runC HX.out HROW.out⟩))
                go_region_held3 (fun u => Chg (fun g => g = wb) W17 u ∧ u.cell? ⟨vb, 0, none⟩ = some (.pointer (some ⟨wb, 0, none⟩)) ∧ u.cell? ⟨b, 7, none⟩ = some (.map (some R.c)) ∧ (Instr.lookup 34 (.map (some R.c)) (.string x) false).run Tryz.prog u = .ok (.slice o5 N c5) u) (first | exact KEY.out _ (Chg.refl _ _).drew | exact KEY.out _ HB.out.2 | (refine KEY.out _ (Chg.alloc ?_ _); assumption) | (refine KEY.out _ (Chg.alloc ?_ _); exact (Chg.refl _ _).drew) | (refine KEY.out _ (Chg.drew (Chg.alloc ?_ _)); exact (Chg.refl _ _))) ((go_at_call 42; (with_reducible refine (CN.out _ (Chg.refl _ _).drew).mono ?_); rintro e W18 ⟨rfl, HB⟩))
                have HG := Lib.hid (show BwAt w b vb wb R F n (pre4 r (k + 1)) W18 ∧ NL W18 (.slice (some ⟨g, 0, none⟩) K4 c4) (r.c.map (·.1)) ∧ W18.heap[D]? = some (.deferred (some [])) from ⟨HB.out.1, HN2.out.off HB2.out.wr HB.out.2, DN.out _ _ _ HB2.out.wr HB.out.2 HD2.out⟩)
                clear v1 c7 CN KEY HB HB2 HN2 HD2
                go_wp2_with fail
                go_roundw
                case rel => exact ⟨k + 1, by omega, by go_num, HG⟩
                case measure => simp [intOf]; omega
              · obtain rfl : K4 = k := by omega
                have hd : decide ((K4 : Int) < K4) = false := by simp
                have hd' : decide (K4 < K4) = false := by simp
                have HB1 := Lib.hid (show BwAt w b vb wb R F n (bytesR r) wr by have := HI.out.1; rwa [← HK4.out, pre4_all] at this)
                have HD1 := Lib.hid HI.out.2.2
                clear HI hk hlt
                generalize wr = W19 at *
                have v1 : W19.cell? ⟨vb, 0, none⟩ = some (.pointer (some ⟨wb, 0, none⟩)) := cell_of HB1.out.var rfl
                have u0 : W19.cell? ⟨wb, 0, none⟩ = some (.string (str (bytesR r))) := cell_of HB1.out.wr rfl
                go_wp2_with fail
                refine ⟨by simp, .inl ⟨_, _, rfl, run_takeDeferred HD1.out, ?_⟩⟩
                exact ⟨_, results_tmp rfl _ _ _, rfl, HB1.out.chg.setBlock (Or.inr HDN.out) (.deferred none)⟩
          · rintro D c pre G W hD hGD hok hI hK
            exact hI.elim
end
end Go.Proofs.YtgmmglmokkcgeaaGreat
