/- Walks: Scan's function value. -/
import Derived.Test.YtnhookblhckmlaaKo
import Derived.Test.YtnhookblhckmlaaKa
namespace Go.Proofs.Ytnhookblhckmlaa
set_option linter.unusedVariables false
set_option linter.unusedSimpArgs false
open Go.RowKit Mk Go.Shelf
attribute [local go_sem] Oper.semAt_some

set_option maxRecDepth 100000 in
set_option maxHeartbeats 8000000 in
theorem scan_seq {w : World} {b bx bt bf bo : Nat} {lv : Value} {L : List CellM} (h : CR w b lv L) (hL : L.length ≤ 1099511627776) (lo hi : ByteArray) (t : Nat)
    (hbx : w.heap[bx]? = some (.cells #[.pointer (some ⟨b, 0, none⟩)] 29)) (hbt : w.heap[bt]? = some (.cells #[.int .u64 t] 22)) (hbf : w.heap[bf]? = some (.cells #[.string lo] 9)) (hbo : w.heap[bo]? = some (.cells #[.string hi] 9)) :
    SeqF Try.prog 40 #[.pointer (some ⟨bx, 0, none⟩), .pointer (some ⟨bt, 0, none⟩), .pointer (some ⟨bf, 0, none⟩), .pointer (some ⟨bo, 0, none⟩)] (fun x : CellM => #[cellV x]) (fun pre => pre <+: scanM lo hi t L) (fun xs => xs = scanM lo hi t L)
      (fun g => (g = bx ∨ g = bt ∨ g = bf ∨ g = bo) ∨ g = b ∨ lv.ownBlock = some g) w := by
  intro l0 J Jx W F0 hsz hR hF0 hJ hJx hY h0
  have hRl : ∀ g, ((g = bx ∨ g = bt ∨ g = bf ∨ g = bo) ∨ g = b ∨ lv.ownBlock = some g) → g < W.heap.size := fun g hg => by
    rcases hg with (rfl | rfl | rfl | rfl) | rfl | hg
    · have := (Array.getElem?_eq_some_iff.1 hbx).1; omega
    · have := (Array.getElem?_eq_some_iff.1 hbt).1; omega
    · have := (Array.getElem?_eq_some_iff.1 hbf).1; omega
    · have := (Array.getElem?_eq_some_iff.1 hbo).1; omega
    · have := h.lt; omega
    · have := sl.lt h.has hg; omega
  have hcr : CR W b lv L := ⟨(hR b (by simp)).trans h.blk, sl.stay h.has (fun g hg => hR g (by simp [hg])), h.apart⟩
  have kbx := (hR bx (by simp)).trans hbx
  have kbt := (hR bt (by simp)).trans hbt
  have kbf := (hR bf (by simp)).trans hbf
  have kbo := (hR bo (by simp)).trans hbo
  have lbx := hRl bx (by simp)
  generalize hRR : (fun g => (g = bx ∨ g = bt ∨ g = bf ∨ g = bo) ∨ g = b ∨ lv.ownBlock = some g) = R at *
  have hRi : ∀ g, ((g = bx ∨ g = bt ∨ g = bf ∨ g = bo) ∨ g = b ∨ lv.ownBlock = some g) → R g := fun g hg => by rw [← hRR]; exact hg
  have hRl : ∀ g, R g → g < W.heap.size := fun g hg => hRl g (by rw [← hRR] at hg; exact hg)
  have hB3 : RowKit.Below W.heap.size W (((W.alloc (.cells #[.func (.yield l0) #[] #[]] 72)).alloc (.cells #[.string ⟨#[]⟩] 9)).alloc (.cells #[.bool false] 4)) := (((Below.refl _ W).alloc (Nat.le_refl _) _).alloc (by simp) _).alloc (by simp; omega) _
  have q0 := (hB3.cell (p := ⟨bx, 0, none⟩) lbx).trans (cell_of kbx rfl)
  obtain ⟨W0, HW0⟩ : ∃ A, Hid ((((W.alloc (.cells #[.func (.yield l0) #[] #[]] 72)).alloc (.cells #[.string ⟨#[]⟩] 9)).alloc (.cells #[.bool false] 4)).alloc (.cells #[.pointer (some ⟨b, 0, none⟩)] 29) = A) := ⟨_, Lib.hid rfl⟩
  have hs0 : W0.heap.size = W.heap.size + 4 := by rw [← HW0.out]; simp
  have hB0 : RowKit.Below W.heap.size W W0 := by rw [← HW0.out]; exact ((((Below.refl _ W).alloc (Nat.le_refl _) _).alloc (by simp) _).alloc (by simp; omega) _).alloc (by simp; omega) _
  have z0 : W0.heap[W.heap.size]? = some (.cells #[.func (.yield l0) #[] #[]] 72) := by
    rw [← HW0.out, RowKit.Below.heap_alloc _ _ _ (by simp; omega), RowKit.Below.heap_alloc _ _ _ (by simp; omega), RowKit.Below.heap_alloc _ _ _ (by simp)]; exact Go.heap_alloc_new _ _
  have z1 : W0.heap[W.heap.size + 1]? = some (.cells #[.string ⟨#[]⟩] 9) := by
    rw [← HW0.out, RowKit.Below.heap_alloc _ _ _ (by simp), RowKit.Below.heap_alloc _ _ _ (by simp)]
    have := Go.heap_alloc_new (W.alloc (.cells #[.func (.yield l0) #[] #[]] 72)) (.cells #[.string ⟨#[]⟩] 9)
    rwa [World.size_alloc] at this
  have z2 : W0.heap[W.heap.size + 2]? = some (.cells #[.bool false] 4) := by
    rw [← HW0.out, RowKit.Below.heap_alloc _ _ _ (by simp)]
    have := Go.heap_alloc_new ((W.alloc (.cells #[.func (.yield l0) #[] #[]] 72)).alloc (.cells #[.string ⟨#[]⟩] 9)) (.cells #[.bool false] 4)
    rwa [World.size_alloc, World.size_alloc] at this
  have z3 : W0.heap[W.heap.size + 3]? = some (.cells #[.pointer (some ⟨b, 0, none⟩)] 29) := by
    rw [← HW0.out]
    have := Go.heap_alloc_new (((W.alloc (.cells #[.func (.yield l0) #[] #[]] 72)).alloc (.cells #[.string ⟨#[]⟩] 9)).alloc (.cells #[.bool false] 4)) (.cells #[.pointer (some ⟨b, 0, none⟩)] 29)
    rwa [World.size_alloc, World.size_alloc, World.size_alloc] at this
  have AM := Lib.hid (fun w => all_makes (some ⟨b, 0, none⟩) w)
  have ASEQ := Lib.hid (all_seq (hcr.stay hB0) hL z3)
  have HF0' : ∀ g, F0 g → g < W.heap.size ∧ ¬ R g := hF0
  have H0 : ScanAt J R W l0 lo hi t [] (fun g => F0 g ∨ g = W.heap.size + 1 ∨ g = W.heap.size + 2) W0 :=
    ⟨⟨F0, hJ _ _ _ _ h0 ((chg_of_below hB0).mono (fun _ f => f.elim)), fun g => Iff.rfl, fun g f => Or.inl (HF0' g f)⟩, z1, z2, z0, fun g hg => hB0.block g (hRl g hg), by omega⟩
  have HH0 := Lib.hid H0
  have HJ := Lib.hid hJ
  have HJx := Lib.hid hJx
  have HY := Lib.hid hY
  have HF := Lib.hid HF0'
  have HRI := Lib.hid hRi
  have HRL := Lib.hid hRl
  have HKT := Lib.hid kbt
  have HKF := Lib.hid kbf
  have HKO := Lib.hid kbo
  have HS0 := Lib.hid hs0
  have hRb : b < W0.heap.size ∧ (∀ g, lv.ownBlock = some g → g < W0.heap.size) := ⟨by have := hRl b (hRi b (by simp)); omega, fun g hg => by have := hRl g (hRi g (by simp [hg])); omega⟩
  have HRB := Lib.hid hRb
  clear h hbx hbt hbf hbo hsz hR hF0 hJ hJx hY h0 hcr kbx kbt kbf kbo hRR hRi z0 z1 z2 z3 H0 HF0' hRl hB0 hs0 hRb hB3
  refine callsIn_wide.2 ((callsIn_wide (n := 3)).1 ?_)
  show CallsIn Fence.wide 3 Try.prog 40 #[.func (.yield l0) #[] #[], .pointer (some ⟨bx, 0, none⟩), .pointer (some ⟨bt, 0, none⟩), .pointer (some ⟨bf, 0, none⟩), .pointer (some ⟨bo, 0, none⟩)] W _
  refine callsIn_of_wp_marks Try.func40 rfl trivial ?_ rfl
  simp only [Try.ntmps40, List.size_toArray, List.length_cons, List.length_nil, Nat.reduceAdd, Nat.reduceSub, Array.replicate_succ, Array.replicate_zero, List.push_toArray, List.append_toArray, List.nil_append, List.cons_append]
  gi_wp2_with (refine ⟨trivial, ?_⟩; gi_at_call 23; refine (callsIn_wide.2 (AM.out _)).mono ?_; rintro e w' ⟨rfl, rfl⟩)
  rw [HW0.out]
  clear q0 AM HW0
  refine wp_rangeF (w0 := W0) (gf := 41) (lb := #[.pointer (some ⟨W.heap.size + 3, 0, none⟩)]) (by simp [Act.eval]) (enters_of Try.func41 (by kernel_rfl) rfl) ASEQ.out (Nat.le_refl _) (fun g hg => ⟨?_, rfl⟩) (fun _ => rfl)
    (fun pre F W' => ScanAt J R W l0 lo hi t pre F W') (fun c pre F W' => c = .ret ∧ ScanX Jx R W lo hi t pre F W') (fun g => F0 g ∨ g = W.heap.size + 1 ∨ g = W.heap.size + 2)
    (fun g hg => ?_)
    (fun pre F W1 W2 h c => h.go HJ.out HRL.out (c.mono (fun g f => ⟨by have := HS0.out; omega, f.2⟩)))
    (fun c pre F W1 W2 h k => ⟨h.1, h.2.go HJx.out (k.mono (fun g f => ⟨by have := HS0.out; omega, f.2⟩))⟩)
    HH0.out ?_ ?_ ?_
  · have := HS0.out
    rcases hg with rfl | rfl | hg
    · omega
    · exact HRB.out.1
    · exact HRB.out.2 g hg
  · have := HS0.out
    rcases hg with hg | rfl | rfl
    · have h5 := HF.out g hg
      refine ⟨by omega, fun f => ?_⟩
      rcases f with f | f
      · omega
      · exact h5.2 (HRI.out g (Or.inr f))
    · refine ⟨by omega, fun f => ?_⟩
      rcases f with f | f
      · omega
      · have := HRL.out _ (HRI.out _ (Or.inr f)); omega
    · refine ⟨by omega, fun f => ?_⟩
      rcases f with f | f
      · omega
      · have := HRL.out _ (HRI.out _ (Or.inr f)); omega
  · intro l pre x F W1 hI hok hF hl hwl hlW
    obtain ⟨xk, xt, xd, xv⟩ := x
    simp only [cellV]
    gi_wp2
    refine ⟨(Below.refl _ W1).alloc (Nat.le_refl _) _, fun W2 hc2 hsz hI2 => ?_⟩
    have hX : W2.heap[W1.heap.size]? = some (.cells #[.string xk, .int .u64 xt, .bool xd, .string xv] 24) := (hc2.block _ (by simp) (by omega)).trans (Go.heap_alloc_new _ _)
    have hF2 : ∀ g, F g → g < W2.heap.size := fun g f => by have := hF g f; simp at hsz; omega
    obtain ⟨st, hst⟩ : ∃ st, scSt lo hi t ⟨⟨#[]⟩, false⟩ pre = st := ⟨_, rfl⟩
    have hla := hI2.last
    have han := hI2.any
    rw [hst] at hla han
    obtain ⟨last, any⟩ := st
    have SK := Lib.hid (fun (e : scStep lo hi t ⟨last, any⟩ ⟨xk, xt, xd, xv⟩ = (false, ⟨last, any⟩)) => (show fromF (fun pre F W' => ScanAt J R W l0 lo hi t pre F W') (pre ++ [(⟨xk, xt, xd, xv⟩ : CellM)]) F W2 W2 from
      ⟨F, Wider.refl _ _, hF2, Chg.refl _ _, hI2.skip (by rw [hst]; exact e)⟩))
    obtain ⟨FO, hj, hFF, hFO, hgo⟩ := hI2.met HJ.out HRL.out (x := ⟨xk, xt, xd, xv⟩)
    obtain ⟨X, hXX⟩ : ∃ X, (W2.setCell ⟨W.heap.size + 1, 0, none⟩ (.string xk)).setCell ⟨W.heap.size + 1 + 1, 0, none⟩ (.bool true) = X := ⟨_, rfl⟩
    have hXX' : (W2.setCell ⟨W.heap.size + 1, 0, none⟩ (.string (⟨xk, xt, xd, xv⟩ : CellM).key)).setCell ⟨W.heap.size + 2, 0, none⟩ (.bool true) = X := hXX
    rw [hXX'] at hj hgo
    have hcX : Chg F W2 X := by
      rw [← hXX]
      exact ((Chg.refl F W2).setCell (a := ⟨W.heap.size + 1, 0, none⟩) (Or.inl ((hFF _).2 (Or.inr (Or.inl rfl)))) (.string xk)).setCell (a := ⟨W.heap.size + 1 + 1, 0, none⟩) (Or.inl ((hFF _).2 (Or.inr (Or.inr rfl)))) (.bool true)
    have hsX : W2.heap.size ≤ X.heap.size := hcX.size
    have hs4 := hI2.size
    have hFOs : ∀ g, FO g → g < X.heap.size := fun g f => by have := hF2 g ((hFF g).2 (Or.inl f)); omega
    -- what stands behind the cell where it is met first
    have CL := Lib.hid (fun (pre' : List CellM) (FO' : Nat → Prop) (W' : World) (hw : Wider FO FO' X) (hc : Chg FO X W') (hFs : ∀ g, FO' g → g < W'.heap.size) (hj' : J (scanM lo hi t pre') FO' W') (hs' : scSt lo hi t ⟨⟨#[]⟩, false⟩ pre' = ⟨xk, true⟩) =>
      (show fromF (fun pre F W' => ScanAt J R W l0 lo hi t pre F W') pre' F W2 W' from
        ⟨fun g => FO' g ∨ g = W.heap.size + 1 ∨ g = W.heap.size + 2, fun g f => (by
          rcases f with f | f
          · rcases hw g f with f | f
            · exact Or.inl ((hFF g).2 (Or.inl f))
            · exact Or.inr (by omega)
          · exact Or.inl ((hFF g).2 (Or.inr f))), fun g f => (by
          have := hc.size
          rcases f with f | f
          · exact hFs g f
          · omega), hcX.trans' hc (fun i f => Or.inl ((hFF i).2 (Or.inl f))), hgo FO' W' pre' hw hc hj' hs'⟩))
    have CX := Lib.hid (fun (FO' : Nat → Prop) (W' : World) (hw : Wider FO FO' X) (hc : Chg FO X W') (hFs : ∀ g, FO' g → g < W'.heap.size) (hj' : Jx (scanM lo hi t (pre ++ [(⟨xk, xt, xd, xv⟩ : CellM)])) FO' W') =>
      (show fromF (fun pre F W' => Code.ret = .ret ∧ ScanX Jx R W lo hi t pre F W') (pre ++ [(⟨xk, xt, xd, xv⟩ : CellM)]) F W2 W' from
        ⟨fun g => FO' g ∨ g = W.heap.size + 1 ∨ g = W.heap.size + 2, fun g f => (by
          rcases f with f | f
          · rcases hw g f with f | f
            · exact Or.inl ((hFF g).2 (Or.inl f))
            · exact Or.inr (by omega)
          · exact Or.inl ((hFF g).2 (Or.inr f))), fun g f => (by
          have := hc.size
          rcases f with f | f
          · exact hFs g f
          · omega), hcX.trans' hc (fun i f => Or.inl ((hFF i).2 (Or.inl f))), rfl, ⟨FO', hj', fun g => Iff.rfl⟩⟩))
    have hsc := scanM_snoc lo hi t pre ⟨xk, xt, xd, xv⟩
    have hss : scSt lo hi t ⟨⟨#[]⟩, false⟩ (pre ++ [(⟨xk, xt, xd, xv⟩ : CellM)]) = (scStep lo hi t ⟨last, any⟩ ⟨xk, xt, xd, xv⟩).2 := by rw [scSt_append, hst]; rfl
    rw [hst] at hsc
    have hpf := scanM_prefix lo hi t hok
    have kt := (hI2.read bt (HRI.out bt (by simp))).trans HKT.out
    have kf := (hI2.read bf (HRI.out bf (by simp))).trans HKF.out
    have ko := (hI2.read bo (HRI.out bo (by simp))).trans HKO.out
    have c7 : W2.cell? ⟨W.heap.size + 1 + 1, 0, none⟩ = some (.bool any) := cell_of han rfl
    have c6 : W2.cell? ⟨W.heap.size + 1, 0, none⟩ = some (.string last) := cell_of hla rfl
    have f7 : W2.frozen? ⟨W.heap.size + 1 + 1, 0, none⟩ = false := frozen_of han
    have f6 : W2.frozen? ⟨W.heap.size + 1, 0, none⟩ = false := frozen_of hla
    have c5 : W2.cell? ⟨W.heap.size, 0, none⟩ = some (.func (.yield l0) #[] #[]) := cell_of hI2.yld rfl
    have x0 : W2.cell? ⟨W1.heap.size, 0, none⟩ = some (.string xk) := cell_of hX rfl
    have x1 : W2.cell? ⟨W1.heap.size, 1, none⟩ = some (.int .u64 xt) := cell_of hX rfl
    have x2 : W2.cell? ⟨W1.heap.size, 2, none⟩ = some (.bool xd) := cell_of hX rfl
    have x3 : W2.cell? ⟨W1.heap.size, 3, none⟩ = some (.string xv) := cell_of hX rfl
    have ct : W2.cell? ⟨bt, 0, none⟩ = some (.int .u64 t) := cell_of kt rfl
    have cf : W2.cell? ⟨bf, 0, none⟩ = some (.string lo) := cell_of kf rfl
    have co : W2.cell? ⟨bo, 0, none⟩ = some (.string hi) := cell_of ko rfl
    have nX1 : W1.heap.size ≠ W.heap.size + 1 := by have := hI.size; omega
    have nX2 : W1.heap.size ≠ W.heap.size + 1 + 1 := by have := hI.size; omega
    have HJX := Lib.hid hj
    have HXX := Lib.hid hXX
    have HSC := Lib.hid hsc
    have HSS := Lib.hid hss
    have HPF := Lib.hid hpf
    have HFOs := Lib.hid hFOs
    clear hI hI2 hX hF2 hst hla han hj hFF hFO hgo hXX hXX' hcX hsX hs4 hFOs hsc hss hpf kt kf ko hc2 hsz hok
    by_cases a1 : any = true ∧ xk.toList = last.toList
    · obtain ⟨rfl, a1⟩ := a1
      have v1 : (xk.toList == last.toList) = true := by simpa using a1
      have e := SK.out (scStep_again rfl (toList_inj a1))
      have HE := Lib.hid e
      clear e a1
      gi_wp2
      exact HE.out
    have hns : any = true → xk ≠ last := fun h e => a1 ⟨h, by rw [e]⟩
    have D : any = false ∨ (any = true ∧ (xk.toList == last.toList) = false) := by
      cases any
      · exact Or.inl rfl
      · exact Or.inr ⟨rfl, by rw [beq_eq_false_iff_ne]; exact fun e => a1 ⟨rfl, e⟩⟩
    clear a1
    by_cases a2 : t < xt
    · have e := SK.out (scStep_late a2)
      have HE := Lib.hid e
      have v2 : decide (t < xt) = true := by simpa using a2
      clear e a2 hns
      rcases D with rfl | ⟨rfl, v1⟩
      · gi_wp2
        exact HE.out
      · gi_wp2
        exact HE.out
    have v2 : decide (t < xt) = false := by simpa using a2
    by_cases a3 : Op.bytesLess xk.toList lo.toList = true
    · have e := SK.out (scStep_out (by unfold inR less; simp [a3]))
      have HE := Lib.hid e
      clear e a2 hns
      rcases D with rfl | ⟨rfl, v1⟩
      · gi_wp2
        exact HE.out
      · gi_wp2
        exact HE.out
    have v3 : Op.bytesLess xk.toList lo.toList = false := by simpa using a3
    by_cases a4 : hi.toList ≠ [] ∧ Op.bytesLess xk.toList hi.toList = false
    · obtain ⟨a4, v5⟩ := a4
      have e := SK.out (scStep_out (by unfold inR less; simp [v5, a4]))
      have HE := Lib.hid e
      have w1 : hi.toList.isEmpty = false := by cases hh : hi.toList with | nil => exact absurd hh a4 | cons _ _ => rfl
      have w2 : (hi.toList == []) = false := by rw [beq_eq_false_iff_ne]; exact a4
      clear e a2 hns a3 a4
      rcases D with rfl | ⟨rfl, v1⟩
      · gi_wp2
        exact HE.out
      · gi_wp2
        exact HE.out
    have hin : inR lo hi xk = true := by
      unfold inR less
      simp only [v3, Bool.not_false, Bool.true_and, Bool.or_eq_true, beq_iff_eq]
      by_cases h : hi.toList = []
      · exact Or.inl h
      · right
        cases h5 : Op.bytesLess xk.toList hi.toList
        · exact absurd ⟨h, h5⟩ a4
        · rfl
    have hst := scStep_new (s := ⟨last, any⟩) (x := ⟨xk, xt, xd, xv⟩) a2 hin hns
    have HST := Lib.hid hst
    have D5 : (hi.toList = [] ∧ hi.toList.isEmpty = true ∧ (hi.toList == []) = true) ∨ (hi.toList.isEmpty = false ∧ (hi.toList == []) = false ∧ Op.bytesLess xk.toList hi.toList = true) := by
      by_cases h : hi.toList = []
      · exact Or.inl ⟨h, by rw [h]; rfl, by rw [h]; rfl⟩
      · right
        refine ⟨by cases hh : hi.toList with | nil => exact absurd hh h | cons _ _ => rfl, by rw [beq_eq_false_iff_ne]; exact h, ?_⟩
        cases h5 : Op.bytesLess xk.toList hi.toList
        · exact absurd ⟨h, h5⟩ a4
        · rfl
    clear a2 a3 a4 hin hst hns SK
    cases xd
    · have hsc := HSC.out
      rw [HST.out] at hsc
      simp only [Bool.not_false, if_true] at hsc
      have hpf := HPF.out
      rw [hsc] at hpf
      obtain ⟨fn, tmps, assign, body, hy, hR⟩ := HY.out _ ⟨xk, xt, false, xv⟩ FO X HJX.out hpf
      simp only [cellV] at hy
      rw [← HXX.out] at hy
      have HXX := HXX
      have GO1 := Lib.hid (fun (FO' : Nat → Prop) (W' : World) (hw : Wider FO FO' X) (hc : Chg FO X W') (hFs : ∀ g, FO' g → g < W'.heap.size) (hj : J (scanM lo hi t pre ++ [(⟨xk, xt, false, xv⟩ : CellM)]) FO' W') =>
        CL.out (pre ++ [⟨xk, xt, false, xv⟩]) FO' W' hw hc hFs (by rw [hsc]; exact hj) (by rw [HSS.out, HST.out]))
      have GO2 := Lib.hid (fun (FO' : Nat → Prop) (W' : World) (hw : Wider FO FO' X) (hc : Chg FO X W') (hFs : ∀ g, FO' g → g < W'.heap.size) (hj : Jx (scanM lo hi t pre ++ [(⟨xk, xt, false, xv⟩ : CellM)]) FO' W') =>
        CX.out FO' W' hw hc hFs (by rw [hsc]; exact hj))
      clear hsc hpf CL CX
      rcases D with rfl | ⟨rfl, v1⟩ <;> rcases D5 with ⟨v4, v6, v7⟩ | ⟨v6, v7, v8⟩
      all_goals
        gi_wp2
        rw [HXX.out]
        refine (roundIn_widen hR _ _).mono ?_
        rintro e W' ⟨FO', hw, hc, hFs, (⟨rfl, hj2⟩ | ⟨rfl, hj2⟩)⟩
        · have HE := Lib.hid (GO1.out FO' W' hw hc hFs hj2)
          clear hw hc hFs hj2 hR hy
          gi_wp2
          exact HE.out
        · have HE := Lib.hid (GO2.out FO' W' hw hc hFs hj2)
          clear hw hc hFs hj2 hR hy
          gi_wp2
          obtain ⟨F', b1, b2, b3, b4⟩ := HE.out
          show fromF (fun pre F W' => Code.ret = .ret ∧ ScanX Jx R W lo hi t pre F W') (pre ++ [(⟨xk, xt, false, xv⟩ : CellM)]) F W2 W'
          exact ⟨F', b1, b2, b3, rfl, b4.2⟩
    · have HE := Lib.hid (CL.out (pre ++ [⟨xk, xt, true, xv⟩]) FO X (Wider.refl _ _) (Chg.refl _ _) HFOs.out (by rw [HSC.out, HST.out]; simpa using HJX.out) (by rw [HSS.out, HST.out]))
      clear CL CX
      rcases D with rfl | ⟨rfl, v1⟩ <;> rcases D5 with ⟨v4, v6, v7⟩ | ⟨v6, v7, v8⟩
      all_goals
        gi_wp2
        rw [HXX.out]
        refine ⟨fun _ h => (by cases h), ?_⟩
        gi_wp2
        exact HE.out
  · rintro D xs F W1 hD hFD rfl hI hK
    obtain ⟨FO, hj, hFF, hFO⟩ := hI.fo
    have HE := Lib.hid (HJ.out _ _ _ _ hj (chg_putObj (F := fun g => W.heap.size ≤ g ∧ ¬ FO g) (Chg.refl _ W1) (Or.inl ⟨by have := HS0.out; omega, fun f => hFD ((hFF D).2 (Or.inl f))⟩) (.deferred none)))
    clear hj hFF hFO hI hFD
    gi_wp2
    refine ⟨by simp, .inl ⟨_, _, rfl, run_takeDeferred hK, ?_⟩⟩
    exact ⟨_, results_none rfl _ _ _, ⟨_, rfl⟩, .inl ⟨_, FO, rfl, HE.out⟩⟩
  · rintro D c pre F W1 hD hFD hok ⟨rfl, hI⟩ hK
    obtain ⟨FO, hj, hFF⟩ := hI.fo
    have HE := Lib.hid (HJx.out _ _ _ _ hj (chg_putObj (F := fun g => W.heap.size ≤ g ∧ ¬ FO g) (Chg.refl _ W1) (Or.inl ⟨by have := HS0.out; omega, fun f => hFD ((hFF D).2 (Or.inl f))⟩) (.deferred none)))
    have hp := scanM_prefix lo hi t hok
    clear hj hFF hI hFD
    gi_wp2
    refine ⟨by simp, .inl ⟨_, _, rfl, run_takeDeferred hK, ?_⟩⟩
    exact ⟨_, results_none rfl _ _ _, ⟨_, rfl⟩, .inr ⟨_, FO, hp, HE.out⟩⟩
end Go.Proofs.Ytnhookblhckmlaa
