/- The document's net: Drop, Take. -/
import Derived.Test.YtpgioccbnkcjcaaP3
namespace Go.Proofs.Ytpgioccbnkcjcaa
open Go.RowKit Mk
theorem flatMap_take (L : List Pk) (k : Nat) : (L.take k).flatMap pkc = (L.flatMap pkc).take (k * 3) := by
  induction L generalizing k with
  | nil => simp
  | cons a L ih =>
    cases k with
    | zero => simp
    | succ k =>
      simp only [List.take_succ_cons, List.flatMap_cons, ih]
      rw [show (k + 1) * 3 = (pkc a).length + k * 3 by simp [pkc]; omega, List.take_length_add_append]
theorem flatMap_drop (L : List Pk) (k : Nat) : (L.drop k).flatMap pkc = (L.flatMap pkc).drop (k * 3) := by
  induction L generalizing k with
  | nil => simp
  | cons a L ih =>
    cases k with
    | zero => simp
    | succ k =>
      simp only [List.drop_succ_cons, List.flatMap_cons, ih]
      rw [show (k + 1) * 3 = (pkc a).length + k * 3 by simp [pkc]; omega, List.drop_length_add_append]
theorem pcells_take (l : List Msg) (k : Nat) : pcells (l.take k) = (pcells l).take (k * 3) := by unfold pcells; rw [List.map_take, flatMap_take]
theorem pcells_drop (l : List Msg) (k : Nat) : pcells (l.drop k) = (pcells l).drop (k * 3) := by unfold pcells; rw [List.map_drop, flatMap_drop]
theorem pcells_append (l m : List Msg) : pcells (l ++ m) = pcells l ++ pcells m := by simp [pcells]
theorem pcells_len (l : List Msg) : (pcells l).length = l.length * 3 := by unfold pcells; rw [pkc_len, List.length_map]
theorem pcells_one (l : List Msg) : ∀ v ∈ pcells l, v.oneCell' = true := by
  intro v hv
  unfold pcells at hv
  obtain ⟨p, _, h⟩ := List.mem_flatMap.1 hv
  simp [pkc] at h
  rcases h with rfl | rfl | rfl <;> rfl
theorem addr_add (g i j : Nat) : (⟨g, i, none⟩ : Addr).add j = ⟨g, i + j, none⟩ := by unfold Addr.add; split <;> simp_all
theorem Try.sizeOf42 (v : World) : (sizeOf 42).run Try.prog v = .ok 3 v := by
  simp [sizeOf, go_sem]
  kernel_rfl

section
variable {w : World} {x : Nat} {R : Lay} {F : Nat → Prop} {n : NetM}
set_option maxRecDepth 100000 in
set_option maxHeartbeats 1000000 in
theorem rdrop_any (h : RefRep w x R F n) (i k j : Int) (hj : i64 j) :
    Calls Try.prog 36 #[.pointer (some ⟨x, 0, none⟩), .int .i64 i, .int .i64 k, .int .i64 j] w fun e w' => e = .returned (.int .i64 (dropM n i k j).2) ∧ RefIs w' x (fun g => F g ∨ w.heap.size ≤ g) (dropM n i k j).1 ∧ Chg F w w' := by
  obtain ⟨i42, z42, hi42, hz42, hsz42, hby42, hzs42⟩ := info42b
  have HL := rlook_any h i k j hj
  have H := Lib.hid h
  have c1 := h.c1
  have hlen := h.under
  obtain ⟨N, hN⟩ : ∃ N, n.l.length = N := ⟨_, rfl⟩
  rw [hN] at c1 hlen
  have HN := Lib.hid hN
  have HM := Lib.hid (show RefIs w x (fun g => F g ∨ w.heap.size ≤ g) n from ⟨R, h.wide (fun _ => Or.inl)⟩)
  have hl := h.l
  have hcap : ∀ g, R.lo = some ⟨g, 0, none⟩ → N ≤ R.lc ∧ R.lc ≤ maxLen := by
    intro g e
    rcases hl.2 with ⟨e', _⟩ | ⟨g', cap, cur, e', _, a, b, _⟩
    · rw [e] at e'; cases e'
    · simp only [Value.slice.injEq] at e'
      rw [e'.2.2, ← hN]
      exact ⟨a, b⟩
  unfold dropM
  generalize (peekM n i k j).1 = T at *
  generalize (peekM n i k j).2 = c at *
  replace HL := Lib.hid HL
  clear h hj
  by_cases h0 : c = 0
  · subst h0
    rw [if_pos rfl]
    have HD : ∀ pn, pn < n.l.length → dropL n.l (i, k) j.toNat = n.l.eraseIdx pn → dropL n.l (i, k) j.toNat = n.l.take pn ++ n.l.drop (pn + 1) := fun pn hp e => by rw [e, List.eraseIdx_eq_take_drop_succ]
    have HDD := Lib.hid HD
    generalize dropL n.l (i, k) j.toNat = l' at *
    obtain ⟨lc, hLc⟩ : ∃ lc, R.lc = lc := ⟨_, rfl⟩
    rw [hLc] at c1 hcap
    have HLc := Lib.hid hLc
    have HCAP := Lib.hid hcap
    have HSL0 := Lib.hid hl
    clear hLc hcap hl HD hN
    go_enter Try.func36, Try.ntmps36
    go_wp2_with fail
    refine HL.out.mono ?_
    rintro e w' ⟨⟨p, rfl, hp⟩, rfl⟩
    obtain ⟨pn, hpl, rfl, -, -, ht, hdr⟩ := hp trivial
    obtain ⟨g, hlo, -, -, -⟩ := H.out.msg hpl
    obtain ⟨hcp1, hcp2⟩ := HCAP.out g hlo
    simp only [maxLen] at hcp2
    have hpN : pn < N := by rw [← HN.out]; exact hpl
    rw [hlo] at c1
    have HLo := Lib.hid hlo
    have HDR := Lib.hid (HDD.out pn hpl hdr)
    have hsl1 : ∀ v, (Instr.slice 49 (.slice (some ⟨g, 0, none⟩) N lc) none (some (.int .i64 pn)) none).run Try.prog v = .ok (.slice (some ⟨g, 0, none⟩) pn lc) v := by
      intro v
      rw [run_slice_h v 49 _ N lc Try.underlying49 .i64 _ (by omega) (by omega), show Try.prog.elem 49 = 42 from by kernel_rfl, Try.sizeOf42]
      simp [sliced, Addr.add]
    obtain ⟨x9, hx9, hsl2⟩ : ∃ x9 : Option Addr, (0 < N - (pn + 1) → x9 = some ⟨g, (pn + 1) * 3, none⟩) ∧ ∀ v, (Instr.slice 49 (.slice (some ⟨g, 0, none⟩) N lc) (some (.int .i64 ((pn : Int) + 1))) none none).run Try.prog v = .ok (.slice x9 (N - (pn + 1)) (lc - (pn + 1))) v := by
      refine ⟨if lc = pn + 1 then some ⟨g, 0, none⟩ else some ⟨g, (pn + 1) * 3, none⟩, fun hp => by rw [if_neg (by omega)], fun v => ?_⟩
      rw [run_slice_l v 49 _ N lc Try.underlying49 .i64 _ (by omega) (by omega), show Try.prog.elem 49 = 42 from by kernel_rfl, Try.sizeOf42]
      have e1 : ((pn : Int) + 1).toNat = pn + 1 := by omega
      simp [sliced, Addr.add, e1]
    have hwr : IntKind.i64.wrap ((pn : Int) + 1) = (pn : Int) + 1 := by simp only [IntKind.wrap, IntKind.bits, IntKind.signed]; simp; omega
    have HX := Lib.hid hx9
    have HX0 := Lib.hid (show N - (pn + 1) = 0 → x9 = none → lc - (pn + 1) = 0 from fun _ e => by
      have := hsl2 w'
      rw [e, run_slice_l w' 49 _ N lc Try.underlying49 .i64 _ (by omega) (by omega), show Try.prog.elem 49 = 42 from by kernel_rfl, Try.sizeOf42] at this
      have e1 : ((pn : Int) + 1).toNat = pn + 1 := by omega
      simp [sliced, Addr.add, e1] at this
      split at this <;> simp at this)
    have HT1 := Lib.hid (show ((pcells n.l).take (pn * 3)).length = pn * 3 by rw [List.length_take, pcells_len]; omega)
    have HT2 := Lib.hid (show ((pcells n.l).drop ((pn + 1) * 3)).length = (N - (pn + 1)) * 3 by rw [List.length_drop, pcells_len, HN.out]; omega)
    have HO1 := Lib.hid (show ∀ v ∈ (pcells n.l).take (pn * 3), v.oneCell' = true from fun v hv => pcells_one _ v (List.mem_of_mem_take hv))
    have HO2 := Lib.hid (show ∀ v ∈ (pcells n.l).drop ((pn + 1) * 3), v.oneCell' = true from fun v hv => pcells_one _ v (List.mem_of_mem_drop hv))
    have hgl := HSL0.out
    rw [hlo] at hgl
    have HC1 := Lib.hid (show 0 < pn → ∃ a, (some ⟨g, 0, none⟩ : Option Addr) = some a ∧ ∀ j v, ((pcells n.l).take (pn * 3))[j]? = some v → w'.cell? (a.add j) = some v from fun _ => ⟨_, rfl, fun j v hj => by
      rw [addr_add, Nat.zero_add]
      rw [List.getElem?_take] at hj
      split at hj
      · exact hgl.at hj
      · cases hj⟩)
    have HC2 := Lib.hid (show ∀ w2 : World, w'.grownBy w2 (Value.slice none 0 0).ownBlock → 0 < N - (pn + 1) → ∃ a, x9 = some a ∧ ∀ j v, ((pcells n.l).drop ((pn + 1) * 3))[j]? = some v → w2.cell? (a.add j) = some v from fun w2 hg hpos => ⟨_, HX.out hpos, fun j v hj => by
      rw [addr_add]
      rw [List.getElem?_drop] at hj
      have hb : w2.heap[g]? = w'.heap[g]? := hg.block g (hgl.lt rfl) (by simp [Value.ownBlock])
      exact (World.cell?_of_block (a := ⟨g, (pn + 1) * 3 + j, none⟩) hb).trans (hgl.at hj)⟩)
    have HNEW := Lib.hid (show ∀ (lo1 : Option Addr) (lc1 : Nat), ((Value.slice lo1 pn lc1).ownBlock = (Value.slice none 0 0).ownBlock ∨ (Value.slice lo1 pn lc1).ownBlock = some w'.heap.size) → ∀ i, (Value.slice lo1 pn lc1).ownBlock = some i → w'.heap.size ≤ i from fun lo1 lc1 hat i hi => by
      rcases hat with e | e
      · rw [e] at hi; simp [Value.ownBlock] at hi
      · rw [e] at hi; simp at hi; omega)
    clear hp ht hlo hdr hx9 hgl HL HDD HCAP HSL0 HM
    go_wp2_with (first | (refine wpList_append_sl (by rfl) _ _ 49 (by rfl) 42 i42 z42 3 32 Try.underlying49 hi42 hz42 hsz42 hby42 hzs42 (by decide) (.slice none 0 0) 0 [] (by rfl) (sl_nil _ _ _) (some ⟨g, 0, none⟩) pn lc ((pcells n.l).take (pn * 3)) (by rfl) HT1.out HC1.out (fun _ e => by cases e) HO1.out (by simp only [maxLen]; omega) (by omega) ?_; intro v1 w2 hsl1 hgrow1 hat1; rw [Nat.zero_add, List.nil_append] at hsl1; obtain ⟨lo1, lc1, rfl, hz1⟩ := sl_shape hsl1; have hcg1 : Chg (rowOf R) w' w2 := (Chg.refl _ _).grown hgrow1 (fun i hi => by simp [Value.ownBlock] at hi); have cc1 : w2.cell? ⟨x, 1, none⟩ = some (.slice (some ⟨g, 0, none⟩) N lc) := (H.out.cellx hcg1).trans (by rw [HLo.out, HLc.out, HN.out]); have HSL1 := Lib.hid hsl1; have HCG1 := Lib.hid hcg1; have HAT1 := Lib.hid hat1; have HGR1 := Lib.hid hgrow1; clear hsl1 hgrow1 hat1 hcg1 hz1) | (refine wpList_append_sl (by rfl) _ _ 49 (by rfl) 42 i42 z42 3 32 Try.underlying49 hi42 hz42 hsz42 hby42 hzs42 (by decide) (.slice lo1 pn lc1) pn ((pcells n.l).take (pn * 3)) (by rfl) HSL1.out x9 (N - (pn + 1)) (lc - (pn + 1)) ((pcells n.l).drop ((pn + 1) * 3)) (by rfl) HT2.out (HC2.out w2 HGR1.out) HX0.out HO2.out (by simp only [maxLen]; omega) (by omega) ?_; intro v' w3 hsl hgrow hat; obtain ⟨lo2, lc2, rfl, hz2⟩ := sl_shape hsl; have hcg : Chg (rowOf R) w' w3 := HCG1.out.grown hgrow (fun i hi => Or.inr (HNEW.out lo1 lc1 HAT1.out i hi)); have hcx := H.out.cellx hcg; have hfx := H.out.frozx hcg; rw [HLo.out, HLc.out, HN.out] at hcx; have HSL := Lib.hid hsl; have HAT := Lib.hid hat; have HCG := Lib.hid hcg; clear hsl hgrow hat hcg hz2))
    have h9 := H.out.newL HCG.out (l' := l') (lo' := lo2) (lc' := lc2) (m := pn + (N - (pn + 1))) (by rw [HDR.out, List.length_append, List.length_take, List.length_drop, HN.out]; omega) (by rw [HDR.out, pcells_append, pcells_take, pcells_drop]; exact HSL.out) (fun g hg => ?_) (by rw [HDR.out, List.length_append, List.length_take, List.length_drop, HN.out]; omega)
    rotate_left
    · rcases HAT.out with e | e
      · rw [e] at hg
        exact Or.inr (HNEW.out lo1 lc1 HAT1.out g hg)
      · rw [e] at hg
        simp at hg
        have := HCG1.out.size
        exact Or.inr (by omega)
    have H9 := Lib.hid h9
    clear h9
    go_wp2
    go_ret
    exact ⟨rfl, H9.out.1, H9.out.2⟩
  · have hd : decide (c = 0) = false := by simpa using h0
    rw [if_neg h0]
    clear hcap hl hN
    go_enter Try.func36, Try.ntmps36
    go_wp2_with fail
    refine HL.out.mono ?_
    rintro e w' ⟨⟨p, rfl, hp⟩, rfl⟩
    clear hp
    go_wp2
    go_ret
    exact ⟨rfl, HM.out, Chg.refl _ _⟩

set_option maxRecDepth 100000 in
set_option maxHeartbeats 1000000 in
theorem rtake_any (h : RefRep w x R F n) (i k j : Int) (hj : i64 j) :
    Calls Try.prog 35 #[.pointer (some ⟨x, 0, none⟩), .int .i64 i, .int .i64 k, .int .i64 j] w fun e w' => e = .returned (.tuple #[(takeM n i k j).2.1, .int .i64 (takeM n i k j).2.2]) ∧ RefIs w' x (fun g => F g ∨ w.heap.size ≤ g) (takeM n i k j).1 ∧ Chg F w w' := by
  obtain ⟨F', HF, hF, h⟩ : ∃ F' : Nat → Prop, Hid (∀ g, F' g → F g) ∧ (∀ g, F' g → g < w.heap.size) ∧ RefRep w x R F' n := ⟨_, Lib.hid (fun g e => e.1), fun g e => e.2, h.tight⟩
  have HFF := Lib.hid hF
  have HK := Lib.hid (show ∀ W, RefRep W x R F' n → _ from fun W h => rlook_any h i k j hj)
  have HD := Lib.hid (show ∀ W, RefRep W x R F' n → _ from fun W h => rdrop_any h i k j hj)
  have HP := Lib.hid (show ∀ W, RefRep W x R F' n → _ from fun W h => rparted_any h i k)
  have H := Lib.hid h
  have HR := Lib.hid (H.out.stay (w' := w.alloc (.cells #[.int .i64 0, .int .i64 0, .string ⟨#[]⟩] 42)) (G := fun _ => False) ((Chg.refl _ _).alloc _) (fun _ _ h => h))
  have HC := Lib.hid (show Chg F' w (w.alloc (.cells #[.int .i64 0, .int .i64 0, .string ⟨#[]⟩] 42)) from (Chg.refl _ _).alloc _)
  have HB := Lib.hid (show (w.alloc (.cells #[.int .i64 0, .int .i64 0, .string ⟨#[]⟩] 42)).heap[w.heap.size]? = some (.cells #[.int .i64 0, .int .i64 0, .string ⟨#[]⟩] 42) from Go.heap_alloc_new _ _)
  have HSZ := Lib.hid (show w.heap.size < (w.alloc (.cells #[.int .i64 0, .int .i64 0, .string ⟨#[]⟩] 42)).heap.size by simp)
  obtain ⟨N, hN⟩ : ∃ N, n.l.length = N := ⟨_, rfl⟩
  have HN := Lib.hid hN
  clear hN
  by_cases h0 : (peekM n i k j).2 = 0
  · cases hp : partedM n.ms i k
    · have e0 : takeM n i k j = ((dropM n i k j).1, pkt i k (peekM n i k j).1, 0) := by unfold takeM; rw [if_pos h0, hp]; simp
      have e1 : (dropM n i k j).2 = 0 := by unfold dropM; rw [if_pos h0]
      rw [e0]
      rw [h0] at HK
      rw [e1] at HD
      rw [hp] at HP
      generalize (peekM n i k j).1 = s at *
      generalize (dropM n i k j).1 = n' at *
      unfold pkt
      clear h0 e0 e1 hp h hj H hF
      go_enter Try.func35, Try.ntmps35
      go_wp2_with fail
      generalize w.alloc (.cells #[.int .i64 0, .int .i64 0, .string ⟨#[]⟩] 42) = W at *
      generalize hkb : w.heap.size = kb at *
      refine (HK.out W HR.out).mono ?_
      rintro e w' ⟨⟨p, rfl, hpp⟩, rfl⟩
      obtain ⟨pn, hpl, rfl, hfr, hto, htx, -⟩ := hpp trivial
      have HFR := Lib.hid hfr
      have HTO := Lib.hid hto
      have HTX := Lib.hid htx
      clear hpp hfr hto htx
      go_wp2_with fail
      refine (HP.out _ HR.out).mono ?_
      rintro e w2 ⟨rfl, hc2⟩
      have HR2 := Lib.hid (HR.out.stay hc2 (fun _ _ h => h))
      have HC2 := Lib.hid (HC.out.trans (hc2.mono (G := F') (fun _ h => h.elim)))
      have HB2 := Lib.hid ((hc2.block kb HSZ.out (fun h => h)).trans HB.out)
      have HSZ2 := Lib.hid (Nat.lt_of_lt_of_le HSZ.out hc2.size)
      have c1 := HR2.out.c1
      obtain ⟨g, hlo, a0, a1, a2⟩ := HR2.out.msg hpl
      rw [HFR.out] at a0
      rw [HTO.out] at a1
      rw [HTX.out] at a2
      rw [hlo, HN.out] at c1
      have q0 : (0 : Int) ≤ pn := by omega
      have q1 : (pn : Int) < N := by have := HN.out; omega
      have HR3 := Lib.hid (HR2.out.stay (w' := w2.alloc (.cells #[.int .i64 i, .int .i64 k, .string s] 42)) (G := fun _ => False) ((Chg.refl _ _).alloc _) (fun _ _ h => h))
      have HC3 := Lib.hid (HC2.out.alloc (.cells #[.int .i64 i, .int .i64 k, .string s] 42))
      have HB3 := Lib.hid ((Below.heap_alloc w2 (.cells #[.int .i64 i, .int .i64 k, .string s] 42) _ HSZ2.out).trans HB2.out)
      have HX3 := Lib.hid (Go.heap_alloc_new w2 (.cells #[.int .i64 i, .int .i64 k, .string s] 42))
      have HS3 := Lib.hid (show w2.heap.size < (w2.alloc (.cells #[.int .i64 i, .int .i64 k, .string s] 42)).heap.size ∧ kb < w2.heap.size from ⟨by simp, HSZ2.out⟩)
      clear hc2 HR HC HB HSZ hlo
      go_wp2_with fail
      clear a0 a1 a2 c1
      generalize w2.alloc (.cells #[.int .i64 i, .int .i64 k, .string s] 42) = W3 at *
      generalize hk2 : w2.heap.size = k2 at *
      refine (HD.out _ HR3.out).mono ?_
      rintro e w3 ⟨rfl, hn3, hc3⟩
      have HN3 := Lib.hid hn3
      have hkb2 : ¬ F' kb := fun e => by have := HFF.out kb e; omega
      have hk22 : ¬ F' k2 := fun e => by have := HFF.out k2 e; have := HS3.out.2; omega
      have HB4 := (hc3.block kb (Nat.lt_trans HS3.out.2 HS3.out.1) hkb2).trans HB3.out
      have HX4 := (hc3.block k2 HS3.out.1 hk22).trans HX3.out
      have HC4 := Lib.hid (HC3.out.trans hc3)
      have HB5 := Lib.hid HB4
      have q0 : w3.cell? ⟨kb, 0, none⟩ = some (.int .i64 0) := cell_of HB4 (by simp)
      have q1 : w3.cell? ⟨kb, 1, none⟩ = some (.int .i64 0) := cell_of HB4 (by simp)
      have q2 : w3.cell? ⟨kb, 2, none⟩ = some (.string ⟨#[]⟩) := cell_of HB4 (by simp)
      have r0 : w3.frozen? ⟨kb, 0, none⟩ = false := frozen_of HB4
      have r1 : w3.frozen? ⟨kb, 1, none⟩ = false := frozen_of HB4
      have r2 : w3.frozen? ⟨kb, 2, none⟩ = false := frozen_of HB4
      have t0 : w3.cell? ⟨k2, 0, none⟩ = some (.int .i64 i) := cell_of HX4 (by simp)
      have t1 : w3.cell? ⟨k2, 1, none⟩ = some (.int .i64 k) := cell_of HX4 (by simp)
      have t2 : w3.cell? ⟨k2, 2, none⟩ = some (.string s) := cell_of HX4 (by simp)
      clear hn3 hc3 HB4 HX4
      go_wp2
      obtain ⟨hh, hc⟩ := fin3 HB5.out (.int .i64 i) (.int .i64 k) (.string s)
      have hz2 := HSZ2.out
      have hz3 := HS3.out.1
      refine bodyPost_ret (results_cell_row_tmp (p := 8) (u := 9) (ty := 42) rfl _ _ kb 42 _ (0, 0) _ rfl hh Try.underlying42 rfl (by kernel_rfl)) rfl ⟨rfl, ?_, ?_⟩
      · exact (HN3.out.stay hc (fun g hg e => by subst e; rcases hg with a | a; exact hkb2 a; omega)).wide (fun g hg => hg.imp (HF.out g) (fun a => by omega))
      · exact (HC4.out.trans' hc (fun g e => Or.inr (by omega))).mono HF.out
    · have e0 : takeM n i k j = (n, pkt 0 0 ⟨#[]⟩, 3) := by unfold takeM; rw [if_pos h0, hp]; simp
      rw [e0]
      rw [h0] at HK
      rw [hp] at HP
      generalize (peekM n i k j).1 = s at *
      unfold pkt
      clear h0 e0 hp h hj H HD hF
      go_enter Try.func35, Try.ntmps35
      go_wp2_with fail
      generalize w.alloc (.cells #[.int .i64 0, .int .i64 0, .string ⟨#[]⟩] 42) = W at *
      generalize hkb : w.heap.size = kb at *
      refine (HK.out W HR.out).mono ?_
      rintro e w' ⟨⟨p, rfl, hpp⟩, rfl⟩
      clear hpp
      go_wp2_with fail
      refine (HP.out _ HR.out).mono ?_
      rintro e w3 ⟨rfl, hc2⟩
      have HR2 := Lib.hid (HR.out.stay hc2 (fun _ _ h => h))
      have HC3 := Lib.hid (HC.out.trans (hc2.mono (G := F') (fun _ h => h.elim)))
      have HB3 := (hc2.block kb HSZ.out (fun h => h)).trans HB.out
      have HB4 := Lib.hid HB3
      have q0 : w3.cell? ⟨kb, 0, none⟩ = some (.int .i64 0) := cell_of HB3 (by simp)
      have q1 : w3.cell? ⟨kb, 1, none⟩ = some (.int .i64 0) := cell_of HB3 (by simp)
      have q2 : w3.cell? ⟨kb, 2, none⟩ = some (.string ⟨#[]⟩) := cell_of HB3 (by simp)
      have r0 : w3.frozen? ⟨kb, 0, none⟩ = false := frozen_of HB3
      have r1 : w3.frozen? ⟨kb, 1, none⟩ = false := frozen_of HB3
      have r2 : w3.frozen? ⟨kb, 2, none⟩ = false := frozen_of HB3
      have hkb2 : ¬ F' kb := fun e => by have := HFF.out kb e; omega
      clear hc2 HB3 HB HC HR HSZ
      go_wp2
      obtain ⟨hh, hc⟩ := fin3 HB4.out (.int .i64 0) (.int .i64 0) (.string ⟨#[]⟩)
      refine bodyPost_ret (results_cell_row_tmp (p := 8) (u := 9) (ty := 42) rfl _ _ kb 42 _ (0, 0) _ rfl hh Try.underlying42 rfl (by kernel_rfl)) rfl ⟨rfl, ?_, ?_⟩
      · exact ⟨R, (HR2.out.stay hc (fun g hg e => by subst e; exact hkb2 hg)).wide (fun g hg => Or.inl (HF.out g hg))⟩
      · exact (HC3.out.trans' hc (fun g e => Or.inr (by omega))).mono HF.out
  · have e0 : takeM n i k j = (n, pkt 0 0 ⟨#[]⟩, (peekM n i k j).2) := by unfold takeM; rw [if_neg h0]
    rw [e0]
    generalize (peekM n i k j).1 = s at *
    generalize (peekM n i k j).2 = e2 at *
    have hne : (e2 != 0) = true := by simpa using h0
    unfold pkt
    clear h0 e0 h hj H HD HP hF
    go_enter Try.func35, Try.ntmps35
    go_wp2_with fail
    generalize w.alloc (.cells #[.int .i64 0, .int .i64 0, .string ⟨#[]⟩] 42) = W at *
    generalize hkb : w.heap.size = kb at *
    refine (HK.out W HR.out).mono ?_
    rintro e w3 ⟨⟨p, rfl, hpp⟩, rfl⟩
    clear hpp
    have HB3 := HB.out
    have q0 : w3.cell? ⟨kb, 0, none⟩ = some (.int .i64 0) := cell_of HB3 (by simp)
    have q1 : w3.cell? ⟨kb, 1, none⟩ = some (.int .i64 0) := cell_of HB3 (by simp)
    have q2 : w3.cell? ⟨kb, 2, none⟩ = some (.string ⟨#[]⟩) := cell_of HB3 (by simp)
    have r0 : w3.frozen? ⟨kb, 0, none⟩ = false := frozen_of HB3
    have r1 : w3.frozen? ⟨kb, 1, none⟩ = false := frozen_of HB3
    have r2 : w3.frozen? ⟨kb, 2, none⟩ = false := frozen_of HB3
    have hkb2 : ¬ F' kb := fun e => by have := HFF.out kb e; omega
    clear HB3
    go_wp2
    obtain ⟨hh, hc⟩ := fin3 HB.out (.int .i64 0) (.int .i64 0) (.string ⟨#[]⟩)
    refine bodyPost_ret (results_cell_row_tmp (p := 8) (u := 9) (ty := 42) rfl _ _ kb 42 _ (0, 0) _ rfl hh Try.underlying42 rfl (by kernel_rfl)) rfl ⟨rfl, ?_, ?_⟩
    · exact ⟨R, (HR.out.stay hc (fun g hg e => by subst e; exact hkb2 hg)).wide (fun g hg => Or.inl (HF.out g hg))⟩
    · exact (HC.out.trans' hc (fun g e => Or.inr (by omega))).mono HF.out
end
end Go.Proofs.Ytpgioccbnkcjcaa
