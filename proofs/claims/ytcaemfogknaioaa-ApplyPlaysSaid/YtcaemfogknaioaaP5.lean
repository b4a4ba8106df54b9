/- Walks: the document's Read. -/
import Derived.Test.YtcaemfogknaioaaP4
import Derived.Deep.RegionWith
namespace Go.Proofs.Ytcaemfogknaioaa
set_option linter.unusedVariables false
set_option linter.unusedSimpArgs false
open Go.RowKit Mk Go.Sort

theorem neq_code {e : Nat} (h : e ≠ 0) : ((e : Int) != 0) = true := by simp; omega
set_option maxRecDepth 100000 in
set_option maxHeartbeats 8000000 in
theorem rread_any (s : ByteArray) (hs : s.size ≤ 1099511627776) (w : World) :
    Calls Try.prog 22 #[.string s] w fun e w' => ((refL s = none ∧ e = .returned (.pointer none)) ∨ ∃ m b, refL s = some m ∧ e = .returned (.pointer (some ⟨b, 0, none⟩)) ∧ ∃ v, RfAt w b v m w') ∧ Chg (fun _ => False) w w' := by
  have hml : ∀ l : List UInt8, l.length ≤ 1099511627776 → (str l).size ≤ maxLen := fun l h => by simp only [maxLen]; exact Nat.le_trans h (by decide)
  have HML := Lib.hid hml
  obtain ⟨l, hl⟩ : ∃ l, s.data.toList = l := ⟨_, rfl⟩
  obtain rfl : s = str l := by rw [← hl]
  clear hl hml
  have hs : l.length ≤ 1099511627776 := hs
  have N1 := rreadNum_any (str l) (HML.out _ hs) w
  unfold rnumV at N1
  have HRF : refL (str l) = (if (Cod.rnum l).2.2 ≠ 0 then none else if (Cod.rnum (Cod.rnum l).2.1).2.2 ≠ 0 then none else match cliR (Cod.rnum (Cod.rnum l).2.1).1 (Cod.rnum (Cod.rnum l).2.1).2.1 0 with | none => none | some p => endL (Cod.rnum l).1 p.1 p.2) := rfl
  obtain ⟨RL, HRL⟩ : ∃ R, Hid (refL (str l) = R) := ⟨_, Lib.hid rfl⟩
  rw [HRL.out] at HRF ⊢
  clear HRL
  have b1 := rnum_le l
  have x1 := rnum_lt l
  generalize Cod.rnum l = a at *
  obtain ⟨i, l1, e1⟩ := a
  simp only at N1 HRF b1 x1
  have N1 := Lib.hid N1
  by_cases he : e1 = 0
  case neg =>
    have HN := Lib.hid (show RL = none by rw [HRF, if_pos he])
    have q1 := neq_code he
    clear HRF
    go_enter Try.func22, Try.ntmps22
    go_wp2_with fail
    refine N1.out.mono ?_
    rintro e W1 ⟨rfl, hb⟩
    go_wp2_with fail
    go_ret
    exact ⟨Or.inl ⟨HN.out, rfl⟩, chg_of_below hb⟩
  subst he
  rw [if_neg (by decide)] at HRF
  have N2 := fun w => rreadNum_any (str l1) (HML.out _ (Nat.le_trans b1 hs)) w
  unfold rnumV at N2
  have b2 := rnum_le l1
  have x2 := rnum_lt l1
  simp only at N2
  generalize Cod.rnum l1 = a at *
  obtain ⟨N, l2, e2⟩ := a
  simp only at N2 HRF b2 x2
  have N2 := Lib.hid N2
  by_cases he : e2 = 0
  case neg =>
    have HN := Lib.hid (show RL = none by rw [HRF, if_pos he])
    have q1 := neq_code he
    clear HRF
    go_enter Try.func22, Try.ntmps22
    go_wp2_with fail
    refine N1.out.mono ?_
    rintro e W1 ⟨rfl, hb⟩
    go_wp2_with fail
    refine (N2.out _).mono ?_
    rintro e W2 ⟨rfl, hb2⟩
    go_wp2_with fail
    go_ret
    exact ⟨Or.inl ⟨HN.out, rfl⟩, (chg_of_below hb).trans (chg_of_below hb2)⟩
  subst he
  rw [if_neg (by decide)] at HRF
  have HRF := Lib.hid HRF
  have hl2 : l2.length ≤ l.length := Nat.le_trans b2 b1
  obtain ⟨iz, zz, hi9, hz9, hsz9, hby9, hzs9⟩ := info86
  go_enter Try.func22, Try.ntmps22
  go_wp2_with fail
  refine N1.out.mono ?_
  rintro e W1 ⟨rfl, hb1⟩
  go_wp2_with fail
  refine (N2.out _).mono ?_
  rintro e W2 ⟨rfl, hb2⟩
  have c2 := (chg_of_below hb1).trans (chg_of_below hb2)
  have HT0 := Lib.hid (show RfAt w W2.heap.size (.slice none 0 0) ⟨⟨#[]⟩, i, []⟩ (W2.alloc (.cells #[.string ⟨#[]⟩, .int .u64 (i : Nat), .slice none 0 0] 63)) from
    ⟨Go.heap_alloc_new _ _, sl_nil _ _ _, c2.alloc _, c2.size, fun g e => by simp [Value.ownBlock] at e⟩)
  clear hb1 hb2 c2 N1 N2
  obtain ⟨b, HB⟩ : ∃ k, Hid (W2.heap.size = k) := ⟨_, Lib.hid rfl⟩
  obtain ⟨W3, HW3⟩ : ∃ W, Hid (W2.alloc (.cells #[.string ⟨#[]⟩, .int .u64 (i : Nat), .slice none 0 0] 63) = W) := ⟨_, Lib.hid rfl⟩
  rw [HW3.out, HB.out] at HT0
  go_upto_region 8 with fail
  rw [HW3.out, HB.out]
  clear HW3 HB
  go_wp2_with fail
  go_loopw [0, 7, 8] (fun v0 v7 v8 wr => ∃ (k b0 : Nat) (L : List UInt8) (C : List (Nat × Last)) (v : Value), v0 = .string (str L) ∧ v7 = .int .u64 b0 ∧ v8 = .int .u64 k ∧ k ≤ N ∧ C.length + L.length ≤ l.length ∧ Hid (cliR N l2 0 = (cliR (N - k) L b0).map fun p => (C ++ p.1, p.2)) ∧ Hid (RfAt w b v ⟨⟨#[]⟩, i, C⟩ wr)) (fun _ _ v8 _ => N - (intOf v8).toNat)
  case atStart => exact ⟨0, 0, l2, [], _, rfl, rfl, rfl, Nat.zero_le _, by simpa using hl2, Lib.hid (by simp), HT0⟩
  case round =>
    obtain ⟨k, b0, L, C, v, rfl, rfl, rfl, hk, hCL, HK, HT⟩ := hrel
    clear HT0
    by_cases hkn : k < N
    · have q1 : decide ((k : Int) < (N : Int)) = true := by simp; omega
      have hlL : L.length ≤ 1099511627776 := by omega
      obtain ⟨x, L1, e1, h1⟩ : ∃ x L1 e1, Cod.rnum L = (x, L1, e1) := ⟨(Cod.rnum L).1, (Cod.rnum L).2.1, (Cod.rnum L).2.2, rfl⟩
      have A1 := fun w => rreadNum_any (str L) (HML.out _ hlL) w
      have t1 := rnum_le L
      have t1' := @rnum_less L
      unfold rnumV at A1
      simp only at A1
      rw [h1] at A1 t1 t1'
      simp only at A1 t1 t1'
      obtain ⟨q, L2, e2, h2⟩ : ∃ q' L2' e2', Cod.rnum L1 = (q', L2', e2') := ⟨(Cod.rnum L1).1, (Cod.rnum L1).2.1, (Cod.rnum L1).2.2, rfl⟩
      have A2 := fun w => rreadNum_any (str L1) (HML.out _ (by omega)) w
      have t2 := rnum_le L1
      unfold rnumV at A2
      simp only at A2
      rw [h2] at A2 t2
      simp only at A2 t2
      obtain ⟨a, L3, e3, h3⟩ : ∃ a' L3' e3', Cod.rtext L2 = (a', L3', e3') := ⟨(Cod.rtext L2).1, (Cod.rtext L2).2.1, (Cod.rtext L2).2.2, rfl⟩
      have A3 := fun w => rreadText_any (str L2) (HML.out _ (by omega)) w
      have t3 := rtext_le L2
      unfold rtextV at A3
      simp only at A3
      rw [h3] at A3 t3
      simp only at A3 t3
      have hst := cliR_step (N - (k + 1)) L b0 h1 h2 h3
      rw [show N - (k + 1) + 1 = N - k by omega] at hst
      have HST := Lib.hid hst
      have HA1 := Lib.hid A1
      have HA2 := Lib.hid A2
      have HA3 := Lib.hid A3
      clear A1 A2 A3 h1 h2 h3 hst
      have HTA := Lib.hid (HT.out.same ((Chg.refl _ wr).alloc (.cells #[.int .u64 0, .int .u64 0, .string ⟨#[]⟩] 86)))
      have HX := Lib.hid (Go.heap_alloc_new wr (.cells #[.int .u64 0, .int .u64 0, .string ⟨#[]⟩] 86))
      obtain ⟨xb, HXB⟩ : ∃ kk, Hid (wr.heap.size = kk) := ⟨_, Lib.hid rfl⟩
      obtain ⟨V0, HV0⟩ : ∃ W, Hid (wr.alloc (.cells #[.int .u64 0, .int .u64 0, .string ⟨#[]⟩] 86) = W) := ⟨_, Lib.hid rfl⟩
      rw [HV0.out] at HTA HX
      rw [HXB.out] at HX
      have HXL := Lib.hid (show wr.heap.size ≤ xb by rw [HXB.out]; exact Nat.le_refl _)
      have HC0 := Lib.hid (show Chg (fun _ => False) wr V0 by rw [← HV0.out]; exact (Chg.refl _ _).alloc _)
      go_upto_region 13 with fail
      rw [HV0.out, HXB.out]
      clear HV0
      go_wp2_with fail
      refine (HA1.out _).mono ?_
      rintro e V1 ⟨rfl, hb⟩
      have c1 := chg_of_below hb
      have hx1 := (c1.block xb (Array.getElem?_eq_some_iff.1 HX.out).1 (fun f => f)).trans HX.out
      have y1 : V1.cell? ⟨xb, 0, none⟩ = some (.int .u64 0) := cell_of hx1 rfl
      have y1f : V1.frozen? ⟨xb, 0, none⟩ = false := frozen_of hx1
      have HX1 := Lib.hid (Mk.heap_setCell_same (i := 0) hx1 (.int .u64 (x : Nat)))
      have HC1 := Lib.hid ((((HC0.out.trans c1).mono (G := fun g => g = xb) (fun _ f => f.elim))).setCell (a := ⟨xb, 0, none⟩) (Or.inl rfl) (.int .u64 (x : Nat)))
      clear hb c1 hx1
      by_cases hb1 : e1 = 0 ∧ b0 < x
      case neg =>
        have HN := Lib.hid (show RL = none by
          have e := HK.out
          rw [HST.out, if_pos (by omega)] at e
          rw [HRF.out, e]; rfl)
        have HCF := Lib.hid (show Chg (fun _ => False) w (V1.setCell ⟨xb, 0, none⟩ (.int .u64 (x : Nat))) from HT.out.chg.trans' HC1.out (fun g e => Or.inr (by have := HT.out.chg.size; have := HXL.out; omega)))
        have z1 : (V1.setCell ⟨xb, 0, none⟩ (.int .u64 (x : Nat))).cell? ⟨xb, 0, none⟩ = some (.int .u64 (x : Nat)) := cell_of HX1.out rfl
        by_cases he : e1 = 0
        · have d1 : decide ((x : Int) ≤ (b0 : Int)) = true := by simp; omega
          have d2 : decide (x ≤ b0) = true := by simp; omega
          subst he
          clear HST
          go_wp2_with fail
          go_ret
          exact ⟨Or.inl ⟨HN.out, rfl⟩, HCF.out⟩
        · have d1 := neq_code he
          clear HST
          go_wp2_with fail
          go_ret
          exact ⟨Or.inl ⟨HN.out, rfl⟩, HCF.out⟩
      obtain ⟨rfl, hxb⟩ := hb1
      have d1 : decide ((x : Int) ≤ (b0 : Int)) = false := by simp; omega
      have d2 : decide (x ≤ b0) = false := by simp; omega
      have z1 : (V1.setCell ⟨xb, 0, none⟩ (.int .u64 (x : Nat))).cell? ⟨xb, 0, none⟩ = some (.int .u64 (x : Nat)) := cell_of HX1.out rfl
      obtain ⟨V2, HV2⟩ : ∃ W, Hid (V1.setCell ⟨xb, 0, none⟩ (.int .u64 (x : Nat)) = W) := ⟨_, Lib.hid rfl⟩
      rw [HV2.out] at HX1 HC1 z1
      go_upto_region 14 with fail
      rw [HV2.out]
      clear HV2 y1 y1f
      go_wp2_with fail
      refine (HA2.out _).mono ?_
      rintro e V3 ⟨rfl, hb⟩
      have c1 := chg_of_below hb
      have hx1 := (c1.block xb (Array.getElem?_eq_some_iff.1 HX1.out).1 (fun f => f)).trans HX1.out
      have y1 : V3.cell? ⟨xb, 1, none⟩ = some (.int .u64 0) := cell_of hx1 rfl
      have y1f : V3.frozen? ⟨xb, 1, none⟩ = false := frozen_of hx1
      have HX2 := Lib.hid (Mk.heap_setCell_same (i := 1) hx1 (.int .u64 (q : Nat)))
      have HC2 := Lib.hid ((HC1.out.trans (c1.mono (fun _ f => f.elim))).setCell (a := ⟨xb, 1, none⟩) (Or.inl rfl) (.int .u64 (q : Nat)))
      clear hb c1 hx1 z1
      by_cases hb1 : e2 = 0 ∧ q ≠ 0
      case neg =>
        have HN := Lib.hid (show RL = none by
          have e := HK.out
          rw [HST.out, if_neg (by omega), if_pos (by omega)] at e
          rw [HRF.out, e]; rfl)
        have HCF := Lib.hid (show Chg (fun _ => False) w (V3.setCell ⟨xb, 1, none⟩ (.int .u64 (q : Nat))) from HT.out.chg.trans' HC2.out (fun g e => Or.inr (by have := HT.out.chg.size; have := HXL.out; omega)))
        have z1 : (V3.setCell ⟨xb, 1, none⟩ (.int .u64 (q : Nat))).cell? ⟨xb, 1, none⟩ = some (.int .u64 (q : Nat)) := cell_of HX2.out rfl
        by_cases he : e2 = 0
        · have d3 : decide ((q : Int) = 0) = true := by simp; omega
          have d4 : ((q : Int) == 0) = true := by simp; omega
          have d5 : decide (q = 0) = true := by simp; omega
          subst he
          clear HST
          go_wp2_with fail
          go_ret
          exact ⟨Or.inl ⟨HN.out, rfl⟩, HCF.out⟩
        · have d3 := neq_code he
          clear HST
          go_wp2_with fail
          go_ret
          exact ⟨Or.inl ⟨HN.out, rfl⟩, HCF.out⟩
      obtain ⟨rfl, hq0⟩ := hb1
      have d3 : decide ((q : Int) = 0) = false := by simp; omega
      have d4 : ((q : Int) == 0) = false := by simp; omega
      have d5 : decide (q = 0) = false := by simp; omega
      have z1 : (V3.setCell ⟨xb, 1, none⟩ (.int .u64 (q : Nat))).cell? ⟨xb, 1, none⟩ = some (.int .u64 (q : Nat)) := cell_of HX2.out rfl
      obtain ⟨V4, HV4⟩ : ∃ W, Hid (V3.setCell ⟨xb, 1, none⟩ (.int .u64 (q : Nat)) = W) := ⟨_, Lib.hid rfl⟩
      rw [HV4.out] at HX2 HC2 z1
      go_upto_region 18 with fail
      rw [HV4.out]
      clear HV4 y1 y1f
      go_wp2_with fail
      refine (HA3.out _).mono ?_
      rintro e V5 ⟨rfl, hb⟩
      have c1 := chg_of_below hb
      have hx1 := (c1.block xb (Array.getElem?_eq_some_iff.1 HX2.out).1 (fun f => f)).trans HX2.out
      have y1 : V5.cell? ⟨xb, 2, none⟩ = some (.string ⟨#[]⟩) := cell_of hx1 rfl
      have y1f : V5.frozen? ⟨xb, 2, none⟩ = false := frozen_of hx1
      have HX3 := Lib.hid (Mk.heap_setCell_same (i := 2) hx1 (.string (str a)))
      have HC3 := Lib.hid ((HC2.out.trans (c1.mono (fun _ f => f.elim))).setCell (a := ⟨xb, 2, none⟩) (Or.inl rfl) (.string (str a)))
      clear hb c1 hx1 z1
      by_cases he : e3 = 0
      case neg =>
        have HN := Lib.hid (show RL = none by
          have e := HK.out
          rw [HST.out, if_neg (by omega), if_neg (by omega), if_pos he] at e
          rw [HRF.out, e]; rfl)
        have HCF := Lib.hid (show Chg (fun _ => False) w (V5.setCell ⟨xb, 2, none⟩ (.string (str a))) from HT.out.chg.trans' HC3.out (fun g e => Or.inr (by have := HT.out.chg.size; have := HXL.out; omega)))
        have d6 := neq_code he
        clear HST
        go_wp2_with fail
        go_ret
        exact ⟨Or.inl ⟨HN.out, rfl⟩, HCF.out⟩
      subst he
      have HK2 := Lib.hid (show cliR N l2 0 = (cliR (N - (k + 1)) L3 x).map fun p => ((C ++ [(x, (q, str a))]) ++ p.1, p.2) by
        rw [HK.out, HST.out, if_neg (by omega), if_neg (by omega), if_neg (by omega), Option.map_map]
        congr 1
        funext p
        simp)
      have hl1 := t1' trivial
      obtain ⟨V6, HV6⟩ : ∃ W, Hid (V5.setCell ⟨xb, 2, none⟩ (.string (str a)) = W) := ⟨_, Lib.hid rfl⟩
      rw [HV6.out] at HX3 HC3
      go_upto_region 23 with fail
      rw [HV6.out]
      clear HV6 y1 y1f HST HK HA1 HA2 HA3 d1 d2 d3 d4 d5
      have H6 := HT.out.newer (Chg.refl _ wr) HXL.out HC3.out
      obtain ⟨vo, vc, rfl⟩ := sl_shape H6.cl
      have H7 := H6.same ((Chg.refl _ V6).drew)
      have HX7 := Lib.hid (show V6.drew.heap[xb]? = _ from HX3.out)
      have u0 : V6.drew.cell? ⟨xb, 0, none⟩ = some (.int .u64 (x : Nat)) := cell_of HX7.out rfl
      have u1 : V6.drew.cell? ⟨xb, 1, none⟩ = some (.int .u64 (q : Nat)) := cell_of HX7.out rfl
      have u2 : V6.drew.cell? ⟨xb, 2, none⟩ = some (.string (str a)) := cell_of HX7.out rfl
      have u3 : V6.drew.cell? ⟨b, 2, none⟩ = some (.slice vo C.length vc) := cell_of H7.box rfl
      have H8 := H6.same (((Chg.refl _ V6).alloc (.cells #[.int .u64 (x : Nat), .int .u64 (q : Nat), .string (str a)] 86)).drew)
      have u4 : (V6.alloc (.cells #[.int .u64 (x : Nat), .int .u64 (q : Nat), .string (str a)] 86)).drew.cell? ⟨b, 2, none⟩ = some (.slice vo C.length vc) := cell_of H8.box rfl
      have w0 : (V6.alloc (.cells #[.int .u64 (x : Nat), .int .u64 (q : Nat), .string (str a)] 86)).drew.cell? ⟨xb, 0, none⟩ = some (.int .u64 (x : Nat)) := cell_of (show (V6.alloc (.cells #[.int .u64 (x : Nat), .int .u64 (q : Nat), .string (str a)] 86)).drew.heap[xb]? = _ from (Below.heap_alloc _ _ _ (Array.getElem?_eq_some_iff.1 HX3.out).1).trans HX3.out) rfl
      have w1 : (V6.alloc (.cells #[.int .u64 (x : Nat), .int .u64 (q : Nat), .string (str a)] 86)).drew.cell? ⟨xb, 1, none⟩ = some (.int .u64 (q : Nat)) := cell_of (show (V6.alloc (.cells #[.int .u64 (x : Nat), .int .u64 (q : Nat), .string (str a)] 86)).drew.heap[xb]? = _ from (Below.heap_alloc _ _ _ (Array.getElem?_eq_some_iff.1 HX3.out).1).trans HX3.out) rfl
      have w2 : (V6.alloc (.cells #[.int .u64 (x : Nat), .int .u64 (q : Nat), .string (str a)] 86)).drew.cell? ⟨xb, 2, none⟩ = some (.string (str a)) := cell_of (show (V6.alloc (.cells #[.int .u64 (x : Nat), .int .u64 (q : Nat), .string (str a)] 86)).drew.heap[xb]? = _ from (Below.heap_alloc _ _ _ (Array.getElem?_eq_some_iff.1 HX3.out).1).trans HX3.out) rfl
      have HSL := Lib.hid H8.cl
      have HCN := Lib.hid (cell_new_three (show (V6.alloc (.cells #[.int .u64 (x : Nat), .int .u64 (q : Nat), .string (str a)] 86)).drew.heap[V6.heap.size]? = some (.cells #[.int .u64 (x : Nat), .int .u64 (q : Nat), .string (str a)] 86) from Go.heap_alloc_new V6 (.cells #[.int .u64 (x : Nat), .int .u64 (q : Nat), .string (str a)] 86)))
      have HF := Lib.hid (fun (v' : Value) (w2 : World) hs hg ha => H8.client (p := (x, (q, str a))) (v' := v') (W' := w2) hs hg ha)
      have HTL1 := Lib.hid (show C.length + 1 ≤ maxLen by simp only [maxLen]; omega)
      have HTL2 := Lib.hid (show (C.length + 1) * 32 ≤ 140737488355328 by omega)
      clear H6 H7 H8 HT HX3 HC3 HX7 HC2 HC1 HC0 HX2 HX1 HX HTA
      go_region_law (refine step_append_sl (by rfl) _ _ 61 (by rfl) 86 iz zz 3 32 Try.underlying61 hi9 hz9 hsz9 hby9 hzs9 (by decide) (.slice vo C.length vc) C.length (cliV C) (by rfl) HSL.out (some ⟨V6.heap.size, 0, none⟩) 1 1 [.int .u64 (x : Nat), .int .u64 (q : Nat), .string (str a)] (by rfl) (by rfl) (fun _ => ⟨_, rfl, HCN.out⟩) (fun h => absurd h (by decide)) (by simp [Value.oneCell']) HTL1.out HTL2.out ?_; intro v' w4 hs hg4 ha; obtain ⟨y1, y5, y2⟩ := HF.out v' w4 hs hg4 ha; have HY := Lib.hid y2; clear y2; obtain ⟨vo', vc', rfl⟩ := sl_shape hs; clear hs hg4 ha)
      all_goals
        go_wp2_with fail
        go_roundw
        case rel => exact ⟨k + 1, x, L3, C ++ [(x, (q, str a))], _, rfl, rfl, by go_num, by omega, by simp only [List.length_append, List.length_singleton]; omega, HK2, HY⟩
        case measure => simp [intOf]; omega
    · have q1 : decide ((k : Int) < (N : Int)) = false := by simp; omega
      have hcl : cliR N l2 0 = some (C, L) := by
        rw [HK.out, show N - k = 0 by omega]; simp [cliR]
      have HEN := HRF.out
      rw [hcl] at HEN
      simp only at HEN
      clear HRF HK hcl
      have A3 := fun w => rreadText_any (str L) (HML.out _ (by omega)) w
      unfold rtextV at A3
      simp only at A3
      unfold endL at HEN
      generalize Cod.rtext L = T at *
      obtain ⟨a, L3, e3⟩ := T
      simp only at A3 HEN
      have HA3 := Lib.hid A3
      have HEN := Lib.hid HEN
      clear A3
      go_wp2_with fail
      refine (HA3.out _).mono ?_
      rintro e V1 ⟨rfl, hb⟩
      have h1 := HT.out.same (chg_of_below hb)
      obtain ⟨y1, y2, h2⟩ := h1.state (str a)
      have z1 : (V1.setCell ⟨b, 0, none⟩ (.string (str a))).cell? ⟨b, 0, none⟩ = some (.string (str a)) := cell_of h2.box rfl
      have H2 := Lib.hid h2
      clear hb h1 h2 HA3 HT
      by_cases he : e3 = 0
      case neg =>
        have HN := Lib.hid (show RL = none by rw [HEN.out]; exact if_neg (fun h => he h.1))
        have d6 := neq_code he
        go_wp2_with fail
        go_ret
        exact ⟨Or.inl ⟨HN.out, rfl⟩, H2.out.chg⟩
      subst he
      have hq := bytes_isEmpty (str L3)
      by_cases h0 : L3 = []
      case neg =>
        have HN := Lib.hid (show RL = none by rw [HEN.out]; exact if_neg (fun h => h0 h.2.1))
        have hd : decide ((str L3).size = 0) = false := decide_eq_false (fun e => h0 (str_nil.1 e))
        rw [hd] at hq
        clear hd
        go_wp2_with fail
        go_ret
        exact ⟨Or.inl ⟨HN.out, rfl⟩, H2.out.chg⟩
      have hd : decide ((str L3).size = 0) = true := decide_eq_true (str_nil.2 h0)
      rw [hd] at hq
      clear hd
      have HOK := Lib.hid (show okS (str a) = if h : 0 < (str a).size then decide ((str a)[0].toNat ≠ 33) else true from rfl)
      generalize str a = A at *
      generalize str L3 = A3 at *
      by_cases hA : 0 < A.size
      · have d1 : decide ((0 : Int) < A.size) = true := by simp; omega
        have d2 : (0 : Int) < A.size := by omega
        have ho := HOK.out
        rw [dif_pos hA] at ho
        obtain ⟨z, hz⟩ : ∃ z, decide (A[0].toNat ≠ 33) = z := ⟨_, rfl⟩
        have q2 : (((A[0].toNat : Nat) : Int) == 33) = !z := by rw [← hz]; by_cases e : A[0].toNat = 33 <;> simp [e] <;> omega
        have q3 : decide (((A[0].toNat : Nat) : Int) = 33) = !z := by rw [← hz]; by_cases e : A[0].toNat = 33 <;> simp [e] <;> omega
        have q4 : decide (A[0].toNat = 33) = !z := by rw [← hz]; by_cases e : A[0].toNat = 33 <;> simp [e]
        rw [hz] at ho
        clear hz
        cases z
        · have HN := Lib.hid (show RL = none by rw [HEN.out]; exact if_neg (fun h => by rw [ho] at h; cases h.2.2))
          rw [Bool.not_false] at q2 q3 q4
          clear ho
          go_wp2_with fail
          go_ret
          exact ⟨Or.inl ⟨HN.out, rfl⟩, H2.out.chg⟩
        · have HN := Lib.hid (show RL = some ⟨A, i, C⟩ by rw [HEN.out]; exact if_pos ⟨rfl, h0, ho⟩)
          rw [Bool.not_true] at q2 q3 q4
          clear ho
          go_wp2_with fail
          go_ret
          exact ⟨Or.inr ⟨_, _, HN.out, rfl, _, H2.out⟩, H2.out.chg⟩
      · have d1 : decide ((0 : Int) < A.size) = false := decide_eq_false (by omega)
        have ho := HOK.out
        rw [dif_neg hA] at ho
        have HN := Lib.hid (show RL = some ⟨A, i, C⟩ by rw [HEN.out]; exact if_pos ⟨rfl, h0, ho⟩)
        clear ho
        go_wp2_with fail
        go_ret
        exact ⟨Or.inr ⟨_, _, HN.out, rfl, _, H2.out⟩, H2.out.chg⟩
end Go.Proofs.Ytcaemfogknaioaa
