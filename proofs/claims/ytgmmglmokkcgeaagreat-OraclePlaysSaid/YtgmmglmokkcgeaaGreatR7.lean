/- Walks: the document's decide. Printed by genR5.py. -/
import Derived.Test.YtgmmglmokkcgeaaGreatR4
import Derived.Test.YtgmmglmokkcgeaaGreatE1
namespace Go.Proofs.YtgmmglmokkcgeaaGreat
set_option linter.unusedVariables false
set_option linter.unusedSimpArgs false
set_option linter.unusedSectionVars false
open Go.RowKit Mk Go.Sort

theorem insF_drop {K V : Type} [DecidableEq K] (lt : K → K → Bool) (x : K) (v : V) {C : List (K × V)} {j : Nat} (hj : j < C.length) (O : List (K × V)) (d : Bool) : insF lt x v O d (C.drop j) = insF lt x v ((if (!d && lt x C[j].1) = true then O ++ [(x, v)] else O) ++ [C[j]]) (d || lt x C[j].1) (C.drop (j + 1)) := by
  rw [List.drop_eq_getElem_cons hj]
  rfl
theorem lastF_drop {K V : Type} [DecidableEq K] (lt : K → K → Bool) (x : K) (v : V) {C : List (K × V)} {j : Nat} (hj : j < C.length) (O : List (K × V)) (d : Bool) : lastF lt x v O d (C.drop j) = if C[j].1 = x then lastF lt x v O d (C.drop (j + 1)) else lastF lt x v ((if (!d && lt x C[j].1) = true then O ++ [(x, v)] else O) ++ [C[j]]) (d || lt x C[j].1) (C.drop (j + 1)) := by
  rw [List.drop_eq_getElem_cons hj]
  rfl
theorem out_bounds {o j N B : Nat} (h1 : o ≤ 2 * j + 1) (h2 : j ≤ N) (h3 : N ≤ 1000000) (hB : B ≤ 64) : o + 1 ≤ maxLen ∧ (o + 1) * B ≤ 140737488355328 := by
  have h4 : (o + 1) * B ≤ (o + 1) * 64 := Nat.mul_le_mul_left _ hB
  simp only [maxLen]
  omega
theorem lt_strs {x k : ByteArray} {t e : Bool} (h1 : lessB x k = t) (h2 : (k.toList == x.toList) = e) : Op.bytesLess k.toList x.toList = (!t && !e) := by
  have h3 := leq_strs k x
  rw [h2] at h3
  have h4 : Op.bytesLess x.toList k.toList = t := h1
  rw [h4] at h3
  have h5 : e = true → Op.bytesLess k.toList x.toList = false := fun he => by
    rw [he, beq_iff_eq] at h2
    rw [h2]
    exact lessB_ord.irr x
  cases e
  · simpa using h3
  · simp [h5 rfl]
section
variable {w w' : World} {b : Nat} {R : RV} {F G : Nat → Prop} {r : RM}
set_option maxRecDepth 100000 in
set_option maxHeartbeats 4000000 in
theorem rdecide_any (h : RRep w b R F r) (st c : Nat) (hs : Ris ltN r.d) (hn : ∀ p ∈ r.d, p.1 ≠ st) (hL : r.d.length ≤ 1000000) :
    Calls Tryz.prog 101 #[.pointer (some ⟨b, 0, none⟩), .int .u64 (st : Nat), .int .u64 (c : Nat)] w fun e w' => e = .returned (.tuple #[]) ∧ RTo w b F { r with d := lay ltN st c r.d } w' := by
  have H := Lib.hid h
  obtain ⟨vo, vc, hvv⟩ := sl_shape h.d
  obtain ⟨Z, hZ⟩ : ∃ Z, lay ltN st c r.d = Z := ⟨_, rfl⟩
  have HZ := Lib.hid (show insF ltN st c [] false r.d = Z by rw [insF_eq ltN_ord st c _ _ hs hn, ← hZ]; rfl)
  rw [hZ]
  obtain ⟨n, hn'⟩ : ∃ n, r.d.length = n := ⟨_, rfl⟩
  have HNN := Lib.hid hn'
  have HVV := Lib.hid hvv
  have HLN := Lib.hid (show n ≤ 1000000 by rw [← hn']; exact hL)
  have HO0 := Lib.hid (Out.nil w 139 2 dE)
  have c20 : w.cell? ⟨b, 3, none⟩ = some (.slice vo n vc) := by rw [← hn', ← hvv]; exact cell_of h.box rfl
  clear h hn' hvv hs hn hL hZ
  go_enter Tryz.func101, Tryz.ntmps101
  go_wp2_with fail
  go_loopw [6, 7, 8] (fun s6 s7 s8 wr => ∃ (j : Nat) (O : List (Nat × Nat)) (oo : Option Addr) (oc : Nat) (dn : Bool), s6 = .slice oo O.length oc ∧ s7 = .bool dn ∧ s8 = .int .i64 j ∧ j ≤ n ∧ O.length ≤ 2 * j ∧ Hid (insF ltN st c O dn (r.d.drop j) = Z) ∧ Hid (Out w 139 2 dE O (.slice oo O.length oc) wr)) (fun _ _ s8 _ => n - (intOf s8).toNat)
  case atStart => exact ⟨0, [], none, 0, false, rfl, rfl, rfl, Nat.zero_le _, Nat.le_refl _, HZ, HO0⟩
  case round =>
    obtain ⟨j, O, oo, oc, dn, rfl, rfl, rfl, hj, hOl, HK, HO⟩ := hrel
    clear HO0 c20
    have hr := H.out.same HO.out.chg
    have c2 : wr.cell? ⟨b, 3, none⟩ = some (.slice vo n vc) := by have := cell_of hr.box (i := 3) (v := R.d) rfl; rw [HVV.out, HNN.out] at this; exact this
    have hln := HLN.out
    by_cases hjn : j < n
    · have q1 : decide ((j : Int) < (n : Int)) = true := by simp; omega
      have hjC : j < r.d.length := by rw [HNN.out]; exact hjn
      obtain ⟨g, cap, hv, hg, d0, d1⟩ := hr.d_at hjC
      rw [HVV.out, HNN.out] at hv
      injection hv with hv1 hv2 hv3
      subst hv1 hv3
      have hstep := insF_drop ltN st c hjC O dn
      rw [HK.out] at hstep
      generalize r.d[j] = p at *
      obtain ⟨k, q⟩ := p
      simp only at d0 d1 hstep
      have l0 : (0 : Int) ≤ j := by omega
      have l1 : (j : Int) < n := by omega
      have HBG := Lib.hid (show b < w.heap.size ∧ g < w.heap.size from ⟨H.out.lt, by have := H.out.d.lt (g := g) (by rw [HVV.out]; rfl); exact this⟩)
      have HBB := Lib.hid (out_bounds (B := 16) (show O.length ≤ 2 * j + 1 by omega) hj hln (by decide))
      have HBC := Lib.hid (out_bounds (B := 16) (show (O ++ [(st, c)]).length ≤ 2 * j + 1 by simp; omega) hj hln (by decide))
      clear hr hv2 hg HK
      cases dn
      · cases hlt : ltN st k
        · have HS := Lib.hid (show Z = insF ltN st c (O ++ [(k, q)]) false (r.d.drop (j + 1)) from by rw [hstep, hlt]; simp)
          have q2 : decide ((st : Int) < (k : Int)) = false := by have := hlt; unfold ltN at this; simpa using this
          have q3 : decide (st < k) = false := by have := hlt; unfold ltN at this; simpa using this
          clear hstep hlt
          go_wp2_with (refine wpList_out (by rfl) (.tmp 38) (.tmp 46) 64 (by rfl) Tryz.underlying64 el139 (by decide) oo oc HO (by rfl) (k, q) (by rfl) (by rfl) (by simp [dE, Value.oneCell']) HBB.out.1 HBB.out.2 ?_; intro ro rc w6 HNR)
          go_roundw
          case rel => exact ⟨j + 1, O ++ [(k, q)], ro, rc, false, by simp, rfl, by go_num, by omega, by simp; omega, Lib.hid HS.out.symm, by simpa using HNR⟩
          case measure => simp [intOf]; omega
        · have HS := Lib.hid (show Z = insF ltN st c ((O ++ [(st, c)]) ++ [(k, q)]) true (r.d.drop (j + 1)) from by rw [hstep, hlt]; simp)
          have q2 : decide ((st : Int) < (k : Int)) = true := by have := hlt; unfold ltN at this; simpa using this
          have q3 : decide (st < k) = true := by have := hlt; unfold ltN at this; simpa using this
          clear hstep hlt
          go_upto_region 8 with (refine wpList_out (by rfl) (.tmp 32) (.tmp 36) 64 (by rfl) Tryz.underlying64 el139 (by decide) oo oc HO (by rfl) (st, c) (by rfl) (by rfl) (by simp [dE, Value.oneCell']) HBB.out.1 HBB.out.2 ?_; intro ao ac w4 HNA)
          have c3 : w4.cell? ⟨b, 3, none⟩ = some (.slice (some ⟨g, 0, none⟩) n vc) := (World.cell?_of_block (a := ⟨b, 3, none⟩) ((HNA.out.chg.block b HBG.out.1 (fun f => f)).trans (HO.out.chg.block b HBG.out.1 (fun f => f)).symm)).trans c2
          have x0 : w4.cell? ⟨g, j * 2, none⟩ = some (.int .u64 (k : Nat)) := (World.cell?_of_block (a := ⟨g, j * 2, none⟩) ((HNA.out.chg.block g HBG.out.2 (fun f => f)).trans (HO.out.chg.block g HBG.out.2 (fun f => f)).symm)).trans d0
          have x1 : w4.cell? ⟨g, j * 2 + 1, none⟩ = some (.int .u64 (q : Nat)) := (World.cell?_of_block (a := ⟨g, j * 2 + 1, none⟩) ((HNA.out.chg.block g HBG.out.2 (fun f => f)).trans (HO.out.chg.block g HBG.out.2 (fun f => f)).symm)).trans d1
          clear c2 d0 d1 q2 q3
          rw [show O.length + 1 = (O ++ [(st, c)]).length by simp] at HNA ⊢
          have HLO := Lib.hid (show (O ++ [(st, c)]).length ≤ 2 * j + 1 by simp; omega)
          obtain ⟨O1, hO1⟩ : ∃ O1, Hid (O ++ [(st, c)] = O1) := ⟨_, Lib.hid rfl⟩
          rw [hO1.out] at HNA HS HLO HBC ⊢
          have hlo := HLO.out
          go_wp2_with (refine wpList_out (by rfl) (.tmp 38) (.tmp 46) 64 (by rfl) Tryz.underlying64 el139 (by decide) ao ac HNA (by rfl) (k, q) (by rfl) (by rfl) (by simp [dE, Value.oneCell']) HBC.out.1 HBC.out.2 ?_; intro ro rc w6 HNR)
          go_roundw
          case rel => exact ⟨j + 1, O1 ++ [(k, q)], ro, rc, true, by simp, rfl, by go_num, by omega, by simp; omega, Lib.hid HS.out.symm, by simpa using HNR⟩
          case measure => simp [intOf]; omega
      · have HS := Lib.hid (show Z = insF ltN st c (O ++ [(k, q)]) true (r.d.drop (j + 1)) from by rw [hstep]; simp)
        clear hstep
        go_wp2_with (refine wpList_out (by rfl) (.tmp 38) (.tmp 46) 64 (by rfl) Tryz.underlying64 el139 (by decide) oo oc HO (by rfl) (k, q) (by rfl) (by rfl) (by simp [dE, Value.oneCell']) HBB.out.1 HBB.out.2 ?_; intro ro rc w6 HNR)
        go_roundw
        case rel => exact ⟨j + 1, O ++ [(k, q)], ro, rc, true, by simp, rfl, by go_num, by omega, by simp; omega, Lib.hid HS.out.symm, by simpa using HNR⟩
        case measure => simp [intOf]; omega
    · have q1 : decide ((j : Int) < (n : Int)) = false := by simp; omega
      have hend := HK.out
      rw [List.drop_eq_nil_of_le (by rw [HNN.out]; omega)] at hend
      have HE := Lib.hid (show cond dn O (O ++ [(st, c)]) = Z from by rw [← hend]; cases dn <;> rfl)
      have HBB := Lib.hid (out_bounds (B := 16) (show O.length ≤ 2 * j + 1 by omega) hj hln (by decide))
      clear hr hend HK
      cases dn
      · go_wp2_with (refine wpList_out (by rfl) (.tmp 50) (.tmp 54) 64 (by rfl) Tryz.underlying64 el139 (by decide) oo oc HO (by rfl) (st, c) (by rfl) (by rfl) (by simp [dE, Value.oneCell']) HBB.out.1 HBB.out.2 ?_; intro ao ac w4 HNA; obtain ⟨y1, y0, y2⟩ := H.out.putD HNA.out; have HY := Lib.hid y2; rw [HVV.out, HNN.out] at y0; clear y2)
        go_end0
        refine ⟨rfl, ?_⟩
        have hz := HE.out
        simp only [cond_false] at hz
        rw [← hz]
        exact HY.out
      · obtain ⟨y1, y0, y2⟩ := H.out.putD HO.out
        have HY := Lib.hid y2
        rw [HVV.out, HNN.out] at y0
        clear y2
        go_wp2_with fail
        go_end0
        refine ⟨rfl, ?_⟩
        have hz := HE.out
        simp only [cond_true] at hz
        rw [← hz]
        exact HY.out
end
end Go.Proofs.YtgmmglmokkcgeaaGreat
/- Walks: the document's last. Printed by genR5.py. -/
namespace Go.Proofs.YtgmmglmokkcgeaaGreat
set_option linter.unusedVariables false
set_option linter.unusedSimpArgs false
set_option linter.unusedSectionVars false
open Go.RowKit Mk Go.Sort

section
variable {w w' : World} {b : Nat} {R : RV} {F G : Nat → Prop} {r : RM}
set_option maxRecDepth 100000 in
set_option maxHeartbeats 4000000 in
theorem rlast_any (h : RRep w b R F r) (x : ByteArray) (c : Nat) (hs : Ris lessB r.k) (hL : r.k.length ≤ 1000000) :
    Calls Tryz.prog 102 #[.pointer (some ⟨b, 0, none⟩), .string x, .int .u64 (c : Nat)] w fun e w' => e = .returned (.tuple #[]) ∧ RTo w b F { r with k := lay lessB x c r.k } w' := by
  have H := Lib.hid h
  obtain ⟨vo, vc, hvv⟩ := sl_shape h.k
  obtain ⟨Z, hZ⟩ : ∃ Z, lay lessB x c r.k = Z := ⟨_, rfl⟩
  have HZ := Lib.hid (show lastF lessB x c [] false r.k = Z by rw [lastF_eq lessB_ord x c _ _ hs, ← hZ]; rfl)
  rw [hZ]
  obtain ⟨n, hn'⟩ : ∃ n, r.k.length = n := ⟨_, rfl⟩
  have HNN := Lib.hid hn'
  have HVV := Lib.hid hvv
  have HLN := Lib.hid (show n ≤ 1000000 by rw [← hn']; exact hL)
  have HO0 := Lib.hid (Out.nil w 141 2 kE)
  have c20 : w.cell? ⟨b, 4, none⟩ = some (.slice vo n vc) := by rw [← hn', ← hvv]; exact cell_of h.box rfl
  clear h hn' hvv hs hL hZ
  go_enter Tryz.func102, Tryz.ntmps102
  go_wp2_with fail
  go_loopw [6, 7, 8] (fun s6 s7 s8 wr => ∃ (j : Nat) (O : List (ByteArray × Nat)) (oo : Option Addr) (oc : Nat) (dn : Bool), s6 = .slice oo O.length oc ∧ s7 = .bool dn ∧ s8 = .int .i64 j ∧ j ≤ n ∧ O.length ≤ 2 * j ∧ Hid (lastF lessB x c O dn (r.k.drop j) = Z) ∧ Hid (Out w 141 2 kE O (.slice oo O.length oc) wr)) (fun _ _ s8 _ => n - (intOf s8).toNat)
  case atStart => exact ⟨0, [], none, 0, false, rfl, rfl, rfl, Nat.zero_le _, Nat.le_refl _, HZ, HO0⟩
  case round =>
    obtain ⟨j, O, oo, oc, dn, rfl, rfl, rfl, hj, hOl, HK, HO⟩ := hrel
    clear HO0 c20
    have hr := H.out.same HO.out.chg
    have c2 : wr.cell? ⟨b, 4, none⟩ = some (.slice vo n vc) := by have := cell_of hr.box (i := 4) (v := R.k) rfl; rw [HVV.out, HNN.out] at this; exact this
    have hln := HLN.out
    by_cases hjn : j < n
    · have q1 : decide ((j : Int) < (n : Int)) = true := by simp; omega
      have hjC : j < r.k.length := by rw [HNN.out]; exact hjn
      obtain ⟨g, cap, hv, hg, d0, d1⟩ := hr.k_at hjC
      rw [HVV.out, HNN.out] at hv
      injection hv with hv1 hv2 hv3
      subst hv1 hv3
      have hstep := lastF_drop lessB x c hjC O dn
      rw [HK.out] at hstep
      generalize r.k[j] = p at *
      obtain ⟨k, q⟩ := p
      simp only at d0 d1 hstep
      have l0 : (0 : Int) ≤ j := by omega
      have l1 : (j : Int) < n := by omega
      have HBG := Lib.hid (show b < w.heap.size ∧ g < w.heap.size from ⟨H.out.lt, by have := H.out.k.lt (g := g) (by rw [HVV.out]; rfl); exact this⟩)
      have HBB := Lib.hid (out_bounds (B := 24) (show O.length ≤ 2 * j + 1 by omega) hj hln (by decide))
      have HBC := Lib.hid (out_bounds (B := 24) (show (O ++ [(x, c)]).length ≤ 2 * j + 1 by simp; omega) hj hln (by decide))
      clear hr hv2 hg HK
      by_cases hk : k = x
      · have HS := Lib.hid (show Z = lastF lessB x c O dn (r.k.drop (j + 1)) from by rw [hstep, if_pos hk])
        have q2 : (k.toList == x.toList) = true := by rw [hk]; simp
        clear hstep
        go_wp2_with fail
        go_roundw
        case rel => exact ⟨j + 1, O, oo, oc, dn, rfl, rfl, by go_num, by omega, by omega, Lib.hid HS.out.symm, HO⟩
        case measure => simp [intOf]; omega
      · have HEQ := Lib.hid (show (k.toList == x.toList) = false by rw [beq_eq_false_iff_ne]; exact fun e => hk (bytes_inj e))
        cases dn
        · cases hlt : lessB x k
          · have HS := Lib.hid (show Z = lastF lessB x c (O ++ [(k, q)]) false (r.k.drop (j + 1)) from by rw [hstep, if_neg hk, hlt]; simp)
            have q2 : (k.toList == x.toList) = false := HEQ.out
            have q3 : Op.bytesLess k.toList x.toList = true := by rw [lt_strs hlt HEQ.out]; rfl
            clear hstep hlt
            go_wp2_with (refine wpList_out (by rfl) (.tmp 48) (.tmp 56) 65 (by rfl) Tryz.underlying65 el141 (by decide) oo oc HO (by rfl) (k, q) (by rfl) (by rfl) (by simp [kE, Value.oneCell']) HBB.out.1 HBB.out.2 ?_; intro ro rc w6 HNR)
            go_roundw
            case rel => exact ⟨j + 1, O ++ [(k, q)], ro, rc, false, by simp, rfl, by go_num, by omega, by simp; omega, Lib.hid HS.out.symm, by simpa using HNR⟩
            case measure => simp [intOf]; omega
          · have HS := Lib.hid (show Z = lastF lessB x c ((O ++ [(x, c)]) ++ [(k, q)]) true (r.k.drop (j + 1)) from by rw [hstep, if_neg hk, hlt]; simp)
            have q2 : (k.toList == x.toList) = false := HEQ.out
            have q3 : Op.bytesLess k.toList x.toList = false := by rw [lt_strs hlt HEQ.out]; rfl
            clear hstep hlt
            go_upto_region 9 with (refine wpList_out (by rfl) (.tmp 42) (.tmp 46) 65 (by rfl) Tryz.underlying65 el141 (by decide) oo oc HO (by rfl) (x, c) (by rfl) (by rfl) (by simp [kE, Value.oneCell']) HBB.out.1 HBB.out.2 ?_; intro ao ac w4 HNA)
            have c3 : w4.cell? ⟨b, 4, none⟩ = some (.slice (some ⟨g, 0, none⟩) n vc) := (World.cell?_of_block (a := ⟨b, 4, none⟩) ((HNA.out.chg.block b HBG.out.1 (fun f => f)).trans (HO.out.chg.block b HBG.out.1 (fun f => f)).symm)).trans c2
            have x0 : w4.cell? ⟨g, j * 2, none⟩ = some (.string k) := (World.cell?_of_block (a := ⟨g, j * 2, none⟩) ((HNA.out.chg.block g HBG.out.2 (fun f => f)).trans (HO.out.chg.block g HBG.out.2 (fun f => f)).symm)).trans d0
            have x1 : w4.cell? ⟨g, j * 2 + 1, none⟩ = some (.int .u64 (q : Nat)) := (World.cell?_of_block (a := ⟨g, j * 2 + 1, none⟩) ((HNA.out.chg.block g HBG.out.2 (fun f => f)).trans (HO.out.chg.block g HBG.out.2 (fun f => f)).symm)).trans d1
            clear c2 d0 d1 q2 q3
            rw [show O.length + 1 = (O ++ [(x, c)]).length by simp] at HNA ⊢
            have HLO := Lib.hid (show (O ++ [(x, c)]).length ≤ 2 * j + 1 by simp; omega)
            obtain ⟨O1, hO1⟩ : ∃ O1, Hid (O ++ [(x, c)] = O1) := ⟨_, Lib.hid rfl⟩
            rw [hO1.out] at HNA HS HLO HBC ⊢
            have hlo := HLO.out
            go_wp2_with (refine wpList_out (by rfl) (.tmp 48) (.tmp 56) 65 (by rfl) Tryz.underlying65 el141 (by decide) ao ac HNA (by rfl) (k, q) (by rfl) (by rfl) (by simp [kE, Value.oneCell']) HBC.out.1 HBC.out.2 ?_; intro ro rc w6 HNR)
            go_roundw
            case rel => exact ⟨j + 1, O1 ++ [(k, q)], ro, rc, true, by simp, rfl, by go_num, by omega, by simp; omega, Lib.hid HS.out.symm, by simpa using HNR⟩
            case measure => simp [intOf]; omega
        · have HS := Lib.hid (show Z = lastF lessB x c (O ++ [(k, q)]) true (r.k.drop (j + 1)) from by rw [hstep, if_neg hk]; simp)
          have q2 : (k.toList == x.toList) = false := HEQ.out
          clear hstep
          go_wp2_with (refine wpList_out (by rfl) (.tmp 48) (.tmp 56) 65 (by rfl) Tryz.underlying65 el141 (by decide) oo oc HO (by rfl) (k, q) (by rfl) (by rfl) (by simp [kE, Value.oneCell']) HBB.out.1 HBB.out.2 ?_; intro ro rc w6 HNR)
          go_roundw
          case rel => exact ⟨j + 1, O ++ [(k, q)], ro, rc, true, by simp, rfl, by go_num, by omega, by simp; omega, Lib.hid HS.out.symm, by simpa using HNR⟩
          case measure => simp [intOf]; omega
    · have q1 : decide ((j : Int) < (n : Int)) = false := by simp; omega
      have hend := HK.out
      rw [List.drop_eq_nil_of_le (by rw [HNN.out]; omega)] at hend
      have HE := Lib.hid (show cond dn O (O ++ [(x, c)]) = Z from by rw [← hend]; cases dn <;> rfl)
      have HBB := Lib.hid (out_bounds (B := 24) (show O.length ≤ 2 * j + 1 by omega) hj hln (by decide))
      clear hr hend HK
      cases dn
      · go_wp2_with (refine wpList_out (by rfl) (.tmp 60) (.tmp 64) 65 (by rfl) Tryz.underlying65 el141 (by decide) oo oc HO (by rfl) (x, c) (by rfl) (by rfl) (by simp [kE, Value.oneCell']) HBB.out.1 HBB.out.2 ?_; intro ao ac w4 HNA; obtain ⟨y1, y0, y2⟩ := H.out.putK HNA.out; have HY := Lib.hid y2; rw [HVV.out, HNN.out] at y0; clear y2)
        go_end0
        refine ⟨rfl, ?_⟩
        have hz := HE.out
        simp only [cond_false] at hz
        rw [← hz]
        exact HY.out
      · obtain ⟨y1, y0, y2⟩ := H.out.putK HO.out
        have HY := Lib.hid y2
        rw [HVV.out, HNN.out] at y0
        clear y2
        go_wp2_with fail
        go_end0
        refine ⟨rfl, ?_⟩
        have hz := HE.out
        simp only [cond_true] at hz
        rw [← hz]
        exact HY.out
end
end Go.Proofs.YtgmmglmokkcgeaaGreat
/- Walks: the document's give. Printed by genR5.py. -/
namespace Go.Proofs.YtgmmglmokkcgeaaGreat
set_option linter.unusedVariables false
set_option linter.unusedSimpArgs false
set_option linter.unusedSectionVars false
open Go.RowKit Mk Go.Sort

theorem rto_under {w W w' : World} {b : Nat} {F : Nat → Prop} {r : RM} (c : Chg (fun _ => False) w W) (h : RTo W b F r w') : RTo w b F r w' := by
  obtain ⟨R, hr⟩ := h.is
  exact ⟨⟨R, hr.wide (fun g e => by rcases e with e | e; exact Or.inl e; exact Or.inr (Nat.le_trans c.size e))⟩, (c.mono (fun _ f => f.elim)).trans h.chg⟩
theorem chg_drewN (w : World) (n : Nat) : Chg (fun _ => False) w (w.drewN n) := ⟨rfl, rfl, rfl, Nat.le_refl _, fun _ _ _ => rfl⟩
section
variable {w w' : World} {b : Nat} {R : RV} {F G : Nat → Prop} {r : RM}
set_option maxRecDepth 100000 in
set_option maxHeartbeats 4000000 in
theorem rgive_any (h : RRep w b R F r) (x : ByteArray) (c : Tb) (hs : Ris lessB r.t) (hn : ∀ p ∈ r.t, p.1 ≠ x) (hL : r.t.length ≤ 1000000) :
    Calls Tryz.prog 105 #[.pointer (some ⟨b, 0, none⟩), .agg #[.string x, .int .u32 (c.g : Nat), .int .u32 (c.to : Nat), .int .u64 (c.at_ : Nat), .int .u64 (c.tn : Nat)]] w fun e w' => e = .returned (.tuple #[]) ∧ RTo w b F { r with t := lay lessB x c r.t } w' := by
  obtain ⟨W, HW⟩ : ∃ W, Hid (w.alloc (.cells #[.string x, .int .u32 (c.g : Nat), .int .u32 (c.to : Nat), .int .u64 (c.at_ : Nat), .int .u64 (c.tn : Nat)] 41) = W) := ⟨_, Lib.hid rfl⟩
  obtain ⟨ab, HAB⟩ : ∃ k, Hid (w.heap.size = k) := ⟨_, Lib.hid rfl⟩
  have HC0 := Lib.hid (show Chg (fun _ => False) w W by rw [← HW.out]; exact (Chg.refl _ _).alloc _)
  have HAC := Lib.hid (show W.heap[ab]? = some (.cells #[.string x, .int .u32 (c.g : Nat), .int .u32 (c.to : Nat), .int .u64 (c.at_ : Nat), .int .u64 (c.tn : Nat)] 41) by rw [← HW.out, ← HAB.out]; exact Go.heap_alloc_new _ _)
  replace h := h.same HC0.out
  have H := Lib.hid h
  obtain ⟨vo, vc, hvv⟩ := sl_shape h.t
  obtain ⟨Z, hZ⟩ : ∃ Z, lay lessB x c r.t = Z := ⟨_, rfl⟩
  have HZ := Lib.hid (show insF lessB x c [] false r.t = Z by rw [insF_eq lessB_ord x c _ _ hs hn, ← hZ]; rfl)
  rw [hZ]
  obtain ⟨n, hn'⟩ : ∃ n, r.t.length = n := ⟨_, rfl⟩
  have HNN := Lib.hid hn'
  have HVV := Lib.hid hvv
  have HLN := Lib.hid (show n ≤ 1000000 by rw [← hn']; exact hL)
  have HO0 := Lib.hid (Out.nil W 41 5 tE)
  have c20 : W.cell? ⟨b, 5, none⟩ = some (.slice vo n vc) := by rw [← hn', ← hvv]; exact cell_of h.box rfl
  clear h hn' hvv hs hn hL hZ
  go_enter Tryz.func105, Tryz.ntmps105
  go_upto_region 1 with fail
  rw [HW.out, HAB.out]
  go_wp2_with fail
  go_loopw [4, 5, 6] (fun s4 s5 s6 wr => ∃ (j : Nat) (O : List (ByteArray × Tb)) (oo : Option Addr) (oc : Nat) (dn : Bool), s4 = .slice oo O.length oc ∧ s5 = .bool dn ∧ s6 = .int .i64 j ∧ j ≤ n ∧ O.length ≤ 2 * j ∧ Hid (insF lessB x c O dn (r.t.drop j) = Z) ∧ Hid (Out W 41 5 tE O (.slice oo O.length oc) wr)) (fun _ _ s6 _ => n - (intOf s6).toNat)
  case atStart => exact ⟨0, [], none, 0, false, rfl, rfl, rfl, Nat.zero_le _, Nat.le_refl _, HZ, HO0⟩
  case round =>
    obtain ⟨j, O, oo, oc, dn, rfl, rfl, rfl, hj, hOl, HK, HO⟩ := hrel
    clear HO0 c20
    have hr := H.out.same HO.out.chg
    have c2 : wr.cell? ⟨b, 5, none⟩ = some (.slice vo n vc) := by have := cell_of hr.box (i := 5) (v := R.t) rfl; rw [HVV.out, HNN.out] at this; exact this
    have hln := HLN.out
    have hac := (HO.out.chg.block ab (Array.getElem?_eq_some_iff.1 HAC.out).1 (fun f => f)).trans HAC.out
    have e0 : wr.cell? ⟨ab, 0, none⟩ = some (.string x) := cell_of hac rfl
    have e1 : wr.cell? ⟨ab, 1, none⟩ = some (.int .u32 (c.g : Nat)) := cell_of hac rfl
    have e2 : wr.cell? ⟨ab, 2, none⟩ = some (.int .u32 (c.to : Nat)) := cell_of hac rfl
    have e3 : wr.cell? ⟨ab, 3, none⟩ = some (.int .u64 (c.at_ : Nat)) := cell_of hac rfl
    have e4 : wr.cell? ⟨ab, 4, none⟩ = some (.int .u64 (c.tn : Nat)) := cell_of hac rfl
    clear hac
    by_cases hjn : j < n
    · have q1 : decide ((j : Int) < (n : Int)) = true := by simp; omega
      have hjC : j < r.t.length := by rw [HNN.out]; exact hjn
      obtain ⟨g, cap, hv, hg, d0, d1, d2, d3, d4⟩ := hr.t_at hjC
      rw [HVV.out, HNN.out] at hv
      injection hv with hv1 hv2 hv3
      subst hv1 hv3
      have hstep := insF_drop lessB x c hjC O dn
      rw [HK.out] at hstep
      generalize r.t[j] = p at *
      obtain ⟨k, q⟩ := p
      simp only at d0 d1 d2 d3 d4 hstep
      have l0 : (0 : Int) ≤ j := by omega
      have l1 : (j : Int) < n := by omega
      have HBG := Lib.hid (show b < W.heap.size ∧ g < W.heap.size from ⟨H.out.lt, by have := H.out.t.lt (g := g) (by rw [HVV.out]; rfl); exact this⟩)
      have HBB := Lib.hid (out_bounds (B := 40) (show O.length ≤ 2 * j + 1 by omega) hj hln (by decide))
      have HBC := Lib.hid (out_bounds (B := 40) (show (O ++ [(x, c)]).length ≤ 2 * j + 1 by simp; omega) hj hln (by decide))
      clear hr hv2 hg HK
      cases dn
      · cases hlt : lessB x k
        · cases heq : (k.toList == x.toList)
          · have HEQ := Lib.hid heq
            clear heq
            have HS := Lib.hid (show Z = insF lessB x c (O ++ [(k, q)]) false (r.t.drop (j + 1)) from by rw [hstep, hlt]; simp)
            have q2 : (k.toList == x.toList) = false := HEQ.out
            have q3 : Op.bytesLess k.toList x.toList = true := by rw [lt_strs hlt HEQ.out]; rfl
            clear hstep hlt
            go_wp2_with fail
            go_quiet (fail)
            have HOq := Lib.hid (HO.out.same (chg_drewN wr nq))
            have c2q : (wr.drewN nq).cell? ⟨b, 5, none⟩ = some (.slice (some ⟨g, 0, none⟩) n vc) := c2
            have d0q : (wr.drewN nq).cell? ⟨g, j * 5, none⟩ = some (.string k) := d0
            have d1q : (wr.drewN nq).cell? ⟨g, j * 5 + 1, none⟩ = some (.int .u32 (q.g : Nat)) := d1
            have d2q : (wr.drewN nq).cell? ⟨g, j * 5 + 2, none⟩ = some (.int .u32 (q.to : Nat)) := d2
            have d3q : (wr.drewN nq).cell? ⟨g, j * 5 + 3, none⟩ = some (.int .u64 (q.at_ : Nat)) := d3
            have d4q : (wr.drewN nq).cell? ⟨g, j * 5 + 4, none⟩ = some (.int .u64 (q.tn : Nat)) := d4
            have e0q : (wr.drewN nq).cell? ⟨ab, 0, none⟩ = some (.string x) := e0
            have e1q : (wr.drewN nq).cell? ⟨ab, 1, none⟩ = some (.int .u32 (c.g : Nat)) := e1
            have e2q : (wr.drewN nq).cell? ⟨ab, 2, none⟩ = some (.int .u32 (c.to : Nat)) := e2
            have e3q : (wr.drewN nq).cell? ⟨ab, 3, none⟩ = some (.int .u64 (c.at_ : Nat)) := e3
            have e4q : (wr.drewN nq).cell? ⟨ab, 4, none⟩ = some (.int .u64 (c.tn : Nat)) := e4
            clear HO c2 d0 d1 d2 d3 d4 e0 e1 e2 e3 e4
            generalize wr.drewN nq = wr at *
            have HO := Lib.hid HOq.out
            have c2 := c2q
            have d0 := d0q
            have d1 := d1q
            have d2 := d2q
            have d3 := d3q
            have d4 := d4q
            have e0 := e0q
            have e1 := e1q
            have e2 := e2q
            have e3 := e3q
            have e4 := e4q
            clear HOq c2q d0q d1q d2q d3q d4q e0q e1q e2q e3q e4q
            go_wp2_with (refine wpList_out (by rfl) (.tmp 35) (.tmp 43) 66 (by rfl) Tryz.underlying66 el41 (by decide) oo oc HO (by rfl) (k, q) (by rfl) (by rfl) (by simp [tE, Value.oneCell']) HBB.out.1 HBB.out.2 ?_; intro ro rc w6 HNR)
            go_roundw
            case rel => exact ⟨j + 1, O ++ [(k, q)], ro, rc, false, by simp, rfl, by go_num, by omega, by simp; omega, Lib.hid HS.out.symm, by simpa using HNR⟩
            case measure => simp [intOf]; omega
          · have HEQ := Lib.hid heq
            clear heq
            have HS := Lib.hid (show Z = insF lessB x c (O ++ [(k, q)]) false (r.t.drop (j + 1)) from by rw [hstep, hlt]; simp)
            have q2 : (k.toList == x.toList) = true := HEQ.out
            have q3 : Op.bytesLess k.toList x.toList = false := by rw [lt_strs hlt HEQ.out]; rfl
            clear hstep hlt
            go_wp2_with fail
            go_quiet (fail)
            have HOq := Lib.hid (HO.out.same (chg_drewN wr nq))
            have c2q : (wr.drewN nq).cell? ⟨b, 5, none⟩ = some (.slice (some ⟨g, 0, none⟩) n vc) := c2
            have d0q : (wr.drewN nq).cell? ⟨g, j * 5, none⟩ = some (.string k) := d0
            have d1q : (wr.drewN nq).cell? ⟨g, j * 5 + 1, none⟩ = some (.int .u32 (q.g : Nat)) := d1
            have d2q : (wr.drewN nq).cell? ⟨g, j * 5 + 2, none⟩ = some (.int .u32 (q.to : Nat)) := d2
            have d3q : (wr.drewN nq).cell? ⟨g, j * 5 + 3, none⟩ = some (.int .u64 (q.at_ : Nat)) := d3
            have d4q : (wr.drewN nq).cell? ⟨g, j * 5 + 4, none⟩ = some (.int .u64 (q.tn : Nat)) := d4
            have e0q : (wr.drewN nq).cell? ⟨ab, 0, none⟩ = some (.string x) := e0
            have e1q : (wr.drewN nq).cell? ⟨ab, 1, none⟩ = some (.int .u32 (c.g : Nat)) := e1
            have e2q : (wr.drewN nq).cell? ⟨ab, 2, none⟩ = some (.int .u32 (c.to : Nat)) := e2
            have e3q : (wr.drewN nq).cell? ⟨ab, 3, none⟩ = some (.int .u64 (c.at_ : Nat)) := e3
            have e4q : (wr.drewN nq).cell? ⟨ab, 4, none⟩ = some (.int .u64 (c.tn : Nat)) := e4
            clear HO c2 d0 d1 d2 d3 d4 e0 e1 e2 e3 e4
            generalize wr.drewN nq = wr at *
            have HO := Lib.hid HOq.out
            have c2 := c2q
            have d0 := d0q
            have d1 := d1q
            have d2 := d2q
            have d3 := d3q
            have d4 := d4q
            have e0 := e0q
            have e1 := e1q
            have e2 := e2q
            have e3 := e3q
            have e4 := e4q
            clear HOq c2q d0q d1q d2q d3q d4q e0q e1q e2q e3q e4q
            go_wp2_with (refine wpList_out (by rfl) (.tmp 35) (.tmp 43) 66 (by rfl) Tryz.underlying66 el41 (by decide) oo oc HO (by rfl) (k, q) (by rfl) (by rfl) (by simp [tE, Value.oneCell']) HBB.out.1 HBB.out.2 ?_; intro ro rc w6 HNR)
            go_roundw
            case rel => exact ⟨j + 1, O ++ [(k, q)], ro, rc, false, by simp, rfl, by go_num, by omega, by simp; omega, Lib.hid HS.out.symm, by simpa using HNR⟩
            case measure => simp [intOf]; omega
        · have HEQ := Lib.hid (show (k.toList == x.toList) = false by rw [beq_eq_false_iff_ne]; intro e; rw [bytes_inj e, lessB_ord.irr] at hlt; cases hlt)
          have HS := Lib.hid (show Z = insF lessB x c ((O ++ [(x, c)]) ++ [(k, q)]) true (r.t.drop (j + 1)) from by rw [hstep, hlt]; simp)
          have q2 : (k.toList == x.toList) = false := HEQ.out
          have q3 : Op.bytesLess k.toList x.toList = false := by rw [lt_strs hlt HEQ.out]; rfl
          clear hstep hlt
          go_wp2_with fail
          go_quiet (fail)
          have HOq := Lib.hid (HO.out.same (chg_drewN wr nq))
          have c2q : (wr.drewN nq).cell? ⟨b, 5, none⟩ = some (.slice (some ⟨g, 0, none⟩) n vc) := c2
          have d0q : (wr.drewN nq).cell? ⟨g, j * 5, none⟩ = some (.string k) := d0
          have d1q : (wr.drewN nq).cell? ⟨g, j * 5 + 1, none⟩ = some (.int .u32 (q.g : Nat)) := d1
          have d2q : (wr.drewN nq).cell? ⟨g, j * 5 + 2, none⟩ = some (.int .u32 (q.to : Nat)) := d2
          have d3q : (wr.drewN nq).cell? ⟨g, j * 5 + 3, none⟩ = some (.int .u64 (q.at_ : Nat)) := d3
          have d4q : (wr.drewN nq).cell? ⟨g, j * 5 + 4, none⟩ = some (.int .u64 (q.tn : Nat)) := d4
          have e0q : (wr.drewN nq).cell? ⟨ab, 0, none⟩ = some (.string x) := e0
          have e1q : (wr.drewN nq).cell? ⟨ab, 1, none⟩ = some (.int .u32 (c.g : Nat)) := e1
          have e2q : (wr.drewN nq).cell? ⟨ab, 2, none⟩ = some (.int .u32 (c.to : Nat)) := e2
          have e3q : (wr.drewN nq).cell? ⟨ab, 3, none⟩ = some (.int .u64 (c.at_ : Nat)) := e3
          have e4q : (wr.drewN nq).cell? ⟨ab, 4, none⟩ = some (.int .u64 (c.tn : Nat)) := e4
          clear HO c2 d0 d1 d2 d3 d4 e0 e1 e2 e3 e4
          generalize wr.drewN nq = wr at *
          have HO := Lib.hid HOq.out
          have c2 := c2q
          have d0 := d0q
          have d1 := d1q
          have d2 := d2q
          have d3 := d3q
          have d4 := d4q
          have e0 := e0q
          have e1 := e1q
          have e2 := e2q
          have e3 := e3q
          have e4 := e4q
          clear HOq c2q d0q d1q d2q d3q d4q e0q e1q e2q e3q e4q
          go_upto_region 9 with (refine wpList_out (by rfl) (.tmp 31) (.tmp 33) 66 (by rfl) Tryz.underlying66 el41 (by decide) oo oc HO (by rfl) (x, c) (by rfl) (by rfl) (by simp [tE, Value.oneCell']) HBB.out.1 HBB.out.2 ?_; intro ao ac w4 HNA)
          have c3 : w4.cell? ⟨b, 5, none⟩ = some (.slice (some ⟨g, 0, none⟩) n vc) := (World.cell?_of_block (a := ⟨b, 5, none⟩) ((HNA.out.chg.block b HBG.out.1 (fun f => f)).trans (HO.out.chg.block b HBG.out.1 (fun f => f)).symm)).trans c2
          have x0 : w4.cell? ⟨g, j * 5, none⟩ = some (.string k) := (World.cell?_of_block (a := ⟨g, j * 5, none⟩) ((HNA.out.chg.block g HBG.out.2 (fun f => f)).trans (HO.out.chg.block g HBG.out.2 (fun f => f)).symm)).trans d0
          have x1 : w4.cell? ⟨g, j * 5 + 1, none⟩ = some (.int .u32 (q.g : Nat)) := (World.cell?_of_block (a := ⟨g, j * 5 + 1, none⟩) ((HNA.out.chg.block g HBG.out.2 (fun f => f)).trans (HO.out.chg.block g HBG.out.2 (fun f => f)).symm)).trans d1
          have x2 : w4.cell? ⟨g, j * 5 + 2, none⟩ = some (.int .u32 (q.to : Nat)) := (World.cell?_of_block (a := ⟨g, j * 5 + 2, none⟩) ((HNA.out.chg.block g HBG.out.2 (fun f => f)).trans (HO.out.chg.block g HBG.out.2 (fun f => f)).symm)).trans d2
          have x3 : w4.cell? ⟨g, j * 5 + 3, none⟩ = some (.int .u64 (q.at_ : Nat)) := (World.cell?_of_block (a := ⟨g, j * 5 + 3, none⟩) ((HNA.out.chg.block g HBG.out.2 (fun f => f)).trans (HO.out.chg.block g HBG.out.2 (fun f => f)).symm)).trans d3
          have x4 : w4.cell? ⟨g, j * 5 + 4, none⟩ = some (.int .u64 (q.tn : Nat)) := (World.cell?_of_block (a := ⟨g, j * 5 + 4, none⟩) ((HNA.out.chg.block g HBG.out.2 (fun f => f)).trans (HO.out.chg.block g HBG.out.2 (fun f => f)).symm)).trans d4
          clear c2 d0 d1 d2 d3 d4 q2 q3
          rw [show O.length + 1 = (O ++ [(x, c)]).length by simp] at HNA ⊢
          have HLO := Lib.hid (show (O ++ [(x, c)]).length ≤ 2 * j + 1 by simp; omega)
          obtain ⟨O1, hO1⟩ : ∃ O1, Hid (O ++ [(x, c)] = O1) := ⟨_, Lib.hid rfl⟩
          rw [hO1.out] at HNA HS HLO HBC ⊢
          have hlo := HLO.out
          go_wp2_with (refine wpList_out (by rfl) (.tmp 35) (.tmp 43) 66 (by rfl) Tryz.underlying66 el41 (by decide) ao ac HNA (by rfl) (k, q) (by rfl) (by rfl) (by simp [tE, Value.oneCell']) HBC.out.1 HBC.out.2 ?_; intro ro rc w6 HNR)
          go_roundw
          case rel => exact ⟨j + 1, O1 ++ [(k, q)], ro, rc, true, by simp, rfl, by go_num, by omega, by simp; omega, Lib.hid HS.out.symm, by simpa using HNR⟩
          case measure => simp [intOf]; omega
      · have HS := Lib.hid (show Z = insF lessB x c (O ++ [(k, q)]) true (r.t.drop (j + 1)) from by rw [hstep]; simp)
        clear hstep
        go_wp2_with fail
        go_quiet (fail)
        have HOq := Lib.hid (HO.out.same (chg_drewN wr nq))
        have c2q : (wr.drewN nq).cell? ⟨b, 5, none⟩ = some (.slice (some ⟨g, 0, none⟩) n vc) := c2
        have d0q : (wr.drewN nq).cell? ⟨g, j * 5, none⟩ = some (.string k) := d0
        have d1q : (wr.drewN nq).cell? ⟨g, j * 5 + 1, none⟩ = some (.int .u32 (q.g : Nat)) := d1
        have d2q : (wr.drewN nq).cell? ⟨g, j * 5 + 2, none⟩ = some (.int .u32 (q.to : Nat)) := d2
        have d3q : (wr.drewN nq).cell? ⟨g, j * 5 + 3, none⟩ = some (.int .u64 (q.at_ : Nat)) := d3
        have d4q : (wr.drewN nq).cell? ⟨g, j * 5 + 4, none⟩ = some (.int .u64 (q.tn : Nat)) := d4
        have e0q : (wr.drewN nq).cell? ⟨ab, 0, none⟩ = some (.string x) := e0
        have e1q : (wr.drewN nq).cell? ⟨ab, 1, none⟩ = some (.int .u32 (c.g : Nat)) := e1
        have e2q : (wr.drewN nq).cell? ⟨ab, 2, none⟩ = some (.int .u32 (c.to : Nat)) := e2
        have e3q : (wr.drewN nq).cell? ⟨ab, 3, none⟩ = some (.int .u64 (c.at_ : Nat)) := e3
        have e4q : (wr.drewN nq).cell? ⟨ab, 4, none⟩ = some (.int .u64 (c.tn : Nat)) := e4
        clear HO c2 d0 d1 d2 d3 d4 e0 e1 e2 e3 e4
        generalize wr.drewN nq = wr at *
        have HO := Lib.hid HOq.out
        have c2 := c2q
        have d0 := d0q
        have d1 := d1q
        have d2 := d2q
        have d3 := d3q
        have d4 := d4q
        have e0 := e0q
        have e1 := e1q
        have e2 := e2q
        have e3 := e3q
        have e4 := e4q
        clear HOq c2q d0q d1q d2q d3q d4q e0q e1q e2q e3q e4q
        go_wp2_with (refine wpList_out (by rfl) (.tmp 35) (.tmp 43) 66 (by rfl) Tryz.underlying66 el41 (by decide) oo oc HO (by rfl) (k, q) (by rfl) (by rfl) (by simp [tE, Value.oneCell']) HBB.out.1 HBB.out.2 ?_; intro ro rc w6 HNR)
        go_roundw
        case rel => exact ⟨j + 1, O ++ [(k, q)], ro, rc, true, by simp, rfl, by go_num, by omega, by simp; omega, Lib.hid HS.out.symm, by simpa using HNR⟩
        case measure => simp [intOf]; omega
    · have q1 : decide ((j : Int) < (n : Int)) = false := by simp; omega
      have hend := HK.out
      rw [List.drop_eq_nil_of_le (by rw [HNN.out]; omega)] at hend
      have HE := Lib.hid (show cond dn O (O ++ [(x, c)]) = Z from by rw [← hend]; cases dn <;> rfl)
      have HBB := Lib.hid (out_bounds (B := 40) (show O.length ≤ 2 * j + 1 by omega) hj hln (by decide))
      clear hr hend HK
      cases dn
      · go_wp2_with (refine wpList_out (by rfl) (.tmp 47) (.tmp 49) 66 (by rfl) Tryz.underlying66 el41 (by decide) oo oc HO (by rfl) (x, c) (by rfl) (by rfl) (by simp [tE, Value.oneCell']) HBB.out.1 HBB.out.2 ?_; intro ao ac w4 HNA; obtain ⟨y1, y0, y2⟩ := H.out.putT HNA.out; have HY := Lib.hid y2; rw [HVV.out, HNN.out] at y0; clear y2)
        go_end0
        refine ⟨rfl, ?_⟩
        have hz := HE.out
        simp only [cond_false] at hz
        rw [← hz]
        exact rto_under HC0.out HY.out
      · obtain ⟨y1, y0, y2⟩ := H.out.putT HO.out
        have HY := Lib.hid y2
        rw [HVV.out, HNN.out] at y0
        clear y2
        go_wp2_with fail
        go_end0
        refine ⟨rfl, ?_⟩
        have hz := HE.out
        simp only [cond_true] at hz
        rw [← hz]
        exact rto_under HC0.out HY.out
end
end Go.Proofs.YtgmmglmokkcgeaaGreat
