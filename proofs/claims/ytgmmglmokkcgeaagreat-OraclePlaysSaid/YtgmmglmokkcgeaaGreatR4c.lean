/- Walks: the document's Seen. -/
import Derived.Test.YtgmmglmokkcgeaaGreatR4
namespace Go.Proofs.YtgmmglmokkcgeaaGreat
set_option linter.unusedVariables false
set_option linter.unusedSimpArgs false
set_option linter.unusedSectionVars false
open Go.RowKit Mk Go.Sort

abbrev CL1 := (ByteArray × List Nat) × Value
def cntM (t : Nat) (l : List Nat) : Nat := (l.filter (fun y => decide (y ≤ t))).length
def restM (x : ByteArray) (t : Nat) (C : List CL1) : Nat := (C.map fun p => if p.1.1 = x then cntM t p.1.2 else 0).sum
theorem rest_all (r : RM) (C : List CL1) (h : C.map (·.1) = r.c) (x : ByteArray) (t : Nat) : rseenM r x t = restM x t C := by
  unfold rseenM restM cntM
  rw [← h, List.map_map]
  rfl
theorem rest_at (x : ByteArray) (t : Nat) {C : List CL1} {i : Nat} (h : i < C.length) : restM x t (C.drop i) = (if C[i].1.1 = x then cntM t C[i].1.2 else 0) + restM x t (C.drop (i + 1)) := by
  unfold restM
  rw [List.drop_eq_getElem_cons h, List.map_cons, List.sum_cons]
theorem cnt_at (t : Nat) {l : List Nat} {k : Nat} (h : k < l.length) : cntM t (l.drop k) = (if l[k] ≤ t then 1 else 0) + cntM t (l.drop (k + 1)) := by
  unfold cntM
  rw [List.drop_eq_getElem_cons h, List.filter_cons]
  by_cases e : l[k] ≤ t
  · rw [if_pos (by simpa using e), if_pos e, List.length_cons]; omega
  · rw [if_neg (by simpa using e), if_neg e]; omega
section
variable {w w' : World} {b : Nat} {R : RV} {F G : Nat → Prop} {r : RM}
set_option maxRecDepth 100000 in
set_option maxHeartbeats 4000000 in
theorem rseenq_any (h : RRep w b R F r) (x : ByteArray) (t : Nat) (hB : rseenM r x t ≤ 1000000) :
    Calls Tryz.prog 67 #[.pointer (some ⟨b, 0, none⟩), .string x, .int .u64 (t : Nat)] w fun e w' => e = .returned (.int .i64 (rseenM r x t : Nat)) ∧ w' = w := by
  have H := Lib.hid h
  obtain ⟨vo, vc, hvv⟩ := sl_shape h.c
  obtain ⟨Z, hZ⟩ : ∃ Z, rseenM r x t = Z := ⟨_, rfl⟩
  rw [hZ] at hB
  rw [hZ]
  have HZ := Lib.hid (show 0 + restM x t (R.cl.drop 0) = Z by rw [← hZ, rest_all r R.cl h.cl]; simp)
  obtain ⟨N, hN⟩ : ∃ n, R.cl.length = n := ⟨_, rfl⟩
  have HNN := Lib.hid hN
  have HVV := Lib.hid (show R.c = .slice vo N vc by rw [← hN]; exact hvv)
  have hle := h.c.le
  rw [hN] at hle
  have c2 : w.cell? ⟨b, 6, none⟩ = some (.slice vo N vc) := by have := cell_of h.box (i := 6) (v := R.c) rfl; rw [HVV.out] at this; exact this
  clear h hvv hZ hN
  simp only [maxLen] at hle
  go_enter Tryz.func67, Tryz.ntmps67
  go_wp2_with fail
  go_loopw [7, 8] (fun s7 s8 wr => ∃ n i : Nat, s7 = .int .i64 n ∧ s8 = .int .i64 i ∧ i ≤ N ∧ wr = w ∧ Hid (n + restM x t (R.cl.drop i) = Z)) (fun _ s8 _ => N - (intOf s8).toNat)
  case atStart => exact ⟨0, 0, rfl, rfl, Nat.zero_le _, rfl, HZ⟩
  case round =>
    obtain ⟨n, i, rfl, rfl, hi, hwr, HK⟩ := hrel
    obtain rfl : w = wr := hwr.symm
    by_cases hin : i < N
    · have q1 : decide ((i : Int) < (N : Int)) = true := by simp; omega
      have hiC : i < R.cl.length := by rw [HNN.out]; exact hin
      obtain ⟨g, cap, hv, hg, d0, d1⟩ := H.out.c_at hiC
      rw [HVV.out, HNN.out] at hv
      injection hv with hv1 hv2 hv3
      subst hv1 hv3
      have hstep := rest_at x t hiC
      have hinn := H.out.inn _ (List.getElem_mem hiC)
      generalize R.cl[i] = p at *
      obtain ⟨⟨q, l⟩, iv⟩ := p
      obtain ⟨io, ic, hiv⟩ := sl_shape hinn
      simp only at hiv
      subst hiv
      simp only at d0 d1 hstep hinn
      have HIN := Lib.hid hinn
      have hll := hinn.le
      simp only [maxLen] at hll
      have HK2 := Lib.hid (show n + (if q = x then cntM t (l.drop 0) else 0) + restM x t (R.cl.drop (i + 1)) = Z by rw [← HK.out, hstep, List.drop_zero]; omega)
      have l0 : (0 : Int) ≤ i := by omega
      have l1 : (i : Int) < N := by omega
      obtain ⟨L, hL⟩ : ∃ L, l.length = L := ⟨_, rfl⟩
      have HLL := Lib.hid hL
      rw [hL] at d1 hll
      clear hstep hinn hv2 hg hL HK
      go_wp2_with fail
      go_loopw [7, 9] (fun s7 s9 wr => ∃ n k : Nat, s7 = .int .i64 n ∧ s9 = .int .i64 k ∧ k ≤ L ∧ wr = w ∧ Hid (n + (if q = x then cntM t (l.drop k) else 0) + restM x t (R.cl.drop (i + 1)) = Z)) (fun _ s9 _ => L - (intOf s9).toNat)
      case atStart => exact ⟨n, 0, rfl, rfl, Nat.zero_le _, rfl, HK2⟩
      case round =>
        clear HK2
        obtain ⟨n, k, rfl, rfl, hk, hwr, HM⟩ := hrel
        obtain rfl : w = wr := hwr.symm
        by_cases hkl : k < L
        · have q2 : decide ((k : Int) < (L : Int)) = true := by simp; omega
          have hkC : k < l.length := by rw [HLL.out]; exact hkl
          obtain ⟨gi, cap2, hv, a0⟩ := sl.cell HIN.out (i := k) (u := nV l[k]) (by unfold timesV; rw [List.getElem?_map, List.getElem?_eq_getElem hkC]; rfl)
          rw [HLL.out] at hv
          injection hv with hv1 hv2 hv3
          subst hv1 hv3
          have hcs := cnt_at t hkC
          have hm := HM.out
          rw [hcs] at hm
          unfold nV at a0
          generalize l[k] = y at *
          have m0 : (0 : Int) ≤ k := by omega
          have m1 : (k : Int) < L := by omega
          by_cases hq : q = x
          · rw [if_pos hq] at hm
            have q3 : (q.toList == x.toList) = true := by rw [hq]; simp
            by_cases hy : y ≤ t
            · rw [if_pos hy] at hm
              have hn : n ≤ 1000000 := by omega
              have HX := Lib.hid (show n + 1 + (if q = x then cntM t (l.drop (k + 1)) else 0) + restM x t (R.cl.drop (i + 1)) = Z by rw [if_pos hq]; omega)
              have q4 : decide ((y : Int) ≤ (t : Int)) = true := by simp; omega
              have q4n : decide (y ≤ t) = true := decide_eq_true hy
              clear hm hcs hq hy hv2
              go_wp2_with fail
              go_roundw
              case rel => exact ⟨n + 1, k + 1, by go_num, by go_num, by omega, trivial, HX⟩
              case measure => simp [intOf]; omega
            · rw [if_neg hy] at hm
              have HX := Lib.hid (show n + (if q = x then cntM t (l.drop (k + 1)) else 0) + restM x t (R.cl.drop (i + 1)) = Z by rw [if_pos hq]; omega)
              have q4 : decide ((y : Int) ≤ (t : Int)) = false := by simp; omega
              have q4n : decide (y ≤ t) = false := decide_eq_false hy
              clear hm hcs hq hy hv2
              go_wp2_with fail
              go_roundw
              case rel => exact ⟨n, k + 1, rfl, by go_num, by omega, trivial, HX⟩
              case measure => simp [intOf]; omega
          · rw [if_neg hq] at hm
            have q3 : (q.toList == x.toList) = false := by rw [beq_eq_false_iff_ne]; exact fun e => hq (bytes_inj e)
            have HX := Lib.hid (show n + (if q = x then cntM t (l.drop (k + 1)) else 0) + restM x t (R.cl.drop (i + 1)) = Z by rw [if_neg hq]; omega)
            clear hm hcs hq hv2
            go_wp2_with fail
            go_roundw
            case rel => exact ⟨n, k + 1, rfl, by go_num, by omega, trivial, HX⟩
            case measure => simp [intOf]; omega
        · have q2 : decide ((k : Int) < (L : Int)) = false := by simp; omega
          have HX := Lib.hid (show n + restM x t (R.cl.drop (i + 1)) = Z by
            have hm := HM.out
            rw [List.drop_eq_nil_of_le (by rw [HLL.out]; omega)] at hm
            have : (if q = x then cntM t [] else 0) = 0 := by split <;> rfl
            omega)
          go_wp2_with fail
          go_roundw
          case rel => exact ⟨n, i + 1, rfl, by go_num, by omega, trivial, HX⟩
          case measure => simp [intOf]; omega
    · have q1 : decide ((i : Int) < (N : Int)) = false := by simp; omega
      have HE := Lib.hid (show n = Z by
        have hm := HK.out
        rw [List.drop_eq_nil_of_le (by rw [HNN.out]; omega)] at hm
        exact hm)
      go_wp2_with fail
      go_ret
      exact ⟨by rw [← HE.out]; rfl, rfl⟩
end
end Go.Proofs.YtgmmglmokkcgeaaGreat
