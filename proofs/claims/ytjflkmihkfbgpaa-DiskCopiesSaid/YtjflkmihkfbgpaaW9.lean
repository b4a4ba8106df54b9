/- Walks: Crash, where it may be. -/
import Derived.Test.YtjflkmihkfbgpaaW8
namespace Go.Proofs.Ytjflkmihkfbgpaa
open Go.RowKit Mk Go.Sort

section
variable {w : World} {b : Nat} {F : Nat → Prop} {S : Nat} {d : DiskM} {r1 r2 : Nat} {v : Value} {ts : List (Value × Thing)}

theorem crash_at (L : Files) (T : List Thing) {k t : Nat} {dd : Do} {s : ByteArray} (hT : T[k]? = some (dd, s)) :
    crash L T k t = if min t s.size = 0 then acts L (T.take k) else act dd (acts L (T.take k)) (s.extract 0 (min t s.size)) := by
  unfold crash
  rw [hT]
  rfl
theorem extract_all (s : ByteArray) : s.extract 0 s.size = s := by
  simp

set_option maxRecDepth 100000 in
set_option maxHeartbeats 2000000 in
theorem crash_good (h : DiskRep w b r1 r2 v ts F S d) (kp t : Nat) (hk : kp ≤ d.T.length) (ht : t ≤ 9223372036854775807) :
    Calls Try.prog 12 #[.pointer (some ⟨b, 0, none⟩), .int .i64 kp, .int .i64 t] w fun e w' => e = .returned (.int .i64 0) ∧ To w b F S ⟨d.room, crash d.kept d.T kp t, crash d.kept d.T kp t, []⟩ w' := by
  have A := Lib.hid (not_of w b r1 h.cells.2.1)
  have c3 := h.cells.2.2.2
  obtain ⟨ao, cp, rfl⟩ := h.shape
  have ln := h.len
  have hlen : d.T.length = ts.length := by rw [← h.things, List.length_map]
  rw [hlen] at hk ln
  have hS := h.size.2.2
  have H0 := Lib.hid (show CrashAt w r2 d.kept d.T 0 w from ⟨h.kept, Chg.refl _ _⟩)
  have H := Lib.hid h
  obtain ⟨C, HCr⟩ : ∃ C, Hid (crash d.kept d.T kp t = C) := ⟨_, Lib.hid rfl⟩
  have hCS : tot C ≤ S := by rw [← HCr.out]; exact Nat.le_trans (crash_tot d.kept d.T kp t) h.size.2.1
  have HR := Lib.hid (fun (w1 : World) (hf : files w1 r2 C) c1 => crash_rest h hf c1 hCS)
  rw [HCr.out]
  generalize hm : ts.length = m at *
  have HM := Lib.hid hm
  have HLen := Lib.hid hlen
  have q1 : decide ((kp : Int) < 0) = false := by simp
  have q2 : decide ((m : Int) < kp) = false := by simp; omega
  have q4 : decide (m < kp) = false := by simp; omega
  have q3 : decide ((t : Int) < 0) = false := by simp
  clear hm h hlen hCS
  go_enter Try.func12, Try.ntmps12
  go_wp2_with fail
  refine A.out.mono ?_
  rintro e w' ⟨rfl, rfl⟩
  clear A
  go_wp2
  go_loopw [34] (fun i wr => ∃ k : Nat, i = .int .i64 k ∧ k ≤ m ∧ k ≤ kp ∧ Hid (CrashAt w' r2 d.kept d.T k wr)) (fun i _ => m - (intOf i).toNat)
  case atStart => exact ⟨0, rfl, by omega, by omega, H0⟩
  case round =>
    obtain ⟨k, rfl, k1, k2, HU⟩ := hrel
    clear H0
    by_cases hlt : k < m
    · have hlt' : k < ts.length := by rw [HM.out]; exact hlt
      obtain ⟨g, cp', f, dd, s, hv, e1, e2, e3, hc, hT⟩ := crash_cells H.out HU.out.chg hlt'
      rw [HM.out] at hv
      cases hv
      obtain ⟨n, caps, rfl, hent, hcl⟩ := clo_any hc
      have HT := Lib.hid hT
      have b1 : decide ((k : Int) < m) = true := by simp; omega
      have b0 : (k : Int) < m := by omega
      obtain ⟨W0, HW0⟩ : ∃ W0, Hid (wr.alloc (.cells #[.func (.func n) #[] caps, .string s] 64) = W0) := ⟨_, Lib.hid rfl⟩
      have c0 : Chg (fun _ => False) wr W0 := by rw [← HW0.out]; exact (Chg.refl _ _).alloc _
      have g0 : (W0.drewN 1).cell? ⟨wr.heap.size, 0, none⟩ = some (.func (.func n) #[] caps) := by rw [← HW0.out]; exact cell_of (Go.heap_alloc_new wr _) (by simp)
      have g1 : (W0.drewN 1).cell? ⟨wr.heap.size, 1, none⟩ = some (.string s) := by rw [← HW0.out]; exact cell_of (Go.heap_alloc_new wr _) (by simp)
      have g2 : (W0.drewN 1).cell? ⟨b, 2, none⟩ = some (.map (some r2)) := by
        have := World.cell?_of_block (w := wr) (w' := W0) (a := ⟨b, 2, none⟩) (c0.block b (block_lt_of_cell e3) (fun f => f))
        exact this.trans e3
      have HCall := Lib.hid (fun y hy => crash_call H.out HU.out hT hcl (W := W0.drewN 1) (c0.trans (Chg.drewN W0 1)) y hy)
      have HC0 := Lib.hid c0
      clear hcl hT hc c0
      by_cases hkp : k = kp
      · subst hkp
        have HB := Lib.hid (crash_at d.kept d.T (t := t) HT.out)
        rw [HCr.out] at HB
        by_cases hst : s.size < t
        · have hq := bytes_isEmpty s
          have hq' := bytes_isEmpty (s.extract 0 s.size)
          rw [extract_all] at hq'
          by_cases hz : s.size = 0
          · have hCe := Lib.hid (show C = acts d.kept (d.T.take k) by rw [HB.out, if_pos (by omega)])
            have hd : decide (s.size = 0) = true := by simpa using hz
            rw [hd] at hq
            obtain ⟨e4, hR⟩ := HR.out W0 (by rw [hCe.out]; exact HU.out.kept.stay (HC0.out.block r2 HU.out.kept.lt (fun f => f))) (HU.out.chg.trans' HC0.out (fun _ f => f.elim))
            have hzz : W0.heap.size = wr.heap.size + 1 := by rw [← HW0.out]; simp
            rw [hzz] at hR
            rw [← HW0.out] at e4 hR
            have R := Lib.hid hR
            clear g0 g1 g2 HCall HB HR HC0
            clear hR
            go_wp2_with fail
            refine R.out.mono ?_
            rintro e w2 ⟨rfl, f1, f2, HS⟩
            go_wp2_with fail
            refine HS.out.mono ?_
            rintro e w3 ⟨rfl, hT⟩
            have HT2 := Lib.hid hT
            clear hT
            go_wp2
            go_ret
            exact ⟨rfl, HT2.out⟩
          · have hCe := Lib.hid (show C = act dd (acts d.kept (d.T.take k)) s by rw [HB.out, if_neg (by omega), show min t s.size = s.size by omega, extract_all])
            have hd : decide (s.size = 0) = false := by simpa using hz
            rw [hd] at hq
            go_wp2_with fail
            rw [HW0.out]
            refine wp_region_still_tail 7 (by kernel_rfl) (by kernel_rfl) ?_
            simp only [List.take_succ_cons, List.take_zero, List.drop_succ_cons, List.drop_zero]
            change wpStill _ _ (W0.drewN 1) _ _ _
            repeat still_step
            refine wpStill_nil ?_
            change wpList _ _ _ _ _ (W0.drewN 1)
            go_wp2_with fail
            refine (HCall.out s (Nat.le_refl _)).mono ?_
            rintro e w1 ⟨rfl, hf, hc1⟩
            obtain ⟨e4, hR⟩ := HR.out w1 (by rw [hCe.out]; exact hf.out) hc1.out
            have R := Lib.hid hR
            clear g0 g1 g2 HCall HB HR HC0
            clear hR
            go_wp2_with fail
            refine R.out.mono ?_
            rintro e w2 ⟨rfl, f1, f2, HS⟩
            go_wp2_with fail
            refine HS.out.mono ?_
            rintro e w3 ⟨rfl, hT⟩
            have HT2 := Lib.hid hT
            clear hT
            go_wp2
            go_ret
            exact ⟨rfl, HT2.out⟩
        · have hq := bytes_isEmpty (s.extract 0 t)
          rw [ByteArray.size_extract] at hq
          have hty : (s.extract 0 t).size ≤ s.size := by rw [ByteArray.size_extract]; omega
          by_cases hz : t = 0
          · have hCe := Lib.hid (show C = acts d.kept (d.T.take k) by rw [HB.out, if_pos (by omega)])
            have hd : decide (min t s.size - 0 = 0) = true := by simp; omega
            rw [hd] at hq
            have HZ := Lib.hid hz
            clear hz
            obtain ⟨e4, hR⟩ := HR.out W0 (by rw [hCe.out]; exact HU.out.kept.stay (HC0.out.block r2 HU.out.kept.lt (fun f => f))) (HU.out.chg.trans' HC0.out (fun _ f => f.elim))
            have hzz : W0.heap.size = wr.heap.size + 1 := by rw [← HW0.out]; simp
            rw [hzz] at hR
            rw [← HW0.out] at e4 hR
            have R := Lib.hid hR
            clear g0 g1 g2 HCall HB HR HC0
            clear hR
            go_wp2_with fail
            refine R.out.mono ?_
            rintro e w2 ⟨rfl, f1, f2, HS⟩
            go_wp2_with fail
            refine HS.out.mono ?_
            rintro e w3 ⟨rfl, hT⟩
            have HT2 := Lib.hid hT
            clear hT
            go_wp2
            go_ret
            exact ⟨rfl, HT2.out⟩
          · have hd : decide (min t s.size - 0 = 0) = decide (s.size = 0) := by simp only [decide_eq_decide]; omega
            rw [hd] at hq
            by_cases hs0 : s.size = 0
            · have hCe := Lib.hid (show C = acts d.kept (d.T.take k) by rw [HB.out, if_pos (by omega)])
              exact absurd hs0 (by omega)
            · have hCe := Lib.hid (show C = act dd (acts d.kept (d.T.take k)) (s.extract 0 t) by rw [HB.out, if_neg (by omega), show min t s.size = t by omega])
              have hd : decide (s.size = 0) = false := by simpa using hs0
              rw [hd] at hq
              go_wp2_with fail
              rw [HW0.out]
              refine wp_region_still_tail 7 (by kernel_rfl) (by kernel_rfl) ?_
              simp only [List.take_succ_cons, List.take_zero, List.drop_succ_cons, List.drop_zero]
              change wpStill _ _ (W0.drewN 1) _ _ _
              repeat still_step
              refine wpStill_nil ?_
              change wpList _ _ _ _ _ (W0.drewN 1)
              go_wp2_with fail
              refine (HCall.out (s.extract 0 t) (hty)).mono ?_
              rintro e w1 ⟨rfl, hf, hc1⟩
              obtain ⟨e4, hR⟩ := HR.out w1 (by rw [hCe.out]; exact hf.out) hc1.out
              have R := Lib.hid hR
              clear g0 g1 g2 HCall HB HR HC0
              clear hR
              go_wp2_with fail
              refine R.out.mono ?_
              rintro e w2 ⟨rfl, f1, f2, HS⟩
              go_wp2_with fail
              refine HS.out.mono ?_
              rintro e w3 ⟨rfl, hT⟩
              have HT2 := Lib.hid hT
              clear hT
              go_wp2
              go_ret
              exact ⟨rfl, HT2.out⟩
      · have hne : decide ((k : Int) = kp) = false := by simp; omega
        clear HR
        go_wp2_with fail
        rw [HW0.out]
        refine wp_region_still_tail 8 (by kernel_rfl) (by kernel_rfl) ?_
        simp only [List.take_succ_cons, List.take_zero, List.drop_succ_cons, List.drop_zero]
        change wpStill _ _ (W0.drewN 1) _ _ _
        repeat still_step
        refine wpStill_nil ?_
        change wpList _ _ _ _ _ (W0.drewN 1)
        go_wp2_with fail
        refine (HCall.out s (Nat.le_refl _)).mono ?_
        rintro e w1 ⟨rfl, hf, hc1⟩
        clear g0 g1 g2 HCall HC0
        go_wp2
        go_roundw
        case rel => exact ⟨k + 1, by simp, by omega, by omega, Lib.hid ⟨by rw [acts_snoc HT.out]; exact hf.out, hc1.out⟩⟩
        case measure => simp [intOf]; omega
    · have hkm : k = m := by omega
      subst hkm
      have hkp : kp = k := by omega
      have hCe : C = acts d.kept (d.T.take k) := by
        rw [← HCr.out, hkp]
        unfold crash
        rw [List.getElem?_eq_none (by rw [HLen.out]; omega), ← HLen.out, List.take_length]
      have b1 : decide ((k : Int) < k) = false := by simp
      obtain ⟨e3, hR⟩ := HR.out wr (by rw [hCe]; exact HU.out.kept) HU.out.chg
      have R := Lib.hid hR
      clear hR hkp hCe HR HU
      go_wp2_with fail
      refine R.out.mono ?_
      rintro e w2 ⟨rfl, f1, f2, HS⟩
      go_wp2_with fail
      refine HS.out.mono ?_
      rintro e w3 ⟨rfl, hT⟩
      have HT := Lib.hid hT
      clear hT
      go_wp2
      go_ret
      exact ⟨rfl, HT.out⟩
end
end Go.Proofs.Ytjflkmihkfbgpaa
