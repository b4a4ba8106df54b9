/- Walks: the document's may: may a transaction be committed? -/
import Derived.Test.YtgmmglmokkcgeaaGreatR4b
import Derived.Test.YtgmmglmokkcgeaaGreatA7
import Derived.Deep.QuietTactic
namespace Go.Proofs.YtgmmglmokkcgeaaGreat
set_option linter.unusedVariables false
set_option linter.unusedSimpArgs false
set_option linter.unusedSectionVars false
open Go.RowKit Mk Go.Sort

section
variable {w w' : World} {b : Nat} {R : RV} {F G : Nat → Prop} {r : RM} {o : OpM} {l : OpL}
set_option maxRecDepth 100000 in
set_option maxHeartbeats 4000000 in
theorem rclear_any (h : RRep w b R F r) (hts : Ris lessB r.t) (htp : ∀ p ∈ r.t, p.2.p = p.1) (ho : OpAt w o l) :
    Calls Tryz.prog 100 #[.pointer (some ⟨b, 0, none⟩), .agg (opC o l)] w fun e w' => e = .returned (.bool (rclearM r o)) ∧ Chg (fun _ => False) w w' := by
  have H := Lib.hid (fun (v : World) (c : Chg (fun _ => False) w v) => h.same c)
  have HO := Lib.hid ho
  have HTS := Lib.hid (And.intro hts htp)
  obtain ⟨K, hK⟩ : ∃ K, o.keys.length = K := ⟨_, rfl⟩
  obtain ⟨N, hN⟩ : ∃ N, o.needs.length = N := ⟨_, rfl⟩
  have hkl := ho.keys.len
  have hnl := ho.needs.len
  rw [hK] at hkl
  rw [hN] at hnl
  have HK := Lib.hid hK
  have HN := Lib.hid hN
  obtain ⟨Rr, HR⟩ : ∃ z, Hid (rclearM r o = z) := ⟨_, Lib.hid rfl⟩
  rw [HR.out]
  unfold opC
  rw [hK, hN]
  obtain ⟨W0, HW0⟩ : ∃ W0, Hid (w.alloc (.cells #[.int .u8 (o.k : Nat), .int .u32 (o.n : Nat), .int .u64 (o.st : Nat), .slice l.ko K l.kc, .slice l.no N l.nc, .string o.pred, .int .u32 (o.g : Nat), .int .u32 (o.to : Nat), .int .u64 (o.at_ : Nat)] 28) = W0) := ⟨_, Lib.hid rfl⟩
  obtain ⟨kb, HKB⟩ : ∃ kb, Hid (w.heap.size = kb) := ⟨_, Lib.hid rfl⟩
  have HC0 := Lib.hid (show Chg (fun _ => False) w W0 by rw [← HW0.out]; exact (Chg.refl _ _).alloc _)
  have hkc : W0.heap[kb]? = some (.cells #[.int .u8 (o.k : Nat), .int .u32 (o.n : Nat), .int .u64 (o.st : Nat), .slice l.ko K l.kc, .slice l.no N l.nc, .string o.pred, .int .u32 (o.g : Nat), .int .u32 (o.to : Nat), .int .u64 (o.at_ : Nat)] 28) := by rw [← HW0.out, ← HKB.out]; exact Go.heap_alloc_new _ _
  have HKC := Lib.hid hkc
  have HKL := Lib.hid (Array.getElem?_eq_some_iff.1 hkc).1
  have HCL := Lib.hid (show rclearM r o = (o.keys.all (fun k => decide ((lk r.k k).getD 0 ≤ o.st)) && o.needs.all (rneedM r)) from rfl)
  clear hK hN h ho hkc hts htp
  go_enter Tryz.func100, Tryz.ntmps100
  go_upto_region 1 with fail
  rw [HW0.out, HKB.out]
  generalize o.pred = op at *
  generalize (o.k : Int) = okk at *
  generalize (o.n : Int) = onn at *
  generalize (o.g : Int) = ogg at *
  generalize (o.to : Int) = oto at *
  generalize (o.at_ : Int) = oat at *
  go_wp2_with fail
  go_loopw [5] (fun i wr => ∃ j : Nat, i = .int .i64 j ∧ j ≤ K ∧ Hid (o.keys.all (fun k => decide ((lk r.k k).getD 0 ≤ o.st)) = (o.keys.drop j).all (fun k => decide ((lk r.k k).getD 0 ≤ o.st))) ∧ Hid (Chg (fun _ => False) W0 wr)) (fun i _ => K - (intOf i).toNat)
  case atStart => exact ⟨0, rfl, by omega, Lib.hid rfl, Lib.hid (Chg.refl _ _)⟩
  case round =>
    obtain ⟨j, rfl, hj, HP, HC⟩ := hrel
    have hkc2 := (HC.out.block kb HKL.out (fun f => f)).trans HKC.out
    have k2 : wr.cell? ⟨kb, 2, none⟩ = some (.int .u64 (o.st : Nat)) := cell_of hkc2 rfl
    have k3 : wr.cell? ⟨kb, 3, none⟩ = some (.slice l.ko K l.kc) := cell_of hkc2 rfl
    have HW := Lib.hid (HC0.out.trans HC.out)
    by_cases hlt : j < K
    · have hd : decide ((j : Int) < K) = true := by simp; omega
      have hjl : j < o.keys.length := by rw [HK.out]; exact hlt
      obtain ⟨g, oo, hko, hg, a1⟩ := (HO.out.keys.same HW.out).cell j hjl
      have hst2 := all_drop (fun k => decide ((lk r.k k).getD 0 ≤ o.st)) hjl
      generalize o.keys[j] = x at *
      have LQ := fun m => rlastq_any ((H.out _ HW.out).same (Chg.drewN' wr m)) x
      have q0 : (0 : Int) ≤ (j : Int) := by omega
      have q1 : (j : Int) < K := by omega
      rw [hko] at k3
      rw [hko]
      have HST := Lib.hid hst2
      clear hst2 hkc2
      obtain ⟨lv, hlv⟩ : ∃ lv, (lk r.k x).getD 0 = lv := ⟨_, rfl⟩
      rw [hlv] at LQ
      have LQ := Lib.hid LQ
      by_cases h1 : lv ≤ o.st
      · have d1 : decide ((o.st : Int) < lv) = false := by simp; omega
        have d1n : decide (o.st < lv) = false := decide_eq_false (by omega)
        have HP2 : Hid (o.keys.all (fun k => decide ((lk r.k k).getD 0 ≤ o.st)) = (o.keys.drop (j + 1)).all (fun k => decide ((lk r.k k).getD 0 ≤ o.st))) := Lib.hid (by rw [HP.out, HST.out]; simp only [hlv, h1, decide_true, Bool.true_and])
        clear hlv h1 HP HST
        go_wp2_with fail
        go_quiet ((go_at_call 66; exact Calls.quiet_of_same (LQ.out _)))
        have HC2 := Lib.hid (HC.out.trans (Chg.drewN' wr nq))
        go_wp2_with fail
        go_roundw
        case rel => exact ⟨j + 1, by go_num, by omega, HP2, HC2⟩
        case measure => simp [intOf]; omega
      · have d1 : decide ((o.st : Int) < lv) = true := by simp; omega
        have d1n : decide (o.st < lv) = true := decide_eq_true (by omega)
        have : Rr = false := by rw [← HR.out, HCL.out, HP.out, HST.out]; simp only [hlv, h1, decide_false, Bool.false_and]
        subst this
        clear hlv h1 HP HST
        go_wp2_with fail
        go_quiet ((go_at_call 66; exact Calls.quiet_of_same (LQ.out _)))
        have HC2 := Lib.hid (HW.out.trans (Chg.drewN' wr nq))
        go_wp2_with fail
        go_ret
        exact ⟨rfl, HC2.out⟩
    · have hd : decide ((j : Int) < K) = false := by simp; omega
      have HKALL : Hid (o.keys.all (fun k => decide ((lk r.k k).getD 0 ≤ o.st)) = true) := Lib.hid (by rw [HP.out, List.drop_of_length_le (by rw [HK.out]; omega)]; rfl)
      have HCA := Lib.hid HC.out
      clear HP k2 hkc2 HC HW
      go_wp2_with fail
      generalize wr = wa at *
      clear k3
      go_loopw [6] (fun i wr => ∃ j : Nat, i = .int .i64 j ∧ j ≤ N ∧ Hid (o.needs.all (rneedM r) = (o.needs.drop j).all (rneedM r)) ∧ Hid (Chg (fun _ => False) W0 wr)) (fun i _ => N - (intOf i).toNat)
      case atStart => exact ⟨0, rfl, by omega, Lib.hid rfl, HCA⟩
      case round =>
        obtain ⟨j2, rfl, hj2, HP4, HC4⟩ := hrel
        have hkc2 := (HC4.out.block kb HKL.out (fun f => f)).trans HKC.out
        have k4 : wr.cell? ⟨kb, 4, none⟩ = some (.slice l.no N l.nc) := cell_of hkc2 rfl
        have HW := Lib.hid (HC0.out.trans HC4.out)
        by_cases hlt2 : j2 < N
        · have hd2 : decide ((j2 : Int) < N) = true := by simp; omega
          have hjl : j2 < o.needs.length := by rw [HN.out]; exact hlt2
          obtain ⟨g, oo, hno, hg, a1, a2⟩ := (HO.out.needs.same HW.out).cell j2 hjl
          have hst2 := all_drop (rneedM r) hjl
          generalize o.needs[j2] = x2 at *
          obtain ⟨x, t⟩ := x2
          simp only at a1 a2
          have q0 : (0 : Int) ≤ (j2 : Int) := by omega
          have q1 : (j2 : Int) < N := by omega
          rw [hno] at k4
          rw [hno]
          have HST := Lib.hid hst2
          have TB := rtablet_any (H.out _ HW.out) HTS.out.1 HTS.out.2 x
          have HKE := Lib.hid (fun (u : World) (c : Chg (fun _ => False) wr u) => show u.cell? ⟨kb, 4, none⟩ = some (.slice (some ⟨g, oo, none⟩) N l.nc) ∧ u.cell? ⟨g, oo + j2 * 2 + 1, none⟩ = some (.int .u64 (t : Nat)) from
            ⟨(World.cell?_of_block (a := ⟨kb, 4, none⟩) (c.block kb (Nat.lt_of_lt_of_le HKL.out HC4.out.size) (fun f => f))).trans k4, (World.cell?_of_block (a := ⟨g, oo + j2 * 2 + 1, none⟩) (c.block g hg (fun f => f))).trans a2⟩)
          clear hst2 hkc2 hg
          obtain ⟨tl, htl⟩ : ∃ tl, lk r.t x = tl := ⟨_, rfl⟩
          rw [htl] at TB
          obtain ⟨tt, htt⟩ : ∃ tt, tl.getD .zero = tt := ⟨_, rfl⟩
          obtain ⟨is, his⟩ : ∃ z, tl.isSome = z := ⟨_, rfl⟩
          rw [htt, his] at TB
          have HRN := Lib.hid (show rneedM r (x, t) = (is && (tt.to == 0 && tt.tn == t)) from by
            unfold rneedM
            rw [htl, ← htt, ← his]
            cases tl <;> rfl)
          obtain ⟨tp, tg, tto, tat, ttn⟩ := tt
          unfold tbV at TB
          simp only at TB HRN
          have TB := Lib.hid TB
          clear htl htt his
          go_wp2_with fail
          refine TB.out.mono ?_
          rintro e w5 ⟨rfl, c5⟩
          obtain ⟨W6, HW6⟩ : ∃ W, Hid (w5.alloc (.cells #[.string tp, .int .u32 (tg : Nat), .int .u32 (tto : Nat), .int .u64 (tat : Nat), .int .u64 (ttn : Nat)] 41) = W) := ⟨_, Lib.hid rfl⟩
          obtain ⟨tb, HTB⟩ : ∃ k, Hid (w5.heap.size = k) := ⟨_, Lib.hid rfl⟩
          have hb6 : W6.heap[tb]? = some (.cells #[.string tp, .int .u32 (tg : Nat), .int .u32 (tto : Nat), .int .u64 (tat : Nat), .int .u64 (ttn : Nat)] 41) := by rw [← HW6.out, ← HTB.out]; exact Go.heap_alloc_new _ _
          have C6 := Lib.hid (show Chg (fun _ => False) wr W6 by rw [← HW6.out]; exact c5.alloc _)
          obtain ⟨k5, a3⟩ := HKE.out _ C6.out
          have y2 : W6.cell? ⟨tb, 2, none⟩ = some (.int .u32 (tto : Nat)) := cell_of hb6 rfl
          have y4 : W6.cell? ⟨tb, 4, none⟩ = some (.int .u64 (ttn : Nat)) := cell_of hb6 rfl
          clear hb6 c5 k4 a1 a2 TB
          go_upto_region 10 with fail
          rw [HW6.out, HTB.out]
          have no : ∀ z, (is && (tto == 0 && ttn == t)) = z → z = false → Rr = false := fun z hz h0 => by rw [← HR.out, HCL.out, HP4.out, HST.out, HRN.out, hz, h0]; simp
          have NO := Lib.hid no
          clear no
          cases is
          · have : Rr = false := NO.out _ rfl rfl
            subst this
            clear NO HRN HP4 HST
            go_quiet (fail)
            have C7 := Lib.hid ((HW.out.trans C6.out).trans (Chg.drewN' W6 nq))
            go_wp2_with fail
            go_ret
            exact ⟨rfl, C7.out⟩
          · by_cases h1 : tto = 0
            · have d1 : decide ((tto : Int) = 0) = true := by simp; omega
              have d1' : ((tto : Int) != 0) = false := by simp; omega
              have d1'' : ((tto : Int) == 0) = true := by simp; omega
              by_cases h2 : ttn = t
              · have d2 : decide ((ttn : Int) = t) = true := by simp; omega
                have d2' : ((ttn : Int) != (t : Int)) = false := by simp; omega
                have d2'' : ((ttn : Int) == (t : Int)) = true := by simp; omega
                have HP5 : Hid (o.needs.all (rneedM r) = (o.needs.drop (j2 + 1)).all (rneedM r)) := Lib.hid (by rw [HP4.out, HST.out, HRN.out]; simp [h1, h2])
                clear NO HRN HP4 HST h1 h2
                go_quiet (fail)
                have C7 := Lib.hid ((HC4.out.trans C6.out).trans (Chg.drewN' W6 nq))
                go_wp2_with fail
                go_roundw
                case rel => exact ⟨j2 + 1, by go_num, by omega, HP5, C7⟩
                case measure => simp [intOf]; omega
              · have d2 : decide ((ttn : Int) = t) = false := by simp; omega
                have d2' : ((ttn : Int) != (t : Int)) = true := by simp; omega
                have d2'' : ((ttn : Int) == (t : Int)) = false := by simp; omega
                have : Rr = false := NO.out _ rfl (by simp [h2])
                subst this
                clear NO HRN HP4 HST h1 h2
                go_quiet (fail)
                have C7 := Lib.hid ((HW.out.trans C6.out).trans (Chg.drewN' W6 nq))
                go_wp2_with fail
                go_ret
                exact ⟨rfl, C7.out⟩
            · have d1 : decide ((tto : Int) = 0) = false := by simp; omega
              have d1' : ((tto : Int) != 0) = true := by simp; omega
              have d1'' : ((tto : Int) == 0) = false := by simp; omega
              have : Rr = false := NO.out _ rfl (by simp [h1])
              subst this
              clear NO HRN HP4 HST h1
              go_quiet (fail)
              have C7 := Lib.hid ((HW.out.trans C6.out).trans (Chg.drewN' W6 nq))
              go_wp2_with fail
              go_ret
              exact ⟨rfl, C7.out⟩
        · have hd2 : decide ((j2 : Int) < N) = false := by simp; omega
          have : Rr = true := by rw [← HR.out, HCL.out, HKALL.out, HP4.out, List.drop_of_length_le (by rw [HN.out]; omega)]; rfl
          subst this
          clear HP4 hkc2
          go_wp2_with fail
          go_ret
          exact ⟨rfl, HW.out⟩
end
end Go.Proofs.YtgmmglmokkcgeaaGreat
