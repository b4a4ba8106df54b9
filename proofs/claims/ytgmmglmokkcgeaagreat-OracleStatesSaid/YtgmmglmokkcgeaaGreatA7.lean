/- Walks: clear, abort. -/
import Derived.Test.YtgmmglmokkcgeaaGreatA6
namespace Go.Proofs.YtgmmglmokkcgeaaGreat
set_option linter.unusedVariables false
set_option linter.unusedSimpArgs false
open Go.RowKit Mk Go.Sort
section
variable {w : World} {b : Nat} {R : Loc} {F : Nat → Prop} {n : OM} {o : OpM} {l : OpL}
theorem OrRep.lookL (h : OrRep w b R F n) {x : ByteArray} (hx : x.size ≤ maxLen) : (Instr.lookup 32 (.map (some R.l)) (.string x) false).run Tryz.prog w = .ok (.int .u64 (((lk n.las x).getD 0 : Nat) : Int)) w := by
  have hz : (zeroValue 24).run Tryz.prog w = .ok (.int .u64 0) w := by simp [go_sem]
  have := run_lookup keysS Tryz.underlying32 hz h.las hx false
  rw [nv, lk_map] at this
  simp only [Bool.false_eq_true, if_false, kvS] at this
  rw [this]
  cases lk n.las x <;> simp [nV]
theorem zero38 (w : World) : (zeroValue 41).run Tryz.prog w = .ok (tbV .zero) w := by simp [go_sem, tbV, Tb.zero]
theorem OrRep.lookT (h : OrRep w b R F n) {x : ByteArray} (hx : x.size ≤ maxLen) : (Instr.lookup 33 (.map (some R.t)) (.string x) true).run Tryz.prog w = .ok (.tuple #[tbV ((lk n.tab x).getD .zero), .bool (lk n.tab x).isSome]) w := by
  have := run_lookup keysS Tryz.underlying33 (zero38 w) h.tab hx true
  rw [tv, lk_map] at this
  simp only [if_true, kvS] at this
  rw [this]
  cases lk n.tab x <;> simp

set_option maxRecDepth 100000 in
set_option maxHeartbeats 4000000 in
theorem clear_any (h : OrRep w b R F n) (ho : OpAt w o l) (hks : ∀ k ∈ o.keys, k.size ≤ maxLen) :
    Calls Tryz.prog 111 #[.pointer (some ⟨b, 0, none⟩), .agg (opC o l)] w fun e w' => e = .returned (.bool (clearM n o)) ∧ Chg (fun _ => False) w w' := by
  have H := Lib.hid (fun (v : World) (c : Chg (fun _ => False) w v) => h.same c)
  have HO := Lib.hid ho
  obtain ⟨K, hK⟩ : ∃ K, o.keys.length = K := ⟨_, rfl⟩
  obtain ⟨N, hN⟩ : ∃ N, o.needs.length = N := ⟨_, rfl⟩
  have hkl := ho.keys.len
  have hnl := ho.needs.len
  rw [hK] at hkl
  rw [hN] at hnl
  have HK := Lib.hid hK
  have HN := Lib.hid hN
  have HKS := Lib.hid hks
  have hst := ho.st
  have hblt := h.lt
  obtain ⟨Rr, HR⟩ : ∃ r, Hid (clearM n o = r) := ⟨_, Lib.hid rfl⟩
  rw [HR.out]
  unfold opC
  rw [hK, hN]
  obtain ⟨W0, HW0⟩ : ∃ W0, Hid (w.alloc (.cells #[.int .u8 (o.k : Nat), .int .u32 (o.n : Nat), .int .u64 (o.st : Nat), .slice l.ko K l.kc, .slice l.no N l.nc, .string o.pred, .int .u32 (o.g : Nat), .int .u32 (o.to : Nat), .int .u64 (o.at_ : Nat)] 28) = W0) := ⟨_, Lib.hid rfl⟩
  obtain ⟨kb, HKB⟩ : ∃ kb, Hid (w.heap.size = kb) := ⟨_, Lib.hid rfl⟩
  have HC0 : Hid (Chg (fun _ => False) w W0) := by rw [← HW0.out]; exact Lib.hid ((Chg.refl _ _).alloc _)
  have hkc : W0.heap[kb]? = some (.cells #[.int .u8 (o.k : Nat), .int .u32 (o.n : Nat), .int .u64 (o.st : Nat), .slice l.ko K l.kc, .slice l.no N l.nc, .string o.pred, .int .u32 (o.g : Nat), .int .u32 (o.to : Nat), .int .u64 (o.at_ : Nat)] 28) := by rw [← HW0.out, ← HKB.out]; exact Go.heap_alloc_new _ _
  have HKC := Lib.hid (show W0.heap[kb]? = some (.cells (opC o l) 28) by unfold opC; rw [hK, hN]; exact hkc)
  have HKL := Lib.hid (Array.getElem?_eq_some_iff.1 hkc).1
  have k3 : W0.cell? ⟨kb, 3, none⟩ = some (.slice l.ko K l.kc) := cell_of hkc rfl
  have HCL : Hid (clearM n o = (o.keys.all (fun k => decide ((lk n.las k).getD 0 ≤ o.st)) && o.needs.all (needM n))) := Lib.hid rfl
  clear hK hN h ho hkc hks
  go_enter Tryz.func111, Tryz.ntmps111
  go_wp2_with fail
  rw [HW0.out, HKB.out]
  generalize o.pred = op at *
  generalize (o.k : Int) = okk at *
  generalize (o.n : Int) = onn at *
  generalize (o.g : Int) = ogg at *
  generalize (o.to : Int) = oto at *
  generalize (o.at_ : Int) = oat at *
  go_loopw [14] (fun i wr => ∃ j : Nat, i = .int .i64 j ∧ j ≤ K ∧ Hid (o.keys.all (fun k => decide ((lk n.las k).getD 0 ≤ o.st)) = (o.keys.drop j).all (fun k => decide ((lk n.las k).getD 0 ≤ o.st))) ∧ Hid (Chg (fun _ => False) W0 wr)) (fun i _ => K - (intOf i).toNat)
  case atStart => exact ⟨0, rfl, by omega, Lib.hid rfl, Lib.hid (Chg.refl _ _)⟩
  case round =>
    obtain ⟨j, rfl, hj, HP, HC⟩ := hrel
    have hkc2 := (HC.out.block kb HKL.out (fun f => f)).trans HKC.out
    unfold opC at hkc2
    have k2 : wr.drew.cell? ⟨kb, 2, none⟩ = some (.int .u64 (o.st : Nat)) := cell_of (w := wr) hkc2 rfl
    have k4 : wr.cell? ⟨kb, 4, none⟩ = some (.slice l.no N l.nc) := by rw [HN.out] at hkc2; exact cell_of hkc2 rfl
    have HW := Lib.hid (HC0.out.trans HC.out)
    clear hkc2 k3
    by_cases hlt : j < K
    · have hd : decide ((j : Int) < K) = true := by simp; omega
      have hjl : j < o.keys.length := by rw [HK.out]; exact hlt
      obtain ⟨g, oo, hko, hg, a1⟩ := (HO.out.keys.same HW.out).cell j hjl
      have hsz := HKS.out _ (List.getElem_mem hjl)
      have hst2 := all_drop (fun k => decide ((lk n.las k).getD 0 ≤ o.st)) hjl
      generalize o.keys[j] = x at *
      have hl := ((H.out _ HW.out).same ((Chg.refl _ wr).drew)).lookL hsz
      have c5 := ((H.out _ HW.out).same ((Chg.refl _ wr).drew)).c5
      have q0 : (0 : Int) ≤ (j : Int) := by omega
      have q1 : (j : Int) < K := by omega
      rw [hko]
      have HST := Lib.hid hst2
      have HC2 := Lib.hid (HC.out.drew)
      clear hst2 hsz k4
      obtain ⟨lv, hlv⟩ : ∃ lv, (lk n.las x).getD 0 = lv := ⟨_, rfl⟩
      rw [hlv] at hl
      by_cases h1 : lv ≤ o.st
      · have d1 : decide ((o.st : Int) < lv) = false := by simp; omega
        have HP2 : Hid (o.keys.all (fun k => decide ((lk n.las k).getD 0 ≤ o.st)) = (o.keys.drop (j + 1)).all (fun k => decide ((lk n.las k).getD 0 ≤ o.st))) := Lib.hid (by rw [HP.out, HST.out]; simp only [hlv, h1, decide_true, Bool.true_and])
        clear hlv
        go_wp2
        go_region
        go_wp2
        go_roundw
        case rel => exact ⟨j + 1, by go_num, by omega, HP2, HC2⟩
        case measure => simp [intOf]; omega
      · have d1 : decide ((o.st : Int) < lv) = true := by simp; omega
        have : Rr = false := by rw [← HR.out, HCL.out, HP.out, HST.out]; simp only [hlv, h1, decide_false, Bool.false_and]
        subst this
        clear hlv
        go_wp2
        go_region
        go_wp2
        go_ret
        exact ⟨rfl, HW.out.drew⟩
    · have hd : decide ((j : Int) < K) = false := by simp; omega
      have HKALL : Hid (o.keys.all (fun k => decide ((lk n.las k).getD 0 ≤ o.st)) = true) := Lib.hid (by rw [HP.out, List.drop_of_length_le (by rw [HK.out]; omega)]; rfl)
      clear HP k2
      go_wp2
      go_loopw [31] (fun i wr => ∃ j : Nat, i = .int .i64 j ∧ j ≤ N ∧ Hid (o.needs.all (needM n) = (o.needs.drop j).all (needM n)) ∧ Hid (Chg (fun _ => False) w wr)) (fun i _ => N - (intOf i).toNat)
      case atStart => exact ⟨0, rfl, by omega, Lib.hid rfl, HW⟩
      case round =>
        clear k4 HW HC
        obtain ⟨j2, rfl, hj2, HP4, HC4⟩ := hrel
        by_cases hlt2 : j2 < N
        · have hd2 : decide ((j2 : Int) < N) = true := by simp; omega
          have hjl : j2 < o.needs.length := by rw [HN.out]; exact hlt2
          obtain ⟨g, oo, hno, hg, a1, a2⟩ := (HO.out.needs.same HC4.out).cell j2 hjl
          have hsz := HO.out.needs.sz _ (List.getElem_mem hjl)
          have hst2 := all_drop (needM n) hjl
          generalize o.needs[j2] = x2 at *
          obtain ⟨x, t⟩ := x2
          simp only at a1 a2 hsz
          have q0 : (0 : Int) ≤ (j2 : Int) := by omega
          have q1 : (j2 : Int) < N := by omega
          rw [hno]
          obtain ⟨W1, HW1⟩ : ∃ W1, Hid (wr.alloc (.cells #[.string x, .int .u64 t] 109) = W1) := ⟨_, Lib.hid rfl⟩
          obtain ⟨nb, HNB⟩ : ∃ nb, Hid (wr.heap.size = nb) := ⟨_, Lib.hid rfl⟩
          have hnb : W1.heap[nb]? = some (.cells #[.string x, .int .u64 t] 109) := by rw [← HW1.out, ← HNB.out]; exact Go.heap_alloc_new _ _
          have HC1 : Hid (Chg (fun _ => False) w W1) := by rw [← HW1.out]; exact Lib.hid (HC4.out.alloc _)
          have b0 : W1.cell? ⟨nb, 0, none⟩ = some (.string x) := cell_of hnb rfl
          have b1 : W1.cell? ⟨nb, 1, none⟩ = some (.int .u64 t) := cell_of hnb rfl
          have hnl1 := (Array.getElem?_eq_some_iff.1 hnb).1
          have hb1 := (H.out _ HC1.out).lt
          have c6 := (H.out _ HC1.out).c6
          have hl1 := ((H.out _ HC1.out).same ((Chg.refl _ W1).drew)).lookT hsz
          have hl2 := ((H.out _ HC1.out).same (((Chg.refl _ W1).alloc (.cells #[.string ⟨#[]⟩, .int .u32 0, .int .u32 0, .int .u64 0, .int .u64 0] 41)).drew)).lookT hsz
          have HST := Lib.hid hst2
          clear hnb hst2 hsz hg
          obtain ⟨tl, htl⟩ : ∃ tl, lk n.tab x = tl := ⟨_, rfl⟩
          rw [htl] at hl1 hl2
          cases tl with
          | none =>
            have : Rr = false := by rw [← HR.out, HCL.out, HP4.out, HST.out]; simp [needM, htl]
            subst this
            unfold tbV Tb.zero at hl1 hl2
            simp only [Option.getD_none, Option.isSome_none] at hl1 hl2
            clear htl
            go_wp2_with fail
            rw [HW1.out, HNB.out]
            go_region
            all_goals
              go_wp2
              go_ret
              exact ⟨rfl, (HC1.out.alloc _).drew⟩
          | some tt =>
            obtain ⟨tp, tg, tto, tat, ttn⟩ := tt
            unfold tbV at hl1 hl2
            simp only [Option.getD_some, Option.isSome_some] at hl1 hl2
            by_cases h1 : tto = 0
            · have d1 : decide ((tto : Int) = 0) = true := by simp; omega
              have d1' : ((tto : Int) != 0) = false := by simp; omega
              by_cases h2 : ttn = t
              · have d2 : decide ((ttn : Int) = t) = true := by simp; omega
                have d2' : ((ttn : Int) != (t : Int)) = false := by simp; omega
                have HP5 : Hid (o.needs.all (needM n) = (o.needs.drop (j2 + 1)).all (needM n)) := Lib.hid (by rw [HP4.out, HST.out]; simp [needM, htl, h1, h2])
                clear htl h1 h2
                go_wp2_with fail
                rw [HW1.out, HNB.out]
                go_region
                all_goals
                  go_wp2
                  go_roundw
                  case rel => exact ⟨j2 + 1, by go_num, by omega, HP5, Lib.hid (HC1.out.alloc _).drew⟩
                  case measure => simp [intOf]; omega
              · have d2 : decide ((ttn : Int) = t) = false := by simp; omega
                have d2' : ((ttn : Int) != (t : Int)) = true := by simp; omega
                have : Rr = false := by rw [← HR.out, HCL.out, HP4.out, HST.out]; simp [needM, htl, h2]
                subst this
                clear htl h1 h2
                go_wp2_with fail
                rw [HW1.out, HNB.out]
                go_region
                all_goals
                  go_wp2
                  go_ret
                  exact ⟨rfl, (HC1.out.alloc _).drew⟩
            · have d1 : decide ((tto : Int) = 0) = false := by simp; omega
              have d1' : ((tto : Int) != 0) = true := by simp; omega
              have : Rr = false := by rw [← HR.out, HCL.out, HP4.out, HST.out]; simp [needM, htl, h1]
              subst this
              clear htl h1
              go_wp2_with fail
              rw [HW1.out, HNB.out]
              go_region
              all_goals
                go_wp2
                go_ret
                exact ⟨rfl, (HC1.out.alloc _).drew⟩
        · have hd2 : decide ((j2 : Int) < N) = false := by simp; omega
          have : Rr = true := by rw [← HR.out, HCL.out, HKALL.out, HP4.out, List.drop_of_length_le (by rw [HN.out]; omega)]; rfl
          subst this
          go_wp2
          go_ret
          exact ⟨rfl, HC4.out⟩
end
end Go.Proofs.YtgmmglmokkcgeaaGreat
