/- Walks: the document's Bytes. -/
import Derived.Test.YtcaemfogknaioaaQ2
import Derived.Test.YtcaemfogknaioaaP7
namespace Go.Proofs.Ytcaemfogknaioaa
set_option linter.unusedVariables false
set_option linter.unusedSimpArgs false
open Go.RowKit Mk Go.Sort

def preL (m : LoopM) (j : Nat) : List UInt8 := Cod.num m.index ++ Cod.num m.clients.length ++ cliB (m.clients.take j)
theorem preL_next (m : LoopM) {j : Nat} (hj : j < m.clients.length) : preL m (j + 1) = preL m j ++ Cod.num m.clients[j].1 ++ Cod.num m.clients[j].2.1 ++ Cod.text m.clients[j].2.2.data.toList := by
  unfold preL cliB
  rw [List.take_add_one, List.getElem?_eq_getElem hj, List.flatMap_append]
  simp
theorem preL_le (m : LoopM) (j : Nat) : (preL m j).length ≤ (preL m m.clients.length).length := by
  have : preL m m.clients.length = preL m j ++ cliB (m.clients.drop j) := by
    unfold preL cliB
    rw [List.append_assoc (Cod.num m.index ++ Cod.num m.clients.length), ← List.flatMap_append, List.take_append_drop, List.take_length]
  rw [this, List.length_append]
  omega
theorem preL_all (m : LoopM) : loopB m = preL m m.clients.length ++ Cod.text m.state.data.toList := by
  unfold loopB preL; rw [List.take_length]
section
variable {w w' : World} {b : Nat} {F G : Nat → Prop} {v : Value} {m : LoopM}
set_option maxRecDepth 100000 in
set_option maxHeartbeats 8000000 in
theorem rbytes_any (h : RfRep w b F v m) (hri : risesR 0 m.clients) (hB : (loopB m).length ≤ 1099511627776) :
    Calls Try.prog 28 #[.pointer (some ⟨b, 0, none⟩)] w fun e w' => e = .returned (.string (str (loopB m))) ∧ Chg (fun _ => False) w w' := by
  have H := Lib.hid h
  obtain ⟨vo, vc, rfl⟩ := sl_shape h.cl
  have c2 : w.cell? ⟨b, 2, none⟩ = some (.slice vo m.clients.length vc) := cell_of h.box rfl
  have c1 : w.cell? ⟨b, 1, none⟩ = some (.int .u64 (m.index : Nat)) := cell_of h.box rfl
  have hle := h.cl.le
  simp only [maxLen] at hle
  rw [preL_all, List.length_append] at hB
  have HB := Lib.hid hB
  have HFIN := Lib.hid (preL_all m)
  have HR := Lib.hid hri
  have HPL := Lib.hid (fun j => preL_le m j)
  have HPN := Lib.hid (fun (j : Nat) (hj : j < m.clients.length) => preL_next m hj)
  obtain ⟨n, hn⟩ : ∃ n, m.clients.length = n := ⟨_, rfl⟩
  have HNN := Lib.hid hn
  have HS0 := Lib.hid (show str (Cod.num m.index) ++ str (Cod.num n) = str (preL m 0) from by
    rw [str_app]; unfold preL cliB; rw [hn]; simp)
  have s1 := num_size m.index
  have s2 := num_size n
  have hix := h.ix
  have wk : IntKind.u64.wrap (n : Int) = n := by simp only [IntKind.wrap, IntKind.bits, IntKind.signed]; simp; omega
  have SC1 := regrown_below w (fun u => rnumw_any m.index hix u)
  have SC2 := regrown_below w (fun u => rnumw_any n (by omega) u)
  have d1 := fun a os => cell_regrown c1 a os
  have d2 := fun a os => cell_regrown c2 a os
  rw [hn] at c2 hle d2
  have k3 : ¬ 9223372036854775807 < (str (Cod.num m.index)).size + (str (Cod.num n)).size := by omega
  clear h hn hri hB hix s1 s2
  generalize str (Cod.num m.index) = X at *
  generalize str (Cod.num n) = Y at *
  go_enter Try.func28, Try.ntmps28
  go_wp2_with fail
  refine wp_region_quiet_below (by kernel_rfl) (by kernel_rfl) ?_
  repeat (go_big_quiet_step (fail))
  go_big_quiet_step (exact SC1 _ _)
  repeat (go_big_quiet_step (fail))
  go_big_quiet_step (exact SC2 _ _)
  repeat (go_big_quiet_step (fail))
  refine wpQuiet_nil ?_
  intro _ hw'
  obtain ⟨⟨dq, osq⟩, hw''⟩ := hw'
  subst hw''
  have HC0 := Lib.hid (chg_of_below (below_regrown w dq osq))
  clear SC1 SC2 d1 d2 c1 c2 k3 wk
  generalize grow (redrawn w dq) osq = w5 at *
  rw [HS0.out]
  clear HS0
  go_wp2_with fail
  go_loopw [3, 4] (fun v3 v4 wr => ∃ j : Nat, v4 = .int .i64 j ∧ j ≤ n ∧ v3 = .string (str (preL m j)) ∧ Hid (Chg (fun _ => False) w wr)) (fun _ v4 _ => n - (intOf v4).toNat)
  case atStart => exact ⟨0, rfl, Nat.zero_le _, rfl, HC0⟩
  case round =>
    obtain ⟨j, rfl, hj, rfl, HC⟩ := hrel
    have hr := H.out.stay HC.out (fun _ _ f => f)
    have c2 : wr.cell? ⟨b, 2, none⟩ = some (.slice vo m.clients.length vc) := cell_of hr.box rfl
    have c0 : wr.cell? ⟨b, 0, none⟩ = some (.string m.state) := cell_of hr.box rfl
    have d2 := fun a os => cell_regrown c2 a os
    rw [HNN.out] at c2 d2
    by_cases hjn : j < n
    · have q1 : decide ((j : Int) < (n : Int)) = true := by simp; omega
      have hjC : j < m.clients.length := by rw [HNN.out]; exact hjn
      obtain ⟨g, cap, hv, e0, e1, e2⟩ := hr.client hjC
      rw [HNN.out] at hv
      injection hv with hv1 hv2 hv3
      subst hv1 hv3
      have hpn := HPN.out j hjC
      have hpl := HPL.out (j + 1)
      have hb := HB.out
      have hk1 := (rises_pair _ _ HR.out).1 m.clients[j] (List.getElem_mem hjC)
      have hk2 := rises_key _ _ HR.out m.clients[j] (List.getElem_mem hjC)
      generalize m.clients[j] = p at *
      obtain ⟨k, q, a⟩ := p
      simp only at e0 e1 e2 hpn hk1 hk2
      have l0 : (0 : Int) ≤ j := by omega
      have l1 : (j : Int) < n := by omega
      have f0 := fun a os => cell_regrown e0 a os
      have f1 := fun a os => cell_regrown e1 a os
      have f2 := fun a os => cell_regrown e2 a os
      have htl := text_len a
      rw [hpn] at hpl
      have hsum : (preL m j ++ Cod.num k ++ Cod.num q ++ Cod.text a.data.toList).length = (str (preL m j)).size + (str (Cod.num k)).size + (str (Cod.num q)).size + (str (Cod.text a.data.toList)).size := by
        rw [List.length_append, List.length_append, List.length_append]; rfl
      have hT : (str (Cod.text a.data.toList)).size = (Cod.text a.data.toList).length := rfl
      have HNX := Lib.hid (show str (preL m j) ++ str (Cod.num k) ++ str (Cod.num q) ++ str (Cod.text a.data.toList) = str (preL m (j + 1)) from by
        rw [str_app, str_app, str_app, hpn])
      have SC1 := regrown_below wr (fun u => rnumw_any k hk2.1 u)
      have SC2 := regrown_below wr (fun u => rnumw_any q hk2.2 u)
      have SC3 := regrown_below wr (fun u => rtextw_any a (by omega) u)
      have HSTEP := Lib.hid (fun d os => HC.out.trans (chg_of_below (below_regrown wr d os)))
      have k3 : ¬ 9223372036854775807 < (str (preL m j)).size + (str (Cod.num k)).size := by omega
      have k4 : ¬ 9223372036854775807 < (str (preL m j)).size + (str (Cod.num k)).size + (str (Cod.num q)).size := by omega
      have k5 : ¬ 9223372036854775807 < (str (preL m j)).size + (str (Cod.num k)).size + (str (Cod.num q)).size + (str (Cod.text a.data.toList)).size := by omega
      clear hr hpn hpl hsum hT htl hb hk1 hk2
      generalize str (Cod.num k) = X1 at *
      generalize str (Cod.num q) = Y1 at *
      generalize str (Cod.text a.data.toList) = Z1 at *
      generalize str (preL m j) = P1 at *
      go_wp2_with fail
      refine wp_region_quiet_below (by kernel_rfl) (by kernel_rfl) ?_
      repeat (go_big_quiet_step (fail))
      go_big_quiet_step (exact SC1 _ _)
      repeat (go_big_quiet_step (fail))
      go_big_quiet_step (exact SC2 _ _)
      repeat (go_big_quiet_step (fail))
      go_big_quiet_step (exact SC3 _ _)
      repeat (go_big_quiet_step (fail))
      refine wpQuiet_nil ?_
      intro _ hw'
      obtain ⟨⟨dq, osq⟩, hw''⟩ := hw'
      subst hw''
      have HCN := Lib.hid (HSTEP.out dq osq)
      clear SC1 SC2 SC3 d2 f0 f1 f2 HSTEP
      generalize grow (redrawn wr dq) osq = w6 at *
      go_wp2_with fail
      go_roundw
      case rel => exact ⟨j + 1, by go_num, by omega, by rw [HNX.out], HCN⟩
      case measure => simp [intOf]; omega
    · have q1 : decide ((j : Int) < (n : Int)) = false := by simp; omega
      have hjn' : j = m.clients.length := by rw [HNN.out]; omega
      have hst := text_len m.state
      have hb := HB.out
      have HT := Lib.hid (fun u => rtextw_any m.state (by omega) u)
      have HFN := Lib.hid (show str (preL m j) ++ str (Cod.text m.state.data.toList) = str (loopB m) from by
        rw [str_app, hjn', HFIN.out])
      have k3 : ¬ 9223372036854775807 < (str (preL m j)).size + (str (Cod.text m.state.data.toList)).size := by
        have a1 : (str (preL m j)).size = (preL m m.clients.length).length := by rw [hjn']; rfl
        have a2 : (str (Cod.text m.state.data.toList)).size = (Cod.text m.state.data.toList).length := rfl
        omega
      generalize str (preL m j) = P1 at *
      generalize str (Cod.text m.state.data.toList) = T1 at *
      clear hr hjn' hst hb d2
      go_wp2_with fail
      refine (HT.out _).mono ?_
      rintro e w6 ⟨rfl, hb6⟩
      go_wp2_with fail
      go_ret
      exact ⟨by rw [HFN.out]; rfl, HC.out.trans (chg_of_below hb6)⟩
end
end Go.Proofs.Ytcaemfogknaioaa
