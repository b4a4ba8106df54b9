/- Walks: a loop's Bytes. -/
import Derived.Test.YtcaemfogknaioaaP7
namespace Go.Proofs.Ytcaemfogknaioaa
set_option linter.unusedVariables false
set_option linter.unusedSimpArgs false
open Go.RowKit Mk Go.Sort

set_option maxRecDepth 100000 in
set_option maxHeartbeats 8000000 in
theorem bytes_any {w : World} {b : Nat} {F : Nat → Prop} {S : Nat} {m : LoopM} (h : LoopIs w b F S m) (hq : ∀ p ∈ m.clients, okU p.2.1) (hB : (loopS m).length ≤ 1099511627776) :
    Calls Try.prog 23 #[.pointer (some ⟨b, 0, none⟩), .func (.func 24) #[] #[]] w fun e w' => e = .returned (.tuple #[.string (str (loopS m)), .int .i64 0]) ∧ Chg (fun _ => False) w w' := by
  obtain ⟨r, h⟩ := h
  have hq59 := run_eql_func (P := Try.prog) w 59 func59 (.func 24) #[] #[]
  have e24 := enters24
  have NA := Lib.hid (not_any h)
  obtain ⟨iz, zz, hi9, hz9, hsz9, hby9, hzs9⟩ := info22
  have c3 := h.cells.2.2.2
  have hr1 := h.map.lt
  obtain ⟨it, hrg, ho⟩ := h.map.range (P := Try.prog) Try.underlying77
  have HA := Lib.hid (show KeysAt w r (clv m.clients) (clv m.clients) [] (.slice none 0 0) (w.alloc it) from ⟨ho, by simp, sl_nil _ _ _, fun g hg => by simp [Value.ownBlock] at hg, (Chg.refl _ _).alloc _, by simp⟩)
  have HL := Lib.hid h
  have HQ := Lib.hid hq
  have hlen := loopS_len m
  have HPL := Lib.hid (show m.clients.length ≤ 1099511627776 ∧ (preB m (sortC m.clients)).length ≤ 1099511627776 ∧ m.state.size ≤ 1099511627776 ∧ (preB m (sortC m.clients)).length + (Cod.text m.state.data.toList).length ≤ 1099511627776 from by
    have := text_len m.state
    omega)
  have hcl : (clv m.clients).length = m.clients.length := List.length_map _
  have hkeys : (clv m.clients).map (·.1) = m.clients.map (·.1) := by unfold clv; rw [List.map_map]; rfl
  have HKEYS := Lib.hid hkeys
  have hLim := HPL.out.1
  rw [← hcl] at hLim
  clear ho h hq hB hlen hkeys
  generalize clv m.clients = N at *
  go_enter Try.func23, Try.ntmps23
  go_wp2_with fail
  refine NA.out.mono ?_
  rintro e w' ⟨rfl, rfl⟩
  clear NA
  go_wp2_with fail
  go_loopw [6] (fun s wr => ∃ (A : List Nat) (left : List (Nat × Value)) (o : Option Addr) (c : Nat), s = .slice o A.length c ∧ Hid (KeysAt w' r N left A (.slice o A.length c) wr)) (fun _ wr => wr.rangeLeft r w'.heap.size)
  case atStart => exact ⟨[], N, none, 0, rfl, HA⟩
  case round =>
    obtain ⟨A, left, o, c, rfl, HU⟩ := hrel
    have hAl : A.length ≤ N.length := by have := HU.out.perm.length_eq; simp at this; omega
    rcases HU.out.over.next (P := Try.prog) with ⟨h0, hn⟩ | ⟨a, p, bb, w1, h0, hn, hc, hsz, ho, hen⟩
    · have hpp : A.Perm (m.clients.map (·.1)) := by have := HU.out.perm; rw [h0, HKEYS.out] at this; simpa using this
      have E0 := Lib.hid (show sortI A = sortC m.clients from sortI_perm hpp)
      have HAL := Lib.hid (show A.length = m.clients.length from by have := hpp.length_eq; simpa using this)
      have SO := Lib.hid (sort_any HU.out.has (by omega))
      rw [E0.out] at SO
      have HU2 := Lib.hid (And.intro HU.out.chg HU.out.own)
      have hn' := hn
      clear h0 hpp HU HA hrg
      go_wp2_with fail
      refine SO.out.mono ?_
      rintro e w2 ⟨rfl, h2, k2⟩
      have K2 := Lib.hid (HU2.out.1.trans' k2 (fun i hi => Or.inr (by have := HU2.out.2 i hi; omega)))
      have HI2 := Lib.hid h2
      have HL2 := Lib.hid (HL.out.stay K2.out (fun _ _ f => f))
      clear h2 k2 SO HU2 hn hn' c3
      rw [HAL.out] at HI2 ⊢
      clear HAL hAl
      generalize hnn : m.clients.length = n at *
      have c2 := HL2.out.cells.2.2.1
      have N1 := Lib.hid (num_any m.index HL.out.idx w2)
      have N2 := Lib.hid (fun u => num_any n (by have := HPL.out.1; omega) u)
      have wk : IntKind.u64.wrap (n : Int) = n := by have := HPL.out.1; simp only [IntKind.wrap, IntKind.bits, IntKind.signed]; simp; omega
      have s1 := num_size m.index
      have s2 := num_size n
      have HS0 := Lib.hid (show str (Cod.num m.index) ++ str (Cod.num n) = str (preB m ((sortC m.clients).take 0)) from by
        rw [str_app]; unfold preB; rw [hnn]; simp)
      rw [show str (Cod.num m.index) = (⟨(Cod.num m.index).toArray⟩ : ByteArray) from rfl] at HS0 s1
      rw [show str (Cod.num n) = (⟨(Cod.num n).toArray⟩ : ByteArray) from rfl] at HS0 s2
      generalize (⟨(Cod.num m.index).toArray⟩ : ByteArray) = X at *
      generalize (⟨(Cod.num n).toArray⟩ : ByteArray) = Y at *
      have k3 : ¬ 9223372036854775807 < X.size + Y.size := by omega
      clear s1 s2
      go_wp2_with fail
      refine N1.out.mono ?_
      rintro e w3 ⟨rfl, hb3⟩
      go_wp2_with fail
      refine (N2.out _).mono ?_
      rintro e w4 ⟨rfl, hb4⟩
      have c24 := (chg_of_below hb3).trans (chg_of_below hb4)
      have HL4 := Lib.hid (HL2.out.stay c24 (fun _ _ f => f))
      have HI4 := Lib.hid (HI2.out.stay c24)
      have K4 := Lib.hid (K2.out.trans c24)
      clear hb3 hb4 c24 HL2 HI2 K2 N1 N2 c2
      go_upto_region 12 with fail
      rw [HS0.out]
      clear HS0 k3
      have hks := sortC_len m.clients
      have HPRE := Lib.hid (fun (j k : Nat) (hj : (sortC m.clients)[j]? = some k) => preB_take m hj)
      have HPLE := Lib.hid (fun j => preB_le m j)
      have HMEM := Lib.hid (show ∀ k ∈ sortC m.clients, okU k from fun k hk => by
        unfold sortC sortI at hk
        obtain ⟨z, hz, rfl⟩ := List.mem_map.1 hk
        have hz2 := (List.mergeSort_perm _ _).mem_iff.1 hz
        unfold ints at hz2
        obtain ⟨q, hq, rfl⟩ := List.mem_map.1 hz2
        obtain ⟨p, hp, rfl⟩ := List.mem_map.1 hq
        have := HL.out.keyOk p hp
        simpa using this)
      rw [hnn] at hks
      obtain ⟨ks, HKS⟩ : ∃ ks, Hid (sortC m.clients = ks) := ⟨_, Lib.hid rfl⟩
      rw [HKS.out] at HPRE HPLE HMEM HI4 HPL hks
      rw [HKS.out]
      go_wp2_with fail
      go_loopw [8, 44] (fun v8 v44 wr => ∃ j : Nat, v44 = .int .i64 j ∧ j ≤ n ∧ v8 = .string (str (preB m (ks.take j))) ∧ Hid (Chg (fun _ => False) w4 wr)) (fun _ v44 _ => n - (intOf v44).toNat)
      case atStart => exact ⟨0, rfl, Nat.zero_le _, rfl, Lib.hid (Chg.refl _ _)⟩
      case round =>
        obtain ⟨j, rfl, hj, rfl, HC⟩ := hrel
        have hLj := HL4.out.stay HC.out (fun _ _ f => f)
        have hIj := HI4.out.stay HC.out
        by_cases hjn : j < n
        · have q1 : decide ((j : Int) < (n : Int)) = true := by simp; omega
          have hjk : j < ks.length := by omega
          have hget : ks[j]? = some ks[j] := List.getElem?_eq_getElem hjk
          have hpre := HPRE.out j ks[j] hget
          have hple := HPLE.out (j + 1)
          have hok := HMEM.out ks[j] (List.getElem_mem hjk)
          obtain ⟨g, cap, hv, hcell⟩ := hIj.cell hget
          generalize ks[j] = k at *
          rw [hks] at hv
          injection hv with hv1 hv2 hv3
          subst hv1 hv3
          have l0 : (0 : Int) ≤ j := by omega
          have l1 : (j : Int) < n := by omega
          have hqs : okU (atC m.clients k).1 := by
            unfold atC
            cases hlk : lk m.clients k with
            | none => show (0 : Nat) < 18446744073709551616; decide
            | some v => exact HQ.out (k, v) (lk_mem hlk)
          have htl := text_len (atC m.clients k).2
          rw [hpre, List.length_append] at hple
          have hone : oneB m.clients k = Cod.num k ++ Cod.num (atC m.clients k).1 ++ Cod.text (atC m.clients k).2.data.toList := rfl
          have hsum : (oneB m.clients k).length = (str (Cod.num k)).size + (str (Cod.num (atC m.clients k).1)).size + (str (Cod.text (atC m.clients k).2.data.toList)).size := by
            rw [hone, List.length_append, List.length_append]; rfl
          have hT : (str (Cod.text (atC m.clients k).2.data.toList)).size = (Cod.text (atC m.clients k).2.data.toList).length := rfl
          have hP : (str (preB m (ks.take j))).size = (preB m (ks.take j)).length := rfl
          have HNX := Lib.hid (show str (preB m (ks.take j)) ++ (str (Cod.num k) ++ str (Cod.num (atC m.clients k).1) ++ str (Cod.text (atC m.clients k).2.data.toList)) = str (preB m (ks.take (j + 1))) from by
            rw [str_app, str_app, str_app, hpre, hone])
          have hpb := HPL.out.2.1
          have SC1 := regrown_below wr (fun u => (show Calls Try.prog 29 #[.int .u64 (k : Nat)] u fun e w' => e = .returned (.string (str (Cod.num k))) ∧ Below u.heap.size u w' from num_any k hok u))
          have SC2 := regrown_below wr (fun u => (show Calls Try.prog 29 #[.int .u64 ((atC m.clients k).1 : Nat)] u fun e w' => e = .returned (.string (str (Cod.num (atC m.clients k).1))) ∧ Below u.heap.size u w' from num_any _ hqs u))
          have SC3 := regrown_below wr (fun u => text_any (atC m.clients k).2 (by omega) u)
          have d3 := fun a os => cell_regrown hLj.cells.2.2.2 a os
          have dl := fun (d : Nat) (os : Array Obj) => (hLj.stay (chg_of_below (below_regrown wr d os)) (fun _ _ f => f)).look0 hok
          unfold lastV at dl
          have HSTEP := Lib.hid (fun d os => HC.out.trans (chg_of_below (below_regrown wr d os)))
          have k3 : ¬ 9223372036854775807 < (str (Cod.num k)).size + (str (Cod.num (atC m.clients k).1)).size := by omega
          have k4 : ¬ 9223372036854775807 < (str (Cod.num k)).size + (str (Cod.num (atC m.clients k).1)).size + (str (Cod.text (atC m.clients k).2.data.toList)).size := by omega
          have k5 : ¬ 9223372036854775807 < (str (preB m (ks.take j))).size + ((str (Cod.num k)).size + (str (Cod.num (atC m.clients k).1)).size + (str (Cod.text (atC m.clients k).2.data.toList)).size) := by omega
          clear hLj hIj hpre hple hone hsum hT hP htl hpb hqs hok hget
          generalize str (Cod.num k) = X1 at *
          generalize str (Cod.num (atC m.clients k).1) = Y1 at *
          generalize str (Cod.text (atC m.clients k).2.data.toList) = Z1 at *
          generalize str (preB m (ks.take j)) = P1 at *
          generalize atC m.clients k = lv at *
          obtain ⟨lq, la⟩ := lv
          simp only at SC2 SC3 dl
          have hf0 := fun u => field82_0 (lq : Nat) la u
          have hf1 := fun u => field82_1 (lq : Nat) la u
          go_wp2_with fail
          refine wp_region_quiet_below (by kernel_rfl) (by kernel_rfl) ?_
          repeat (go_big_quiet_step (fail))
          go_big_quiet_step (exact SC1 _ _)
          repeat (go_big_quiet_step (fail))
          go_big_quiet_step (exact SC2 _ _)
          repeat (go_big_quiet_step (fail))
          go_big_quiet_step (exact SC3 _ _)
          repeat (go_big_quiet_step (fail))
          refine wpQuiet_nil ?_
          intro _ hw'
          obtain ⟨⟨dq, osq⟩, hw''⟩ := hw'
          subst hw''
          have HCN := Lib.hid (HSTEP.out dq osq)
          clear SC1 SC2 SC3 d3 dl HSTEP
          generalize grow (redrawn wr dq) osq = w5 at *
          go_wp2_with fail
          go_roundw
          case rel => (repeat apply Exists.intro); exact ⟨⟨j + 1, by go_num, by omega, by rw [HNX.out], HCN⟩, rfl⟩
          case measure => simp [intOf]; omega
        · have q1 : decide ((j : Int) < (n : Int)) = false := by simp; omega
          have hjk : ks.take j = ks := List.take_of_length_le (by omega)
          have HT := Lib.hid (fun u => text_any m.state HPL.out.2.2.1 u)
          have WH := Lib.hid (fun u => whole_any m.state u)
          have HFIN := Lib.hid (show str (preB m (ks.take j)) ++ str (Cod.text m.state.data.toList) = str (loopS m) from by
            rw [str_app, hjk]; unfold loopS; rw [HKS.out])
          have k3 : ¬ 9223372036854775807 < (str (preB m (ks.take j))).size + (str (Cod.text m.state.data.toList)).size := by
            have a1 : (str (preB m (ks.take j))).size = (preB m ks).length := by rw [hjk]; rfl
            have a2 : (str (Cod.text m.state.data.toList)).size = (Cod.text m.state.data.toList).length := rfl
            have := HPL.out.2.2.2
            omega
          have c0 := hLj.cells.1
          generalize str (preB m (ks.take j)) = P1 at *
          generalize str (Cod.text m.state.data.toList) = T1 at *
          clear hLj hIj hjk
          go_wp2_with fail
          refine (WH.out _).mono ?_
          rintro e w5 ⟨rfl, rfl⟩
          go_wp2_with fail
          refine (HT.out _).mono ?_
          rintro e w6 ⟨rfl, hb6⟩
          go_wp2_with fail
          go_ret2
          exact ⟨by rw [HFIN.out]; rfl, (K4.out.trans HC.out).trans (chg_of_below hb6)⟩
    · have hen' := hen (w1) rfl rfl
      unfold kvU at hn hen'
      have HU' := HU.out
      rw [h0] at HU'
      have HS := Lib.hid (fun (v' : Value) (w4 : World) hs hg ha => HU'.step hr1 hc hsz ho (v' := v') (w4 := w4) hs hg ha)
      have HR := Lib.hid (HU'.row hc (.cells #[.int .u64 (p.1 : Nat)] 22))
      have H0 := Lib.hid h0
      have HN := Lib.hid (cell_new_one (Go.heap_alloc_new w1 (.cells #[.int .u64 (p.1 : Nat)] 22)))
      have bb1 : A.length + 1 ≤ maxLen := by simp only [maxLen]; omega
      have bb2 : (A.length + 1) * 8 ≤ 140737488355328 := by omega
      clear hen h0 hc ho hsz hrg HA HU'
      obtain ⟨p1, p2⟩ := p
      go_wp2_with (refine wpList_append_sl (by rfl) (.tmp 26) (.tmp 28) 87 (by rfl) 22 iz zz 1 8 Try.underlying87 hi9 hz9 hsz9 hby9 hzs9 (by decide) (.slice o A.length c) A.length (idV A) (by rfl) HR.out (some ⟨w1.heap.size, 0, none⟩) 1 1 [.int .u64 (p1 : Nat)] (by rfl) (by rfl) (fun _ => ⟨_, rfl, HN.out⟩) (fun h => absurd h (by decide)) (by simp [Value.oneCell']) bb1 bb2 ?_; intro v' w4 hs hg4 ha; obtain ⟨⟨o', c', hv'⟩, hna⟩ := HS.out v' w4 hs hg4 ha; have HNA := Lib.hid hna; clear hs hg4 ha hna; subst hv')
      go_roundw
      case rel => exact ⟨A ++ [p1], a ++ bb, o', c', by simp, by simpa using HNA⟩
      case measure => rw [HNA.out.over.left_eq, HU.out.over.left_eq, H0.out]; simp
end Go.Proofs.Ytcaemfogknaioaa
