/- OracleOnce's walk. -/
import Derived.Test.YtgmmglmokkcgeaaB2
import Derived.Test.YtgmmglmokkcgeaaB7
import Derived.Test.YtgmmglmokkcgeaaAl
import Derived.Deep.CutRange
import Derived.Deep.LoopGhost
import Derived.BigQuiet
namespace Go.Proofs.Ytgmmglmokkcgeaa
set_option linter.unusedVariables false
set_option linter.unusedSimpArgs false
open Go.RowKit Mk Go.Sort
theorem any_take {α : Type} (f : α → Bool) (l : List α) (k : Nat) (h : k < l.length) : (l.take (k + 1)).any f = ((l.take k).any f || f l[k]) := by
  rw [List.take_add_one, List.any_append, List.getElem?_eq_getElem h]
  simp
set_option maxRecDepth 100000 in
set_option maxHeartbeats 16000000 in
theorem onceWalk {w0 : World} {so : Option Addr} {n cp : Nat} {L : List (OpM × OpL)} {x : ByteArray} (h : OpsAt w0 so L) (hl : L.length = n) (hx : x.size ≤ maxLen) :
    Calls Try.prog 4 #[.slice so n cp, .string x] w0 fun e w' => e = .returned (.bool true) ∧ Chg (fun _ => False) w0 w' := by
  have HO0 := Lib.hid h
  have HL := Lib.hid hl
  have HX := Lib.hid hx
  have hm45 : ∀ v : World, (Instr.makeMap 45 none).run Try.prog v = .ok (.map (some v.heap.size)) (v.alloc (.map #[] 0)) := fun v => run_makeMap 45 v
  have hm46 : ∀ v : World, (Instr.makeMap 46 none).run Try.prog v = .ok (.map (some v.heap.size)) (v.alloc (.map #[] 0)) := fun v => run_makeMap 46 v
  clear h hl
  go_enter Try.func4, Try.ntmps4
  go_wp2_with fail
  refine (lives_any w0).mono ?_
  rintro e w1 ⟨rfl, hc⟩
  have HC1 := Lib.hid hc
  clear hc
  go_wp2_with fail
  refine (small_any (HO0.out.stay HC1.out) HL.out).mono ?_
  rintro e w ⟨z, rfl, hz, hc⟩
  have HZ := Lib.hid hz
  have HC := Lib.hid (HC1.out.trans hc)
  have HO := Lib.hid (HO0.out.stay HC.out)
  clear hc hz HO0 HC1
  cases z with
  | false =>
    go_wp2
    go_ret
    exact ⟨rfl, HC.out⟩
  | true =>
    have hn100 : n ≤ 100 := HZ.out rfl
    clear HZ
    by_cases hxs : 1000 < x.size
    · have dx : decide ((1000 : Int) < x.size) = true := decide_eq_true (by omega)
      clear hxs
      go_wp2
      go_ret
      exact ⟨rfl, HC.out⟩
    · have dx : decide ((1000 : Int) < x.size) = false := decide_eq_false (by omega)
      clear hxs hx
      go_wp2_with fail
      refine (new_any w).mono ?_
      rintro e w2 ⟨b, rfl, hi, hc⟩
      obtain ⟨W3, HW3⟩ : ∃ W3, Hid ((w2.alloc (.map #[] 0)).alloc (.map #[] 0) = W3) := ⟨_, Lib.hid rfl⟩
      obtain ⟨r1, HR1⟩ : ∃ r1, Hid (w2.heap.size = r1) := ⟨_, Lib.hid rfl⟩
      have HA0 : Hid (OnAt w x b 0 r1 (r1 + 1) .new [] [] (fun g => w.heap.size ≤ g ∧ g < w2.heap.size) W3) := by
        rw [← HW3.out, ← HR1.out]
        have hs : (w2.alloc (.map #[] 0)).heap.size = w2.heap.size + 1 := by simp
        have k2 : mapAt okU kvU ((w2.alloc (.map #[] 0)).alloc (.map #[] 0)) (w2.heap.size + 1) (iv []) := by rw [← hs]; exact mapAt_made _
        have k1 : mapAt okU kvU ((w2.alloc (.map #[] 0)).alloc (.map #[] 0)) w2.heap.size (nv []) := (mapAt_made (ok := okU) (kv := kvU) w2).stay (Below.heap_alloc _ _ _ (by simp))
        have c2 : Chg (fun _ => False) w2 ((w2.alloc (.map #[] 0)).alloc (.map #[] 0)) := ((Chg.refl _ _).alloc _).alloc _
        exact Lib.hid { chg := hc.trans c2, is := hi.tight.same c2, fb := fun g f => ⟨f.1, Nat.lt_of_lt_of_le f.2 c2.size⟩, inv := .new, lim := lim_new, decm := k1, seem := k2, f1 := ⟨fun f => by omega, hc.size⟩, f2 := ⟨fun f => by omega, (by have := hc.size; omega)⟩, ne := by omega, once := (by intro q hq; cases hq), seen := (by intro q hq; cases hq) }
      clear hi hc
      go_wp2
      rw [HW3.out, HR1.out]
      go_loopg [8] n (fun gk i wr => ∃ (j : Nat) (m : OM) (D S : List (Nat × Nat)) (F : Nat → Prop), i = .int .i64 j ∧ j ≤ n ∧ gk = n - j ∧ Hid (OnAt w x b j r1 (r1 + 1) m D S F wr))
      case atStart => exact ⟨0, _, _, _, _, rfl, by omega, by omega, HA0⟩
      case round =>
        clear HA0 hm45 hm46
        obtain ⟨j, m, D, S, F, rfl, hj, hgk, HA⟩ := hrel
        generalize wr = W1 at *
        by_cases hlt : j < n
        · have hd : decide ((j : Int) < n) = true := decide_eq_true (by omega)
          have hjL : j < L.length := by rw [HL.out]; exact hlt
          obtain ⟨g, o, rfl, hg, hc⟩ := HO.out.cell j hjL
          have HP := Lib.hid (List.getElem_mem hjL)
          obtain ⟨p, hp⟩ : ∃ p, L[j] = p := ⟨_, rfl⟩
          rw [hp] at hc HP
          have HG := Lib.hid hg
          have l1 : (j : Int) < n := by omega
          have l0 : (0 : Int) ≤ j := by omega
          obtain ⟨kI, hkI⟩ : ∃ kI : Int, (p.1.k : Int) = kI := ⟨_, rfl⟩
          obtain ⟨stI, hstI⟩ : ∃ stI : Int, (p.1.st : Int) = stI := ⟨_, rfl⟩
          obtain ⟨wI, hwI⟩ : ∃ wI : Int, (m.time : Int) = wI := ⟨_, rfl⟩
          have HK := Lib.hid hkI
          have HST := Lib.hid hstI
          have HWI := Lib.hid hwI
          have CC := Lib.hid (fun (W : World) (c : Chg (fun _ => False) w W) (k : Nat) (v : Value) (hv : (#[.int .u8 kI, .int .u32 (p.1.n : Nat), .int .u64 stI, .slice p.2.ko p.1.keys.length p.2.kc, .slice p.2.no p.1.needs.length p.2.nc, .string p.1.pred, .int .u32 (p.1.g : Nat), .int .u32 (p.1.to : Nat), .int .u64 (p.1.at_ : Nat)] : Array Value)[k]? = some v) => (World.cell?_of_block (a := ⟨g, o + j * 9 + k, none⟩) (c.block g hg (fun f => f))).trans (hc k v (by unfold opC; rw [hkI, hstI]; exact hv)))
          have hw0 : 0 ≤ wI := by omega
          have hw1 : wI ≤ 1099511627776 := by have := HA.out.lim.time; omega
          have TA : Hid (Calls Try.prog 9 #[.pointer (some ⟨b, 0, none⟩)] W1 fun e w' => e = .returned (.int .u64 wI) ∧ w' = W1) := by
            obtain ⟨R, hR⟩ := HA.out.is
            rw [← HWI.out]
            exact Lib.hid (time_any hR)
          clear hc hp hg hkI hstI hwI
          go_wp2_with fail
          refine TA.out.mono ?_
          rintro e w3 ⟨rfl, rfl⟩
          go_wp2_with fail
          go_loopg [10, 11] (p.1.needs.length) (fun gq mv kk wq => ∃ k : Nat, mv = .bool ((p.1.needs.take k).any (movM m)) ∧ kk = .int .i64 k ∧ k ≤ p.1.needs.length ∧ gq = p.1.needs.length - k ∧ Hid (Chg (fun _ => False) w3 wq))
          case atStart => exact ⟨0, rfl, rfl, Nat.zero_le _, rfl, Lib.hid (Chg.refl _ _)⟩
          case round =>
            obtain ⟨k, rfl, rfl, hk, hgq, HQ⟩ := hrel
            generalize wr = W2 at *
            have HAQ := Lib.hid (HA.out.same HQ.out)
            obtain ⟨Z, hZ⟩ : ∃ Z, (p.1.needs.take k).any (movM m) = Z := ⟨_, rfl⟩
            rw [hZ]
            have HNL := Lib.hid ((HO.out.stay HAQ.out.chg).ops _ HP.out).1.needs.len
            have hnl : p.1.needs.length ≤ 9223372036854775807 := HNL.out
            by_cases hkl : k < p.1.needs.length
            · have dk : decide ((k : Int) < p.1.needs.length) = true := decide_eq_true (by omega)
              obtain ⟨ng, no', e, hng, s0, s1⟩ := ((HO.out.stay HAQ.out.chg).ops _ HP.out).1.needs.cell k hkl
              have hsz := ((HO.out.stay HAQ.out.chg).ops _ HP.out).1.needs.sz _ (List.getElem_mem hkl)
              have hnx := any_take (movM m) p.1.needs k hkl
              have c4 : W2.cell? ⟨g, o + j * 9 + 4, none⟩ = some (.slice (some ⟨ng, no', none⟩) p.1.needs.length p.2.nc) := by rw [← e]; exact CC.out W2 HAQ.out.chg 4 _ rfl
              obtain ⟨y, hy⟩ : ∃ y, p.1.needs[k] = y := ⟨_, rfl⟩
              rw [hy] at s0 hsz hnx
              obtain ⟨Zs, hZs⟩ : ∃ Zs, (lk m.tab y.1).isSome = Zs := ⟨_, rfl⟩
              obtain ⟨T, hT⟩ : ∃ T, (lk m.tab y.1).getD .zero = T := ⟨_, rfl⟩
              have TB : Hid (Calls Try.prog 14 #[.pointer (some ⟨b, 0, none⟩), .string y.1] W2 fun e w' => e = .returned (.tuple #[tbV T, .bool Zs]) ∧ Chg (fun _ => False) W2 w') := by
                obtain ⟨R, hR⟩ := HAQ.out.is
                rw [← hZs, ← hT]
                exact Lib.hid (tablet_any hR hsz)
              have hmv : movM m y = (!Zs || (T.to != 0)) := by unfold movM; rw [hZs, hT]
              rw [hZ, hmv] at hnx
              have HNX := Lib.hid hnx
              have l2 : (k : Int) < p.1.needs.length := by omega
              have l3 : (0 : Int) ≤ k := by omega
              obtain ⟨tp, tg, tt, ta, tn⟩ := T
              unfold tbV at TB
              simp only at TB HNX
              obtain ⟨tI, htI⟩ : ∃ tI : Int, (tt : Int) = tI := ⟨_, rfl⟩
              rw [htI] at TB
              have HTI := Lib.hid htI
              have HW31 := Lib.hid (show OnAt w x b j r1 (r1 + 1) m D S F W2 from HAQ.out)
              clear e s1 hy hZs hT hmv hnx hsz hng htI hZ
              go_wp2_with fail
              refine TB.out.mono ?_
              rintro e w4 ⟨rfl, hc⟩
              have HQ4 := Lib.hid (HQ.out.trans (hc.alloc (.cells #[.string tp, .int .u32 (tg : Nat), .int .u32 tI, .int .u64 (ta : Nat), .int .u64 (tn : Nat)] 38)))
              clear hc
              cases Z with
              | true =>
                go_wp2
                go_roundg (p.1.needs.length - (k + 1))
                case measure => omega
                case rel => exact ⟨k + 1, by rw [HNX.out]; rfl, by go_num, by omega, rfl, HQ4⟩
              | false =>
                cases Zs with
                | false =>
                  go_wp2
                  go_roundg (p.1.needs.length - (k + 1))
                  case measure => omega
                  case rel => exact ⟨k + 1, by rw [HNX.out]; rfl, by go_num, by omega, rfl, HQ4⟩
                | true =>
                  by_cases ht : tt = 0
                  · have dt : (tI != 0) = false := by have := HTI.out; simp; omega
                    have HT0 := Lib.hid ht
                    clear ht
                    go_wp2
                    go_roundg (p.1.needs.length - (k + 1))
                    case measure => omega
                    case rel => exact ⟨k + 1, by rw [HNX.out, HT0.out]; rfl, by go_num, by omega, rfl, HQ4⟩
                  · have dt : (tI != 0) = true := by have := HTI.out; simp; omega
                    have HT0 := Lib.hid ht
                    clear ht
                    go_wp2
                    go_roundg (p.1.needs.length - (k + 1))
                    case measure => omega
                    case rel => exact ⟨k + 1, by rw [HNX.out]; simp [HT0.out], by go_num, by omega, rfl, HQ4⟩
            · have dk : decide ((k : Int) < p.1.needs.length) = false := decide_eq_false (by omega)
              have HMV := Lib.hid (show p.1.needs.any (movM m) = Z by rw [← hZ, show k = p.1.needs.length by omega, List.take_length])
              have AP := Lib.hid (HAQ.out.apply HO.out HP.out (by omega))
              unfold opC at AP
              rw [HK.out, HST.out] at AP
              have PL := Lib.hid (HAQ.out.plain (o := p.1))
              have c0 : W2.cell? ⟨g, o + j * 9, none⟩ = some (.int .u8 kI) := CC.out W2 HAQ.out.chg 0 _ rfl
              have c1 : W2.cell? ⟨g, o + j * 9 + 1, none⟩ = some (.int .u32 (p.1.n : Nat)) := CC.out W2 HAQ.out.chg 1 _ rfl
              have c2 : W2.cell? ⟨g, o + j * 9 + 2, none⟩ = some (.int .u64 stI) := CC.out W2 HAQ.out.chg 2 _ rfl
              have c3 : W2.cell? ⟨g, o + j * 9 + 3, none⟩ = some (.slice p.2.ko p.1.keys.length p.2.kc) := CC.out W2 HAQ.out.chg 3 _ rfl
              have c4 : W2.cell? ⟨g, o + j * 9 + 4, none⟩ = some (.slice p.2.no p.1.needs.length p.2.nc) := CC.out W2 HAQ.out.chg 4 _ rfl
              have c5 : W2.cell? ⟨g, o + j * 9 + 5, none⟩ = some (.string p.1.pred) := CC.out W2 HAQ.out.chg 5 _ rfl
              have c6 : W2.cell? ⟨g, o + j * 9 + 6, none⟩ = some (.int .u32 (p.1.g : Nat)) := CC.out W2 HAQ.out.chg 6 _ rfl
              have c7 : W2.cell? ⟨g, o + j * 9 + 7, none⟩ = some (.int .u32 (p.1.to : Nat)) := CC.out W2 HAQ.out.chg 7 _ rfl
              have c8 : W2.cell? ⟨g, o + j * 9 + 8, none⟩ = some (.int .u64 (p.1.at_ : Nat)) := CC.out W2 HAQ.out.chg 8 _ rfl
              have HCQ := Lib.hid HAQ.out.chg
              clear hZ
              go_wp2_with fail
              refine AP.out.mono ?_
              rintro e w4 ⟨rfl, F', hA⟩
              have RS := Lib.hid (refused_same (n := m) (o := p.1))
              obtain ⟨A, hAA⟩ : ∃ A, (applyM m p.1).2 = A := ⟨_, rfl⟩
              obtain ⟨m', hmm⟩ : ∃ m', (applyM m p.1).1 = m' := ⟨_, rfl⟩
              rw [hAA]
              rw [hAA, hmm] at PL RS
              rw [hmm] at hA
              obtain ⟨cmI, hcmI⟩ : ∃ cmI : Int, (A.commit : Int) = cmI := ⟨_, rfl⟩
              have HCM := Lib.hid hcmI
              unfold anV anC
              rw [hcmI]
              obtain ⟨W5, HW5⟩ : ∃ W5, Hid (w4.alloc (.cells #[.int .i64 (A.code : Nat), .int .u64 (A.first : Nat), .int .u64 cmI, .string A.tb.p, .int .u32 (A.tb.g : Nat), .int .u32 (A.tb.«to» : Nat), .int .u64 (A.tb.at_ : Nat), .int .u64 (A.tb.tn : Nat)] 40) = W5) := ⟨_, Lib.hid rfl⟩
              obtain ⟨kb, HKB⟩ : ∃ kb, Hid (w4.heap.size = kb) := ⟨_, Lib.hid rfl⟩
              have HKC := Lib.hid (show W5.heap[kb]? = some (.cells #[.int .i64 (A.code : Nat), .int .u64 (A.first : Nat), .int .u64 cmI, .string A.tb.p, .int .u32 (A.tb.g : Nat), .int .u32 (A.tb.«to» : Nat), .int .u64 (A.tb.at_ : Nat), .int .u64 (A.tb.tn : Nat)] 40) by rw [← HW5.out, ← HKB.out]; exact Go.heap_alloc_new _ _)
              have HA5 := Lib.hid (show OnAt w x b (j + 1) r1 (r1 + 1) m' D S F' W5 by rw [← HW5.out]; exact hA.same ((Chg.refl _ _).alloc _))
              obtain ⟨tI, htI⟩ : ∃ tI : Int, (m'.time : Int) = tI := ⟨_, rfl⟩
              have HTI := Lib.hid htI
              clear hA hAA hmm AP TA hcmI htI c0 c1 c2 c3 c4 c5 c6 c7 c8
              go_upto_if 87 with fail
              rw [HW5.out, HKB.out]
              go_cut [9, 10] from 79 to 199 (fun _ _ wc => Hid (∃ D', OnAt w x b (j + 1) r1 (r1 + 1) m' D' S F' wc))
              case first => as_aux_lemma =>
                have TM : Hid (Calls Try.prog 9 #[.pointer (some ⟨b, 0, none⟩)] W5 fun e w' => e = .returned (.int .u64 tI) ∧ w' = W5) := by
                  obtain ⟨R, hR⟩ := HA5.out.is
                  rw [← HTI.out]
                  exact Lib.hid (time_any hR)
                by_cases hc0 : A.code = 0
                · have d4 : ((A.code : Int) == 0) = true := by simp [hc0]
                  have PL0 := Lib.hid (PL.out hc0)
                  clear hc0 RS PL TM
                  obtain ⟨GI, hGI⟩ : ∃ GI : Int, ((givenM p.1 A m.time : Nat) : Int) = GI := ⟨_, rfl⟩
                  have HGI := Lib.hid hGI
                  clear hGI
                  have I15 : ∀ (d : Nat) (os : Array Obj), Calls Try.prog 15 #[.agg #[.int .u8 kI, .int .u32 (p.1.n : Nat), .int .u64 stI, .slice p.2.ko p.1.keys.length p.2.kc, .slice p.2.no p.1.needs.length p.2.nc, .string p.1.pred, .int .u32 (p.1.g : Nat), .int .u32 (p.1.to : Nat), .int .u64 (p.1.at_ : Nat)], .agg #[.int .i64 (A.code : Nat), .int .u64 (A.first : Nat), .int .u64 cmI, .string A.tb.p, .int .u32 (A.tb.g : Nat), .int .u32 (A.tb.«to» : Nat), .int .u64 (A.tb.at_ : Nat), .int .u64 (A.tb.tn : Nat)], .int .u64 wI] (grow (redrawn W5 d) os) fun e' w'' => e' = .returned (.int .u64 GI) ∧ ∃ q : Regrown, w'' = grow (redrawn W5 q.d) q.os := fun d os => by
                    have := given_any (grow (redrawn W5 d) os) p.1 p.2 A m.time
                    unfold opC anC at this
                    rw [HK.out, HST.out, HCM.out, HWI.out, HGI.out] at this
                    exact Calls.regrown_of (this.mono fun e' w'' hh => ⟨hh.1, below_of_chg hh.2⟩)
                  have x0 : W5.cell? ⟨g, o + j * 9, none⟩ = some (.int .u8 kI) := CC.out W5 HA5.out.chg 0 _ rfl
                  have x1 : W5.cell? ⟨g, o + j * 9 + 1, none⟩ = some (.int .u32 (p.1.n : Nat)) := CC.out W5 HA5.out.chg 1 _ rfl
                  have x2 : W5.cell? ⟨g, o + j * 9 + 2, none⟩ = some (.int .u64 stI) := CC.out W5 HA5.out.chg 2 _ rfl
                  have x3 : W5.cell? ⟨g, o + j * 9 + 3, none⟩ = some (.slice p.2.ko p.1.keys.length p.2.kc) := CC.out W5 HA5.out.chg 3 _ rfl
                  have x4 : W5.cell? ⟨g, o + j * 9 + 4, none⟩ = some (.slice p.2.no p.1.needs.length p.2.nc) := CC.out W5 HA5.out.chg 4 _ rfl
                  have x5 : W5.cell? ⟨g, o + j * 9 + 5, none⟩ = some (.string p.1.pred) := CC.out W5 HA5.out.chg 5 _ rfl
                  have x6 : W5.cell? ⟨g, o + j * 9 + 6, none⟩ = some (.int .u32 (p.1.g : Nat)) := CC.out W5 HA5.out.chg 6 _ rfl
                  have x7 : W5.cell? ⟨g, o + j * 9 + 7, none⟩ = some (.int .u32 (p.1.to : Nat)) := CC.out W5 HA5.out.chg 7 _ rfl
                  have x8 : W5.cell? ⟨g, o + j * 9 + 8, none⟩ = some (.int .u64 (p.1.at_ : Nat)) := CC.out W5 HA5.out.chg 8 _ rfl
                  have f0 : W5.cell? ⟨kb, 0, none⟩ = some (.int .i64 (A.code : Nat)) := cell_of HKC.out rfl
                  have f1 : W5.cell? ⟨kb, 1, none⟩ = some (.int .u64 (A.first : Nat)) := cell_of HKC.out rfl
                  have f2 : W5.cell? ⟨kb, 2, none⟩ = some (.int .u64 cmI) := cell_of HKC.out rfl
                  have f3 : W5.cell? ⟨kb, 3, none⟩ = some (.string A.tb.p) := cell_of HKC.out rfl
                  have f4 : W5.cell? ⟨kb, 4, none⟩ = some (.int .u32 (A.tb.g : Nat)) := cell_of HKC.out rfl
                  have f5 : W5.cell? ⟨kb, 5, none⟩ = some (.int .u32 (A.tb.«to» : Nat)) := cell_of HKC.out rfl
                  have f6 : W5.cell? ⟨kb, 6, none⟩ = some (.int .u64 (A.tb.at_ : Nat)) := cell_of HKC.out rfl
                  have f7 : W5.cell? ⟨kb, 7, none⟩ = some (.int .u64 (A.tb.tn : Nat)) := cell_of HKC.out rfl
                  have gx0 := fun p os => cell_regrown x0 p os
                  have gx1 := fun p os => cell_regrown x1 p os
                  have gx2 := fun p os => cell_regrown x2 p os
                  have gx3 := fun p os => cell_regrown x3 p os
                  have gx4 := fun p os => cell_regrown x4 p os
                  have gx5 := fun p os => cell_regrown x5 p os
                  have gx6 := fun p os => cell_regrown x6 p os
                  have gx7 := fun p os => cell_regrown x7 p os
                  have gx8 := fun p os => cell_regrown x8 p os
                  have gf0 := fun p os => cell_regrown f0 p os
                  have gf1 := fun p os => cell_regrown f1 p os
                  have gf2 := fun p os => cell_regrown f2 p os
                  have gf3 := fun p os => cell_regrown f3 p os
                  have gf4 := fun p os => cell_regrown f4 p os
                  have gf5 := fun p os => cell_regrown f5 p os
                  have gf6 := fun p os => cell_regrown f6 p os
                  have gf7 := fun p os => cell_regrown f7 p os
                  go_wp2_with fail
                  refine wp_region_quiet_below (by kernel_rfl) (by kernel_rfl) ?_
                  repeat (go_big_quiet_step (with_reducible exact I15 _ _))
                  refine wpQuiet_nil ?_
                  intro _ hw'
                  obtain ⟨⟨dq, osq⟩, hw''⟩ := hw'
                  subst hw''
                  have C6 : Chg (fun _ => False) W5 (grow (redrawn W5 dq) osq) := chg_of_below (below_regrown W5 dq osq)
                  obtain ⟨W6, HW6⟩ : ∃ W6, Hid (grow (redrawn W5 dq) osq = W6) := ⟨_, Lib.hid rfl⟩
                  rw [HW6.out] at C6
                  have HA6 := Lib.hid (HA5.out.same C6)
                  have HKC6 := Lib.hid ((C6.block kb (Array.getElem?_eq_some_iff.1 HKC.out).1 (fun f => f)).trans HKC.out)
                  clear I15 gx0 x0 gx1 x1 gx2 x2 gx3 x3 gx4 x4 gx5 x5 gx6 x6 gx7 x7 gx8 x8 gf0 f0 gf1 f1 gf2 f2 gf3 f3 gf4 f4 gf5 f5 gf6 f6 gf7 f7 C6
                  go_upto_region 21 with fail
                  rw [HW6.out]
                  go_cut [126] from 87 to 126 (fun s wc => s = .bool false ∧ W6 = wc)
                  case first => as_aux_lemma =>
                    have TM : Hid (Calls Try.prog 9 #[.pointer (some ⟨b, 0, none⟩)] W6 fun e w' => e = .returned (.int .u64 tI) ∧ w' = W6) := by
                      obtain ⟨R, hR⟩ := HA6.out.is
                      rw [← HTI.out]
                      exact Lib.hid (time_any hR)
                    by_cases hg0 : givenM p.1 A m.time = 0
                    · have dg : (GI != 0) = false := by have := HGI.out; simp; omega
                      have dg' : (GI == 0) = true := by have := HGI.out; simp; omega
                      have dt : decide (tI < wI) = false := decide_eq_false (by have := PL0.out.2.2.1; have := HTI.out; have := HWI.out; omega)
                      have dt' : (tI != wI) = false := by have := PL0.out.2.1 hg0; have := HTI.out; have := HWI.out; simp; omega
                      clear hg0
                      go_wp2_with fail
                      refine TM.out.mono ?_
                      rintro e w7 ⟨rfl, rfl⟩
                      go_wp2_with fail
                      refine TM.out.mono ?_
                      rintro e w8 ⟨rfl, rfl⟩
                      go_wp2_with fail
                      go_meet
                      case rel => exact ⟨rfl, rfl⟩
                    · have dg : (GI != 0) = true := by have := HGI.out; simp; omega
                      have dg' : (GI == 0) = false := by have := HGI.out; simp; omega
                      have dt : decide (tI < wI) = false := decide_eq_false (by have := PL0.out.2.2.1; have := HTI.out; have := HWI.out; omega)
                      have dg1 : (GI != wI + 1) = false := by have := PL0.out.1 hg0; have := HGI.out; have := HWI.out; simp; omega
                      clear hg0
                      go_wp2_with fail
                      refine TM.out.mono ?_
                      rintro e w7 ⟨rfl, rfl⟩
                      go_wp2_with fail
                      go_meet
                      case rel => exact ⟨rfl, rfl⟩
                  case rest => as_aux_lemma =>
                    obtain ⟨rfl, rfl⟩ := hcut
                    have x0 : W6.cell? ⟨g, o + j * 9, none⟩ = some (.int .u8 kI) := CC.out W6 HA6.out.chg 0 _ rfl
                    have x2 : W6.cell? ⟨g, o + j * 9 + 2, none⟩ = some (.int .u64 stI) := CC.out W6 HA6.out.chg 2 _ rfl
                    have f2 : W6.cell? ⟨kb, 2, none⟩ = some (.int .u64 cmI) := cell_of HKC6.out rfl
                    go_upto_region 23 with fail
                    go_cut [10, 141] from 141 to 141 (fun _ s wc => s = .bool false ∧ W6 = wc)
                    case first => as_aux_lemma =>
                      by_cases h3 : kI = 3
                      · have d3 : (kI == 3) = true := beq_iff_eq.2 h3
                        by_cases hcm : m.time < A.commit
                        · have d5 : decide (wI < cmI) = true := decide_eq_true (by have := HCM.out; have := HWI.out; omega)
                          have hz := PL0.out.2.2.2.1 (by have := HK.out; omega) hcm
                          rw [HMV.out] at hz
                          subst hz
                          clear h3 hcm
                          go_wp2_with fail
                          go_meet
                          case rel => exact ⟨rfl, rfl⟩
                        · have d5 : decide (wI < cmI) = false := decide_eq_false (by have := HCM.out; have := HWI.out; omega)
                          clear h3 hcm
                          go_wp2_with fail
                          go_meet
                          case rel => exact ⟨rfl, rfl⟩
                      · have d3 : (kI == 3) = false := beq_eq_false_iff_ne.2 h3
                        clear h3
                        go_wp2_with fail
                        go_meet
                        case rel => exact ⟨rfl, rfl⟩
                    case rest => as_aux_lemma =>
                      obtain ⟨rfl, rfl⟩ := hcut
                      go_upto_region 25 with fail
                      obtain ⟨Y, hY⟩ : ∃ Y, (kI == 3 || kI == 4) = Y := ⟨_, rfl⟩
                      have HY := Lib.hid hY
                      clear hY
                      go_cut [155] from 155 to 155 (fun s wc => s = .bool Y ∧ W6 = wc)
                      case first => as_aux_lemma =>
                        by_cases h3 : kI = 3
                        · have d3 : (kI == 3) = true := beq_iff_eq.2 h3
                          clear h3
                          go_wp2_with fail
                          go_meet
                          case rel => exact ⟨by rw [← HY.out, d3]; rfl, rfl⟩
                        · have d3 : (kI == 3) = false := beq_eq_false_iff_ne.2 h3
                          clear h3
                          by_cases h4 : kI = 4
                          · have d5 : (kI == 4) = true := beq_iff_eq.2 h4
                            clear h4
                            go_wp2_with fail
                            go_meet
                            case rel => exact ⟨by rw [← HY.out, d3, d5]; rfl, rfl⟩
                          · have d5 : (kI == 4) = false := beq_eq_false_iff_ne.2 h4
                            clear h4
                            go_wp2_with fail
                            go_meet
                            case rel => exact ⟨by rw [← HY.out, d3, d5]; rfl, rfl⟩
                      case rest => as_aux_lemma =>
                        obtain ⟨rfl, rfl⟩ := hcut
                        cases Y with
                        | false =>
                          go_wp2_with fail
                          go_meet
                          case rel => exact Lib.hid ⟨D, HA6.out⟩
                        | true =>
                          have PD := Lib.hid (PL0.out.2.2.2.2 (by have h1 := HY.out; have h2 := HK.out; rw [Bool.or_eq_true, beq_iff_eq, beq_iff_eq] at h1; omega))
                          have hsl := ((HO.out.stay HA6.out.chg).ops _ HP.out).1.st
                          have hlk := HA6.out.lookD hsl
                          have HSL := Lib.hid hsl
                          rw [HST.out] at hlk
                          obtain ⟨Zh, hZh⟩ : ∃ Zh, (lk D p.1.st).isSome = Zh := ⟨_, rfl⟩
                          obtain ⟨hcI, hhc⟩ : ∃ hcI : Int, (((lk D p.1.st).getD 0 : Nat) : Int) = hcI := ⟨_, rfl⟩
                          rw [hZh, hhc] at hlk
                          have HZh := Lib.hid hZh
                          have HHC := Lib.hid hhc
                          clear hsl hZh hhc
                          go_upto_region 27 with fail
                          go_cut [17, 187] from 156 to 187 (fun _ s wc => s = .bool false ∧ Hid (Chg (fun _ => False) W6 wc))
                          case first => as_aux_lemma =>
                            clear hlk
                            cases Zh with
                            | true =>
                              have dh : (hcI != cmI) = false := by
                                obtain ⟨c9, hc9⟩ := Option.isSome_iff_exists.1 HZh.out
                                have h1 := PD.out.1 c9 hc9
                                have h2 := HHC.out
                                rw [hc9] at h2
                                have := HCM.out
                                simp at h2
                                simp; omega
                              by_cases hcz : A.commit = 0
                              · have dc : (cmI != 0) = false := by have := HCM.out; simp; omega
                                clear hcz
                                go_quiet (fail)
                                go_wp2_with fail
                                go_meet
                                case rel => exact ⟨rfl, Lib.hid (chg_of_below ⟨rfl, rfl, rfl, Nat.le_refl _, fun _ _ => rfl⟩)⟩
                              · have dc : (cmI != 0) = true := by have := HCM.out; simp; omega
                                have dl : decide (cmI ≤ stI) = false := decide_eq_false (by have := PD.out.2.1 hcz; have := HCM.out; have := HST.out; omega)
                                clear hcz
                                go_quiet (fail)
                                go_wp2_with fail
                                go_meet
                                case rel => exact ⟨rfl, Lib.hid (chg_of_below ⟨rfl, rfl, rfl, Nat.le_refl _, fun _ _ => rfl⟩)⟩
                            | false =>
                              by_cases hcz : A.commit = 0
                              · have dc : (cmI != 0) = false := by have := HCM.out; simp; omega
                                clear hcz
                                go_quiet (fail)
                                go_wp2_with fail
                                go_meet
                                case rel => exact ⟨rfl, Lib.hid (chg_of_below ⟨rfl, rfl, rfl, Nat.le_refl _, fun _ _ => rfl⟩)⟩
                              · have dc : (cmI != 0) = true := by have := HCM.out; simp; omega
                                have dl : decide (cmI ≤ stI) = false := decide_eq_false (by have := PD.out.2.1 hcz; have := HCM.out; have := HST.out; omega)
                                clear hcz
                                go_quiet (fail)
                                go_wp2_with fail
                                go_meet
                                case rel => exact ⟨rfl, Lib.hid (chg_of_below ⟨rfl, rfl, rfl, Nat.le_refl _, fun _ _ => rfl⟩)⟩
                          case rest => as_aux_lemma =>
                            obtain ⟨rfl, HC7⟩ := hcut
                            generalize wc = W7 at *
                            have HA7 := Lib.hid (HA6.out.same HC7.out)
                            have HKC7 := Lib.hid ((HC7.out.block kb (Array.getElem?_eq_some_iff.1 HKC6.out).1 (fun f => f)).trans HKC6.out)
                            obtain ⟨es, ck, hup, hA8⟩ := (HA7.out.same ((Chg.refl (fun _ => False) W7).drew)).putD HSL.out PD.out.2.2
                            rw [HST.out, HCM.out] at hup
                            have HA8 := Lib.hid hA8
                            clear hA8 hlk x0 x2 f2
                            have y2 : W7.cell? ⟨g, o + j * 9 + 2, none⟩ = some (.int .u64 stI) := CC.out W7 HA7.out.chg 2 _ rfl
                            have z2 : W7.cell? ⟨kb, 2, none⟩ = some (.int .u64 cmI) := cell_of HKC7.out rfl
                            go_wp2_with fail
                            go_region
                            all_goals
                              go_wp2_with fail
                              go_meet
                              exact Lib.hid ⟨_, HA8.out⟩
                · have d4 : ((A.code : Int) == 0) = false := by simp; omega
                  have hsame : m' = m := RS.out hc0
                  have dt : (tI != wI) = false := by have := HTI.out; have := HWI.out; rw [hsame] at *; simp; omega
                  clear hc0 RS PL hsame
                  go_wp2_with fail
                  refine TM.out.mono ?_
                  rintro e w6 ⟨rfl, rfl⟩
                  go_wp2_with fail
                  go_meet
                  case rel => exact Lib.hid ⟨D, HA5.out⟩
              case rest => as_aux_lemma =>
                have HB := hcut
                obtain ⟨D', hB⟩ := HB.out
                generalize wc = W8 at *
                have HB8 := Lib.hid hB
                clear HB hcut HA5 HKC PL RS
                obtain ⟨it, hrg, hD⟩ := HB8.out.rangeDAt
                obtain ⟨q1, HQ1⟩ : ∃ q1, Hid (W8.heap.size = q1) := ⟨_, Lib.hid rfl⟩
                rw [HQ1.out] at hrg hD
                have HD0 := Lib.hid hD
                clear hB hD
                go_wp2_with fail
                clear hrg
                go_loopg [] (D'.length) (fun gq wq => ∃ left : List (Nat × Nat), gq = left.length ∧ Hid (DAt w x b (j + 1) r1 (r1 + 1) m' D' S F' q1 left wq))
                case atStart => exact ⟨_, rfl, HD0⟩
                case round =>
                  clear HD0
                  obtain ⟨left, hlf, HD⟩ := hrel
                  generalize wr = W9 at *
                  rcases HD.out.next with hnx | ⟨a0, b0, y, c, W10, h0, hy, hym, hnx, hen, hD9⟩
                  · have HE := Lib.hid HD.out.at_
                    clear HD
                    have TM : Hid (Calls Try.prog 9 #[.pointer (some ⟨b, 0, none⟩)] W9 fun e w' => e = .returned (.int .u64 tI) ∧ w' = W9) := by
                      obtain ⟨R, hR⟩ := HE.out.is
                      rw [← HTI.out]
                      exact Lib.hid (time_any hR)
                    have hT64 : m'.time < 18446744073709551616 := by have := HE.out.lim.time; omega
                    obtain ⟨sI, hsI⟩ : ∃ sI : Int, ((seenM (m'.com x) m'.time : Nat) : Int) = sI := ⟨_, rfl⟩
                    have SE : Hid (Calls Try.prog 17 #[.pointer (some ⟨b, 0, none⟩), .string x, .int .u64 tI] W9 fun e w' => e = .returned (.int .i64 sI) ∧ w' = W9) := by
                      obtain ⟨R, hR⟩ := HE.out.is
                      rw [← HTI.out, ← hsI]
                      exact Lib.hid (seen_any hR HX.out (HE.out.inv.cso x) (by have := HE.out.lim.com x; omega) m'.time)
                    obtain ⟨es, ck, hup, S', hE⟩ := HE.out.putS hT64
                    rw [HTI.out, hsI] at hup
                    obtain ⟨W11, HW11⟩ : ∃ W11, Hid (ChangeMaps.setBlock W9 (r1 + 1) (.map es ck) = W11) := ⟨_, Lib.hid rfl⟩
                    rw [HW11.out] at hE
                    have HE11 := Lib.hid hE
                    obtain ⟨it2, hrg2, hS⟩ := HE11.out.rangeSAt
                    obtain ⟨q2, HQ2⟩ : ∃ q2, Hid (W11.heap.size = q2) := ⟨_, Lib.hid rfl⟩
                    rw [HQ2.out] at hrg2 hS
                    have HS0 := Lib.hid hS
                    clear hE hS hsI hT64
                    go_wp2_with fail
                    refine TM.out.mono ?_
                    rintro e w12 ⟨rfl, rfl⟩
                    go_wp2_with fail
                    refine TM.out.mono ?_
                    rintro e w13 ⟨rfl, rfl⟩
                    go_wp2_with fail
                    refine SE.out.mono ?_
                    rintro e w14 ⟨rfl, rfl⟩
                    rw [← HW11.out] at hrg2
                    go_wp2_with fail
                    rw [HW11.out]
                    clear hrg2 hup hnx
                    go_loopg [] (S'.length) (fun gq wq => ∃ left : List (Nat × Nat), gq = left.length ∧ Hid (SAt w x b (j + 1) r1 (r1 + 1) m' D' S' F' q2 left wq))
                    case atStart => exact ⟨_, rfl, HS0⟩
                    case round =>
                      clear HS0
                      obtain ⟨left, hlf, HS⟩ := hrel
                      generalize wr = W15 at *
                      rcases HS.out.next with hnx | ⟨a0, b0, y, c, W16, h0, hy, hym, hnx, hen, hS9⟩
                      · have HF := Lib.hid HS.out.at_
                        clear HS
                        go_wp2
                        go_roundg (n - (j + 1))
                        case measure => omega
                        case rel => exact ⟨j + 1, m', D', S', F', by go_num, by omega, rfl, HF⟩
                      · have HS9 := Lib.hid hS9
                        obtain ⟨yI, hyI⟩ : ∃ yI : Int, (y : Int) = yI := ⟨_, rfl⟩
                        obtain ⟨cI, hcI⟩ : ∃ cI : Int, (c : Int) = cI := ⟨_, rfl⟩
                        have SN : Hid (Calls Try.prog 17 #[.pointer (some ⟨b, 0, none⟩), .string x, .int .u64 yI] W16 fun e w' => e = .returned (.int .i64 cI) ∧ w' = W16) := by
                          obtain ⟨R, hR⟩ := HS9.out.at_.is
                          have hs := (HS9.out.at_.seen _ hym).2
                          simp only at hs
                          rw [← hyI, ← hcI, hs]
                          exact Lib.hid (seen_any hR HX.out (HS9.out.at_.inv.cso x) (by have := HS9.out.at_.lim.com x; omega) y)
                        rw [hyI, hcI] at hnx hen
                        have dd : (cI != cI) = false := by simp
                        have HLN := Lib.hid (show (a0 ++ b0).length < gk by rw [hlf, h0]; simp)
                        clear hS9 hy hym h0 hlf hyI hcI
                        go_wp2_with fail
                        refine SN.out.mono ?_
                        rintro e w17 ⟨rfl, rfl⟩
                        go_wp2
                        go_roundg ((a0 ++ b0).length)
                        case measure => exact HLN.out
                        case rel => exact ⟨_, rfl, HS9⟩
                  · have HD9 := Lib.hid hD9
                    obtain ⟨yI, hyI⟩ : ∃ yI : Int, (y : Int) = yI := ⟨_, rfl⟩
                    obtain ⟨cI, hcI⟩ : ∃ cI : Int, (c : Int) = cI := ⟨_, rfl⟩
                    have DE : Hid (Calls Try.prog 16 #[.pointer (some ⟨b, 0, none⟩), .int .u64 yI] W10 fun e w' => e = .returned (.tuple #[.int .u64 cI, .bool true]) ∧ Chg (fun _ => False) W10 w') := by
                      obtain ⟨R, hR⟩ := HD9.out.at_.is
                      have ht := HD9.out.at_.once.tells hym
                      have := decision_any hR hy
                      simp only at ht
                      rw [ht] at this
                      rw [← hyI, ← hcI]
                      exact Lib.hid this
                    rw [hyI, hcI] at hnx hen
                    have dd : (cI != cI) = false := by simp
                    have HLN := Lib.hid (show (a0 ++ b0).length < gk by rw [hlf, h0]; simp)
                    clear hD9 hy hym h0 hlf hyI hcI
                    go_wp2_with fail
                    refine DE.out.mono ?_
                    rintro e w11 ⟨rfl, hc⟩
                    have HD11 := Lib.hid (HD9.out.same hc)
                    clear hc
                    go_wp2
                    go_roundg ((a0 ++ b0).length)
                    case measure => exact HLN.out
                    case rel => exact ⟨_, rfl, HD11⟩
        · have hd : decide ((j : Int) < n) = false := decide_eq_false (by omega)
          have HCC := Lib.hid (HC.out.trans HA.out.chg)
          go_wp2
          go_ret
          exact ⟨rfl, HCC.out⟩
end Go.Proofs.Ytgmmglmokkcgeaa
