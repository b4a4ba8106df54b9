/- Walks: the document's end: a transaction is committed. Printed by genRc.py. -/
import Derived.Test.YtgmmglmokkcgeaaGreatRb
import Derived.Deep.RegionWith
namespace Go.Proofs.YtgmmglmokkcgeaaGreat
set_option linter.unusedVariables false
set_option linter.unusedSimpArgs false
set_option linter.unusedSectionVars false
open Go.RowKit Mk Go.Sort

theorem wrap_next {m n : Nat} (h : (m + 1) % 18446744073709551616 = n) : IntKind.u64.wrap ((m : Int) + 1) = n := by
  rw [← h]; simp only [IntKind.wrap, IntKind.bits, IntKind.signed]; simp
theorem rend2_key (r : RM) (o : OpM) {i : Nat} (h : i < o.keys.length) : { rend2 r o i 0 with k := lay lessB o.keys[i] (r.time + 1) (rend2 r o i 0).k } = rend2 r o (i + 1) 0 := by
  unfold rend2
  rw [take_snoc' h, rlastM_snoc]
theorem rend2_need (r : RM) (o : OpM) (i : Nat) {j : Nat} (h : j < o.needs.length) : { rend2 r o i j with c := lay lessB o.needs[j].1 ((lk (rend2 r o i j).c o.needs[j].1).getD [] ++ [r.time + 1]) (rend2 r o i j).c } = rend2 r o i (j + 1) := by
  unfold rend2
  rw [take_snoc' h, rcomM_snoc]
theorem rend2_end (r : RM) (o : OpM) {i j : Nat} (h1 : o.keys.length ≤ i) (h2 : o.needs.length ≤ j) : rend2 r o i j = { r with time := r.time + 1, d := lay ltN o.st (r.time + 1) r.d, k := rlastM (r.time + 1) o.keys r.k, c := rcomM (r.time + 1) o.needs r.c } := by
  unfold rend2
  rw [List.take_of_length_le h1, List.take_of_length_le h2]
theorem rto_wide2 {W2 w w' : World} {b : Nat} {F : Nat → Prop} {r r1 : RM} (h : RTo W2 b F r w) (h2 : RTo w b (fun g => F g ∨ W2.heap.size ≤ g) r1 w') : RTo W2 b F r1 w' := h.trans h2
section
variable {w w' : World} {b : Nat} {R : RV} {F G : Nat → Prop} {r : RM} {o : OpM} {l : OpL} {B : Nat}
set_option maxRecDepth 100000 in
set_option maxHeartbeats 8000000 in
theorem rend_commit (h : RRep w b R F r) (hF : ∀ g, F g → g < w.heap.size) (ho : OpAt w o l) (hfit : Fit r B) (hB : B ≤ 900000) (h1 : ¬ r.time < o.st) (hl : lk r.d o.st = none) (h2 : ¬ o.st < r.mark) (h3 : o.k = 3) (h5 : rclearM r o = true) (hkn : o.keys.length ≤ 256 ∧ o.needs.length ≤ 256)
    (hsep : ∀ g o', (o.keys ≠ [] ∧ l.ko = some ⟨g, o', none⟩) ∨ (o.needs ≠ [] ∧ l.no = some ⟨g, o', none⟩) → ¬ F g) :
    Calls Tryz.prog 62 #[.pointer (some ⟨b, 0, none⟩), .agg (opC o l)] w fun e w' => e = .returned (anV ⟨0, 0, r.time + 1, .zero⟩) ∧ RTo w b F { r with time := r.time + 1, d := lay ltN o.st (r.time + 1) r.d, k := rlastM (r.time + 1) o.keys r.k, c := rcomM (r.time + 1) o.needs r.c } w' := by
  obtain ⟨W2, ob, ab, hW2, hob, hab, ho2, ha2, hc2, hs2⟩ := two_boxes w o l
  have HW2 := Lib.hid hW2
  have HOS := Lib.hid hob
  have HAS := Lib.hid hab
  have HOB := Lib.hid ho2
  have HAB := Lib.hid ha2
  have HC2 := Lib.hid hc2
  have HH := Lib.hid (h.same hc2)
  have HNF := Lib.hid (show ¬ (F ab ∨ W2.heap.size ≤ ab) from fun e => by rcases e with e | e; exact absurd (hF _ e) (by omega); omega)
  have HNO := Lib.hid (show ¬ (F ob ∨ W2.heap.size ≤ ob) from fun e => by rcases e with e | e; exact absurd (hF _ e) (by omega); omega)
  have HLE := Lib.hid (show w.heap.size ≤ ab by omega)
  have HO2 := Lib.hid (ho.same hc2)
  have c0 : W2.cell? ⟨b, 0, none⟩ = some (.int .u64 (r.time : Nat)) := cell_of HH.out.box rfl
  have k2 : W2.cell? ⟨ob, 2, none⟩ = some (.int .u64 (o.st : Nat)) := cell_of HOB.out rfl
  have q1 : decide ((r.time : Int) < (o.st : Int)) = false := by simp; omega
  have q1n : decide (r.time < o.st) = false := decide_eq_false h1
  have DD := fun m => rdecided_any (HH.out.same (Chg.drewN' W2 m)) o.st
  rw [hl] at DD
  have DD := Lib.hid DD
  have q2 : decide ((o.st : Int) < (r.mark : Int)) = false := by simp; omega
  have q2n : decide (o.st < r.mark) = false := decide_eq_false h2
  have MM := fun (u : World) (c : Chg (fun _ => False) W2 u) => rclear_any (HH.out.same c) hfit.ts hfit.tp (HO2.out.same c)
  rw [h5] at MM
  have MM := Lib.hid MM
  have HL := Lib.hid (lk_off hl)
  have HFT := Lib.hid hfit
  have HBB := Lib.hid hB
  have HKN := Lib.hid hkn
  have q4 : ((o.k : Int) == 4) = false := by rw [h3]; rfl
  have q4n : decide (o.k = 4) = false := by rw [h3]; rfl
  obtain ⟨T, hT⟩ : ∃ T, r.time + 1 = T := ⟨_, rfl⟩
  have HTT := Lib.hid hT
  have wT : IntKind.u64.wrap ((r.time : Int) + 1) = T := wrap_next (by have := hfit.time; rw [hT]; exact Nat.mod_eq_of_lt (by omega))
  have HKEY := Lib.hid (show ∀ (u : World) (c : Chg F W2 u) (j : Nat) (hj : j < o.keys.length), ∃ g oo, l.ko = some ⟨g, oo, none⟩ ∧ u.cell? ⟨g, oo + j, none⟩ = some (.string o.keys[j]) from fun u c j hj => by
    obtain ⟨g, oo, e, hg, hc⟩ := ho.keys.cell j hj
    have hne : o.keys ≠ [] := fun e => by rw [e] at hj; simp at hj
    refine ⟨g, oo, e, ?_⟩
    have e1 := hc2.block g hg (fun f => f)
    have e2 := c.block g (Nat.lt_of_lt_of_le hg hc2.size) (hsep g oo (Or.inl ⟨hne, e⟩))
    exact (World.cell?_of_block (a := ⟨g, oo + j, none⟩) (e2.trans e1)).trans hc)
  have HNEED := Lib.hid (show ∀ (u : World) (c : Chg F W2 u) (j : Nat) (hj : j < o.needs.length), ∃ g oo, l.no = some ⟨g, oo, none⟩ ∧ u.cell? ⟨g, oo + j * 2, none⟩ = some (.string o.needs[j].1) from fun u c j hj => by
    obtain ⟨g, oo, e, hg, hc, -⟩ := ho.needs.cell j hj
    have hne : o.needs ≠ [] := fun e => by rw [e] at hj; simp at hj
    refine ⟨g, oo, e, ?_⟩
    have e1 := hc2.block g hg (fun f => f)
    have e2 := c.block g (Nat.lt_of_lt_of_le hg hc2.size) (hsep g oo (Or.inr ⟨hne, e⟩))
    exact (World.cell?_of_block (a := ⟨g, oo + j * 2, none⟩) (e2.trans e1)).trans hc)
  have HKL := Lib.hid (rlastM_ris (r.time + 1) · r.k hfit.ks)
  have HCL := Lib.hid (rcomM_ris (r.time + 1) B · r.c B hfit.cs hfit.ct)
  rw [hT]
  clear h hF ho hfit hB hW2 hob hab ho2 ha2 hc2 hs2 h1 hl h2 h3 h5 hkn hsep hT
  go_enter Tryz.func62, Tryz.ntmps62
  go_upto_region 1 with fail
  rw [HW2.out, HOS.out, HAS.out]
  go_quiet (fail)
  have DQ := Lib.hid (DD.out nq)
  have KQ := Lib.hid (Chg.drewN' W2 nq)
  generalize W2.drewN nq = W3 at *
  have HAB3 := Lib.hid ((KQ.out.block ab (Array.getElem?_eq_some_iff.1 HAB.out).1 (fun f => f)).trans HAB.out)
  have HOB3 := Lib.hid ((KQ.out.block ob (Array.getElem?_eq_some_iff.1 HOB.out).1 (fun f => f)).trans HOB.out)
  have HH3 := Lib.hid (HH.out.same KQ.out)
  clear c0 k2 DD
  have k2 : W3.cell? ⟨ob, 2, none⟩ = some (.int .u64 (o.st : Nat)) := cell_of HOB3.out rfl
  have c2 : W3.cell? ⟨b, 2, none⟩ = some (.int .u64 (r.mark : Nat)) := cell_of HH3.out.box rfl
  go_wp2_with fail
  refine DQ.out.mono ?_
  rintro e w4 ⟨rfl, rfl⟩
  go_upto_region 6 with fail
  go_quiet (fail)
  have KR := Lib.hid (KQ.out.trans (Chg.drewN' w4 nq))
  generalize w4.drewN nq = W5 at *
  have HAB5 := Lib.hid ((KR.out.block ab (Array.getElem?_eq_some_iff.1 HAB.out).1 (fun f => f)).trans HAB.out)
  have HOB5 := Lib.hid ((KR.out.block ob (Array.getElem?_eq_some_iff.1 HOB.out).1 (fun f => f)).trans HOB.out)
  have HH5 := Lib.hid (HH.out.same KR.out)
  have HT5 := Lib.hid (show RTo W2 b F r W5 from ⟨⟨R, HH5.out.wide (fun _ => Or.inl)⟩, KR.out.mono (fun _ f => f.elim)⟩)
  clear c2 k2 DQ KQ HAB3 HOB3 HH3
  have k0 : W5.cell? ⟨ob, 0, none⟩ = some (.int .u8 (o.k : Nat)) := cell_of HOB5.out rfl
  have k1 : W5.cell? ⟨ob, 1, none⟩ = some (.int .u32 (o.n : Nat)) := cell_of HOB5.out rfl
  have k2 : W5.cell? ⟨ob, 2, none⟩ = some (.int .u64 (o.st : Nat)) := cell_of HOB5.out rfl
  have k3 : W5.cell? ⟨ob, 3, none⟩ = some (.slice l.ko o.keys.length l.kc) := cell_of HOB5.out rfl
  have k4 : W5.cell? ⟨ob, 4, none⟩ = some (.slice l.no o.needs.length l.nc) := cell_of HOB5.out rfl
  have k5 : W5.cell? ⟨ob, 5, none⟩ = some (.string o.pred) := cell_of HOB5.out rfl
  have k6 : W5.cell? ⟨ob, 6, none⟩ = some (.int .u32 (o.g : Nat)) := cell_of HOB5.out rfl
  have k7 : W5.cell? ⟨ob, 7, none⟩ = some (.int .u32 (o.to : Nat)) := cell_of HOB5.out rfl
  have k8 : W5.cell? ⟨ob, 8, none⟩ = some (.int .u64 (o.at_ : Nat)) := cell_of HOB5.out rfl
  have MQ := Lib.hid (MM.out _ KR.out)
  clear MM
  go_wp2_with fail
  refine MQ.out.mono ?_
  rintro e W7 ⟨rfl, c7⟩
  have HH7 := Lib.hid (HH5.out.same c7)
  have HT7 := Lib.hid (show RTo W2 b F r W7 from ⟨⟨R, HH7.out.wide (fun _ => Or.inl)⟩, HT5.out.chg.trans (c7.mono (fun _ f => f.elim))⟩)
  clear c7 k0 k1 k2 k3 k4 k5 k6 k7 k8 MQ HH5 HT5 HAB5 HOB5 KR
  have d0 : W7.cell? ⟨b, 0, none⟩ = some (.int .u64 (r.time : Nat)) := cell_of HH7.out.box rfl
  obtain ⟨f1, hm⟩ := RRep.setBox HH7.out (r' := { r with time := T }) (i := 0) (v := .int .u64 (T : Nat)) rfl rfl rfl rfl rfl
  obtain ⟨W8, HW8⟩ : ∃ W, Hid (W7.setCell ⟨b, 0, none⟩ (.int .u64 (T : Nat)) = W) := ⟨_, Lib.hid rfl⟩
  rw [HW8.out] at hm
  have HT8 := Lib.hid (show RTo W2 b F { r with time := T } W8 from by
    rw [← HW8.out]
    exact ⟨⟨R, by rw [HW8.out]; exact hm.wide (fun _ => Or.inl)⟩, HT7.out.chg.setCell (a := ⟨b, 0, none⟩) (Or.inl HH7.out.fb) _⟩)
  have HM8 := Lib.hid hm
  go_upto_region 12 with fail
  rw [HW8.out]
  clear hm d0 f1 HT7 HH7 wT
  have e0 : W8.cell? ⟨b, 0, none⟩ = some (.int .u64 (T : Nat)) := cell_of HM8.out.box rfl
  have k2 : W8.cell? ⟨ob, 2, none⟩ = some (.int .u64 (o.st : Nat)) := cell_of ((HT8.out.chg.block ob (Array.getElem?_eq_some_iff.1 HOB.out).1 (fun f => HNO.out (Or.inl f))).trans HOB.out) rfl
  have DE := Lib.hid (rdecide_any (HM8.out.same (Chg.refl _ W8).drew) o.st T HFT.out.ds HL.out (by have := HFT.out.dl; have := HBB.out; show r.d.length ≤ _; omega))
  go_cut [] from 57 to 64 (fun wx => Hid (RTo W2 b F (rend2 r o 0 0) wx))
  case first => as_aux_lemma =>
    go_region_with (go_at_call 101; refine DE.out.mono ?_; rintro e w6 ⟨rfl, h6⟩; have H6 := Lib.hid h6; clear h6)
    all_goals
      have HZ := Lib.hid (show RTo W2 b F (rend2 r o 0 0) w6 from by
        have h := rto_under ((Chg.refl (fun _ => False) W8).drew) H6.out
        have h2 := HT8.out.trans (show RTo W8 b (fun g => F g ∨ W2.heap.size ≤ g) _ w6 from ⟨by obtain ⟨R2, h2⟩ := h.is; exact ⟨R2, h2.wide (fun g e => by rcases e with e | e; exact Or.inl (Or.inl e); exact Or.inr e)⟩, h.chg.mono (fun _ f => Or.inl f)⟩)
        unfold rend2
        rw [HTT.out]
        exact h2)
      go_wp2_with fail
      go_meet
      case rel => exact HZ
  case rest =>
    have HA := Lib.hid hcut.out
    generalize wc = W9 at *
    clear hcut e0 k2 DE HM8 HT8
    obtain ⟨K, hK⟩ : ∃ K, o.keys.length = K := ⟨_, rfl⟩
    obtain ⟨N, hN⟩ : ∃ N, o.needs.length = N := ⟨_, rfl⟩
    have HKK := Lib.hid hK
    have HNN := Lib.hid hN
    have hk256 : K ≤ 256 := by rw [← hK]; exact HKN.out.1
    have hn256 : N ≤ 256 := by rw [← hN]; exact HKN.out.2
    clear hK hN
    go_wp2_with fail
    go_loopw [7] (fun s7 wr => ∃ j : Nat, s7 = .int .i64 j ∧ j ≤ K ∧ Hid (RTo W2 b F (rend2 r o j 0) wr)) (fun s7 _ => K - (intOf s7).toNat)
    case atStart => exact ⟨0, rfl, Nat.zero_le _, HA⟩
    case round =>
      obtain ⟨j, rfl, hj, HR⟩ := hrel
      obtain ⟨R1, hr1⟩ := HR.out.is
      have hob1 := (HR.out.chg.block ob (Array.getElem?_eq_some_iff.1 HOB.out).1 (fun f => HNO.out (Or.inl f))).trans HOB.out
      have e0 : wr.cell? ⟨b, 0, none⟩ = some (.int .u64 (T : Nat)) := by have := cell_of hr1.box (i := 0) (v := .int .u64 ((r.time + 1 : Nat) : Int)) rfl; rw [HTT.out] at this; exact this
      have k3 : wr.cell? ⟨ob, 3, none⟩ = some (.slice l.ko K l.kc) := by rw [← HKK.out]; exact cell_of hob1 rfl
      have HR1 := Lib.hid hr1
      have HOB1 := Lib.hid hob1
      clear hr1 hob1
      by_cases hjk : j < K
      · have q1 : decide ((j : Int) < (K : Int)) = true := by simp; omega
        have hjC : j < o.keys.length := by rw [HKK.out]; exact hjk
        obtain ⟨g, oo, hko, a1⟩ := HKEY.out wr HR.out.chg j hjC
        rw [hko] at k3
        clear hko
        have l0 : (0 : Int) ≤ j := by omega
        have l1 : (j : Int) < K := by omega
        have LC := rlast_any (HR1.out.same (Chg.refl _ wr).drew) o.keys[j] T (show Ris lessB (rlastM (r.time + 1) (o.keys.take j) r.k) from (HKL.out _).1) (show (rlastM (r.time + 1) (o.keys.take j) r.k).length ≤ 1000000 from by have := HFT.out.kl; have := HBB.out; have h9 := (HKL.out (o.keys.take j)).2; rw [List.length_take] at h9; omega)
        have hnx := rend2_key r o hjC
        rw [HTT.out] at hnx
        rw [hnx] at LC
        have LC := Lib.hid LC
        generalize o.keys[j] = x at *
        clear hnx hjC
        go_wp2_with fail
        go_region_with (go_at_call 102; refine LC.out.mono ?_; rintro e w6 ⟨rfl, h6⟩; have H6 := Lib.hid (HR.out.trans (rto_under ((Chg.refl (fun _ => False) wr).drew) h6)); clear h6)
        all_goals
          go_wp2_with fail
          go_roundw
          case rel => exact ⟨j + 1, by go_num, by omega, H6⟩
          case measure => simp [intOf]; omega
      · have q1 : decide ((j : Int) < (K : Int)) = false := by simp; omega
        have hjK : j = K := by omega
        subst hjK
        have HRA := Lib.hid HR.out
        clear e0 HR1 HOB1 HA
        go_wp2_with fail
        generalize wr = w0 at *
        clear k3
        go_loopw [8] (fun s8 wr => ∃ i : Nat, s8 = .int .i64 i ∧ i ≤ N ∧ Hid (RTo W2 b F (rend2 r o j i) wr)) (fun s8 _ => N - (intOf s8).toNat)
        case atStart => exact ⟨0, rfl, Nat.zero_le _, HRA⟩
        case round =>
          obtain ⟨i, rfl, hi, HS⟩ := hrel
          clear HRA HR
          obtain ⟨R1, hr1⟩ := HS.out.is
          have hob1 := (HS.out.chg.block ob (Array.getElem?_eq_some_iff.1 HOB.out).1 (fun f => HNO.out (Or.inl f))).trans HOB.out
          have e0 : wr.cell? ⟨b, 0, none⟩ = some (.int .u64 (T : Nat)) := by have := cell_of hr1.box (i := 0) (v := .int .u64 ((r.time + 1 : Nat) : Int)) rfl; rw [HTT.out] at this; exact this
          have k4 : wr.cell? ⟨ob, 4, none⟩ = some (.slice l.no N l.nc) := by rw [← HNN.out]; exact cell_of hob1 rfl
          have HR1 := Lib.hid hr1
          clear hr1 hob1
          by_cases hin : i < N
          · have q2 : decide ((i : Int) < (N : Int)) = true := by simp; omega
            have hiC : i < o.needs.length := by rw [HNN.out]; exact hin
            obtain ⟨g, oo, hno, a1⟩ := HNEED.out wr HS.out.chg i hiC
            rw [hno] at k4
            clear hno
            have l0 : (0 : Int) ≤ i := by omega
            have l1 : (i : Int) < N := by omega
            have hcl := HCL.out (o.needs.take i)
            have LC := rseen_any (HR1.out.same (Chg.refl _ wr).drew) o.needs[i].1 T (show Ris lessB (rcomM (r.time + 1) (o.needs.take i) r.c) from hcl.1) (show (rcomM (r.time + 1) (o.needs.take i) r.c).length ≤ 1000000 from by have h9 := hcl.2.1; have := HFT.out.cl; have := HBB.out; rw [List.length_take] at h9; omega) (show ∀ p ∈ rcomM (r.time + 1) (o.needs.take i) r.c, p.2.length ≤ 1000000 from fun p hp => by have h9 := hcl.2.2 p hp; have := HBB.out; rw [List.length_take] at h9; omega)
            have hnx := rend2_need r o j hiC
            rw [HTT.out] at hnx
            rw [hnx] at LC
            have LC := Lib.hid LC
            generalize o.needs[i] = x at *
            obtain ⟨x, xt⟩ := x
            simp only at a1 LC
            clear hnx hiC hcl
            go_wp2_with fail
            go_region_with (go_at_call 103; refine LC.out.mono ?_; rintro e w6 ⟨rfl, h6⟩; have H6 := Lib.hid (HS.out.trans (rto_under ((Chg.refl (fun _ => False) wr).drew) h6)); clear h6)
            all_goals
              go_wp2_with fail
              go_roundw
              case rel => exact ⟨i + 1, by go_num, by omega, H6⟩
              case measure => simp [intOf]; omega
          · have q2 : decide ((i : Int) < (N : Int)) = false := by simp; omega
            have HEND := Lib.hid (rend2_end r o (i := j) (j := i) (by rw [HKK.out]; exact Nat.le_refl _) (by rw [HNN.out]; omega))
            have HAB9 := Lib.hid ((HS.out.chg.block ab (Array.getElem?_eq_some_iff.1 HAB.out).1 (fun f => HNF.out (Or.inl f))).trans HAB.out)
            have HT9 := HS.out
            rw [HEND.out, HTT.out] at HT9
            have HT9 := Lib.hid HT9
            clear HR1
            have z0 : wr.cell? ⟨ab, 0, none⟩ = some (.int .i64 0) := cell_of HAB9.out rfl
            have zf0 : wr.frozen? ⟨ab, 0, none⟩ = false := frozen_of HAB9.out
            have z1 : wr.cell? ⟨ab, 1, none⟩ = some (.int .u64 0) := cell_of HAB9.out rfl
            have zf1 : wr.frozen? ⟨ab, 1, none⟩ = false := frozen_of HAB9.out
            have z2 : wr.cell? ⟨ab, 2, none⟩ = some (.int .u64 0) := cell_of HAB9.out rfl
            have zf2 : wr.frozen? ⟨ab, 2, none⟩ = false := frozen_of HAB9.out
            have z3 : wr.cell? ⟨ab, 3, none⟩ = some (.string ⟨#[]⟩) := cell_of HAB9.out rfl
            have zf3 : wr.frozen? ⟨ab, 3, none⟩ = false := frozen_of HAB9.out
            have z4 : wr.cell? ⟨ab, 4, none⟩ = some (.int .u32 0) := cell_of HAB9.out rfl
            have zf4 : wr.frozen? ⟨ab, 4, none⟩ = false := frozen_of HAB9.out
            have z5 : wr.cell? ⟨ab, 5, none⟩ = some (.int .u32 0) := cell_of HAB9.out rfl
            have zf5 : wr.frozen? ⟨ab, 5, none⟩ = false := frozen_of HAB9.out
            have z6 : wr.cell? ⟨ab, 6, none⟩ = some (.int .u64 0) := cell_of HAB9.out rfl
            have zf6 : wr.frozen? ⟨ab, 6, none⟩ = false := frozen_of HAB9.out
            have z7 : wr.cell? ⟨ab, 7, none⟩ = some (.int .u64 0) := cell_of HAB9.out rfl
            have zf7 : wr.frozen? ⟨ab, 7, none⟩ = false := frozen_of HAB9.out
            go_wp2_with fail
            obtain ⟨hh, hk8⟩ := fin8 HAB9.out (.int .i64 0) (.int .u64 0) (.int .u64 (T : Nat)) (.string ⟨#[]⟩) (.int .u32 0) (.int .u32 0) (.int .u64 0) (.int .u64 0)
            refine bodyPost_ret (results_cell_row (p := 4) (ty := 46) rfl _ _ ab 46 _ (0, 0) _ rfl hh Tryz.underlying46 rfl (by kernel_rfl)) rfl ⟨rfl, ?_⟩
            exact RTo.box HT9.out hk8 HNF.out HC2.out HLE.out
end
end Go.Proofs.YtgmmglmokkcgeaaGreat
