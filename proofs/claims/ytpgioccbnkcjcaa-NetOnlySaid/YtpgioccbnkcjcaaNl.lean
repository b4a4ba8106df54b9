/- Walks: NetOnly. -/
import Derived.Test.YtpgioccbnkcjcaaNk
namespace Go.Proofs.Ytpgioccbnkcjcaa
open Go.RowKit Mk

/-- Steps with their sides. -/
def sidesAt (w : World) (len : Nat) (f : Nat → StepV) : Prop := ∀ i, i < len → ∃ xs, xs.length = (f i).sl ∧ IntsAt w (f i).so xs

set_option maxRecDepth 100000 in
set_option maxHeartbeats 8000000 in
theorem only_any (w : World) (ao : Option Addr) (cap len : Nat) (f : Nat → StepV) (hv : stepsAt w (.slice ao len cap) len f) (hsd : sidesAt w len f) :
    Calls Try.prog 5 #[.slice ao len cap] w fun e w' => e = .returned (.bool true) ∧ Chg (fun _ => False) w w' := by
  have HV := Lib.hid hv
  have HSD := Lib.hid hsd
  have hlm : len ≤ 9223372036854775807 := hv.2.1
  have HN1 := Lib.hid (new_any w 3 1 (by decide) (by decide) (by decide))
  have hmm : ∀ v : World, (Instr.makeMap 40 none).run Try.prog v = .ok (.map (some v.heap.size)) (v.alloc (.map #[] 0)) := fun v => run_makeMap 40 v
  clear hv hsd
  go_enter Try.func5, Try.ntmps5
  go_wp2_with fail
  refine HN1.out.mono ?_
  rintro e w1 ⟨b, rfl, hn, hc⟩
  have H0 : Hid (St w b w1.heap.size (fun g => w.heap.size ≤ g ∧ g < w1.heap.size) (newM 3 1) [] (w1.alloc (.map #[] 0))) := by
    have c3 : Chg (fun _ => False) w1 (w1.alloc (.map #[] 0)) := (Chg.refl _ _).alloc _
    exact Lib.hid ⟨hn.tight.stay c3 (fun _ _ f => f), mapAt_made w1, fun g hg => ⟨hg.1, by omega, by simp; omega⟩, hc.size, hc.trans c3⟩
  clear hn hc HN1
  go_wp2
  clear hmm
  generalize w1.heap.size = r at *
  generalize (fun g => w.heap.size ≤ g ∧ g < r) = F0 at *
  generalize w1.alloc (.map #[] 0) = W1 at *
  go_loopw [6] (fun i wr => ∃ (k : Nat) (F : Nat → Prop) (n : NetM) (T : List (Pk × Nat)), k ≤ 100 ∧ k ≤ len ∧ i = .int .i64 k ∧ Hid (St w b r F n T wr) ∧ Hid (Cn n T)) (fun i _ => 100 - (intOf i).toNat)
  case atStart => exact ⟨0, _, _, _, by omega, by omega, rfl, H0, Lib.hid Cn.new⟩
  case round =>
    obtain ⟨k, F, n, T, k1, kl, rfl, HS, HC⟩ := hrel
    clear H0
    by_cases hlt : k < len
    · have hd : decide ((k : Int) < len) = true := by simp; omega
      by_cases h100 : k < 100
      · have hd2 : decide ((k : Int) < 100) = true := by simp; omega
        obtain ⟨g, o, rfl, hgs, c0, c1, c2, c3, c4, c5⟩ := HV.out.load hlt (fun g hg => HS.out.chg.block g hg (fun h => h))
        have hok := (HV.out.2.2 k hlt).1
        have ha := hok.a
        have hb := hok.b
        have hn := hok.n
        obtain ⟨xs, hxl, hxs⟩ := HSD.out k hlt
        generalize (f k).d = xd at *
        generalize (f k).a = xa at *
        generalize (f k).b = xb at *
        generalize (f k).n = xn at *
        generalize (f k).s = xt at *
        generalize (f k).so = so at *
        generalize (f k).sc = sc at *
        generalize (f k).sl = sln at *
        have hA := Lib.hid ha
        have hB := Lib.hid hb
        have hN := Lib.hid hn
        have HXL := Lib.hid hxl
        have HXS := Lib.hid hxs
        have hb0 : (0 : Int) ≤ k := by omega
        have hb1 : (k : Int) < len := by omega
        clear hok hxl hxs ha hb hn
        have H1 := Lib.hid (HS.out.same (W' := wr.alloc (.cells #[.int .i64 xd, .int .i64 xa, .int .i64 xb, .int .i64 xn, .string xt, .slice so sln sc] 35)) ((Chg.refl _ _).alloc _))
        have HBX := Lib.hid (Go.heap_alloc_new wr (.cells #[.int .i64 xd, .int .i64 xa, .int .i64 xb, .int .i64 xn, .string xt, .slice so sln sc] 35))
        have HBF := Lib.hid (HS.out.not (Nat.le_refl _))
        have HBL := Lib.hid (show wr.heap.size < (wr.alloc (.cells #[.int .i64 xd, .int .i64 xa, .int .i64 xb, .int .i64 xn, .string xt, .slice so sln sc] 35)).heap.size by simp)
        have HBR := Lib.hid (show wr.heap.size ≠ r by have := HS.out.map.lt; omega)
        by_cases e0 : xd = 0
        · subst e0
          go_wp2_with fail
          clear HS c0 c1 c2 c3 c4 c5; generalize wr.heap.size = B at *; generalize wr.alloc (.cells #[.int .i64 0, .int .i64 xa, .int .i64 xb, .int .i64 xn, .string xt, .slice so sln sc] 35) = W2 at *
          refine (H1.out.send xa xb xt hA.out hB.out).mono ?_
          rintro e w2 ⟨rfl, hs2, hc2⟩
          have hx2 := (hc2.block B HBL.out HBF.out).trans HBX.out
          by_cases ok : (sendM n xa xb xt).2 = 0
          · obtain ⟨hcn, hp⟩ := HC.out.sent ok
            rw [ok]
            have hle := HC.out.le H1.out.few (xa, xb, xt)
            obtain ⟨c, hc⟩ : ∃ c, (lk T (xa, xb, xt)).getD 0 = c := ⟨_, rfl⟩
            rw [hc] at hle hcn
            have hwr : IntKind.i64.wrap ((c : Int) + 1) = (c : Int) + 1 := by simp only [IntKind.wrap, IntKind.bits, IntKind.signed]; simp; omega
            have b1 : w2.cell? ⟨B, 1, none⟩ = some (.int .i64 xa) := cell_of hx2 (by simp)
            have b2 : w2.cell? ⟨B, 2, none⟩ = some (.int .i64 xb) := cell_of hx2 (by simp)
            have b4 : w2.cell? ⟨B, 4, none⟩ = some (.string xt) := cell_of hx2 (by simp)
            have hbr := HBR.out
            have HCN := Lib.hid hcn
            clear hcn HC H1 HBX hx2 hc2 ok
            go_wp2
            obtain ⟨st, o1, hl, hl2, hm, hs⟩ := hs2.bump hp
            obtain ⟨o2, he, hst⟩ := hs (c + 1)
            rw [hc] at hl hl2 hm
            unfold kvP at hl hl2 hm
            simp only at hl hl2 hm
            rw [show ((c + 1 : Nat) : Int) = (c : Int) + 1 from rfl] at he
            have HST := Lib.hid hst.1
            have HCG := Lib.hid hst.2
            clear hs hst
            go_region_held3 (fun v => v.cell? ⟨B, 1, none⟩ = some (.int .i64 xa) ∧ v.cell? ⟨B, 2, none⟩ = some (.int .i64 xb) ∧ v.cell? ⟨B, 4, none⟩ = some (.string xt)) (first | go_keep | (go_split_ands; refine ⟨?_, ?_, ?_⟩ <;> (rw [cell_setBlock (by assumption)]; first | assumption | go_keep)) | (go_split_ands; refine ⟨?_, ?_, ?_⟩ <;> assumption)) (fail)
            all_goals
              clear hl hl2 hm he b1 b2 b4 hp
              go_wp2
              go_round
              case rel => exact ⟨k + 1, _, _, _, by omega, by omega, by go_num, HST, HCN⟩
              case measure => simp [intOf]; omega
          · have HSN := Lib.hid hs2
            rw [send_bad ok] at HSN
            obtain ⟨c, hc⟩ : ∃ c, (sendM n xa xb xt).2 = c := ⟨_, rfl⟩
            rw [hc] at ok ⊢
            have hne : decide (c = 0) = false := by simpa using ok
            clear H1 HBX hx2 hc2 hc hs2
            go_wp2
            go_round
            case rel => exact ⟨k + 1, _, _, _, by omega, by omega, by go_num, HSN, HC⟩
            case measure => simp [intOf]; omega
        · have he0 : decide (xd = 0) = false := by simpa using e0
          by_cases e3 : xd = 3
          · subst e3
            go_wp2_with fail
            clear HS c0 c1 c2 c3 c4 c5; generalize wr.heap.size = B at *; generalize wr.alloc (.cells #[.int .i64 3, .int .i64 xa, .int .i64 xb, .int .i64 xn, .string xt, .slice so sln sc] 35) = W2 at *
            have d1 : W2.cell? ⟨B, 1, none⟩ = some (.int .i64 xa) := cell_of HBX.out (by simp)
            have d2 : W2.cell? ⟨B, 2, none⟩ = some (.int .i64 xb) := cell_of HBX.out (by simp)
            have d3 : W2.cell? ⟨B, 3, none⟩ = some (.int .i64 xn) := cell_of HBX.out (by simp)
            refine (H1.out.peek xa xb xn hA.out hB.out hN.out).mono ?_
            rintro e w2 ⟨rfl, rfl⟩
            go_wp2_with fail
            refine (H1.out.double xa xb xn hA.out hB.out hN.out).mono ?_
            rintro e w2 ⟨rfl, hs2, hc2⟩
            clear d1 d2 d3
            have hx2 := (hc2.block B HBL.out HBF.out).trans HBX.out
            by_cases ok : (doubleM n xa xb xn).2 = 0
            · obtain ⟨hpk, hdb⟩ := double_ok ok
              rw [hdb] at ok hs2 ⊢
              rw [hpk]
              obtain ⟨ps, hps⟩ : ∃ s, (peekM n xa xb xn).1 = s := ⟨_, rfl⟩
              rw [hps] at ok hs2 ⊢
              obtain ⟨hcn, hp⟩ := HC.out.sent ok
              rw [ok]
              have hle := HC.out.le H1.out.few (xa, xb, ps)
              obtain ⟨c, hc⟩ : ∃ c, (lk T (xa, xb, ps)).getD 0 = c := ⟨_, rfl⟩
              rw [hc] at hle hcn
              have hwr : IntKind.i64.wrap ((c : Int) + 1) = (c : Int) + 1 := by simp only [IntKind.wrap, IntKind.bits, IntKind.signed]; simp; omega
              have b1 : w2.cell? ⟨B, 1, none⟩ = some (.int .i64 xa) := cell_of hx2 (by simp)
              have b2 : w2.cell? ⟨B, 2, none⟩ = some (.int .i64 xb) := cell_of hx2 (by simp)
              have hbr := HBR.out
              have HCN := Lib.hid hcn
              clear hcn HC H1 HBX hx2 hc2 ok hpk hdb hps
              go_wp2
              obtain ⟨st, o1, hl, hl2, hm, hs⟩ := hs2.bump hp
              obtain ⟨o2, he, hst⟩ := hs (c + 1)
              rw [hc] at hl hl2 hm
              unfold kvP at hl hl2 hm
              simp only at hl hl2 hm
              rw [show ((c + 1 : Nat) : Int) = (c : Int) + 1 from rfl] at he
              have HST := Lib.hid hst.1
              have HCG := Lib.hid hst.2
              clear hs hst
              go_region_held3 (fun v => v.cell? ⟨B, 1, none⟩ = some (.int .i64 xa) ∧ v.cell? ⟨B, 2, none⟩ = some (.int .i64 xb)) (first | go_keep | (go_split_ands; refine ⟨?_, ?_⟩ <;> (rw [cell_setBlock (by assumption)]; first | assumption | go_keep)) | (go_split_ands; refine ⟨?_, ?_⟩ <;> assumption)) (fail)
              all_goals
                clear hl hl2 hm he b1 b2 hp
                go_wp2
                go_round
                case rel => exact ⟨k + 1, _, _, _, by omega, by omega, by go_num, HST, HCN⟩
                case measure => simp [intOf]; omega
            · have HSN := Lib.hid hs2
              rw [double_bad ok] at HSN
              obtain ⟨c, hc⟩ : ∃ c, (doubleM n xa xb xn).2 = c := ⟨_, rfl⟩
              rw [hc] at ok ⊢
              have hne : decide (c = 0) = false := by simpa using ok
              clear H1 HBX hx2 hc2 hc hs2
              generalize (peekM n xa xb xn).1 = p1
              generalize (peekM n xa xb xn).2 = p2
              go_wp2
              go_round
              case rel => exact ⟨k + 1, _, _, _, by omega, by omega, by go_num, HSN, HC⟩
              case measure => simp [intOf]; omega
          · have he3 : decide (xd = 3) = false := by simpa using e3
            by_cases e1 : xd = 1
            · subst e1
              go_wp2_with fail
              clear HS c0 c1 c2 c3 c4 c5; generalize wr.heap.size = B at *; generalize wr.alloc (.cells #[.int .i64 1, .int .i64 xa, .int .i64 xb, .int .i64 xn, .string xt, .slice so sln sc] 35) = W2 at *
              refine (H1.out.take xa xb xn hA.out hB.out hN.out).mono ?_
              rintro e w2 ⟨rfl, hs2, hc2⟩
              have hx2 := (hc2.block B HBL.out HBF.out).trans HBX.out
              have hB2 := Nat.lt_of_lt_of_le HBL.out hc2.size
              by_cases ok : (takeM n xa xb xn).2.2 = 0
              · obtain ⟨ps, m, htv, hp, hlk, hcn, hpt⟩ := HC.out.took ok
                have hle := HC.out.le H1.out.few (xa, xb, ps)
                rw [hlk] at hle
                rw [ok, htv]
                unfold kvP
                simp only
                have hs3 := hs2.same (W' := w2.alloc (.cells #[.int .i64 xa, .int .i64 xb, .string ps] 42)) ((Chg.refl _ _).alloc _)
                have hx3 := (Below.heap_alloc w2 (.cells #[.int .i64 xa, .int .i64 xb, .string ps] 42) _ hB2).trans hx2
                have hx4 := Go.heap_alloc_new w2 (.cells #[.int .i64 xa, .int .i64 xb, .string ps] 42)
                have hcr : w2.heap.size ≠ r := by have := hs2.map.lt; omega
                have hwr2 : IntKind.i64.wrap (m : Int) = (m : Int) := by simp only [IntKind.wrap, IntKind.bits, IntKind.signed]; simp; omega
                have hwr : IntKind.i64.wrap ((m : Int) + 1 - 1) = (m : Int) := by simp only [IntKind.wrap, IntKind.bits, IntKind.signed]; simp; omega
                have hbr := HBR.out
                have HCN := Lib.hid hcn
                have HPT := Lib.hid hpt
                have hc := hlk
                have a0 : (w2.alloc (.cells #[.int .i64 xa, .int .i64 xb, .string ps] 42)).cell? ⟨w2.heap.size, 0, none⟩ = some (.int .i64 xa) := cell_of hx4 (by simp)
                have a1 : (w2.alloc (.cells #[.int .i64 xa, .int .i64 xb, .string ps] 42)).cell? ⟨w2.heap.size, 1, none⟩ = some (.int .i64 xb) := cell_of hx4 (by simp)
                have a2 : (w2.alloc (.cells #[.int .i64 xa, .int .i64 xb, .string ps] 42)).cell? ⟨w2.heap.size, 2, none⟩ = some (.string ps) := cell_of hx4 (by simp)
                clear hcn HC H1 HBX hx2 hc2 ok htv hlk hpt
                go_wp2
                obtain ⟨st, o1, hl, hl2, hm, hs⟩ := hs3.bump hp
                obtain ⟨o2, he, hst⟩ := hs m
                rw [hc] at hl hl2 hm
                unfold kvP at hl hl2 hm
                simp only at hl hl2 hm
                rw [show ((m + 1 : Nat) : Int) = (m : Int) + 1 from rfl] at hl hl2 hm
                have HST := Lib.hid hst.1
                have HCG := Lib.hid hst.2
                clear hs hst
                go_region_held3 (fun v => v.cell? ⟨w2.heap.size, 0, none⟩ = some (.int .i64 xa) ∧ v.cell? ⟨w2.heap.size, 1, none⟩ = some (.int .i64 xb) ∧ v.cell? ⟨w2.heap.size, 2, none⟩ = some (.string ps)) (first | go_keep | (go_split_ands; refine ⟨?_, ?_, ?_⟩ <;> (rw [cell_setBlock (by assumption)]; first | assumption | go_keep)) | (go_split_ands; refine ⟨?_, ?_, ?_⟩ <;> assumption)) (fail)
                all_goals
                  clear hl hl2 hm he a0 a1 a2
                  have hlen3 : w2.heap.size < (w2.alloc (.cells #[.int .i64 xa, .int .i64 xb, .string ps] 42)).heap.size := by simp
                  have hy := (HCG.out.block w2.heap.size hlen3 hcr).trans hx4
                  have hz := (HCG.out.block B (by omega) hbr).trans hx3
                  have hlk := HST.out.look hp
                  rw [lk_upd_same] at hlk
                  simp only [Option.getD_some] at hlk
                  unfold kvP at hlk
                  simp only at hlk
                  clear hx3 hx4 hs3 hs2 hp
                  generalize ChangeMaps.setBlock (ChangeMaps.setBlock (w2.alloc (.cells #[.int .i64 xa, .int .i64 xb, .string ps] 42)).drew r o1) r o2 = V at *
                  have a0 : V.cell? ⟨w2.heap.size, 0, none⟩ = some (.int .i64 xa) := cell_of hy (by simp)
                  have a1 : V.cell? ⟨w2.heap.size, 1, none⟩ = some (.int .i64 xb) := cell_of hy (by simp)
                  have a2 : V.cell? ⟨w2.heap.size, 2, none⟩ = some (.string ps) := cell_of hy (by simp)
                  have b1 : V.cell? ⟨B, 1, none⟩ = some (.int .i64 xa) := cell_of hz (by simp)
                  have b2 : V.cell? ⟨B, 2, none⟩ = some (.int .i64 xb) := cell_of hz (by simp)
                  have hneg : decide ((m : Int) < 0) = false := by simp
                  clear hy hz HCG
                  go_wp2_with fail
                  refine (HST.out.parted xa xb hA.out hB.out).mono ?_
                  rintro e w3 ⟨rfl, hs4, hc4⟩
                  rw [HPT.out]
                  have HS4 := Lib.hid hs4
                  clear a0 a1 a2 b1 b2 hlk hs4 hc4 HST
                  go_wp2
                  go_round
                  case rel => exact ⟨k + 1, _, _, _, by omega, by omega, by go_num, HS4, HCN⟩
                  case measure => simp [intOf]; omega
              · rw [take_bad2 ok]
                unfold pkt
                have HSN := Lib.hid (hs2.same (W' := w2.alloc (.cells #[.int .i64 0, .int .i64 0, .string ⟨#[]⟩] 42)) ((Chg.refl _ _).alloc _))
                rw [take_bad ok] at HSN
                obtain ⟨c, hc⟩ : ∃ c, (takeM n xa xb xn).2.2 = c := ⟨_, rfl⟩
                rw [hc] at ok ⊢
                have hne : decide (c = 0) = false := by simpa using ok
                clear H1 HBX hx2 hc2 hc hs2
                go_wp2
                go_round
                case rel => exact ⟨k + 1, _, _, _, by omega, by omega, by go_num, HSN, HC⟩
                case measure => simp [intOf]; omega
            · have he1 : decide (xd = 1) = false := by simpa using e1
              by_cases e5 : xd = 5
              · subst e5
                go_wp2_with fail
                clear HS c0 c1 c2 c3 c4 c5; generalize wr.heap.size = B at *; generalize wr.alloc (.cells #[.int .i64 5, .int .i64 xa, .int .i64 xb, .int .i64 xn, .string xt, .slice so sln sc] 35) = W2 at *
                have HP := H1.out.part (sc := sc) HXS.out
                rw [HXL.out] at HP
                refine HP.mono ?_
                rintro e w2 ⟨⟨c, rfl⟩, hs2, hc2⟩
                have HSN := Lib.hid hs2
                have HCN := Lib.hid (HC.out.parted xs)
                clear hs2 hc2 HP H1 HBX
                go_wp2
                go_round
                case rel => exact ⟨k + 1, _, _, _, by omega, by omega, by go_num, HSN, HCN⟩
                case measure => simp [intOf]; omega
              · have he5 : decide (xd = 5) = false := by simpa using e5
                go_wp2
                go_round
                case rel => exact ⟨k + 1, _, _, _, by omega, by omega, by go_num, H1, HC⟩
                case measure => simp [intOf]; omega
      · have hk : k = 100 := by omega
        have hd2 : decide ((k : Int) < 100) = false := by simp; omega
        obtain ⟨rn, mb, L0, hnr⟩ := HS.out.net
        have hfew := HS.out.few
        go_wp2_with fail
        refine (waiting_any hnr).mono ?_
        rintro e w2 ⟨v, rfl, hpk⟩
        rw [HC.out.three] at hpk
        have HS2 := Lib.hid (HS.out.same (chg_below hpk.below))
        obtain ⟨h0, hgd⟩ := HC.out.outs
        have hle := out_le n.l hfew
        have hro : ∀ g, v.ownBlock = some g → g ≠ r := fun g hg e => by have := hpk.new g hg; have := HS.out.map.lt; omega
        have hsl := hpk.sl
        obtain ⟨wo, wc, rfl⟩ := hpk.shape2
        clear hpk hnr HC HS hfew
        generalize outL n.l 3 3 = Lw at *
        obtain ⟨ln, hln⟩ : ∃ ln, Lw.length = ln := ⟨_, rfl⟩
        have HLN := Lib.hid hln
        have HGD := Lib.hid hgd
        have HRO := Lib.hid hro
        have HCT := Lib.hid h0
        have HSL := Lib.hid hsl
        rw [hln] at hle
        rw [hln] at HSL HRO ⊢
        clear hgd hro h0 hsl hln
        go_wp2
        go_loopw [13] (fun i wq => ∃ (j : Nat) (T : List (Pk × Nat)), j ≤ ln ∧ i = .int .i64 j ∧ Hid (St w b r F n T wq) ∧ Hid (∀ p, (lk T p).getD 0 = ct p (Lw.drop j)) ∧ Hid (sl wq 42 3 (.slice wo ln wc) ln (Lw.flatMap pkc))) (fun i _ => ln - (intOf i).toNat)
        case atStart => exact ⟨0, T, by omega, rfl, HS2, HCT, HSL⟩
        case round =>
          obtain ⟨j, T, hj, rfl, HS3, HC3, HL3⟩ := hrel
          by_cases hlj : j < ln
          · have hdj : decide ((j : Int) < ln) = true := by simp; omega
            have hjl : j < Lw.length := by rw [HLN.out]; exact hlj
            obtain ⟨m, hc, hT2⟩ := left_next hjl HC3.out
            have hp := HGD.out _ (List.getElem_mem hjl)
            have hlm2 : m ≤ ln := by
              rw [HC3.out] at hc
              have := ct_le Lw[j] (Lw.drop j)
              rw [List.length_drop, HLN.out] at this
              omega
            have hwr : IntKind.i64.wrap (m : Int) = (m : Int) := by simp only [IntKind.wrap, IntKind.bits, IntKind.signed]; simp; omega
            have hg0 := pk_get Lw j hjl 0 (by omega)
            have hg1 := pk_get Lw j hjl 1 (by omega)
            have hg2 := pk_get Lw j hjl 2 (by omega)
            obtain ⟨⟨pa, pb, ps⟩, hpp⟩ : ∃ p, Lw[j] = p := ⟨_, rfl⟩
            rw [hpp] at hg0 hg1 hg2 hc hT2 hp
            simp only [pkc, Nat.add_zero, List.getElem?_cons_zero, List.getElem?_cons_succ] at hg0 hg1 hg2
            obtain ⟨wg, wc1, hv1, a0⟩ := HL3.out.cell hg0
            simp only [Value.slice.injEq] at hv1
            obtain ⟨rfl, -, rfl⟩ := hv1
            obtain ⟨wg1, wc2, hv2, a1⟩ := HL3.out.cell hg1
            simp only [Value.slice.injEq, Option.some.injEq, Addr.mk.injEq] at hv2
            obtain ⟨⟨rfl, -, -⟩, -, -⟩ := hv2
            obtain ⟨wg2, wc3, hv3, a2⟩ := HL3.out.cell hg2
            simp only [Value.slice.injEq, Option.some.injEq, Addr.mk.injEq] at hv3
            obtain ⟨⟨rfl, -, -⟩, -, -⟩ := hv3
            have hgr : wg ≠ r := HRO.out wg rfl
            have HT2 := Lib.hid hT2
            have q0 : (0 : Int) ≤ j := by omega
            have q1 : (j : Int) < ln := by omega
            clear hg0 hg1 hg2 hT2 hpp
            go_wp2
            obtain ⟨st, o1, hl, hl2, hm, hs⟩ := HS3.out.bump hp
            obtain ⟨o2, he, hst⟩ := hs m
            rw [hc] at hl hl2 hm
            unfold kvP at hl hl2 hm
            simp only at hl hl2 hm
            rw [show ((m + 1 : Nat) : Int) = (m : Int) + 1 from rfl] at hl hl2 hm
            have HST := Lib.hid hst.1
            have HCG := Lib.hid hst.2
            clear hs hst
            go_region_held3 (fun v => v.cell? ⟨wg, j * 3, none⟩ = some (.int .i64 pa) ∧ v.cell? ⟨wg, j * 3 + 1, none⟩ = some (.int .i64 pb) ∧ v.cell? ⟨wg, j * 3 + 2, none⟩ = some (.string ps)) (first | go_keep | (go_split_ands; refine ⟨?_, ?_, ?_⟩ <;> (rw [cell_setBlock (by assumption)]; first | assumption | go_keep)) | (go_split_ands; refine ⟨?_, ?_, ?_⟩ <;> assumption)) (fail)
            all_goals
              have HL4 := Lib.hid (HL3.out.stay (fun g hg => HCG.out.block g (HL3.out.lt hg) (HRO.out g hg)))
              clear hl hl2 hm he a0 a1 a2 HL3 HCG
              go_wp2
              go_round
              case rel => exact ⟨j + 1, _, by omega, by go_num, HST, HT2, HL4⟩
              case measure => simp [intOf]; omega
          · have hdj : decide ((j : Int) < ln) = false := by simp; omega
            have hz : ∀ p, (lk T p).getD 0 = 0 := fun p => by rw [HC3.out, List.drop_of_length_le (by rw [HLN.out]; omega)]; rfl
            have HZ := Lib.hid (fun x hx => vT_zero HS3.out.map.apart hz (x := x) hx)
            obtain ⟨it, hrg, hra⟩ := HS3.out.map.range (P := Try.prog) Try.underlying40
            obtain ⟨R, hR⟩ : ∃ R, wr.heap.size = R := ⟨_, rfl⟩
            rw [hR] at hrg hra
            have hRw : w.heap.size ≤ R := by rw [← hR]; exact HS3.out.chg.size
            have HC5 := Lib.hid (HS3.out.chg.trans ((Chg.refl _ wr).alloc it))
            have HU := Lib.hid hra
            clear hra hz HS3 HC3 HL3
            go_wp2
            go_loopw [] (fun wq => ∃ left : List (Pk × Value), Hid (Chg (fun _ => False) w wq) ∧ Hid (rangeAt okP kvP wq R r (vT T) left)) (fun wq => wq.rangeLeft r R)
            case atStart => exact ⟨_, HC5, HU⟩
            case round =>
              obtain ⟨left, HC6, HU6⟩ := hrel
              clear HC5 HU hrg
              rcases HU6.out.next (P := Try.prog) with ⟨h0, hnx⟩ | ⟨a, p, bb2, w9, h0, hnx, hcg, hsz, ho, hen⟩
              · have AL := Lib.hid (alive_any wr)
                clear HU6
                go_wp2_with fail
                refine AL.out.mono ?_
                rintro e w10 ⟨rfl, b10⟩
                have HF := Lib.hid (HC6.out.trans b10)
                clear b10
                go_wp2
                go_ret
                exact ⟨rfl, HF.out⟩
              · have hpm : p ∈ vT T := HU6.out.sub.subset (by rw [h0]; simp)
                have hv := HZ.out p hpm
                have hen' := hen w9 rfl rfl
                rw [hv] at hnx hen'
                unfold kvP at hnx hen'
                have H9 := Lib.hid (HC6.out.trans' hcg (fun g e => Or.inr (e ▸ hRw)))
                have HO2 := Lib.hid ho
                have H0 := Lib.hid h0
                clear hcg hsz ho hen h0 hpm hv
                go_wp2
                go_round
                case rel => exact ⟨_, H9, HO2⟩
                case measure => rw [HO2.out.left_eq, HU6.out.left_eq, H0.out]; simp
    · have hk : k = len := by omega
      have hd : decide ((k : Int) < len) = false := by simp; omega
      obtain ⟨rn, mb, L0, hnr⟩ := HS.out.net
      have hfew := HS.out.few
      go_wp2_with fail
      refine (waiting_any hnr).mono ?_
      rintro e w2 ⟨v, rfl, hpk⟩
      rw [HC.out.three] at hpk
      have HS2 := Lib.hid (HS.out.same (chg_below hpk.below))
      obtain ⟨h0, hgd⟩ := HC.out.outs
      have hle := out_le n.l hfew
      have hro : ∀ g, v.ownBlock = some g → g ≠ r := fun g hg e => by have := hpk.new g hg; have := HS.out.map.lt; omega
      have hsl := hpk.sl
      obtain ⟨wo, wc, rfl⟩ := hpk.shape2
      clear hpk hnr HC HS hfew
      generalize outL n.l 3 3 = Lw at *
      obtain ⟨ln, hln⟩ : ∃ ln, Lw.length = ln := ⟨_, rfl⟩
      have HLN := Lib.hid hln
      have HGD := Lib.hid hgd
      have HRO := Lib.hid hro
      have HCT := Lib.hid h0
      have HSL := Lib.hid hsl
      rw [hln] at hle
      rw [hln] at HSL HRO ⊢
      clear hgd hro h0 hsl hln
      go_wp2
      go_loopw [13] (fun i wq => ∃ (j : Nat) (T : List (Pk × Nat)), j ≤ ln ∧ i = .int .i64 j ∧ Hid (St w b r F n T wq) ∧ Hid (∀ p, (lk T p).getD 0 = ct p (Lw.drop j)) ∧ Hid (sl wq 42 3 (.slice wo ln wc) ln (Lw.flatMap pkc))) (fun i _ => ln - (intOf i).toNat)
      case atStart => exact ⟨0, T, by omega, rfl, HS2, HCT, HSL⟩
      case round =>
        obtain ⟨j, T, hj, rfl, HS3, HC3, HL3⟩ := hrel
        by_cases hlj : j < ln
        · have hdj : decide ((j : Int) < ln) = true := by simp; omega
          have hjl : j < Lw.length := by rw [HLN.out]; exact hlj
          obtain ⟨m, hc, hT2⟩ := left_next hjl HC3.out
          have hp := HGD.out _ (List.getElem_mem hjl)
          have hlm2 : m ≤ ln := by
            rw [HC3.out] at hc
            have := ct_le Lw[j] (Lw.drop j)
            rw [List.length_drop, HLN.out] at this
            omega
          have hwr : IntKind.i64.wrap (m : Int) = (m : Int) := by simp only [IntKind.wrap, IntKind.bits, IntKind.signed]; simp; omega
          have hg0 := pk_get Lw j hjl 0 (by omega)
          have hg1 := pk_get Lw j hjl 1 (by omega)
          have hg2 := pk_get Lw j hjl 2 (by omega)
          obtain ⟨⟨pa, pb, ps⟩, hpp⟩ : ∃ p, Lw[j] = p := ⟨_, rfl⟩
          rw [hpp] at hg0 hg1 hg2 hc hT2 hp
          simp only [pkc, Nat.add_zero, List.getElem?_cons_zero, List.getElem?_cons_succ] at hg0 hg1 hg2
          obtain ⟨wg, wc1, hv1, a0⟩ := HL3.out.cell hg0
          simp only [Value.slice.injEq] at hv1
          obtain ⟨rfl, -, rfl⟩ := hv1
          obtain ⟨wg1, wc2, hv2, a1⟩ := HL3.out.cell hg1
          simp only [Value.slice.injEq, Option.some.injEq, Addr.mk.injEq] at hv2
          obtain ⟨⟨rfl, -, -⟩, -, -⟩ := hv2
          obtain ⟨wg2, wc3, hv3, a2⟩ := HL3.out.cell hg2
          simp only [Value.slice.injEq, Option.some.injEq, Addr.mk.injEq] at hv3
          obtain ⟨⟨rfl, -, -⟩, -, -⟩ := hv3
          have hgr : wg ≠ r := HRO.out wg rfl
          have HT2 := Lib.hid hT2
          have q0 : (0 : Int) ≤ j := by omega
          have q1 : (j : Int) < ln := by omega
          clear hg0 hg1 hg2 hT2 hpp
          go_wp2
          obtain ⟨st, o1, hl, hl2, hm, hs⟩ := HS3.out.bump hp
          obtain ⟨o2, he, hst⟩ := hs m
          rw [hc] at hl hl2 hm
          unfold kvP at hl hl2 hm
          simp only at hl hl2 hm
          rw [show ((m + 1 : Nat) : Int) = (m : Int) + 1 from rfl] at hl hl2 hm
          have HST := Lib.hid hst.1
          have HCG := Lib.hid hst.2
          clear hs hst
          go_region_held3 (fun v => v.cell? ⟨wg, j * 3, none⟩ = some (.int .i64 pa) ∧ v.cell? ⟨wg, j * 3 + 1, none⟩ = some (.int .i64 pb) ∧ v.cell? ⟨wg, j * 3 + 2, none⟩ = some (.string ps)) (first | go_keep | (go_split_ands; refine ⟨?_, ?_, ?_⟩ <;> (rw [cell_setBlock (by assumption)]; first | assumption | go_keep)) | (go_split_ands; refine ⟨?_, ?_, ?_⟩ <;> assumption)) (fail)
          all_goals
            have HL4 := Lib.hid (HL3.out.stay (fun g hg => HCG.out.block g (HL3.out.lt hg) (HRO.out g hg)))
            clear hl hl2 hm he a0 a1 a2 HL3 HCG
            go_wp2
            go_round
            case rel => exact ⟨j + 1, _, by omega, by go_num, HST, HT2, HL4⟩
            case measure => simp [intOf]; omega
        · have hdj : decide ((j : Int) < ln) = false := by simp; omega
          have hz : ∀ p, (lk T p).getD 0 = 0 := fun p => by rw [HC3.out, List.drop_of_length_le (by rw [HLN.out]; omega)]; rfl
          have HZ := Lib.hid (fun x hx => vT_zero HS3.out.map.apart hz (x := x) hx)
          obtain ⟨it, hrg, hra⟩ := HS3.out.map.range (P := Try.prog) Try.underlying40
          obtain ⟨R, hR⟩ : ∃ R, wr.heap.size = R := ⟨_, rfl⟩
          rw [hR] at hrg hra
          have hRw : w.heap.size ≤ R := by rw [← hR]; exact HS3.out.chg.size
          have HC5 := Lib.hid (HS3.out.chg.trans ((Chg.refl _ wr).alloc it))
          have HU := Lib.hid hra
          clear hra hz HS3 HC3 HL3
          go_wp2
          go_loopw [] (fun wq => ∃ left : List (Pk × Value), Hid (Chg (fun _ => False) w wq) ∧ Hid (rangeAt okP kvP wq R r (vT T) left)) (fun wq => wq.rangeLeft r R)
          case atStart => exact ⟨_, HC5, HU⟩
          case round =>
            obtain ⟨left, HC6, HU6⟩ := hrel
            clear HC5 HU hrg
            rcases HU6.out.next (P := Try.prog) with ⟨h0, hnx⟩ | ⟨a, p, bb2, w9, h0, hnx, hcg, hsz, ho, hen⟩
            · have AL := Lib.hid (alive_any wr)
              clear HU6
              go_wp2_with fail
              refine AL.out.mono ?_
              rintro e w10 ⟨rfl, b10⟩
              have HF := Lib.hid (HC6.out.trans b10)
              clear b10
              go_wp2
              go_ret
              exact ⟨rfl, HF.out⟩
            · have hpm : p ∈ vT T := HU6.out.sub.subset (by rw [h0]; simp)
              have hv := HZ.out p hpm
              have hen' := hen w9 rfl rfl
              rw [hv] at hnx hen'
              unfold kvP at hnx hen'
              have H9 := Lib.hid (HC6.out.trans' hcg (fun g e => Or.inr (e ▸ hRw)))
              have HO2 := Lib.hid ho
              have H0 := Lib.hid h0
              clear hcg hsz ho hen h0 hpm hv
              go_wp2
              go_round
              case rel => exact ⟨_, H9, HO2⟩
              case measure => rw [HO2.out.left_eq, HU6.out.left_eq, H0.out]; simp
end Go.Proofs.Ytpgioccbnkcjcaa
