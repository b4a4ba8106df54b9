/- stands: both nets look the same. -/
import Derived.Test.YtpgioccbnkcjcaaQ1
import Derived.BigQuiet
namespace Go.Proofs.Ytpgioccbnkcjcaa
open Go.RowKit Mk
theorem midL_le (l : List Msg) (a k : Nat) : (midL l a k).length ≤ k * l.length := by
  induction k with
  | zero => simp [midL]
  | succ k ih =>
    rw [midL_succ, List.length_append, Nat.succ_mul]
    have := lkL_len l ((a : Int) + 1, (k : Int) + 1)
    omega
theorem outL_le (l : List Msg) (N k : Nat) : (outL l N k).length ≤ k * (N * l.length) := by
  induction k with
  | zero => simp [outL]
  | succ k ih =>
    rw [outL_succ, List.length_append, Nat.succ_mul]
    have := midL_le l k N
    omega
theorem out_le' (l : List Msg) {N : Nat} (hN : N ≤ 64) (h : l.length ≤ 16384) : (outL l N N).length ≤ 70000000 := by
  have h1 := outL_le l N N
  have h2 : N * (N * l.length) ≤ 64 * (64 * 16384) := Nat.mul_le_mul hN (Nat.mul_le_mul hN h)
  omega
theorem sl_packet {w : World} {lo : Option Addr} {n c : Nat} {Lw : List Pk} (h : sl w 42 3 (.slice lo n c) n (Lw.flatMap pkc)) {j : Nat} (hj : j < Lw.length) : ∃ g, lo = some ⟨g, 0, none⟩ ∧ w.cell? ⟨g, j * 3, none⟩ = some (.int .i64 Lw[j].1) ∧ w.cell? ⟨g, j * 3 + 1, none⟩ = some (.int .i64 Lw[j].2.1) ∧ w.cell? ⟨g, j * 3 + 2, none⟩ = some (.string Lw[j].2.2) := by
  have g0 := pk_get Lw j hj 0 (by omega)
  have g1 := pk_get Lw j hj 1 (by omega)
  have g2 := pk_get Lw j hj 2 (by omega)
  simp only [pkc, Nat.add_zero, List.getElem?_cons_zero, List.getElem?_cons_succ] at g0 g1 g2
  obtain ⟨g, cap, hv, a0⟩ := h.cell g0
  simp only [Value.slice.injEq] at hv
  obtain ⟨rfl, -, -⟩ := hv
  exact ⟨g, rfl, a0, h.at g1, h.at g2⟩
section
variable {w : World} {b r : Nat} {mb : MB} {L : List (Lnk × Value)} {Fa Fb : Nat → Prop} {n : NetM} {x : Nat} {R : Lay}
set_option maxRecDepth 100000 in
set_option maxHeartbeats 4000000 in
theorem stands_any (h : NetRep w b r mb L Fa n) (hx : RefRep w x R Fb n) :
    Calls Try.prog 24 #[.pointer (some ⟨b, 0, none⟩), .pointer (some ⟨x, 0, none⟩)] w fun e w' => e = .returned (.bool true) ∧ Chg (fun _ => False) w w' := by
  have H := Lib.hid (fun (v : World) (c : Chg (fun _ => False) w v) => h.stay c (fun _ _ f => f))
  have HX := Lib.hid (fun (v : World) (c : Chg (fun _ => False) w v) => hx.stay c (fun _ _ f => f))
  have hN := h.few.1
  have hle := out_le' n.l hN h.under
  have c0 := hx.c0
  have hxl := hx.lts.1
  obtain ⟨N, hNN⟩ : ∃ N, n.ms.length = N := ⟨_, rfl⟩
  have W1 := Lib.hid (waiting_any h)
  rw [hNN] at W1 c0 hN hle
  clear h hx
  go_enter Try.func24, Try.ntmps24
  go_wp2_with fail
  refine W1.out.mono ?_
  rintro e w1 ⟨v1, rfl, hp1⟩
  have C1 := chg_below hp1.below
  have W2 := rwaiting_any (HX.out w1 C1)
  rw [hNN] at W2
  go_wp2_with fail
  refine W2.mono ?_
  rintro e w2 ⟨v2, rfl, hp2⟩
  have C2 := C1.trans (chg_below hp2.below)
  have S1 := (hp1.stay (hp2.below)).sl
  have S2 := hp2.sl
  obtain ⟨lo1, lc1, rfl, -⟩ := sl_shape S1
  obtain ⟨lo2, lc2, rfl, -⟩ := sl_shape S2
  have c2 : w2.cell? ⟨x, 0, none⟩ = some (.int .i64 N) := (World.cell?_of_block (a := ⟨x, 0, none⟩) (C2.block x hxl (fun f => f))).trans c0
  clear W2 hp1 hp2 W1
  generalize outL n.l N N = Lw at *
  obtain ⟨ln, hln⟩ : ∃ ln, Lw.length = ln := ⟨_, rfl⟩
  rw [hln] at S1 S2 hle ⊢
  have HS1 := Lib.hid S1
  have HS2 := Lib.hid S2
  have HC2 := Lib.hid C2
  have HLN := Lib.hid hln
  have A := Lib.hid (fun m => nodes_any (H.out (w2.drewN m) (C2.trans (Chg.drewN w2 m))))
  rw [hNN] at A
  clear S1 S2 C2 C1 hln
  go_wp2_with fail
  go_quiet (first | (with_reducible refine (A.out _).mono ?_); exact (fun e w' h => ⟨h.1, _, h.2⟩))
  have HC3 := Lib.hid (HC2.out.trans (Chg.drewN w2 nq))
  have HT1 : Hid (sl (w2.drewN nq) 42 3 (.slice lo1 ln lc1) ln (Lw.flatMap pkc)) := Lib.hid (HS1.out.stay (fun g hg => (Chg.drewN w2 nq).block g (HS1.out.lt hg) (fun f => f)))
  have HT2 : Hid (sl (w2.drewN nq) 42 3 (.slice lo2 ln lc2) ln (Lw.flatMap pkc)) := Lib.hid (HS2.out.stay (fun g hg => (Chg.drewN w2 nq).block g (HS2.out.lt hg) (fun f => f)))
  clear HC2 HS1 HS2 A c2
  generalize w2.drewN nq = W3 at *
  clear nq w2
  go_wp2
  go_loopw [7] (fun i wq => ∃ j : Nat, j ≤ ln ∧ i = .int .i64 j ∧ Hid (Chg (fun _ => False) w wq) ∧ Hid (sl wq 42 3 (.slice lo1 ln lc1) ln (Lw.flatMap pkc)) ∧ Hid (sl wq 42 3 (.slice lo2 ln lc2) ln (Lw.flatMap pkc))) (fun i _ => ln - (intOf i).toNat)
  case atStart => exact ⟨0, by omega, rfl, HC3, HT1, HT2⟩
  case round =>
    obtain ⟨j, hj, rfl, HC4, HU1, HU2⟩ := hrel
    clear HC3 HT1 HT2
    by_cases hlj : j < ln
    · have hdj : decide ((j : Int) < ln) = true := by simp; omega
      have hjl : j < Lw.length := by rw [HLN.out]; exact hlj
      obtain ⟨ga, rfl, a0, a1, a2⟩ := sl_packet HU1.out hjl
      obtain ⟨gb, rfl, b0, b1, b2⟩ := sl_packet HU2.out hjl
      generalize Lw[j].1 = pa at *
      generalize Lw[j].2.1 = pb at *
      generalize Lw[j].2.2 = ps at *
      have q0 : (0 : Int) ≤ j := by omega
      have q1 : (j : Int) < ln := by omega
      have HC5 := Lib.hid (HC4.out.drew)
      have HV1 : Hid (sl wr.drew 42 3 (.slice (some ⟨ga, 0, none⟩) ln lc1) ln (Lw.flatMap pkc)) := HU1
      have HV2 : Hid (sl wr.drew 42 3 (.slice (some ⟨gb, 0, none⟩) ln lc2) ln (Lw.flatMap pkc)) := HU2
      clear hjl
      go_wp2
      go_region
      go_wp2
      go_roundw
      case rel => exact ⟨j + 1, by omega, by go_num, HC5, HV1, HV2⟩
      case measure => simp [intOf]; omega
    · have hdj : decide ((j : Int) < ln) = false := by simp; omega
      clear HU1 HU2
      go_wp2
      go_loopw [8] (fun i wq => ∃ j : Nat, j ≤ N + 2 ∧ i = .int .i64 j ∧ Hid (Chg (fun _ => False) w wq)) (fun i _ => N + 2 - (intOf i).toNat)
      case atStart => exact ⟨0, by omega, rfl, HC4⟩
      case round =>
        obtain ⟨a, ha, rfl, HC5⟩ := hrel
        clear HC4 hlj hdj hj HLN hle
        have cx : wr.cell? ⟨x, 0, none⟩ = some (.int .i64 N) := (World.cell?_of_block (a := ⟨x, 0, none⟩) (HC5.out.block x hxl (fun f => f))).trans c0
        by_cases hla : a ≤ N + 1
        · have hda : decide ((a : Int) ≤ (N : Int) + 1) = true := by simp; omega
          have hai : i64 (a : Int) := ⟨by omega, by omega⟩
          have T1 := Lib.hid (ticks_any (H.out wr HC5.out) a hai)
          have T2 := Lib.hid (rticks_any (HX.out wr HC5.out) a)
          generalize ticksM n (a : Int) = tk at T1 T2
          clear hai
          go_wp2_with fail
          refine T1.out.mono ?_
          rintro e w9 ⟨rfl, rfl⟩
          go_wp2_with fail
          refine T2.out.mono ?_
          rintro e w9 ⟨rfl, rfl⟩
          clear T1 T2
          go_wp2
          go_loopw [9] (fun i wq => ∃ j : Nat, j ≤ N + 2 ∧ i = .int .i64 j ∧ Hid (Chg (fun _ => False) w wq)) (fun i _ => N + 2 - (intOf i).toNat)
          case atStart => exact ⟨0, by omega, rfl, HC5⟩
          case round =>
            obtain ⟨k, hk, rfl, HC6⟩ := hrel
            clear HC5 cx
            have cx : wr.cell? ⟨x, 0, none⟩ = some (.int .i64 N) := (World.cell?_of_block (a := ⟨x, 0, none⟩) (HC6.out.block x hxl (fun f => f))).trans c0
            by_cases hlk : k ≤ N + 1
            · have hdk : decide ((k : Int) ≤ (N : Int) + 1) = true := by simp; omega
              have hai : i64 (a : Int) := ⟨by omega, by omega⟩
              have hki : i64 (k : Int) := ⟨by omega, by omega⟩
              have HAI := Lib.hid hai
              have HKI := Lib.hid hki
              have P1 := Lib.hid (parted_any (H.out wr HC6.out) a k hai hki)
              clear hai hki
              go_wp2_with fail
              refine P1.out.mono ?_
              rintro e w11 ⟨rfl, C11⟩
              have C11' := HC6.out.trans C11
              have P2 := Lib.hid (rparted_any (HX.out w11 C11') a k)
              have HC11 := Lib.hid C11'
              clear C11 C11' P1
              generalize partedM n.ms (a : Int) (k : Int) = pt at P2 ⊢
              go_wp2_with fail
              refine P2.out.mono ?_
              rintro e w12 ⟨rfl, C12⟩
              have C12' := HC11.out.trans C12
              have L1 := Lib.hid (len_any (H.out w12 C12') a k HAI.out HKI.out)
              have L2 := Lib.hid (rlen_any (HX.out w12 C12') a k)
              have HC12 := Lib.hid C12'
              clear C12 C12' P2
              generalize (q n.l ((a : Int), (k : Int))).length = ql at L1 L2
              cases pt
              · go_wp2_with fail
                refine L1.out.mono ?_
                rintro e w13 ⟨rfl, rfl⟩
                go_wp2_with fail
                refine L2.out.mono ?_
                rintro e w13 ⟨rfl, rfl⟩
                go_wp2
                go_roundw
                case rel => exact ⟨k + 1, by omega, by go_num, HC12⟩
                case measure => simp [intOf]; omega
              · go_wp2_with fail
                refine L1.out.mono ?_
                rintro e w13 ⟨rfl, rfl⟩
                go_wp2_with fail
                refine L2.out.mono ?_
                rintro e w13 ⟨rfl, rfl⟩
                go_wp2
                go_roundw
                case rel => exact ⟨k + 1, by omega, by go_num, HC12⟩
                case measure => simp [intOf]; omega
            · have hdk : decide ((k : Int) ≤ (N : Int) + 1) = false := by simp; omega
              go_wp2
              go_roundw
              case rel => exact ⟨a + 1, by omega, by go_num, HC6⟩
              case measure => simp [intOf]; omega
        · have hda : decide ((a : Int) ≤ (N : Int) + 1) = false := by simp; omega
          go_wp2
          go_ret
          exact ⟨rfl, HC5.out⟩
end
end Go.Proofs.Ytpgioccbnkcjcaa
