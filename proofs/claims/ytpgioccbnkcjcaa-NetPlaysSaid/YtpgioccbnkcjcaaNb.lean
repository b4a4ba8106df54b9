/- Walks: NetBound, the other half. -/
import Derived.Test.YtpgioccbnkcjcaaNa
namespace Go.Proofs.Ytpgioccbnkcjcaa
open Go.RowKit Mk

structure BndAt (w : World) (b k : Nat) (wr : World) : Prop where
  net : NetIs wr b (fun g => w.heap.size ≤ g) ⟨msN 2 1 2, msgsB k⟩
  chg : Chg (fun _ => False) w wr

theorem BndAt.next {w w1 w2 : World} {b : Nat} {n : NetM} (hc1 : Chg (fun _ => False) w w1) (hn : NetIs w2 b (fun g => w.heap.size ≤ g ∨ w1.heap.size ≤ g) n) (hc : Chg (fun g => w.heap.size ≤ g) w1 w2) :
    NetIs w2 b (fun g => w.heap.size ≤ g) n ∧ Chg (fun _ => False) w w2 :=
  ⟨hn.wide (fun g h => by have := hc1.size; rcases h with a | a; exact a; omega), hc1.trans' hc (fun g h => Or.inr h)⟩

set_option maxRecDepth 100000 in
set_option maxHeartbeats 1000000 in
theorem walkNetBoundShort (more : Int) (w : World) : Calls Try.prog 3 #[.int .i64 more, .bool false] w fun e w' => e = .returned (.bool true) ∧ Chg (fun _ => False) w w' := by
  have hml := msN_len 2 1 2
  have B1 := Lib.hid (evB1 (msN 2 1 2) hml)
  have B2 := Lib.hid (evB2 (msN 2 1 2) hml)
  have B4 := Lib.hid (evB4 (msN 2 1 2) hml)
  obtain ⟨l5, hl5, hd5⟩ := evB5 (msN 2 1 2) hml
  have B5 := Lib.hid hd5
  have B6 := Lib.hid (evB6 (msN 2 1 2) hml l5 hl5)
  clear hml hl5 hd5
  go_enter Try.func3, Try.ntmps3
  go_wp2_with fail
  refine (new_any w 2 1 (by decide) (by decide) (by decide)).mono ?_
  rintro e w0 ⟨b, rfl, hn, hc⟩
  have HA0 : Hid (BndAt w b 0 w0) := Lib.hid ⟨hn, hc⟩
  clear hn hc
  go_wp2
  go_loopw [9] (fun i wr => ∃ k : Nat, k ≤ 16384 ∧ i = .int .i64 k ∧ Hid (BndAt w b k wr)) (fun i _ => 16384 - (intOf i).toNat)
  case atStart => exact ⟨0, by omega, rfl, HA0⟩
  case round =>
    obtain ⟨k, hk, rfl, HA⟩ := hrel
    by_cases hlt : k < 16384
    · have hd : decide ((k : Int) < 16384) = true := by simp; omega
      have ha := i64_and1 k
      have hi1 : i64 (1 + (k : Int) % 2) := by unfold i64; omega
      have HI := Lib.hid hi1
      have HL := Lib.hid hlt
      clear hi1
      obtain ⟨p, hp⟩ : ∃ p : Nat, (k : Int) % 2 = p := ⟨k % 2, by omega⟩
      have hp2 : p < 2 := by omega
      have HP := Lib.hid hp
      rw [hp] at ha
      clear hp
      go_wp2_with fail
      have HI2 := HI.out
      rw [HP.out] at HI2
      refine (send_is HA.out.net 1 (1 + (p : Int)) _ (by decide) HI2).mono ?_
      rintro e w1 ⟨rfl, hn, hc⟩
      have hE := B1.out k HL.out
      rw [HP.out] at hE
      rw [hE] at hn
      rw [hE]
      have HA1 : Hid (BndAt w b (k + 1) w1) := Lib.hid ⟨(BndAt.next HA.out.chg hn hc).1, (BndAt.next HA.out.chg hn hc).2⟩
      clear hn hc hE HI2 ha hp2
      go_wp2
      go_roundw
      case rel => exact ⟨k + 1, by omega, by go_num, HA1⟩
      case measure => simp [intOf]; omega
    · have hd : decide ((k : Int) < 16384) = false := by simp; omega
      have hkk : k = 16384 := by omega
      subst hkk
      clear hlt hk hd HA0
      go_wp2_with fail
      refine (send_is HA.out.net 2 1 _ (by decide) (by decide)).mono ?_
      rintro e w1 ⟨rfl, hn, hc⟩
      rw [B2.out ⟨#[120]⟩ (by decide) 2 1 (by decide)] at hn
      rw [B2.out ⟨#[120]⟩ (by decide) 2 1 (by decide)]
      have HN1 := Lib.hid (BndAt.next HA.out.chg hn hc)
      clear hn hc HA
      go_wp2_with fail
      refine (double_is HN1.out.1 1 1 0 (by decide) (by decide) (by decide)).mono ?_
      rintro e w2 ⟨rfl, hn, hc⟩
      rw [B4.out] at hn
      rw [B4.out]
      have HN2 := Lib.hid (BndAt.next HN1.out.2 hn hc)
      clear hn hc HN1
      go_wp2_with fail
      refine (drop_is HN2.out.1 1 1 0 (by decide) (by decide) (by decide)).mono ?_
      rintro e w3 ⟨rfl, hn, hc⟩
      rw [B5.out] at hn
      rw [B5.out]
      have HN3 := Lib.hid (BndAt.next HN2.out.2 hn hc)
      clear hn hc HN2
      go_wp2_with fail
      refine (send_is HN3.out.1 2 1 _ (by decide) (by decide)).mono ?_
      rintro e w4 ⟨rfl, hn, hc⟩
      rw [B6.out]
      have HN4 := Lib.hid (BndAt.next HN3.out.2 hn hc).2
      clear hn hc HN3
      go_wp2_with fail
      refine (alive_any w4).mono ?_
      rintro e w5 ⟨rfl, hc⟩
      have HN5 := Lib.hid (HN4.out.trans hc)
      clear hc HN4
      go_wp2
      go_ret
      exact ⟨rfl, HN5.out⟩

theorem walkNetBound (more : Int) (long : Bool) (hm : (Lit.int .i64 more).wf = true) (w : World) : Calls Try.prog 3 #[.int .i64 more, .bool long] w fun e w' => e = .returned (.bool true) ∧ Below w.heap.size w w' := by
  cases long
  · exact (walkNetBoundShort more w).mono (fun e w' h => ⟨h.1, h.2.below (fun _ h => h.elim) (Nat.le_refl _)⟩)
  · exact (walkNetBoundLong more (i64_of hm) w).mono (fun e w' h => ⟨h.1, h.2.below (fun _ h => h.elim) (Nat.le_refl _)⟩)
end Go.Proofs.Ytpgioccbnkcjcaa
