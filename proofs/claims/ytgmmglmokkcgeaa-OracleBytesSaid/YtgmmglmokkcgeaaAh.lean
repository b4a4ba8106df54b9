/- Walks: have two lists a text in common? -/
import Derived.Test.YtgmmglmokkcgeaaAg
import Derived.Lib.SlicesS
namespace Go.Proofs.Ytgmmglmokkcgeaa
set_option linter.unusedVariables false
set_option linter.unusedSimpArgs false
open Go.RowKit Mk Go.Sort

open Classical in
noncomputable def clashM (a b : List ByteArray) : Bool := decide (∃ k ∈ a, k ∈ b)
open Classical in
theorem clash_yes {a b : List ByteArray} {x : ByteArray} (h1 : x ∈ a) (h2 : x ∈ b) : clashM a b = true := decide_eq_true ⟨x, h1, h2⟩
open Classical in
theorem clash_no {a b : List ByteArray} {j : Nat} (hj : a.length ≤ j) (h : ∀ x ∈ a.take j, x ∉ b) : clashM a b = false := by
  rw [List.take_of_length_le hj] at h
  exact decide_eq_false (fun ⟨x, h1, h2⟩ => h x h1 h2)
open Classical in
theorem clash_of {a b : List ByteArray} (h : clashM a b = true) : ∃ k ∈ a, k ∈ b := of_decide_eq_true h
theorem not_taken {b : List ByteArray} {P : ByteArray → Prop} {k : Nat} (hk : k < b.length) (h : ∀ y ∈ b.take k, P y) (h2 : P b[k]) : ∀ y ∈ b.take (k + 1), P y := by
  intro y hy
  rw [List.take_succ_eq_append_getElem hk] at hy
  rcases List.mem_append.1 hy with e | e
  · exact h y e
  · rw [List.mem_singleton] at e; subst e; exact h2
set_option maxRecDepth 100000 in
set_option maxHeartbeats 2000000 in
theorem clash_any {w : World} {ao bo : Option Addr} {an ac bn bc : Nat} {a b : List ByteArray} (ha : StrsAt w ao a) (hb : StrsAt w bo b) (hal : a.length = an) (hbl : b.length = bn) :
    Calls Try.prog 11 #[.slice ao an ac, .slice bo bn bc] w fun e w' => e = .returned (.bool (clashM a b)) ∧ Chg (fun _ => False) w w' := by
  have A := Lib.hid ha
  have B := Lib.hid hb
  have AL := Lib.hid hal
  have BL := Lib.hid hbl
  have la := ha.len
  have lb := hb.len
  rw [hal] at la
  rw [hbl] at lb
  clear ha hb hal hbl
  obtain ⟨Z, hZ⟩ : ∃ Z, clashM a b = Z := ⟨_, rfl⟩
  rw [hZ]
  have HZ := Lib.hid hZ
  clear hZ
  go_enter Try.func11, Try.ntmps11
  go_wp2
  go_loopw [5] (fun i wr => ∃ j : Nat, i = .int .i64 j ∧ j ≤ an ∧ Hid (Chg (fun _ => False) w wr) ∧ Hid (∀ x ∈ a.take j, x ∉ b)) (fun i _ => an - (intOf i).toNat)
  case atStart => exact ⟨0, rfl, by omega, Lib.hid (Chg.refl _ _), Lib.hid (by simp)⟩
  case round =>
    obtain ⟨j, rfl, hj, HC, HQ⟩ := hrel
    by_cases hlt : j < an
    · have hd : decide ((j : Int) < an) = true := decide_eq_true (by omega)
      have hja : j < a.length := by rw [AL.out]; exact hlt
      obtain ⟨g, o, rfl, hg, hc⟩ := A.out.cell j hja
      have HM := Lib.hid (List.getElem_mem hja)
      obtain ⟨x, hx⟩ : ∃ x, a[j] = x := ⟨_, rfl⟩
      rw [hx] at hc HM
      have l1 : (j : Int) < an := by omega
      have l0 : (0 : Int) ≤ j := by omega
      have HX := Lib.hid hx
      clear hx
      go_wp2
      go_loopw [6] (fun i wq => ∃ k : Nat, i = .int .i64 k ∧ k ≤ bn ∧ Hid (Chg (fun _ => False) w wq) ∧ Hid (∀ y ∈ b.take k, x ≠ y)) (fun i _ => bn - (intOf i).toNat)
      case atStart => exact ⟨0, rfl, by omega, HC, Lib.hid (by simp)⟩
      case round =>
        obtain ⟨k, rfl, hk, HC2, HQ2⟩ := hrel
        by_cases hkl : k < bn
        · have hd2 : decide ((k : Int) < bn) = true := decide_eq_true (by omega)
          have hkb : k < b.length := by rw [BL.out]; exact hkl
          obtain ⟨g2, o2, rfl, hg2, hc2⟩ := B.out.cell k hkb
          have HM2 := Lib.hid (List.getElem_mem hkb)
          obtain ⟨y, hy⟩ : ∃ y, b[k] = y := ⟨_, rfl⟩
          rw [hy] at hc2 HM2
          have l3 : (k : Int) < bn := by omega
          have l2 : (0 : Int) ≤ k := by omega
          have c0 := (World.cell?_of_block (a := ⟨g, o + j, none⟩) (HC2.out.block g hg (fun f => f))).trans hc
          have c1 := (World.cell?_of_block (a := ⟨g2, o2 + k, none⟩) (HC2.out.block g2 hg2 (fun f => f))).trans hc2
          have HY := Lib.hid hy
          clear hy
          by_cases hxy : x = y
          · subst hxy
            go_wp2
            go_region
            go_wp2
            go_ret
            exact ⟨by rw [← HZ.out, clash_yes HM.out HM2.out]; rfl, HC2.out.drew⟩
          · have d3 : (x.toList == y.toList) = false := (Go.Lib.bytes_beq_false_iff x y).2 hxy
            go_wp2
            go_region
            go_wp2
            go_round
            case rel => exact ⟨k + 1, by go_num, by omega, Lib.hid HC2.out.drew, Lib.hid (not_taken hkb HQ2.out (by rw [HY.out]; exact hxy))⟩
            case measure => simp [intOf]; omega
        · have hd2 : decide ((k : Int) < bn) = false := decide_eq_false (by omega)
          go_wp2
          go_round
          case rel => exact ⟨j + 1, by go_num, by omega, HC2, Lib.hid (not_taken hja HQ.out (by rw [HX.out]; intro hm; exact HQ2.out x (by rw [List.take_of_length_le (by rw [BL.out]; omega)]; exact hm) rfl))⟩
          case measure => simp [intOf]; omega
    · have hd : decide ((j : Int) < an) = false := decide_eq_false (by omega)
      obtain rfl : Z = false := by rw [← HZ.out]; exact clash_no (by rw [AL.out]; omega) HQ.out
      go_wp2
      go_ret
      exact ⟨rfl, HC.out⟩
end Go.Proofs.Ytgmmglmokkcgeaa
