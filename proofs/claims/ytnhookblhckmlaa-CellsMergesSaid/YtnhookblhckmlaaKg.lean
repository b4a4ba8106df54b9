/- Walks: the search for the first that goes; DeleteFunc; Trim. -/
import Derived.Test.YtnhookblhckmlaaKf
namespace Go.Proofs.Ytnhookblhckmlaa
open Go.RowKit Mk Go.Sort

theorem stGo_step {b : Nat} {s : TrS} {L : List CellM} {k : Nat} {x : CellM} (hx : L[k]? = some x) : stGo b s (L.take (k + 1)) = (trStep b (stGo b s (L.take k)) x).2 := by
  rw [List.take_add_one, hx, stGo_append]; rfl
theorem delGo_step {b : Nat} {s : TrS} {L : List CellM} {k : Nat} {x : CellM} (hx : L[k]? = some x) : delGo b s (L.take (k + 1)) = delGo b s (L.take k) ++ (if (trStep b (stGo b s (L.take k)) x).1 then [] else [x]) := by
  rw [List.take_add_one, hx, delGo_append]
  simp only [Option.toList, delGo]
def IdxPost (w : World) (b3 b7 b6 below : Nat) (s : TrS) (L : List CellM) (e : Ending) (w' : World) : Prop :=
  Chg (fun g => g = b6 ∨ g = b7) w w' ∧ ((∃ k x, L[k]? = some x ∧ (trStep below (stGo below s (L.take k)) x).1 = true ∧ delGo below s (L.take k) = L.take k ∧ e = .returned (.int .i64 (k : Nat)) ∧ TrAt w' b3 b7 b6 below (stGo below s (L.take (k + 1)))) ∨ (delGo below s L = L ∧ e = .returned (.int .i64 (-1)) ∧ TrAt w' b3 b7 b6 below (stGo below s L)))

set_option maxRecDepth 100000 in
set_option maxHeartbeats 2000000 in
theorem idx_any {w : World} {lv : Value} {L : List CellM} (h : Has w lv L) (hL : L.length ≤ 1099511627776) {b3 b7 b6 below : Nat} {s : TrS} (hT : TrAt w b3 b7 b6 below s) (hs : ∀ g, lv.ownBlock = some g → g ≠ b6 ∧ g ≠ b7) :
    Calls Try.prog 47 #[lv, .func (.func 37) #[] #[.pointer (some ⟨b3, 0, none⟩), .pointer (some ⟨b7, 0, none⟩), .pointer (some ⟨b6, 0, none⟩)]] w fun e w' => IdxPost w b3 b7 b6 below s L e w' := by
  obtain ⟨o, c, rfl⟩ := h.shape
  have HH := Lib.hid h
  have HT := Lib.hid hT
  have HS := Lib.hid hs
  have TR := Lib.hid (fun (w : World) (s : TrS) (h : TrAt w b3 b7 b6 below s) (x : CellM) => trim1_any h x)
  clear h hT hs
  go_enter Try.func47, Try.ntmps47
  go_wp2
  go_loopw [8] (fun i wr => ∃ k : Nat, k ≤ L.length ∧ i = .int .i64 k ∧ Hid (TrAt wr b3 b7 b6 below (stGo below s (L.take k)) ∧ Chg (fun g => g = b6 ∨ g = b7) w wr ∧ delGo below s (L.take k) = L.take k)) (fun i _ => L.length - (intOf i).toNat)
  case atStart => exact ⟨0, by omega, rfl, Lib.hid ⟨by simpa [stGo] using HT.out, Chg.refl _ _, by simp [delGo]⟩⟩
  case round =>
    obtain ⟨k, hk, rfl, HI⟩ := hrel
    have l0 : (0 : Int) ≤ k := by omega
    by_cases hlt : k < L.length
    · obtain ⟨x, hx⟩ : ∃ x, L[k]? = some x := ⟨L[k]'hlt, List.getElem?_eq_getElem hlt⟩
      have hst : Has wr (.slice o L.length c) L := sl.stay HH.out (fun g hg => HI.out.2.1.block g (sl.lt HH.out hg) (fun e => e.elim (HS.out g hg).1 (HS.out g hg).2))
      obtain ⟨g, cap, e, h0, h1, h2, h3⟩ := hst.cells hx
      cases e
      have C := TR.out wr _ HI.out.1 x
      have e1 := stGo_step (b := below) (s := s) hx
      have e2 := delGo_step (b := below) (s := s) hx
      have hkt : L.take (k + 1) = L.take k ++ [x] := by rw [List.take_add_one, hx]; rfl
      have l1 : (k : Int) < L.length := by omega
      have q : decide (k < L.length) = true := by simpa using hlt
      generalize hr : trStep below (stGo below s (L.take k)) x = r at *
      obtain ⟨rb, s'⟩ := r
      have HX := Lib.hid hx
      have HR := Lib.hid hr
      have HE1 := Lib.hid e1
      have HE2 := Lib.hid e2
      have HKT := Lib.hid hkt
      obtain ⟨xk, xt, xd, xv⟩ := x
      unfold cellV at C
      simp only at C h0 h1 h2 h3
      clear hx hr e1 e2 hkt hst
      cases rb
      · go_wp2_with fail
        refine C.mono ?_
        rintro e w3 ⟨rfl, hp⟩
        have HP := Lib.hid hp
        clear hp C
        go_wp2
        go_round
        case rel => exact ⟨k + 1, by omega, by go_num, Lib.hid ⟨by rw [HE1.out]; exact HP.out.1, HI.out.2.1.trans HP.out.2, by rw [HE2.out, HI.out.2.2, HKT.out]; rfl⟩⟩
        case measure => simp [intOf]; omega
      · go_wp2_with fail
        refine C.mono ?_
        rintro e w3 ⟨rfl, hp⟩
        have HP := Lib.hid hp
        clear hp C
        go_wp2
        go_ret
        exact ⟨HI.out.2.1.trans HP.out.2, Or.inl ⟨k, _, HX.out, by rw [HR.out], HI.out.2.2, rfl, by rw [HE1.out]; exact HP.out.1⟩⟩
    · obtain rfl : k = L.length := by omega
      have q : decide (L.length < L.length) = false := by simp
      go_wp2
      go_ret
      have h1 := HI.out.1
      have h2 := HI.out.2.2
      rw [List.take_length] at h1 h2
      exact ⟨HI.out.2.1, Or.inr ⟨h2, rfl, h1⟩⟩
end Go.Proofs.Ytnhookblhckmlaa
