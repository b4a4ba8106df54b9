/- Walks: CodeFrames. -/
import Derived.Test.YtlpianjighhelaaDoorCg
namespace Go.Proofs.YtlpianjighhelaaDoor
open Go.RowKit Mk

theorem SS.shapeL {w : World} {L : List ByteArray} {v : Value} {wr : World} (H : SS w L v wr) : ∃ ao cap, v = .slice ao L.length cap := by
  rcases H.sl.2 with ⟨rfl, h⟩ | ⟨g, cap, cur, rfl, _⟩
  · exact ⟨none, 0, by rw [h]⟩
  · exact ⟨_, _, rfl⟩
theorem SS.at {w : World} {L : List ByteArray} {ao : Option Addr} {n cap : Nat} {wr : World} (H : SS w L (.slice ao n cap) wr) {k : Nat} (hk : k < L.length) : ∃ g, ao = some ⟨g, 0, none⟩ ∧ wr.cell? ⟨g, k, none⟩ = some (.string L[k]) := by
  obtain ⟨g, cap', e, h⟩ := H.sl.cell (i := k) (u := .string L[k]) (by rw [List.getElem?_map, List.getElem?_eq_getElem hk]; rfl)
  cases e
  exact ⟨g, rfl, h⟩

set_option maxRecDepth 100000 in
set_option maxHeartbeats 2000000 in
theorem walkCodeFrames (s : ByteArray) (m : Int) (w : World) (hs : s.size ≤ 1048576) (hm : MaxC m w) :
    Calls Tryd.prog 6 #[.string s] w fun e w' => e = .returned (.bool true) ∧ Below w.heap.size w w' := by
  have AL := Lib.hid (fun w hm => alive_any m w hm)
  have HM := Lib.hid hm
  have F1 := Lib.hid (frames_any s hs w)
  have F2 := Lib.hid (fun w => rframes_any s hs w)
  generalize (frames s).1 = L at *
  generalize (frames s).2.1 = u at *
  generalize (frames s).2.2 = er at *
  have c1 : ((u : Int) != u) = false := by simp
  have c2 : ((er : Int) != er) = false := by simp
  have c3 : ((L.length : Int) != L.length) = false := by simp
  clear hm hs
  go_enter Tryd.func6, Tryd.ntmps6
  go_wp2_with fail
  refine F1.out.mono ?_
  rintro e w1 ⟨v1, rfl, h1⟩
  obtain ⟨ao1, cap1, rfl⟩ := h1.shapeL
  have H1 := Lib.hid h1
  clear h1
  go_wp2_with fail
  refine (F2.out _).mono ?_
  rintro e w2 ⟨v2, rfl, h2⟩
  obtain ⟨ao2, cap2, rfl⟩ := h2.shapeL
  have H2 := Lib.hid (show SS w L (.slice ao2 L.length cap2) w2 from ⟨h2.sl, H1.out.below.trans (h2.below.mono H1.out.below.size), fun g hg => Nat.le_trans H1.out.below.size (h2.new g hg)⟩)
  have H3 := Lib.hid (H1.out.stay h2.below)
  clear h2 F1 F2 H1
  have hNb : L.length ≤ 9223372036854775807 := by have := H2.out.sl.le; simpa [maxLen] using this
  obtain ⟨N, hN⟩ : ∃ N, L.length = N := ⟨_, rfl⟩
  rw [hN] at c3 H2 H3 hNb
  rw [hN]
  have HN := Lib.hid hN
  clear hN
  go_wp2
  go_loopw [9] (fun i wr => ∃ k : Nat, k ≤ N ∧ i = .int .i64 k ∧ Hid (SS w L (.slice ao1 N cap1) wr ∧ SS w L (.slice ao2 N cap2) wr)) (fun i _ => N - (intOf i).toNat)
  case atStart => exact ⟨0, by omega, rfl, Lib.hid ⟨H3.out, H2.out⟩⟩
  case round =>
    obtain ⟨k, hk, rfl, HS⟩ := hrel
    by_cases hlt : k < N
    · have hd : decide (k < N) = true := by simpa using hlt
      obtain ⟨g1, e1, x1⟩ := HS.out.1.at (k := k) (by rw [HN.out]; exact hlt)
      obtain ⟨g2, e2, x2⟩ := HS.out.2.at (k := k) (by rw [HN.out]; exact hlt)
      subst e1
      subst e2
      generalize L[k]'(by rw [HN.out]; exact hlt) = t at *
      have d1 : (t.toList == t.toList) = true := by simp
      have l1 : (k : Int) < N := by omega
      have l0 : (0 : Int) ≤ k := by omega
      go_wp2
      go_quiet (fail)
      go_wp2
      go_round
      case rel => exact ⟨k + 1, by omega, by go_num, Lib.hid ⟨HS.out.1.stay (below_drewN _ _), HS.out.2.stay (below_drewN _ _)⟩⟩
      case measure => simp [intOf]; omega
    · have hd : decide (k < N) = false := by simpa using hlt
      have B := Lib.hid HS.out.1.below
      go_wp2_with fail
      refine (AL.out _ (HM.out.stay B.out HM.out.lt)).mono ?_
      rintro e w3 ⟨rfl, hb3⟩
      have B3 := Lib.hid (B.out.trans (hb3.mono B.out.size))
      clear hb3
      go_wp2
      go_ret
      exact ⟨rfl, B3.out⟩
end Go.Proofs.YtlpianjighhelaaDoor
