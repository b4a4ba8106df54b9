/- Walks: ApplyReads. -/
import Derived.Test.YtcaemfogknaioaaP3
import Derived.Test.YtcaemfogknaioaaP5
import Derived.Test.YtcaemfogknaioaaP8
namespace Go.Proofs.Ytcaemfogknaioaa
set_option linter.unusedVariables false
set_option linter.unusedSimpArgs false
open Go.RowKit Mk Go.Sort

theorem rises_seq : ∀ (C : List (Nat × Last)) (b : Nat), risesR b C → ∀ p ∈ C, okU p.2.1
  | [], b, h, p, hp => by simp at hp
  | q :: C, b, h, p, hp => by
    rcases List.mem_cons.1 hp with rfl | hp
    · exact h.2.2.1
    · exact rises_seq C _ h.2.2.2 p hp
set_option maxRecDepth 100000 in
set_option maxHeartbeats 8000000 in
theorem walkReads (s : ByteArray) (hs : s.size ≤ 140737488351232) (w : World) :
    Calls Try.prog 5 #[.string s] w fun e w' => e = .returned (.bool true) ∧ Chg (fun _ => False) w w' := by
  have A := Lib.hid alive_any
  by_cases hl : 65536 < s.size
  · have q1 : decide ((65536 : Int) < s.size) = true := by simp; omega
    go_enter Try.func5, Try.ntmps5
    go_wp2_with fail
    refine (A.out _).mono ?_
    rintro e w' ⟨rfl, hb⟩
    go_wp2_with fail
    go_ret
    exact ⟨rfl, chg_of_below hb⟩
  have q1 : decide ((65536 : Int) < s.size) = false := by simp; omega
  have R := Lib.hid (read_any s (by omega) w)
  have RR := Lib.hid (fun u => rread_any s (by omega) u)
  have HSZ := Lib.hid hl
  clear hl
  go_enter Try.func5, Try.ntmps5
  go_wp2_with fail
  refine R.out.mono ?_
  rintro e W1 ⟨hh, c1⟩
  rw [readL_eq] at hh
  have C1 := Lib.hid c1
  clear c1 R
  rcases hh with ⟨hn, rfl⟩ | ⟨m, b, hm, rfl, hlo⟩
  · have HN := Lib.hid hn
    clear hn
    go_wp2_with fail
    refine (RR.out _).mono ?_
    rintro e W2 ⟨hh, c2⟩
    rcases hh with ⟨-, rfl⟩ | ⟨m', b', hm', -⟩
    · have C2 := Lib.hid (C1.out.trans c2)
      clear c2
      go_wp2_with fail
      refine (A.out _).mono ?_
      rintro e w' ⟨rfl, hb⟩
      go_wp2_with fail
      go_ret
      exact ⟨rfl, C2.out.trans (chg_of_below hb)⟩
    · rw [HN.out] at hm'; cases hm'
  · have HM := Lib.hid hm
    have HLO := Lib.hid hlo
    clear hm hlo
    go_wp2_with fail
    refine (RR.out _).mono ?_
    rintro e W2 ⟨hh, c2⟩
    rcases hh with ⟨hn', -⟩ | ⟨m', b', hm', rfl, -⟩
    · rw [HM.out] at hn'; cases hn'
    · obtain ⟨i1, i2, i3⟩ := refL_back HM.out
      have hls := loopS_eq i2
      have hst : str (loopS m) = s := by rw [hls]; exact i1
      have hsz : (loopS m).length ≤ 1099511627776 := by
        have := congrArg ByteArray.size hst
        have h2 : (str (loopS m)).size = (loopS m).length := rfl
        have := HSZ.out
        omega
      have BY := Lib.hid (bytes_any (HLO.out.stay c2 (fun _ _ f => f)) (rises_seq _ _ i2) hsz)
      rw [hst] at BY
      have C2 := Lib.hid (C1.out.trans c2)
      clear i1 i2 i3 hls hst hsz hm' c2 HLO
      go_wp2_with fail
      refine BY.out.mono ?_
      rintro e W3 ⟨rfl, c3⟩
      have C3 := Lib.hid (C2.out.trans c3)
      clear c3 BY C2
      go_wp2_with fail
      refine (A.out _).mono ?_
      rintro e w' ⟨rfl, hb⟩
      go_wp2_with fail
      go_ret
      exact ⟨rfl, C3.out.trans (chg_of_below hb)⟩
theorem walkApplyReads (s : ByteArray) (hs : s.size ≤ 140737488351232) (w : World) :
    Calls Try.prog 5 #[.string s] w fun e w' => e = .returned (.bool true) ∧ Below w.heap.size w w' :=
  (walkReads s hs w).mono fun e w' h => ⟨h.1, below_of_chg h.2⟩
end Go.Proofs.Ytcaemfogknaioaa
