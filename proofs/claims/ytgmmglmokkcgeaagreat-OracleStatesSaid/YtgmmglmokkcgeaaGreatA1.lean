/- Walks: Pred. -/
import Derived.Test.YtgmmglmokkcgeaaGreatRows
import Derived.Test.YtgmmglmokkcgeaaGreatO2
import Derived.Test.YtgmmglmokkcgeaaGreatRange
import Derived.WalkSpells
import Derived.WalkLawsBesides
import Derived.Lib.Hide
import Derived.Lib.Strings
import Derived.Laws.RangeAny
namespace Go.Proofs.YtgmmglmokkcgeaaGreat
set_option linter.unusedVariables false
set_option linter.unusedSimpArgs false
open Go.RowKit Mk

theorem width_pos (s : ByteArray) (pos : Nat) (h : pos < s.size) : 1 ≤ (Utf8.decode s pos).2 := by
  by_cases ha : (s[pos]'h).toNat < 128
  · rw [decode_ascii s pos h ha]
    exact Nat.le_refl _
  · exact (decode_high s pos h (by omega)).2
theorem toList_get (s : ByteArray) (i : Nat) (h : i < s.size) : s.toList.drop i = s[i] :: s.toList.drop (i + 1) := by
  rw [Lib.toList_data]
  have h' : i < s.data.toList.length := by simpa using h
  rw [List.drop_eq_getElem_cons h']
  rfl
theorem head_get (s : ByteArray) (h : 0 < s.size) : ∃ l, s.toList = s[0] :: l := ⟨_, by have := toList_get s 0 h; simpa using this⟩

set_option maxRecDepth 100000 in
set_option maxHeartbeats 2000000 in
theorem pred_any (s : ByteArray) (w : World) :
    Calls Tryz.prog 70 #[.string s] w fun e w' => e = .returned (.int .i64 (if predOk s then 0 else 40)) ∧ Chg (fun _ => False) w w' := by
  obtain ⟨R, HR⟩ : ∃ R : Int, Hid ((if predOk s then 0 else 40) = R) := ⟨_, Lib.hid rfl⟩
  rw [HR.out]
  by_cases h1 : s.size < 1
  · have d1 : decide ((s.size : Int) < 1) = true := by simp; omega
    have : R = 40 := by rw [← HR.out]; unfold predOk; simp; omega
    subst this
    go_enter Tryz.func70, Tryz.ntmps70
    go_wp2
    go_ret
    exact ⟨rfl, Chg.refl _ _⟩
  · have d1 : decide ((s.size : Int) < 1) = false := by simp; omega
    by_cases h2 : 64 < s.size
    · have d2 : decide ((64 : Int) < s.size) = true := by simp; omega
      have : R = 40 := by rw [← HR.out]; unfold predOk; simp; omega
      subst this
      go_enter Tryz.func70, Tryz.ntmps70
      go_wp2
      go_ret
      exact ⟨rfl, Chg.refl _ _⟩
    · have d2 : decide ((64 : Int) < s.size) = false := by simp; omega
      have hs0 : 0 < s.size := by omega
      obtain ⟨l0, hl0⟩ := head_get s hs0
      obtain ⟨c0, hc0⟩ : ∃ c0, s[0].toNat = c0 := ⟨_, rfl⟩
      by_cases h3 : c0 < 97
      · have d3 : decide ((c0 : Int) < 97) = true := by simp; omega
        have : R = 40 := by rw [← HR.out]; unfold predOk; rw [hl0]; simp only [hc0]; simp; omega
        subst this
        clear hl0
        go_enter Tryz.func70, Tryz.ntmps70
        go_wp2
        go_ret
        exact ⟨rfl, Chg.refl _ _⟩
      · have d3 : decide ((c0 : Int) < 97) = false := by simp; omega
        by_cases h4 : 122 < c0
        · have d4 : decide ((122 : Int) < c0) = true := by simp; omega
          have : R = 40 := by rw [← HR.out]; unfold predOk; rw [hl0]; simp only [hc0]; simp; omega
          subst this
          clear hl0
          go_enter Tryz.func70, Tryz.ntmps70
          go_wp2
          go_ret
          exact ⟨rfl, Chg.refl _ _⟩
        · have d4 : decide ((122 : Int) < c0) = false := by simp; omega
          have HA : Hid (predOk s = s.toList.all chOk) := Lib.hid (by
            unfold predOk
            rw [hl0]
            simp only [hc0]
            have e1 : decide (1 ≤ s.size) = true := by simp; omega
            have e2 : decide (s.size ≤ 64) = true := by simp; omega
            have e3 : decide (97 ≤ c0) = true := by simp; omega
            have e4 : decide (c0 ≤ 122) = true := by simp; omega
            rw [e1, e2, e3, e4]; rfl)
          clear hl0
          go_enter Tryz.func70, Tryz.ntmps70
          go_wp2
          go_loopw [] (fun w' => ∃ pos : Nat, w' = w.iter s pos ∧ pos ≤ s.size ∧ Hid (s.toList.all chOk = (s.toList.drop pos).all chOk)) (fun w' => s.size - w'.iterPos w.heap.size)
          case atStart => exact ⟨0, rfl, by omega, Lib.hid (by simp)⟩
          case round =>
            obtain ⟨pos, rfl, hps, HP⟩ := hrel
            by_cases hp : pos < s.size
            · have hnx : ∀ ty, (Instr.next (.pointer (some ⟨w.heap.size, 0, none⟩)) true ty).run Tryz.prog (w.iter s pos) = _ := fun ty => run_next_any w s pos ty hp
              have hwd := width_pos s pos hp
              have hdr := toList_get s pos hp
              obtain ⟨r, hr⟩ : ∃ r, (Utf8.decode s pos).1 = r := ⟨_, rfl⟩
              obtain ⟨wd, hwd2⟩ : ∃ r, (Utf8.decode s pos).2 = r := ⟨_, rfl⟩
              have hcls : (chOk s[pos] = true ∧ wd = 1 ∧ (97 ≤ r ∧ r ≤ 122 ∨ 48 ≤ r ∧ r ≤ 57 ∨ r = 95 ∨ r = 46)) ∨ (chOk s[pos] = false ∧ (122 < r ∨ r < 46 ∨ r = 47 ∨ (58 ≤ r ∧ r ≤ 94) ∨ r = 96)) := by
                by_cases ha : (s[pos]'hp).toNat < 128
                · have e := decode_ascii s pos hp ha
                  rw [e] at hr hwd2
                  simp only at hr hwd2
                  unfold chOk
                  rw [hr]
                  simp only [Bool.or_eq_true, Bool.and_eq_true, decide_eq_true_eq, beq_iff_eq, Bool.or_eq_false_iff, Bool.and_eq_false_iff, decide_eq_false_iff_not, beq_eq_false_iff_ne]
                  omega
                · right
                  have hh := (decode_high s pos hp (by omega)).1
                  unfold chOk
                  refine ⟨?_, Or.inl (by omega)⟩
                  simp only [Bool.or_eq_false_iff, Bool.and_eq_false_iff, decide_eq_false_iff_not, beq_eq_false_iff_ne]
                  omega
              rw [hr, hwd2] at hnx
              rw [hwd2] at hwd
              have hall : (s.toList.drop pos).all chOk = (chOk s[pos] && (s.toList.drop (pos + 1)).all chOk) := by rw [hdr]; rfl
              have HALL := Lib.hid hall
              clear hall hdr hr hwd2
              rcases hcls with ⟨hk, hw1, hc⟩ | ⟨hk, hc⟩
              · subst hw1
                have HP2 : Hid (s.toList.all chOk = (s.toList.drop (pos + 1)).all chOk) := Lib.hid (by rw [HP.out, HALL.out, hk, Bool.true_and])
                rcases hc with ⟨ha, hb⟩ | ⟨ha, hb⟩ | ha | ha
                · have q1 : decide ((r : Int) < 97) = false := by simp; omega
                  have q2 : decide ((122 : Int) < r) = false := by simp; omega
                  go_wp2
                  go_roundw
                  case rel => exact ⟨pos + 1, rfl, by omega, HP2⟩
                  case measure => simp; omega
                · have q1 : decide ((r : Int) < 97) = true := by simp; omega
                  have q3 : decide ((r : Int) < 48) = false := by simp; omega
                  have q4 : decide ((57 : Int) < r) = false := by simp; omega
                  go_wp2
                  go_roundw
                  case rel => exact ⟨pos + 1, rfl, by omega, HP2⟩
                  case measure => simp; omega
                · have q1 : decide ((r : Int) < 97) = true := by simp; omega
                  have q3 : decide ((r : Int) < 48) = false := by simp; omega
                  have q4 : decide ((57 : Int) < r) = true := by simp; omega
                  have q5 : decide ((r : Int) = 95) = true := by simp; omega
                  have p5 : ((r : Int) != 95) = false := by simp; omega
                  go_wp2
                  go_roundw
                  case rel => exact ⟨pos + 1, rfl, by omega, HP2⟩
                  case measure => simp; omega
                · have q1 : decide ((r : Int) < 97) = true := by simp; omega
                  have q3 : decide ((r : Int) < 48) = true := by simp; omega
                  have q5 : decide ((r : Int) = 95) = false := by simp; omega
                  have p5 : ((r : Int) != 95) = true := by simp; omega
                  have q6 : decide ((r : Int) = 46) = true := by simp; omega
                  have p6 : ((r : Int) != 46) = false := by simp; omega
                  go_wp2
                  go_roundw
                  case rel => exact ⟨pos + 1, rfl, by omega, HP2⟩
                  case measure => simp; omega
              · have : R = 40 := by
                  rw [← HR.out, HA.out, HP.out, HALL.out, hk]
                  rfl
                subst this
                rcases hc with ha | ha | ha | ⟨ha, hb⟩ | ha
                · have q1 : decide ((r : Int) < 97) = false := by simp; omega
                  have q2 : decide ((122 : Int) < r) = true := by simp; omega
                  have q3 : decide ((r : Int) < 48) = false := by simp; omega
                  have q4 : decide ((57 : Int) < r) = true := by simp; omega
                  have q5 : decide ((r : Int) = 95) = false := by simp; omega
                  have p5 : ((r : Int) != 95) = true := by simp; omega
                  have q6 : decide ((r : Int) = 46) = false := by simp; omega
                  have p6 : ((r : Int) != 46) = true := by simp; omega
                  go_wp2
                  go_ret
                  exact ⟨rfl, (Chg.refl _ _).alloc _⟩
                · have q1 : decide ((r : Int) < 97) = true := by simp; omega
                  have q3 : decide ((r : Int) < 48) = true := by simp; omega
                  have q5 : decide ((r : Int) = 95) = false := by simp; omega
                  have p5 : ((r : Int) != 95) = true := by simp; omega
                  have q6 : decide ((r : Int) = 46) = false := by simp; omega
                  have p6 : ((r : Int) != 46) = true := by simp; omega
                  go_wp2
                  go_ret
                  exact ⟨rfl, (Chg.refl _ _).alloc _⟩
                · have q1 : decide ((r : Int) < 97) = true := by simp; omega
                  have q3 : decide ((r : Int) < 48) = true := by simp; omega
                  have q5 : decide ((r : Int) = 95) = false := by simp; omega
                  have p5 : ((r : Int) != 95) = true := by simp; omega
                  have q6 : decide ((r : Int) = 46) = false := by simp; omega
                  have p6 : ((r : Int) != 46) = true := by simp; omega
                  go_wp2
                  go_ret
                  exact ⟨rfl, (Chg.refl _ _).alloc _⟩
                · have q1 : decide ((r : Int) < 97) = true := by simp; omega
                  have q3 : decide ((r : Int) < 48) = false := by simp; omega
                  have q4 : decide ((57 : Int) < r) = true := by simp; omega
                  have q5 : decide ((r : Int) = 95) = false := by simp; omega
                  have p5 : ((r : Int) != 95) = true := by simp; omega
                  have q6 : decide ((r : Int) = 46) = false := by simp; omega
                  have p6 : ((r : Int) != 46) = true := by simp; omega
                  go_wp2
                  go_ret
                  exact ⟨rfl, (Chg.refl _ _).alloc _⟩
                · have q1 : decide ((r : Int) < 97) = true := by simp; omega
                  have q3 : decide ((r : Int) < 48) = false := by simp; omega
                  have q4 : decide ((57 : Int) < r) = true := by simp; omega
                  have q5 : decide ((r : Int) = 95) = false := by simp; omega
                  have p5 : ((r : Int) != 95) = true := by simp; omega
                  have q6 : decide ((r : Int) = 46) = false := by simp; omega
                  have p6 : ((r : Int) != 46) = true := by simp; omega
                  go_wp2
                  go_ret
                  exact ⟨rfl, (Chg.refl _ _).alloc _⟩
            · have hnx : ∀ ty, (Instr.next (.pointer (some ⟨w.heap.size, 0, none⟩)) true ty).run Tryz.prog (w.iter s pos) = _ := fun ty => run_next_end w s pos ty hp
              have : R = 0 := by
                rw [← HR.out, HA.out, HP.out, List.drop_of_length_le (by rw [Lib.toList_data]; simp; omega)]
                rfl
              subst this
              go_wp2
              go_ret
              exact ⟨rfl, (Chg.refl _ _).alloc _⟩
end Go.Proofs.YtgmmglmokkcgeaaGreat
