/- Walks: the document's Pred, keys, needs. -/
import Derived.Test.YtgmmglmokkcgeaaGreatA3
import Derived.BigQuiet
namespace Go.Proofs.YtgmmglmokkcgeaaGreat
set_option linter.unusedVariables false
set_option linter.unusedSimpArgs false
open Go.RowKit Mk Go.Sort

set_option maxRecDepth 100000 in
set_option maxHeartbeats 4000000 in
theorem rpred_any (s : ByteArray) (w : World) :
    Calls Tryz.prog 96 #[.string s] w fun e w' => e = .returned (.bool (predOk s)) ∧ w' = w := by
  obtain ⟨R, HR⟩ : ∃ R : Bool, Hid (predOk s = R) := ⟨_, Lib.hid rfl⟩
  rw [HR.out]
  by_cases h1 : s.size < 1
  · have d1 : decide ((s.size : Int) < 1) = true := by simp; omega
    have : R = false := by rw [← HR.out]; unfold predOk; simp; omega
    subst this
    go_enter Tryz.func96, Tryz.ntmps96
    go_wp2
    go_ret
    exact ⟨rfl, rfl⟩
  · have d1 : decide ((s.size : Int) < 1) = false := by simp; omega
    by_cases h2 : 64 < s.size
    · have d2 : decide ((64 : Int) < s.size) = true := by simp; omega
      have : R = false := by rw [← HR.out]; unfold predOk; simp; omega
      subst this
      go_enter Tryz.func96, Tryz.ntmps96
      go_wp2
      go_ret
      exact ⟨rfl, rfl⟩
    · have d2 : decide ((64 : Int) < s.size) = false := by simp; omega
      have hs0 : 0 < s.size := by omega
      obtain ⟨l0, hl0⟩ := head_get s hs0
      obtain ⟨c0, hc0⟩ : ∃ c0, s[0].toNat = c0 := ⟨_, rfl⟩
      by_cases h3 : c0 < 97
      · have d3 : decide ((c0 : Int) < 97) = true := by simp; omega
        have : R = false := by rw [← HR.out]; unfold predOk; rw [hl0]; simp only [hc0]; simp; omega
        subst this
        clear hl0
        go_enter Tryz.func96, Tryz.ntmps96
        go_wp2
        go_ret
        exact ⟨rfl, rfl⟩
      · have d3 : decide ((c0 : Int) < 97) = false := by simp; omega
        by_cases h4 : 122 < c0
        · have d4 : decide ((122 : Int) < c0) = true := by simp; omega
          have : R = false := by rw [← HR.out]; unfold predOk; rw [hl0]; simp only [hc0]; simp; omega
          subst this
          clear hl0
          go_enter Tryz.func96, Tryz.ntmps96
          go_wp2
          go_ret
          exact ⟨rfl, rfl⟩
        · have d4 : decide ((122 : Int) < c0) = false := by simp; omega
          have HA : Hid (predOk s = (s.data.toList.drop 0).all chOk) := Lib.hid (by
            unfold predOk
            rw [List.drop_zero, ← Lib.toList_data, hl0]
            simp only [hc0]
            have e1 : decide (1 ≤ s.size) = true := by simp; omega
            have e2 : decide (s.size ≤ 64) = true := by simp; omega
            have e3 : decide (97 ≤ c0) = true := by simp; omega
            have e4 : decide (c0 ≤ 122) = true := by simp; omega
            rw [e1, e2, e3, e4]; rfl)
          clear hl0
          go_enter Tryz.func96, Tryz.ntmps96
          go_wp2
          go_loop [3] (fun i => ∃ k : Nat, k ≤ s.size ∧ i = .int .i64 k ∧ Hid (predOk s = (s.data.toList.drop k).all chOk)) (fun i => s.size - (intOf i).toNat)
          case atStart => exact ⟨0, by omega, rfl, HA⟩
          case round =>
            obtain ⟨k, hk, rfl, HP⟩ := hrel
            clear HA
            by_cases hlt : k < s.size
            · have hdr : s.data.toList.drop k = s[k] :: s.data.toList.drop (k + 1) := by
                have h' : k < s.data.toList.length := by simpa using hlt
                rw [List.drop_eq_getElem_cons h']; rfl
              have hP := HP.out
              rw [hdr, List.all_cons] at hP
              have HP2 := Lib.hid hP
              have q : decide ((k : Int) < s.size) = true := by simp; omega
              have q' : decide (k < s.size) = true := by simpa using hlt
              obtain ⟨c, hc⟩ : ∃ c, s[k].toNat = c := ⟨_, rfl⟩
              have HCH := Lib.hid (show chOk s[k] = ((decide (97 ≤ c) && decide (c ≤ 122)) || (decide (48 ≤ c) && decide (c ≤ 57)) || c == 95 || c == 46) by unfold chOk; rw [hc])
              have hcl : c < 256 := by rw [← hc]; exact s[k].toNat_lt
              clear hP hdr HP
              have hcase : (c < 46) ∨ (c = 46) ∨ (c = 47) ∨ (48 ≤ c ∧ c ≤ 57) ∨ (58 ≤ c ∧ c ≤ 94) ∨ (c = 95) ∨ (c = 96) ∨ (97 ≤ c ∧ c ≤ 122) ∨ (123 ≤ c) := by omega
              rcases hcase with h | h | h | h | h | h | h | h | h
              · have f1 : decide ((c : Int) < 97) = true := by simp; omega
                have f2 : decide ((122 : Int) < c) = false := by simp; omega
                have f3 : decide ((c : Int) < 48) = true := by simp; omega
                have f4 : decide ((57 : Int) < c) = false := by simp; omega
                have f5 : ((c : Int) == 95) = false := by rw [beq_eq_false_iff_ne]; omega
                have f6 : ((c : Int) == 46) = false := by rw [beq_eq_false_iff_ne]; omega
                have g5 : ((c : Int) != 95) = true := by simp; omega
                have g6 : ((c : Int) != 46) = true := by simp; omega
                have n1 : decide (c < 97) = true := by simp; omega
                have n2 : decide (122 < c) = false := by simp; omega
                have n3 : decide (c < 48) = true := by simp; omega
                have n4 : decide (57 < c) = false := by simp; omega
                have n5 : (c == 95) = false := by rw [beq_eq_false_iff_ne]; omega
                have n6 : (c == 46) = false := by rw [beq_eq_false_iff_ne]; omega
                have g5 : (c != 95) = true := by simp; omega
                have g6 : (c != 46) = true := by simp; omega
                have hcb : ((decide (97 ≤ c) && decide (c ≤ 122)) || (decide (48 ≤ c) && decide (c ≤ 57)) || c == 95 || c == 46) = false := by simp; omega
                have : R = false := by rw [← HR.out, HP2.out, HCH.out, hcb, Bool.false_and]
                subst this
                clear h HP2 HCH hcl hcb
                go_wp2
                go_ret
                exact ⟨rfl, rfl⟩
              · have f1 : decide ((c : Int) < 97) = true := by simp; omega
                have f2 : decide ((122 : Int) < c) = false := by simp; omega
                have f3 : decide ((c : Int) < 48) = true := by simp; omega
                have f4 : decide ((57 : Int) < c) = false := by simp; omega
                have f5 : ((c : Int) == 95) = false := by rw [beq_eq_false_iff_ne]; omega
                have f6 : ((c : Int) == 46) = true := by rw [beq_iff_eq]; omega
                have g5 : ((c : Int) != 95) = true := by simp; omega
                have g6 : ((c : Int) != 46) = false := by simp; omega
                have n1 : decide (c < 97) = true := by simp; omega
                have n2 : decide (122 < c) = false := by simp; omega
                have n3 : decide (c < 48) = true := by simp; omega
                have n4 : decide (57 < c) = false := by simp; omega
                have n5 : (c == 95) = false := by rw [beq_eq_false_iff_ne]; omega
                have n6 : (c == 46) = true := by rw [beq_iff_eq]; omega
                have g5 : (c != 95) = true := by simp; omega
                have g6 : (c != 46) = false := by simp; omega
                have hcb : ((decide (97 ≤ c) && decide (c ≤ 122)) || (decide (48 ≤ c) && decide (c ≤ 57)) || c == 95 || c == 46) = true := by simp; omega
                have HN : Hid (predOk s = (s.data.toList.drop (k + 1)).all chOk) := Lib.hid (by rw [HP2.out, HCH.out, hcb, Bool.true_and])
                clear h HP2 HCH hcl hcb
                go_wp2
                go_round
                case rel => exact ⟨k + 1, by omega, by go_num, HN⟩
                case measure => simp [intOf]; omega
              · have f1 : decide ((c : Int) < 97) = true := by simp; omega
                have f2 : decide ((122 : Int) < c) = false := by simp; omega
                have f3 : decide ((c : Int) < 48) = true := by simp; omega
                have f4 : decide ((57 : Int) < c) = false := by simp; omega
                have f5 : ((c : Int) == 95) = false := by rw [beq_eq_false_iff_ne]; omega
                have f6 : ((c : Int) == 46) = false := by rw [beq_eq_false_iff_ne]; omega
                have g5 : ((c : Int) != 95) = true := by simp; omega
                have g6 : ((c : Int) != 46) = true := by simp; omega
                have n1 : decide (c < 97) = true := by simp; omega
                have n2 : decide (122 < c) = false := by simp; omega
                have n3 : decide (c < 48) = true := by simp; omega
                have n4 : decide (57 < c) = false := by simp; omega
                have n5 : (c == 95) = false := by rw [beq_eq_false_iff_ne]; omega
                have n6 : (c == 46) = false := by rw [beq_eq_false_iff_ne]; omega
                have g5 : (c != 95) = true := by simp; omega
                have g6 : (c != 46) = true := by simp; omega
                have hcb : ((decide (97 ≤ c) && decide (c ≤ 122)) || (decide (48 ≤ c) && decide (c ≤ 57)) || c == 95 || c == 46) = false := by simp; omega
                have : R = false := by rw [← HR.out, HP2.out, HCH.out, hcb, Bool.false_and]
                subst this
                clear h HP2 HCH hcl hcb
                go_wp2
                go_ret
                exact ⟨rfl, rfl⟩
              · have f1 : decide ((c : Int) < 97) = true := by simp; omega
                have f2 : decide ((122 : Int) < c) = false := by simp; omega
                have f3 : decide ((c : Int) < 48) = false := by simp; omega
                have f4 : decide ((57 : Int) < c) = false := by simp; omega
                have f5 : ((c : Int) == 95) = false := by rw [beq_eq_false_iff_ne]; omega
                have f6 : ((c : Int) == 46) = false := by rw [beq_eq_false_iff_ne]; omega
                have g5 : ((c : Int) != 95) = true := by simp; omega
                have g6 : ((c : Int) != 46) = true := by simp; omega
                have n1 : decide (c < 97) = true := by simp; omega
                have n2 : decide (122 < c) = false := by simp; omega
                have n3 : decide (c < 48) = false := by simp; omega
                have n4 : decide (57 < c) = false := by simp; omega
                have n5 : (c == 95) = false := by rw [beq_eq_false_iff_ne]; omega
                have n6 : (c == 46) = false := by rw [beq_eq_false_iff_ne]; omega
                have g5 : (c != 95) = true := by simp; omega
                have g6 : (c != 46) = true := by simp; omega
                have hcb : ((decide (97 ≤ c) && decide (c ≤ 122)) || (decide (48 ≤ c) && decide (c ≤ 57)) || c == 95 || c == 46) = true := by simp; omega
                have HN : Hid (predOk s = (s.data.toList.drop (k + 1)).all chOk) := Lib.hid (by rw [HP2.out, HCH.out, hcb, Bool.true_and])
                clear h HP2 HCH hcl hcb
                go_wp2
                go_round
                case rel => exact ⟨k + 1, by omega, by go_num, HN⟩
                case measure => simp [intOf]; omega
              · have f1 : decide ((c : Int) < 97) = true := by simp; omega
                have f2 : decide ((122 : Int) < c) = false := by simp; omega
                have f3 : decide ((c : Int) < 48) = false := by simp; omega
                have f4 : decide ((57 : Int) < c) = true := by simp; omega
                have f5 : ((c : Int) == 95) = false := by rw [beq_eq_false_iff_ne]; omega
                have f6 : ((c : Int) == 46) = false := by rw [beq_eq_false_iff_ne]; omega
                have g5 : ((c : Int) != 95) = true := by simp; omega
                have g6 : ((c : Int) != 46) = true := by simp; omega
                have n1 : decide (c < 97) = true := by simp; omega
                have n2 : decide (122 < c) = false := by simp; omega
                have n3 : decide (c < 48) = false := by simp; omega
                have n4 : decide (57 < c) = true := by simp; omega
                have n5 : (c == 95) = false := by rw [beq_eq_false_iff_ne]; omega
                have n6 : (c == 46) = false := by rw [beq_eq_false_iff_ne]; omega
                have g5 : (c != 95) = true := by simp; omega
                have g6 : (c != 46) = true := by simp; omega
                have hcb : ((decide (97 ≤ c) && decide (c ≤ 122)) || (decide (48 ≤ c) && decide (c ≤ 57)) || c == 95 || c == 46) = false := by simp; omega
                have : R = false := by rw [← HR.out, HP2.out, HCH.out, hcb, Bool.false_and]
                subst this
                clear h HP2 HCH hcl hcb
                go_wp2
                go_ret
                exact ⟨rfl, rfl⟩
              · have f1 : decide ((c : Int) < 97) = true := by simp; omega
                have f2 : decide ((122 : Int) < c) = false := by simp; omega
                have f3 : decide ((c : Int) < 48) = false := by simp; omega
                have f4 : decide ((57 : Int) < c) = true := by simp; omega
                have f5 : ((c : Int) == 95) = true := by rw [beq_iff_eq]; omega
                have f6 : ((c : Int) == 46) = false := by rw [beq_eq_false_iff_ne]; omega
                have g5 : ((c : Int) != 95) = false := by simp; omega
                have g6 : ((c : Int) != 46) = true := by simp; omega
                have n1 : decide (c < 97) = true := by simp; omega
                have n2 : decide (122 < c) = false := by simp; omega
                have n3 : decide (c < 48) = false := by simp; omega
                have n4 : decide (57 < c) = true := by simp; omega
                have n5 : (c == 95) = true := by rw [beq_iff_eq]; omega
                have n6 : (c == 46) = false := by rw [beq_eq_false_iff_ne]; omega
                have g5 : (c != 95) = false := by simp; omega
                have g6 : (c != 46) = true := by simp; omega
                have hcb : ((decide (97 ≤ c) && decide (c ≤ 122)) || (decide (48 ≤ c) && decide (c ≤ 57)) || c == 95 || c == 46) = true := by simp; omega
                have HN : Hid (predOk s = (s.data.toList.drop (k + 1)).all chOk) := Lib.hid (by rw [HP2.out, HCH.out, hcb, Bool.true_and])
                clear h HP2 HCH hcl hcb
                go_wp2
                go_round
                case rel => exact ⟨k + 1, by omega, by go_num, HN⟩
                case measure => simp [intOf]; omega
              · have f1 : decide ((c : Int) < 97) = true := by simp; omega
                have f2 : decide ((122 : Int) < c) = false := by simp; omega
                have f3 : decide ((c : Int) < 48) = false := by simp; omega
                have f4 : decide ((57 : Int) < c) = true := by simp; omega
                have f5 : ((c : Int) == 95) = false := by rw [beq_eq_false_iff_ne]; omega
                have f6 : ((c : Int) == 46) = false := by rw [beq_eq_false_iff_ne]; omega
                have g5 : ((c : Int) != 95) = true := by simp; omega
                have g6 : ((c : Int) != 46) = true := by simp; omega
                have n1 : decide (c < 97) = true := by simp; omega
                have n2 : decide (122 < c) = false := by simp; omega
                have n3 : decide (c < 48) = false := by simp; omega
                have n4 : decide (57 < c) = true := by simp; omega
                have n5 : (c == 95) = false := by rw [beq_eq_false_iff_ne]; omega
                have n6 : (c == 46) = false := by rw [beq_eq_false_iff_ne]; omega
                have g5 : (c != 95) = true := by simp; omega
                have g6 : (c != 46) = true := by simp; omega
                have hcb : ((decide (97 ≤ c) && decide (c ≤ 122)) || (decide (48 ≤ c) && decide (c ≤ 57)) || c == 95 || c == 46) = false := by simp; omega
                have : R = false := by rw [← HR.out, HP2.out, HCH.out, hcb, Bool.false_and]
                subst this
                clear h HP2 HCH hcl hcb
                go_wp2
                go_ret
                exact ⟨rfl, rfl⟩
              · have f1 : decide ((c : Int) < 97) = false := by simp; omega
                have f2 : decide ((122 : Int) < c) = false := by simp; omega
                have f3 : decide ((c : Int) < 48) = false := by simp; omega
                have f4 : decide ((57 : Int) < c) = true := by simp; omega
                have f5 : ((c : Int) == 95) = false := by rw [beq_eq_false_iff_ne]; omega
                have f6 : ((c : Int) == 46) = false := by rw [beq_eq_false_iff_ne]; omega
                have g5 : ((c : Int) != 95) = true := by simp; omega
                have g6 : ((c : Int) != 46) = true := by simp; omega
                have n1 : decide (c < 97) = false := by simp; omega
                have n2 : decide (122 < c) = false := by simp; omega
                have n3 : decide (c < 48) = false := by simp; omega
                have n4 : decide (57 < c) = true := by simp; omega
                have n5 : (c == 95) = false := by rw [beq_eq_false_iff_ne]; omega
                have n6 : (c == 46) = false := by rw [beq_eq_false_iff_ne]; omega
                have g5 : (c != 95) = true := by simp; omega
                have g6 : (c != 46) = true := by simp; omega
                have hcb : ((decide (97 ≤ c) && decide (c ≤ 122)) || (decide (48 ≤ c) && decide (c ≤ 57)) || c == 95 || c == 46) = true := by simp; omega
                have HN : Hid (predOk s = (s.data.toList.drop (k + 1)).all chOk) := Lib.hid (by rw [HP2.out, HCH.out, hcb, Bool.true_and])
                clear h HP2 HCH hcl hcb
                go_wp2
                go_round
                case rel => exact ⟨k + 1, by omega, by go_num, HN⟩
                case measure => simp [intOf]; omega
              · have f1 : decide ((c : Int) < 97) = false := by simp; omega
                have f2 : decide ((122 : Int) < c) = true := by simp; omega
                have f3 : decide ((c : Int) < 48) = false := by simp; omega
                have f4 : decide ((57 : Int) < c) = true := by simp; omega
                have f5 : ((c : Int) == 95) = false := by rw [beq_eq_false_iff_ne]; omega
                have f6 : ((c : Int) == 46) = false := by rw [beq_eq_false_iff_ne]; omega
                have g5 : ((c : Int) != 95) = true := by simp; omega
                have g6 : ((c : Int) != 46) = true := by simp; omega
                have n1 : decide (c < 97) = false := by simp; omega
                have n2 : decide (122 < c) = true := by simp; omega
                have n3 : decide (c < 48) = false := by simp; omega
                have n4 : decide (57 < c) = true := by simp; omega
                have n5 : (c == 95) = false := by rw [beq_eq_false_iff_ne]; omega
                have n6 : (c == 46) = false := by rw [beq_eq_false_iff_ne]; omega
                have g5 : (c != 95) = true := by simp; omega
                have g6 : (c != 46) = true := by simp; omega
                have hcb : ((decide (97 ≤ c) && decide (c ≤ 122)) || (decide (48 ≤ c) && decide (c ≤ 57)) || c == 95 || c == 46) = false := by simp; omega
                have : R = false := by rw [← HR.out, HP2.out, HCH.out, hcb, Bool.false_and]
                subst this
                clear h HP2 HCH hcl hcb
                go_wp2
                go_ret
                exact ⟨rfl, rfl⟩
            · obtain rfl : k = s.size := by omega
              have q : decide ((s.size : Int) < s.size) = false := by simp
              have q' : decide (s.size < s.size) = false := by simp
              have hP := HP.out
              rw [List.drop_of_length_le (by simp)] at hP
              have : R = true := by rw [← HR.out, hP]; rfl
              subst this
              clear hP HP
              go_wp2
              go_ret
              exact ⟨rfl, rfl⟩

theorem strLess_eq : ∀ (x y : List UInt8), Op.bytesLess x y = decide (x < y)
  | [], [] => by simp [Op.bytesLess]
  | _ :: _, [] => by simp [Op.bytesLess]
  | [], _ :: _ => by simp [Op.bytesLess]
  | a :: x, b :: y => by
    rw [Op.bytesLess, strLess_eq x y]
    simp only [List.cons_lt_cons_iff]
    by_cases h1 : a < b <;> by_cases h2 : a = b <;> by_cases h3 : x < y <;> simp [h1, h2, h3]
theorem leq_strs (x y : ByteArray) : (Op.bytesLess x.toList y.toList || x.toList == y.toList) = !(Op.bytesLess y.toList x.toList) := by
  rw [strLess_eq, strLess_eq]
  by_cases h1 : x.toList < y.toList
  · have h2 : ¬ y.toList < x.toList := fun h => List.lt_irrefl _ (List.lt_trans h1 h)
    simp [h1, h2]
  · by_cases h2 : y.toList < x.toList
    · have h3 : x.toList ≠ y.toList := fun e => by rw [e] at h2; exact List.lt_irrefl _ h2
      simp [h1, h2, h3]
    · have h3 : x.toList = y.toList := List.le_antisymm (List.not_lt.1 h2) (List.not_lt.1 h1)
      rw [h3]
      simp
def rkeysM (xs : List ByteArray) : Bool := (xs.all keyP && risingM xs) && (decide (xs.length ≤ 256))
set_option maxRecDepth 100000 in
set_option maxHeartbeats 4000000 in
theorem rkeys_any {w : World} {so : Option Addr} {sc : Nat} {xs : List ByteArray} (h : StrsAt w so xs) :
    Calls Tryz.prog 97 #[.slice so xs.length sc] w fun e w' => e = .returned (.bool (rkeysM xs)) ∧ Chg (fun _ => False) w w' := by
  have H := Lib.hid h
  obtain ⟨N, hN⟩ : ∃ N, xs.length = N := ⟨_, rfl⟩
  have hlen := h.len
  rw [hN] at hlen ⊢
  have HN := Lib.hid hN
  obtain ⟨Rr, HR⟩ : ∃ b, Hid (rkeysM xs = b) := ⟨_, Lib.hid rfl⟩
  rw [HR.out]
  clear h hN
  go_enter Tryz.func97, Tryz.ntmps97
  go_wp2
  go_loopw [3] (fun i wr => ∃ j : Nat, i = .int .i64 j ∧ j ≤ N ∧ Hid ((xs.all keyP && risingM xs) = ((xs.drop j).all keyP && risingM (xs.drop (j - 1)))) ∧ Hid (Chg (fun _ => False) w wr)) (fun i _ => N - (intOf i).toNat)
  case atStart => exact ⟨0, rfl, by omega, Lib.hid rfl, Lib.hid (Chg.refl _ _)⟩
  case round =>
    obtain ⟨j, rfl, hj, HP, HC⟩ := hrel
    by_cases hlt : j < N
    · have hd : decide ((j : Int) < N) = true := by simp; omega
      have hjl : j < xs.length := by rw [HN.out]; exact hlt
      obtain ⟨g, o, rfl, hg, a1⟩ := (H.out.same HC.out).cell j hjl
      have hst : (xs.all keyP && risingM xs) = (keyP xs[j] && (xs.drop (j + 1)).all keyP && risingM (xs.drop (j - 1))) := by
        rw [HP.out, List.drop_eq_getElem_cons hjl, List.all_cons]
      have q2 : (0 : Int) ≤ (j : Int) := by omega
      have q3 : (j : Int) < N := by omega
      have hjpos : j = 0 ∨ 1 ≤ j := by omega
      obtain ⟨x, hx⟩ : ∃ x, xs[j] = x := ⟨_, rfl⟩
      rw [hx] at a1 hst
      by_cases h1 : x.size < 1
      · have d1 : decide ((x.size : Int) < 1) = true := by simp; omega
        have hkp : keyP x = false := by unfold keyP; simp; omega
        have : Rr = false := by rw [← HR.out]; unfold rkeysM; rw [hst, hkp]; rfl
        subst this
        clear hst hx hkp HP
        have HC2 := Lib.hid HC.out.drew
        go_wp2
        go_region
        all_goals
          go_wp2
          go_ret
          exact ⟨rfl, HC2.out⟩
      · have d1 : decide ((x.size : Int) < 1) = false := by simp; omega
        by_cases h2 : 16384 < x.size
        · have d2 : decide ((16384 : Int) < x.size) = true := by simp; omega
          have hkp : keyP x = false := by unfold keyP; simp; omega
          have : Rr = false := by rw [← HR.out]; unfold rkeysM; rw [hst, hkp]; rfl
          subst this
          clear hst hx hkp HP
          have HC2 := Lib.hid HC.out.drew
          go_wp2
          go_region
          all_goals
            go_wp2
            go_ret
            exact ⟨rfl, HC2.out⟩
        · have d2 : decide ((16384 : Int) < x.size) = false := by simp; omega
          have hkp : keyP x = true := by unfold keyP; simp; omega
          rw [hkp, Bool.true_and] at hst
          have HST := Lib.hid hst
          by_cases h0 : j = 0
          · have d3 : decide ((0 : Int) < j) = false := by simp; omega
            have d3' : decide (0 < j) = false := by simp; omega
            have HP2 : Hid ((xs.all keyP && risingM xs) = ((xs.drop (j + 1)).all keyP && risingM (xs.drop (j + 1 - 1)))) := Lib.hid (by rw [HST.out]; subst h0; rfl)
            clear hst hx HP h0 hjpos HST
            have HC2 := Lib.hid HC.out.drew
            go_wp2
            go_region
            all_goals
              go_wp2
              go_roundw
              case rel => exact ⟨j + 1, by go_num, by omega, HP2, HC2⟩
              case measure => simp [intOf]; omega
          · have d3 : decide ((0 : Int) < j) = true := by simp; omega
            have d3' : decide (0 < j) = true := by simp; omega
            obtain ⟨g', o', e', _, a0⟩ := (H.out.same HC.out).cell (j - 1) (by omega)
            simp only [Option.some.injEq, Addr.mk.injEq, and_true] at e'
            obtain ⟨rfl, rfl⟩ := e'
            have hrs := rising_step (l := xs) (j := j) (by omega) (by simpa using hjl)
            rw [hx] at hrs
            obtain ⟨y, hy⟩ : ∃ y, xs[j - 1] = y := ⟨_, rfl⟩
            rw [hy] at hrs a0
            have q0 : (0 : Int) ≤ (j : Int) - 1 := by omega
            have q1 : (j : Int) - 1 < N := by omega
            have q4 : IntKind.i64.wrap ((j : Int) - 1) = (j : Int) - 1 := by simp only [IntKind.wrap, IntKind.bits, IntKind.signed]; simp; omega
            have q5 : ((j : Int) - 1).toNat = j - 1 := by omega
            obtain ⟨bb, hbb⟩ : ∃ bb, Op.bytesLess y.toList x.toList = bb := ⟨_, rfl⟩
            have hbb' : lessB y x = bb := hbb
            rw [hrs, hbb'] at hst
            have tri := leq_strs x y
            rw [hbb] at tri
            cases bb
            · have : Rr = false := by rw [← HR.out]; unfold rkeysM; rw [hst]; simp
              subst this
              clear hst hx hy HP HST hrs hbb hbb'
              cases v1 : Op.bytesLess x.toList y.toList
              · have v2 : (x.toList == y.toList) = true := by rw [v1] at tri; simpa using tri
                clear tri
                have HC2 := Lib.hid HC.out.drew
                go_wp2
                go_region
                all_goals
                  go_wp2
                  go_ret
                  exact ⟨rfl, HC2.out⟩
              · clear tri
                have HC2 := Lib.hid HC.out.drew
                go_wp2
                go_region
                all_goals
                  go_wp2
                  go_ret
                  exact ⟨rfl, HC2.out⟩
            · have HP2 : Hid ((xs.all keyP && risingM xs) = ((xs.drop (j + 1)).all keyP && risingM (xs.drop (j + 1 - 1)))) := Lib.hid (by rw [hst, Nat.add_sub_cancel]; rfl)
              have v1 : Op.bytesLess x.toList y.toList = false := by
                cases v : Op.bytesLess x.toList y.toList
                · rfl
                · rw [v] at tri; simp at tri
              have v2 : (x.toList == y.toList) = false := by rw [v1] at tri; simpa using tri
              clear hst hx hy HP HST hrs hbb hbb' tri
              have HC2 := Lib.hid HC.out.drew
              go_wp2
              go_region
              all_goals
                go_wp2
                go_roundw
                case rel => exact ⟨j + 1, by go_num, by omega, HP2, HC2⟩
                case measure => simp [intOf]; omega
    · obtain rfl : j = N := by omega
      have hd : decide ((j : Int) < j) = false := by simp
      have hd' : decide (j < j) = false := by simp
      have hm : (xs.all keyP && risingM xs) = true := by
        rw [HP.out, List.drop_of_length_le (by rw [HN.out]; exact Nat.le_refl _), rising_end (by rw [HN.out]; exact Nat.le_refl _)]; rfl
      have hRr : Rr = (decide (j ≤ 256)) := by rw [← HR.out]; unfold rkeysM; rw [hm, HN.out]; rfl
      have HRr := Lib.hid hRr
      have e2 : decide ((j : Int) ≤ 256) = decide (j ≤ 256) := by simp only [decide_eq_decide]; omega
      cases b2 : decide (j ≤ 256)
      all_goals
        rw [b2] at e2
        have HV := Lib.hid (show Rr = _ by rw [HRr.out, b2])
        clear HP hm hRr b2
        go_wp2
        go_ret
        exact ⟨by rw [HV.out]; rfl, HC.out⟩

def rneedsM (xs : List (ByteArray × Nat)) : Bool := (xs.all needP && risingM (xs.map (·.1))) && (decide (1 ≤ xs.length) && decide (xs.length ≤ 256))
set_option maxRecDepth 100000 in
set_option maxHeartbeats 4000000 in
theorem rneeds_any {w : World} {so : Option Addr} {sc : Nat} {xs : List (ByteArray × Nat)} (h : NeedsAt w so xs) :
    Calls Tryz.prog 98 #[.slice so xs.length sc] w fun e w' => e = .returned (.bool (rneedsM xs)) ∧ Chg (fun _ => False) w w' := by
  have H := Lib.hid h
  obtain ⟨N, hN⟩ : ∃ N, xs.length = N := ⟨_, rfl⟩
  have hlen := h.len
  rw [hN] at hlen ⊢
  have HN := Lib.hid hN
  obtain ⟨Rr, HR⟩ : ∃ b, Hid (rneedsM xs = b) := ⟨_, Lib.hid rfl⟩
  rw [HR.out]
  clear h hN
  go_enter Tryz.func98, Tryz.ntmps98
  go_wp2
  go_loopw [3] (fun i wr => ∃ j : Nat, i = .int .i64 j ∧ j ≤ N ∧ Hid ((xs.all needP && risingM (xs.map (·.1))) = ((xs.drop j).all needP && risingM ((xs.map (·.1)).drop (j - 1)))) ∧ Hid (Chg (fun _ => False) w wr)) (fun i _ => N - (intOf i).toNat)
  case atStart => exact ⟨0, rfl, by omega, Lib.hid rfl, Lib.hid (Chg.refl _ _)⟩
  case round =>
    obtain ⟨j, rfl, hj, HP, HC⟩ := hrel
    by_cases hlt : j < N
    · have hd : decide ((j : Int) < N) = true := by simp; omega
      have hjl : j < xs.length := by rw [HN.out]; exact hlt
      obtain ⟨g, o, rfl, hg, a1, a2⟩ := (H.out.same HC.out).cell j hjl
      have hst : (xs.all needP && risingM (xs.map (·.1))) = (needP xs[j] && (xs.drop (j + 1)).all needP && risingM ((xs.map (·.1)).drop (j - 1))) := by
        rw [HP.out, List.drop_eq_getElem_cons hjl, List.all_cons]
      have q2 : (0 : Int) ≤ (j : Int) := by omega
      have q3 : (j : Int) < N := by omega
      have hjpos : j = 0 ∨ 1 ≤ j := by omega
      have hlim := H.out.lim xs[j] (List.getElem_mem hjl)
      obtain ⟨⟨x, tn⟩, hx⟩ : ∃ x, xs[j] = x := ⟨_, rfl⟩
      rw [hx] at a1 a2 hst hlim
      simp only at a1 a2 hlim
      have RP := Lib.hid (regrown_below wr (fun u => (rpred_any x u).mono fun e w' hh => ⟨hh.1, by rw [hh.2]; exact Below.refl _ _⟩))
      have r1 := fun p os => cell_regrown a1 p os
      have r2 := fun p os => cell_regrown a2 p os
      obtain ⟨pb, hpb⟩ : ∃ pb, predOk x = pb := ⟨_, rfl⟩
      rw [hpb] at RP
      cases pb
      · have hkp : needP (x, tn) = false := by unfold needP; simp [hpb]
        have : Rr = false := by rw [← HR.out]; unfold rneedsM; rw [hst, hkp]; rfl
        subst this
        clear hst hx hkp HP hpb hlim
        go_wp2_with fail
        refine wp_region_quiet_below (by kernel_rfl) (by kernel_rfl) ?_
        repeat (go_big_quiet_step (exact RP.out _ _))
        refine wpQuiet_nil ?_
        intro _ hw'
        obtain ⟨⟨dq, osq⟩, hw''⟩ := hw'
        subst hw''
        have HC2 := Lib.hid (HC.out.trans (chg_of_below (below_regrown wr dq osq)))
        generalize grow (redrawn wr dq) osq = W2 at *
        all_goals
          go_wp2
          go_ret
          exact ⟨rfl, HC2.out⟩
      · by_cases h2 : tn < 1
        · have d2 : decide ((tn : Int) < 1) = true := by simp; omega
          have hkp : needP (x, tn) = false := by unfold needP; simp; omega
          have : Rr = false := by rw [← HR.out]; unfold rneedsM; rw [hst, hkp]; rfl
          subst this
          clear hst hx hkp HP hpb hlim h2
          go_wp2_with fail
          refine wp_region_quiet_below (by kernel_rfl) (by kernel_rfl) ?_
          repeat (go_big_quiet_step (exact RP.out _ _))
          refine wpQuiet_nil ?_
          intro _ hw'
          obtain ⟨⟨dq, osq⟩, hw''⟩ := hw'
          subst hw''
          have HC2 := Lib.hid (HC.out.trans (chg_of_below (below_regrown wr dq osq)))
          generalize grow (redrawn wr dq) osq = W2 at *
          all_goals
            go_wp2
            go_ret
            exact ⟨rfl, HC2.out⟩
        · have d2 : decide ((tn : Int) < 1) = false := by simp; omega
          have hkp : needP (x, tn) = true := by unfold needP; simp [hpb]; omega
          rw [hkp, Bool.true_and] at hst
          have HST := Lib.hid hst
          clear hpb hlim h2 hkp
          by_cases h0 : j = 0
          · have d3 : decide ((0 : Int) < j) = false := by simp; omega
            have d3' : decide (0 < j) = false := by simp; omega
            have HP2 : Hid ((xs.all needP && risingM (xs.map (·.1))) = ((xs.drop (j + 1)).all needP && risingM ((xs.map (·.1)).drop (j + 1 - 1)))) := Lib.hid (by rw [HST.out]; subst h0; rfl)
            clear hst hx HP h0 hjpos HST
            go_wp2_with fail
            refine wp_region_quiet_below (by kernel_rfl) (by kernel_rfl) ?_
            repeat (go_big_quiet_step (exact RP.out _ _))
            refine wpQuiet_nil ?_
            intro _ hw'
            obtain ⟨⟨dq, osq⟩, hw''⟩ := hw'
            subst hw''
            have HC2 := Lib.hid (HC.out.trans (chg_of_below (below_regrown wr dq osq)))
            generalize grow (redrawn wr dq) osq = W2 at *
            all_goals
              go_wp2
              go_roundw
              case rel => exact ⟨j + 1, by go_num, by omega, HP2, HC2⟩
              case measure => simp [intOf]; omega
          · have d3 : decide ((0 : Int) < j) = true := by simp; omega
            have d3' : decide (0 < j) = true := by simp; omega
            obtain ⟨g', o', e', _, a0, a0b⟩ := (H.out.same HC.out).cell (j - 1) (by omega)
            simp only [Option.some.injEq, Addr.mk.injEq, and_true] at e'
            obtain ⟨rfl, rfl⟩ := e'
            have hrs := rising_step (l := (xs.map (·.1))) (j := j) (by omega) (by simpa using hjl)
            simp only [List.getElem_map] at hrs
            rw [hx] at hrs
            obtain ⟨y, hy⟩ : ∃ y, xs[j - 1].1 = y := ⟨_, rfl⟩
            rw [hy] at hrs a0
            have r3 := fun p os => cell_regrown a0 p os
            have q0 : (0 : Int) ≤ (j : Int) - 1 := by omega
            have q1 : (j : Int) - 1 < N := by omega
            have q4 : IntKind.i64.wrap ((j : Int) - 1) = (j : Int) - 1 := by simp only [IntKind.wrap, IntKind.bits, IntKind.signed]; simp; omega
            have q5 : ((j : Int) - 1).toNat = j - 1 := by omega
            obtain ⟨bb, hbb⟩ : ∃ bb, Op.bytesLess y.toList x.toList = bb := ⟨_, rfl⟩
            have hbb' : lessB y x = bb := hbb
            rw [hrs, hbb'] at hst
            have tri := leq_strs x y
            rw [hbb] at tri
            cases bb
            · have : Rr = false := by rw [← HR.out]; unfold rneedsM; rw [hst]; simp
              subst this
              clear hst hx hy HP HST hrs hbb hbb'
              cases v1 : Op.bytesLess x.toList y.toList
              · have v2 : (x.toList == y.toList) = true := by rw [v1] at tri; simpa using tri
                clear tri
                go_wp2_with fail
                refine wp_region_quiet_below (by kernel_rfl) (by kernel_rfl) ?_
                repeat (go_big_quiet_step (exact RP.out _ _))
                refine wpQuiet_nil ?_
                intro _ hw'
                obtain ⟨⟨dq, osq⟩, hw''⟩ := hw'
                subst hw''
                have HC2 := Lib.hid (HC.out.trans (chg_of_below (below_regrown wr dq osq)))
                generalize grow (redrawn wr dq) osq = W2 at *
                all_goals
                  go_wp2
                  go_ret
                  exact ⟨rfl, HC2.out⟩
              · clear tri
                go_wp2_with fail
                refine wp_region_quiet_below (by kernel_rfl) (by kernel_rfl) ?_
                repeat (go_big_quiet_step (exact RP.out _ _))
                refine wpQuiet_nil ?_
                intro _ hw'
                obtain ⟨⟨dq, osq⟩, hw''⟩ := hw'
                subst hw''
                have HC2 := Lib.hid (HC.out.trans (chg_of_below (below_regrown wr dq osq)))
                generalize grow (redrawn wr dq) osq = W2 at *
                all_goals
                  go_wp2
                  go_ret
                  exact ⟨rfl, HC2.out⟩
            · have HP2 : Hid ((xs.all needP && risingM (xs.map (·.1))) = ((xs.drop (j + 1)).all needP && risingM ((xs.map (·.1)).drop (j + 1 - 1)))) := Lib.hid (by rw [hst, Nat.add_sub_cancel]; rfl)
              have v1 : Op.bytesLess x.toList y.toList = false := by
                cases v : Op.bytesLess x.toList y.toList
                · rfl
                · rw [v] at tri; simp at tri
              have v2 : (x.toList == y.toList) = false := by rw [v1] at tri; simpa using tri
              clear hst hx hy HP HST hrs hbb hbb' tri
              go_wp2_with fail
              refine wp_region_quiet_below (by kernel_rfl) (by kernel_rfl) ?_
              repeat (go_big_quiet_step (exact RP.out _ _))
              refine wpQuiet_nil ?_
              intro _ hw'
              obtain ⟨⟨dq, osq⟩, hw''⟩ := hw'
              subst hw''
              have HC2 := Lib.hid (HC.out.trans (chg_of_below (below_regrown wr dq osq)))
              generalize grow (redrawn wr dq) osq = W2 at *
              all_goals
                go_wp2
                go_roundw
                case rel => exact ⟨j + 1, by go_num, by omega, HP2, HC2⟩
                case measure => simp [intOf]; omega
    · obtain rfl : j = N := by omega
      have hd : decide ((j : Int) < j) = false := by simp
      have hd' : decide (j < j) = false := by simp
      have hm : (xs.all needP && risingM (xs.map (·.1))) = true := by
        rw [HP.out, List.drop_of_length_le (by rw [HN.out]; exact Nat.le_refl _), rising_end (by simp; rw [HN.out]; exact Nat.le_refl _)]; rfl
      have hRr : Rr = (decide (1 ≤ j) && decide (j ≤ 256)) := by rw [← HR.out]; unfold rneedsM; rw [hm, HN.out]; rfl
      have HRr := Lib.hid hRr
      have e1 : decide ((1 : Int) ≤ j) = decide (1 ≤ j) := by simp only [decide_eq_decide]; omega
      have e2 : decide ((j : Int) ≤ 256) = decide (j ≤ 256) := by simp only [decide_eq_decide]; omega
      cases b1 : decide (1 ≤ j) <;> cases b2 : decide (j ≤ 256)
      all_goals
        rw [b1] at e1
        rw [b2] at e2
        have HV := Lib.hid (show Rr = _ by rw [HRr.out, b1, b2])
        clear HP hm hRr b1 b2
        go_wp2
        go_ret
        exact ⟨by rw [HV.out]; rfl, HC.out⟩
end Go.Proofs.YtgmmglmokkcgeaaGreat
