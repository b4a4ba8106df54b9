/- What any bytes are read as: Read, and the document's. -/
import Derived.Test.YtgmmglmokkcgeaaF7j
import Derived.Test.YtgmmglmokkcgeaaG2j
import Derived.Test.YtgmmglmokkcgeaaG2c
namespace Go.Proofs.Ytgmmglmokkcgeaa
set_option linter.unusedVariables false
set_option linter.unusedSimpArgs false
open Go.RowKit Mk Go.Sort

/-- What bytes are read as. -/
def readW (s : ByteArray) : OpM × Nat := if h : 0 < s.size then readM s[0].toNat s else (op0 0, 200)
theorem readW_no {s : ByteArray} (h : s.size = 0) : readW s = (op0 0, 200) := dif_neg (by omega)
theorem readW_yes {s : ByteArray} (h : 0 < s.size) : readW s = readM s[0].toNat s := dif_pos h
section
variable {w : World} {s : ByteArray}
set_option maxRecDepth 100000 in
set_option maxHeartbeats 4000000 in
theorem read_none (h : s.size = 0) :
    Calls Try.prog 21 #[.string s] w fun e w' => ∃ l, e = .returned (.tuple #[.agg (opC (op0 0) l), .int .i64 200]) ∧ OpAt w' (op0 0) l ∧ Chg (fun _ => False) w w' := by
  have hq := bytes_isEmpty s
  have hd : decide (s.size = 0) = true := decide_eq_true h
  rw [hd] at hq
  clear hd
  go_enter Try.func21, Try.ntmps21
  go_wp2_with fail
  refine bodyPost_ret (results_cell_row_tmp (p := 2) (u := 3) (ty := 34) rfl _ _ w.heap.size 34 _ (0, 0) _ rfl (Go.heap_alloc_new w _) Try.underlying34 rfl (by kernel_rfl)) rfl ⟨nilL, ?_, ?_, ?_⟩
  · rfl
  · exact op0_at _
  · exact (Chg.refl _ w).alloc _
set_option maxRecDepth 100000 in
set_option maxHeartbeats 4000000 in
theorem rread_none (h : s.size = 0) :
    Calls Try.prog 22 #[.string s] w fun e w' => ∃ l, e = .returned (.tuple #[.agg (opC (op0 0) l), .int .i64 200]) ∧ OpAt w' (op0 0) l ∧ Chg (fun _ => False) w w' := by
  have hq := bytes_isEmpty s
  have hd : decide (s.size = 0) = true := decide_eq_true h
  rw [hd] at hq
  clear hd
  go_enter Try.func22, Try.ntmps22
  go_wp2_with fail
  refine bodyPost_ret (results_cell_row_tmp (p := 2) (u := 3) (ty := 34) rfl _ _ w.heap.size 34 _ (0, 0) _ rfl (Go.heap_alloc_new w _) Try.underlying34 rfl (by kernel_rfl)) rfl ⟨nilL, ?_, ?_, ?_⟩
  · rfl
  · exact op0_at _
  · exact (Chg.refl _ w).alloc _
theorem read_any (hs : s.size ≤ 1099511627776) :
    Calls Try.prog 21 #[.string s] w fun e w' => ∃ l, e = .returned (.tuple #[.agg (opC (readW s).1 l), .int .i64 ((readW s).2 : Nat)]) ∧ OpAt w' (readW s).1 l ∧ Chg (fun _ => False) w w' := by
  by_cases h0 : s.size = 0
  · rw [readW_no h0]; exact read_none h0
  have h1 : 0 < s.size := by omega
  rw [readW_yes h1]
  by_cases k1 : s[0].toNat = 1
  · exact read_1 h1 hs k1
  by_cases k2 : s[0].toNat = 2
  · exact read_2 h1 hs k2
  by_cases k3 : s[0].toNat = 3
  · exact read_3 h1 hs k3
  by_cases k4 : s[0].toNat = 4
  · exact read_4 h1 hs k4
  by_cases k5 : s[0].toNat = 5
  · exact read_5 h1 hs k5
  by_cases k6 : s[0].toNat = 6
  · exact read_6 h1 hs k6
  by_cases k7 : s[0].toNat = 7
  · exact read_7 h1 hs k7
  by_cases k8 : s[0].toNat = 8
  · exact read_8 h1 hs k8
  by_cases k9 : s[0].toNat = 9
  · exact read_9 h1 hs k9
  exact read_0 h1 hs (fun j a b => by
    have : j = 1 ∨ j = 2 ∨ j = 3 ∨ j = 4 ∨ j = 5 ∨ j = 6 ∨ j = 7 ∨ j = 8 ∨ j = 9 := by omega
    rcases this with rfl | rfl | rfl | rfl | rfl | rfl | rfl | rfl | rfl <;> assumption)
theorem rread_any (hs : s.size ≤ 1099511627776) :
    Calls Try.prog 22 #[.string s] w fun e w' => ∃ l, e = .returned (.tuple #[.agg (opC (readW s).1 l), .int .i64 ((readW s).2 : Nat)]) ∧ OpAt w' (readW s).1 l ∧ Chg (fun _ => False) w w' := by
  by_cases h0 : s.size = 0
  · rw [readW_no h0]; exact rread_none h0
  have h1 : 0 < s.size := by omega
  rw [readW_yes h1]
  by_cases k1 : s[0].toNat = 1
  · exact rread_1 h1 hs k1
  by_cases k2 : s[0].toNat = 2
  · exact rread_2 h1 hs k2
  by_cases k3 : s[0].toNat = 3
  · exact rread_3 h1 hs k3
  by_cases k4 : s[0].toNat = 4
  · exact rread_4 h1 hs k4
  by_cases k5 : s[0].toNat = 5
  · exact rread_5 h1 hs k5
  by_cases k6 : s[0].toNat = 6
  · exact rread_6 h1 hs k6
  by_cases k7 : s[0].toNat = 7
  · exact rread_7 h1 hs k7
  by_cases k8 : s[0].toNat = 8
  · exact rread_8 h1 hs k8
  by_cases k9 : s[0].toNat = 9
  · exact rread_9 h1 hs k9
  exact rread_0 h1 hs (fun j a b => by
    have : j = 1 ∨ j = 2 ∨ j = 3 ∨ j = 4 ∨ j = 5 ∨ j = 6 ∨ j = 7 ∨ j = 8 ∨ j = 9 := by omega
    rcases this with rfl | rfl | rfl | rfl | rfl | rfl | rfl | rfl | rfl <;> assumption)
end
end Go.Proofs.Ytgmmglmokkcgeaa
