/- Walks: Same of any two states. Printed by genXc.py. -/
import Derived.Test.YtgmmglmokkcgeaaGreatXb
import Derived.Test.YtgmmglmokkcgeaaGreatY7
import Derived.BigQuiet
import Derived.Lib.QuietBelow
namespace Go.Proofs.YtgmmglmokkcgeaaGreat
set_option linter.unusedVariables false
set_option linter.unusedSimpArgs false
set_option linter.unusedSectionVars false
open Go.RowKit Mk Go.Sort

section
variable {w w' : World} {b c : Nat} {R R2 : Loc} {F F2 : Nat → Prop} {n n2 : OM}
set_option maxRecDepth 100000 in
set_option maxHeartbeats 16000000 in
theorem same_at5 (hx : RawRep w b R F n) (hy : RawRep w c R2 F2 n2) (e1 : n.time = n2.time) (e2 : n.uid = n2.uid) (e3 : n.mark = n2.mark) (e4 : ∀ x, lk n.dec x = lk n2.dec x) (ne : ¬ (∀ x, lk n.las x = lk n2.las x)) :
    Calls Tryz.prog 16 #[.pointer (some ⟨b, 0, none⟩), .pointer (some ⟨c, 0, none⟩)] w fun e w' => e = .returned (.bool false) ∧ Chg (fun _ => False) w w' := by
  have N1 : ∀ (d : Nat) (os : Array Obj), Calls Tryz.prog 29 #[.pointer (some ⟨b, 0, none⟩)] (grow (redrawn w d) os) fun e w'' => e = .returned (.bool false) ∧ ∃ p : Regrown, w'' = grow (redrawn w p.d) p.os := fun d os => Calls.regrown_of (((fun {u : World} (c : Chg (fun _ => False) w u) => (rnone_any (hx.same c)).mono (fun e w2 hh => (⟨hh.1, by rw [hh.2]; exact Chg.refl _ _⟩ : e = .returned (.bool false) ∧ Chg (fun _ => False) u w2))) (chg_of_below (below_regrown w d os))).mono fun e w' hh => ⟨hh.1, below_of_chg hh.2⟩)
  have N2 : ∀ (d : Nat) (os : Array Obj), Calls Tryz.prog 29 #[.pointer (some ⟨c, 0, none⟩)] (grow (redrawn w d) os) fun e w'' => e = .returned (.bool false) ∧ ∃ p : Regrown, w'' = grow (redrawn w p.d) p.os := fun d os => Calls.regrown_of (((fun {u : World} (c : Chg (fun _ => False) w u) => (rnone_any (hy.same c)).mono (fun e w2 hh => (⟨hh.1, by rw [hh.2]; exact Chg.refl _ _⟩ : e = .returned (.bool false) ∧ Chg (fun _ => False) u w2))) (chg_of_below (below_regrown w d os))).mono fun e w' hh => ⟨hh.1, below_of_chg hh.2⟩)
  have M37 : ∀ (d : Nat) (os : Array Obj), Calls Tryz.prog 37 #[.map (some R.d), .map (some R2.d)] (grow (redrawn w d) os) fun e w'' => e = .returned (.bool true) ∧ ∃ p : Regrown, w'' = grow (redrawn w p.d) p.os := fun d os => Calls.regrown_of (((fun {u : World} (c : Chg (fun _ => False) w u) => equalD_any (hx.same c).dec (hy.same c).dec (z := true) ⟨fun _ => rfl, fun _ => e4⟩) (chg_of_below (below_regrown w d os))).mono fun e w' hh => ⟨hh.1, below_of_chg hh.2⟩)
  have M38 : ∀ (d : Nat) (os : Array Obj), Calls Tryz.prog 38 #[.map (some R.l), .map (some R2.l)] (grow (redrawn w d) os) fun e w'' => e = .returned (.bool false) ∧ ∃ p : Regrown, w'' = grow (redrawn w p.d) p.os := fun d os => Calls.regrown_of (((fun {u : World} (c : Chg (fun _ => False) w u) => equalL_any (hx.same c).las (hy.same c).las (z := false) ⟨fun h => absurd h ne, fun h => by cases h⟩) (chg_of_below (below_regrown w d os))).mono fun e w' hh => ⟨hh.1, below_of_chg hh.2⟩)
  have x1 : w.cell? ⟨b, 1, none⟩ = some (.int .u64 (n.time : Nat)) := cell_of hx.box rfl
  have gx1 := fun p os => cell_regrown x1 p os
  have y1 : w.cell? ⟨c, 1, none⟩ = some (.int .u64 (n.time : Nat)) := by rw [e1]; exact cell_of hy.box rfl
  have gy1 := fun p os => cell_regrown y1 p os
  have x2 : w.cell? ⟨b, 2, none⟩ = some (.int .u64 (n.uid : Nat)) := cell_of hx.box rfl
  have gx2 := fun p os => cell_regrown x2 p os
  have y2 : w.cell? ⟨c, 2, none⟩ = some (.int .u64 (n.uid : Nat)) := by rw [e2]; exact cell_of hy.box rfl
  have gy2 := fun p os => cell_regrown y2 p os
  have x3 : w.cell? ⟨b, 3, none⟩ = some (.int .u64 (n.mark : Nat)) := cell_of hx.box rfl
  have gx3 := fun p os => cell_regrown x3 p os
  have y3 : w.cell? ⟨c, 3, none⟩ = some (.int .u64 (n.mark : Nat)) := by rw [e3]; exact cell_of hy.box rfl
  have gy3 := fun p os => cell_regrown y3 p os
  have x4 : w.cell? ⟨b, 4, none⟩ = some (.map (some R.d)) := cell_of hx.box rfl
  have gx4 := fun p os => cell_regrown x4 p os
  have y4 : w.cell? ⟨c, 4, none⟩ = some (.map (some R2.d)) := cell_of hy.box rfl
  have gy4 := fun p os => cell_regrown y4 p os
  have x5 : w.cell? ⟨b, 5, none⟩ = some (.map (some R.l)) := cell_of hx.box rfl
  have gx5 := fun p os => cell_regrown x5 p os
  have y5 : w.cell? ⟨c, 5, none⟩ = some (.map (some R2.l)) := cell_of hy.box rfl
  have gy5 := fun p os => cell_regrown y5 p os
  have v1 : ((n.time : Int) == (n.time : Int)) = true := by simp
  have v2 : ((n.uid : Int) == (n.uid : Int)) = true := by simp
  have v3 : ((n.mark : Int) == (n.mark : Int)) = true := by simp
  clear hx hy e1 e2 e3 e4 ne
  go_enter Tryz.func16, Tryz.ntmps16
  go_wp2_with fail
  refine wp_region_quiet_below (by kernel_rfl) (by kernel_rfl) ?_
  simp only [List.append_eq, List.cons_append, List.nil_append]
  repeat (go_big_quiet_step (first | (with_reducible exact N1 _ _) | (with_reducible exact N2 _ _) | (with_reducible exact M37 _ _) | (with_reducible exact M38 _ _)))
  refine wpQuiet_nil ?_
  intro _ hw'
  obtain ⟨⟨dq, osq⟩, hw''⟩ := hw'
  subst hw''
  have HC := Lib.hid (chg_of_below (below_regrown w dq osq))
  go_wp2_with fail
  go_ret
  exact ⟨rfl, HC.out⟩
set_option maxRecDepth 100000 in
set_option maxHeartbeats 16000000 in
theorem same_at6 (hx : RawRep w b R F n) (hy : RawRep w c R2 F2 n2) (e1 : n.time = n2.time) (e2 : n.uid = n2.uid) (e3 : n.mark = n2.mark) (e4 : ∀ x, lk n.dec x = lk n2.dec x) (e5 : ∀ x, lk n.las x = lk n2.las x) (ne : ¬ (∀ x, lk n.tab x = lk n2.tab x)) :
    Calls Tryz.prog 16 #[.pointer (some ⟨b, 0, none⟩), .pointer (some ⟨c, 0, none⟩)] w fun e w' => e = .returned (.bool false) ∧ Chg (fun _ => False) w w' := by
  have N1 : ∀ (d : Nat) (os : Array Obj), Calls Tryz.prog 29 #[.pointer (some ⟨b, 0, none⟩)] (grow (redrawn w d) os) fun e w'' => e = .returned (.bool false) ∧ ∃ p : Regrown, w'' = grow (redrawn w p.d) p.os := fun d os => Calls.regrown_of (((fun {u : World} (c : Chg (fun _ => False) w u) => (rnone_any (hx.same c)).mono (fun e w2 hh => (⟨hh.1, by rw [hh.2]; exact Chg.refl _ _⟩ : e = .returned (.bool false) ∧ Chg (fun _ => False) u w2))) (chg_of_below (below_regrown w d os))).mono fun e w' hh => ⟨hh.1, below_of_chg hh.2⟩)
  have N2 : ∀ (d : Nat) (os : Array Obj), Calls Tryz.prog 29 #[.pointer (some ⟨c, 0, none⟩)] (grow (redrawn w d) os) fun e w'' => e = .returned (.bool false) ∧ ∃ p : Regrown, w'' = grow (redrawn w p.d) p.os := fun d os => Calls.regrown_of (((fun {u : World} (c : Chg (fun _ => False) w u) => (rnone_any (hy.same c)).mono (fun e w2 hh => (⟨hh.1, by rw [hh.2]; exact Chg.refl _ _⟩ : e = .returned (.bool false) ∧ Chg (fun _ => False) u w2))) (chg_of_below (below_regrown w d os))).mono fun e w' hh => ⟨hh.1, below_of_chg hh.2⟩)
  have M37 : ∀ (d : Nat) (os : Array Obj), Calls Tryz.prog 37 #[.map (some R.d), .map (some R2.d)] (grow (redrawn w d) os) fun e w'' => e = .returned (.bool true) ∧ ∃ p : Regrown, w'' = grow (redrawn w p.d) p.os := fun d os => Calls.regrown_of (((fun {u : World} (c : Chg (fun _ => False) w u) => equalD_any (hx.same c).dec (hy.same c).dec (z := true) ⟨fun _ => rfl, fun _ => e4⟩) (chg_of_below (below_regrown w d os))).mono fun e w' hh => ⟨hh.1, below_of_chg hh.2⟩)
  have M38 : ∀ (d : Nat) (os : Array Obj), Calls Tryz.prog 38 #[.map (some R.l), .map (some R2.l)] (grow (redrawn w d) os) fun e w'' => e = .returned (.bool true) ∧ ∃ p : Regrown, w'' = grow (redrawn w p.d) p.os := fun d os => Calls.regrown_of (((fun {u : World} (c : Chg (fun _ => False) w u) => equalL_any (hx.same c).las (hy.same c).las (z := true) ⟨fun _ => rfl, fun _ => e5⟩) (chg_of_below (below_regrown w d os))).mono fun e w' hh => ⟨hh.1, below_of_chg hh.2⟩)
  have M39 : ∀ (d : Nat) (os : Array Obj), Calls Tryz.prog 39 #[.map (some R.t), .map (some R2.t)] (grow (redrawn w d) os) fun e w'' => e = .returned (.bool false) ∧ ∃ p : Regrown, w'' = grow (redrawn w p.d) p.os := fun d os => Calls.regrown_of (((fun {u : World} (c : Chg (fun _ => False) w u) => equalT_any (hx.same c).tab (hy.same c).tab (z := false) ⟨fun h => absurd h ne, fun h => by cases h⟩) (chg_of_below (below_regrown w d os))).mono fun e w' hh => ⟨hh.1, below_of_chg hh.2⟩)
  have x1 : w.cell? ⟨b, 1, none⟩ = some (.int .u64 (n.time : Nat)) := cell_of hx.box rfl
  have gx1 := fun p os => cell_regrown x1 p os
  have y1 : w.cell? ⟨c, 1, none⟩ = some (.int .u64 (n.time : Nat)) := by rw [e1]; exact cell_of hy.box rfl
  have gy1 := fun p os => cell_regrown y1 p os
  have x2 : w.cell? ⟨b, 2, none⟩ = some (.int .u64 (n.uid : Nat)) := cell_of hx.box rfl
  have gx2 := fun p os => cell_regrown x2 p os
  have y2 : w.cell? ⟨c, 2, none⟩ = some (.int .u64 (n.uid : Nat)) := by rw [e2]; exact cell_of hy.box rfl
  have gy2 := fun p os => cell_regrown y2 p os
  have x3 : w.cell? ⟨b, 3, none⟩ = some (.int .u64 (n.mark : Nat)) := cell_of hx.box rfl
  have gx3 := fun p os => cell_regrown x3 p os
  have y3 : w.cell? ⟨c, 3, none⟩ = some (.int .u64 (n.mark : Nat)) := by rw [e3]; exact cell_of hy.box rfl
  have gy3 := fun p os => cell_regrown y3 p os
  have x4 : w.cell? ⟨b, 4, none⟩ = some (.map (some R.d)) := cell_of hx.box rfl
  have gx4 := fun p os => cell_regrown x4 p os
  have y4 : w.cell? ⟨c, 4, none⟩ = some (.map (some R2.d)) := cell_of hy.box rfl
  have gy4 := fun p os => cell_regrown y4 p os
  have x5 : w.cell? ⟨b, 5, none⟩ = some (.map (some R.l)) := cell_of hx.box rfl
  have gx5 := fun p os => cell_regrown x5 p os
  have y5 : w.cell? ⟨c, 5, none⟩ = some (.map (some R2.l)) := cell_of hy.box rfl
  have gy5 := fun p os => cell_regrown y5 p os
  have x6 : w.cell? ⟨b, 6, none⟩ = some (.map (some R.t)) := cell_of hx.box rfl
  have gx6 := fun p os => cell_regrown x6 p os
  have y6 : w.cell? ⟨c, 6, none⟩ = some (.map (some R2.t)) := cell_of hy.box rfl
  have gy6 := fun p os => cell_regrown y6 p os
  have v1 : ((n.time : Int) == (n.time : Int)) = true := by simp
  have v2 : ((n.uid : Int) == (n.uid : Int)) = true := by simp
  have v3 : ((n.mark : Int) == (n.mark : Int)) = true := by simp
  clear hx hy e1 e2 e3 e4 e5 ne
  go_enter Tryz.func16, Tryz.ntmps16
  go_wp2_with fail
  refine wp_region_quiet_below (by kernel_rfl) (by kernel_rfl) ?_
  simp only [List.append_eq, List.cons_append, List.nil_append]
  repeat (go_big_quiet_step (first | (with_reducible exact N1 _ _) | (with_reducible exact N2 _ _) | (with_reducible exact M37 _ _) | (with_reducible exact M38 _ _) | (with_reducible exact M39 _ _)))
  refine wpQuiet_nil ?_
  intro _ hw'
  obtain ⟨⟨dq, osq⟩, hw''⟩ := hw'
  subst hw''
  have HC := Lib.hid (chg_of_below (below_regrown w dq osq))
  go_wp2_with fail
  go_ret
  exact ⟨rfl, HC.out⟩
end
end Go.Proofs.YtgmmglmokkcgeaaGreat
