/- Walks: slices.Sort at uint64: isNaN, Less. Turned by wip/tools/portsort.py from the worked walks at int. -/
import Derived.Test.YtgmmglmokkcgeaaGreatProg
import Derived.Sort.Walk0
import Derived.Sort.WalkB12
namespace Go.Proofs.YtgmmglmokkcgeaaGreat
set_option linter.unusedVariables false
set_option linter.unusedSimpArgs false
open Go.RowKit Go.Sort

abbrev su_enc : Int → Value := fun x => Value.int .u64 x
set_option maxHeartbeats 16000000 in
set_option maxRecDepth 1000000 in
theorem su_cmp_isNaN (x : Int) (w : World) : Calls Tryz.prog 112 #[.int .u64 x] w fun e w' => e = .returned (.bool false) ∧ w' = w := by
  go_enter Tryz.func112, Tryz.ntmps112
  go_wp2
  go_ret
  exact ⟨by simp, rfl⟩
set_option maxHeartbeats 16000000 in
set_option maxRecDepth 1000000 in
theorem su_cmp_Less (x y : Int) (w : World) : Calls Tryz.prog 80 #[.int .u64 x, .int .u64 y] w fun e w' => e = .returned (.bool (Sort.ltInt x y)) ∧ w' = w := by
  go_enter Tryz.func80, Tryz.ntmps80
  go_wp2_with (go_at_call 112; refine (su_cmp_isNaN _ _).mono ?_; rintro e w' ⟨rfl, rfl⟩)
  go_ret
  exact ⟨rfl, rfl⟩

end Go.Proofs.YtgmmglmokkcgeaaGreat
