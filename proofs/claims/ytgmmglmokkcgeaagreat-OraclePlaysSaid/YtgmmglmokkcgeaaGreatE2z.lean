/- Walks: the document's May. -/
import Derived.Test.YtgmmglmokkcgeaaGreatE2j
namespace Go.Proofs.YtgmmglmokkcgeaaGreat
open Go.RowKit Mk
theorem rmay_any {w : World} {o : OpM} {l : OpL} (h : OpAt w o l) :
    Calls Tryz.prog 61 #[.agg (opC o l)] w fun e w' => e = .returned (.bool (mayM o)) ∧ Chg (fun _ => False) w w' := by
  by_cases h1 : o.k = 1
  · exact rmay_1 h h1
  by_cases h2 : o.k = 2
  · exact rmay_2 h h2
  by_cases h3 : o.k = 3
  · exact rmay_3 h h3
  by_cases h4 : o.k = 4
  · exact rmay_4 h h4
  by_cases h5 : o.k = 5
  · exact rmay_5 h h5
  by_cases h6 : o.k = 6
  · exact rmay_6 h h6
  by_cases h7 : o.k = 7
  · exact rmay_7 h h7
  by_cases h8 : o.k = 8
  · exact rmay_8 h h8
  by_cases h9 : o.k = 9
  · exact rmay_9 h h9
  exact rmay_else h (fun k a b e => by omega)
end Go.Proofs.YtgmmglmokkcgeaaGreat
