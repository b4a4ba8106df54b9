/- CellsPlays, of what comes in. -/
import Derived.Test.YtnhookblhckmlaaS3
namespace Go.Proofs.Ytnhookblhckmlaa
open Go.RowKit
theorem walkCellsPlays' {w : World} {v0 : Value} (h0 : ∃ so n cp S, v0 = .slice so n cp ∧ S.length = n ∧ StepsAt w so S) :
    Calls Try.prog 5 #[v0] w fun e w' => e = .returned (.bool true) ∧ RowKit.Below w.heap.size w w' := by
  obtain ⟨so, n, cp, S, rfl, rfl, h⟩ := h0
  exact walkCellsPlays h
end Go.Proofs.Ytnhookblhckmlaa
