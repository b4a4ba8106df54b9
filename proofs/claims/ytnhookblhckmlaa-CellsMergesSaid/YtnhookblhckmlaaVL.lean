/- CellsMerges, of what comes in. -/
import Derived.Test.YtnhookblhckmlaaVK
namespace Go.Proofs.Ytnhookblhckmlaa
open Go.RowKit
theorem walkCellsMerges' {w : World} {v0 : Value} (h0 : ∃ so n cp Ls, v0 = .slice so n cp ∧ Ls.length = n ∧ n ≤ 9223372036854775807 ∧ n ≤ cp ∧ LsAt w so Ls) {most : Int} (hm : (Lit.int .i64 most).wf = true) :
    Calls Try.prog 7 #[v0, .int .i64 most] w fun e w' => e = .returned (.bool true) ∧ RowKit.Below w.heap.size w w' := by
  obtain ⟨so, n, cp, Ls, rfl, rfl, hl, _, h⟩ := h0
  exact walkMerges h hl hm
end Go.Proofs.Ytnhookblhckmlaa
