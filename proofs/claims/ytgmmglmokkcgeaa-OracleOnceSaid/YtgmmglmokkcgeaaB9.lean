/- OracleOnce's walk, as the law wants it. -/
import Derived.Test.YtgmmglmokkcgeaaB8
import Derived.Test.YtgmmglmokkcgeaaAk
namespace Go.Proofs.Ytgmmglmokkcgeaa
set_option linter.unusedVariables false
set_option linter.unusedSimpArgs false
open Go.RowKit Mk
theorem walkOracleOnce (ao : Option Addr) (x : ByteArray) (hx : x.size ≤ 140737488351232) (W : World) {len cap : Nat} (h : ∃ so n cp L, Value.slice ao len cap = Value.slice so n cp ∧ L.length = n ∧ OpsAt W so L) :
    Calls Try.prog 4 #[.slice ao len cap, .string x] W fun e w' => e = .returned (.bool true) ∧ Below W.heap.size W w' := by
  obtain ⟨so, n, cp, L, e, hl, ho⟩ := h
  cases e
  exact (onceWalk ho hl (by unfold maxLen; omega)).mono fun e w' h => ⟨h.1, below_of_chg h.2⟩
end Go.Proofs.Ytgmmglmokkcgeaa
