/- OracleApart's walk, as the law wants it. -/
import Derived.Test.YtgmmglmokkcgeaaAm
namespace Go.Proofs.Ytgmmglmokkcgeaa
open Go.RowKit Mk
theorem walkOracleApart' (W : World) {ao : Option Addr} {len cap : Nat} (h : ∃ so n cp L, Value.slice ao len cap = Value.slice so n cp ∧ L.length = n ∧ OpsAt W so L) :
    Calls Try.prog 3 #[.slice ao len cap] W fun e w' => e = .returned (.bool true) ∧ Below W.heap.size W w' := by
  obtain ⟨so, n, cp, L, e, hl, ho⟩ := h
  cases e
  exact (walkOracleApart ho hl).mono fun e w' h => ⟨h.1, below_of_chg h.2⟩
end Go.Proofs.Ytgmmglmokkcgeaa
