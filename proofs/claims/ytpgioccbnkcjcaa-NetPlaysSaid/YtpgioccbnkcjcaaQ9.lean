/- NetPlays: the walk, as the law's frame wants it. -/
import Derived.Test.YtpgioccbnkcjcaaQ8
namespace Go.Proofs.Ytpgioccbnkcjcaa
open Go.RowKit Mk
theorem walkNetPlays (a0 a1 : Int) (v2 v3 : Value) (w0 : (Lit.int .i64 a0).wf = true) (w1 : (Lit.int .u64 a1).wf = true) (w : World) (h2 : ∃ len f, stepsAt w v2 len f ∧ sidesOk w len f) (h3 : ∃ len f, stepsAt w v3 len f ∧ sidesOk w len f) :
    Calls Try.prog 6 #[.int .i64 a0, .int .u64 a1, v2, v3] w fun e w' => e = .returned (.bool true) ∧ Below w.heap.size w w' := by
  have hb : 0 ≤ a1 ∧ a1 < 18446744073709551616 := by
    simp only [Lit.wf, Bool.and_eq_true, decide_eq_true_eq, IntKind.min, IntKind.max, IntKind.bits, IntKind.signed] at w1
    have h1 : 0 ≤ a1 := by have := w1.1; simpa using this
    have h2 : a1 ≤ 18446744073709551615 := by have := w1.2; simpa using this
    omega
  obtain ⟨s, rfl⟩ : ∃ s : Nat, a1 = s := ⟨a1.toNat, by omega⟩
  exact plays_any w a0 s (i64_of w0) (by omega) v2 v3 h2 h3
end Go.Proofs.Ytpgioccbnkcjcaa
