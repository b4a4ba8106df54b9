/- NetOnly: the walk, as the law's frame wants it. -/
import Derived.Test.YtpgioccbnkcjcaaNl
namespace Go.Proofs.Ytpgioccbnkcjcaa
open Go.RowKit Mk
theorem walkNetOnly (v0 : Value) (w : World) (hst : ∃ len f, stepsAt w v0 len f ∧ ∀ i, i < len → ∃ xs, xs.length = (f i).sl ∧ IntsAt w (f i).so xs) : Calls Try.prog 5 #[v0] w fun e w' => e = .returned (.bool true) ∧ Below w.heap.size w w' := by
  obtain ⟨len, f, hv, hs⟩ := hst
  obtain ⟨ao, cap, rfl⟩ := hv.1
  exact (only_any w ao cap len f hv hs).mono fun e w' h => ⟨h.1, h.2.below (fun _ h => absurd h (fun h => h)) (Nat.le_refl _)⟩
end Go.Proofs.Ytpgioccbnkcjcaa
