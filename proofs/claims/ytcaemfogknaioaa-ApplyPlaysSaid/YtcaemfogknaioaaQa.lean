/- The walk of ApplyPlays, its arguments as the frame hands them. -/
import Derived.Test.YtcaemfogknaioaaQ9
import Derived.Test.YtcaemfogknaioaaE1
namespace Go.Proofs.Ytcaemfogknaioaa
open Go.RowKit Mk Go.Sort

theorem walkApplyPlays (a0 : ByteArray) (v1 : Value) (a2 : Int) (w0 : a0.size ≤ 140737488351232) (w2 : (Lit.int .u64 a2).wf = true) (w : World) (hst1 : ∃ len f, actsAt w v1 len f) :
    Calls Try.prog 6 #[.string a0, v1, .int .u64 a2] w fun e w' => e = .returned (.bool true) ∧ Below w.heap.size w w' := by
  obtain ⟨len, f, hV⟩ := hst1
  obtain ⟨ao, cap, rfl⟩ := hV.1
  have hb : 0 ≤ a2 ∧ a2 < 18446744073709551616 := by
    simp [Lit.wf, IntKind.min, IntKind.max, IntKind.bits, IntKind.signed] at w2
    omega
  obtain ⟨n, rfl⟩ : ∃ n : Nat, a2 = n := ⟨a2.toNat, by omega⟩
  exact (playsWalk w0 hV (show okU n by unfold okU; omega)).mono fun e w' h => ⟨h.1, below_of_chg h.2⟩
end Go.Proofs.Ytcaemfogknaioaa
