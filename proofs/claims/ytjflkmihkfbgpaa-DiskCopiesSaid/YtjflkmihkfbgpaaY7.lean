/- DiskPlays: the walk, as the law's frame wants it. -/
import Derived.Test.YtjflkmihkfbgpaaY6
namespace Go.Proofs.Ytjflkmihkfbgpaa
open Go.RowKit
theorem openT32 {H : Type} {enc : TypeId × Value → H} {w : World} {base : Nat} {spare : Nat → Bool} {held : Bool} {v : Value} {d : DataW H} {p : List MemPlace} (hv1 : v.cells.toList = [v])
    (h : DataW.Trod enc Try.prog w base spare held 32 v d p) : ∃ len f, stepsAt w v len f := open_steps hv1 h
theorem walkDiskPlays (a0 : Int) (v1 : Value) (w0 : (Lit.int .i64 a0).wf = true) (w : World) (h : ∃ len f, stepsAt w v1 len f) :
    Calls Try.prog 4 #[.int .i64 a0, v1] w fun e w' => e = .returned (.bool true) ∧ Below w.heap.size w w' := plays_any w a0 (i64_of w0).2 (i64_of w0).1 v1 h
end Go.Proofs.Ytjflkmihkfbgpaa
