/- DiskCopies: the walk, as the law's frame wants it. -/
import Derived.Test.YtjflkmihkfbgpaaY7
import Derived.Test.YtjflkmihkfbgpaaZ8
namespace Go.Proofs.Ytjflkmihkfbgpaa
open Go.RowKit
theorem walkDiskCopies (a0 : Int) (v1 v2 : Value) (w0 : (Lit.int .i64 a0).wf = true) (w : World) (h1 : ∃ len f, stepsAt w v1 len f) (h2 : ∃ len f, stepsAt w v2 len f) :
    Calls Try.prog 5 #[.int .i64 a0, v1, v2] w fun e w' => e = .returned (.bool true) ∧ Below w.heap.size w w' := copies_any w a0 (i64_of w0).2 (i64_of w0).1 v1 v2 h1 h2
end Go.Proofs.Ytjflkmihkfbgpaa
