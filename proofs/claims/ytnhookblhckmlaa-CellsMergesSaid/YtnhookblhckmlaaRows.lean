/-
  No cell of these rows narrows 'for every input' (looked for: loops, veiled, ifaces, maps, wideKeys, modest, calm, conditions, laid).
  DERIVED. THE GIVEN ROWS OF THIS SEAT. 5 by the template 'for every input the law returns true; each argument reads behind the call as it read before'; 0 by the template 'total and deterministic' (their statements: YtnhookblhckmlaaTotals.lean).
  GIVEN WITH THE SEED: the statements are not yours to turn. If you find one false, say at which input.
  Laid BY PROGRAM, IN A SANDBOX (cutbox-rows.mjs): the forced cells as the released guide's own fill.sh prints them over the translation 4d5f333acabc592c… (all of the seat's roots in one cut). By AI agents, Wed Nov 11 2026. No macro, syntax, notation, axiom, sorry.
-/
import Derived.Test.YtnhookblhckmlaaChecked
import GoSem.Claim
import GoSem.ClaimJoined
import GoSem.ClaimMapViews
import Derived.JoinedTies
import Derived.KernelRfl
namespace Go.Proofs.Ytnhookblhckmlaa
/- THE CELL 'sum', in the pinned program and in every row, IS THE sha256 OF THE DUMP (.gsa) THAT YtnhookblhckmlaaProg.lean LOADS. Nothing in Lean hashes anything: it is a label: what it is worth is what the hold of that sum in a sandbox is worth. -/
noncomputable def Try.pinned : Pinned := { name := "ytnhookblhckmlaa", sum := "4d5f333acabc592cce2a2b8ff4e51480f8f8e8340960b81797b4dc5da88004fc", checked := Try.checked }
namespace Rows
def none {H : Type} : Left H := { results := [], args := [] }

/-- 'tesseralaw07.CellsOrder': WHATEVER THE INPUT: true; the input reads as it did. -/
def cellsOrderSpec : ChangeSpec := { name := "cellsOrder", fn := fun _ => fun
  | [d1, d2, d3] => { results := [.lit (.bool true)], args := [d1, d2, d3] }
  | _ => none }
def cellsOrderRow : OpenClaim := { program := "ytnhookblhckmlaa", sum := "4d5f333acabc592cce2a2b8ff4e51480f8f8e8340960b81797b4dc5da88004fc", func := "tessera/tesseralaw07.CellsOrder", spec := "cellsOrder", inPlace := ["slices.overlaps[tessera/api.Cell]"], unfollowed := true, recurses := true, apart := false }
def CellsOrderSaid : Prop := cellsOrderRow.holds Try.pinned (OpenSpec.ofChange cellsOrderSpec)

/-- ITS FALSE NEIGHBOUR: 'it returns false'. Refute it at one input. -/
def cellsOrderWrong : ChangeSpec := { name := "cellsOrder", fn := fun _ => fun
  | [d1, d2, d3] => { results := [.lit (.bool false)], args := [d1, d2, d3] }
  | _ => none }
def CellsOrderWrongFalsely : Prop := cellsOrderRow.holds Try.pinned (OpenSpec.ofChange cellsOrderWrong)

/-- 'tesseralaw07.CellsTime': WHATEVER THE INPUT: true; the input reads as it did. -/
def cellsTimeSpec : ChangeSpec := { name := "cellsTime", fn := fun _ => fun
  | [d1, d2, d3, d4, d5] => { results := [.lit (.bool true)], args := [d1, d2, d3, d4, d5] }
  | _ => none }
def cellsTimeRow : OpenClaim := { program := "ytnhookblhckmlaa", sum := "4d5f333acabc592cce2a2b8ff4e51480f8f8e8340960b81797b4dc5da88004fc", func := "tessera/tesseralaw07.CellsTime", spec := "cellsTime", inPlace := ["slices.overlaps[tessera/api.Cell]"], unfollowed := true, recurses := true, apart := false }
def CellsTimeSaid : Prop := cellsTimeRow.holds Try.pinned (OpenSpec.ofChange cellsTimeSpec)

/-- ITS FALSE NEIGHBOUR: 'it returns false'. Refute it at one input. -/
def cellsTimeWrong : ChangeSpec := { name := "cellsTime", fn := fun _ => fun
  | [d1, d2, d3, d4, d5] => { results := [.lit (.bool false)], args := [d1, d2, d3, d4, d5] }
  | _ => none }
def CellsTimeWrongFalsely : Prop := cellsTimeRow.holds Try.pinned (OpenSpec.ofChange cellsTimeWrong)

/-- 'tesseralaw07.CellsPlays': WHATEVER THE INPUT: true; the input reads as it did. -/
def cellsPlaysSpec : ChangeSpec := { name := "cellsPlays", fn := fun _ => fun
  | [d] => { results := [.lit (.bool true)], args := [d] }
  | _ => none }
def cellsPlaysRow : OpenClaim := { program := "ytnhookblhckmlaa", sum := "4d5f333acabc592cce2a2b8ff4e51480f8f8e8340960b81797b4dc5da88004fc", func := "tessera/tesseralaw07.CellsPlays", spec := "cellsPlays", inPlace := ["slices.overlaps[tessera/api.Cell]"], unfollowed := true, recurses := true, apart := false }
def CellsPlaysSaid : Prop := cellsPlaysRow.holds Try.pinned (OpenSpec.ofChange cellsPlaysSpec)

/-- ITS FALSE NEIGHBOUR: 'it returns false'. Refute it at one input. -/
def cellsPlaysWrong : ChangeSpec := { name := "cellsPlays", fn := fun _ => fun
  | [d] => { results := [.lit (.bool false)], args := [d] }
  | _ => none }
def CellsPlaysWrongFalsely : Prop := cellsPlaysRow.holds Try.pinned (OpenSpec.ofChange cellsPlaysWrong)

/-- 'tesseralaw07.CellsNil': WHATEVER THE INPUT: true; the input reads as it did. -/
def cellsNilSpec : ChangeSpec := { name := "cellsNil", fn := fun _ => fun
  | [d1, d2, d3] => { results := [.lit (.bool true)], args := [d1, d2, d3] }
  | _ => none }
def cellsNilRow : OpenClaim := { program := "ytnhookblhckmlaa", sum := "4d5f333acabc592cce2a2b8ff4e51480f8f8e8340960b81797b4dc5da88004fc", func := "tessera/tesseralaw07.CellsNil", spec := "cellsNil", inPlace := ["slices.overlaps[tessera/api.Cell]"], unfollowed := true, recurses := true, apart := false }
def CellsNilSaid : Prop := cellsNilRow.holds Try.pinned (OpenSpec.ofChange cellsNilSpec)

/-- ITS FALSE NEIGHBOUR: 'it returns false'. Refute it at one input. -/
def cellsNilWrong : ChangeSpec := { name := "cellsNil", fn := fun _ => fun
  | [d1, d2, d3] => { results := [.lit (.bool false)], args := [d1, d2, d3] }
  | _ => none }
def CellsNilWrongFalsely : Prop := cellsNilRow.holds Try.pinned (OpenSpec.ofChange cellsNilWrong)

/-- 'tesseralaw07.CellsMerges': WHATEVER THE INPUT: true; the input reads as it did. -/
def cellsMergesSpec : ChangeSpec := { name := "cellsMerges", fn := fun _ => fun
  | [d1, d2] => { results := [.lit (.bool true)], args := [d1, d2] }
  | _ => none }
def cellsMergesRow : OpenClaim := { program := "ytnhookblhckmlaa", sum := "4d5f333acabc592cce2a2b8ff4e51480f8f8e8340960b81797b4dc5da88004fc", func := "tessera/tesseralaw07.CellsMerges", spec := "cellsMerges", inPlace := ["slices.overlaps[tessera/api.Cell]"], unfollowed := true, recurses := true, apart := false }
def CellsMergesSaid : Prop := cellsMergesRow.holds Try.pinned (OpenSpec.ofChange cellsMergesSpec)

/-- ITS FALSE NEIGHBOUR: 'it returns false'. Refute it at one input. -/
def cellsMergesWrong : ChangeSpec := { name := "cellsMerges", fn := fun _ => fun
  | [d1, d2] => { results := [.lit (.bool false)], args := [d1, d2] }
  | _ => none }
def CellsMergesWrongFalsely : Prop := cellsMergesRow.holds Try.pinned (OpenSpec.ofChange cellsMergesWrong)

/- THE SECOND FORM. 'bulk': how many values and letters a reading holds, each counted each time it is reached (what is shared counts as often as it is met; a slice's spare places count too). A statement '..UptoSaid' is the law's where the arguments, and the package variables that the reading takes, are together of bulk at most 1048576: NARROWER than '..Said'. Prove '..Said' where nothing that the law and all that it calls make is longer than what came in: it says more and counts as full. Else prove '..UptoSaid'. A law counts once. -/
mutual
def uptoBulk {H : Type} : DataW H → Nat
  | .lit (.string bytes) => bytes.length + 1
  | .lit _ => 1
  | .nil => 1
  | .ptr d => uptoBulk d + 1
  | .slice elems spare => uptoBulkAll elems + uptoBulkAll spare + 1
  | .agg parts => uptoBulkAll parts + 1
  | .iface _ d => uptoBulk d + 1
  | .map entries => uptoBulkEntries entries + 1
  | .held _ => 1
def uptoBulkAll {H : Type} : List (DataW H) → Nat
  | [] => 0
  | d :: r => uptoBulk d + uptoBulkAll r
def uptoBulkEntries {H : Type} : List (Lit × DataW H) → Nat
  | [] => 0
  | x :: r => uptoBulkEntry x + uptoBulkEntries r
def uptoBulkEntry {H : Type} : Lit × DataW H → Nat
  | (.string bytes, d) => bytes.length + uptoBulk d + 1
  | (_, d) => uptoBulk d + 1
 end
def uptoSmall : (H : Type) → List (DataW H) → Bool := fun _ ds => decide (uptoBulkAll ds ≤ 1048576)
def OpenSpec.upto (s : _root_.Go.ChangeSpec) : _root_.Go.OpenSpec := { _root_.Go.OpenSpec.ofChange s with cond := some uptoSmall }

/-- 'tesseralaw07.CellsOrder', WHERE WHAT IT READS IS OF BULK AT MOST 1048576: true; the input reads as it did. -/
def cellsOrderUptoRow : OpenClaim := { program := "ytnhookblhckmlaa", sum := "4d5f333acabc592cce2a2b8ff4e51480f8f8e8340960b81797b4dc5da88004fc", func := "tessera/tesseralaw07.CellsOrder", spec := "cellsOrder", inPlace := ["slices.overlaps[tessera/api.Cell]"], unfollowed := true, recurses := true, apart := false, narrowed := true }
def CellsOrderUptoSaid : Prop := cellsOrderUptoRow.holds Try.pinned (OpenSpec.upto cellsOrderSpec)

/-- 'tesseralaw07.CellsTime', WHERE WHAT IT READS IS OF BULK AT MOST 1048576: true; the input reads as it did. -/
def cellsTimeUptoRow : OpenClaim := { program := "ytnhookblhckmlaa", sum := "4d5f333acabc592cce2a2b8ff4e51480f8f8e8340960b81797b4dc5da88004fc", func := "tessera/tesseralaw07.CellsTime", spec := "cellsTime", inPlace := ["slices.overlaps[tessera/api.Cell]"], unfollowed := true, recurses := true, apart := false, narrowed := true }
def CellsTimeUptoSaid : Prop := cellsTimeUptoRow.holds Try.pinned (OpenSpec.upto cellsTimeSpec)

/-- 'tesseralaw07.CellsPlays', WHERE WHAT IT READS IS OF BULK AT MOST 1048576: true; the input reads as it did. -/
def cellsPlaysUptoRow : OpenClaim := { program := "ytnhookblhckmlaa", sum := "4d5f333acabc592cce2a2b8ff4e51480f8f8e8340960b81797b4dc5da88004fc", func := "tessera/tesseralaw07.CellsPlays", spec := "cellsPlays", inPlace := ["slices.overlaps[tessera/api.Cell]"], unfollowed := true, recurses := true, apart := false, narrowed := true }
def CellsPlaysUptoSaid : Prop := cellsPlaysUptoRow.holds Try.pinned (OpenSpec.upto cellsPlaysSpec)

/-- 'tesseralaw07.CellsNil', WHERE WHAT IT READS IS OF BULK AT MOST 1048576: true; the input reads as it did. -/
def cellsNilUptoRow : OpenClaim := { program := "ytnhookblhckmlaa", sum := "4d5f333acabc592cce2a2b8ff4e51480f8f8e8340960b81797b4dc5da88004fc", func := "tessera/tesseralaw07.CellsNil", spec := "cellsNil", inPlace := ["slices.overlaps[tessera/api.Cell]"], unfollowed := true, recurses := true, apart := false, narrowed := true }
def CellsNilUptoSaid : Prop := cellsNilUptoRow.holds Try.pinned (OpenSpec.upto cellsNilSpec)

/-- 'tesseralaw07.CellsMerges', WHERE WHAT IT READS IS OF BULK AT MOST 1048576: true; the input reads as it did. -/
def cellsMergesUptoRow : OpenClaim := { program := "ytnhookblhckmlaa", sum := "4d5f333acabc592cce2a2b8ff4e51480f8f8e8340960b81797b4dc5da88004fc", func := "tessera/tesseralaw07.CellsMerges", spec := "cellsMerges", inPlace := ["slices.overlaps[tessera/api.Cell]"], unfollowed := true, recurses := true, apart := false, narrowed := true }
def CellsMergesUptoSaid : Prop := cellsMergesUptoRow.holds Try.pinned (OpenSpec.upto cellsMergesSpec)

end Rows
end Go.Proofs.Ytnhookblhckmlaa
