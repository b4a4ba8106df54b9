/-
  No cell of these rows narrows 'for every input' (looked for: loops, veiled, ifaces, maps, wideKeys, modest, calm, conditions, laid).
  DERIVED. THE GIVEN ROWS OF THIS SEAT. 5 by the template 'for every input the law returns true; each argument reads behind the call as it read before'; 0 by the template 'total and deterministic' (their statements: YtcaemfogknaioaaTotals.lean).
  GIVEN WITH THE SEED: the statements are not yours to turn. If you find one false, say at which input.
  Laid BY PROGRAM, IN A SANDBOX (cutbox-rows.mjs): the forced cells as the released guide's own fill.sh prints them over the translation 582cdafde9d12add… (all of the seat's roots in one cut). By AI agents, Wed Nov 11 2026. No macro, syntax, notation, axiom, sorry.
-/
import Derived.Test.YtcaemfogknaioaaChecked
import GoSem.Claim
import GoSem.ClaimJoined
import GoSem.ClaimMapViews
import Derived.JoinedTies
import Derived.KernelRfl
namespace Go.Proofs.Ytcaemfogknaioaa
/- THE CELL 'sum', in the pinned program and in every row, IS THE sha256 OF THE DUMP (.gsa) THAT YtcaemfogknaioaaProg.lean LOADS. Nothing in Lean hashes anything: it is a label: what it is worth is what the hold of that sum in a sandbox is worth. -/
noncomputable def Try.pinned : Pinned := { name := "ytcaemfogknaioaa", sum := "582cdafde9d12add574b0c13da2f55e2b31a97ff3b6eb39113cb6adc33b461c9", checked := Try.checked }
namespace Rows
def none {H : Type} : Left H := { results := [], args := [] }

/-- 'tesseralaw15.ApplyCommands': WHATEVER THE INPUT: true; the input reads as it did. -/
def applyCommandsSpec : ChangeSpec := { name := "applyCommands", fn := fun _ => fun
  | [d1, d2, d3, d4] => { results := [.lit (.bool true)], args := [d1, d2, d3, d4] }
  | _ => none }
def applyCommandsRow : OpenClaim := { program := "ytcaemfogknaioaa", sum := "582cdafde9d12add574b0c13da2f55e2b31a97ff3b6eb39113cb6adc33b461c9", func := "tessera/tesseralaw15.ApplyCommands", spec := "applyCommands", unfollowed := true, recurses := true, plainKeys := false, apart := false }
def ApplyCommandsSaid : Prop := applyCommandsRow.holds Try.pinned (OpenSpec.ofChange applyCommandsSpec)

/-- ITS FALSE NEIGHBOUR: 'it returns false'. Refute it at one input. -/
def applyCommandsWrong : ChangeSpec := { name := "applyCommands", fn := fun _ => fun
  | [d1, d2, d3, d4] => { results := [.lit (.bool false)], args := [d1, d2, d3, d4] }
  | _ => none }
def ApplyCommandsWrongFalsely : Prop := applyCommandsRow.holds Try.pinned (OpenSpec.ofChange applyCommandsWrong)

/-- 'tesseralaw15.ApplyOnce': WHATEVER THE INPUT: true; the input reads as it did. -/
def applyOnceSpec : ChangeSpec := { name := "applyOnce", fn := fun _ => fun
  | [d1, d2] => { results := [.lit (.bool true)], args := [d1, d2] }
  | _ => none }
def applyOnceRow : OpenClaim := { program := "ytcaemfogknaioaa", sum := "582cdafde9d12add574b0c13da2f55e2b31a97ff3b6eb39113cb6adc33b461c9", func := "tessera/tesseralaw15.ApplyOnce", spec := "applyOnce", unfollowed := true, recurses := true, plainKeys := false, apart := false }
def ApplyOnceSaid : Prop := applyOnceRow.holds Try.pinned (OpenSpec.ofChange applyOnceSpec)

/-- ITS FALSE NEIGHBOUR: 'it returns false'. Refute it at one input. -/
def applyOnceWrong : ChangeSpec := { name := "applyOnce", fn := fun _ => fun
  | [d1, d2] => { results := [.lit (.bool false)], args := [d1, d2] }
  | _ => none }
def ApplyOnceWrongFalsely : Prop := applyOnceRow.holds Try.pinned (OpenSpec.ofChange applyOnceWrong)

/-- 'tesseralaw15.ApplyReads': WHATEVER THE INPUT: true; the input reads as it did. -/
def applyReadsSpec : ChangeSpec := { name := "applyReads", fn := fun _ => fun
  | [d] => { results := [.lit (.bool true)], args := [d] }
  | _ => none }
def applyReadsRow : OpenClaim := { program := "ytcaemfogknaioaa", sum := "582cdafde9d12add574b0c13da2f55e2b31a97ff3b6eb39113cb6adc33b461c9", func := "tessera/tesseralaw15.ApplyReads", spec := "applyReads", unfollowed := true, recurses := true, plainKeys := false, apart := false }
def ApplyReadsSaid : Prop := applyReadsRow.holds Try.pinned (OpenSpec.ofChange applyReadsSpec)

/-- ITS FALSE NEIGHBOUR: 'it returns false'. Refute it at one input. -/
def applyReadsWrong : ChangeSpec := { name := "applyReads", fn := fun _ => fun
  | [d] => { results := [.lit (.bool false)], args := [d] }
  | _ => none }
def ApplyReadsWrongFalsely : Prop := applyReadsRow.holds Try.pinned (OpenSpec.ofChange applyReadsWrong)

/-- 'tesseralaw15.ApplyPlays': WHATEVER THE INPUT: true; the input reads as it did. -/
def applyPlaysSpec : ChangeSpec := { name := "applyPlays", fn := fun _ => fun
  | [d1, d2, d3] => { results := [.lit (.bool true)], args := [d1, d2, d3] }
  | _ => none }
def applyPlaysRow : OpenClaim := { program := "ytcaemfogknaioaa", sum := "582cdafde9d12add574b0c13da2f55e2b31a97ff3b6eb39113cb6adc33b461c9", func := "tessera/tesseralaw15.ApplyPlays", spec := "applyPlays", unfollowed := true, recurses := true, plainKeys := false, apart := false }
def ApplyPlaysSaid : Prop := applyPlaysRow.holds Try.pinned (OpenSpec.ofChange applyPlaysSpec)

/-- ITS FALSE NEIGHBOUR: 'it returns false'. Refute it at one input. -/
def applyPlaysWrong : ChangeSpec := { name := "applyPlays", fn := fun _ => fun
  | [d1, d2, d3] => { results := [.lit (.bool false)], args := [d1, d2, d3] }
  | _ => none }
def ApplyPlaysWrongFalsely : Prop := applyPlaysRow.holds Try.pinned (OpenSpec.ofChange applyPlaysWrong)

/-- 'tesseralaw15.ApplyNil': WHATEVER THE INPUT: true; the input reads as it did. -/
def applyNilSpec : ChangeSpec := { name := "applyNil", fn := fun _ => fun
  | [d1, d2, d3] => { results := [.lit (.bool true)], args := [d1, d2, d3] }
  | _ => none }
def applyNilRow : OpenClaim := { program := "ytcaemfogknaioaa", sum := "582cdafde9d12add574b0c13da2f55e2b31a97ff3b6eb39113cb6adc33b461c9", func := "tessera/tesseralaw15.ApplyNil", spec := "applyNil", unfollowed := true, recurses := true, plainKeys := false, apart := false }
def ApplyNilSaid : Prop := applyNilRow.holds Try.pinned (OpenSpec.ofChange applyNilSpec)

/-- ITS FALSE NEIGHBOUR: 'it returns false'. Refute it at one input. -/
def applyNilWrong : ChangeSpec := { name := "applyNil", fn := fun _ => fun
  | [d1, d2, d3] => { results := [.lit (.bool false)], args := [d1, d2, d3] }
  | _ => none }
def ApplyNilWrongFalsely : Prop := applyNilRow.holds Try.pinned (OpenSpec.ofChange applyNilWrong)

/- THE SECOND FORM. 'bulk': how many values and letters a reading holds, each counted each time it is reached (what is shared counts as often as it is met; a slice's spare places count too). A statement '..UptoSaid' is the law's where the arguments, and the package variables that the reading takes, are together of bulk at most 1048576: NARROWER than '..Said'. Prove '..Said' where nothing that the law and all that it calls make is longer than what came in: it says more and counts as full. Else prove '..UptoSaid'. A law counts once. -/
mutual
def uptoBulk {H : Type} : DataW H → Nat
  | .lit (.string bytes) => bytes.length + 1
  | .lit _ => 1
  | .nil => 1
  | .ptr d => uptoBulk d + 1
  | .slice elems spare => uptoBulkAll elems + uptoBulkAll spare + 1
  | .agg parts => uptoBulkAll parts + 1
  | .iface _ d => uptoBulk d + 1
  | .map entries => uptoBulkEntries entries + 1
  | .held _ => 1
def uptoBulkAll {H : Type} : List (DataW H) → Nat
  | [] => 0
  | d :: r => uptoBulk d + uptoBulkAll r
def uptoBulkEntries {H : Type} : List (Lit × DataW H) → Nat
  | [] => 0
  | x :: r => uptoBulkEntry x + uptoBulkEntries r
def uptoBulkEntry {H : Type} : Lit × DataW H → Nat
  | (.string bytes, d) => bytes.length + uptoBulk d + 1
  | (_, d) => uptoBulk d + 1
 end
def uptoSmall : (H : Type) → List (DataW H) → Bool := fun _ ds => decide (uptoBulkAll ds ≤ 1048576)
def OpenSpec.upto (s : _root_.Go.ChangeSpec) : _root_.Go.OpenSpec := { _root_.Go.OpenSpec.ofChange s with cond := some uptoSmall }

/-- 'tesseralaw15.ApplyCommands', WHERE WHAT IT READS IS OF BULK AT MOST 1048576: true; the input reads as it did. -/
def applyCommandsUptoRow : OpenClaim := { program := "ytcaemfogknaioaa", sum := "582cdafde9d12add574b0c13da2f55e2b31a97ff3b6eb39113cb6adc33b461c9", func := "tessera/tesseralaw15.ApplyCommands", spec := "applyCommands", unfollowed := true, recurses := true, plainKeys := false, apart := false, narrowed := true }
def ApplyCommandsUptoSaid : Prop := applyCommandsUptoRow.holds Try.pinned (OpenSpec.upto applyCommandsSpec)

/-- 'tesseralaw15.ApplyOnce', WHERE WHAT IT READS IS OF BULK AT MOST 1048576: true; the input reads as it did. -/
def applyOnceUptoRow : OpenClaim := { program := "ytcaemfogknaioaa", sum := "582cdafde9d12add574b0c13da2f55e2b31a97ff3b6eb39113cb6adc33b461c9", func := "tessera/tesseralaw15.ApplyOnce", spec := "applyOnce", unfollowed := true, recurses := true, plainKeys := false, apart := false, narrowed := true }
def ApplyOnceUptoSaid : Prop := applyOnceUptoRow.holds Try.pinned (OpenSpec.upto applyOnceSpec)

/-- 'tesseralaw15.ApplyReads', WHERE WHAT IT READS IS OF BULK AT MOST 1048576: true; the input reads as it did. -/
def applyReadsUptoRow : OpenClaim := { program := "ytcaemfogknaioaa", sum := "582cdafde9d12add574b0c13da2f55e2b31a97ff3b6eb39113cb6adc33b461c9", func := "tessera/tesseralaw15.ApplyReads", spec := "applyReads", unfollowed := true, recurses := true, plainKeys := false, apart := false, narrowed := true }
def ApplyReadsUptoSaid : Prop := applyReadsUptoRow.holds Try.pinned (OpenSpec.upto applyReadsSpec)

/-- 'tesseralaw15.ApplyPlays', WHERE WHAT IT READS IS OF BULK AT MOST 1048576: true; the input reads as it did. -/
def applyPlaysUptoRow : OpenClaim := { program := "ytcaemfogknaioaa", sum := "582cdafde9d12add574b0c13da2f55e2b31a97ff3b6eb39113cb6adc33b461c9", func := "tessera/tesseralaw15.ApplyPlays", spec := "applyPlays", unfollowed := true, recurses := true, plainKeys := false, apart := false, narrowed := true }
def ApplyPlaysUptoSaid : Prop := applyPlaysUptoRow.holds Try.pinned (OpenSpec.upto applyPlaysSpec)

/-- 'tesseralaw15.ApplyNil', WHERE WHAT IT READS IS OF BULK AT MOST 1048576: true; the input reads as it did. -/
def applyNilUptoRow : OpenClaim := { program := "ytcaemfogknaioaa", sum := "582cdafde9d12add574b0c13da2f55e2b31a97ff3b6eb39113cb6adc33b461c9", func := "tessera/tesseralaw15.ApplyNil", spec := "applyNil", unfollowed := true, recurses := true, plainKeys := false, apart := false, narrowed := true }
def ApplyNilUptoSaid : Prop := applyNilUptoRow.holds Try.pinned (OpenSpec.upto applyNilSpec)

end Rows
end Go.Proofs.Ytcaemfogknaioaa
