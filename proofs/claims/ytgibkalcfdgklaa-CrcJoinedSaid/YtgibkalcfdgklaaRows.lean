/-
  No cell of these rows narrows 'for every input' (looked for: loops, veiled, ifaces, maps, wideKeys, modest, calm, conditions, laid).
  DERIVED. THE GIVEN ROWS OF THIS SEAT. 5 by the template 'for every input the law returns true; each argument reads behind the call as it read before'; 0 by the template 'total and deterministic' (their statements: YtgibkalcfdgklaaTotals.lean).
  GIVEN WITH THE SEED: the statements are not yours to turn. If you find one false, say at which input.
  Laid BY PROGRAM, IN A SANDBOX (cutbox-rows.mjs): the forced cells as the released guide's own fill.sh prints them over the translation 0aafa786c415527d… (all of the seat's roots in one cut). By AI agents, Wed Nov 11 2026. No macro, syntax, notation, axiom, sorry.
-/
import Derived.Test.YtgibkalcfdgklaaChecked
import GoSem.Claim
import GoSem.ClaimJoined
import GoSem.ClaimMapViews
import Derived.JoinedTies
import Derived.KernelRfl
namespace Go.Proofs.Ytgibkalcfdgklaa
/- THE CELL 'sum', in the pinned program and in every row, IS THE sha256 OF THE DUMP (.gsa) THAT YtgibkalcfdgklaaProg.lean LOADS. Nothing in Lean hashes anything: it is a label: what it is worth is what the hold of that sum in a sandbox is worth. -/
noncomputable def Try.pinned : Pinned := { name := "ytgibkalcfdgklaa", sum := "0aafa786c415527dd662035d880ce3c9f4bcc81d1b943fd43d6cb8d4a055f07e", checked := Try.checked }
namespace Rows
def none {H : Type} : Left H := { results := [], args := [] }

/-- 'tesseralaw01.CrcOfs': WHATEVER THE INPUT: true; the input reads as it did. -/
def crcOfsSpec : ChangeSpec := { name := "crcOfs", fn := fun _ => fun
  | [d1, d2] => { results := [.lit (.bool true)], args := [d1, d2] }
  | _ => none }
def crcOfsRow : OpenClaim := { program := "ytgibkalcfdgklaa", sum := "0aafa786c415527dd662035d880ce3c9f4bcc81d1b943fd43d6cb8d4a055f07e", func := "tessera/tesseralaw01.CrcOfs", spec := "crcOfs", apart := false }
def CrcOfsSaid : Prop := crcOfsRow.holds Try.pinned (OpenSpec.ofChange crcOfsSpec)

/-- ITS FALSE NEIGHBOUR: 'it returns false'. Refute it at one input. -/
def crcOfsWrong : ChangeSpec := { name := "crcOfs", fn := fun _ => fun
  | [d1, d2] => { results := [.lit (.bool false)], args := [d1, d2] }
  | _ => none }
def CrcOfsWrongFalsely : Prop := crcOfsRow.holds Try.pinned (OpenSpec.ofChange crcOfsWrong)

/-- 'tesseralaw01.CrcTexts': WHATEVER THE INPUT: true; the input reads as it did. -/
def crcTextsSpec : ChangeSpec := { name := "crcTexts", fn := fun _ => fun
  | [d1, d2] => { results := [.lit (.bool true)], args := [d1, d2] }
  | _ => none }
def crcTextsRow : OpenClaim := { program := "ytgibkalcfdgklaa", sum := "0aafa786c415527dd662035d880ce3c9f4bcc81d1b943fd43d6cb8d4a055f07e", func := "tessera/tesseralaw01.CrcTexts", spec := "crcTexts", apart := false }
def CrcTextsSaid : Prop := crcTextsRow.holds Try.pinned (OpenSpec.ofChange crcTextsSpec)

/-- ITS FALSE NEIGHBOUR: 'it returns false'. Refute it at one input. -/
def crcTextsWrong : ChangeSpec := { name := "crcTexts", fn := fun _ => fun
  | [d1, d2] => { results := [.lit (.bool false)], args := [d1, d2] }
  | _ => none }
def CrcTextsWrongFalsely : Prop := crcTextsRow.holds Try.pinned (OpenSpec.ofChange crcTextsWrong)

/-- 'tesseralaw01.CrcNotices': WHATEVER THE INPUT: true; the input reads as it did. -/
def crcNoticesSpec : ChangeSpec := { name := "crcNotices", fn := fun _ => fun
  | [d1, d2, d3] => { results := [.lit (.bool true)], args := [d1, d2, d3] }
  | _ => none }
def crcNoticesRow : OpenClaim := { program := "ytgibkalcfdgklaa", sum := "0aafa786c415527dd662035d880ce3c9f4bcc81d1b943fd43d6cb8d4a055f07e", func := "tessera/tesseralaw01.CrcNotices", spec := "crcNotices", apart := false }
def CrcNoticesSaid : Prop := crcNoticesRow.holds Try.pinned (OpenSpec.ofChange crcNoticesSpec)

/-- ITS FALSE NEIGHBOUR: 'it returns false'. Refute it at one input. -/
def crcNoticesWrong : ChangeSpec := { name := "crcNotices", fn := fun _ => fun
  | [d1, d2, d3] => { results := [.lit (.bool false)], args := [d1, d2, d3] }
  | _ => none }
def CrcNoticesWrongFalsely : Prop := crcNoticesRow.holds Try.pinned (OpenSpec.ofChange crcNoticesWrong)

/-- 'tesseralaw01.CrcNoughts': WHATEVER THE INPUT: true; the input reads as it did. -/
def crcNoughtsSpec : ChangeSpec := { name := "crcNoughts", fn := fun _ => fun
  | [d1, d2, d3] => { results := [.lit (.bool true)], args := [d1, d2, d3] }
  | _ => none }
def crcNoughtsRow : OpenClaim := { program := "ytgibkalcfdgklaa", sum := "0aafa786c415527dd662035d880ce3c9f4bcc81d1b943fd43d6cb8d4a055f07e", func := "tessera/tesseralaw01.CrcNoughts", spec := "crcNoughts", apart := false }
def CrcNoughtsSaid : Prop := crcNoughtsRow.holds Try.pinned (OpenSpec.ofChange crcNoughtsSpec)

/-- ITS FALSE NEIGHBOUR: 'it returns false'. Refute it at one input. -/
def crcNoughtsWrong : ChangeSpec := { name := "crcNoughts", fn := fun _ => fun
  | [d1, d2, d3] => { results := [.lit (.bool false)], args := [d1, d2, d3] }
  | _ => none }
def CrcNoughtsWrongFalsely : Prop := crcNoughtsRow.holds Try.pinned (OpenSpec.ofChange crcNoughtsWrong)

/-- 'tesseralaw01.CrcJoined': WHATEVER THE INPUT: true; the input reads as it did. -/
def crcJoinedSpec : ChangeSpec := { name := "crcJoined", fn := fun _ => fun
  | [d1, d2, d3] => { results := [.lit (.bool true)], args := [d1, d2, d3] }
  | _ => none }
def crcJoinedRow : OpenClaim := { program := "ytgibkalcfdgklaa", sum := "0aafa786c415527dd662035d880ce3c9f4bcc81d1b943fd43d6cb8d4a055f07e", func := "tessera/tesseralaw01.CrcJoined", spec := "crcJoined", apart := false }
def CrcJoinedSaid : Prop := crcJoinedRow.holds Try.pinned (OpenSpec.ofChange crcJoinedSpec)

/-- ITS FALSE NEIGHBOUR: 'it returns false'. Refute it at one input. -/
def crcJoinedWrong : ChangeSpec := { name := "crcJoined", fn := fun _ => fun
  | [d1, d2, d3] => { results := [.lit (.bool false)], args := [d1, d2, d3] }
  | _ => none }
def CrcJoinedWrongFalsely : Prop := crcJoinedRow.holds Try.pinned (OpenSpec.ofChange crcJoinedWrong)

/- THE SECOND FORM. 'bulk': how many values and letters a reading holds, each counted each time it is reached (what is shared counts as often as it is met; a slice's spare places count too). A statement '..UptoSaid' is the law's where the arguments, and the package variables that the reading takes, are together of bulk at most 1048576: NARROWER than '..Said'. Prove '..Said' where nothing that the law and all that it calls make is longer than what came in: it says more and counts as full. Else prove '..UptoSaid'. A law counts once. -/
mutual
def uptoBulk {H : Type} : DataW H → Nat
  | .lit (.string bytes) => bytes.length + 1
  | .lit _ => 1
  | .nil => 1
  | .ptr d => uptoBulk d + 1
  | .slice elems spare => uptoBulkAll elems + uptoBulkAll spare + 1
  | .agg parts => uptoBulkAll parts + 1
  | .iface _ d => uptoBulk d + 1
  | .map entries => uptoBulkEntries entries + 1
  | .held _ => 1
def uptoBulkAll {H : Type} : List (DataW H) → Nat
  | [] => 0
  | d :: r => uptoBulk d + uptoBulkAll r
def uptoBulkEntries {H : Type} : List (Lit × DataW H) → Nat
  | [] => 0
  | x :: r => uptoBulkEntry x + uptoBulkEntries r
def uptoBulkEntry {H : Type} : Lit × DataW H → Nat
  | (.string bytes, d) => bytes.length + uptoBulk d + 1
  | (_, d) => uptoBulk d + 1
 end
def uptoSmall : (H : Type) → List (DataW H) → Bool := fun _ ds => decide (uptoBulkAll ds ≤ 1048576)
def OpenSpec.upto (s : _root_.Go.ChangeSpec) : _root_.Go.OpenSpec := { _root_.Go.OpenSpec.ofChange s with cond := some uptoSmall }

/-- 'tesseralaw01.CrcOfs', WHERE WHAT IT READS IS OF BULK AT MOST 1048576: true; the input reads as it did. -/
def crcOfsUptoRow : OpenClaim := { program := "ytgibkalcfdgklaa", sum := "0aafa786c415527dd662035d880ce3c9f4bcc81d1b943fd43d6cb8d4a055f07e", func := "tessera/tesseralaw01.CrcOfs", spec := "crcOfs", apart := false, narrowed := true }
def CrcOfsUptoSaid : Prop := crcOfsUptoRow.holds Try.pinned (OpenSpec.upto crcOfsSpec)

/-- 'tesseralaw01.CrcTexts', WHERE WHAT IT READS IS OF BULK AT MOST 1048576: true; the input reads as it did. -/
def crcTextsUptoRow : OpenClaim := { program := "ytgibkalcfdgklaa", sum := "0aafa786c415527dd662035d880ce3c9f4bcc81d1b943fd43d6cb8d4a055f07e", func := "tessera/tesseralaw01.CrcTexts", spec := "crcTexts", apart := false, narrowed := true }
def CrcTextsUptoSaid : Prop := crcTextsUptoRow.holds Try.pinned (OpenSpec.upto crcTextsSpec)

/-- 'tesseralaw01.CrcNotices', WHERE WHAT IT READS IS OF BULK AT MOST 1048576: true; the input reads as it did. -/
def crcNoticesUptoRow : OpenClaim := { program := "ytgibkalcfdgklaa", sum := "0aafa786c415527dd662035d880ce3c9f4bcc81d1b943fd43d6cb8d4a055f07e", func := "tessera/tesseralaw01.CrcNotices", spec := "crcNotices", apart := false, narrowed := true }
def CrcNoticesUptoSaid : Prop := crcNoticesUptoRow.holds Try.pinned (OpenSpec.upto crcNoticesSpec)

/-- 'tesseralaw01.CrcNoughts', WHERE WHAT IT READS IS OF BULK AT MOST 1048576: true; the input reads as it did. -/
def crcNoughtsUptoRow : OpenClaim := { program := "ytgibkalcfdgklaa", sum := "0aafa786c415527dd662035d880ce3c9f4bcc81d1b943fd43d6cb8d4a055f07e", func := "tessera/tesseralaw01.CrcNoughts", spec := "crcNoughts", apart := false, narrowed := true }
def CrcNoughtsUptoSaid : Prop := crcNoughtsUptoRow.holds Try.pinned (OpenSpec.upto crcNoughtsSpec)

/-- 'tesseralaw01.CrcJoined', WHERE WHAT IT READS IS OF BULK AT MOST 1048576: true; the input reads as it did. -/
def crcJoinedUptoRow : OpenClaim := { program := "ytgibkalcfdgklaa", sum := "0aafa786c415527dd662035d880ce3c9f4bcc81d1b943fd43d6cb8d4a055f07e", func := "tessera/tesseralaw01.CrcJoined", spec := "crcJoined", apart := false, narrowed := true }
def CrcJoinedUptoSaid : Prop := crcJoinedUptoRow.holds Try.pinned (OpenSpec.upto crcJoinedSpec)

end Rows
end Go.Proofs.Ytgibkalcfdgklaa
