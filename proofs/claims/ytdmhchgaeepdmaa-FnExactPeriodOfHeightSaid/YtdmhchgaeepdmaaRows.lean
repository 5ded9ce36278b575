/-
  No cell of these rows narrows 'for every input' (looked for: loops, veiled, ifaces, maps, wideKeys, modest, calm, conditions, laid).
  DERIVED. THE GIVEN ROWS OF THIS SEAT. 11 by the template 'for every input the law returns true; each argument reads behind the call as it read before'; 0 by the template 'total and deterministic' (their statements: YtdmhchgaeepdmaaTotals.lean).
  GIVEN WITH THE SEED: the statements are not yours to turn. If you find one false, say at which input.
  Laid BY PROGRAM, IN A SANDBOX (cutbox-rows.mjs): the forced cells as the released guide's own fill.sh prints them over the translation 7acf7e94d9868602… (all of the seat's roots in one cut). By AI agents, Wed Nov 11 2026. No macro, syntax, notation, axiom, sorry.
-/
import Derived.Test.YtdmhchgaeepdmaaChecked
import GoSem.Claim
import GoSem.ClaimJoined
import GoSem.ClaimMapViews
import Derived.JoinedTies
import Derived.KernelRfl
namespace Go.Proofs.Ytdmhchgaeepdmaa
/- THE CELL 'sum', in the pinned program and in every row, IS THE sha256 OF THE DUMP (.gsa) THAT YtdmhchgaeepdmaaProg.lean LOADS. Nothing in Lean hashes anything: it is a label: what it is worth is what the hold of that sum in a sandbox is worth. -/
noncomputable def Try.pinned : Pinned := { name := "ytdmhchgaeepdmaa", sum := "7acf7e94d98686025e23946958fb3d0f8054b00870d616b339c4e10a9a2e8c98", checked := Try.checked }
namespace Rows
def none {H : Type} : Left H := { results := [], args := [] }

/-- 'laws.FnExactCountColumns': WHATEVER THE INPUT: true; the input reads as it did. -/
def fnExactCountColumnsSpec : ChangeSpec := { name := "fnExactCountColumns", fn := fun _ => fun
  | [d1, d2] => { results := [.lit (.bool true)], args := [d1, d2] }
  | _ => none }
def fnExactCountColumnsRow : OpenClaim := { program := "ytdmhchgaeepdmaa", sum := "7acf7e94d98686025e23946958fb3d0f8054b00870d616b339c4e10a9a2e8c98", func := "loop.example/g01354/laws.FnExactCountColumns", spec := "fnExactCountColumns", unfollowed := true, recurses := true, apart := false }
def FnExactCountColumnsSaid : Prop := fnExactCountColumnsRow.holds Try.pinned (OpenSpec.ofChange fnExactCountColumnsSpec)

/-- ITS FALSE NEIGHBOUR: 'it returns false'. Refute it at one input. -/
def fnExactCountColumnsWrong : ChangeSpec := { name := "fnExactCountColumns", fn := fun _ => fun
  | [d1, d2] => { results := [.lit (.bool false)], args := [d1, d2] }
  | _ => none }
def FnExactCountColumnsWrongFalsely : Prop := fnExactCountColumnsRow.holds Try.pinned (OpenSpec.ofChange fnExactCountColumnsWrong)

/-- 'laws.FnExactLastingTiles': WHATEVER THE INPUT: true; the input reads as it did. -/
def fnExactLastingTilesSpec : ChangeSpec := { name := "fnExactLastingTiles", fn := fun _ => fun
  | [d] => { results := [.lit (.bool true)], args := [d] }
  | _ => none }
def fnExactLastingTilesRow : OpenClaim := { program := "ytdmhchgaeepdmaa", sum := "7acf7e94d98686025e23946958fb3d0f8054b00870d616b339c4e10a9a2e8c98", func := "loop.example/g01354/laws.FnExactLastingTiles", spec := "fnExactLastingTiles", unfollowed := true, recurses := true, apart := false }
def FnExactLastingTilesSaid : Prop := fnExactLastingTilesRow.holds Try.pinned (OpenSpec.ofChange fnExactLastingTilesSpec)

/-- ITS FALSE NEIGHBOUR: 'it returns false'. Refute it at one input. -/
def fnExactLastingTilesWrong : ChangeSpec := { name := "fnExactLastingTiles", fn := fun _ => fun
  | [d] => { results := [.lit (.bool false)], args := [d] }
  | _ => none }
def FnExactLastingTilesWrongFalsely : Prop := fnExactLastingTilesRow.holds Try.pinned (OpenSpec.ofChange fnExactLastingTilesWrong)

/-- 'laws.FnExactStripSequence': WHATEVER THE INPUT: true; the input reads as it did. -/
def fnExactStripSequenceSpec : ChangeSpec := { name := "fnExactStripSequence", fn := fun _ => fun
  | [d1, d2, d3] => { results := [.lit (.bool true)], args := [d1, d2, d3] }
  | _ => none }
def fnExactStripSequenceRow : OpenClaim := { program := "ytdmhchgaeepdmaa", sum := "7acf7e94d98686025e23946958fb3d0f8054b00870d616b339c4e10a9a2e8c98", func := "loop.example/g01354/laws.FnExactStripSequence", spec := "fnExactStripSequence", unfollowed := true, recurses := true, apart := false }
def FnExactStripSequenceSaid : Prop := fnExactStripSequenceRow.holds Try.pinned (OpenSpec.ofChange fnExactStripSequenceSpec)

/-- ITS FALSE NEIGHBOUR: 'it returns false'. Refute it at one input. -/
def fnExactStripSequenceWrong : ChangeSpec := { name := "fnExactStripSequence", fn := fun _ => fun
  | [d1, d2, d3] => { results := [.lit (.bool false)], args := [d1, d2, d3] }
  | _ => none }
def FnExactStripSequenceWrongFalsely : Prop := fnExactStripSequenceRow.holds Try.pinned (OpenSpec.ofChange fnExactStripSequenceWrong)

/-- 'laws.FnExactColumnTable': WHATEVER THE INPUT: true; the input reads as it did. -/
def fnExactColumnTableSpec : ChangeSpec := { name := "fnExactColumnTable", fn := fun _ => fun
  | [d1, d2] => { results := [.lit (.bool true)], args := [d1, d2] }
  | _ => none }
def fnExactColumnTableRow : OpenClaim := { program := "ytdmhchgaeepdmaa", sum := "7acf7e94d98686025e23946958fb3d0f8054b00870d616b339c4e10a9a2e8c98", func := "loop.example/g01354/laws.FnExactColumnTable", spec := "fnExactColumnTable", unfollowed := true, recurses := true, apart := false }
def FnExactColumnTableSaid : Prop := fnExactColumnTableRow.holds Try.pinned (OpenSpec.ofChange fnExactColumnTableSpec)

/-- ITS FALSE NEIGHBOUR: 'it returns false'. Refute it at one input. -/
def fnExactColumnTableWrong : ChangeSpec := { name := "fnExactColumnTable", fn := fun _ => fun
  | [d1, d2] => { results := [.lit (.bool false)], args := [d1, d2] }
  | _ => none }
def FnExactColumnTableWrongFalsely : Prop := fnExactColumnTableRow.holds Try.pinned (OpenSpec.ofChange fnExactColumnTableWrong)

/-- 'laws.FnExactColumnWords': WHATEVER THE INPUT: true; the input reads as it did. -/
def fnExactColumnWordsSpec : ChangeSpec := { name := "fnExactColumnWords", fn := fun _ => fun
  | [d1, d2] => { results := [.lit (.bool true)], args := [d1, d2] }
  | _ => none }
def fnExactColumnWordsRow : OpenClaim := { program := "ytdmhchgaeepdmaa", sum := "7acf7e94d98686025e23946958fb3d0f8054b00870d616b339c4e10a9a2e8c98", func := "loop.example/g01354/laws.FnExactColumnWords", spec := "fnExactColumnWords", unfollowed := true, recurses := true, apart := false }
def FnExactColumnWordsSaid : Prop := fnExactColumnWordsRow.holds Try.pinned (OpenSpec.ofChange fnExactColumnWordsSpec)

/-- ITS FALSE NEIGHBOUR: 'it returns false'. Refute it at one input. -/
def fnExactColumnWordsWrong : ChangeSpec := { name := "fnExactColumnWords", fn := fun _ => fun
  | [d1, d2] => { results := [.lit (.bool false)], args := [d1, d2] }
  | _ => none }
def FnExactColumnWordsWrongFalsely : Prop := fnExactColumnWordsRow.holds Try.pinned (OpenSpec.ofChange fnExactColumnWordsWrong)

/-- 'laws.FnExactRecurrenceOf': WHATEVER THE INPUT: true; the input reads as it did. -/
def fnExactRecurrenceOfSpec : ChangeSpec := { name := "fnExactRecurrenceOf", fn := fun _ => fun
  | [d1, d2] => { results := [.lit (.bool true)], args := [d1, d2] }
  | _ => none }
def fnExactRecurrenceOfRow : OpenClaim := { program := "ytdmhchgaeepdmaa", sum := "7acf7e94d98686025e23946958fb3d0f8054b00870d616b339c4e10a9a2e8c98", func := "loop.example/g01354/laws.FnExactRecurrenceOf", spec := "fnExactRecurrenceOf", unfollowed := true, recurses := true, apart := false }
def FnExactRecurrenceOfSaid : Prop := fnExactRecurrenceOfRow.holds Try.pinned (OpenSpec.ofChange fnExactRecurrenceOfSpec)

/-- ITS FALSE NEIGHBOUR: 'it returns false'. Refute it at one input. -/
def fnExactRecurrenceOfWrong : ChangeSpec := { name := "fnExactRecurrenceOf", fn := fun _ => fun
  | [d1, d2] => { results := [.lit (.bool false)], args := [d1, d2] }
  | _ => none }
def FnExactRecurrenceOfWrongFalsely : Prop := fnExactRecurrenceOfRow.holds Try.pinned (OpenSpec.ofChange fnExactRecurrenceOfWrong)

/-- 'laws.FnExactStrongParts': WHATEVER THE INPUT: true; the input reads as it did. -/
def fnExactStrongPartsSpec : ChangeSpec := { name := "fnExactStrongParts", fn := fun _ => fun
  | [d1, d2] => { results := [.lit (.bool true)], args := [d1, d2] }
  | _ => none }
def fnExactStrongPartsRow : OpenClaim := { program := "ytdmhchgaeepdmaa", sum := "7acf7e94d98686025e23946958fb3d0f8054b00870d616b339c4e10a9a2e8c98", func := "loop.example/g01354/laws.FnExactStrongParts", spec := "fnExactStrongParts", unfollowed := true, recurses := true, apart := false }
def FnExactStrongPartsSaid : Prop := fnExactStrongPartsRow.holds Try.pinned (OpenSpec.ofChange fnExactStrongPartsSpec)

/-- ITS FALSE NEIGHBOUR: 'it returns false'. Refute it at one input. -/
def fnExactStrongPartsWrong : ChangeSpec := { name := "fnExactStrongParts", fn := fun _ => fun
  | [d1, d2] => { results := [.lit (.bool false)], args := [d1, d2] }
  | _ => none }
def FnExactStrongPartsWrongFalsely : Prop := fnExactStrongPartsRow.holds Try.pinned (OpenSpec.ofChange fnExactStrongPartsWrong)

/-- 'laws.FnExactIsMixing': WHATEVER THE INPUT: true; the input reads as it did. -/
def fnExactIsMixingSpec : ChangeSpec := { name := "fnExactIsMixing", fn := fun _ => fun
  | [d1, d2] => { results := [.lit (.bool true)], args := [d1, d2] }
  | _ => none }
def fnExactIsMixingRow : OpenClaim := { program := "ytdmhchgaeepdmaa", sum := "7acf7e94d98686025e23946958fb3d0f8054b00870d616b339c4e10a9a2e8c98", func := "loop.example/g01354/laws.FnExactIsMixing", spec := "fnExactIsMixing", unfollowed := true, recurses := true, apart := false }
def FnExactIsMixingSaid : Prop := fnExactIsMixingRow.holds Try.pinned (OpenSpec.ofChange fnExactIsMixingSpec)

/-- ITS FALSE NEIGHBOUR: 'it returns false'. Refute it at one input. -/
def fnExactIsMixingWrong : ChangeSpec := { name := "fnExactIsMixing", fn := fun _ => fun
  | [d1, d2] => { results := [.lit (.bool false)], args := [d1, d2] }
  | _ => none }
def FnExactIsMixingWrongFalsely : Prop := fnExactIsMixingRow.holds Try.pinned (OpenSpec.ofChange fnExactIsMixingWrong)

/-- 'laws.FnExactPeriodOfHeight': WHATEVER THE INPUT: true; the input reads as it did. -/
def fnExactPeriodOfHeightSpec : ChangeSpec := { name := "fnExactPeriodOfHeight", fn := fun _ => fun
  | [d1, d2] => { results := [.lit (.bool true)], args := [d1, d2] }
  | _ => none }
def fnExactPeriodOfHeightRow : OpenClaim := { program := "ytdmhchgaeepdmaa", sum := "7acf7e94d98686025e23946958fb3d0f8054b00870d616b339c4e10a9a2e8c98", func := "loop.example/g01354/laws.FnExactPeriodOfHeight", spec := "fnExactPeriodOfHeight", unfollowed := true, recurses := true, apart := false }
def FnExactPeriodOfHeightSaid : Prop := fnExactPeriodOfHeightRow.holds Try.pinned (OpenSpec.ofChange fnExactPeriodOfHeightSpec)

/-- ITS FALSE NEIGHBOUR: 'it returns false'. Refute it at one input. -/
def fnExactPeriodOfHeightWrong : ChangeSpec := { name := "fnExactPeriodOfHeight", fn := fun _ => fun
  | [d1, d2] => { results := [.lit (.bool false)], args := [d1, d2] }
  | _ => none }
def FnExactPeriodOfHeightWrongFalsely : Prop := fnExactPeriodOfHeightRow.holds Try.pinned (OpenSpec.ofChange fnExactPeriodOfHeightWrong)

/-- 'laws.FnColumns': WHATEVER THE INPUT: true; the input reads as it did. -/
def fnColumnsSpec : ChangeSpec := { name := "fnColumns", fn := fun _ => fun
  | [d] => { results := [.lit (.bool true)], args := [d] }
  | _ => none }
def fnColumnsRow : OpenClaim := { program := "ytdmhchgaeepdmaa", sum := "7acf7e94d98686025e23946958fb3d0f8054b00870d616b339c4e10a9a2e8c98", func := "loop.example/g01354/laws.FnColumns", spec := "fnColumns", unfollowed := true, recurses := true, apart := false }
def FnColumnsSaid : Prop := fnColumnsRow.holds Try.pinned (OpenSpec.ofChange fnColumnsSpec)

/-- ITS FALSE NEIGHBOUR: 'it returns false'. Refute it at one input. -/
def fnColumnsWrong : ChangeSpec := { name := "fnColumns", fn := fun _ => fun
  | [d] => { results := [.lit (.bool false)], args := [d] }
  | _ => none }
def FnColumnsWrongFalsely : Prop := fnColumnsRow.holds Try.pinned (OpenSpec.ofChange fnColumnsWrong)

/-- 'laws.FnColumnGraphs': WHATEVER THE INPUT: true; the input reads as it did. -/
def fnColumnGraphsSpec : ChangeSpec := { name := "fnColumnGraphs", fn := fun _ => fun
  | [d] => { results := [.lit (.bool true)], args := [d] }
  | _ => none }
def fnColumnGraphsRow : OpenClaim := { program := "ytdmhchgaeepdmaa", sum := "7acf7e94d98686025e23946958fb3d0f8054b00870d616b339c4e10a9a2e8c98", func := "loop.example/g01354/laws.FnColumnGraphs", spec := "fnColumnGraphs", unfollowed := true, recurses := true, apart := false }
def FnColumnGraphsSaid : Prop := fnColumnGraphsRow.holds Try.pinned (OpenSpec.ofChange fnColumnGraphsSpec)

/-- ITS FALSE NEIGHBOUR: 'it returns false'. Refute it at one input. -/
def fnColumnGraphsWrong : ChangeSpec := { name := "fnColumnGraphs", fn := fun _ => fun
  | [d] => { results := [.lit (.bool false)], args := [d] }
  | _ => none }
def FnColumnGraphsWrongFalsely : Prop := fnColumnGraphsRow.holds Try.pinned (OpenSpec.ofChange fnColumnGraphsWrong)

/- THE SECOND FORM. 'bulk': how many values and letters a reading holds, each counted each time it is reached (what is shared counts as often as it is met; a slice's spare places count too). A statement '..UptoSaid' is the law's where the arguments, and the package variables that the reading takes, are together of bulk at most 1048576: NARROWER than '..Said'. Prove '..Said' where nothing that the law and all that it calls make is longer than what came in: it says more and counts as full. Else prove '..UptoSaid'. A law counts once. -/
mutual
def uptoBulk {H : Type} : DataW H → Nat
  | .lit (.string bytes) => bytes.length + 1
  | .lit _ => 1
  | .nil => 1
  | .ptr d => uptoBulk d + 1
  | .slice elems spare => uptoBulkAll elems + uptoBulkAll spare + 1
  | .agg parts => uptoBulkAll parts + 1
  | .iface _ d => uptoBulk d + 1
  | .map entries => uptoBulkEntries entries + 1
  | .held _ => 1
def uptoBulkAll {H : Type} : List (DataW H) → Nat
  | [] => 0
  | d :: r => uptoBulk d + uptoBulkAll r
def uptoBulkEntries {H : Type} : List (Lit × DataW H) → Nat
  | [] => 0
  | x :: r => uptoBulkEntry x + uptoBulkEntries r
def uptoBulkEntry {H : Type} : Lit × DataW H → Nat
  | (.string bytes, d) => bytes.length + uptoBulk d + 1
  | (_, d) => uptoBulk d + 1
 end
def uptoSmall : (H : Type) → List (DataW H) → Bool := fun _ ds => decide (uptoBulkAll ds ≤ 1048576)
def OpenSpec.upto (s : _root_.Go.ChangeSpec) : _root_.Go.OpenSpec := { _root_.Go.OpenSpec.ofChange s with cond := some uptoSmall }

/-- 'laws.FnExactCountColumns', WHERE WHAT IT READS IS OF BULK AT MOST 1048576: true; the input reads as it did. -/
def fnExactCountColumnsUptoRow : OpenClaim := { program := "ytdmhchgaeepdmaa", sum := "7acf7e94d98686025e23946958fb3d0f8054b00870d616b339c4e10a9a2e8c98", func := "loop.example/g01354/laws.FnExactCountColumns", spec := "fnExactCountColumns", unfollowed := true, recurses := true, apart := false, narrowed := true }
def FnExactCountColumnsUptoSaid : Prop := fnExactCountColumnsUptoRow.holds Try.pinned (OpenSpec.upto fnExactCountColumnsSpec)

/-- 'laws.FnExactLastingTiles', WHERE WHAT IT READS IS OF BULK AT MOST 1048576: true; the input reads as it did. -/
def fnExactLastingTilesUptoRow : OpenClaim := { program := "ytdmhchgaeepdmaa", sum := "7acf7e94d98686025e23946958fb3d0f8054b00870d616b339c4e10a9a2e8c98", func := "loop.example/g01354/laws.FnExactLastingTiles", spec := "fnExactLastingTiles", unfollowed := true, recurses := true, apart := false, narrowed := true }
def FnExactLastingTilesUptoSaid : Prop := fnExactLastingTilesUptoRow.holds Try.pinned (OpenSpec.upto fnExactLastingTilesSpec)

/-- 'laws.FnExactStripSequence', WHERE WHAT IT READS IS OF BULK AT MOST 1048576: true; the input reads as it did. -/
def fnExactStripSequenceUptoRow : OpenClaim := { program := "ytdmhchgaeepdmaa", sum := "7acf7e94d98686025e23946958fb3d0f8054b00870d616b339c4e10a9a2e8c98", func := "loop.example/g01354/laws.FnExactStripSequence", spec := "fnExactStripSequence", unfollowed := true, recurses := true, apart := false, narrowed := true }
def FnExactStripSequenceUptoSaid : Prop := fnExactStripSequenceUptoRow.holds Try.pinned (OpenSpec.upto fnExactStripSequenceSpec)

/-- 'laws.FnExactColumnTable', WHERE WHAT IT READS IS OF BULK AT MOST 1048576: true; the input reads as it did. -/
def fnExactColumnTableUptoRow : OpenClaim := { program := "ytdmhchgaeepdmaa", sum := "7acf7e94d98686025e23946958fb3d0f8054b00870d616b339c4e10a9a2e8c98", func := "loop.example/g01354/laws.FnExactColumnTable", spec := "fnExactColumnTable", unfollowed := true, recurses := true, apart := false, narrowed := true }
def FnExactColumnTableUptoSaid : Prop := fnExactColumnTableUptoRow.holds Try.pinned (OpenSpec.upto fnExactColumnTableSpec)

/-- 'laws.FnExactColumnWords', WHERE WHAT IT READS IS OF BULK AT MOST 1048576: true; the input reads as it did. -/
def fnExactColumnWordsUptoRow : OpenClaim := { program := "ytdmhchgaeepdmaa", sum := "7acf7e94d98686025e23946958fb3d0f8054b00870d616b339c4e10a9a2e8c98", func := "loop.example/g01354/laws.FnExactColumnWords", spec := "fnExactColumnWords", unfollowed := true, recurses := true, apart := false, narrowed := true }
def FnExactColumnWordsUptoSaid : Prop := fnExactColumnWordsUptoRow.holds Try.pinned (OpenSpec.upto fnExactColumnWordsSpec)

/-- 'laws.FnExactRecurrenceOf', WHERE WHAT IT READS IS OF BULK AT MOST 1048576: true; the input reads as it did. -/
def fnExactRecurrenceOfUptoRow : OpenClaim := { program := "ytdmhchgaeepdmaa", sum := "7acf7e94d98686025e23946958fb3d0f8054b00870d616b339c4e10a9a2e8c98", func := "loop.example/g01354/laws.FnExactRecurrenceOf", spec := "fnExactRecurrenceOf", unfollowed := true, recurses := true, apart := false, narrowed := true }
def FnExactRecurrenceOfUptoSaid : Prop := fnExactRecurrenceOfUptoRow.holds Try.pinned (OpenSpec.upto fnExactRecurrenceOfSpec)

/-- 'laws.FnExactStrongParts', WHERE WHAT IT READS IS OF BULK AT MOST 1048576: true; the input reads as it did. -/
def fnExactStrongPartsUptoRow : OpenClaim := { program := "ytdmhchgaeepdmaa", sum := "7acf7e94d98686025e23946958fb3d0f8054b00870d616b339c4e10a9a2e8c98", func := "loop.example/g01354/laws.FnExactStrongParts", spec := "fnExactStrongParts", unfollowed := true, recurses := true, apart := false, narrowed := true }
def FnExactStrongPartsUptoSaid : Prop := fnExactStrongPartsUptoRow.holds Try.pinned (OpenSpec.upto fnExactStrongPartsSpec)

/-- 'laws.FnExactIsMixing', WHERE WHAT IT READS IS OF BULK AT MOST 1048576: true; the input reads as it did. -/
def fnExactIsMixingUptoRow : OpenClaim := { program := "ytdmhchgaeepdmaa", sum := "7acf7e94d98686025e23946958fb3d0f8054b00870d616b339c4e10a9a2e8c98", func := "loop.example/g01354/laws.FnExactIsMixing", spec := "fnExactIsMixing", unfollowed := true, recurses := true, apart := false, narrowed := true }
def FnExactIsMixingUptoSaid : Prop := fnExactIsMixingUptoRow.holds Try.pinned (OpenSpec.upto fnExactIsMixingSpec)

/-- 'laws.FnExactPeriodOfHeight', WHERE WHAT IT READS IS OF BULK AT MOST 1048576: true; the input reads as it did. -/
def fnExactPeriodOfHeightUptoRow : OpenClaim := { program := "ytdmhchgaeepdmaa", sum := "7acf7e94d98686025e23946958fb3d0f8054b00870d616b339c4e10a9a2e8c98", func := "loop.example/g01354/laws.FnExactPeriodOfHeight", spec := "fnExactPeriodOfHeight", unfollowed := true, recurses := true, apart := false, narrowed := true }
def FnExactPeriodOfHeightUptoSaid : Prop := fnExactPeriodOfHeightUptoRow.holds Try.pinned (OpenSpec.upto fnExactPeriodOfHeightSpec)

/-- 'laws.FnColumns', WHERE WHAT IT READS IS OF BULK AT MOST 1048576: true; the input reads as it did. -/
def fnColumnsUptoRow : OpenClaim := { program := "ytdmhchgaeepdmaa", sum := "7acf7e94d98686025e23946958fb3d0f8054b00870d616b339c4e10a9a2e8c98", func := "loop.example/g01354/laws.FnColumns", spec := "fnColumns", unfollowed := true, recurses := true, apart := false, narrowed := true }
def FnColumnsUptoSaid : Prop := fnColumnsUptoRow.holds Try.pinned (OpenSpec.upto fnColumnsSpec)

/-- 'laws.FnColumnGraphs', WHERE WHAT IT READS IS OF BULK AT MOST 1048576: true; the input reads as it did. -/
def fnColumnGraphsUptoRow : OpenClaim := { program := "ytdmhchgaeepdmaa", sum := "7acf7e94d98686025e23946958fb3d0f8054b00870d616b339c4e10a9a2e8c98", func := "loop.example/g01354/laws.FnColumnGraphs", spec := "fnColumnGraphs", unfollowed := true, recurses := true, apart := false, narrowed := true }
def FnColumnGraphsUptoSaid : Prop := fnColumnGraphsUptoRow.holds Try.pinned (OpenSpec.upto fnColumnGraphsSpec)

end Rows
end Go.Proofs.Ytdmhchgaeepdmaa
