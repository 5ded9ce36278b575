/-
  No cell of these rows narrows 'for every input' (looked for: loops, veiled, ifaces, maps, wideKeys, modest, calm, conditions, laid).
  DERIVED. THE GIVEN ROWS OF THIS SEAT. 12 by the template 'for every input the law returns true; each argument reads behind the call as it read before'; 0 by the template 'total and deterministic' (their statements: YtfmjjpophipfbaaTotals.lean).
  GIVEN WITH THE SEED: the statements are not yours to turn. If you find one false, say at which input.
  Laid BY PROGRAM, IN A SANDBOX (cutbox-rows.mjs): the forced cells as the released guide's own fill.sh prints them over the translation 7959ad941fd4fc0e… (all of the seat's roots in one cut). By AI agents, Wed Nov 11 2026. No macro, syntax, notation, axiom, sorry.
-/
import Derived.Test.YtfmjjpophipfbaaChecked
import GoSem.Claim
import GoSem.ClaimJoined
import GoSem.ClaimMapViews
import Derived.JoinedTies
import Derived.KernelRfl
namespace Go.Proofs.Ytfmjjpophipfbaa
/- THE CELL 'sum', in the pinned program and in every row, IS THE sha256 OF THE DUMP (.gsa) THAT YtfmjjpophipfbaaProg.lean LOADS. Nothing in Lean hashes anything: it is a label: what it is worth is what the hold of that sum in a sandbox is worth. -/
noncomputable def Try.pinned : Pinned := { name := "ytfmjjpophipfbaa", sum := "7959ad941fd4fc0ea79bdb2fb596bdfc2fcd6be9d567ba81b1d08de52c6d1197", checked := Try.checked }
namespace Rows
def none {H : Type} : Left H := { results := [], args := [] }

/-- 'laws.FnExactCountCylinders': WHATEVER THE INPUT: true; the input reads as it did. -/
def fnExactCountCylindersSpec : ChangeSpec := { name := "fnExactCountCylinders", fn := fun _ => fun
  | [d1, d2, d3] => { results := [.lit (.bool true)], args := [d1, d2, d3] }
  | _ => none }
def fnExactCountCylindersRow : OpenClaim := { program := "ytfmjjpophipfbaa", sum := "7959ad941fd4fc0ea79bdb2fb596bdfc2fcd6be9d567ba81b1d08de52c6d1197", func := "loop.example/g01354/laws.FnExactCountCylinders", spec := "fnExactCountCylinders", unfollowed := true, recurses := true, apart := false }
def FnExactCountCylindersSaid : Prop := fnExactCountCylindersRow.holds Try.pinned (OpenSpec.ofChange fnExactCountCylindersSpec)

/-- ITS FALSE NEIGHBOUR: 'it returns false'. Refute it at one input. -/
def fnExactCountCylindersWrong : ChangeSpec := { name := "fnExactCountCylinders", fn := fun _ => fun
  | [d1, d2, d3] => { results := [.lit (.bool false)], args := [d1, d2, d3] }
  | _ => none }
def FnExactCountCylindersWrongFalsely : Prop := fnExactCountCylindersRow.holds Try.pinned (OpenSpec.ofChange fnExactCountCylindersWrong)

/-- 'laws.FnExactCountTori': WHATEVER THE INPUT: true; the input reads as it did. -/
def fnExactCountToriSpec : ChangeSpec := { name := "fnExactCountTori", fn := fun _ => fun
  | [d1, d2, d3] => { results := [.lit (.bool true)], args := [d1, d2, d3] }
  | _ => none }
def fnExactCountToriRow : OpenClaim := { program := "ytfmjjpophipfbaa", sum := "7959ad941fd4fc0ea79bdb2fb596bdfc2fcd6be9d567ba81b1d08de52c6d1197", func := "loop.example/g01354/laws.FnExactCountTori", spec := "fnExactCountTori", unfollowed := true, recurses := true, apart := false }
def FnExactCountToriSaid : Prop := fnExactCountToriRow.holds Try.pinned (OpenSpec.ofChange fnExactCountToriSpec)

/-- ITS FALSE NEIGHBOUR: 'it returns false'. Refute it at one input. -/
def fnExactCountToriWrong : ChangeSpec := { name := "fnExactCountTori", fn := fun _ => fun
  | [d1, d2, d3] => { results := [.lit (.bool false)], args := [d1, d2, d3] }
  | _ => none }
def FnExactCountToriWrongFalsely : Prop := fnExactCountToriRow.holds Try.pinned (OpenSpec.ofChange fnExactCountToriWrong)

/-- 'laws.FnExactIsCylinder': WHATEVER THE INPUT: true; the input reads as it did. -/
def fnExactIsCylinderSpec : ChangeSpec := { name := "fnExactIsCylinder", fn := fun _ => fun
  | [d1, d2] => { results := [.lit (.bool true)], args := [d1, d2] }
  | _ => none }
def fnExactIsCylinderRow : OpenClaim := { program := "ytfmjjpophipfbaa", sum := "7959ad941fd4fc0ea79bdb2fb596bdfc2fcd6be9d567ba81b1d08de52c6d1197", func := "loop.example/g01354/laws.FnExactIsCylinder", spec := "fnExactIsCylinder", unfollowed := true, recurses := true, apart := false }
def FnExactIsCylinderSaid : Prop := fnExactIsCylinderRow.holds Try.pinned (OpenSpec.ofChange fnExactIsCylinderSpec)

/-- ITS FALSE NEIGHBOUR: 'it returns false'. Refute it at one input. -/
def fnExactIsCylinderWrong : ChangeSpec := { name := "fnExactIsCylinder", fn := fun _ => fun
  | [d1, d2] => { results := [.lit (.bool false)], args := [d1, d2] }
  | _ => none }
def FnExactIsCylinderWrongFalsely : Prop := fnExactIsCylinderRow.holds Try.pinned (OpenSpec.ofChange fnExactIsCylinderWrong)

/-- 'laws.FnExactIsTorus': WHATEVER THE INPUT: true; the input reads as it did. -/
def fnExactIsTorusSpec : ChangeSpec := { name := "fnExactIsTorus", fn := fun _ => fun
  | [d1, d2] => { results := [.lit (.bool true)], args := [d1, d2] }
  | _ => none }
def fnExactIsTorusRow : OpenClaim := { program := "ytfmjjpophipfbaa", sum := "7959ad941fd4fc0ea79bdb2fb596bdfc2fcd6be9d567ba81b1d08de52c6d1197", func := "loop.example/g01354/laws.FnExactIsTorus", spec := "fnExactIsTorus", unfollowed := true, recurses := true, apart := false }
def FnExactIsTorusSaid : Prop := fnExactIsTorusRow.holds Try.pinned (OpenSpec.ofChange fnExactIsTorusSpec)

/-- ITS FALSE NEIGHBOUR: 'it returns false'. Refute it at one input. -/
def fnExactIsTorusWrong : ChangeSpec := { name := "fnExactIsTorus", fn := fun _ => fun
  | [d1, d2] => { results := [.lit (.bool false)], args := [d1, d2] }
  | _ => none }
def FnExactIsTorusWrongFalsely : Prop := fnExactIsTorusRow.holds Try.pinned (OpenSpec.ofChange fnExactIsTorusWrong)

/-- 'laws.FnExactTorusTable': WHATEVER THE INPUT: true; the input reads as it did. -/
def fnExactTorusTableSpec : ChangeSpec := { name := "fnExactTorusTable", fn := fun _ => fun
  | [d] => { results := [.lit (.bool true)], args := [d] }
  | _ => none }
def fnExactTorusTableRow : OpenClaim := { program := "ytfmjjpophipfbaa", sum := "7959ad941fd4fc0ea79bdb2fb596bdfc2fcd6be9d567ba81b1d08de52c6d1197", func := "loop.example/g01354/laws.FnExactTorusTable", spec := "fnExactTorusTable", unfollowed := true, recurses := true, apart := false }
def FnExactTorusTableSaid : Prop := fnExactTorusTableRow.holds Try.pinned (OpenSpec.ofChange fnExactTorusTableSpec)

/-- ITS FALSE NEIGHBOUR: 'it returns false'. Refute it at one input. -/
def fnExactTorusTableWrong : ChangeSpec := { name := "fnExactTorusTable", fn := fun _ => fun
  | [d] => { results := [.lit (.bool false)], args := [d] }
  | _ => none }
def FnExactTorusTableWrongFalsely : Prop := fnExactTorusTableRow.holds Try.pinned (OpenSpec.ofChange fnExactTorusTableWrong)

/-- 'laws.FnExactLeastTorus': WHATEVER THE INPUT: true; the input reads as it did. -/
def fnExactLeastTorusSpec : ChangeSpec := { name := "fnExactLeastTorus", fn := fun _ => fun
  | [d] => { results := [.lit (.bool true)], args := [d] }
  | _ => none }
def fnExactLeastTorusRow : OpenClaim := { program := "ytfmjjpophipfbaa", sum := "7959ad941fd4fc0ea79bdb2fb596bdfc2fcd6be9d567ba81b1d08de52c6d1197", func := "loop.example/g01354/laws.FnExactLeastTorus", spec := "fnExactLeastTorus", unfollowed := true, recurses := true, apart := false }
def FnExactLeastTorusSaid : Prop := fnExactLeastTorusRow.holds Try.pinned (OpenSpec.ofChange fnExactLeastTorusSpec)

/-- ITS FALSE NEIGHBOUR: 'it returns false'. Refute it at one input. -/
def fnExactLeastTorusWrong : ChangeSpec := { name := "fnExactLeastTorus", fn := fun _ => fun
  | [d] => { results := [.lit (.bool false)], args := [d] }
  | _ => none }
def FnExactLeastTorusWrongFalsely : Prop := fnExactLeastTorusRow.holds Try.pinned (OpenSpec.ofChange fnExactLeastTorusWrong)

/-- 'laws.FnExactFirstTorus': WHATEVER THE INPUT: true; the input reads as it did. -/
def fnExactFirstTorusSpec : ChangeSpec := { name := "fnExactFirstTorus", fn := fun _ => fun
  | [d1, d2, d3] => { results := [.lit (.bool true)], args := [d1, d2, d3] }
  | _ => none }
def fnExactFirstTorusRow : OpenClaim := { program := "ytfmjjpophipfbaa", sum := "7959ad941fd4fc0ea79bdb2fb596bdfc2fcd6be9d567ba81b1d08de52c6d1197", func := "loop.example/g01354/laws.FnExactFirstTorus", spec := "fnExactFirstTorus", unfollowed := true, recurses := true, apart := false }
def FnExactFirstTorusSaid : Prop := fnExactFirstTorusRow.holds Try.pinned (OpenSpec.ofChange fnExactFirstTorusSpec)

/-- ITS FALSE NEIGHBOUR: 'it returns false'. Refute it at one input. -/
def fnExactFirstTorusWrong : ChangeSpec := { name := "fnExactFirstTorus", fn := fun _ => fun
  | [d1, d2, d3] => { results := [.lit (.bool false)], args := [d1, d2, d3] }
  | _ => none }
def FnExactFirstTorusWrongFalsely : Prop := fnExactFirstTorusRow.holds Try.pinned (OpenSpec.ofChange fnExactFirstTorusWrong)

/-- 'laws.FnExactCountForms': WHATEVER THE INPUT: true; the input reads as it did. -/
def fnExactCountFormsSpec : ChangeSpec := { name := "fnExactCountForms", fn := fun _ => fun
  | [d1, d2, d3] => { results := [.lit (.bool true)], args := [d1, d2, d3] }
  | _ => none }
def fnExactCountFormsRow : OpenClaim := { program := "ytfmjjpophipfbaa", sum := "7959ad941fd4fc0ea79bdb2fb596bdfc2fcd6be9d567ba81b1d08de52c6d1197", func := "loop.example/g01354/laws.FnExactCountForms", spec := "fnExactCountForms", unfollowed := true, recurses := true, apart := false }
def FnExactCountFormsSaid : Prop := fnExactCountFormsRow.holds Try.pinned (OpenSpec.ofChange fnExactCountFormsSpec)

/-- ITS FALSE NEIGHBOUR: 'it returns false'. Refute it at one input. -/
def fnExactCountFormsWrong : ChangeSpec := { name := "fnExactCountForms", fn := fun _ => fun
  | [d1, d2, d3] => { results := [.lit (.bool false)], args := [d1, d2, d3] }
  | _ => none }
def FnExactCountFormsWrongFalsely : Prop := fnExactCountFormsRow.holds Try.pinned (OpenSpec.ofChange fnExactCountFormsWrong)

/-- 'laws.FnExactShiftTorus': WHATEVER THE INPUT: true; the input reads as it did. -/
def fnExactShiftTorusSpec : ChangeSpec := { name := "fnExactShiftTorus", fn := fun _ => fun
  | [d1, d2, d3, d4] => { results := [.lit (.bool true)], args := [d1, d2, d3, d4] }
  | _ => none }
def fnExactShiftTorusRow : OpenClaim := { program := "ytfmjjpophipfbaa", sum := "7959ad941fd4fc0ea79bdb2fb596bdfc2fcd6be9d567ba81b1d08de52c6d1197", func := "loop.example/g01354/laws.FnExactShiftTorus", spec := "fnExactShiftTorus", unfollowed := true, recurses := true, apart := false }
def FnExactShiftTorusSaid : Prop := fnExactShiftTorusRow.holds Try.pinned (OpenSpec.ofChange fnExactShiftTorusSpec)

/-- ITS FALSE NEIGHBOUR: 'it returns false'. Refute it at one input. -/
def fnExactShiftTorusWrong : ChangeSpec := { name := "fnExactShiftTorus", fn := fun _ => fun
  | [d1, d2, d3, d4] => { results := [.lit (.bool false)], args := [d1, d2, d3, d4] }
  | _ => none }
def FnExactShiftTorusWrongFalsely : Prop := fnExactShiftTorusRow.holds Try.pinned (OpenSpec.ofChange fnExactShiftTorusWrong)

/-- 'laws.FnExactShiftNumber': WHATEVER THE INPUT: true; the input reads as it did. -/
def fnExactShiftNumberSpec : ChangeSpec := { name := "fnExactShiftNumber", fn := fun _ => fun
  | [d1, d2] => { results := [.lit (.bool true)], args := [d1, d2] }
  | _ => none }
def fnExactShiftNumberRow : OpenClaim := { program := "ytfmjjpophipfbaa", sum := "7959ad941fd4fc0ea79bdb2fb596bdfc2fcd6be9d567ba81b1d08de52c6d1197", func := "loop.example/g01354/laws.FnExactShiftNumber", spec := "fnExactShiftNumber", unfollowed := true, recurses := true, apart := false }
def FnExactShiftNumberSaid : Prop := fnExactShiftNumberRow.holds Try.pinned (OpenSpec.ofChange fnExactShiftNumberSpec)

/-- ITS FALSE NEIGHBOUR: 'it returns false'. Refute it at one input. -/
def fnExactShiftNumberWrong : ChangeSpec := { name := "fnExactShiftNumber", fn := fun _ => fun
  | [d1, d2] => { results := [.lit (.bool false)], args := [d1, d2] }
  | _ => none }
def FnExactShiftNumberWrongFalsely : Prop := fnExactShiftNumberRow.holds Try.pinned (OpenSpec.ofChange fnExactShiftNumberWrong)

/-- 'laws.FnExactLeastForm': WHATEVER THE INPUT: true; the input reads as it did. -/
def fnExactLeastFormSpec : ChangeSpec := { name := "fnExactLeastForm", fn := fun _ => fun
  | [d1, d2] => { results := [.lit (.bool true)], args := [d1, d2] }
  | _ => none }
def fnExactLeastFormRow : OpenClaim := { program := "ytfmjjpophipfbaa", sum := "7959ad941fd4fc0ea79bdb2fb596bdfc2fcd6be9d567ba81b1d08de52c6d1197", func := "loop.example/g01354/laws.FnExactLeastForm", spec := "fnExactLeastForm", unfollowed := true, recurses := true, apart := false }
def FnExactLeastFormSaid : Prop := fnExactLeastFormRow.holds Try.pinned (OpenSpec.ofChange fnExactLeastFormSpec)

/-- ITS FALSE NEIGHBOUR: 'it returns false'. Refute it at one input. -/
def fnExactLeastFormWrong : ChangeSpec := { name := "fnExactLeastForm", fn := fun _ => fun
  | [d1, d2] => { results := [.lit (.bool false)], args := [d1, d2] }
  | _ => none }
def FnExactLeastFormWrongFalsely : Prop := fnExactLeastFormRow.holds Try.pinned (OpenSpec.ofChange fnExactLeastFormWrong)

/-- 'laws.FnExactShiftsKept': WHATEVER THE INPUT: true; the input reads as it did. -/
def fnExactShiftsKeptSpec : ChangeSpec := { name := "fnExactShiftsKept", fn := fun _ => fun
  | [d1, d2] => { results := [.lit (.bool true)], args := [d1, d2] }
  | _ => none }
def fnExactShiftsKeptRow : OpenClaim := { program := "ytfmjjpophipfbaa", sum := "7959ad941fd4fc0ea79bdb2fb596bdfc2fcd6be9d567ba81b1d08de52c6d1197", func := "loop.example/g01354/laws.FnExactShiftsKept", spec := "fnExactShiftsKept", unfollowed := true, recurses := true, apart := false }
def FnExactShiftsKeptSaid : Prop := fnExactShiftsKeptRow.holds Try.pinned (OpenSpec.ofChange fnExactShiftsKeptSpec)

/-- ITS FALSE NEIGHBOUR: 'it returns false'. Refute it at one input. -/
def fnExactShiftsKeptWrong : ChangeSpec := { name := "fnExactShiftsKept", fn := fun _ => fun
  | [d1, d2] => { results := [.lit (.bool false)], args := [d1, d2] }
  | _ => none }
def FnExactShiftsKeptWrongFalsely : Prop := fnExactShiftsKeptRow.holds Try.pinned (OpenSpec.ofChange fnExactShiftsKeptWrong)

/- THE SECOND FORM. 'bulk': how many values and letters a reading holds, each counted each time it is reached (what is shared counts as often as it is met; a slice's spare places count too). A statement '..UptoSaid' is the law's where the arguments, and the package variables that the reading takes, are together of bulk at most 1048576: NARROWER than '..Said'. Prove '..Said' where nothing that the law and all that it calls make is longer than what came in: it says more and counts as full. Else prove '..UptoSaid'. A law counts once. -/
mutual
def uptoBulk {H : Type} : DataW H → Nat
  | .lit (.string bytes) => bytes.length + 1
  | .lit _ => 1
  | .nil => 1
  | .ptr d => uptoBulk d + 1
  | .slice elems spare => uptoBulkAll elems + uptoBulkAll spare + 1
  | .agg parts => uptoBulkAll parts + 1
  | .iface _ d => uptoBulk d + 1
  | .map entries => uptoBulkEntries entries + 1
  | .held _ => 1
def uptoBulkAll {H : Type} : List (DataW H) → Nat
  | [] => 0
  | d :: r => uptoBulk d + uptoBulkAll r
def uptoBulkEntries {H : Type} : List (Lit × DataW H) → Nat
  | [] => 0
  | x :: r => uptoBulkEntry x + uptoBulkEntries r
def uptoBulkEntry {H : Type} : Lit × DataW H → Nat
  | (.string bytes, d) => bytes.length + uptoBulk d + 1
  | (_, d) => uptoBulk d + 1
 end
def uptoSmall : (H : Type) → List (DataW H) → Bool := fun _ ds => decide (uptoBulkAll ds ≤ 1048576)
def OpenSpec.upto (s : _root_.Go.ChangeSpec) : _root_.Go.OpenSpec := { _root_.Go.OpenSpec.ofChange s with cond := some uptoSmall }

/-- 'laws.FnExactCountCylinders', WHERE WHAT IT READS IS OF BULK AT MOST 1048576: true; the input reads as it did. -/
def fnExactCountCylindersUptoRow : OpenClaim := { program := "ytfmjjpophipfbaa", sum := "7959ad941fd4fc0ea79bdb2fb596bdfc2fcd6be9d567ba81b1d08de52c6d1197", func := "loop.example/g01354/laws.FnExactCountCylinders", spec := "fnExactCountCylinders", unfollowed := true, recurses := true, apart := false, narrowed := true }
def FnExactCountCylindersUptoSaid : Prop := fnExactCountCylindersUptoRow.holds Try.pinned (OpenSpec.upto fnExactCountCylindersSpec)

/-- 'laws.FnExactCountTori', WHERE WHAT IT READS IS OF BULK AT MOST 1048576: true; the input reads as it did. -/
def fnExactCountToriUptoRow : OpenClaim := { program := "ytfmjjpophipfbaa", sum := "7959ad941fd4fc0ea79bdb2fb596bdfc2fcd6be9d567ba81b1d08de52c6d1197", func := "loop.example/g01354/laws.FnExactCountTori", spec := "fnExactCountTori", unfollowed := true, recurses := true, apart := false, narrowed := true }
def FnExactCountToriUptoSaid : Prop := fnExactCountToriUptoRow.holds Try.pinned (OpenSpec.upto fnExactCountToriSpec)

/-- 'laws.FnExactIsCylinder', WHERE WHAT IT READS IS OF BULK AT MOST 1048576: true; the input reads as it did. -/
def fnExactIsCylinderUptoRow : OpenClaim := { program := "ytfmjjpophipfbaa", sum := "7959ad941fd4fc0ea79bdb2fb596bdfc2fcd6be9d567ba81b1d08de52c6d1197", func := "loop.example/g01354/laws.FnExactIsCylinder", spec := "fnExactIsCylinder", unfollowed := true, recurses := true, apart := false, narrowed := true }
def FnExactIsCylinderUptoSaid : Prop := fnExactIsCylinderUptoRow.holds Try.pinned (OpenSpec.upto fnExactIsCylinderSpec)

/-- 'laws.FnExactIsTorus', WHERE WHAT IT READS IS OF BULK AT MOST 1048576: true; the input reads as it did. -/
def fnExactIsTorusUptoRow : OpenClaim := { program := "ytfmjjpophipfbaa", sum := "7959ad941fd4fc0ea79bdb2fb596bdfc2fcd6be9d567ba81b1d08de52c6d1197", func := "loop.example/g01354/laws.FnExactIsTorus", spec := "fnExactIsTorus", unfollowed := true, recurses := true, apart := false, narrowed := true }
def FnExactIsTorusUptoSaid : Prop := fnExactIsTorusUptoRow.holds Try.pinned (OpenSpec.upto fnExactIsTorusSpec)

/-- 'laws.FnExactTorusTable', WHERE WHAT IT READS IS OF BULK AT MOST 1048576: true; the input reads as it did. -/
def fnExactTorusTableUptoRow : OpenClaim := { program := "ytfmjjpophipfbaa", sum := "7959ad941fd4fc0ea79bdb2fb596bdfc2fcd6be9d567ba81b1d08de52c6d1197", func := "loop.example/g01354/laws.FnExactTorusTable", spec := "fnExactTorusTable", unfollowed := true, recurses := true, apart := false, narrowed := true }
def FnExactTorusTableUptoSaid : Prop := fnExactTorusTableUptoRow.holds Try.pinned (OpenSpec.upto fnExactTorusTableSpec)

/-- 'laws.FnExactLeastTorus', WHERE WHAT IT READS IS OF BULK AT MOST 1048576: true; the input reads as it did. -/
def fnExactLeastTorusUptoRow : OpenClaim := { program := "ytfmjjpophipfbaa", sum := "7959ad941fd4fc0ea79bdb2fb596bdfc2fcd6be9d567ba81b1d08de52c6d1197", func := "loop.example/g01354/laws.FnExactLeastTorus", spec := "fnExactLeastTorus", unfollowed := true, recurses := true, apart := false, narrowed := true }
def FnExactLeastTorusUptoSaid : Prop := fnExactLeastTorusUptoRow.holds Try.pinned (OpenSpec.upto fnExactLeastTorusSpec)

/-- 'laws.FnExactFirstTorus', WHERE WHAT IT READS IS OF BULK AT MOST 1048576: true; the input reads as it did. -/
def fnExactFirstTorusUptoRow : OpenClaim := { program := "ytfmjjpophipfbaa", sum := "7959ad941fd4fc0ea79bdb2fb596bdfc2fcd6be9d567ba81b1d08de52c6d1197", func := "loop.example/g01354/laws.FnExactFirstTorus", spec := "fnExactFirstTorus", unfollowed := true, recurses := true, apart := false, narrowed := true }
def FnExactFirstTorusUptoSaid : Prop := fnExactFirstTorusUptoRow.holds Try.pinned (OpenSpec.upto fnExactFirstTorusSpec)

/-- 'laws.FnExactCountForms', WHERE WHAT IT READS IS OF BULK AT MOST 1048576: true; the input reads as it did. -/
def fnExactCountFormsUptoRow : OpenClaim := { program := "ytfmjjpophipfbaa", sum := "7959ad941fd4fc0ea79bdb2fb596bdfc2fcd6be9d567ba81b1d08de52c6d1197", func := "loop.example/g01354/laws.FnExactCountForms", spec := "fnExactCountForms", unfollowed := true, recurses := true, apart := false, narrowed := true }
def FnExactCountFormsUptoSaid : Prop := fnExactCountFormsUptoRow.holds Try.pinned (OpenSpec.upto fnExactCountFormsSpec)

/-- 'laws.FnExactShiftTorus', WHERE WHAT IT READS IS OF BULK AT MOST 1048576: true; the input reads as it did. -/
def fnExactShiftTorusUptoRow : OpenClaim := { program := "ytfmjjpophipfbaa", sum := "7959ad941fd4fc0ea79bdb2fb596bdfc2fcd6be9d567ba81b1d08de52c6d1197", func := "loop.example/g01354/laws.FnExactShiftTorus", spec := "fnExactShiftTorus", unfollowed := true, recurses := true, apart := false, narrowed := true }
def FnExactShiftTorusUptoSaid : Prop := fnExactShiftTorusUptoRow.holds Try.pinned (OpenSpec.upto fnExactShiftTorusSpec)

/-- 'laws.FnExactShiftNumber', WHERE WHAT IT READS IS OF BULK AT MOST 1048576: true; the input reads as it did. -/
def fnExactShiftNumberUptoRow : OpenClaim := { program := "ytfmjjpophipfbaa", sum := "7959ad941fd4fc0ea79bdb2fb596bdfc2fcd6be9d567ba81b1d08de52c6d1197", func := "loop.example/g01354/laws.FnExactShiftNumber", spec := "fnExactShiftNumber", unfollowed := true, recurses := true, apart := false, narrowed := true }
def FnExactShiftNumberUptoSaid : Prop := fnExactShiftNumberUptoRow.holds Try.pinned (OpenSpec.upto fnExactShiftNumberSpec)

/-- 'laws.FnExactLeastForm', WHERE WHAT IT READS IS OF BULK AT MOST 1048576: true; the input reads as it did. -/
def fnExactLeastFormUptoRow : OpenClaim := { program := "ytfmjjpophipfbaa", sum := "7959ad941fd4fc0ea79bdb2fb596bdfc2fcd6be9d567ba81b1d08de52c6d1197", func := "loop.example/g01354/laws.FnExactLeastForm", spec := "fnExactLeastForm", unfollowed := true, recurses := true, apart := false, narrowed := true }
def FnExactLeastFormUptoSaid : Prop := fnExactLeastFormUptoRow.holds Try.pinned (OpenSpec.upto fnExactLeastFormSpec)

/-- 'laws.FnExactShiftsKept', WHERE WHAT IT READS IS OF BULK AT MOST 1048576: true; the input reads as it did. -/
def fnExactShiftsKeptUptoRow : OpenClaim := { program := "ytfmjjpophipfbaa", sum := "7959ad941fd4fc0ea79bdb2fb596bdfc2fcd6be9d567ba81b1d08de52c6d1197", func := "loop.example/g01354/laws.FnExactShiftsKept", spec := "fnExactShiftsKept", unfollowed := true, recurses := true, apart := false, narrowed := true }
def FnExactShiftsKeptUptoSaid : Prop := fnExactShiftsKeptUptoRow.holds Try.pinned (OpenSpec.upto fnExactShiftsKeptSpec)

end Rows
end Go.Proofs.Ytfmjjpophipfbaa
