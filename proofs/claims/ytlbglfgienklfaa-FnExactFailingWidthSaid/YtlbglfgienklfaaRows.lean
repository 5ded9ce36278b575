/-
  No cell of these rows narrows 'for every input' (looked for: loops, veiled, ifaces, maps, wideKeys, modest, calm, conditions, laid).
  DERIVED. THE GIVEN ROWS OF THIS SEAT. 5 by the template 'for every input the law returns true; each argument reads behind the call as it read before'; 0 by the template 'total and deterministic' (their statements: YtlbglfgienklfaaTotals.lean).
  GIVEN WITH THE SEED: the statements are not yours to turn. If you find one false, say at which input.
  Laid BY PROGRAM, IN A SANDBOX (cutbox-rows.mjs): the forced cells as the released guide's own fill.sh prints them over the translation 42ae87e3127a6ee7… (all of the seat's roots in one cut). By AI agents, Wed Nov 11 2026. No macro, syntax, notation, axiom, sorry.
-/
import Derived.Test.YtlbglfgienklfaaChecked
import GoSem.Claim
import GoSem.ClaimJoined
import GoSem.ClaimMapViews
import Derived.JoinedTies
import Derived.KernelRfl
namespace Go.Proofs.Ytlbglfgienklfaa
/- THE CELL 'sum', in the pinned program and in every row, IS THE sha256 OF THE DUMP (.gsa) THAT YtlbglfgienklfaaProg.lean LOADS. Nothing in Lean hashes anything: it is a label: what it is worth is what the hold of that sum in a sandbox is worth. -/
noncomputable def Try.pinned : Pinned := { name := "ytlbglfgienklfaa", sum := "42ae87e3127a6ee7ea7030a4891406bf61bee07ae23b3ac433890c29b96ee1ff", checked := Try.checked }
namespace Rows
def none {H : Type} : Left H := { results := [], args := [] }

/-- 'laws.FnExactStackSets': WHATEVER THE INPUT: true; the input reads as it did. -/
def fnExactStackSetsSpec : ChangeSpec := { name := "fnExactStackSets", fn := fun _ => fun
  | [d1, d2] => { results := [.lit (.bool true)], args := [d1, d2] }
  | _ => none }
def fnExactStackSetsRow : OpenClaim := { program := "ytlbglfgienklfaa", sum := "42ae87e3127a6ee7ea7030a4891406bf61bee07ae23b3ac433890c29b96ee1ff", func := "loop.example/g01354/laws.FnExactStackSets", spec := "fnExactStackSets", unfollowed := true, recurses := true, plainKeys := false, apart := false }
def FnExactStackSetsSaid : Prop := fnExactStackSetsRow.holds Try.pinned (OpenSpec.ofChange fnExactStackSetsSpec)

/-- ITS FALSE NEIGHBOUR: 'it returns false'. Refute it at one input. -/
def fnExactStackSetsWrong : ChangeSpec := { name := "fnExactStackSets", fn := fun _ => fun
  | [d1, d2] => { results := [.lit (.bool false)], args := [d1, d2] }
  | _ => none }
def FnExactStackSetsWrongFalsely : Prop := fnExactStackSetsRow.holds Try.pinned (OpenSpec.ofChange fnExactStackSetsWrong)

/-- 'laws.FnExactSplitRow': WHATEVER THE INPUT: true; the input reads as it did. -/
def fnExactSplitRowSpec : ChangeSpec := { name := "fnExactSplitRow", fn := fun _ => fun
  | [d1, d2, d3] => { results := [.lit (.bool true)], args := [d1, d2, d3] }
  | _ => none }
def fnExactSplitRowRow : OpenClaim := { program := "ytlbglfgienklfaa", sum := "42ae87e3127a6ee7ea7030a4891406bf61bee07ae23b3ac433890c29b96ee1ff", func := "loop.example/g01354/laws.FnExactSplitRow", spec := "fnExactSplitRow", unfollowed := true, recurses := true, plainKeys := false, apart := false }
def FnExactSplitRowSaid : Prop := fnExactSplitRowRow.holds Try.pinned (OpenSpec.ofChange fnExactSplitRowSpec)

/-- ITS FALSE NEIGHBOUR: 'it returns false'. Refute it at one input. -/
def fnExactSplitRowWrong : ChangeSpec := { name := "fnExactSplitRow", fn := fun _ => fun
  | [d1, d2, d3] => { results := [.lit (.bool false)], args := [d1, d2, d3] }
  | _ => none }
def FnExactSplitRowWrongFalsely : Prop := fnExactSplitRowRow.holds Try.pinned (OpenSpec.ofChange fnExactSplitRowWrong)

/-- 'laws.FnExactPowerOf': WHATEVER THE INPUT: true; the input reads as it did. -/
def fnExactPowerOfSpec : ChangeSpec := { name := "fnExactPowerOf", fn := fun _ => fun
  | [d1, d2] => { results := [.lit (.bool true)], args := [d1, d2] }
  | _ => none }
def fnExactPowerOfRow : OpenClaim := { program := "ytlbglfgienklfaa", sum := "42ae87e3127a6ee7ea7030a4891406bf61bee07ae23b3ac433890c29b96ee1ff", func := "loop.example/g01354/laws.FnExactPowerOf", spec := "fnExactPowerOf", unfollowed := true, recurses := true, plainKeys := false, apart := false }
def FnExactPowerOfSaid : Prop := fnExactPowerOfRow.holds Try.pinned (OpenSpec.ofChange fnExactPowerOfSpec)

/-- ITS FALSE NEIGHBOUR: 'it returns false'. Refute it at one input. -/
def fnExactPowerOfWrong : ChangeSpec := { name := "fnExactPowerOf", fn := fun _ => fun
  | [d1, d2] => { results := [.lit (.bool false)], args := [d1, d2] }
  | _ => none }
def FnExactPowerOfWrongFalsely : Prop := fnExactPowerOfRow.holds Try.pinned (OpenSpec.ofChange fnExactPowerOfWrong)

/-- 'laws.FnExactFailingHeight': WHATEVER THE INPUT: true; the input reads as it did. -/
def fnExactFailingHeightSpec : ChangeSpec := { name := "fnExactFailingHeight", fn := fun _ => fun
  | [d1, d2] => { results := [.lit (.bool true)], args := [d1, d2] }
  | _ => none }
def fnExactFailingHeightRow : OpenClaim := { program := "ytlbglfgienklfaa", sum := "42ae87e3127a6ee7ea7030a4891406bf61bee07ae23b3ac433890c29b96ee1ff", func := "loop.example/g01354/laws.FnExactFailingHeight", spec := "fnExactFailingHeight", unfollowed := true, recurses := true, plainKeys := false, apart := false }
def FnExactFailingHeightSaid : Prop := fnExactFailingHeightRow.holds Try.pinned (OpenSpec.ofChange fnExactFailingHeightSpec)

/-- ITS FALSE NEIGHBOUR: 'it returns false'. Refute it at one input. -/
def fnExactFailingHeightWrong : ChangeSpec := { name := "fnExactFailingHeight", fn := fun _ => fun
  | [d1, d2] => { results := [.lit (.bool false)], args := [d1, d2] }
  | _ => none }
def FnExactFailingHeightWrongFalsely : Prop := fnExactFailingHeightRow.holds Try.pinned (OpenSpec.ofChange fnExactFailingHeightWrong)

/-- 'laws.FnExactFailingWidth': WHATEVER THE INPUT: true; the input reads as it did. -/
def fnExactFailingWidthSpec : ChangeSpec := { name := "fnExactFailingWidth", fn := fun _ => fun
  | [d1, d2] => { results := [.lit (.bool true)], args := [d1, d2] }
  | _ => none }
def fnExactFailingWidthRow : OpenClaim := { program := "ytlbglfgienklfaa", sum := "42ae87e3127a6ee7ea7030a4891406bf61bee07ae23b3ac433890c29b96ee1ff", func := "loop.example/g01354/laws.FnExactFailingWidth", spec := "fnExactFailingWidth", unfollowed := true, recurses := true, plainKeys := false, apart := false }
def FnExactFailingWidthSaid : Prop := fnExactFailingWidthRow.holds Try.pinned (OpenSpec.ofChange fnExactFailingWidthSpec)

/-- ITS FALSE NEIGHBOUR: 'it returns false'. Refute it at one input. -/
def fnExactFailingWidthWrong : ChangeSpec := { name := "fnExactFailingWidth", fn := fun _ => fun
  | [d1, d2] => { results := [.lit (.bool false)], args := [d1, d2] }
  | _ => none }
def FnExactFailingWidthWrongFalsely : Prop := fnExactFailingWidthRow.holds Try.pinned (OpenSpec.ofChange fnExactFailingWidthWrong)

/- THE SECOND FORM. 'bulk': how many values and letters a reading holds, each counted each time it is reached (what is shared counts as often as it is met; a slice's spare places count too). A statement '..UptoSaid' is the law's where the arguments, and the package variables that the reading takes, are together of bulk at most 1048576: NARROWER than '..Said'. Prove '..Said' where nothing that the law and all that it calls make is longer than what came in: it says more and counts as full. Else prove '..UptoSaid'. A law counts once. -/
mutual
def uptoBulk {H : Type} : DataW H → Nat
  | .lit (.string bytes) => bytes.length + 1
  | .lit _ => 1
  | .nil => 1
  | .ptr d => uptoBulk d + 1
  | .slice elems spare => uptoBulkAll elems + uptoBulkAll spare + 1
  | .agg parts => uptoBulkAll parts + 1
  | .iface _ d => uptoBulk d + 1
  | .map entries => uptoBulkEntries entries + 1
  | .held _ => 1
def uptoBulkAll {H : Type} : List (DataW H) → Nat
  | [] => 0
  | d :: r => uptoBulk d + uptoBulkAll r
def uptoBulkEntries {H : Type} : List (Lit × DataW H) → Nat
  | [] => 0
  | x :: r => uptoBulkEntry x + uptoBulkEntries r
def uptoBulkEntry {H : Type} : Lit × DataW H → Nat
  | (.string bytes, d) => bytes.length + uptoBulk d + 1
  | (_, d) => uptoBulk d + 1
 end
def uptoSmall : (H : Type) → List (DataW H) → Bool := fun _ ds => decide (uptoBulkAll ds ≤ 1048576)
def OpenSpec.upto (s : _root_.Go.ChangeSpec) : _root_.Go.OpenSpec := { _root_.Go.OpenSpec.ofChange s with cond := some uptoSmall }

/-- 'laws.FnExactStackSets', WHERE WHAT IT READS IS OF BULK AT MOST 1048576: true; the input reads as it did. -/
def fnExactStackSetsUptoRow : OpenClaim := { program := "ytlbglfgienklfaa", sum := "42ae87e3127a6ee7ea7030a4891406bf61bee07ae23b3ac433890c29b96ee1ff", func := "loop.example/g01354/laws.FnExactStackSets", spec := "fnExactStackSets", unfollowed := true, recurses := true, plainKeys := false, apart := false, narrowed := true }
def FnExactStackSetsUptoSaid : Prop := fnExactStackSetsUptoRow.holds Try.pinned (OpenSpec.upto fnExactStackSetsSpec)

/-- 'laws.FnExactSplitRow', WHERE WHAT IT READS IS OF BULK AT MOST 1048576: true; the input reads as it did. -/
def fnExactSplitRowUptoRow : OpenClaim := { program := "ytlbglfgienklfaa", sum := "42ae87e3127a6ee7ea7030a4891406bf61bee07ae23b3ac433890c29b96ee1ff", func := "loop.example/g01354/laws.FnExactSplitRow", spec := "fnExactSplitRow", unfollowed := true, recurses := true, plainKeys := false, apart := false, narrowed := true }
def FnExactSplitRowUptoSaid : Prop := fnExactSplitRowUptoRow.holds Try.pinned (OpenSpec.upto fnExactSplitRowSpec)

/-- 'laws.FnExactPowerOf', WHERE WHAT IT READS IS OF BULK AT MOST 1048576: true; the input reads as it did. -/
def fnExactPowerOfUptoRow : OpenClaim := { program := "ytlbglfgienklfaa", sum := "42ae87e3127a6ee7ea7030a4891406bf61bee07ae23b3ac433890c29b96ee1ff", func := "loop.example/g01354/laws.FnExactPowerOf", spec := "fnExactPowerOf", unfollowed := true, recurses := true, plainKeys := false, apart := false, narrowed := true }
def FnExactPowerOfUptoSaid : Prop := fnExactPowerOfUptoRow.holds Try.pinned (OpenSpec.upto fnExactPowerOfSpec)

/-- 'laws.FnExactFailingHeight', WHERE WHAT IT READS IS OF BULK AT MOST 1048576: true; the input reads as it did. -/
def fnExactFailingHeightUptoRow : OpenClaim := { program := "ytlbglfgienklfaa", sum := "42ae87e3127a6ee7ea7030a4891406bf61bee07ae23b3ac433890c29b96ee1ff", func := "loop.example/g01354/laws.FnExactFailingHeight", spec := "fnExactFailingHeight", unfollowed := true, recurses := true, plainKeys := false, apart := false, narrowed := true }
def FnExactFailingHeightUptoSaid : Prop := fnExactFailingHeightUptoRow.holds Try.pinned (OpenSpec.upto fnExactFailingHeightSpec)

/-- 'laws.FnExactFailingWidth', WHERE WHAT IT READS IS OF BULK AT MOST 1048576: true; the input reads as it did. -/
def fnExactFailingWidthUptoRow : OpenClaim := { program := "ytlbglfgienklfaa", sum := "42ae87e3127a6ee7ea7030a4891406bf61bee07ae23b3ac433890c29b96ee1ff", func := "loop.example/g01354/laws.FnExactFailingWidth", spec := "fnExactFailingWidth", unfollowed := true, recurses := true, plainKeys := false, apart := false, narrowed := true }
def FnExactFailingWidthUptoSaid : Prop := fnExactFailingWidthUptoRow.holds Try.pinned (OpenSpec.upto fnExactFailingWidthSpec)

end Rows
end Go.Proofs.Ytlbglfgienklfaa
