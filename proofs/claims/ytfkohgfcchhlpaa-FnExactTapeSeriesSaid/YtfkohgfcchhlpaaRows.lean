/-
  No cell of these rows narrows 'for every input' (looked for: loops, veiled, ifaces, maps, wideKeys, modest, calm, conditions, laid).
  DERIVED. THE GIVEN ROWS OF THIS SEAT. 15 by the template 'for every input the law returns true; each argument reads behind the call as it read before'; 0 by the template 'total and deterministic' (their statements: YtfkohgfcchhlpaaTotals.lean).
  GIVEN WITH THE SEED: the statements are not yours to turn. If you find one false, say at which input.
  Laid BY PROGRAM, IN A SANDBOX (cutbox-rows.mjs): the forced cells as the released guide's own fill.sh prints them over the translation 1fec58152d31ddfe… (all of the seat's roots in one cut). By AI agents, Wed Nov 11 2026. No macro, syntax, notation, axiom, sorry.
-/
import Derived.Test.YtfkohgfcchhlpaaChecked
import GoSem.Claim
import GoSem.ClaimJoined
import GoSem.ClaimMapViews
import Derived.JoinedTies
import Derived.KernelRfl
namespace Go.Proofs.Ytfkohgfcchhlpaa
/- THE CELL 'sum', in the pinned program and in every row, IS THE sha256 OF THE DUMP (.gsa) THAT YtfkohgfcchhlpaaProg.lean LOADS. Nothing in Lean hashes anything: it is a label: what it is worth is what the hold of that sum in a sandbox is worth. -/
noncomputable def Try.pinned : Pinned := { name := "ytfkohgfcchhlpaa", sum := "1fec58152d31ddfeaf577c239e814a5fc32b30936f2fb5a0cdefcccf077e76d9", checked := Try.checked }
namespace Rows
def none {H : Type} : Left H := { results := [], args := [] }

/-- 'laws.FnExactSameTape': WHATEVER THE INPUT: true; the input reads as it did. -/
def fnExactSameTapeSpec : ChangeSpec := { name := "fnExactSameTape", fn := fun _ => fun
  | [d1, d2] => { results := [.lit (.bool true)], args := [d1, d2] }
  | _ => none }
def fnExactSameTapeRow : OpenClaim := { program := "ytfkohgfcchhlpaa", sum := "1fec58152d31ddfeaf577c239e814a5fc32b30936f2fb5a0cdefcccf077e76d9", func := "loop.example/g01091/laws.FnExactSameTape", spec := "fnExactSameTape", plainKeys := false, apart := false }
def FnExactSameTapeSaid : Prop := fnExactSameTapeRow.holds Try.pinned (OpenSpec.ofChange fnExactSameTapeSpec)

/-- ITS FALSE NEIGHBOUR: 'it returns false'. Refute it at one input. -/
def fnExactSameTapeWrong : ChangeSpec := { name := "fnExactSameTape", fn := fun _ => fun
  | [d1, d2] => { results := [.lit (.bool false)], args := [d1, d2] }
  | _ => none }
def FnExactSameTapeWrongFalsely : Prop := fnExactSameTapeRow.holds Try.pinned (OpenSpec.ofChange fnExactSameTapeWrong)

/-- 'laws.FnExactValidTape': WHATEVER THE INPUT: true; the input reads as it did. -/
def fnExactValidTapeSpec : ChangeSpec := { name := "fnExactValidTape", fn := fun _ => fun
  | [d] => { results := [.lit (.bool true)], args := [d] }
  | _ => none }
def fnExactValidTapeRow : OpenClaim := { program := "ytfkohgfcchhlpaa", sum := "1fec58152d31ddfeaf577c239e814a5fc32b30936f2fb5a0cdefcccf077e76d9", func := "loop.example/g01091/laws.FnExactValidTape", spec := "fnExactValidTape", unfollowed := true, recurses := true, plainKeys := false, apart := false }
def FnExactValidTapeSaid : Prop := fnExactValidTapeRow.holds Try.pinned (OpenSpec.ofChange fnExactValidTapeSpec)

/-- ITS FALSE NEIGHBOUR: 'it returns false'. Refute it at one input. -/
def fnExactValidTapeWrong : ChangeSpec := { name := "fnExactValidTape", fn := fun _ => fun
  | [d] => { results := [.lit (.bool false)], args := [d] }
  | _ => none }
def FnExactValidTapeWrongFalsely : Prop := fnExactValidTapeRow.holds Try.pinned (OpenSpec.ofChange fnExactValidTapeWrong)

/-- 'laws.FnExactCountOps': WHATEVER THE INPUT: true; the input reads as it did. -/
def fnExactCountOpsSpec : ChangeSpec := { name := "fnExactCountOps", fn := fun _ => fun
  | [d] => { results := [.lit (.bool true)], args := [d] }
  | _ => none }
def fnExactCountOpsRow : OpenClaim := { program := "ytfkohgfcchhlpaa", sum := "1fec58152d31ddfeaf577c239e814a5fc32b30936f2fb5a0cdefcccf077e76d9", func := "loop.example/g01091/laws.FnExactCountOps", spec := "fnExactCountOps", unfollowed := true, recurses := true, plainKeys := false, apart := false }
def FnExactCountOpsSaid : Prop := fnExactCountOpsRow.holds Try.pinned (OpenSpec.ofChange fnExactCountOpsSpec)

/-- ITS FALSE NEIGHBOUR: 'it returns false'. Refute it at one input. -/
def fnExactCountOpsWrong : ChangeSpec := { name := "fnExactCountOps", fn := fun _ => fun
  | [d] => { results := [.lit (.bool false)], args := [d] }
  | _ => none }
def FnExactCountOpsWrongFalsely : Prop := fnExactCountOpsRow.holds Try.pinned (OpenSpec.ofChange fnExactCountOpsWrong)

/-- 'laws.FnExactShareTape': WHATEVER THE INPUT: true; the input reads as it did. -/
def fnExactShareTapeSpec : ChangeSpec := { name := "fnExactShareTape", fn := fun _ => fun
  | [d] => { results := [.lit (.bool true)], args := [d] }
  | _ => none }
def fnExactShareTapeRow : OpenClaim := { program := "ytfkohgfcchhlpaa", sum := "1fec58152d31ddfeaf577c239e814a5fc32b30936f2fb5a0cdefcccf077e76d9", func := "loop.example/g01091/laws.FnExactShareTape", spec := "fnExactShareTape", unfollowed := true, recurses := true, plainKeys := false, apart := false }
def FnExactShareTapeSaid : Prop := fnExactShareTapeRow.holds Try.pinned (OpenSpec.ofChange fnExactShareTapeSpec)

/-- ITS FALSE NEIGHBOUR: 'it returns false'. Refute it at one input. -/
def fnExactShareTapeWrong : ChangeSpec := { name := "fnExactShareTape", fn := fun _ => fun
  | [d] => { results := [.lit (.bool false)], args := [d] }
  | _ => none }
def FnExactShareTapeWrongFalsely : Prop := fnExactShareTapeRow.holds Try.pinned (OpenSpec.ofChange fnExactShareTapeWrong)

/-- 'laws.FnExactTrimTape': WHATEVER THE INPUT: true; the input reads as it did. -/
def fnExactTrimTapeSpec : ChangeSpec := { name := "fnExactTrimTape", fn := fun _ => fun
  | [d] => { results := [.lit (.bool true)], args := [d] }
  | _ => none }
def fnExactTrimTapeRow : OpenClaim := { program := "ytfkohgfcchhlpaa", sum := "1fec58152d31ddfeaf577c239e814a5fc32b30936f2fb5a0cdefcccf077e76d9", func := "loop.example/g01091/laws.FnExactTrimTape", spec := "fnExactTrimTape", unfollowed := true, recurses := true, plainKeys := false, apart := false }
def FnExactTrimTapeSaid : Prop := fnExactTrimTapeRow.holds Try.pinned (OpenSpec.ofChange fnExactTrimTapeSpec)

/-- ITS FALSE NEIGHBOUR: 'it returns false'. Refute it at one input. -/
def fnExactTrimTapeWrong : ChangeSpec := { name := "fnExactTrimTape", fn := fun _ => fun
  | [d] => { results := [.lit (.bool false)], args := [d] }
  | _ => none }
def FnExactTrimTapeWrongFalsely : Prop := fnExactTrimTapeRow.holds Try.pinned (OpenSpec.ofChange fnExactTrimTapeWrong)

/-- 'laws.FnExactFoldTape': WHATEVER THE INPUT: true; the input reads as it did. -/
def fnExactFoldTapeSpec : ChangeSpec := { name := "fnExactFoldTape", fn := fun _ => fun
  | [d] => { results := [.lit (.bool true)], args := [d] }
  | _ => none }
def fnExactFoldTapeRow : OpenClaim := { program := "ytfkohgfcchhlpaa", sum := "1fec58152d31ddfeaf577c239e814a5fc32b30936f2fb5a0cdefcccf077e76d9", func := "loop.example/g01091/laws.FnExactFoldTape", spec := "fnExactFoldTape", unfollowed := true, recurses := true, plainKeys := false, apart := false }
def FnExactFoldTapeSaid : Prop := fnExactFoldTapeRow.holds Try.pinned (OpenSpec.ofChange fnExactFoldTapeSpec)

/-- ITS FALSE NEIGHBOUR: 'it returns false'. Refute it at one input. -/
def fnExactFoldTapeWrong : ChangeSpec := { name := "fnExactFoldTape", fn := fun _ => fun
  | [d] => { results := [.lit (.bool false)], args := [d] }
  | _ => none }
def FnExactFoldTapeWrongFalsely : Prop := fnExactFoldTapeRow.holds Try.pinned (OpenSpec.ofChange fnExactFoldTapeWrong)

/-- 'laws.FnExactGuardsHold': WHATEVER THE INPUT: true; the input reads as it did. -/
def fnExactGuardsHoldSpec : ChangeSpec := { name := "fnExactGuardsHold", fn := fun _ => fun
  | [d1, d2] => { results := [.lit (.bool true)], args := [d1, d2] }
  | _ => none }
def fnExactGuardsHoldRow : OpenClaim := { program := "ytfkohgfcchhlpaa", sum := "1fec58152d31ddfeaf577c239e814a5fc32b30936f2fb5a0cdefcccf077e76d9", func := "loop.example/g01091/laws.FnExactGuardsHold", spec := "fnExactGuardsHold", unfollowed := true, recurses := true, plainKeys := false, apart := false }
def FnExactGuardsHoldSaid : Prop := fnExactGuardsHoldRow.holds Try.pinned (OpenSpec.ofChange fnExactGuardsHoldSpec)

/-- ITS FALSE NEIGHBOUR: 'it returns false'. Refute it at one input. -/
def fnExactGuardsHoldWrong : ChangeSpec := { name := "fnExactGuardsHold", fn := fun _ => fun
  | [d1, d2] => { results := [.lit (.bool false)], args := [d1, d2] }
  | _ => none }
def FnExactGuardsHoldWrongFalsely : Prop := fnExactGuardsHoldRow.holds Try.pinned (OpenSpec.ofChange fnExactGuardsHoldWrong)

/-- 'laws.FnExactRegistersOf': WHATEVER THE INPUT: true; the input reads as it did. -/
def fnExactRegistersOfSpec : ChangeSpec := { name := "fnExactRegistersOf", fn := fun _ => fun
  | [d1, d2] => { results := [.lit (.bool true)], args := [d1, d2] }
  | _ => none }
def fnExactRegistersOfRow : OpenClaim := { program := "ytfkohgfcchhlpaa", sum := "1fec58152d31ddfeaf577c239e814a5fc32b30936f2fb5a0cdefcccf077e76d9", func := "loop.example/g01091/laws.FnExactRegistersOf", spec := "fnExactRegistersOf", unfollowed := true, recurses := true, plainKeys := false, apart := false }
def FnExactRegistersOfSaid : Prop := fnExactRegistersOfRow.holds Try.pinned (OpenSpec.ofChange fnExactRegistersOfSpec)

/-- ITS FALSE NEIGHBOUR: 'it returns false'. Refute it at one input. -/
def fnExactRegistersOfWrong : ChangeSpec := { name := "fnExactRegistersOf", fn := fun _ => fun
  | [d1, d2] => { results := [.lit (.bool false)], args := [d1, d2] }
  | _ => none }
def FnExactRegistersOfWrongFalsely : Prop := fnExactRegistersOfRow.holds Try.pinned (OpenSpec.ofChange fnExactRegistersOfWrong)

/-- 'laws.FnExactTapeForward': WHATEVER THE INPUT: true; the input reads as it did. -/
def fnExactTapeForwardSpec : ChangeSpec := { name := "fnExactTapeForward", fn := fun _ => fun
  | [d1, d2, d3] => { results := [.lit (.bool true)], args := [d1, d2, d3] }
  | _ => none }
def fnExactTapeForwardRow : OpenClaim := { program := "ytfkohgfcchhlpaa", sum := "1fec58152d31ddfeaf577c239e814a5fc32b30936f2fb5a0cdefcccf077e76d9", func := "loop.example/g01091/laws.FnExactTapeForward", spec := "fnExactTapeForward", unfollowed := true, recurses := true, plainKeys := false, apart := false }
def FnExactTapeForwardSaid : Prop := fnExactTapeForwardRow.holds Try.pinned (OpenSpec.ofChange fnExactTapeForwardSpec)

/-- ITS FALSE NEIGHBOUR: 'it returns false'. Refute it at one input. -/
def fnExactTapeForwardWrong : ChangeSpec := { name := "fnExactTapeForward", fn := fun _ => fun
  | [d1, d2, d3] => { results := [.lit (.bool false)], args := [d1, d2, d3] }
  | _ => none }
def FnExactTapeForwardWrongFalsely : Prop := fnExactTapeForwardRow.holds Try.pinned (OpenSpec.ofChange fnExactTapeForwardWrong)

/-- 'laws.FnExactRunTape': WHATEVER THE INPUT: true; the input reads as it did. -/
def fnExactRunTapeSpec : ChangeSpec := { name := "fnExactRunTape", fn := fun _ => fun
  | [d1, d2] => { results := [.lit (.bool true)], args := [d1, d2] }
  | _ => none }
def fnExactRunTapeRow : OpenClaim := { program := "ytfkohgfcchhlpaa", sum := "1fec58152d31ddfeaf577c239e814a5fc32b30936f2fb5a0cdefcccf077e76d9", func := "loop.example/g01091/laws.FnExactRunTape", spec := "fnExactRunTape", unfollowed := true, recurses := true, plainKeys := false, apart := false }
def FnExactRunTapeSaid : Prop := fnExactRunTapeRow.holds Try.pinned (OpenSpec.ofChange fnExactRunTapeSpec)

/-- ITS FALSE NEIGHBOUR: 'it returns false'. Refute it at one input. -/
def fnExactRunTapeWrong : ChangeSpec := { name := "fnExactRunTape", fn := fun _ => fun
  | [d1, d2] => { results := [.lit (.bool false)], args := [d1, d2] }
  | _ => none }
def FnExactRunTapeWrongFalsely : Prop := fnExactRunTapeRow.holds Try.pinned (OpenSpec.ofChange fnExactRunTapeWrong)

/-- 'laws.FnExactTapeSeries': WHATEVER THE INPUT: true; the input reads as it did. -/
def fnExactTapeSeriesSpec : ChangeSpec := { name := "fnExactTapeSeries", fn := fun _ => fun
  | [d1, d2] => { results := [.lit (.bool true)], args := [d1, d2] }
  | _ => none }
def fnExactTapeSeriesRow : OpenClaim := { program := "ytfkohgfcchhlpaa", sum := "1fec58152d31ddfeaf577c239e814a5fc32b30936f2fb5a0cdefcccf077e76d9", func := "loop.example/g01091/laws.FnExactTapeSeries", spec := "fnExactTapeSeries", unfollowed := true, recurses := true, plainKeys := false, apart := false }
def FnExactTapeSeriesSaid : Prop := fnExactTapeSeriesRow.holds Try.pinned (OpenSpec.ofChange fnExactTapeSeriesSpec)

/-- ITS FALSE NEIGHBOUR: 'it returns false'. Refute it at one input. -/
def fnExactTapeSeriesWrong : ChangeSpec := { name := "fnExactTapeSeries", fn := fun _ => fun
  | [d1, d2] => { results := [.lit (.bool false)], args := [d1, d2] }
  | _ => none }
def FnExactTapeSeriesWrongFalsely : Prop := fnExactTapeSeriesRow.holds Try.pinned (OpenSpec.ofChange fnExactTapeSeriesWrong)

/-- 'laws.FnExactAdjointsOf': WHATEVER THE INPUT: true; the input reads as it did. -/
def fnExactAdjointsOfSpec : ChangeSpec := { name := "fnExactAdjointsOf", fn := fun _ => fun
  | [d1, d2, d3] => { results := [.lit (.bool true)], args := [d1, d2, d3] }
  | _ => none }
def fnExactAdjointsOfRow : OpenClaim := { program := "ytfkohgfcchhlpaa", sum := "1fec58152d31ddfeaf577c239e814a5fc32b30936f2fb5a0cdefcccf077e76d9", func := "loop.example/g01091/laws.FnExactAdjointsOf", spec := "fnExactAdjointsOf", unfollowed := true, recurses := true, plainKeys := false, apart := false }
def FnExactAdjointsOfSaid : Prop := fnExactAdjointsOfRow.holds Try.pinned (OpenSpec.ofChange fnExactAdjointsOfSpec)

/-- ITS FALSE NEIGHBOUR: 'it returns false'. Refute it at one input. -/
def fnExactAdjointsOfWrong : ChangeSpec := { name := "fnExactAdjointsOf", fn := fun _ => fun
  | [d1, d2, d3] => { results := [.lit (.bool false)], args := [d1, d2, d3] }
  | _ => none }
def FnExactAdjointsOfWrongFalsely : Prop := fnExactAdjointsOfRow.holds Try.pinned (OpenSpec.ofChange fnExactAdjointsOfWrong)

/-- 'laws.FnExactOptimizeTape': WHATEVER THE INPUT: true; the input reads as it did. -/
def fnExactOptimizeTapeSpec : ChangeSpec := { name := "fnExactOptimizeTape", fn := fun _ => fun
  | [d] => { results := [.lit (.bool true)], args := [d] }
  | _ => none }
def fnExactOptimizeTapeRow : OpenClaim := { program := "ytfkohgfcchhlpaa", sum := "1fec58152d31ddfeaf577c239e814a5fc32b30936f2fb5a0cdefcccf077e76d9", func := "loop.example/g01091/laws.FnExactOptimizeTape", spec := "fnExactOptimizeTape", unfollowed := true, recurses := true, plainKeys := false, apart := false }
def FnExactOptimizeTapeSaid : Prop := fnExactOptimizeTapeRow.holds Try.pinned (OpenSpec.ofChange fnExactOptimizeTapeSpec)

/-- ITS FALSE NEIGHBOUR: 'it returns false'. Refute it at one input. -/
def fnExactOptimizeTapeWrong : ChangeSpec := { name := "fnExactOptimizeTape", fn := fun _ => fun
  | [d] => { results := [.lit (.bool false)], args := [d] }
  | _ => none }
def FnExactOptimizeTapeWrongFalsely : Prop := fnExactOptimizeTapeRow.holds Try.pinned (OpenSpec.ofChange fnExactOptimizeTapeWrong)

/-- 'laws.FnExactTapeHessian': WHATEVER THE INPUT: true; the input reads as it did. -/
def fnExactTapeHessianSpec : ChangeSpec := { name := "fnExactTapeHessian", fn := fun _ => fun
  | [d1, d2, d3, d4] => { results := [.lit (.bool true)], args := [d1, d2, d3, d4] }
  | _ => none }
def fnExactTapeHessianRow : OpenClaim := { program := "ytfkohgfcchhlpaa", sum := "1fec58152d31ddfeaf577c239e814a5fc32b30936f2fb5a0cdefcccf077e76d9", func := "loop.example/g01091/laws.FnExactTapeHessian", spec := "fnExactTapeHessian", unfollowed := true, recurses := true, plainKeys := false, apart := false }
def FnExactTapeHessianSaid : Prop := fnExactTapeHessianRow.holds Try.pinned (OpenSpec.ofChange fnExactTapeHessianSpec)

/-- ITS FALSE NEIGHBOUR: 'it returns false'. Refute it at one input. -/
def fnExactTapeHessianWrong : ChangeSpec := { name := "fnExactTapeHessian", fn := fun _ => fun
  | [d1, d2, d3, d4] => { results := [.lit (.bool false)], args := [d1, d2, d3, d4] }
  | _ => none }
def FnExactTapeHessianWrongFalsely : Prop := fnExactTapeHessianRow.holds Try.pinned (OpenSpec.ofChange fnExactTapeHessianWrong)

/-- 'laws.FnExactTapeReverse': WHATEVER THE INPUT: true; the input reads as it did. -/
def fnExactTapeReverseSpec : ChangeSpec := { name := "fnExactTapeReverse", fn := fun _ => fun
  | [d1, d2, d3] => { results := [.lit (.bool true)], args := [d1, d2, d3] }
  | _ => none }
def fnExactTapeReverseRow : OpenClaim := { program := "ytfkohgfcchhlpaa", sum := "1fec58152d31ddfeaf577c239e814a5fc32b30936f2fb5a0cdefcccf077e76d9", func := "loop.example/g01091/laws.FnExactTapeReverse", spec := "fnExactTapeReverse", unfollowed := true, recurses := true, plainKeys := false, apart := false }
def FnExactTapeReverseSaid : Prop := fnExactTapeReverseRow.holds Try.pinned (OpenSpec.ofChange fnExactTapeReverseSpec)

/-- ITS FALSE NEIGHBOUR: 'it returns false'. Refute it at one input. -/
def fnExactTapeReverseWrong : ChangeSpec := { name := "fnExactTapeReverse", fn := fun _ => fun
  | [d1, d2, d3] => { results := [.lit (.bool false)], args := [d1, d2, d3] }
  | _ => none }
def FnExactTapeReverseWrongFalsely : Prop := fnExactTapeReverseRow.holds Try.pinned (OpenSpec.ofChange fnExactTapeReverseWrong)

/- THE SECOND FORM. 'bulk': how many values and letters a reading holds, each counted each time it is reached (what is shared counts as often as it is met; a slice's spare places count too). A statement '..UptoSaid' is the law's where the arguments, and the package variables that the reading takes, are together of bulk at most 1048576: NARROWER than '..Said'. Prove '..Said' where nothing that the law and all that it calls make is longer than what came in: it says more and counts as full. Else prove '..UptoSaid'. A law counts once. -/
mutual
def uptoBulk {H : Type} : DataW H → Nat
  | .lit (.string bytes) => bytes.length + 1
  | .lit _ => 1
  | .nil => 1
  | .ptr d => uptoBulk d + 1
  | .slice elems spare => uptoBulkAll elems + uptoBulkAll spare + 1
  | .agg parts => uptoBulkAll parts + 1
  | .iface _ d => uptoBulk d + 1
  | .map entries => uptoBulkEntries entries + 1
  | .held _ => 1
def uptoBulkAll {H : Type} : List (DataW H) → Nat
  | [] => 0
  | d :: r => uptoBulk d + uptoBulkAll r
def uptoBulkEntries {H : Type} : List (Lit × DataW H) → Nat
  | [] => 0
  | x :: r => uptoBulkEntry x + uptoBulkEntries r
def uptoBulkEntry {H : Type} : Lit × DataW H → Nat
  | (.string bytes, d) => bytes.length + uptoBulk d + 1
  | (_, d) => uptoBulk d + 1
 end
def uptoSmall : (H : Type) → List (DataW H) → Bool := fun _ ds => decide (uptoBulkAll ds ≤ 1048576)
def OpenSpec.upto (s : _root_.Go.ChangeSpec) : _root_.Go.OpenSpec := { _root_.Go.OpenSpec.ofChange s with cond := some uptoSmall }

/-- 'laws.FnExactSameTape', WHERE WHAT IT READS IS OF BULK AT MOST 1048576: true; the input reads as it did. -/
def fnExactSameTapeUptoRow : OpenClaim := { program := "ytfkohgfcchhlpaa", sum := "1fec58152d31ddfeaf577c239e814a5fc32b30936f2fb5a0cdefcccf077e76d9", func := "loop.example/g01091/laws.FnExactSameTape", spec := "fnExactSameTape", plainKeys := false, apart := false, narrowed := true }
def FnExactSameTapeUptoSaid : Prop := fnExactSameTapeUptoRow.holds Try.pinned (OpenSpec.upto fnExactSameTapeSpec)

/-- 'laws.FnExactValidTape', WHERE WHAT IT READS IS OF BULK AT MOST 1048576: true; the input reads as it did. -/
def fnExactValidTapeUptoRow : OpenClaim := { program := "ytfkohgfcchhlpaa", sum := "1fec58152d31ddfeaf577c239e814a5fc32b30936f2fb5a0cdefcccf077e76d9", func := "loop.example/g01091/laws.FnExactValidTape", spec := "fnExactValidTape", unfollowed := true, recurses := true, plainKeys := false, apart := false, narrowed := true }
def FnExactValidTapeUptoSaid : Prop := fnExactValidTapeUptoRow.holds Try.pinned (OpenSpec.upto fnExactValidTapeSpec)

/-- 'laws.FnExactCountOps', WHERE WHAT IT READS IS OF BULK AT MOST 1048576: true; the input reads as it did. -/
def fnExactCountOpsUptoRow : OpenClaim := { program := "ytfkohgfcchhlpaa", sum := "1fec58152d31ddfeaf577c239e814a5fc32b30936f2fb5a0cdefcccf077e76d9", func := "loop.example/g01091/laws.FnExactCountOps", spec := "fnExactCountOps", unfollowed := true, recurses := true, plainKeys := false, apart := false, narrowed := true }
def FnExactCountOpsUptoSaid : Prop := fnExactCountOpsUptoRow.holds Try.pinned (OpenSpec.upto fnExactCountOpsSpec)

/-- 'laws.FnExactShareTape', WHERE WHAT IT READS IS OF BULK AT MOST 1048576: true; the input reads as it did. -/
def fnExactShareTapeUptoRow : OpenClaim := { program := "ytfkohgfcchhlpaa", sum := "1fec58152d31ddfeaf577c239e814a5fc32b30936f2fb5a0cdefcccf077e76d9", func := "loop.example/g01091/laws.FnExactShareTape", spec := "fnExactShareTape", unfollowed := true, recurses := true, plainKeys := false, apart := false, narrowed := true }
def FnExactShareTapeUptoSaid : Prop := fnExactShareTapeUptoRow.holds Try.pinned (OpenSpec.upto fnExactShareTapeSpec)

/-- 'laws.FnExactTrimTape', WHERE WHAT IT READS IS OF BULK AT MOST 1048576: true; the input reads as it did. -/
def fnExactTrimTapeUptoRow : OpenClaim := { program := "ytfkohgfcchhlpaa", sum := "1fec58152d31ddfeaf577c239e814a5fc32b30936f2fb5a0cdefcccf077e76d9", func := "loop.example/g01091/laws.FnExactTrimTape", spec := "fnExactTrimTape", unfollowed := true, recurses := true, plainKeys := false, apart := false, narrowed := true }
def FnExactTrimTapeUptoSaid : Prop := fnExactTrimTapeUptoRow.holds Try.pinned (OpenSpec.upto fnExactTrimTapeSpec)

/-- 'laws.FnExactFoldTape', WHERE WHAT IT READS IS OF BULK AT MOST 1048576: true; the input reads as it did. -/
def fnExactFoldTapeUptoRow : OpenClaim := { program := "ytfkohgfcchhlpaa", sum := "1fec58152d31ddfeaf577c239e814a5fc32b30936f2fb5a0cdefcccf077e76d9", func := "loop.example/g01091/laws.FnExactFoldTape", spec := "fnExactFoldTape", unfollowed := true, recurses := true, plainKeys := false, apart := false, narrowed := true }
def FnExactFoldTapeUptoSaid : Prop := fnExactFoldTapeUptoRow.holds Try.pinned (OpenSpec.upto fnExactFoldTapeSpec)

/-- 'laws.FnExactGuardsHold', WHERE WHAT IT READS IS OF BULK AT MOST 1048576: true; the input reads as it did. -/
def fnExactGuardsHoldUptoRow : OpenClaim := { program := "ytfkohgfcchhlpaa", sum := "1fec58152d31ddfeaf577c239e814a5fc32b30936f2fb5a0cdefcccf077e76d9", func := "loop.example/g01091/laws.FnExactGuardsHold", spec := "fnExactGuardsHold", unfollowed := true, recurses := true, plainKeys := false, apart := false, narrowed := true }
def FnExactGuardsHoldUptoSaid : Prop := fnExactGuardsHoldUptoRow.holds Try.pinned (OpenSpec.upto fnExactGuardsHoldSpec)

/-- 'laws.FnExactRegistersOf', WHERE WHAT IT READS IS OF BULK AT MOST 1048576: true; the input reads as it did. -/
def fnExactRegistersOfUptoRow : OpenClaim := { program := "ytfkohgfcchhlpaa", sum := "1fec58152d31ddfeaf577c239e814a5fc32b30936f2fb5a0cdefcccf077e76d9", func := "loop.example/g01091/laws.FnExactRegistersOf", spec := "fnExactRegistersOf", unfollowed := true, recurses := true, plainKeys := false, apart := false, narrowed := true }
def FnExactRegistersOfUptoSaid : Prop := fnExactRegistersOfUptoRow.holds Try.pinned (OpenSpec.upto fnExactRegistersOfSpec)

/-- 'laws.FnExactTapeForward', WHERE WHAT IT READS IS OF BULK AT MOST 1048576: true; the input reads as it did. -/
def fnExactTapeForwardUptoRow : OpenClaim := { program := "ytfkohgfcchhlpaa", sum := "1fec58152d31ddfeaf577c239e814a5fc32b30936f2fb5a0cdefcccf077e76d9", func := "loop.example/g01091/laws.FnExactTapeForward", spec := "fnExactTapeForward", unfollowed := true, recurses := true, plainKeys := false, apart := false, narrowed := true }
def FnExactTapeForwardUptoSaid : Prop := fnExactTapeForwardUptoRow.holds Try.pinned (OpenSpec.upto fnExactTapeForwardSpec)

/-- 'laws.FnExactRunTape', WHERE WHAT IT READS IS OF BULK AT MOST 1048576: true; the input reads as it did. -/
def fnExactRunTapeUptoRow : OpenClaim := { program := "ytfkohgfcchhlpaa", sum := "1fec58152d31ddfeaf577c239e814a5fc32b30936f2fb5a0cdefcccf077e76d9", func := "loop.example/g01091/laws.FnExactRunTape", spec := "fnExactRunTape", unfollowed := true, recurses := true, plainKeys := false, apart := false, narrowed := true }
def FnExactRunTapeUptoSaid : Prop := fnExactRunTapeUptoRow.holds Try.pinned (OpenSpec.upto fnExactRunTapeSpec)

/-- 'laws.FnExactTapeSeries', WHERE WHAT IT READS IS OF BULK AT MOST 1048576: true; the input reads as it did. -/
def fnExactTapeSeriesUptoRow : OpenClaim := { program := "ytfkohgfcchhlpaa", sum := "1fec58152d31ddfeaf577c239e814a5fc32b30936f2fb5a0cdefcccf077e76d9", func := "loop.example/g01091/laws.FnExactTapeSeries", spec := "fnExactTapeSeries", unfollowed := true, recurses := true, plainKeys := false, apart := false, narrowed := true }
def FnExactTapeSeriesUptoSaid : Prop := fnExactTapeSeriesUptoRow.holds Try.pinned (OpenSpec.upto fnExactTapeSeriesSpec)

/-- 'laws.FnExactAdjointsOf', WHERE WHAT IT READS IS OF BULK AT MOST 1048576: true; the input reads as it did. -/
def fnExactAdjointsOfUptoRow : OpenClaim := { program := "ytfkohgfcchhlpaa", sum := "1fec58152d31ddfeaf577c239e814a5fc32b30936f2fb5a0cdefcccf077e76d9", func := "loop.example/g01091/laws.FnExactAdjointsOf", spec := "fnExactAdjointsOf", unfollowed := true, recurses := true, plainKeys := false, apart := false, narrowed := true }
def FnExactAdjointsOfUptoSaid : Prop := fnExactAdjointsOfUptoRow.holds Try.pinned (OpenSpec.upto fnExactAdjointsOfSpec)

/-- 'laws.FnExactOptimizeTape', WHERE WHAT IT READS IS OF BULK AT MOST 1048576: true; the input reads as it did. -/
def fnExactOptimizeTapeUptoRow : OpenClaim := { program := "ytfkohgfcchhlpaa", sum := "1fec58152d31ddfeaf577c239e814a5fc32b30936f2fb5a0cdefcccf077e76d9", func := "loop.example/g01091/laws.FnExactOptimizeTape", spec := "fnExactOptimizeTape", unfollowed := true, recurses := true, plainKeys := false, apart := false, narrowed := true }
def FnExactOptimizeTapeUptoSaid : Prop := fnExactOptimizeTapeUptoRow.holds Try.pinned (OpenSpec.upto fnExactOptimizeTapeSpec)

/-- 'laws.FnExactTapeHessian', WHERE WHAT IT READS IS OF BULK AT MOST 1048576: true; the input reads as it did. -/
def fnExactTapeHessianUptoRow : OpenClaim := { program := "ytfkohgfcchhlpaa", sum := "1fec58152d31ddfeaf577c239e814a5fc32b30936f2fb5a0cdefcccf077e76d9", func := "loop.example/g01091/laws.FnExactTapeHessian", spec := "fnExactTapeHessian", unfollowed := true, recurses := true, plainKeys := false, apart := false, narrowed := true }
def FnExactTapeHessianUptoSaid : Prop := fnExactTapeHessianUptoRow.holds Try.pinned (OpenSpec.upto fnExactTapeHessianSpec)

/-- 'laws.FnExactTapeReverse', WHERE WHAT IT READS IS OF BULK AT MOST 1048576: true; the input reads as it did. -/
def fnExactTapeReverseUptoRow : OpenClaim := { program := "ytfkohgfcchhlpaa", sum := "1fec58152d31ddfeaf577c239e814a5fc32b30936f2fb5a0cdefcccf077e76d9", func := "loop.example/g01091/laws.FnExactTapeReverse", spec := "fnExactTapeReverse", unfollowed := true, recurses := true, plainKeys := false, apart := false, narrowed := true }
def FnExactTapeReverseUptoSaid : Prop := fnExactTapeReverseUptoRow.holds Try.pinned (OpenSpec.upto fnExactTapeReverseSpec)

end Rows
end Go.Proofs.Ytfkohgfcchhlpaa
