/-
  No cell of these rows narrows 'for every input' (looked for: loops, veiled, ifaces, maps, wideKeys, modest, calm, conditions, laid).
  DERIVED. THE GIVEN ROWS OF THIS SEAT. 17 by the template 'for every input the law returns true; each argument reads behind the call as it read before'; 0 by the template 'total and deterministic' (their statements: YtlhfcmcocbiafaaTotals.lean).
  GIVEN WITH THE SEED: the statements are not yours to turn. If you find one false, say at which input.
  Laid BY PROGRAM, IN A SANDBOX (cutbox-rows.mjs): the forced cells as the released guide's own fill.sh prints them over the translation 7b8c1ebf1ff3e6ea… (all of the seat's roots in one cut). By AI agents, Wed Nov 11 2026. No macro, syntax, notation, axiom, sorry.
-/
import Derived.Test.YtlhfcmcocbiafaaChecked
import GoSem.Claim
import GoSem.ClaimJoined
import GoSem.ClaimMapViews
import Derived.JoinedTies
import Derived.KernelRfl
namespace Go.Proofs.Ytlhfcmcocbiafaa
/- THE CELL 'sum', in the pinned program and in every row, IS THE sha256 OF THE DUMP (.gsa) THAT YtlhfcmcocbiafaaProg.lean LOADS. Nothing in Lean hashes anything: it is a label: what it is worth is what the hold of that sum in a sandbox is worth. -/
noncomputable def Try.pinned : Pinned := { name := "ytlhfcmcocbiafaa", sum := "7b8c1ebf1ff3e6ea3e51c5ed226e27203f75ee434b9391cc6430252aa904f127", checked := Try.checked }
namespace Rows
def none {H : Type} : Left H := { results := [], args := [] }

/-- 'laws.FnExactResidue': WHATEVER THE INPUT: true; the input reads as it did. -/
def fnExactResidueSpec : ChangeSpec := { name := "fnExactResidue", fn := fun _ => fun
  | [d] => { results := [.lit (.bool true)], args := [d] }
  | _ => none }
def fnExactResidueRow : OpenClaim := { program := "ytlhfcmcocbiafaa", sum := "7b8c1ebf1ff3e6ea3e51c5ed226e27203f75ee434b9391cc6430252aa904f127", func := "loop.example/g01091/laws.FnExactResidue", spec := "fnExactResidue", apart := false }
def FnExactResidueSaid : Prop := fnExactResidueRow.holds Try.pinned (OpenSpec.ofChange fnExactResidueSpec)

/-- ITS FALSE NEIGHBOUR: 'it returns false'. Refute it at one input. -/
def fnExactResidueWrong : ChangeSpec := { name := "fnExactResidue", fn := fun _ => fun
  | [d] => { results := [.lit (.bool false)], args := [d] }
  | _ => none }
def FnExactResidueWrongFalsely : Prop := fnExactResidueRow.holds Try.pinned (OpenSpec.ofChange fnExactResidueWrong)

/-- 'laws.FnExactPlus': WHATEVER THE INPUT: true; the input reads as it did. -/
def fnExactPlusSpec : ChangeSpec := { name := "fnExactPlus", fn := fun _ => fun
  | [d1, d2] => { results := [.lit (.bool true)], args := [d1, d2] }
  | _ => none }
def fnExactPlusRow : OpenClaim := { program := "ytlhfcmcocbiafaa", sum := "7b8c1ebf1ff3e6ea3e51c5ed226e27203f75ee434b9391cc6430252aa904f127", func := "loop.example/g01091/laws.FnExactPlus", spec := "fnExactPlus", apart := false }
def FnExactPlusSaid : Prop := fnExactPlusRow.holds Try.pinned (OpenSpec.ofChange fnExactPlusSpec)

/-- ITS FALSE NEIGHBOUR: 'it returns false'. Refute it at one input. -/
def fnExactPlusWrong : ChangeSpec := { name := "fnExactPlus", fn := fun _ => fun
  | [d1, d2] => { results := [.lit (.bool false)], args := [d1, d2] }
  | _ => none }
def FnExactPlusWrongFalsely : Prop := fnExactPlusRow.holds Try.pinned (OpenSpec.ofChange fnExactPlusWrong)

/-- 'laws.FnExactTimes': WHATEVER THE INPUT: true; the input reads as it did. -/
def fnExactTimesSpec : ChangeSpec := { name := "fnExactTimes", fn := fun _ => fun
  | [d1, d2] => { results := [.lit (.bool true)], args := [d1, d2] }
  | _ => none }
def fnExactTimesRow : OpenClaim := { program := "ytlhfcmcocbiafaa", sum := "7b8c1ebf1ff3e6ea3e51c5ed226e27203f75ee434b9391cc6430252aa904f127", func := "loop.example/g01091/laws.FnExactTimes", spec := "fnExactTimes", apart := false }
def FnExactTimesSaid : Prop := fnExactTimesRow.holds Try.pinned (OpenSpec.ofChange fnExactTimesSpec)

/-- ITS FALSE NEIGHBOUR: 'it returns false'. Refute it at one input. -/
def fnExactTimesWrong : ChangeSpec := { name := "fnExactTimes", fn := fun _ => fun
  | [d1, d2] => { results := [.lit (.bool false)], args := [d1, d2] }
  | _ => none }
def FnExactTimesWrongFalsely : Prop := fnExactTimesRow.holds Try.pinned (OpenSpec.ofChange fnExactTimesWrong)

/-- 'laws.FnExactPower': WHATEVER THE INPUT: true; the input reads as it did. -/
def fnExactPowerSpec : ChangeSpec := { name := "fnExactPower", fn := fun _ => fun
  | [d1, d2] => { results := [.lit (.bool true)], args := [d1, d2] }
  | _ => none }
def fnExactPowerRow : OpenClaim := { program := "ytlhfcmcocbiafaa", sum := "7b8c1ebf1ff3e6ea3e51c5ed226e27203f75ee434b9391cc6430252aa904f127", func := "loop.example/g01091/laws.FnExactPower", spec := "fnExactPower", apart := false }
def FnExactPowerSaid : Prop := fnExactPowerRow.holds Try.pinned (OpenSpec.ofChange fnExactPowerSpec)

/-- ITS FALSE NEIGHBOUR: 'it returns false'. Refute it at one input. -/
def fnExactPowerWrong : ChangeSpec := { name := "fnExactPower", fn := fun _ => fun
  | [d1, d2] => { results := [.lit (.bool false)], args := [d1, d2] }
  | _ => none }
def FnExactPowerWrongFalsely : Prop := fnExactPowerRow.holds Try.pinned (OpenSpec.ofChange fnExactPowerWrong)

/-- 'laws.FnExactInverse': WHATEVER THE INPUT: true; the input reads as it did. -/
def fnExactInverseSpec : ChangeSpec := { name := "fnExactInverse", fn := fun _ => fun
  | [d] => { results := [.lit (.bool true)], args := [d] }
  | _ => none }
def fnExactInverseRow : OpenClaim := { program := "ytlhfcmcocbiafaa", sum := "7b8c1ebf1ff3e6ea3e51c5ed226e27203f75ee434b9391cc6430252aa904f127", func := "loop.example/g01091/laws.FnExactInverse", spec := "fnExactInverse", apart := false }
def FnExactInverseSaid : Prop := fnExactInverseRow.holds Try.pinned (OpenSpec.ofChange fnExactInverseSpec)

/-- ITS FALSE NEIGHBOUR: 'it returns false'. Refute it at one input. -/
def fnExactInverseWrong : ChangeSpec := { name := "fnExactInverse", fn := fun _ => fun
  | [d] => { results := [.lit (.bool false)], args := [d] }
  | _ => none }
def FnExactInverseWrongFalsely : Prop := fnExactInverseRow.holds Try.pinned (OpenSpec.ofChange fnExactInverseWrong)

/-- 'laws.FnExactValidSeries': WHATEVER THE INPUT: true; the input reads as it did. -/
def fnExactValidSeriesSpec : ChangeSpec := { name := "fnExactValidSeries", fn := fun _ => fun
  | [d] => { results := [.lit (.bool true)], args := [d] }
  | _ => none }
def fnExactValidSeriesRow : OpenClaim := { program := "ytlhfcmcocbiafaa", sum := "7b8c1ebf1ff3e6ea3e51c5ed226e27203f75ee434b9391cc6430252aa904f127", func := "loop.example/g01091/laws.FnExactValidSeries", spec := "fnExactValidSeries", unfollowed := true, recurses := true, apart := false }
def FnExactValidSeriesSaid : Prop := fnExactValidSeriesRow.holds Try.pinned (OpenSpec.ofChange fnExactValidSeriesSpec)

/-- ITS FALSE NEIGHBOUR: 'it returns false'. Refute it at one input. -/
def fnExactValidSeriesWrong : ChangeSpec := { name := "fnExactValidSeries", fn := fun _ => fun
  | [d] => { results := [.lit (.bool false)], args := [d] }
  | _ => none }
def FnExactValidSeriesWrongFalsely : Prop := fnExactValidSeriesRow.holds Try.pinned (OpenSpec.ofChange fnExactValidSeriesWrong)

/-- 'laws.FnExactValueAt': WHATEVER THE INPUT: true; the input reads as it did. -/
def fnExactValueAtSpec : ChangeSpec := { name := "fnExactValueAt", fn := fun _ => fun
  | [d1, d2] => { results := [.lit (.bool true)], args := [d1, d2] }
  | _ => none }
def fnExactValueAtRow : OpenClaim := { program := "ytlhfcmcocbiafaa", sum := "7b8c1ebf1ff3e6ea3e51c5ed226e27203f75ee434b9391cc6430252aa904f127", func := "loop.example/g01091/laws.FnExactValueAt", spec := "fnExactValueAt", unfollowed := true, recurses := true, apart := false }
def FnExactValueAtSaid : Prop := fnExactValueAtRow.holds Try.pinned (OpenSpec.ofChange fnExactValueAtSpec)

/-- ITS FALSE NEIGHBOUR: 'it returns false'. Refute it at one input. -/
def fnExactValueAtWrong : ChangeSpec := { name := "fnExactValueAt", fn := fun _ => fun
  | [d1, d2] => { results := [.lit (.bool false)], args := [d1, d2] }
  | _ => none }
def FnExactValueAtWrongFalsely : Prop := fnExactValueAtRow.holds Try.pinned (OpenSpec.ofChange fnExactValueAtWrong)

/-- 'laws.FnExactDerivativeOf': WHATEVER THE INPUT: true; the input reads as it did. -/
def fnExactDerivativeOfSpec : ChangeSpec := { name := "fnExactDerivativeOf", fn := fun _ => fun
  | [d] => { results := [.lit (.bool true)], args := [d] }
  | _ => none }
def fnExactDerivativeOfRow : OpenClaim := { program := "ytlhfcmcocbiafaa", sum := "7b8c1ebf1ff3e6ea3e51c5ed226e27203f75ee434b9391cc6430252aa904f127", func := "loop.example/g01091/laws.FnExactDerivativeOf", spec := "fnExactDerivativeOf", unfollowed := true, recurses := true, apart := false }
def FnExactDerivativeOfSaid : Prop := fnExactDerivativeOfRow.holds Try.pinned (OpenSpec.ofChange fnExactDerivativeOfSpec)

/-- ITS FALSE NEIGHBOUR: 'it returns false'. Refute it at one input. -/
def fnExactDerivativeOfWrong : ChangeSpec := { name := "fnExactDerivativeOf", fn := fun _ => fun
  | [d] => { results := [.lit (.bool false)], args := [d] }
  | _ => none }
def FnExactDerivativeOfWrongFalsely : Prop := fnExactDerivativeOfRow.holds Try.pinned (OpenSpec.ofChange fnExactDerivativeOfWrong)

/-- 'laws.FnExactAddSeries': WHATEVER THE INPUT: true; the input reads as it did. -/
def fnExactAddSeriesSpec : ChangeSpec := { name := "fnExactAddSeries", fn := fun _ => fun
  | [d1, d2] => { results := [.lit (.bool true)], args := [d1, d2] }
  | _ => none }
def fnExactAddSeriesRow : OpenClaim := { program := "ytlhfcmcocbiafaa", sum := "7b8c1ebf1ff3e6ea3e51c5ed226e27203f75ee434b9391cc6430252aa904f127", func := "loop.example/g01091/laws.FnExactAddSeries", spec := "fnExactAddSeries", unfollowed := true, recurses := true, apart := false }
def FnExactAddSeriesSaid : Prop := fnExactAddSeriesRow.holds Try.pinned (OpenSpec.ofChange fnExactAddSeriesSpec)

/-- ITS FALSE NEIGHBOUR: 'it returns false'. Refute it at one input. -/
def fnExactAddSeriesWrong : ChangeSpec := { name := "fnExactAddSeries", fn := fun _ => fun
  | [d1, d2] => { results := [.lit (.bool false)], args := [d1, d2] }
  | _ => none }
def FnExactAddSeriesWrongFalsely : Prop := fnExactAddSeriesRow.holds Try.pinned (OpenSpec.ofChange fnExactAddSeriesWrong)

/-- 'laws.FnExactMulSeries': WHATEVER THE INPUT: true; the input reads as it did. -/
def fnExactMulSeriesSpec : ChangeSpec := { name := "fnExactMulSeries", fn := fun _ => fun
  | [d1, d2] => { results := [.lit (.bool true)], args := [d1, d2] }
  | _ => none }
def fnExactMulSeriesRow : OpenClaim := { program := "ytlhfcmcocbiafaa", sum := "7b8c1ebf1ff3e6ea3e51c5ed226e27203f75ee434b9391cc6430252aa904f127", func := "loop.example/g01091/laws.FnExactMulSeries", spec := "fnExactMulSeries", unfollowed := true, recurses := true, apart := false }
def FnExactMulSeriesSaid : Prop := fnExactMulSeriesRow.holds Try.pinned (OpenSpec.ofChange fnExactMulSeriesSpec)

/-- ITS FALSE NEIGHBOUR: 'it returns false'. Refute it at one input. -/
def fnExactMulSeriesWrong : ChangeSpec := { name := "fnExactMulSeries", fn := fun _ => fun
  | [d1, d2] => { results := [.lit (.bool false)], args := [d1, d2] }
  | _ => none }
def FnExactMulSeriesWrongFalsely : Prop := fnExactMulSeriesRow.holds Try.pinned (OpenSpec.ofChange fnExactMulSeriesWrong)

/-- 'laws.FnExactIntegralOf': WHATEVER THE INPUT: true; the input reads as it did. -/
def fnExactIntegralOfSpec : ChangeSpec := { name := "fnExactIntegralOf", fn := fun _ => fun
  | [d] => { results := [.lit (.bool true)], args := [d] }
  | _ => none }
def fnExactIntegralOfRow : OpenClaim := { program := "ytlhfcmcocbiafaa", sum := "7b8c1ebf1ff3e6ea3e51c5ed226e27203f75ee434b9391cc6430252aa904f127", func := "loop.example/g01091/laws.FnExactIntegralOf", spec := "fnExactIntegralOf", unfollowed := true, recurses := true, apart := false }
def FnExactIntegralOfSaid : Prop := fnExactIntegralOfRow.holds Try.pinned (OpenSpec.ofChange fnExactIntegralOfSpec)

/-- ITS FALSE NEIGHBOUR: 'it returns false'. Refute it at one input. -/
def fnExactIntegralOfWrong : ChangeSpec := { name := "fnExactIntegralOf", fn := fun _ => fun
  | [d] => { results := [.lit (.bool false)], args := [d] }
  | _ => none }
def FnExactIntegralOfWrongFalsely : Prop := fnExactIntegralOfRow.holds Try.pinned (OpenSpec.ofChange fnExactIntegralOfWrong)

/-- 'laws.FnExactExpSeries': WHATEVER THE INPUT: true; the input reads as it did. -/
def fnExactExpSeriesSpec : ChangeSpec := { name := "fnExactExpSeries", fn := fun _ => fun
  | [d] => { results := [.lit (.bool true)], args := [d] }
  | _ => none }
def fnExactExpSeriesRow : OpenClaim := { program := "ytlhfcmcocbiafaa", sum := "7b8c1ebf1ff3e6ea3e51c5ed226e27203f75ee434b9391cc6430252aa904f127", func := "loop.example/g01091/laws.FnExactExpSeries", spec := "fnExactExpSeries", unfollowed := true, recurses := true, apart := false }
def FnExactExpSeriesSaid : Prop := fnExactExpSeriesRow.holds Try.pinned (OpenSpec.ofChange fnExactExpSeriesSpec)

/-- ITS FALSE NEIGHBOUR: 'it returns false'. Refute it at one input. -/
def fnExactExpSeriesWrong : ChangeSpec := { name := "fnExactExpSeries", fn := fun _ => fun
  | [d] => { results := [.lit (.bool false)], args := [d] }
  | _ => none }
def FnExactExpSeriesWrongFalsely : Prop := fnExactExpSeriesRow.holds Try.pinned (OpenSpec.ofChange fnExactExpSeriesWrong)

/-- 'laws.FnExactComposeSeries': WHATEVER THE INPUT: true; the input reads as it did. -/
def fnExactComposeSeriesSpec : ChangeSpec := { name := "fnExactComposeSeries", fn := fun _ => fun
  | [d1, d2] => { results := [.lit (.bool true)], args := [d1, d2] }
  | _ => none }
def fnExactComposeSeriesRow : OpenClaim := { program := "ytlhfcmcocbiafaa", sum := "7b8c1ebf1ff3e6ea3e51c5ed226e27203f75ee434b9391cc6430252aa904f127", func := "loop.example/g01091/laws.FnExactComposeSeries", spec := "fnExactComposeSeries", unfollowed := true, recurses := true, apart := false }
def FnExactComposeSeriesSaid : Prop := fnExactComposeSeriesRow.holds Try.pinned (OpenSpec.ofChange fnExactComposeSeriesSpec)

/-- ITS FALSE NEIGHBOUR: 'it returns false'. Refute it at one input. -/
def fnExactComposeSeriesWrong : ChangeSpec := { name := "fnExactComposeSeries", fn := fun _ => fun
  | [d1, d2] => { results := [.lit (.bool false)], args := [d1, d2] }
  | _ => none }
def FnExactComposeSeriesWrongFalsely : Prop := fnExactComposeSeriesRow.holds Try.pinned (OpenSpec.ofChange fnExactComposeSeriesWrong)

/-- 'laws.FnExactDivSeries': WHATEVER THE INPUT: true; the input reads as it did. -/
def fnExactDivSeriesSpec : ChangeSpec := { name := "fnExactDivSeries", fn := fun _ => fun
  | [d1, d2] => { results := [.lit (.bool true)], args := [d1, d2] }
  | _ => none }
def fnExactDivSeriesRow : OpenClaim := { program := "ytlhfcmcocbiafaa", sum := "7b8c1ebf1ff3e6ea3e51c5ed226e27203f75ee434b9391cc6430252aa904f127", func := "loop.example/g01091/laws.FnExactDivSeries", spec := "fnExactDivSeries", unfollowed := true, recurses := true, apart := false }
def FnExactDivSeriesSaid : Prop := fnExactDivSeriesRow.holds Try.pinned (OpenSpec.ofChange fnExactDivSeriesSpec)

/-- ITS FALSE NEIGHBOUR: 'it returns false'. Refute it at one input. -/
def fnExactDivSeriesWrong : ChangeSpec := { name := "fnExactDivSeries", fn := fun _ => fun
  | [d1, d2] => { results := [.lit (.bool false)], args := [d1, d2] }
  | _ => none }
def FnExactDivSeriesWrongFalsely : Prop := fnExactDivSeriesRow.holds Try.pinned (OpenSpec.ofChange fnExactDivSeriesWrong)

/-- 'laws.FnExactLogSeries': WHATEVER THE INPUT: true; the input reads as it did. -/
def fnExactLogSeriesSpec : ChangeSpec := { name := "fnExactLogSeries", fn := fun _ => fun
  | [d] => { results := [.lit (.bool true)], args := [d] }
  | _ => none }
def fnExactLogSeriesRow : OpenClaim := { program := "ytlhfcmcocbiafaa", sum := "7b8c1ebf1ff3e6ea3e51c5ed226e27203f75ee434b9391cc6430252aa904f127", func := "loop.example/g01091/laws.FnExactLogSeries", spec := "fnExactLogSeries", unfollowed := true, recurses := true, apart := false }
def FnExactLogSeriesSaid : Prop := fnExactLogSeriesRow.holds Try.pinned (OpenSpec.ofChange fnExactLogSeriesSpec)

/-- ITS FALSE NEIGHBOUR: 'it returns false'. Refute it at one input. -/
def fnExactLogSeriesWrong : ChangeSpec := { name := "fnExactLogSeries", fn := fun _ => fun
  | [d] => { results := [.lit (.bool false)], args := [d] }
  | _ => none }
def FnExactLogSeriesWrongFalsely : Prop := fnExactLogSeriesRow.holds Try.pinned (OpenSpec.ofChange fnExactLogSeriesWrong)

/-- 'laws.FnExactReverseSeries': WHATEVER THE INPUT: true; the input reads as it did. -/
def fnExactReverseSeriesSpec : ChangeSpec := { name := "fnExactReverseSeries", fn := fun _ => fun
  | [d] => { results := [.lit (.bool true)], args := [d] }
  | _ => none }
def fnExactReverseSeriesRow : OpenClaim := { program := "ytlhfcmcocbiafaa", sum := "7b8c1ebf1ff3e6ea3e51c5ed226e27203f75ee434b9391cc6430252aa904f127", func := "loop.example/g01091/laws.FnExactReverseSeries", spec := "fnExactReverseSeries", unfollowed := true, recurses := true, apart := false }
def FnExactReverseSeriesSaid : Prop := fnExactReverseSeriesRow.holds Try.pinned (OpenSpec.ofChange fnExactReverseSeriesSpec)

/-- ITS FALSE NEIGHBOUR: 'it returns false'. Refute it at one input. -/
def fnExactReverseSeriesWrong : ChangeSpec := { name := "fnExactReverseSeries", fn := fun _ => fun
  | [d] => { results := [.lit (.bool false)], args := [d] }
  | _ => none }
def FnExactReverseSeriesWrongFalsely : Prop := fnExactReverseSeriesRow.holds Try.pinned (OpenSpec.ofChange fnExactReverseSeriesWrong)

/-- 'laws.FnExactInterpolate': WHATEVER THE INPUT: true; the input reads as it did. -/
def fnExactInterpolateSpec : ChangeSpec := { name := "fnExactInterpolate", fn := fun _ => fun
  | [d] => { results := [.lit (.bool true)], args := [d] }
  | _ => none }
def fnExactInterpolateRow : OpenClaim := { program := "ytlhfcmcocbiafaa", sum := "7b8c1ebf1ff3e6ea3e51c5ed226e27203f75ee434b9391cc6430252aa904f127", func := "loop.example/g01091/laws.FnExactInterpolate", spec := "fnExactInterpolate", unfollowed := true, recurses := true, apart := false }
def FnExactInterpolateSaid : Prop := fnExactInterpolateRow.holds Try.pinned (OpenSpec.ofChange fnExactInterpolateSpec)

/-- ITS FALSE NEIGHBOUR: 'it returns false'. Refute it at one input. -/
def fnExactInterpolateWrong : ChangeSpec := { name := "fnExactInterpolate", fn := fun _ => fun
  | [d] => { results := [.lit (.bool false)], args := [d] }
  | _ => none }
def FnExactInterpolateWrongFalsely : Prop := fnExactInterpolateRow.holds Try.pinned (OpenSpec.ofChange fnExactInterpolateWrong)

/- THE SECOND FORM. 'bulk': how many values and letters a reading holds, each counted each time it is reached (what is shared counts as often as it is met; a slice's spare places count too). A statement '..UptoSaid' is the law's where the arguments, and the package variables that the reading takes, are together of bulk at most 1048576: NARROWER than '..Said'. Prove '..Said' where nothing that the law and all that it calls make is longer than what came in: it says more and counts as full. Else prove '..UptoSaid'. A law counts once. -/
mutual
def uptoBulk {H : Type} : DataW H → Nat
  | .lit (.string bytes) => bytes.length + 1
  | .lit _ => 1
  | .nil => 1
  | .ptr d => uptoBulk d + 1
  | .slice elems spare => uptoBulkAll elems + uptoBulkAll spare + 1
  | .agg parts => uptoBulkAll parts + 1
  | .iface _ d => uptoBulk d + 1
  | .map entries => uptoBulkEntries entries + 1
  | .held _ => 1
def uptoBulkAll {H : Type} : List (DataW H) → Nat
  | [] => 0
  | d :: r => uptoBulk d + uptoBulkAll r
def uptoBulkEntries {H : Type} : List (Lit × DataW H) → Nat
  | [] => 0
  | x :: r => uptoBulkEntry x + uptoBulkEntries r
def uptoBulkEntry {H : Type} : Lit × DataW H → Nat
  | (.string bytes, d) => bytes.length + uptoBulk d + 1
  | (_, d) => uptoBulk d + 1
 end
def uptoSmall : (H : Type) → List (DataW H) → Bool := fun _ ds => decide (uptoBulkAll ds ≤ 1048576)
def OpenSpec.upto (s : _root_.Go.ChangeSpec) : _root_.Go.OpenSpec := { _root_.Go.OpenSpec.ofChange s with cond := some uptoSmall }

/-- 'laws.FnExactResidue', WHERE WHAT IT READS IS OF BULK AT MOST 1048576: true; the input reads as it did. -/
def fnExactResidueUptoRow : OpenClaim := { program := "ytlhfcmcocbiafaa", sum := "7b8c1ebf1ff3e6ea3e51c5ed226e27203f75ee434b9391cc6430252aa904f127", func := "loop.example/g01091/laws.FnExactResidue", spec := "fnExactResidue", apart := false, narrowed := true }
def FnExactResidueUptoSaid : Prop := fnExactResidueUptoRow.holds Try.pinned (OpenSpec.upto fnExactResidueSpec)

/-- 'laws.FnExactPlus', WHERE WHAT IT READS IS OF BULK AT MOST 1048576: true; the input reads as it did. -/
def fnExactPlusUptoRow : OpenClaim := { program := "ytlhfcmcocbiafaa", sum := "7b8c1ebf1ff3e6ea3e51c5ed226e27203f75ee434b9391cc6430252aa904f127", func := "loop.example/g01091/laws.FnExactPlus", spec := "fnExactPlus", apart := false, narrowed := true }
def FnExactPlusUptoSaid : Prop := fnExactPlusUptoRow.holds Try.pinned (OpenSpec.upto fnExactPlusSpec)

/-- 'laws.FnExactTimes', WHERE WHAT IT READS IS OF BULK AT MOST 1048576: true; the input reads as it did. -/
def fnExactTimesUptoRow : OpenClaim := { program := "ytlhfcmcocbiafaa", sum := "7b8c1ebf1ff3e6ea3e51c5ed226e27203f75ee434b9391cc6430252aa904f127", func := "loop.example/g01091/laws.FnExactTimes", spec := "fnExactTimes", apart := false, narrowed := true }
def FnExactTimesUptoSaid : Prop := fnExactTimesUptoRow.holds Try.pinned (OpenSpec.upto fnExactTimesSpec)

/-- 'laws.FnExactPower', WHERE WHAT IT READS IS OF BULK AT MOST 1048576: true; the input reads as it did. -/
def fnExactPowerUptoRow : OpenClaim := { program := "ytlhfcmcocbiafaa", sum := "7b8c1ebf1ff3e6ea3e51c5ed226e27203f75ee434b9391cc6430252aa904f127", func := "loop.example/g01091/laws.FnExactPower", spec := "fnExactPower", apart := false, narrowed := true }
def FnExactPowerUptoSaid : Prop := fnExactPowerUptoRow.holds Try.pinned (OpenSpec.upto fnExactPowerSpec)

/-- 'laws.FnExactInverse', WHERE WHAT IT READS IS OF BULK AT MOST 1048576: true; the input reads as it did. -/
def fnExactInverseUptoRow : OpenClaim := { program := "ytlhfcmcocbiafaa", sum := "7b8c1ebf1ff3e6ea3e51c5ed226e27203f75ee434b9391cc6430252aa904f127", func := "loop.example/g01091/laws.FnExactInverse", spec := "fnExactInverse", apart := false, narrowed := true }
def FnExactInverseUptoSaid : Prop := fnExactInverseUptoRow.holds Try.pinned (OpenSpec.upto fnExactInverseSpec)

/-- 'laws.FnExactValidSeries', WHERE WHAT IT READS IS OF BULK AT MOST 1048576: true; the input reads as it did. -/
def fnExactValidSeriesUptoRow : OpenClaim := { program := "ytlhfcmcocbiafaa", sum := "7b8c1ebf1ff3e6ea3e51c5ed226e27203f75ee434b9391cc6430252aa904f127", func := "loop.example/g01091/laws.FnExactValidSeries", spec := "fnExactValidSeries", unfollowed := true, recurses := true, apart := false, narrowed := true }
def FnExactValidSeriesUptoSaid : Prop := fnExactValidSeriesUptoRow.holds Try.pinned (OpenSpec.upto fnExactValidSeriesSpec)

/-- 'laws.FnExactValueAt', WHERE WHAT IT READS IS OF BULK AT MOST 1048576: true; the input reads as it did. -/
def fnExactValueAtUptoRow : OpenClaim := { program := "ytlhfcmcocbiafaa", sum := "7b8c1ebf1ff3e6ea3e51c5ed226e27203f75ee434b9391cc6430252aa904f127", func := "loop.example/g01091/laws.FnExactValueAt", spec := "fnExactValueAt", unfollowed := true, recurses := true, apart := false, narrowed := true }
def FnExactValueAtUptoSaid : Prop := fnExactValueAtUptoRow.holds Try.pinned (OpenSpec.upto fnExactValueAtSpec)

/-- 'laws.FnExactDerivativeOf', WHERE WHAT IT READS IS OF BULK AT MOST 1048576: true; the input reads as it did. -/
def fnExactDerivativeOfUptoRow : OpenClaim := { program := "ytlhfcmcocbiafaa", sum := "7b8c1ebf1ff3e6ea3e51c5ed226e27203f75ee434b9391cc6430252aa904f127", func := "loop.example/g01091/laws.FnExactDerivativeOf", spec := "fnExactDerivativeOf", unfollowed := true, recurses := true, apart := false, narrowed := true }
def FnExactDerivativeOfUptoSaid : Prop := fnExactDerivativeOfUptoRow.holds Try.pinned (OpenSpec.upto fnExactDerivativeOfSpec)

/-- 'laws.FnExactAddSeries', WHERE WHAT IT READS IS OF BULK AT MOST 1048576: true; the input reads as it did. -/
def fnExactAddSeriesUptoRow : OpenClaim := { program := "ytlhfcmcocbiafaa", sum := "7b8c1ebf1ff3e6ea3e51c5ed226e27203f75ee434b9391cc6430252aa904f127", func := "loop.example/g01091/laws.FnExactAddSeries", spec := "fnExactAddSeries", unfollowed := true, recurses := true, apart := false, narrowed := true }
def FnExactAddSeriesUptoSaid : Prop := fnExactAddSeriesUptoRow.holds Try.pinned (OpenSpec.upto fnExactAddSeriesSpec)

/-- 'laws.FnExactMulSeries', WHERE WHAT IT READS IS OF BULK AT MOST 1048576: true; the input reads as it did. -/
def fnExactMulSeriesUptoRow : OpenClaim := { program := "ytlhfcmcocbiafaa", sum := "7b8c1ebf1ff3e6ea3e51c5ed226e27203f75ee434b9391cc6430252aa904f127", func := "loop.example/g01091/laws.FnExactMulSeries", spec := "fnExactMulSeries", unfollowed := true, recurses := true, apart := false, narrowed := true }
def FnExactMulSeriesUptoSaid : Prop := fnExactMulSeriesUptoRow.holds Try.pinned (OpenSpec.upto fnExactMulSeriesSpec)

/-- 'laws.FnExactIntegralOf', WHERE WHAT IT READS IS OF BULK AT MOST 1048576: true; the input reads as it did. -/
def fnExactIntegralOfUptoRow : OpenClaim := { program := "ytlhfcmcocbiafaa", sum := "7b8c1ebf1ff3e6ea3e51c5ed226e27203f75ee434b9391cc6430252aa904f127", func := "loop.example/g01091/laws.FnExactIntegralOf", spec := "fnExactIntegralOf", unfollowed := true, recurses := true, apart := false, narrowed := true }
def FnExactIntegralOfUptoSaid : Prop := fnExactIntegralOfUptoRow.holds Try.pinned (OpenSpec.upto fnExactIntegralOfSpec)

/-- 'laws.FnExactExpSeries', WHERE WHAT IT READS IS OF BULK AT MOST 1048576: true; the input reads as it did. -/
def fnExactExpSeriesUptoRow : OpenClaim := { program := "ytlhfcmcocbiafaa", sum := "7b8c1ebf1ff3e6ea3e51c5ed226e27203f75ee434b9391cc6430252aa904f127", func := "loop.example/g01091/laws.FnExactExpSeries", spec := "fnExactExpSeries", unfollowed := true, recurses := true, apart := false, narrowed := true }
def FnExactExpSeriesUptoSaid : Prop := fnExactExpSeriesUptoRow.holds Try.pinned (OpenSpec.upto fnExactExpSeriesSpec)

/-- 'laws.FnExactComposeSeries', WHERE WHAT IT READS IS OF BULK AT MOST 1048576: true; the input reads as it did. -/
def fnExactComposeSeriesUptoRow : OpenClaim := { program := "ytlhfcmcocbiafaa", sum := "7b8c1ebf1ff3e6ea3e51c5ed226e27203f75ee434b9391cc6430252aa904f127", func := "loop.example/g01091/laws.FnExactComposeSeries", spec := "fnExactComposeSeries", unfollowed := true, recurses := true, apart := false, narrowed := true }
def FnExactComposeSeriesUptoSaid : Prop := fnExactComposeSeriesUptoRow.holds Try.pinned (OpenSpec.upto fnExactComposeSeriesSpec)

/-- 'laws.FnExactDivSeries', WHERE WHAT IT READS IS OF BULK AT MOST 1048576: true; the input reads as it did. -/
def fnExactDivSeriesUptoRow : OpenClaim := { program := "ytlhfcmcocbiafaa", sum := "7b8c1ebf1ff3e6ea3e51c5ed226e27203f75ee434b9391cc6430252aa904f127", func := "loop.example/g01091/laws.FnExactDivSeries", spec := "fnExactDivSeries", unfollowed := true, recurses := true, apart := false, narrowed := true }
def FnExactDivSeriesUptoSaid : Prop := fnExactDivSeriesUptoRow.holds Try.pinned (OpenSpec.upto fnExactDivSeriesSpec)

/-- 'laws.FnExactLogSeries', WHERE WHAT IT READS IS OF BULK AT MOST 1048576: true; the input reads as it did. -/
def fnExactLogSeriesUptoRow : OpenClaim := { program := "ytlhfcmcocbiafaa", sum := "7b8c1ebf1ff3e6ea3e51c5ed226e27203f75ee434b9391cc6430252aa904f127", func := "loop.example/g01091/laws.FnExactLogSeries", spec := "fnExactLogSeries", unfollowed := true, recurses := true, apart := false, narrowed := true }
def FnExactLogSeriesUptoSaid : Prop := fnExactLogSeriesUptoRow.holds Try.pinned (OpenSpec.upto fnExactLogSeriesSpec)

/-- 'laws.FnExactReverseSeries', WHERE WHAT IT READS IS OF BULK AT MOST 1048576: true; the input reads as it did. -/
def fnExactReverseSeriesUptoRow : OpenClaim := { program := "ytlhfcmcocbiafaa", sum := "7b8c1ebf1ff3e6ea3e51c5ed226e27203f75ee434b9391cc6430252aa904f127", func := "loop.example/g01091/laws.FnExactReverseSeries", spec := "fnExactReverseSeries", unfollowed := true, recurses := true, apart := false, narrowed := true }
def FnExactReverseSeriesUptoSaid : Prop := fnExactReverseSeriesUptoRow.holds Try.pinned (OpenSpec.upto fnExactReverseSeriesSpec)

/-- 'laws.FnExactInterpolate', WHERE WHAT IT READS IS OF BULK AT MOST 1048576: true; the input reads as it did. -/
def fnExactInterpolateUptoRow : OpenClaim := { program := "ytlhfcmcocbiafaa", sum := "7b8c1ebf1ff3e6ea3e51c5ed226e27203f75ee434b9391cc6430252aa904f127", func := "loop.example/g01091/laws.FnExactInterpolate", spec := "fnExactInterpolate", unfollowed := true, recurses := true, apart := false, narrowed := true }
def FnExactInterpolateUptoSaid : Prop := fnExactInterpolateUptoRow.holds Try.pinned (OpenSpec.upto fnExactInterpolateSpec)

end Rows
end Go.Proofs.Ytlhfcmcocbiafaa
