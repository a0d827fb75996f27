/-
  No cell of these rows narrows 'for every input' (looked for: loops, veiled, ifaces, maps, wideKeys, modest, calm, conditions, laid).
  DERIVED. THE GIVEN ROWS OF THIS SEAT. 5 by the template 'for every input the law returns true; each argument reads behind the call as it read before'; 0 by the template 'total and deterministic' (their statements: YtdghifnljeadfaaTotals.lean).
  GIVEN WITH THE SEED: the statements are not yours to turn. If you find one false, say at which input.
  Laid BY PROGRAM, IN A SANDBOX (cutbox-rows.mjs): the forced cells as the released guide's own fill.sh prints them over the translation 5be2254712af9489… (all of the seat's roots in one cut). By AI agents, Wed Nov 11 2026. No macro, syntax, notation, axiom, sorry.
-/
import Derived.Test.YtdghifnljeadfaaChecked
import GoSem.Claim
import GoSem.ClaimJoined
import GoSem.ClaimMapViews
import Derived.JoinedTies
import Derived.KernelRfl
namespace Go.Proofs.Ytdghifnljeadfaa
/- THE CELL 'sum', in the pinned program and in every row, IS THE sha256 OF THE DUMP (.gsa) THAT YtdghifnljeadfaaProg.lean LOADS. Nothing in Lean hashes anything: it is a label: what it is worth is what the hold of that sum in a sandbox is worth. -/
noncomputable def Try.pinned : Pinned := { name := "ytdghifnljeadfaa", sum := "5be2254712af94892fd1a83dfc47238f518eb53d87731f6b607ebdf69b4f7a48", checked := Try.checked }
namespace Rows
def none {H : Type} : Left H := { results := [], args := [] }

/-- 'laws.FnExactConstants': WHATEVER THE INPUT: true; the input reads as it did. -/
def fnExactConstantsSpec : ChangeSpec := { name := "fnExactConstants", fn := fun _ => fun
  | [] => { results := [.lit (.bool true)], args := [] }
  | _ => none }
def fnExactConstantsRow : OpenClaim := { program := "ytdghifnljeadfaa", sum := "5be2254712af94892fd1a83dfc47238f518eb53d87731f6b607ebdf69b4f7a48", func := "loop.example/g01091/laws.FnExactConstants", spec := "fnExactConstants", apart := false }
def FnExactConstantsSaid : Prop := fnExactConstantsRow.holds Try.pinned (OpenSpec.ofChange fnExactConstantsSpec)

/-- ITS FALSE NEIGHBOUR: 'it returns false'. Refute it at one input. -/
def fnExactConstantsWrong : ChangeSpec := { name := "fnExactConstants", fn := fun _ => fun
  | [] => { results := [.lit (.bool false)], args := [] }
  | _ => none }
def FnExactConstantsWrongFalsely : Prop := fnExactConstantsRow.holds Try.pinned (OpenSpec.ofChange fnExactConstantsWrong)

/-- 'laws.FnExactResidue': WHATEVER THE INPUT: true; the input reads as it did. -/
def fnExactResidueSpec : ChangeSpec := { name := "fnExactResidue", fn := fun _ => fun
  | [d] => { results := [.lit (.bool true)], args := [d] }
  | _ => none }
def fnExactResidueRow : OpenClaim := { program := "ytdghifnljeadfaa", sum := "5be2254712af94892fd1a83dfc47238f518eb53d87731f6b607ebdf69b4f7a48", func := "loop.example/g01091/laws.FnExactResidue", spec := "fnExactResidue", apart := false }
def FnExactResidueSaid : Prop := fnExactResidueRow.holds Try.pinned (OpenSpec.ofChange fnExactResidueSpec)

/-- ITS FALSE NEIGHBOUR: 'it returns false'. Refute it at one input. -/
def fnExactResidueWrong : ChangeSpec := { name := "fnExactResidue", fn := fun _ => fun
  | [d] => { results := [.lit (.bool false)], args := [d] }
  | _ => none }
def FnExactResidueWrongFalsely : Prop := fnExactResidueRow.holds Try.pinned (OpenSpec.ofChange fnExactResidueWrong)

/-- 'laws.FnExactPlus': WHATEVER THE INPUT: true; the input reads as it did. -/
def fnExactPlusSpec : ChangeSpec := { name := "fnExactPlus", fn := fun _ => fun
  | [d1, d2] => { results := [.lit (.bool true)], args := [d1, d2] }
  | _ => none }
def fnExactPlusRow : OpenClaim := { program := "ytdghifnljeadfaa", sum := "5be2254712af94892fd1a83dfc47238f518eb53d87731f6b607ebdf69b4f7a48", func := "loop.example/g01091/laws.FnExactPlus", spec := "fnExactPlus", apart := false }
def FnExactPlusSaid : Prop := fnExactPlusRow.holds Try.pinned (OpenSpec.ofChange fnExactPlusSpec)

/-- ITS FALSE NEIGHBOUR: 'it returns false'. Refute it at one input. -/
def fnExactPlusWrong : ChangeSpec := { name := "fnExactPlus", fn := fun _ => fun
  | [d1, d2] => { results := [.lit (.bool false)], args := [d1, d2] }
  | _ => none }
def FnExactPlusWrongFalsely : Prop := fnExactPlusRow.holds Try.pinned (OpenSpec.ofChange fnExactPlusWrong)

/-- 'laws.FnExactTimes': WHATEVER THE INPUT: true; the input reads as it did. -/
def fnExactTimesSpec : ChangeSpec := { name := "fnExactTimes", fn := fun _ => fun
  | [d1, d2] => { results := [.lit (.bool true)], args := [d1, d2] }
  | _ => none }
def fnExactTimesRow : OpenClaim := { program := "ytdghifnljeadfaa", sum := "5be2254712af94892fd1a83dfc47238f518eb53d87731f6b607ebdf69b4f7a48", func := "loop.example/g01091/laws.FnExactTimes", spec := "fnExactTimes", apart := false }
def FnExactTimesSaid : Prop := fnExactTimesRow.holds Try.pinned (OpenSpec.ofChange fnExactTimesSpec)

/-- ITS FALSE NEIGHBOUR: 'it returns false'. Refute it at one input. -/
def fnExactTimesWrong : ChangeSpec := { name := "fnExactTimes", fn := fun _ => fun
  | [d1, d2] => { results := [.lit (.bool false)], args := [d1, d2] }
  | _ => none }
def FnExactTimesWrongFalsely : Prop := fnExactTimesRow.holds Try.pinned (OpenSpec.ofChange fnExactTimesWrong)

/-- 'laws.FnExactCodeName': WHATEVER THE INPUT: true; the input reads as it did. -/
def fnExactCodeNameSpec : ChangeSpec := { name := "fnExactCodeName", fn := fun _ => fun
  | [d] => { results := [.lit (.bool true)], args := [d] }
  | _ => none }
def fnExactCodeNameRow : OpenClaim := { program := "ytdghifnljeadfaa", sum := "5be2254712af94892fd1a83dfc47238f518eb53d87731f6b607ebdf69b4f7a48", func := "loop.example/g01091/laws.FnExactCodeName", spec := "fnExactCodeName", apart := false }
def FnExactCodeNameSaid : Prop := fnExactCodeNameRow.holds Try.pinned (OpenSpec.ofChange fnExactCodeNameSpec)

/-- ITS FALSE NEIGHBOUR: 'it returns false'. Refute it at one input. -/
def fnExactCodeNameWrong : ChangeSpec := { name := "fnExactCodeName", fn := fun _ => fun
  | [d] => { results := [.lit (.bool false)], args := [d] }
  | _ => none }
def FnExactCodeNameWrongFalsely : Prop := fnExactCodeNameRow.holds Try.pinned (OpenSpec.ofChange fnExactCodeNameWrong)

/- THE SECOND FORM. 'bulk': how many values and letters a reading holds, each counted each time it is reached (what is shared counts as often as it is met; a slice's spare places count too). A statement '..UptoSaid' is the law's where the arguments, and the package variables that the reading takes, are together of bulk at most 1048576: NARROWER than '..Said'. Prove '..Said' where nothing that the law and all that it calls make is longer than what came in: it says more and counts as full. Else prove '..UptoSaid'. A law counts once. -/
mutual
def uptoBulk {H : Type} : DataW H → Nat
  | .lit (.string bytes) => bytes.length + 1
  | .lit _ => 1
  | .nil => 1
  | .ptr d => uptoBulk d + 1
  | .slice elems spare => uptoBulkAll elems + uptoBulkAll spare + 1
  | .agg parts => uptoBulkAll parts + 1
  | .iface _ d => uptoBulk d + 1
  | .map entries => uptoBulkEntries entries + 1
  | .held _ => 1
def uptoBulkAll {H : Type} : List (DataW H) → Nat
  | [] => 0
  | d :: r => uptoBulk d + uptoBulkAll r
def uptoBulkEntries {H : Type} : List (Lit × DataW H) → Nat
  | [] => 0
  | x :: r => uptoBulkEntry x + uptoBulkEntries r
def uptoBulkEntry {H : Type} : Lit × DataW H → Nat
  | (.string bytes, d) => bytes.length + uptoBulk d + 1
  | (_, d) => uptoBulk d + 1
 end
def uptoSmall : (H : Type) → List (DataW H) → Bool := fun _ ds => decide (uptoBulkAll ds ≤ 1048576)
def OpenSpec.upto (s : _root_.Go.ChangeSpec) : _root_.Go.OpenSpec := { _root_.Go.OpenSpec.ofChange s with cond := some uptoSmall }

/-- 'laws.FnExactConstants', WHERE WHAT IT READS IS OF BULK AT MOST 1048576: true; the input reads as it did. -/
def fnExactConstantsUptoRow : OpenClaim := { program := "ytdghifnljeadfaa", sum := "5be2254712af94892fd1a83dfc47238f518eb53d87731f6b607ebdf69b4f7a48", func := "loop.example/g01091/laws.FnExactConstants", spec := "fnExactConstants", apart := false, narrowed := true }
def FnExactConstantsUptoSaid : Prop := fnExactConstantsUptoRow.holds Try.pinned (OpenSpec.upto fnExactConstantsSpec)

/-- 'laws.FnExactResidue', WHERE WHAT IT READS IS OF BULK AT MOST 1048576: true; the input reads as it did. -/
def fnExactResidueUptoRow : OpenClaim := { program := "ytdghifnljeadfaa", sum := "5be2254712af94892fd1a83dfc47238f518eb53d87731f6b607ebdf69b4f7a48", func := "loop.example/g01091/laws.FnExactResidue", spec := "fnExactResidue", apart := false, narrowed := true }
def FnExactResidueUptoSaid : Prop := fnExactResidueUptoRow.holds Try.pinned (OpenSpec.upto fnExactResidueSpec)

/-- 'laws.FnExactPlus', WHERE WHAT IT READS IS OF BULK AT MOST 1048576: true; the input reads as it did. -/
def fnExactPlusUptoRow : OpenClaim := { program := "ytdghifnljeadfaa", sum := "5be2254712af94892fd1a83dfc47238f518eb53d87731f6b607ebdf69b4f7a48", func := "loop.example/g01091/laws.FnExactPlus", spec := "fnExactPlus", apart := false, narrowed := true }
def FnExactPlusUptoSaid : Prop := fnExactPlusUptoRow.holds Try.pinned (OpenSpec.upto fnExactPlusSpec)

/-- 'laws.FnExactTimes', WHERE WHAT IT READS IS OF BULK AT MOST 1048576: true; the input reads as it did. -/
def fnExactTimesUptoRow : OpenClaim := { program := "ytdghifnljeadfaa", sum := "5be2254712af94892fd1a83dfc47238f518eb53d87731f6b607ebdf69b4f7a48", func := "loop.example/g01091/laws.FnExactTimes", spec := "fnExactTimes", apart := false, narrowed := true }
def FnExactTimesUptoSaid : Prop := fnExactTimesUptoRow.holds Try.pinned (OpenSpec.upto fnExactTimesSpec)

/-- 'laws.FnExactCodeName', WHERE WHAT IT READS IS OF BULK AT MOST 1048576: true; the input reads as it did. -/
def fnExactCodeNameUptoRow : OpenClaim := { program := "ytdghifnljeadfaa", sum := "5be2254712af94892fd1a83dfc47238f518eb53d87731f6b607ebdf69b4f7a48", func := "loop.example/g01091/laws.FnExactCodeName", spec := "fnExactCodeName", apart := false, narrowed := true }
def FnExactCodeNameUptoSaid : Prop := fnExactCodeNameUptoRow.holds Try.pinned (OpenSpec.upto fnExactCodeNameSpec)

end Rows
end Go.Proofs.Ytdghifnljeadfaa
