/-
  NARROWER THAN 'FOR EVERY INPUT', by the rows' own cells (each row's printed sentence says how): FnExactExprSize: loops · FnExactExprDepth: loops · FnExactIsTotal: loops · FnExactSameExpr: loops · FnExactSameProgram: loops · FnExactValidExpr: loops · FnExactValidProgram: loops · FnExactFuncNamed: loops.
  DERIVED. THE GIVEN ROWS OF THIS SEAT. 10 by the template 'for every input the law returns true; each argument reads behind the call as it read before'; 0 by the template 'total and deterministic' (their statements: YtcodicokpegfmaaTotals.lean).
  GIVEN WITH THE SEED: the statements are not yours to turn. If you find one false, say at which input.
  Laid BY PROGRAM, IN A SANDBOX (cutbox-rows.mjs): the forced cells as the released guide's own fill.sh prints them over the translation d5f21a0f232fb8cc… (all of the seat's roots in one cut). By AI agents, Wed Nov 11 2026. No macro, syntax, notation, axiom, sorry.
-/
import Derived.Test.YtcodicokpegfmaaChecked
import GoSem.Claim
import GoSem.ClaimJoined
import GoSem.ClaimMapViews
import Derived.JoinedTies
import Derived.KernelRfl
namespace Go.Proofs.Ytcodicokpegfmaa
/- THE CELL 'sum', in the pinned program and in every row, IS THE sha256 OF THE DUMP (.gsa) THAT YtcodicokpegfmaaProg.lean LOADS. Nothing in Lean hashes anything: it is a label: what it is worth is what the hold of that sum in a sandbox is worth. -/
noncomputable def Try.pinned : Pinned := { name := "ytcodicokpegfmaa", sum := "d5f21a0f232fb8cc369ed3eb5ab5da9e05f61870995714c29f01b99ed7d1dfa3", checked := Try.checked }
namespace Rows
def none {H : Type} : Left H := { results := [], args := [] }

/-- 'laws.FnExactIsName': WHATEVER THE INPUT: true; the input reads as it did. -/
def fnExactIsNameSpec : ChangeSpec := { name := "fnExactIsName", fn := fun _ => fun
  | [d] => { results := [.lit (.bool true)], args := [d] }
  | _ => none }
def fnExactIsNameRow : OpenClaim := { program := "ytcodicokpegfmaa", sum := "d5f21a0f232fb8cc369ed3eb5ab5da9e05f61870995714c29f01b99ed7d1dfa3", func := "loop.example/g01091/laws.FnExactIsName", spec := "fnExactIsName", apart := false }
def FnExactIsNameSaid : Prop := fnExactIsNameRow.holds Try.pinned (OpenSpec.ofChange fnExactIsNameSpec)

/-- ITS FALSE NEIGHBOUR: 'it returns false'. Refute it at one input. -/
def fnExactIsNameWrong : ChangeSpec := { name := "fnExactIsName", fn := fun _ => fun
  | [d] => { results := [.lit (.bool false)], args := [d] }
  | _ => none }
def FnExactIsNameWrongFalsely : Prop := fnExactIsNameRow.holds Try.pinned (OpenSpec.ofChange fnExactIsNameWrong)

/-- 'laws.FnExactExprSize': WHATEVER THE INPUT: true; the input reads as it did. -/
def fnExactExprSizeSpec : ChangeSpec := { name := "fnExactExprSize", fn := fun _ => fun
  | [d] => { results := [.lit (.bool true)], args := [d] }
  | _ => none }
def fnExactExprSizeRow : OpenClaim := { program := "ytcodicokpegfmaa", sum := "d5f21a0f232fb8cc369ed3eb5ab5da9e05f61870995714c29f01b99ed7d1dfa3", func := "loop.example/g01091/laws.FnExactExprSize", spec := "fnExactExprSize", recurses := true, loops := true, apart := false }
def FnExactExprSizeSaid : Prop := fnExactExprSizeRow.holds Try.pinned (OpenSpec.ofChange fnExactExprSizeSpec)

/-- ITS FALSE NEIGHBOUR: 'it returns false'. Refute it at one input. -/
def fnExactExprSizeWrong : ChangeSpec := { name := "fnExactExprSize", fn := fun _ => fun
  | [d] => { results := [.lit (.bool false)], args := [d] }
  | _ => none }
def FnExactExprSizeWrongFalsely : Prop := fnExactExprSizeRow.holds Try.pinned (OpenSpec.ofChange fnExactExprSizeWrong)

/-- 'laws.FnExactExprDepth': WHATEVER THE INPUT: true; the input reads as it did. -/
def fnExactExprDepthSpec : ChangeSpec := { name := "fnExactExprDepth", fn := fun _ => fun
  | [d] => { results := [.lit (.bool true)], args := [d] }
  | _ => none }
def fnExactExprDepthRow : OpenClaim := { program := "ytcodicokpegfmaa", sum := "d5f21a0f232fb8cc369ed3eb5ab5da9e05f61870995714c29f01b99ed7d1dfa3", func := "loop.example/g01091/laws.FnExactExprDepth", spec := "fnExactExprDepth", recurses := true, loops := true, apart := false }
def FnExactExprDepthSaid : Prop := fnExactExprDepthRow.holds Try.pinned (OpenSpec.ofChange fnExactExprDepthSpec)

/-- ITS FALSE NEIGHBOUR: 'it returns false'. Refute it at one input. -/
def fnExactExprDepthWrong : ChangeSpec := { name := "fnExactExprDepth", fn := fun _ => fun
  | [d] => { results := [.lit (.bool false)], args := [d] }
  | _ => none }
def FnExactExprDepthWrongFalsely : Prop := fnExactExprDepthRow.holds Try.pinned (OpenSpec.ofChange fnExactExprDepthWrong)

/-- 'laws.FnExactIsTotal': WHATEVER THE INPUT: true; the input reads as it did. -/
def fnExactIsTotalSpec : ChangeSpec := { name := "fnExactIsTotal", fn := fun _ => fun
  | [d] => { results := [.lit (.bool true)], args := [d] }
  | _ => none }
def fnExactIsTotalRow : OpenClaim := { program := "ytcodicokpegfmaa", sum := "d5f21a0f232fb8cc369ed3eb5ab5da9e05f61870995714c29f01b99ed7d1dfa3", func := "loop.example/g01091/laws.FnExactIsTotal", spec := "fnExactIsTotal", unfollowed := true, recurses := true, loops := true, apart := false }
def FnExactIsTotalSaid : Prop := fnExactIsTotalRow.holds Try.pinned (OpenSpec.ofChange fnExactIsTotalSpec)

/-- ITS FALSE NEIGHBOUR: 'it returns false'. Refute it at one input. -/
def fnExactIsTotalWrong : ChangeSpec := { name := "fnExactIsTotal", fn := fun _ => fun
  | [d] => { results := [.lit (.bool false)], args := [d] }
  | _ => none }
def FnExactIsTotalWrongFalsely : Prop := fnExactIsTotalRow.holds Try.pinned (OpenSpec.ofChange fnExactIsTotalWrong)

/-- 'laws.FnExactSameExpr': WHATEVER THE INPUT: true; the input reads as it did. -/
def fnExactSameExprSpec : ChangeSpec := { name := "fnExactSameExpr", fn := fun _ => fun
  | [d1, d2] => { results := [.lit (.bool true)], args := [d1, d2] }
  | _ => none }
def fnExactSameExprRow : OpenClaim := { program := "ytcodicokpegfmaa", sum := "d5f21a0f232fb8cc369ed3eb5ab5da9e05f61870995714c29f01b99ed7d1dfa3", func := "loop.example/g01091/laws.FnExactSameExpr", spec := "fnExactSameExpr", unfollowed := true, recurses := true, loops := true, apart := false }
def FnExactSameExprSaid : Prop := fnExactSameExprRow.holds Try.pinned (OpenSpec.ofChange fnExactSameExprSpec)

/-- ITS FALSE NEIGHBOUR: 'it returns false'. Refute it at one input. -/
def fnExactSameExprWrong : ChangeSpec := { name := "fnExactSameExpr", fn := fun _ => fun
  | [d1, d2] => { results := [.lit (.bool false)], args := [d1, d2] }
  | _ => none }
def FnExactSameExprWrongFalsely : Prop := fnExactSameExprRow.holds Try.pinned (OpenSpec.ofChange fnExactSameExprWrong)

/-- 'laws.FnExactSameProgram': WHATEVER THE INPUT: true; the input reads as it did. -/
def fnExactSameProgramSpec : ChangeSpec := { name := "fnExactSameProgram", fn := fun _ => fun
  | [d1, d2] => { results := [.lit (.bool true)], args := [d1, d2] }
  | _ => none }
def fnExactSameProgramRow : OpenClaim := { program := "ytcodicokpegfmaa", sum := "d5f21a0f232fb8cc369ed3eb5ab5da9e05f61870995714c29f01b99ed7d1dfa3", func := "loop.example/g01091/laws.FnExactSameProgram", spec := "fnExactSameProgram", unfollowed := true, recurses := true, loops := true, apart := false }
def FnExactSameProgramSaid : Prop := fnExactSameProgramRow.holds Try.pinned (OpenSpec.ofChange fnExactSameProgramSpec)

/-- ITS FALSE NEIGHBOUR: 'it returns false'. Refute it at one input. -/
def fnExactSameProgramWrong : ChangeSpec := { name := "fnExactSameProgram", fn := fun _ => fun
  | [d1, d2] => { results := [.lit (.bool false)], args := [d1, d2] }
  | _ => none }
def FnExactSameProgramWrongFalsely : Prop := fnExactSameProgramRow.holds Try.pinned (OpenSpec.ofChange fnExactSameProgramWrong)

/-- 'laws.FnExactValidPoly': WHATEVER THE INPUT: true; the input reads as it did. -/
def fnExactValidPolySpec : ChangeSpec := { name := "fnExactValidPoly", fn := fun _ => fun
  | [d] => { results := [.lit (.bool true)], args := [d] }
  | _ => none }
def fnExactValidPolyRow : OpenClaim := { program := "ytcodicokpegfmaa", sum := "d5f21a0f232fb8cc369ed3eb5ab5da9e05f61870995714c29f01b99ed7d1dfa3", func := "loop.example/g01091/laws.FnExactValidPoly", spec := "fnExactValidPoly", unfollowed := true, recurses := true, apart := false }
def FnExactValidPolySaid : Prop := fnExactValidPolyRow.holds Try.pinned (OpenSpec.ofChange fnExactValidPolySpec)

/-- ITS FALSE NEIGHBOUR: 'it returns false'. Refute it at one input. -/
def fnExactValidPolyWrong : ChangeSpec := { name := "fnExactValidPoly", fn := fun _ => fun
  | [d] => { results := [.lit (.bool false)], args := [d] }
  | _ => none }
def FnExactValidPolyWrongFalsely : Prop := fnExactValidPolyRow.holds Try.pinned (OpenSpec.ofChange fnExactValidPolyWrong)

/-- 'laws.FnExactValidExpr': WHATEVER THE INPUT: true; the input reads as it did. -/
def fnExactValidExprSpec : ChangeSpec := { name := "fnExactValidExpr", fn := fun _ => fun
  | [d1, d2, d3, d4] => { results := [.lit (.bool true)], args := [d1, d2, d3, d4] }
  | _ => none }
def fnExactValidExprRow : OpenClaim := { program := "ytcodicokpegfmaa", sum := "d5f21a0f232fb8cc369ed3eb5ab5da9e05f61870995714c29f01b99ed7d1dfa3", func := "loop.example/g01091/laws.FnExactValidExpr", spec := "fnExactValidExpr", recurses := true, loops := true, apart := false }
def FnExactValidExprSaid : Prop := fnExactValidExprRow.holds Try.pinned (OpenSpec.ofChange fnExactValidExprSpec)

/-- ITS FALSE NEIGHBOUR: 'it returns false'. Refute it at one input. -/
def fnExactValidExprWrong : ChangeSpec := { name := "fnExactValidExpr", fn := fun _ => fun
  | [d1, d2, d3, d4] => { results := [.lit (.bool false)], args := [d1, d2, d3, d4] }
  | _ => none }
def FnExactValidExprWrongFalsely : Prop := fnExactValidExprRow.holds Try.pinned (OpenSpec.ofChange fnExactValidExprWrong)

/-- 'laws.FnExactValidProgram': WHATEVER THE INPUT: true; the input reads as it did. -/
def fnExactValidProgramSpec : ChangeSpec := { name := "fnExactValidProgram", fn := fun _ => fun
  | [d] => { results := [.lit (.bool true)], args := [d] }
  | _ => none }
def fnExactValidProgramRow : OpenClaim := { program := "ytcodicokpegfmaa", sum := "d5f21a0f232fb8cc369ed3eb5ab5da9e05f61870995714c29f01b99ed7d1dfa3", func := "loop.example/g01091/laws.FnExactValidProgram", spec := "fnExactValidProgram", unfollowed := true, recurses := true, loops := true, apart := false }
def FnExactValidProgramSaid : Prop := fnExactValidProgramRow.holds Try.pinned (OpenSpec.ofChange fnExactValidProgramSpec)

/-- ITS FALSE NEIGHBOUR: 'it returns false'. Refute it at one input. -/
def fnExactValidProgramWrong : ChangeSpec := { name := "fnExactValidProgram", fn := fun _ => fun
  | [d] => { results := [.lit (.bool false)], args := [d] }
  | _ => none }
def FnExactValidProgramWrongFalsely : Prop := fnExactValidProgramRow.holds Try.pinned (OpenSpec.ofChange fnExactValidProgramWrong)

/-- 'laws.FnExactFuncNamed': WHATEVER THE INPUT: true; the input reads as it did. -/
def fnExactFuncNamedSpec : ChangeSpec := { name := "fnExactFuncNamed", fn := fun _ => fun
  | [d1, d2] => { results := [.lit (.bool true)], args := [d1, d2] }
  | _ => none }
def fnExactFuncNamedRow : OpenClaim := { program := "ytcodicokpegfmaa", sum := "d5f21a0f232fb8cc369ed3eb5ab5da9e05f61870995714c29f01b99ed7d1dfa3", func := "loop.example/g01091/laws.FnExactFuncNamed", spec := "fnExactFuncNamed", unfollowed := true, recurses := true, loops := true, apart := false }
def FnExactFuncNamedSaid : Prop := fnExactFuncNamedRow.holds Try.pinned (OpenSpec.ofChange fnExactFuncNamedSpec)

/-- ITS FALSE NEIGHBOUR: 'it returns false'. Refute it at one input. -/
def fnExactFuncNamedWrong : ChangeSpec := { name := "fnExactFuncNamed", fn := fun _ => fun
  | [d1, d2] => { results := [.lit (.bool false)], args := [d1, d2] }
  | _ => none }
def FnExactFuncNamedWrongFalsely : Prop := fnExactFuncNamedRow.holds Try.pinned (OpenSpec.ofChange fnExactFuncNamedWrong)

/- THE SECOND FORM. 'bulk': how many values and letters a reading holds, each counted each time it is reached (what is shared counts as often as it is met; a slice's spare places count too). A statement '..UptoSaid' is the law's where the arguments, and the package variables that the reading takes, are together of bulk at most 1048576: NARROWER than '..Said'. Prove '..Said' where nothing that the law and all that it calls make is longer than what came in: it says more and counts as full. Else prove '..UptoSaid'. A law counts once. -/
mutual
def uptoBulk {H : Type} : DataW H → Nat
  | .lit (.string bytes) => bytes.length + 1
  | .lit _ => 1
  | .nil => 1
  | .ptr d => uptoBulk d + 1
  | .slice elems spare => uptoBulkAll elems + uptoBulkAll spare + 1
  | .agg parts => uptoBulkAll parts + 1
  | .iface _ d => uptoBulk d + 1
  | .map entries => uptoBulkEntries entries + 1
  | .held _ => 1
def uptoBulkAll {H : Type} : List (DataW H) → Nat
  | [] => 0
  | d :: r => uptoBulk d + uptoBulkAll r
def uptoBulkEntries {H : Type} : List (Lit × DataW H) → Nat
  | [] => 0
  | x :: r => uptoBulkEntry x + uptoBulkEntries r
def uptoBulkEntry {H : Type} : Lit × DataW H → Nat
  | (.string bytes, d) => bytes.length + uptoBulk d + 1
  | (_, d) => uptoBulk d + 1
 end
def uptoSmall : (H : Type) → List (DataW H) → Bool := fun _ ds => decide (uptoBulkAll ds ≤ 1048576)
def OpenSpec.upto (s : _root_.Go.ChangeSpec) : _root_.Go.OpenSpec := { _root_.Go.OpenSpec.ofChange s with cond := some uptoSmall }

/-- 'laws.FnExactIsName', WHERE WHAT IT READS IS OF BULK AT MOST 1048576: true; the input reads as it did. -/
def fnExactIsNameUptoRow : OpenClaim := { program := "ytcodicokpegfmaa", sum := "d5f21a0f232fb8cc369ed3eb5ab5da9e05f61870995714c29f01b99ed7d1dfa3", func := "loop.example/g01091/laws.FnExactIsName", spec := "fnExactIsName", apart := false, narrowed := true }
def FnExactIsNameUptoSaid : Prop := fnExactIsNameUptoRow.holds Try.pinned (OpenSpec.upto fnExactIsNameSpec)

/-- 'laws.FnExactExprSize', WHERE WHAT IT READS IS OF BULK AT MOST 1048576: true; the input reads as it did. -/
def fnExactExprSizeUptoRow : OpenClaim := { program := "ytcodicokpegfmaa", sum := "d5f21a0f232fb8cc369ed3eb5ab5da9e05f61870995714c29f01b99ed7d1dfa3", func := "loop.example/g01091/laws.FnExactExprSize", spec := "fnExactExprSize", recurses := true, loops := true, apart := false, narrowed := true }
def FnExactExprSizeUptoSaid : Prop := fnExactExprSizeUptoRow.holds Try.pinned (OpenSpec.upto fnExactExprSizeSpec)

/-- 'laws.FnExactExprDepth', WHERE WHAT IT READS IS OF BULK AT MOST 1048576: true; the input reads as it did. -/
def fnExactExprDepthUptoRow : OpenClaim := { program := "ytcodicokpegfmaa", sum := "d5f21a0f232fb8cc369ed3eb5ab5da9e05f61870995714c29f01b99ed7d1dfa3", func := "loop.example/g01091/laws.FnExactExprDepth", spec := "fnExactExprDepth", recurses := true, loops := true, apart := false, narrowed := true }
def FnExactExprDepthUptoSaid : Prop := fnExactExprDepthUptoRow.holds Try.pinned (OpenSpec.upto fnExactExprDepthSpec)

/-- 'laws.FnExactIsTotal', WHERE WHAT IT READS IS OF BULK AT MOST 1048576: true; the input reads as it did. -/
def fnExactIsTotalUptoRow : OpenClaim := { program := "ytcodicokpegfmaa", sum := "d5f21a0f232fb8cc369ed3eb5ab5da9e05f61870995714c29f01b99ed7d1dfa3", func := "loop.example/g01091/laws.FnExactIsTotal", spec := "fnExactIsTotal", unfollowed := true, recurses := true, loops := true, apart := false, narrowed := true }
def FnExactIsTotalUptoSaid : Prop := fnExactIsTotalUptoRow.holds Try.pinned (OpenSpec.upto fnExactIsTotalSpec)

/-- 'laws.FnExactSameExpr', WHERE WHAT IT READS IS OF BULK AT MOST 1048576: true; the input reads as it did. -/
def fnExactSameExprUptoRow : OpenClaim := { program := "ytcodicokpegfmaa", sum := "d5f21a0f232fb8cc369ed3eb5ab5da9e05f61870995714c29f01b99ed7d1dfa3", func := "loop.example/g01091/laws.FnExactSameExpr", spec := "fnExactSameExpr", unfollowed := true, recurses := true, loops := true, apart := false, narrowed := true }
def FnExactSameExprUptoSaid : Prop := fnExactSameExprUptoRow.holds Try.pinned (OpenSpec.upto fnExactSameExprSpec)

/-- 'laws.FnExactSameProgram', WHERE WHAT IT READS IS OF BULK AT MOST 1048576: true; the input reads as it did. -/
def fnExactSameProgramUptoRow : OpenClaim := { program := "ytcodicokpegfmaa", sum := "d5f21a0f232fb8cc369ed3eb5ab5da9e05f61870995714c29f01b99ed7d1dfa3", func := "loop.example/g01091/laws.FnExactSameProgram", spec := "fnExactSameProgram", unfollowed := true, recurses := true, loops := true, apart := false, narrowed := true }
def FnExactSameProgramUptoSaid : Prop := fnExactSameProgramUptoRow.holds Try.pinned (OpenSpec.upto fnExactSameProgramSpec)

/-- 'laws.FnExactValidPoly', WHERE WHAT IT READS IS OF BULK AT MOST 1048576: true; the input reads as it did. -/
def fnExactValidPolyUptoRow : OpenClaim := { program := "ytcodicokpegfmaa", sum := "d5f21a0f232fb8cc369ed3eb5ab5da9e05f61870995714c29f01b99ed7d1dfa3", func := "loop.example/g01091/laws.FnExactValidPoly", spec := "fnExactValidPoly", unfollowed := true, recurses := true, apart := false, narrowed := true }
def FnExactValidPolyUptoSaid : Prop := fnExactValidPolyUptoRow.holds Try.pinned (OpenSpec.upto fnExactValidPolySpec)

/-- 'laws.FnExactValidExpr', WHERE WHAT IT READS IS OF BULK AT MOST 1048576: true; the input reads as it did. -/
def fnExactValidExprUptoRow : OpenClaim := { program := "ytcodicokpegfmaa", sum := "d5f21a0f232fb8cc369ed3eb5ab5da9e05f61870995714c29f01b99ed7d1dfa3", func := "loop.example/g01091/laws.FnExactValidExpr", spec := "fnExactValidExpr", recurses := true, loops := true, apart := false, narrowed := true }
def FnExactValidExprUptoSaid : Prop := fnExactValidExprUptoRow.holds Try.pinned (OpenSpec.upto fnExactValidExprSpec)

/-- 'laws.FnExactValidProgram', WHERE WHAT IT READS IS OF BULK AT MOST 1048576: true; the input reads as it did. -/
def fnExactValidProgramUptoRow : OpenClaim := { program := "ytcodicokpegfmaa", sum := "d5f21a0f232fb8cc369ed3eb5ab5da9e05f61870995714c29f01b99ed7d1dfa3", func := "loop.example/g01091/laws.FnExactValidProgram", spec := "fnExactValidProgram", unfollowed := true, recurses := true, loops := true, apart := false, narrowed := true }
def FnExactValidProgramUptoSaid : Prop := fnExactValidProgramUptoRow.holds Try.pinned (OpenSpec.upto fnExactValidProgramSpec)

/-- 'laws.FnExactFuncNamed', WHERE WHAT IT READS IS OF BULK AT MOST 1048576: true; the input reads as it did. -/
def fnExactFuncNamedUptoRow : OpenClaim := { program := "ytcodicokpegfmaa", sum := "d5f21a0f232fb8cc369ed3eb5ab5da9e05f61870995714c29f01b99ed7d1dfa3", func := "loop.example/g01091/laws.FnExactFuncNamed", spec := "fnExactFuncNamed", unfollowed := true, recurses := true, loops := true, apart := false, narrowed := true }
def FnExactFuncNamedUptoSaid : Prop := fnExactFuncNamedUptoRow.holds Try.pinned (OpenSpec.upto fnExactFuncNamedSpec)

end Rows
end Go.Proofs.Ytcodicokpegfmaa
