/- The law FnExactValidProgram: its function returns true for every input, and its arguments read as before. No condition of its own. The frame is the kit's shell, its arguments opened by hand; the contract is the part LValidProgram. -/
import Derived.Test.YtcodicokpegfmaaRows
import Derived.Test.YtcodicokpegfmaaLValidProgram
import Derived.Test.YtcodicokpegfmaaEo
import Derived.Test.YtcodicokpegfmaaPo
import Derived.Test.YtcodicokpegfmaaHead
import Derived.WalkKit
import Derived.ProofKit
import Derived.OpenShut
import Derived.ShutString
import Derived.ChangeOld
import Derived.Below
namespace Go.Proofs.Ytcodicokpegfmaa.fnExactValidProgram
open Go.ChangeShapes Go.WideShapes Go.ChangeAt Go.RowKit
set_option linter.unusedVariables false
theorem own : ownKnob Try.prog.godebug = none := by kernel_rfl
theorem laidOut : laidOutB Try.prog = true := by kernel_rfl
/-- What the walk is told of a slice of integers that came in. -/
def IsRow (k : IntKind) (w : World) (a : Option Addr) (len cap : Nat) (zs : List Int) : Prop :=
  (a = none ∧ len = 0 ∧ cap = 0 ∧ zs = []) ∨
  ∃ x, a = some x ∧ len ≤ cap ∧ cap ≤ maxLen ∧ zs.length = cap ∧ (∀ i, i < zs.length → w.cell? (x.add i) = some (.int k (zs.getD i 0))) ∧ ∀ n ∈ zs, (Lit.int k n).wf = true

theorem walk (w : World) (cs0 : List Value) (e0 : Eng.Pr) (h0 : Eng.PrB w 0 cs0 e0) :
    Calls Try.prog 11 #[.agg cs0.toArray] w fun e w' => e = .returned (.bool true) ∧ Below w.heap.size w w' := by
  
  exact (Eng.lawValidProgram cs0 e0 w h0).law fun v w' h => h

set_option maxRecDepth 100000 in
theorem lifted (os : Os) (started : os.Started) (H : Type) (enc : TypeId × Value → H) :
    ReturnsInHanded {} Try.checked os 11 .any (Rows.fnExactValidProgramSpec.pre6 enc Try.prog Try.f11 Rows.fnExactValidProgramRow.domain false) (Rows.fnExactValidProgramSpec.post enc Try.prog Try.f11 false true false false) := by
  refine returnsInHanded_of_change (C := Try.checked) own started (by kernel_rfl) Try.func11
    (ChangeSpec.witness6 (enc := enc) (C := Try.checked) false ⟨#[], #[.agg #[.slice none 0 0]], []⟩ 8 (by kernel_rfl) (by kernel_rfl) (by kernel_rfl) (by kernel_rfl)) ?_
  intro W base args ds gs before hval0 hW hcnd _
  have hval : ∀ (j : Nat) t v, Try.f11.params[j]? = some t → args[j]? = some v → Value.okWide Try.prog W .any base t v := hval0
  have hW' := hW
  obtain ⟨p, q, hA0, hV, rfl, hfz, hnd⟩ := hW
  have hA : DataW.TrodAll enc Try.prog W 0 (fun _ => true) true Try.f11.params.toList args.toList ds p := hA0
  rw [Try.params11] at hA hval
  obtain ⟨v0, vs0, d0, ds0, p0, q0, hargs, rfl, rfl, h0, r0⟩ := trodAll_cons hA
  obtain ⟨rfl, rfl, rfl⟩ := trodAll_nil r0
  obtain rfl : args = #[v0] := by cases args; simp_all
  obtain ⟨rfl, rfl⟩ := trodVars_none hV
  have k0 := h0
  have lt0 : ∀ x ∈ p0, x.block < W.heap.size := by obtain ⟨m, hm⟩ := k0; exact DataW.trod_lt m _ _ _ hm
  obtain ⟨cs0, e0, rfl, tv0⟩ := Eng.open_program (hval 0 38 v0 rfl rfl) h0
  clear hA0 hval0
  refine (walk W cs0 e0 tv0).mono fun e W' ⟨he, bel⟩ => ?_
  subst he
  exact ⟨_, rfl, _, _, _, [], _, [], hW', trodAll_mk1 (shut_bool Try.underlying4 _), (trodAll_cons_mk (Below.trod laidOut (by kernel_rfl) (of_decide_eq_true (by kernel_rfl)) k0 bel lt0) trodAll_mk0), rfl, bel.frame _, fun h => by cases h⟩

theorem both {a b : Bool} (h : a = true) (k : b = true) : (a && b) = true := by rw [h, k]; rfl
theorem c0 : (Rows.fnExactValidProgramRow.wf (OpenSpec.ofChange Rows.fnExactValidProgramSpec)) = true := by kernel_rfl
theorem c1 : (laidOutB Try.prog) = true := by kernel_rfl
theorem c2 : (mapsRowed Try.prog) = true := by kernel_rfl
theorem c3 : (Try.f11.params.all (Try.prog.readableRec ·)) = true := by kernel_rfl
theorem c4 : (namedTie Try.prog Rows.fnExactValidProgramRow.named Rows.fnExactValidProgramSpec.vars) = true := by kernel_rfl
theorem c5 : (Rows.fnExactValidProgramRow.stops == []) = true := by kernel_rfl
theorem c6 : (Try.prog.stops == []) = true := by kernel_rfl
theorem c7 : (Rows.fnExactValidProgramRow.knobs == []) = true := by kernel_rfl
theorem c8 : (Try.prog.stopKnobs == []) = true := by kernel_rfl
theorem c9 : (Rows.fnExactValidProgramRow.inPlace == Try.prog.inPlace 11) = true := by kernel_rfl
theorem c10 : (Rows.fnExactValidProgramRow.unfollowed == Try.prog.unfollowed 11) = true := by kernel_rfl
theorem c11 : (Rows.fnExactValidProgramRow.recurses == Try.prog.recurses 11) = true := by kernel_rfl
theorem c12 : (Rows.fnExactValidProgramRow.named == Try.prog.varsNamed 11) = true := by kernel_rfl
theorem c13 : (Rows.fnExactValidProgramRow.maps == (Try.f11.params.toList ++ Rows.fnExactValidProgramSpec.plain.varTypes Try.prog).any (Try.prog.mapsRec ·)) = true := by kernel_rfl
theorem c14 : (Rows.fnExactValidProgramRow.ifaces == (Try.f11.params.toList ++ Rows.fnExactValidProgramSpec.plain.varTypes Try.prog).any (Try.prog.ifacesRec ·)) = true := by kernel_rfl
theorem c15 : (Rows.fnExactValidProgramRow.mapsOut == Try.prog.mapsAmong Try.f11.resultTypes.toList) = true := by kernel_rfl
theorem c16 : (Rows.fnExactValidProgramRow.loops == (Try.f11.params.toList ++ Rows.fnExactValidProgramSpec.plain.varTypes Try.prog).any (Try.prog.loopsFrom ·)) = true := by kernel_rfl
theorem c17 : (Rows.fnExactValidProgramRow.wideKeys == (Try.f11.params.toList ++ Rows.fnExactValidProgramSpec.plain.varTypes Try.prog ++ Try.f11.resultTypes.toList).any (Try.prog.wideKeysFrom ·)) = true := by kernel_rfl
theorem c18 : (Rows.fnExactValidProgramSpec.vars.all (Try.prog.varReadable ·)) = true := by kernel_rfl
theorem c19 : (Try.f11.resultTypes.all (fun t => Try.prog.readableRec t && decide (t < Try.prog.types.size))) = true := by kernel_rfl
theorem c20 : (Rows.fnExactValidProgramRow.ifacesOut == Try.f11.resultTypes.toList.any (Try.prog.ifacesRec ·)) = true := by kernel_rfl
theorem c21 : (Rows.fnExactValidProgramRow.loopsOut == Try.f11.resultTypes.toList.any (Try.prog.loopsFrom ·)) = true := by kernel_rfl
theorem c22 : (Rows.fnExactValidProgramRow.plainKeys == Try.prog.plainKeys) = true := by kernel_rfl
theorem c23 : (Rows.fnExactValidProgramRow.shortTexts.isNone) = true := by kernel_rfl
theorem c24 : (Try.prog.stopsHeard) = true := by kernel_rfl
theorem c25 : (Try.prog.mayEnter) = true := Eng.mayEnter
theorem c26 : (Rows.fnExactValidProgramRow.lifted == Try.prog.liftsFinal) = true := by rw [Eng.liftsFinal]; kernel_rfl
theorem c27 : (Try.prog.make == some Rows.fnExactValidProgramRow.make) = true := by rw [Eng.make]; kernel_rfl
theorem c28 : (Rows.fnExactValidProgramRow.kinds == (if Rows.fnExactValidProgramRow.domain.isEmpty then [] else Try.f11.params.toList.map fun t => match Try.prog.underlying t with | some (.int k) => some k | _ => none)) = true := by kernel_rfl
theorem c29 : (Rows.fnExactValidProgramRow.pinned == Rows.fnExactValidProgramRow.pinnedBy) = true := by kernel_rfl
theorem c30 : (Rows.fnExactValidProgramRow.veiled == (Try.f11.params.toList ++ Rows.fnExactValidProgramSpec.plain.varTypes Try.prog ++ Try.f11.resultTypes.toList).any (Try.prog.veiledRec ·)) = true := by kernel_rfl
theorem c31 : (Rows.fnExactValidProgramRow.veiledFits Try.prog Try.f11.params.toList (Try.f11.params.toList ++ Rows.fnExactValidProgramSpec.plain.varTypes Try.prog ++ Try.f11.resultTypes.toList)) = true := by kernel_rfl
set_option maxRecDepth 100000 in
theorem closed : joinedFacts Try.prog 11 Try.f11 Rows.fnExactValidProgramSpec Rows.fnExactValidProgramRow = true := (both (both (both (both (both (both (both (both (both (both (both (both (both (both (both (both (both (both (both (both (both (both (both (both (both (both (both (both (both (both (both c0 c1) c2) c3) c4) c5) c6) c7) c8) c9) c10) c11) c12) c13) c14) c15) c16) c17) c18) c19) c20) c21) c22) c23) c24) c25) c26) c27) c28) c29) c30) c31)
theorem over : Rows.fnExactValidProgramRow.holds Try.pinned (OpenSpec.ofChange Rows.fnExactValidProgramSpec) :=
  OpenClaim.holds_of_wide 11 Try.f11 rfl rfl rfl rfl rfl rfl rfl ⟨rfl, rfl, rfl, rfl, rfl⟩ rfl rfl rfl rfl rfl (by kernel_rfl) Try.func11 closed
    (of_decide_eq_true (by kernel_rfl)) (by unfold Func.isWrapper; first | (rw [if_pos (by decide +kernel)]; kernel_rfl) | (rw [if_neg (by decide +kernel)]; exact ⟨rfl, rfl⟩))
    (fun os started H enc _ => lifted os started H enc)
/-- The statement. -/
theorem proved : Rows.FnExactValidProgramSaid := over
#print axioms proved
end Go.Proofs.Ytcodicokpegfmaa.fnExactValidProgram
