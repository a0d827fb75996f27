/- The law FnExactInterpolate: its function returns true for every input, and its arguments read as before. No condition of its own. The frame is the kit's shell; the contract is the part Itx. -/
import Derived.Test.YtlhfcmcocbiafaaRows
import Derived.Test.YtlhfcmcocbiafaaItx
import Derived.Test.YtlhfcmcocbiafaaHead
import Derived.WalkKit
import Derived.ProofKit
import Derived.OpenShut
import Derived.ShutString
import Derived.ChangeOld
import Derived.Below
namespace Go.Proofs.Ytlhfcmcocbiafaa.fnExactInterpolate
open Go.ChangeShapes Go.WideShapes Go.ChangeAt Go.RowKit
open Go.ChangeMaps (open_string shut_string)
set_option linter.unusedVariables false

theorem own : ownKnob Try.prog.godebug = none := by kernel_rfl
theorem laidOut : laidOutB Try.prog = true := by kernel_rfl

/-- WHAT THE WALK IS TOLD OF A SLICE OF INTEGERS THAT CAME IN: it is nil; or it leads to a row of 'cap' cells, the numbers 'zs' (the first 'len' are its elements, the rest its spare room), each fitting its kind. -/
def IsRow (k : IntKind) (w : World) (a : Option Addr) (len cap : Nat) (zs : List Int) : Prop :=
  (a = none ∧ len = 0 ∧ cap = 0 ∧ zs = []) ∨
  ∃ x, a = some x ∧ len ≤ cap ∧ cap ≤ maxLen ∧ zs.length = cap ∧ (∀ i, i < zs.length → w.cell? (x.add i) = some (.int k (zs.getD i 0))) ∧ ∀ n ∈ zs, (Lit.int k n).wf = true

/-! ### STEP 1: THE WALK: the Go text returns true, AND WRITES NOTHING THAT WAS THERE: 'Below w.heap.size w w'' (Derived/Below.lean: '.refl', '.alloc', '.drew', '.setCell' at a new block, '.trans'). Open each 'IsRow' by 'rcases' AHEAD of 'go_enter'; part every test ahead of the walk. -/
theorem walk (a0 : Option Addr) (len0 cap0 : Nat) (z0 : List Int) (w : World) (w0 : IsRow .i64 w a0 len0 cap0 z0) :
    Calls Try.prog 19 #[.slice a0 len0 cap0] w fun e w' => e = .returned (.bool true) ∧ Below w.heap.size w w' := by
  obtain ⟨xs0, rfl, r0⟩ : ∃ xs : List Int, xs.length = len0 ∧ Eng.Rd w a0 (Eng.ints xs) := by
    rcases w0 with ⟨rfl, rfl, rfl, rfl⟩ | ⟨x, rfl, h1, h2, h3, h4, h5⟩
    · exact ⟨[], rfl, Eng.Rd.nil _ _⟩
    · exact ⟨z0.take len0, by rw [List.length_take]; omega, Eng.rowRd (by omega) h4⟩
  exact (Eng.lawInterpolate a0 cap0 xs0 w r0).law fun v w' h => h

/-! ### THE ROW's STEP: WRITTEN OUT: LEAVE IT -/
set_option maxRecDepth 100000 in
theorem lifted (os : Os) (started : os.Started) (H : Type) (enc : TypeId × Value → H) :
    ReturnsInHanded {} Try.checked os 19 .any (Rows.fnExactInterpolateSpec.pre6 enc Try.prog Try.f19 Rows.fnExactInterpolateRow.domain false) (Rows.fnExactInterpolateSpec.post enc Try.prog Try.f19 false true false false) := by
  refine returnsInHanded_of_change (C := Try.checked) own started (by kernel_rfl) Try.func19
    (ChangeSpec.witness6 (enc := enc) (C := Try.checked) false ⟨#[], #[.slice none 0 0], []⟩ 8 (by kernel_rfl) (by kernel_rfl) (by kernel_rfl) (by kernel_rfl)) ?_
  intro W base args ds gs before hval0 hW hcnd _
  have hval : ∀ (j : Nat) t v, Try.f19.params[j]? = some t → args[j]? = some v → Value.okWide Try.prog W .any base t v := hval0
  have hW' := hW
  obtain ⟨p, q, hA0, hV, rfl, hfz, hnd⟩ := hW
  have hA : DataW.TrodAll enc Try.prog W 0 (fun _ => true) true Try.f19.params.toList args.toList ds p := hA0
  rw [Try.params19] at hA hval
  obtain ⟨v0, vs0, d0, ds0, p0, q0, hargs, rfl, rfl, h0, r0⟩ := trodAll_cons hA
  obtain ⟨rfl, rfl, rfl⟩ := trodAll_nil r0
  obtain rfl : args = #[v0] := by cases args; simp_all
  obtain ⟨rfl, rfl⟩ := trodVars_none hV
  obtain ⟨a0, len0, cap0, rfl⟩ := okWide_slice Try.underlying28 (hval 0 28 v0 rfl rfl)
  have k0 := h0
  have lt0 : ∀ x ∈ p0, x.block < W.heap.size := by obtain ⟨m, hm⟩ := k0; exact DataW.trod_lt m _ _ _ hm
  obtain ⟨z0, w0⟩ : ∃ zs, IsRow .i64 W a0 len0 cap0 zs := by
    obtain ⟨fuel, hf⟩ := h0
    rcases open_ints Try.underlying28 Try.underlying2 (by kernel_rfl) hf with ⟨hcs, _⟩ | ⟨x, l, c, zs, hcs, _, hl, hm, hz, _, hcell, hwz⟩
    · simp [Value.cells] at hcs
      obtain ⟨rfl, rfl, rfl⟩ := hcs
      exact ⟨[], .inl ⟨rfl, rfl, rfl, rfl⟩⟩
    · simp [Value.cells] at hcs
      obtain ⟨rfl, rfl, rfl⟩ := hcs
      exact ⟨zs, .inr ⟨_, rfl, hl, hm, by simpa using hz, hcell, hwz⟩⟩
  clear hA0 hval0
  refine (walk a0 len0 cap0 z0 W w0).mono fun e W' ⟨he, bel⟩ => ?_
  subst he
  exact ⟨_, rfl, _, _, _, [], _, [], hW', trodAll_mk1 (shut_bool Try.underlying4 _), (trodAll_cons_mk (Below.trod laidOut (by kernel_rfl) (of_decide_eq_true (by kernel_rfl)) k0 bel lt0) trodAll_mk0), rfl, bel.frame _, fun h => by cases h⟩

theorem both {a b : Bool} (h : a = true) (k : b = true) : (a && b) = true := by rw [h, k]; rfl
theorem c0 : (Rows.fnExactInterpolateRow.wf (OpenSpec.ofChange Rows.fnExactInterpolateSpec)) = true := by kernel_rfl
theorem c1 : (laidOutB Try.prog) = true := by kernel_rfl
theorem c2 : (mapsRowed Try.prog) = true := by kernel_rfl
theorem c3 : (Try.f19.params.all (Try.prog.readableRec ·)) = true := by kernel_rfl
theorem c4 : (namedTie Try.prog Rows.fnExactInterpolateRow.named Rows.fnExactInterpolateSpec.vars) = true := by kernel_rfl
theorem c5 : (Rows.fnExactInterpolateRow.stops == []) = true := by kernel_rfl
theorem c6 : (Try.prog.stops == []) = true := by kernel_rfl
theorem c7 : (Rows.fnExactInterpolateRow.knobs == []) = true := by kernel_rfl
theorem c8 : (Try.prog.stopKnobs == []) = true := by kernel_rfl
theorem c9 : (Rows.fnExactInterpolateRow.inPlace == Try.prog.inPlace 19) = true := by kernel_rfl
theorem c10 : (Rows.fnExactInterpolateRow.unfollowed == Try.prog.unfollowed 19) = true := by kernel_rfl
theorem c11 : (Rows.fnExactInterpolateRow.recurses == Try.prog.recurses 19) = true := by kernel_rfl
theorem c12 : (Rows.fnExactInterpolateRow.named == Try.prog.varsNamed 19) = true := by kernel_rfl
theorem c13 : (Rows.fnExactInterpolateRow.maps == (Try.f19.params.toList ++ Rows.fnExactInterpolateSpec.plain.varTypes Try.prog).any (Try.prog.mapsRec ·)) = true := by kernel_rfl
theorem c14 : (Rows.fnExactInterpolateRow.ifaces == (Try.f19.params.toList ++ Rows.fnExactInterpolateSpec.plain.varTypes Try.prog).any (Try.prog.ifacesRec ·)) = true := by kernel_rfl
theorem c15 : (Rows.fnExactInterpolateRow.mapsOut == Try.prog.mapsAmong Try.f19.resultTypes.toList) = true := by kernel_rfl
theorem c16 : (Rows.fnExactInterpolateRow.loops == (Try.f19.params.toList ++ Rows.fnExactInterpolateSpec.plain.varTypes Try.prog).any (Try.prog.loopsFrom ·)) = true := by kernel_rfl
theorem c17 : (Rows.fnExactInterpolateRow.wideKeys == (Try.f19.params.toList ++ Rows.fnExactInterpolateSpec.plain.varTypes Try.prog ++ Try.f19.resultTypes.toList).any (Try.prog.wideKeysFrom ·)) = true := by kernel_rfl
theorem c18 : (Rows.fnExactInterpolateSpec.vars.all (Try.prog.varReadable ·)) = true := by kernel_rfl
theorem c19 : (Try.f19.resultTypes.all (fun t => Try.prog.readableRec t && decide (t < Try.prog.types.size))) = true := by kernel_rfl
theorem c20 : (Rows.fnExactInterpolateRow.ifacesOut == Try.f19.resultTypes.toList.any (Try.prog.ifacesRec ·)) = true := by kernel_rfl
theorem c21 : (Rows.fnExactInterpolateRow.loopsOut == Try.f19.resultTypes.toList.any (Try.prog.loopsFrom ·)) = true := by kernel_rfl
theorem c22 : (Rows.fnExactInterpolateRow.plainKeys == Try.prog.plainKeys) = true := by kernel_rfl
theorem c23 : (Rows.fnExactInterpolateRow.shortTexts.isNone) = true := by kernel_rfl
theorem c24 : (Try.prog.stopsHeard) = true := by kernel_rfl
theorem c25 : (Try.prog.mayEnter) = true := Eng.mayEnter
theorem c26 : (Rows.fnExactInterpolateRow.lifted == Try.prog.liftsFinal) = true := by rw [Eng.liftsFinal]; kernel_rfl
theorem c27 : (Try.prog.make == some Rows.fnExactInterpolateRow.make) = true := by rw [Eng.make]; kernel_rfl
theorem c28 : (Rows.fnExactInterpolateRow.kinds == (if Rows.fnExactInterpolateRow.domain.isEmpty then [] else Try.f19.params.toList.map fun t => match Try.prog.underlying t with | some (.int k) => some k | _ => none)) = true := by kernel_rfl
theorem c29 : (Rows.fnExactInterpolateRow.pinned == Rows.fnExactInterpolateRow.pinnedBy) = true := by kernel_rfl
theorem c30 : (Rows.fnExactInterpolateRow.veiled == (Try.f19.params.toList ++ Rows.fnExactInterpolateSpec.plain.varTypes Try.prog ++ Try.f19.resultTypes.toList).any (Try.prog.veiledRec ·)) = true := by kernel_rfl
theorem c31 : (Rows.fnExactInterpolateRow.veiledFits Try.prog Try.f19.params.toList (Try.f19.params.toList ++ Rows.fnExactInterpolateSpec.plain.varTypes Try.prog ++ Try.f19.resultTypes.toList)) = true := by kernel_rfl
theorem closed : joinedFacts Try.prog 19 Try.f19 Rows.fnExactInterpolateSpec Rows.fnExactInterpolateRow = true := (both (both (both (both (both (both (both (both (both (both (both (both (both (both (both (both (both (both (both (both (both (both (both (both (both (both (both (both (both (both (both c0 c1) c2) c3) c4) c5) c6) c7) c8) c9) c10) c11) c12) c13) c14) c15) c16) c17) c18) c19) c20) c21) c22) c23) c24) c25) c26) c27) c28) c29) c30) c31)
theorem over : Rows.fnExactInterpolateRow.holds Try.pinned (OpenSpec.ofChange Rows.fnExactInterpolateSpec) :=
  OpenClaim.holds_of_wide 19 Try.f19 rfl rfl rfl rfl rfl rfl rfl ⟨rfl, rfl, rfl, rfl, rfl⟩ rfl rfl rfl rfl rfl (by kernel_rfl) Try.func19 closed
    (of_decide_eq_true (by kernel_rfl)) (by unfold Func.isWrapper; first | (rw [if_pos (by decide +kernel)]; kernel_rfl) | (rw [if_neg (by decide +kernel)]; exact ⟨rfl, rfl⟩))
    (fun os started H enc _ => lifted os started H enc)

/-- ████ THE STATEMENT ████ -/
theorem proved : Rows.FnExactInterpolateSaid := over
#print axioms proved
end Go.Proofs.Ytlhfcmcocbiafaa.fnExactInterpolate
