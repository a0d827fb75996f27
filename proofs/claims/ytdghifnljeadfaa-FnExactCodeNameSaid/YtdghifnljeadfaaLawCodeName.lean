/- The law FnExactCodeName: its function returns true for every input, and its arguments read as before. No condition of its own. The frame is the kit's shell; the contract is the part Code. -/
import Derived.Test.YtdghifnljeadfaaRows
import Derived.Test.YtdghifnljeadfaaCode
import Derived.Test.YtdghifnljeadfaaHead
import Derived.WalkKit
import Derived.ProofKit
import Derived.OpenShut
import Derived.ShutString
namespace Go.Proofs.Ytdghifnljeadfaa.fnExactCodeName
open Go.ChangeShapes Go.WideShapes Go.ChangeAt Go.RowKit
open Go.ChangeMaps (open_string shut_string)
set_option linter.unusedVariables false      -- a walk need not use every 'w<i>' (that an integer argument fits its kind)

theorem own : ownKnob Try.prog.godebug = none := by kernel_rfl

/-! ### STEP 1: THE WALK: the Go text returns true. 'Grown w w'': the world has at most new blocks (Derived/RowKit3.lean). Part the cases AHEAD of 'go_enter' where a test parts the walk; take each callee by a contract of your own. -/
theorem walk (a0 : Int) (w0 : (Lit.int .i64 a0).wf = true) (w : World) :
    Calls Try.prog 7 #[.int .i64 a0] w fun e w' => e = .returned (.bool true) ∧ Grown w w' := by
  have b0 := bounds_i64 w0
  exact (Eng.lawCodeName a0 w b0).law fun v w' h => h

/-! ### THE ROW's STEP: WRITTEN OUT: LEAVE IT -/
set_option maxRecDepth 100000 in
theorem lifted (os : Os) (started : os.Started) (H : Type) (enc : TypeId × Value → H) :
    ReturnsInHanded {} Try.checked os 7 .any (Rows.fnExactCodeNameSpec.pre6 enc Try.prog Try.f7 Rows.fnExactCodeNameRow.domain false) (Rows.fnExactCodeNameSpec.post enc Try.prog Try.f7 false true false false) := by
  refine returnsInHanded_of_change (C := Try.checked) own started (by kernel_rfl) Try.func7
    (ChangeSpec.witness6 (enc := enc) (C := Try.checked) false ⟨#[], #[.int .i64 0], []⟩ 8 (by kernel_rfl) (by kernel_rfl) (by kernel_rfl) (by kernel_rfl)) ?_
  intro W base args ds gs before hval0 hW hcnd _
  have hval : ∀ (j : Nat) t v, Try.f7.params[j]? = some t → args[j]? = some v → Value.okWide Try.prog W .any base t v := hval0
  have hW' := hW
  obtain ⟨p, q, hA0, hV, rfl, hfz, hnd⟩ := hW
  have hA : DataW.TrodAll enc Try.prog W 0 (fun _ => true) true Try.f7.params.toList args.toList ds p := hA0
  rw [Try.params7] at hA hval
  obtain ⟨v0, vs0, d0, ds0, p0, q0, hargs, rfl, rfl, h0, r0⟩ := trodAll_cons hA
  obtain ⟨rfl, rfl, rfl⟩ := trodAll_nil r0
  obtain rfl : args = #[v0] := by cases args; simp_all
  obtain ⟨rfl, rfl⟩ := trodVars_none hV
  obtain ⟨a0, rfl, rfl, rfl, w0⟩ := open_int Try.underlying2 (hval 0 2 v0 rfl rfl) h0
  clear hA0 hval0
  simp only [List.append_nil] at hW'
  refine (walk a0 w0 W).mono fun e W' ⟨he, hg⟩ => ?_
  subst he
  exact ⟨_, rfl, post_of_same (pa := []) (pv := []) hW' (fun _ _ _ => (trodAll_cons_mk (shut_bool Try.underlying4 _) trodAll_mk0)) (fun sp _ => (trodAll_cons_mk (shut_int Try.underlying2 w0) trodAll_mk0)) (fun _ _ => rfl) rfl
    (hg.frame _) hg.2.1 (ok_one (by kernel_rfl) rfl (okWide_bool_mk Try.underlying4 _))⟩

theorem both {a b : Bool} (h : a = true) (k : b = true) : (a && b) = true := by rw [h, k]; rfl
theorem c0 : (Rows.fnExactCodeNameRow.wf (OpenSpec.ofChange Rows.fnExactCodeNameSpec)) = true := by kernel_rfl
theorem c1 : (laidOutB Try.prog) = true := by kernel_rfl
theorem c2 : (mapsRowed Try.prog) = true := by kernel_rfl
theorem c3 : (Try.f7.params.all (Try.prog.readableRec ·)) = true := by kernel_rfl
theorem c4 : (namedTie Try.prog Rows.fnExactCodeNameRow.named Rows.fnExactCodeNameSpec.vars) = true := by kernel_rfl
theorem c5 : (Rows.fnExactCodeNameRow.stops == []) = true := by kernel_rfl
theorem c6 : (Try.prog.stops == []) = true := by kernel_rfl
theorem c7 : (Rows.fnExactCodeNameRow.knobs == []) = true := by kernel_rfl
theorem c8 : (Try.prog.stopKnobs == []) = true := by kernel_rfl
theorem c9 : (Rows.fnExactCodeNameRow.inPlace == Try.prog.inPlace 7) = true := by kernel_rfl
theorem c10 : (Rows.fnExactCodeNameRow.unfollowed == Try.prog.unfollowed 7) = true := by kernel_rfl
theorem c11 : (Rows.fnExactCodeNameRow.recurses == Try.prog.recurses 7) = true := by kernel_rfl
theorem c12 : (Rows.fnExactCodeNameRow.named == Try.prog.varsNamed 7) = true := by kernel_rfl
theorem c13 : (Rows.fnExactCodeNameRow.maps == (Try.f7.params.toList ++ Rows.fnExactCodeNameSpec.plain.varTypes Try.prog).any (Try.prog.mapsRec ·)) = true := by kernel_rfl
theorem c14 : (Rows.fnExactCodeNameRow.ifaces == (Try.f7.params.toList ++ Rows.fnExactCodeNameSpec.plain.varTypes Try.prog).any (Try.prog.ifacesRec ·)) = true := by kernel_rfl
theorem c15 : (Rows.fnExactCodeNameRow.mapsOut == Try.prog.mapsAmong Try.f7.resultTypes.toList) = true := by kernel_rfl
theorem c16 : (Rows.fnExactCodeNameRow.loops == (Try.f7.params.toList ++ Rows.fnExactCodeNameSpec.plain.varTypes Try.prog).any (Try.prog.loopsFrom ·)) = true := by kernel_rfl
theorem c17 : (Rows.fnExactCodeNameRow.wideKeys == (Try.f7.params.toList ++ Rows.fnExactCodeNameSpec.plain.varTypes Try.prog ++ Try.f7.resultTypes.toList).any (Try.prog.wideKeysFrom ·)) = true := by kernel_rfl
theorem c18 : (Rows.fnExactCodeNameSpec.vars.all (Try.prog.varReadable ·)) = true := by kernel_rfl
theorem c19 : (Try.f7.resultTypes.all (fun t => Try.prog.readableRec t && decide (t < Try.prog.types.size))) = true := by kernel_rfl
theorem c20 : (Rows.fnExactCodeNameRow.ifacesOut == Try.f7.resultTypes.toList.any (Try.prog.ifacesRec ·)) = true := by kernel_rfl
theorem c21 : (Rows.fnExactCodeNameRow.loopsOut == Try.f7.resultTypes.toList.any (Try.prog.loopsFrom ·)) = true := by kernel_rfl
theorem c22 : (Rows.fnExactCodeNameRow.plainKeys == Try.prog.plainKeys) = true := by kernel_rfl
theorem c23 : (Rows.fnExactCodeNameRow.shortTexts.isNone) = true := by kernel_rfl
theorem c24 : (Try.prog.stopsHeard) = true := by kernel_rfl
theorem c25 : (Try.prog.mayEnter) = true := Eng.mayEnter
theorem c26 : (Rows.fnExactCodeNameRow.lifted == Try.prog.liftsFinal) = true := by rw [Eng.liftsFinal]; kernel_rfl
theorem c27 : (Try.prog.make == some Rows.fnExactCodeNameRow.make) = true := by rw [Eng.make]; kernel_rfl
theorem c28 : (Rows.fnExactCodeNameRow.kinds == (if Rows.fnExactCodeNameRow.domain.isEmpty then [] else Try.f7.params.toList.map fun t => match Try.prog.underlying t with | some (.int k) => some k | _ => none)) = true := by kernel_rfl
theorem c29 : (Rows.fnExactCodeNameRow.pinned == Rows.fnExactCodeNameRow.pinnedBy) = true := by kernel_rfl
theorem c30 : (Rows.fnExactCodeNameRow.veiled == (Try.f7.params.toList ++ Rows.fnExactCodeNameSpec.plain.varTypes Try.prog ++ Try.f7.resultTypes.toList).any (Try.prog.veiledRec ·)) = true := by kernel_rfl
theorem c31 : (Rows.fnExactCodeNameRow.veiledFits Try.prog Try.f7.params.toList (Try.f7.params.toList ++ Rows.fnExactCodeNameSpec.plain.varTypes Try.prog ++ Try.f7.resultTypes.toList)) = true := by kernel_rfl
theorem closed : joinedFacts Try.prog 7 Try.f7 Rows.fnExactCodeNameSpec Rows.fnExactCodeNameRow = true := (both (both (both (both (both (both (both (both (both (both (both (both (both (both (both (both (both (both (both (both (both (both (both (both (both (both (both (both (both (both (both c0 c1) c2) c3) c4) c5) c6) c7) c8) c9) c10) c11) c12) c13) c14) c15) c16) c17) c18) c19) c20) c21) c22) c23) c24) c25) c26) c27) c28) c29) c30) c31)
theorem over : Rows.fnExactCodeNameRow.holds Try.pinned (OpenSpec.ofChange Rows.fnExactCodeNameSpec) :=
  OpenClaim.holds_of_wide 7 Try.f7 rfl rfl rfl rfl rfl rfl rfl ⟨rfl, rfl, rfl, rfl, rfl⟩ rfl rfl rfl rfl rfl (by kernel_rfl) Try.func7 closed
    (of_decide_eq_true (by kernel_rfl)) (by unfold Func.isWrapper; first | (rw [if_pos (by decide +kernel)]; kernel_rfl) | (rw [if_neg (by decide +kernel)]; exact ⟨rfl, rfl⟩))
    (fun os started H enc _ => lifted os started H enc)

/-- ████ THE STATEMENT ████ -/
theorem proved : Rows.FnExactCodeNameSaid :=
  over
#print axioms proved
end Go.Proofs.Ytdghifnljeadfaa.fnExactCodeName
