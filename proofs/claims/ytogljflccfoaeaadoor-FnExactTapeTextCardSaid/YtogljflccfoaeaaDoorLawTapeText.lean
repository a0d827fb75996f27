/- The law FnExactTapeText: its function returns true for every input, and its arguments read as before. No condition of its own. The frame is the kit's shell, its tapes opened by hand; the contract is the part LTapeText. -/
import Derived.Test.YtogljflccfoaeaaDoorRows
import Derived.Test.YtogljflccfoaeaaDoorLTapeText
import Derived.Test.YtogljflccfoaeaaDoorTo
import Derived.Test.YtogljflccfoaeaaDoorTie
import Derived.Test.YtogljflccfoaeaaDoorCards
import Derived.Test.YtogljflccfoaeaaDoorHead
import Derived.WalkKit
import Derived.ProofKit
import Derived.OpenShut
import Derived.ShutString
import Derived.ChangeOld
import Derived.Below
import Derived.SevenTiedAt
import Derived.LaidMore
import Derived.Stop.Joined
import Derived.Stop.LaidErr
import Derived.Lib.LaidTab
namespace Go.Proofs.YtogljflccfoaeaaDoor.fnExactTapeText
open Go.ChangeShapes Go.WideShapes Go.ChangeAt Go.RowKit
set_option linter.unusedVariables false
theorem own : ownKnob Tryd.prog.godebug = none := by kernel_rfl
theorem laidOut : laidOutB Tryd.prog = true := by kernel_rfl
/-- What the walk is told of a slice of integers that came in. -/
def IsRow (k : IntKind) (w : World) (a : Option Addr) (len cap : Nat) (zs : List Int) : Prop :=
  (a = none ∧ len = 0 ∧ cap = 0 ∧ zs = []) ∨
  ∃ x, a = some x ∧ len ≤ cap ∧ cap ≤ maxLen ∧ zs.length = cap ∧ (∀ i, i < zs.length → w.cell? (x.add i) = some (.int k (zs.getD i 0))) ∧ ∀ n ∈ zs, (Lit.int k n).wf = true

theorem walk (w : World) (ht : Eng.LaidW w) (v0 : Value) (t0 : Eng.Tp) (h0 : Eng.TapeV w v0 t0) (c0 : t0.code.length ≤ maxLen) (g0 : t0.guards.length ≤ maxLen) (o0 : t0.outs.length ≤ maxLen) :
    Calls Tryd.prog 5 #[v0] w fun e w' => e = .returned (.bool true) ∧ Below w.heap.size w w' := by
  unfold maxLen at c0 g0 o0
  simp at c0 g0 o0
  exact (Eng.lawTapeText v0 t0 w ht h0 c0 g0 o0).law fun v w' h => h

/-- A table's cells. -/
def datumCells (d : DataW Unit) : Array Value := match d with
  | .agg ps => (ps.map fun x => match x with
    | .lit (.int k z) => Value.int k z
    | _ => Value.bool false).toArray
  | _ => #[]
def layAt (h : Array Obj) (g : Nat) (d : DataW Unit) : Array Obj := h.modify g fun
  | .cells _ t frozen => .cells (datumCells d) t frozen
  | o => o
/-- A world that meets the condition: the settled one, the tables laid. -/
noncomputable def laidWorld (os : Os) : World :=
  { World.holding Tryd.prog os ⟨#[], #[], []⟩ with heap := layAt (layAt (layAt (World.holding Tryd.prog os ⟨#[], #[], []⟩).heap 6 Rows.laid_math_bits_deBruijn32tab) 7 Rows.laid_math_bits_deBruijn64tab) 0 Rows.laid_internal_strconv_uint64pow10 }
theorem laid_met (os : Os) (args : Array Value) : laidMetH Tryd.prog Rows.fnExactTapeTextRow.laid ((laidWorld os).forCall (fun _ _ => 0) ⟨#[], args, []⟩).memory := by
  rw [MakeChecks.laidMetH_plain _ _ _ (by kernel_rfl)]
  exact laidMet_of_run' 8 (by kernel_rfl) (by kernel_rfl)
theorem of_laid {W : World} (h : laidMetH Tryd.prog Rows.fnExactTapeTextRow.laid W) : Eng.LaidW W := by
  rw [MakeChecks.laidMetH_plain _ _ _ (by kernel_rfl)] at h
  have e : Rows.laid_internal_strconv_uint64pow10 = Lib.tabData (H := Unit) .u64 Lib.pow10Tab := by kernel_rfl
  have h2 : laidMet Tryd.prog [("internal/strconv.uint64pow10", Rows.laid_internal_strconv_uint64pow10)] W := h.tail.tail
  rw [e] at h2
  exact Lib.tabIs_of_head (g := 0) (t := 127) (e := 108) (n := 20) (by kernel_rfl) (by kernel_rfl) Tryd.underlying127 Tryd.underlying108 (by kernel_rfl) (by kernel_rfl) h2

set_option maxRecDepth 100000 in
theorem lifted (os : Os) (started : os.Started) (H : Type) (enc : TypeId × Value → H) :
    ReturnsInHanded {} Tryd.checked os 5 .any (fun w args => (Rows.fnExactTapeTextSpec.pre enc Tryd.prog Tryd.f5 Rows.fnExactTapeTextRow.domain false w args ∧ laidMetH Tryd.prog Rows.fnExactTapeTextRow.laid w) ∧ sizedMet enc Tryd.prog Tryd.f5 (OpenSpec.ofChange Rows.fnExactTapeTextSpec) false w args) (Rows.fnExactTapeTextSpec.post enc Tryd.prog Tryd.f5 false true false false) := by
  refine returnsInHanded_of_change_and (C := Tryd.checked) (X := fun w _ => laidMetH Tryd.prog Rows.fnExactTapeTextRow.laid w) (fun _ _ _ hh h => h.of_heap hh) own started (by kernel_rfl) Tryd.func5
    (ChangeSpec.witness_at (enc := enc) (C := Tryd.checked) (os := os) (X := fun w _ => laidMetH Tryd.prog Rows.fnExactTapeTextRow.laid w) false (laidWorld os) #[.agg #[.int .i64 0, .slice none 0 0, .slice none 0 0, .slice none 0 0]] 8 rfl (by kernel_rfl) (by kernel_rfl) (by kernel_rfl) (by kernel_rfl) (by kernel_rfl) (laid_met os _)) ?_
  intro W base args ds gs before hval0 hW hcnd _ hL _
  have hval : ∀ (j : Nat) t v, Tryd.f5.params[j]? = some t → args[j]? = some v → Value.okWide Tryd.prog W .any base t v := hval0
  have hW' := hW
  obtain ⟨p, q, hA0, hV, rfl, hfz, hnd⟩ := hW
  have hA : DataW.TrodAll enc Tryd.prog W 0 (fun _ => true) true Tryd.f5.params.toList args.toList ds p := hA0
  have hT := of_laid hL
  rw [Tryd.params5] at hA hval
  obtain ⟨v0, vs0, d0, ds0, p0, q0, hargs, rfl, rfl, h0, r0⟩ := trodAll_cons hA
  obtain ⟨rfl, rfl, rfl⟩ := trodAll_nil r0
  obtain rfl : args = #[v0] := by cases args; simp_all
  obtain ⟨rfl, rfl⟩ := trodVars_none hV
  have k0 := h0
  have lt0 : ∀ x ∈ p0, x.block < W.heap.size := by obtain ⟨m, hm⟩ := k0; exact DataW.trod_lt m _ _ _ hm
  obtain ⟨t0, tv0, la0, lb0, lc0⟩ := Eng.open_tape (hval 0 34 v0 rfl rfl) h0
  clear hA0 hval0
  refine (walk W hT v0 t0 tv0 la0 lb0 lc0).mono fun e W' ⟨he, bel⟩ => ?_
  subst he
  exact ⟨_, rfl, _, _, _, [], _, [], hW', trodAll_mk1 (shut_bool Tryd.underlying4 _), (trodAll_cons_mk (Below.trod laidOut (by kernel_rfl) (of_decide_eq_true (by kernel_rfl)) k0 bel lt0) trodAll_mk0), rfl, bel.frame _, fun h => by cases h⟩

theorem both {a b : Bool} (h : a = true) (k : b = true) : (a && b) = true := by rw [h, k]; rfl
theorem c0 : (Rows.fnExactTapeTextRow.wf (OpenSpec.ofChange Rows.fnExactTapeTextSpec)) = true := by kernel_rfl
theorem c1 : (laidOutB Tryd.prog) = true := by kernel_rfl
theorem c2 : (mapsRowed Tryd.prog) = true := by kernel_rfl
theorem c3 : (Tryd.f5.params.all (Tryd.prog.readableRec ·)) = true := by kernel_rfl
theorem c4 : (namedTie Tryd.prog Rows.fnExactTapeTextRow.named Rows.fnExactTapeTextSpec.vars) = true := by kernel_rfl
theorem c5 : (Rows.fnExactTapeTextRow.stops == []) = true := by kernel_rfl
theorem c6 : (Tryd.prog.stops == []) = true := by kernel_rfl
theorem c7 : (Rows.fnExactTapeTextRow.knobs == []) = true := by kernel_rfl
theorem c8 : (Tryd.prog.stopKnobs == []) = true := by kernel_rfl
theorem c9 : (Rows.fnExactTapeTextRow.inPlace == Tryd.prog.inPlace 5) = true := by kernel_rfl
theorem c10 : (Rows.fnExactTapeTextRow.unfollowed == Tryd.prog.unfollowed 5) = true := by kernel_rfl
theorem c11 : (Rows.fnExactTapeTextRow.recurses == Tryd.prog.recurses 5) = true := by kernel_rfl
theorem c12 : (Rows.fnExactTapeTextRow.named == Tryd.prog.varsNamed 5) = true := by kernel_rfl
theorem c13 : (Rows.fnExactTapeTextRow.maps == (Tryd.f5.params.toList ++ Rows.fnExactTapeTextSpec.plain.varTypes Tryd.prog).any (Tryd.prog.mapsRec ·)) = true := by kernel_rfl
theorem c14 : (Rows.fnExactTapeTextRow.ifaces == (Tryd.f5.params.toList ++ Rows.fnExactTapeTextSpec.plain.varTypes Tryd.prog).any (Tryd.prog.ifacesRec ·)) = true := by kernel_rfl
theorem c15 : (Rows.fnExactTapeTextRow.mapsOut == Tryd.prog.mapsAmong Tryd.f5.resultTypes.toList) = true := by kernel_rfl
theorem c16 : (Rows.fnExactTapeTextRow.loops == (Tryd.f5.params.toList ++ Rows.fnExactTapeTextSpec.plain.varTypes Tryd.prog).any (Tryd.prog.loopsFrom ·)) = true := by kernel_rfl
theorem c17 : (Rows.fnExactTapeTextRow.wideKeys == (Tryd.f5.params.toList ++ Rows.fnExactTapeTextSpec.plain.varTypes Tryd.prog ++ Tryd.f5.resultTypes.toList).any (Tryd.prog.wideKeysFrom ·)) = true := by kernel_rfl
theorem c18 : (Rows.fnExactTapeTextSpec.vars.all (Tryd.prog.varReadable ·)) = true := by kernel_rfl
theorem c19 : (Tryd.f5.resultTypes.all (fun t => Tryd.prog.readableRec t && decide (t < Tryd.prog.types.size))) = true := by kernel_rfl
theorem c20 : (Rows.fnExactTapeTextRow.ifacesOut == Tryd.f5.resultTypes.toList.any (Tryd.prog.ifacesRec ·)) = true := by kernel_rfl
theorem c21 : (Rows.fnExactTapeTextRow.loopsOut == Tryd.f5.resultTypes.toList.any (Tryd.prog.loopsFrom ·)) = true := by kernel_rfl
theorem c22 : (Rows.fnExactTapeTextRow.plainKeys == Tryd.prog.plainKeys) = true := by kernel_rfl
theorem c23 : (Rows.fnExactTapeTextRow.shortTexts.isNone) = true := by kernel_rfl
theorem c24 : (Tryd.prog.stopsHeard) = true := by kernel_rfl
theorem c25 : (Tryd.prog.mayEnter) = true := Eng.mayEnter
theorem c26 : (Rows.fnExactTapeTextRow.lifted == Tryd.prog.liftsFinal) = true := by rw [Eng.liftsFinal]; kernel_rfl
theorem c27 : (Tryd.prog.make == some Rows.fnExactTapeTextRow.make) = true := by rw [Eng.make]; kernel_rfl
theorem c28 : (Rows.fnExactTapeTextRow.kinds == (if Rows.fnExactTapeTextRow.domain.isEmpty then [] else Tryd.f5.params.toList.map fun t => match Tryd.prog.underlying t with | some (.int k) => some k | _ => none)) = true := by kernel_rfl
theorem c29 : (Rows.fnExactTapeTextRow.pinned == Rows.fnExactTapeTextRow.pinnedBy) = true := by kernel_rfl
theorem c30 : (Rows.fnExactTapeTextRow.veiled == (Tryd.f5.params.toList ++ Rows.fnExactTapeTextSpec.plain.varTypes Tryd.prog ++ Tryd.f5.resultTypes.toList).any (Tryd.prog.veiledRec ·)) = true := by kernel_rfl
theorem c31 : (Rows.fnExactTapeTextRow.veiledFits Tryd.prog Tryd.f5.params.toList (Tryd.f5.params.toList ++ Rows.fnExactTapeTextSpec.plain.varTypes Tryd.prog ++ Tryd.f5.resultTypes.toList)) = true := by kernel_rfl
set_option maxRecDepth 100000 in
theorem closed : joinedFacts Tryd.prog 5 Tryd.f5 Rows.fnExactTapeTextSpec Rows.fnExactTapeTextRow = true := (both (both (both (both (both (both (both (both (both (both (both (both (both (both (both (both (both (both (both (both (both (both (both (both (both (both (both (both (both (both (both c0 c1) c2) c3) c4) c5) c6) c7) c8) c9) c10) c11) c12) c13) c14) c15) c16) c17) c18) c19) c20) c21) c22) c23) c24) c25) c26) c27) c28) c29) c30) c31)
theorem over : Rows.fnExactTapeTextRow.holds Tryd.pinned (OpenSpec.ofChange Rows.fnExactTapeTextSpec) :=
  OpenClaim.holds_of_wide 5 Tryd.f5 rfl rfl rfl rfl rfl rfl rfl ⟨rfl, rfl, rfl, rfl, rfl⟩ rfl rfl rfl rfl rfl (by kernel_rfl) Tryd.func5 closed
    (of_decide_eq_true (by kernel_rfl)) (by unfold Func.isWrapper; first | (rw [if_pos (by decide +kernel)]; kernel_rfl) | (rw [if_neg (by decide +kernel)]; exact ⟨rfl, rfl⟩))
    (fun os started H enc _ => lifted os started H enc)
/-- The row, whose listed variables are premises. -/
theorem bare : Rows.FnExactTapeTextSaid := over
/-- The statement: the tied card. -/
theorem proved : Rows.FnExactTapeTextCardSaid :=
  Claim7.holds_tied_plain_at .later [] Rows.fnExactTapeTextCard.laidKinds true Rows.fnExactTapeTextCard.stood.harness true
    over (fun _ h => by cases h) (by kernel_rfl) (fun _ h => by cases h) fnExactTapeText_row_tie rfl ⟨rfl, rfl⟩ (by kernel_rfl) rfl
    (fun f fn hf hfn => by
      obtain rfl : f = 5 := Option.some.inj ((show Tryd.prog.funcNamed "loop.example/g01091/laws.FnExactTapeText" = some 5 by kernel_rfl).symm.trans hf) |>.symm
      obtain rfl : fn = Tryd.f5 := (Option.some.inj (Tryd.func5.symm.trans hfn)).symm
      exact ⟨by kernel_rfl, fun j t ht => by
        rw [Tryd.params5] at ht
        have hm : t ∈ [34] := by simpa using Array.mem_of_getElem? ht
        have hall : ([34].all fun u => !Tryd.prog.wantsStandIn u) = true := by kernel_rfl
        exact (show Tryd.prog.wantsStandIn t = false by simpa using List.all_eq_true.1 hall t hm)⟩)
    (by kernel_rfl)
#print axioms proved
end Go.Proofs.YtogljflccfoaeaaDoor.fnExactTapeText
