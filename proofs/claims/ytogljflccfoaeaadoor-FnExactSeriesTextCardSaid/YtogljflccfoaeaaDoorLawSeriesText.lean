/- The law FnExactSeriesText: its function returns true for every input, and its arguments read as before. No condition of its own. The frame is the kit's shell, its tapes opened by hand; the contract is the part Xj. -/
import Derived.Test.YtogljflccfoaeaaDoorRows
import Derived.Test.YtogljflccfoaeaaDoorXj
import Derived.Test.YtogljflccfoaeaaDoorTie
import Derived.Test.YtogljflccfoaeaaDoorCards
import Derived.Test.YtogljflccfoaeaaDoorHead
import Derived.WalkKit
import Derived.ProofKit
import Derived.OpenShut
import Derived.ShutString
import Derived.ChangeOld
import Derived.Below
import Derived.SevenTiedAt
import Derived.LaidMore
import Derived.Stop.Joined
import Derived.Stop.LaidErr
import Derived.Lib.LaidTab
namespace Go.Proofs.YtogljflccfoaeaaDoor.fnExactSeriesText
open Go.ChangeShapes Go.WideShapes Go.ChangeAt Go.RowKit
set_option linter.unusedVariables false
theorem own : ownKnob Tryd.prog.godebug = none := by kernel_rfl
theorem laidOut : laidOutB Tryd.prog = true := by kernel_rfl
/-- What the walk is told of a slice of integers that came in. -/
def IsRow (k : IntKind) (w : World) (a : Option Addr) (len cap : Nat) (zs : List Int) : Prop :=
  (a = none ∧ len = 0 ∧ cap = 0 ∧ zs = []) ∨
  ∃ x, a = some x ∧ len ≤ cap ∧ cap ≤ maxLen ∧ zs.length = cap ∧ (∀ i, i < zs.length → w.cell? (x.add i) = some (.int k (zs.getD i 0))) ∧ ∀ n ∈ zs, (Lit.int k n).wf = true

theorem walk (w : World) (ht : Eng.LaidW w) (a0 : Option Addr) (len0 cap0 : Nat) (z0 : List Int) (w0 : IsRow .i64 w a0 len0 cap0 z0) :
    Calls Tryd.prog 4 #[.slice a0 len0 cap0] w fun e w' => e = .returned (.bool true) ∧ Below w.heap.size w w' := by
  obtain ⟨xs0, rfl, r0, rm0⟩ : ∃ xs : List Int, xs.length = len0 ∧ Eng.Rd w a0 (Eng.ints xs) ∧ xs.length ≤ 9223372036854775807 := by
    rcases w0 with ⟨rfl, rfl, rfl, rfl⟩ | ⟨x, rfl, h1, h2, h3, h4, h5⟩
    · exact ⟨[], rfl, Eng.Rd.nil _ _, by simp⟩
    · exact ⟨z0.take len0, by rw [List.length_take]; omega, Eng.rowRd (by omega) h4, by rw [List.length_take]; unfold maxLen at h2; simp at h2; omega⟩
  exact (Eng.lawSeriesText a0 cap0 xs0 w ht r0 rm0).law fun v w' h => h

/-- A table's cells. -/
def datumCells (d : DataW Unit) : Array Value := match d with
  | .agg ps => (ps.map fun x => match x with
    | .lit (.int k z) => Value.int k z
    | _ => Value.bool false).toArray
  | _ => #[]
def layAt (h : Array Obj) (g : Nat) (d : DataW Unit) : Array Obj := h.modify g fun
  | .cells _ t frozen => .cells (datumCells d) t frozen
  | o => o
/-- A world that meets the condition: the settled one, the tables laid. -/
noncomputable def laidWorld (os : Os) : World :=
  { World.holding Tryd.prog os ⟨#[], #[], []⟩ with heap := layAt (layAt (layAt (World.holding Tryd.prog os ⟨#[], #[], []⟩).heap 6 Rows.laid_math_bits_deBruijn32tab) 7 Rows.laid_math_bits_deBruijn64tab) 0 Rows.laid_internal_strconv_uint64pow10 }
theorem laid_met (os : Os) (args : Array Value) : laidMetH Tryd.prog Rows.fnExactSeriesTextRow.laid ((laidWorld os).forCall (fun _ _ => 0) ⟨#[], args, []⟩).memory := by
  rw [MakeChecks.laidMetH_plain _ _ _ (by kernel_rfl)]
  exact laidMet_of_run' 8 (by kernel_rfl) (by kernel_rfl)
theorem of_laid {W : World} (h : laidMetH Tryd.prog Rows.fnExactSeriesTextRow.laid W) : Eng.LaidW W := by
  rw [MakeChecks.laidMetH_plain _ _ _ (by kernel_rfl)] at h
  have e : Rows.laid_internal_strconv_uint64pow10 = Lib.tabData (H := Unit) .u64 Lib.pow10Tab := by kernel_rfl
  have h2 : laidMet Tryd.prog [("internal/strconv.uint64pow10", Rows.laid_internal_strconv_uint64pow10)] W := h.tail.tail
  rw [e] at h2
  exact Lib.tabIs_of_head (g := 0) (t := 127) (e := 108) (n := 20) (by kernel_rfl) (by kernel_rfl) Tryd.underlying127 Tryd.underlying108 (by kernel_rfl) (by kernel_rfl) h2

set_option maxRecDepth 100000 in
theorem lifted (os : Os) (started : os.Started) (H : Type) (enc : TypeId × Value → H) :
    ReturnsInHanded {} Tryd.checked os 4 .any (fun w args => (Rows.fnExactSeriesTextSpec.pre enc Tryd.prog Tryd.f4 Rows.fnExactSeriesTextRow.domain false w args ∧ laidMetH Tryd.prog Rows.fnExactSeriesTextRow.laid w) ∧ sizedMet enc Tryd.prog Tryd.f4 (OpenSpec.ofChange Rows.fnExactSeriesTextSpec) false w args) (Rows.fnExactSeriesTextSpec.post enc Tryd.prog Tryd.f4 false true false false) := by
  refine returnsInHanded_of_change_and (C := Tryd.checked) (X := fun w _ => laidMetH Tryd.prog Rows.fnExactSeriesTextRow.laid w) (fun _ _ _ hh h => h.of_heap hh) own started (by kernel_rfl) Tryd.func4
    (ChangeSpec.witness_at (enc := enc) (C := Tryd.checked) (os := os) (X := fun w _ => laidMetH Tryd.prog Rows.fnExactSeriesTextRow.laid w) false (laidWorld os) #[.slice none 0 0] 8 rfl (by kernel_rfl) (by kernel_rfl) (by kernel_rfl) (by kernel_rfl) (by kernel_rfl) (laid_met os _)) ?_
  intro W base args ds gs before hval0 hW hcnd _ hL _
  have hval : ∀ (j : Nat) t v, Tryd.f4.params[j]? = some t → args[j]? = some v → Value.okWide Tryd.prog W .any base t v := hval0
  have hW' := hW
  obtain ⟨p, q, hA0, hV, rfl, hfz, hnd⟩ := hW
  have hA : DataW.TrodAll enc Tryd.prog W 0 (fun _ => true) true Tryd.f4.params.toList args.toList ds p := hA0
  have hT := of_laid hL
  rw [Tryd.params4] at hA hval
  obtain ⟨v0, vs0, d0, ds0, p0, q0, hargs, rfl, rfl, h0, r0⟩ := trodAll_cons hA
  obtain ⟨rfl, rfl, rfl⟩ := trodAll_nil r0
  obtain rfl : args = #[v0] := by cases args; simp_all
  obtain ⟨rfl, rfl⟩ := trodVars_none hV
  obtain ⟨a0, len0, cap0, rfl⟩ := okWide_slice Tryd.underlying22 (hval 0 22 v0 rfl rfl)
  have k0 := h0
  have lt0 : ∀ x ∈ p0, x.block < W.heap.size := by obtain ⟨m, hm⟩ := k0; exact DataW.trod_lt m _ _ _ hm
  obtain ⟨z0, w0⟩ : ∃ zs, IsRow .i64 W a0 len0 cap0 zs := by
    obtain ⟨fuel, hf⟩ := h0
    rcases open_ints Tryd.underlying22 Tryd.underlying2 (by kernel_rfl) hf with ⟨hcs, _⟩ | ⟨x, l, c, zs, hcs, _, hl, hm, hz, _, hcell, hwz⟩
    · simp [Value.cells] at hcs
      obtain ⟨rfl, rfl, rfl⟩ := hcs
      exact ⟨[], .inl ⟨rfl, rfl, rfl, rfl⟩⟩
    · simp [Value.cells] at hcs
      obtain ⟨rfl, rfl, rfl⟩ := hcs
      exact ⟨zs, .inr ⟨_, rfl, hl, hm, by simpa using hz, hcell, hwz⟩⟩
  clear hA0 hval0
  refine (walk W hT a0 len0 cap0 z0 w0).mono fun e W' ⟨he, bel⟩ => ?_
  subst he
  exact ⟨_, rfl, _, _, _, [], _, [], hW', trodAll_mk1 (shut_bool Tryd.underlying4 _), (trodAll_cons_mk (Below.trod laidOut (by kernel_rfl) (of_decide_eq_true (by kernel_rfl)) k0 bel lt0) trodAll_mk0), rfl, bel.frame _, fun h => by cases h⟩

theorem both {a b : Bool} (h : a = true) (k : b = true) : (a && b) = true := by rw [h, k]; rfl
theorem c0 : (Rows.fnExactSeriesTextRow.wf (OpenSpec.ofChange Rows.fnExactSeriesTextSpec)) = true := by kernel_rfl
theorem c1 : (laidOutB Tryd.prog) = true := by kernel_rfl
theorem c2 : (mapsRowed Tryd.prog) = true := by kernel_rfl
theorem c3 : (Tryd.f4.params.all (Tryd.prog.readableRec ·)) = true := by kernel_rfl
theorem c4 : (namedTie Tryd.prog Rows.fnExactSeriesTextRow.named Rows.fnExactSeriesTextSpec.vars) = true := by kernel_rfl
theorem c5 : (Rows.fnExactSeriesTextRow.stops == []) = true := by kernel_rfl
theorem c6 : (Tryd.prog.stops == []) = true := by kernel_rfl
theorem c7 : (Rows.fnExactSeriesTextRow.knobs == []) = true := by kernel_rfl
theorem c8 : (Tryd.prog.stopKnobs == []) = true := by kernel_rfl
theorem c9 : (Rows.fnExactSeriesTextRow.inPlace == Tryd.prog.inPlace 4) = true := by kernel_rfl
theorem c10 : (Rows.fnExactSeriesTextRow.unfollowed == Tryd.prog.unfollowed 4) = true := by kernel_rfl
theorem c11 : (Rows.fnExactSeriesTextRow.recurses == Tryd.prog.recurses 4) = true := by kernel_rfl
theorem c12 : (Rows.fnExactSeriesTextRow.named == Tryd.prog.varsNamed 4) = true := by kernel_rfl
theorem c13 : (Rows.fnExactSeriesTextRow.maps == (Tryd.f4.params.toList ++ Rows.fnExactSeriesTextSpec.plain.varTypes Tryd.prog).any (Tryd.prog.mapsRec ·)) = true := by kernel_rfl
theorem c14 : (Rows.fnExactSeriesTextRow.ifaces == (Tryd.f4.params.toList ++ Rows.fnExactSeriesTextSpec.plain.varTypes Tryd.prog).any (Tryd.prog.ifacesRec ·)) = true := by kernel_rfl
theorem c15 : (Rows.fnExactSeriesTextRow.mapsOut == Tryd.prog.mapsAmong Tryd.f4.resultTypes.toList) = true := by kernel_rfl
theorem c16 : (Rows.fnExactSeriesTextRow.loops == (Tryd.f4.params.toList ++ Rows.fnExactSeriesTextSpec.plain.varTypes Tryd.prog).any (Tryd.prog.loopsFrom ·)) = true := by kernel_rfl
theorem c17 : (Rows.fnExactSeriesTextRow.wideKeys == (Tryd.f4.params.toList ++ Rows.fnExactSeriesTextSpec.plain.varTypes Tryd.prog ++ Tryd.f4.resultTypes.toList).any (Tryd.prog.wideKeysFrom ·)) = true := by kernel_rfl
theorem c18 : (Rows.fnExactSeriesTextSpec.vars.all (Tryd.prog.varReadable ·)) = true := by kernel_rfl
theorem c19 : (Tryd.f4.resultTypes.all (fun t => Tryd.prog.readableRec t && decide (t < Tryd.prog.types.size))) = true := by kernel_rfl
theorem c20 : (Rows.fnExactSeriesTextRow.ifacesOut == Tryd.f4.resultTypes.toList.any (Tryd.prog.ifacesRec ·)) = true := by kernel_rfl
theorem c21 : (Rows.fnExactSeriesTextRow.loopsOut == Tryd.f4.resultTypes.toList.any (Tryd.prog.loopsFrom ·)) = true := by kernel_rfl
theorem c22 : (Rows.fnExactSeriesTextRow.plainKeys == Tryd.prog.plainKeys) = true := by kernel_rfl
theorem c23 : (Rows.fnExactSeriesTextRow.shortTexts.isNone) = true := by kernel_rfl
theorem c24 : (Tryd.prog.stopsHeard) = true := by kernel_rfl
theorem c25 : (Tryd.prog.mayEnter) = true := Eng.mayEnter
theorem c26 : (Rows.fnExactSeriesTextRow.lifted == Tryd.prog.liftsFinal) = true := by rw [Eng.liftsFinal]; kernel_rfl
theorem c27 : (Tryd.prog.make == some Rows.fnExactSeriesTextRow.make) = true := by rw [Eng.make]; kernel_rfl
theorem c28 : (Rows.fnExactSeriesTextRow.kinds == (if Rows.fnExactSeriesTextRow.domain.isEmpty then [] else Tryd.f4.params.toList.map fun t => match Tryd.prog.underlying t with | some (.int k) => some k | _ => none)) = true := by kernel_rfl
theorem c29 : (Rows.fnExactSeriesTextRow.pinned == Rows.fnExactSeriesTextRow.pinnedBy) = true := by kernel_rfl
theorem c30 : (Rows.fnExactSeriesTextRow.veiled == (Tryd.f4.params.toList ++ Rows.fnExactSeriesTextSpec.plain.varTypes Tryd.prog ++ Tryd.f4.resultTypes.toList).any (Tryd.prog.veiledRec ·)) = true := by kernel_rfl
theorem c31 : (Rows.fnExactSeriesTextRow.veiledFits Tryd.prog Tryd.f4.params.toList (Tryd.f4.params.toList ++ Rows.fnExactSeriesTextSpec.plain.varTypes Tryd.prog ++ Tryd.f4.resultTypes.toList)) = true := by kernel_rfl
set_option maxRecDepth 100000 in
theorem closed : joinedFacts Tryd.prog 4 Tryd.f4 Rows.fnExactSeriesTextSpec Rows.fnExactSeriesTextRow = true := (both (both (both (both (both (both (both (both (both (both (both (both (both (both (both (both (both (both (both (both (both (both (both (both (both (both (both (both (both (both (both c0 c1) c2) c3) c4) c5) c6) c7) c8) c9) c10) c11) c12) c13) c14) c15) c16) c17) c18) c19) c20) c21) c22) c23) c24) c25) c26) c27) c28) c29) c30) c31)
theorem over : Rows.fnExactSeriesTextRow.holds Tryd.pinned (OpenSpec.ofChange Rows.fnExactSeriesTextSpec) :=
  OpenClaim.holds_of_wide 4 Tryd.f4 rfl rfl rfl rfl rfl rfl rfl ⟨rfl, rfl, rfl, rfl, rfl⟩ rfl rfl rfl rfl rfl (by kernel_rfl) Tryd.func4 closed
    (of_decide_eq_true (by kernel_rfl)) (by unfold Func.isWrapper; first | (rw [if_pos (by decide +kernel)]; kernel_rfl) | (rw [if_neg (by decide +kernel)]; exact ⟨rfl, rfl⟩))
    (fun os started H enc _ => lifted os started H enc)
/-- The row, whose listed variables are premises. -/
theorem bare : Rows.FnExactSeriesTextSaid := over
/-- The statement: the tied card. -/
theorem proved : Rows.FnExactSeriesTextCardSaid :=
  Claim7.holds_tied_plain_at .later [] Rows.fnExactSeriesTextCard.laidKinds true Rows.fnExactSeriesTextCard.stood.harness true
    over (fun _ h => by cases h) (by kernel_rfl) (fun _ h => by cases h) fnExactSeriesText_row_tie rfl ⟨rfl, rfl⟩ (by kernel_rfl) rfl
    (fun f fn hf hfn => by
      obtain rfl : f = 4 := Option.some.inj ((show Tryd.prog.funcNamed "loop.example/g01091/laws.FnExactSeriesText" = some 4 by kernel_rfl).symm.trans hf) |>.symm
      obtain rfl : fn = Tryd.f4 := (Option.some.inj (Tryd.func4.symm.trans hfn)).symm
      exact ⟨by kernel_rfl, fun j t ht => by
        rw [Tryd.params4] at ht
        have hm : t ∈ [22] := by simpa using Array.mem_of_getElem? ht
        have hall : ([22].all fun u => !Tryd.prog.wantsStandIn u) = true := by kernel_rfl
        exact (show Tryd.prog.wantsStandIn t = false by simpa using List.all_eq_true.1 hall t hm)⟩)
    (by kernel_rfl)
#print axioms proved
end Go.Proofs.YtogljflccfoaeaaDoor.fnExactSeriesText
