/- The law FnExactTapeHessian: its function returns true for every input, and its arguments read as before. No condition of its own. The frame is the kit's shell, its tapes opened by hand; the contract is the part LTapeHessian. -/
import Derived.Test.YtfkohgfcchhlpaaRows
import Derived.Test.YtfkohgfcchhlpaaLTapeHessian
import Derived.Test.YtfkohgfcchhlpaaTo
import Derived.Test.YtfkohgfcchhlpaaHead
import Derived.WalkKit
import Derived.ProofKit
import Derived.OpenShut
import Derived.ShutString
import Derived.ChangeOld
import Derived.Below
namespace Go.Proofs.Ytfkohgfcchhlpaa.fnExactTapeHessian
open Go.ChangeShapes Go.WideShapes Go.ChangeAt Go.RowKit
set_option linter.unusedVariables false
theorem own : ownKnob Try.prog.godebug = none := by kernel_rfl
theorem laidOut : laidOutB Try.prog = true := by kernel_rfl
/-- What the walk is told of a slice of integers that came in. -/
def IsRow (k : IntKind) (w : World) (a : Option Addr) (len cap : Nat) (zs : List Int) : Prop :=
  (a = none ∧ len = 0 ∧ cap = 0 ∧ zs = []) ∨
  ∃ x, a = some x ∧ len ≤ cap ∧ cap ≤ maxLen ∧ zs.length = cap ∧ (∀ i, i < zs.length → w.cell? (x.add i) = some (.int k (zs.getD i 0))) ∧ ∀ n ∈ zs, (Lit.int k n).wf = true

theorem walk (w : World) (v0 : Value) (t0 : Eng.Tp) (h0 : Eng.TapeV w v0 t0) (c0 : t0.code.length ≤ maxLen) (g0 : t0.guards.length ≤ maxLen) (o0 : t0.outs.length ≤ maxLen) (a1 : Option Addr) (len1 cap1 : Nat) (z1 : List Int) (w1 : IsRow .i64 w a1 len1 cap1 z1) (a2 : Option Addr) (len2 cap2 : Nat) (z2 : List Int) (w2 : IsRow .i64 w a2 len2 cap2 z2) (a3 : Option Addr) (len3 cap3 : Nat) (z3 : List Int) (w3 : IsRow .i64 w a3 len3 cap3 z3) :
    Calls Try.prog 16 #[v0, .slice a1 len1 cap1, .slice a2 len2 cap2, .slice a3 len3 cap3] w fun e w' => e = .returned (.bool true) ∧ Below w.heap.size w w' := by
  unfold maxLen at c0 g0 o0
  simp at c0 g0 o0
  obtain ⟨xs1, rfl, r1⟩ : ∃ xs : List Int, xs.length = len1 ∧ Eng.Rd w a1 (Eng.ints xs) := by
    rcases w1 with ⟨rfl, rfl, rfl, rfl⟩ | ⟨x, rfl, h1, h2, h3, h4, h5⟩
    · exact ⟨[], rfl, Eng.Rd.nil _ _⟩
    · exact ⟨z1.take len1, by rw [List.length_take]; omega, Eng.rowRd (by omega) h4⟩
  obtain ⟨xs2, rfl, r2⟩ : ∃ xs : List Int, xs.length = len2 ∧ Eng.Rd w a2 (Eng.ints xs) := by
    rcases w2 with ⟨rfl, rfl, rfl, rfl⟩ | ⟨x, rfl, h1, h2, h3, h4, h5⟩
    · exact ⟨[], rfl, Eng.Rd.nil _ _⟩
    · exact ⟨z2.take len2, by rw [List.length_take]; omega, Eng.rowRd (by omega) h4⟩
  obtain ⟨xs3, rfl, r3⟩ : ∃ xs : List Int, xs.length = len3 ∧ Eng.Rd w a3 (Eng.ints xs) := by
    rcases w3 with ⟨rfl, rfl, rfl, rfl⟩ | ⟨x, rfl, h1, h2, h3, h4, h5⟩
    · exact ⟨[], rfl, Eng.Rd.nil _ _⟩
    · exact ⟨z3.take len3, by rw [List.length_take]; omega, Eng.rowRd (by omega) h4⟩
  exact (Eng.lawTapeHessian v0 t0 a1 cap1 xs1 a2 cap2 xs2 a3 cap3 xs3 w h0 c0 g0 o0 r1 r2 r3).law fun v w' h => h

set_option maxRecDepth 100000 in
theorem lifted (os : Os) (started : os.Started) (H : Type) (enc : TypeId × Value → H) :
    ReturnsInHanded {} Try.checked os 16 .any (Rows.fnExactTapeHessianSpec.pre6 enc Try.prog Try.f16 Rows.fnExactTapeHessianRow.domain false) (Rows.fnExactTapeHessianSpec.post enc Try.prog Try.f16 false true false false) := by
  refine returnsInHanded_of_change (C := Try.checked) own started (by kernel_rfl) Try.func16
    (ChangeSpec.witness6 (enc := enc) (C := Try.checked) false ⟨#[], #[.agg #[.int .i64 0, .slice none 0 0, .slice none 0 0, .slice none 0 0], .slice none 0 0, .slice none 0 0, .slice none 0 0], []⟩ 8 (by kernel_rfl) (by kernel_rfl) (by kernel_rfl) (by kernel_rfl)) ?_
  intro W base args ds gs before hval0 hW hcnd _
  have hval : ∀ (j : Nat) t v, Try.f16.params[j]? = some t → args[j]? = some v → Value.okWide Try.prog W .any base t v := hval0
  have hW' := hW
  obtain ⟨p, q, hA0, hV, rfl, hfz, hnd⟩ := hW
  have hA : DataW.TrodAll enc Try.prog W 0 (fun _ => true) true Try.f16.params.toList args.toList ds p := hA0
  rw [Try.params16] at hA hval
  obtain ⟨v0, vs0, d0, ds0, p0, q0, hargs, rfl, rfl, h0, r0⟩ := trodAll_cons hA
  obtain ⟨v1, vs1, d1, ds1, p1, q1, rfl, rfl, rfl, h1, r1⟩ := trodAll_cons r0
  obtain ⟨v2, vs2, d2, ds2, p2, q2, rfl, rfl, rfl, h2, r2⟩ := trodAll_cons r1
  obtain ⟨v3, vs3, d3, ds3, p3, q3, rfl, rfl, rfl, h3, r3⟩ := trodAll_cons r2
  obtain ⟨rfl, rfl, rfl⟩ := trodAll_nil r3
  obtain rfl : args = #[v0, v1, v2, v3] := by cases args; simp_all
  obtain ⟨rfl, rfl⟩ := trodVars_none hV
  have k0 := h0
  have lt0 : ∀ x ∈ p0, x.block < W.heap.size := by obtain ⟨m, hm⟩ := k0; exact DataW.trod_lt m _ _ _ hm
  obtain ⟨t0, tv0, la0, lb0, lc0⟩ := Eng.open_tape (hval 0 26 v0 rfl rfl) h0
  obtain ⟨a1, len1, cap1, rfl⟩ := okWide_slice Try.underlying24 (hval 1 24 v1 rfl rfl)
  have k1 := h1
  have lt1 : ∀ x ∈ p1, x.block < W.heap.size := by obtain ⟨m, hm⟩ := k1; exact DataW.trod_lt m _ _ _ hm
  obtain ⟨z1, w1⟩ : ∃ zs, IsRow .i64 W a1 len1 cap1 zs := by
    obtain ⟨fuel, hf⟩ := h1
    rcases open_ints Try.underlying24 Try.underlying2 (by kernel_rfl) hf with ⟨hcs, _⟩ | ⟨x, l, c, zs, hcs, _, hl, hm, hz, _, hcell, hwz⟩
    · simp [Value.cells] at hcs
      obtain ⟨rfl, rfl, rfl⟩ := hcs
      exact ⟨[], .inl ⟨rfl, rfl, rfl, rfl⟩⟩
    · simp [Value.cells] at hcs
      obtain ⟨rfl, rfl, rfl⟩ := hcs
      exact ⟨zs, .inr ⟨_, rfl, hl, hm, by simpa using hz, hcell, hwz⟩⟩
  obtain ⟨a2, len2, cap2, rfl⟩ := okWide_slice Try.underlying24 (hval 2 24 v2 rfl rfl)
  have k2 := h2
  have lt2 : ∀ x ∈ p2, x.block < W.heap.size := by obtain ⟨m, hm⟩ := k2; exact DataW.trod_lt m _ _ _ hm
  obtain ⟨z2, w2⟩ : ∃ zs, IsRow .i64 W a2 len2 cap2 zs := by
    obtain ⟨fuel, hf⟩ := h2
    rcases open_ints Try.underlying24 Try.underlying2 (by kernel_rfl) hf with ⟨hcs, _⟩ | ⟨x, l, c, zs, hcs, _, hl, hm, hz, _, hcell, hwz⟩
    · simp [Value.cells] at hcs
      obtain ⟨rfl, rfl, rfl⟩ := hcs
      exact ⟨[], .inl ⟨rfl, rfl, rfl, rfl⟩⟩
    · simp [Value.cells] at hcs
      obtain ⟨rfl, rfl, rfl⟩ := hcs
      exact ⟨zs, .inr ⟨_, rfl, hl, hm, by simpa using hz, hcell, hwz⟩⟩
  obtain ⟨a3, len3, cap3, rfl⟩ := okWide_slice Try.underlying24 (hval 3 24 v3 rfl rfl)
  have k3 := h3
  have lt3 : ∀ x ∈ p3, x.block < W.heap.size := by obtain ⟨m, hm⟩ := k3; exact DataW.trod_lt m _ _ _ hm
  obtain ⟨z3, w3⟩ : ∃ zs, IsRow .i64 W a3 len3 cap3 zs := by
    obtain ⟨fuel, hf⟩ := h3
    rcases open_ints Try.underlying24 Try.underlying2 (by kernel_rfl) hf with ⟨hcs, _⟩ | ⟨x, l, c, zs, hcs, _, hl, hm, hz, _, hcell, hwz⟩
    · simp [Value.cells] at hcs
      obtain ⟨rfl, rfl, rfl⟩ := hcs
      exact ⟨[], .inl ⟨rfl, rfl, rfl, rfl⟩⟩
    · simp [Value.cells] at hcs
      obtain ⟨rfl, rfl, rfl⟩ := hcs
      exact ⟨zs, .inr ⟨_, rfl, hl, hm, by simpa using hz, hcell, hwz⟩⟩
  clear hA0 hval0
  refine (walk W v0 t0 tv0 la0 lb0 lc0 a1 len1 cap1 z1 w1 a2 len2 cap2 z2 w2 a3 len3 cap3 z3 w3).mono fun e W' ⟨he, bel⟩ => ?_
  subst he
  exact ⟨_, rfl, _, _, _, [], _, [], hW', trodAll_mk1 (shut_bool Try.underlying4 _), (trodAll_cons_mk (Below.trod laidOut (by kernel_rfl) (of_decide_eq_true (by kernel_rfl)) k0 bel lt0) (trodAll_cons_mk (Below.trod laidOut (by kernel_rfl) (of_decide_eq_true (by kernel_rfl)) k1 bel lt1) (trodAll_cons_mk (Below.trod laidOut (by kernel_rfl) (of_decide_eq_true (by kernel_rfl)) k2 bel lt2) (trodAll_cons_mk (Below.trod laidOut (by kernel_rfl) (of_decide_eq_true (by kernel_rfl)) k3 bel lt3) trodAll_mk0)))), rfl, bel.frame _, fun h => by cases h⟩

theorem both {a b : Bool} (h : a = true) (k : b = true) : (a && b) = true := by rw [h, k]; rfl
theorem c0 : (Rows.fnExactTapeHessianRow.wf (OpenSpec.ofChange Rows.fnExactTapeHessianSpec)) = true := by kernel_rfl
theorem c1 : (laidOutB Try.prog) = true := by kernel_rfl
theorem c2 : (mapsRowed Try.prog) = true := by kernel_rfl
theorem c3 : (Try.f16.params.all (Try.prog.readableRec ·)) = true := by kernel_rfl
theorem c4 : (namedTie Try.prog Rows.fnExactTapeHessianRow.named Rows.fnExactTapeHessianSpec.vars) = true := by kernel_rfl
theorem c5 : (Rows.fnExactTapeHessianRow.stops == []) = true := by kernel_rfl
theorem c6 : (Try.prog.stops == []) = true := by kernel_rfl
theorem c7 : (Rows.fnExactTapeHessianRow.knobs == []) = true := by kernel_rfl
theorem c8 : (Try.prog.stopKnobs == []) = true := by kernel_rfl
theorem c9 : (Rows.fnExactTapeHessianRow.inPlace == Try.prog.inPlace 16) = true := by kernel_rfl
theorem c10 : (Rows.fnExactTapeHessianRow.unfollowed == Try.prog.unfollowed 16) = true := by kernel_rfl
theorem c11 : (Rows.fnExactTapeHessianRow.recurses == Try.prog.recurses 16) = true := by kernel_rfl
theorem c12 : (Rows.fnExactTapeHessianRow.named == Try.prog.varsNamed 16) = true := by kernel_rfl
theorem c13 : (Rows.fnExactTapeHessianRow.maps == (Try.f16.params.toList ++ Rows.fnExactTapeHessianSpec.plain.varTypes Try.prog).any (Try.prog.mapsRec ·)) = true := by kernel_rfl
theorem c14 : (Rows.fnExactTapeHessianRow.ifaces == (Try.f16.params.toList ++ Rows.fnExactTapeHessianSpec.plain.varTypes Try.prog).any (Try.prog.ifacesRec ·)) = true := by kernel_rfl
theorem c15 : (Rows.fnExactTapeHessianRow.mapsOut == Try.prog.mapsAmong Try.f16.resultTypes.toList) = true := by kernel_rfl
theorem c16 : (Rows.fnExactTapeHessianRow.loops == (Try.f16.params.toList ++ Rows.fnExactTapeHessianSpec.plain.varTypes Try.prog).any (Try.prog.loopsFrom ·)) = true := by kernel_rfl
theorem c17 : (Rows.fnExactTapeHessianRow.wideKeys == (Try.f16.params.toList ++ Rows.fnExactTapeHessianSpec.plain.varTypes Try.prog ++ Try.f16.resultTypes.toList).any (Try.prog.wideKeysFrom ·)) = true := by kernel_rfl
theorem c18 : (Rows.fnExactTapeHessianSpec.vars.all (Try.prog.varReadable ·)) = true := by kernel_rfl
theorem c19 : (Try.f16.resultTypes.all (fun t => Try.prog.readableRec t && decide (t < Try.prog.types.size))) = true := by kernel_rfl
theorem c20 : (Rows.fnExactTapeHessianRow.ifacesOut == Try.f16.resultTypes.toList.any (Try.prog.ifacesRec ·)) = true := by kernel_rfl
theorem c21 : (Rows.fnExactTapeHessianRow.loopsOut == Try.f16.resultTypes.toList.any (Try.prog.loopsFrom ·)) = true := by kernel_rfl
theorem c22 : (Rows.fnExactTapeHessianRow.plainKeys == Try.prog.plainKeys) = true := by kernel_rfl
theorem c23 : (Rows.fnExactTapeHessianRow.shortTexts.isNone) = true := by kernel_rfl
theorem c24 : (Try.prog.stopsHeard) = true := by kernel_rfl
theorem c25 : (Try.prog.mayEnter) = true := Eng.mayEnter
theorem c26 : (Rows.fnExactTapeHessianRow.lifted == Try.prog.liftsFinal) = true := by rw [Eng.liftsFinal]; kernel_rfl
theorem c27 : (Try.prog.make == some Rows.fnExactTapeHessianRow.make) = true := by rw [Eng.make]; kernel_rfl
theorem c28 : (Rows.fnExactTapeHessianRow.kinds == (if Rows.fnExactTapeHessianRow.domain.isEmpty then [] else Try.f16.params.toList.map fun t => match Try.prog.underlying t with | some (.int k) => some k | _ => none)) = true := by kernel_rfl
theorem c29 : (Rows.fnExactTapeHessianRow.pinned == Rows.fnExactTapeHessianRow.pinnedBy) = true := by kernel_rfl
theorem c30 : (Rows.fnExactTapeHessianRow.veiled == (Try.f16.params.toList ++ Rows.fnExactTapeHessianSpec.plain.varTypes Try.prog ++ Try.f16.resultTypes.toList).any (Try.prog.veiledRec ·)) = true := by kernel_rfl
theorem c31 : (Rows.fnExactTapeHessianRow.veiledFits Try.prog Try.f16.params.toList (Try.f16.params.toList ++ Rows.fnExactTapeHessianSpec.plain.varTypes Try.prog ++ Try.f16.resultTypes.toList)) = true := by kernel_rfl
set_option maxRecDepth 100000 in
theorem closed : joinedFacts Try.prog 16 Try.f16 Rows.fnExactTapeHessianSpec Rows.fnExactTapeHessianRow = true := (both (both (both (both (both (both (both (both (both (both (both (both (both (both (both (both (both (both (both (both (both (both (both (both (both (both (both (both (both (both (both c0 c1) c2) c3) c4) c5) c6) c7) c8) c9) c10) c11) c12) c13) c14) c15) c16) c17) c18) c19) c20) c21) c22) c23) c24) c25) c26) c27) c28) c29) c30) c31)
theorem over : Rows.fnExactTapeHessianRow.holds Try.pinned (OpenSpec.ofChange Rows.fnExactTapeHessianSpec) :=
  OpenClaim.holds_of_wide 16 Try.f16 rfl rfl rfl rfl rfl rfl rfl ⟨rfl, rfl, rfl, rfl, rfl⟩ rfl rfl rfl rfl rfl (by kernel_rfl) Try.func16 closed
    (of_decide_eq_true (by kernel_rfl)) (by unfold Func.isWrapper; first | (rw [if_pos (by decide +kernel)]; kernel_rfl) | (rw [if_neg (by decide +kernel)]; exact ⟨rfl, rfl⟩))
    (fun os started H enc _ => lifted os started H enc)
/-- The statement. -/
theorem proved : Rows.FnExactTapeHessianSaid := over
#print axioms proved
end Go.Proofs.Ytfkohgfcchhlpaa.fnExactTapeHessian
