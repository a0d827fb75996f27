/- Structs that are built; results of which one lies in cells; tapes that are handed back. No condition. -/
import Derived.Test.YtgahkbcfjibjaaaTk
namespace Go.Proofs.Ytgahkbcfjibjaaa
open Go Go.RowKit
namespace Eng
theorem run_zero {t : TypeId} {z : Value} {s b : Nat} (h : UTab.inf Try.prog t = some (z, s, b)) (w : World) : (zeroValue t).run Try.prog w = .ok z w := (run_inf h w).2.1
theorem run_size {t : TypeId} {z : Value} {s b : Nat} (h : UTab.inf Try.prog t = some (z, s, b)) (w : World) : (sizeOf t).run Try.prog w = .ok s w := (run_inf h w).1
section
variable {n : Nat} {S : World → Prop} {ρ : Env} {dst : Option Tmp} {ty : TypeId} {pos : String} {af : Array Edge} {gd : Option (Nat × Bool)}
theorem run_places_ins (w : World) : (insF.mapM fun f => (do pure (f.offset, ← sizeOf f.type) : Sem (Nat × Nat))).run Try.prog w = .ok #[(0, 1), (1, 1), (2, 1), (3, 1)] w := by
  have h1 := run_size (t := 2) rfl w
  simp [insF, Array.mapM_eq_mapM_toList, h1]
theorem run_places_gd (w : World) : (gdF.mapM fun f => (do pure (f.offset, ← sizeOf f.type) : Sem (Nat × Nat))).run Try.prog w = .ok #[(0, 1), (1, 1)] w := by
  have h1 := run_size (t := 2) (z := .int .i64 0) (s := 1) (b := 8) rfl w
  simp [gdF, Array.mapM_eq_mapM_toList, h1]
theorem run_places_tape (w : World) : (tapeImpl.mapM fun f => (do pure (f.offset, ← sizeOf f.type) : Sem (Nat × Nat))).run Try.prog w = .ok #[(0, 1), (1, 1), (2, 1), (3, 1)] w := by
  have h1 := run_size (t := 2) rfl w
  simp [tapeImpl, Array.mapM_eq_mapM_toList, h1]
theorem FV.buildT0 : FV Try.prog n S ρ ⟨dst, .build 33 #[], ty, pos, af, gd⟩ (.agg #[.int .i64 0, .slice none 0 0, .slice none 0 0, .slice none 0 0]) :=
  ⟨fun c hc w _ => by
    have h0 := run_zero (t := 33) rfl w
    simp [execOp, Instr.build, h0, Instr.fill, Value.cells]⟩
theorem FV.buildT2 {x y : Operand} {u v : Value} (hx : ev ρ x = some u) (hy : ev ρ y = some v) (hu : u.cells = #[u]) (hv : v.cells = #[v]) : FV Try.prog n S ρ ⟨dst, .build 33 #[(0, x), (1, y)], ty, pos, af, gd⟩ (.agg #[u, v, .slice none 0 0, .slice none 0 0]) :=
  ⟨fun c hc w _ => by
    have h0 := run_zero (t := 33) rfl w
    simp [execOp, Instr.build, h0, Instr.fill, hc.eval hx, hc.eval hy, hu, hv]
    rfl⟩
theorem FV.buildG {x y : Operand} {u v : Value} (hx : ev ρ x = some u) (hy : ev ρ y = some v) (hu : u.cells = #[u]) (hv : v.cells = #[v]) : FV Try.prog n S ρ ⟨dst, .build 107 #[(0, x), (1, y)], ty, pos, af, gd⟩ (.agg #[u, v]) :=
  ⟨fun c hc w _ => by
    have h0 := run_zero (t := 107) rfl w
    simp [execOp, Instr.build, h0, Instr.fill, hc.eval hx, hc.eval hy, hu, hv]
    rfl⟩
theorem FV.buildI {x y : Operand} {u v : Value} (hx : ev ρ x = some u) (hy : ev ρ y = some v) (hu : u.cells = #[u]) (hv : v.cells = #[v]) : FV Try.prog n S ρ ⟨dst, .build 72 #[(0, x), (3, y)], ty, pos, af, gd⟩ (.agg #[u, .int .i64 0, .int .i64 0, v]) :=
  ⟨fun c hc w _ => by
    have h0 := run_zero (t := 72) rfl w
    simp [execOp, Instr.build, h0, Instr.fill, hc.eval hx, hc.eval hy, hu, hv]
    rfl⟩
theorem Hv.buildIns {w : World} {x : Operand} {y : Ins} (hx : ev ρ x = some (.agg (insV y).toArray)) :
    Hv Try.prog n ρ ⟨dst, .buildSlice 30 1 #[(0, x)], ty, pos, af, gd⟩ w (fun v w' => ∃ g, v = .slice (some ⟨g, 0, none⟩) 1 1 ∧ At w' 72 4 g 1 1 (insV y) ∧ g = w.heap.size ∧ Ext w w') :=
  ⟨fun a ha K' Q' h => by
    have h1 := run_und (P := Try.prog) (t := 30) (d := .slice 72) rfl w
    have h2 := run_size (t := 72) rfl w
    have hrun' : (execOp a.eval ⟨dst, .buildSlice 30 1 #[(0, x)], ty, pos, af, gd⟩).run Try.prog w = .ok (.value (.slice (some ⟨w.heap.size, 0, none⟩) 1 1)) (w.alloc (.cells (insV y).toArray 72)) := by
      simp [execOp, Instr.buildSlice, h1, h2, Instr.fill, newRow, ha.eval hx, Value.cells, insV, Array.range_succ, Array.range_zero']
    unfold Oper.wp
    rw [hrun']
    exact h _ _ ⟨_, rfl, At.fresh w _ (insV y).toArray 4 rfl, rfl, Ext.alloc w _⟩⟩
theorem Hv.buildGds {w : World} {x : Operand} {y : Gd} (hx : ev ρ x = some (.agg (gdV y).toArray)) :
    Hv Try.prog n ρ ⟨dst, .buildSlice 31 1 #[(0, x)], ty, pos, af, gd⟩ w (fun v w' => ∃ g, v = .slice (some ⟨g, 0, none⟩) 1 1 ∧ At w' 107 2 g 1 1 (gdV y) ∧ g = w.heap.size ∧ Ext w w') :=
  ⟨fun a ha K' Q' h => by
    have h1 := run_und (P := Try.prog) (t := 31) (d := .slice 107) rfl w
    have h2 := run_size (t := 107) rfl w
    have hrun' : (execOp a.eval ⟨dst, .buildSlice 31 1 #[(0, x)], ty, pos, af, gd⟩).run Try.prog w = .ok (.value (.slice (some ⟨w.heap.size, 0, none⟩) 1 1)) (w.alloc (.cells (gdV y).toArray 107)) := by
      simp [execOp, Instr.buildSlice, h1, h2, Instr.fill, newRow, ha.eval hx, Value.cells, gdV, Array.range_succ, Array.range_zero']
    unfold Oper.wp
    rw [hrun']
    exact h _ _ ⟨_, rfl, At.fresh w _ (gdV y).toArray 2 rfl, rfl, Ext.alloc w _⟩⟩
end
/-! a result in cells, and one in a slot -/
def postCT (t : Tmp) (sz : Nat) (u : Tmp) (R : Value → World → Prop) : Exit → Env → World → Prop
  | .normal, ρ, w | .ret, ρ, w => ∃ b o cs x, get ρ t = some (.pointer (some ⟨b, o, none⟩)) ∧ cs.length = sz ∧ Lies w b o cs ∧ get ρ u = some x ∧ R (.tuple #[.agg cs.toArray, x]) w
  | _, _, _ => False
theorem CallsR.enterCT {P : Program} [UTab P] {f : FuncId} {fn : Func} {c : Code} {args : List Value} {w : World} {R : Value → World → Prop} {n : Nat} {t u : Tmp} {e : TypeId} {d : TypeDesc} {z : Value} {sz by_ : Nat}
    (hf : P.funcs[f]? = some fn) (hnm : (fn.name == "runtime.NumGoroutine") = false) (hb : fn.body = some c) (hn : fn.ntmps = n) (hle : Nat.ble args.length n = true) (hr : fn.results = #[.cell t e, .tmp u]) (ht : UTab.und P e = some d) (hd : oneDesc d = false) (hi : UTab.inf P e = some (z, sz, by_))
    (h : EW P n c (postCT t sz u R) (envOf 0 args) w) : CallsR P f args w R := by
  refine ⟨calls_of_wp hf hb ?_, ⟨fn, hf, hnm, by rw [hb]; rfl⟩⟩
  have hfit : Fits (envOf 0 args) n { tmps := args.toArray ++ Array.replicate (fn.ntmps - args.toArray.size) undef, defers := [] } := by
    have hle' : args.length ≤ n := by simpa using hle
    refine ⟨rfl, by simp [hn]; omega, fun t v ht => ?_⟩
    obtain ⟨_, h2⟩ := get_envOf args 0 t v ht
    simp only [Nat.sub_zero] at h2
    have hlt : t < args.length := (List.getElem?_eq_some_iff.1 h2).1
    rw [Array.getElem?_append_left (by simpa using hlt)]
    simpa using h2
  have key : ∀ {ρ : Env} {a : Act} {w' : World} {b o : Nat} {cs : List Value} {x : Value}, Fits ρ n a → get ρ t = some (.pointer (some ⟨b, o, none⟩)) → cs.length = sz → Lies w' b o cs → get ρ u = some x → (results fn a.tmps).run P w' = .ok (.tuple #[.agg cs.toArray, x]) w' := by
    intro ρ a w' b o cs x ha hg hl hc hx
    have hget : a.tmps.getD t undef = .pointer (some ⟨b, o, none⟩) := by simp [ha.val t _ hg]
    have hgu : a.tmps.getD u undef = x := by simp [ha.val u _ hx]
    have e1 := (run_inf hi w').1
    have e2 := run_loadCells_list (P := P) w' ⟨b, o, none⟩ cs fun j v hj => by rw [addr_add]; exact hc j v hj
    rw [hl] at e2
    simp at hget hgu
    simp [results, hr, hget, hgu, asAddr, loadVar, run_isAgg_many ht hd, e1, e2]
  refine wp_mono (h.out _ hfit) fun ex a' w' ⟨ρ', hf', hq⟩ => ?_
  cases ex with
  | normal => obtain ⟨b, o, cs, x, hg, hl, hc, hx, hR⟩ := hq; exact ⟨hf'.defers, _, key hf' hg hl hc hx, hR⟩
  | ret => obtain ⟨b, o, cs, x, hg, hl, hc, hx, hR⟩ := hq; exact ⟨hf'.defers, _, key hf' hg hl hc hx, hR⟩
  | exit id => exact hq.elim
  | goto l => exact hq.elim
  | panic ch => exact hq.elim
  | outgrown => exact hq.elim
/-! a tape handed back -/
def TapOut (w : World) (r : Tp × Int) (v : Value) (w' : World) : Prop := ∃ tv, v = .tuple #[tv, .int .i64 r.2] ∧ OwnT w.heap.size w' tv r.1 ∧ Ext w w'
theorem OwnT.cells {B : Nat} {w : World} {v : Value} {t : Tp} (h : OwnT B w v t) : ∃ a b c, v = .agg #[.int .i64 t.inputs, a, b, c] := by
  obtain ⟨s1, s2, s3, rfl, _⟩ := h
  exact ⟨_, _, _, rfl⟩
theorem OwnT.ones {B : Nat} {w : World} {v : Value} {t : Tp} (h : OwnT B w v t) (a b c : Value) (e : v = .agg #[.int .i64 t.inputs, a, b, c]) : a.oneCell' = true ∧ b.oneCell' = true ∧ c.oneCell' = true := by
  obtain ⟨s1, s2, s3, rfl, h1, h2, h3⟩ := h
  simp at e
  obtain ⟨rfl, rfl, rfl⟩ := e
  obtain ⟨A, d, rfl, _⟩ := own_form h1
  obtain ⟨A', d', rfl, _⟩ := own_form h2
  obtain ⟨A'', d'', rfl, _⟩ := own_form h3
  exact ⟨rfl, rfl, rfl⟩
theorem OwnT.far {B g : Nat} {w w' : World} {v : Value} {t : Tp} (h : OwnT B w v t) (hg : w.grownBy w' (some g)) (hne : ∀ k, some k ∈ blocksT v → k ≠ g) : OwnT B w' v t := by
  obtain ⟨s1, s2, s3, rfl, h1, h2, h3⟩ := h
  have key : ∀ x, x ∈ [s1.ownBlock, s2.ownBlock, s3.ownBlock] → x = none ∨ x ≠ some g := fun x hx => by
    cases x with
    | none => exact .inl rfl
    | some k => exact .inr fun e => hne k (by simpa [blocksT] using hx) (by simpa using e)
  exact ⟨_, _, _, rfl, own_far h1 hg (key _ (by simp)), own_far h2 hg (key _ (by simp)), own_far h3 hg (key _ (by simp))⟩
end Eng
end Go.Proofs.Ytgahkbcfjibjaaa
