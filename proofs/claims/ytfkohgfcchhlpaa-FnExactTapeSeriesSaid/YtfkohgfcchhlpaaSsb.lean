/- TapeSeries: the contracts of both sides. Conditions: the lengths. -/
import Derived.Test.YtfkohgfcchhlpaaSsa
namespace Go.Proofs.Ytfkohgfcchhlpaa
open Go Go.RowKit
namespace Eng
section
variable {P : Program} [UTab P] {n : Nat} {ρ : Env} {dst : Option Tmp} {ty : TypeId} {pos : String} {af : Array Edge} {gd : Option (Nat × Bool)}
theorem Hv.build0E {w : World} {t e : TypeId} {z : Value} {size by_ : Nat} (ht : UTab.und P t = some (.slice e)) (hi : UTab.inf P e = some (z, size, by_)) :
    Hv P n ρ ⟨dst, .buildSlice t 0 #[], ty, pos, af, gd⟩ w (fun v w' => ∃ g, v = .slice (some ⟨g, 0, none⟩) 0 0 ∧ g = w.heap.size ∧ w'.heap[g]? = some (.cells #[] e (0, 0)) ∧ w'.ownsRow w.heap.size e size v 0 [] ∧ Ext w w') :=
  ⟨fun a ha K' Q' h => by
    obtain ⟨hs, _⟩ := run_inf hi w
    have hrun' : (execOp a.eval ⟨dst, .buildSlice t 0 #[], ty, pos, af, gd⟩).run P w = .ok (.value (.slice (some ⟨w.heap.size, 0, none⟩) 0 0)) (w.alloc (.cells #[] e)) := by
      simp [execOp, Instr.buildSlice, run_und ht, hs, Instr.fill, newRow, Array.range_zero']
    unfold Oper.wp
    rw [hrun']
    refine h _ _ ⟨_, rfl, rfl, heap_alloc_new w _, ⟨by simp, .inr ⟨w.heap.size, 0, #[], rfl, Nat.le_refl _, heap_alloc_new w _, Nat.le_refl _, Nat.zero_le _, by simp, by simp⟩⟩, Ext.alloc w _⟩⟩
end
section
variable {P : Program} [UTab P] {n : Nat} {S : World → Prop} {ρ : Env} {dst : Option Tmp} {ty : TypeId} {pos : String} {af : Array Edge} {gd : Option (Nat × Bool)}
theorem run_slice_nil {t e : TypeId} (ht : UTab.und P t = some (.slice e)) (A : Addr) (l c : Nat) (w : World) : (Op.equal t (.slice (some A) l c) (.slice none 0 0)).run P w = .ok false w := by
  have h : ∀ d : Nat, (Op.equalIn (d + 1) t (.slice (some A) l c) (.slice none 0 0)).run P w = .ok false w := fun d => by
    simp [Op.equalIn, run_und ht]
  exact h 9999
theorem FV.eqlNil {x y : Operand} {t u e : TypeId} {A : Addr} {l c : Nat} (ht : UTab.und P t = some (.slice e)) (hx : ev ρ x = some (.slice (some A) l c)) (hy : ev ρ y = some (.slice none 0 0)) : FV P n S ρ ⟨dst, .binOp .eql t x y u, ty, pos, af, gd⟩ (.bool false) :=
  ⟨fun a ha w _ => by
    have h := run_slice_nil ht A l c w
    simp [execOp, ha.eval hx, ha.eval hy, eqGuard, binOp, h]⟩
end
theorem implClone (b o c : Nat) (xs : List Int) (w : World) (hx : Rd w (some ⟨b, o, none⟩) (ints xs)) (h0 : 0 < xs.length) (hn : xs.length ≤ 1000) :
    CallsR Try.prog 110 [.slice (some ⟨b, o, none⟩) xs.length c] w fun v w' => OwnI w.heap.size w' v xs ∧ Ext w w' := by
  refine CallsR.enter Try.func110 (by decide +kernel) rfl Try.ntmps110 rfl ?_
  repeat' (first
    | refine EL.f (FV.eqlNil rfl rfl rfl) rfl rfl ?_
    | refine EL.f (FV.move rfl) rfl rfl ?_
    | refine EL.f (FV.assign rfl) rfl rfl ?_
    | refine EL.nil ?_
    | refine EW.seq ?_
    | refine EW.region ?_
    | refine EW.skip ?_
    | refine EW.condF rfl ?_)
  refine EL.h (Hv.build0 rfl rfl) rfl (fun _ => rfl) ?_
  rintro v1 w1 ⟨hown, he⟩
  repeat' (first
    | refine EL.f (FV.move rfl) rfl rfl ?_)
  obtain ⟨b2, o2, hA, hc⟩ := (hx.ext he).all (by rw [ints_length]; exact h0)
  injection hA with hA
  injection hA with hA1 hA2 _
  subst hA1 hA2
  refine EL.h (Hv.appendL (B := w.heap.size) (us := ints xs) rfl rfl rfl rfl rfl hown (ints_length _) hc (ints_one_cell xs) (by omega) (by omega) he.size) rfl (fun _ => rfl) ?_
  rintro v2 w2 ⟨hown2, _, hbel⟩
  repeat' (first
    | refine EL.f (FV.assign rfl) rfl rfl ?_
    | refine EL.nil ?_
    | refine EW.ret ?_)
  refine ⟨_, rfl, ?_, Below.trans he hbel⟩
  rw [Nat.zero_add, List.nil_append] at hown2
  exact hown2
theorem EP.fT {P : Program} {n : Nat} {ops : Array Oper} {S : World → Prop} {Q : Env → World → Prop} {rest : List (Nat × Bool)} {i : Nat} {o : Oper} {ρ : Env} {ρ' : Value → Env} {w : World} {p : Prop} [Decidable p] (ho : ops[i]? = some o) (hv : FV P n S ρ o (.bool (decide p))) (hg : wantE ops ρ o = some true) (hd : ∀ v, putE n o.dst v ρ = some (ρ' v)) (hp : p) (k : EP P n ops S Q rest (ρ' (.bool true)) w) : EP P n ops S Q ((i, true) :: rest) ρ w :=
  EP.f ho (by rwa [decide_eq_true hp] at hv) hg (hd _) k
theorem EP.fF {P : Program} {n : Nat} {ops : Array Oper} {S : World → Prop} {Q : Env → World → Prop} {rest : List (Nat × Bool)} {i : Nat} {o : Oper} {ρ : Env} {ρ' : Value → Env} {w : World} {p : Prop} [Decidable p] (ho : ops[i]? = some o) (hv : FV P n S ρ o (.bool (decide p))) (hg : wantE ops ρ o = some true) (hd : ∀ v, putE n o.dst v ρ = some (ρ' v)) (hp : ¬ p) (k : EP P n ops S Q rest (ρ' (.bool false)) w) : EP P n ops S Q ((i, true) :: rest) ρ w :=
  EP.f ho (by rwa [decide_eq_false hp] at hv) hg (hd _) k
theorem vld_parts {xs : List Int} (h : vld xs = true) : 1 ≤ xs.length ∧ xs.length ≤ 13 ∧ nums xs = true := by
  rw [vld, Bool.and_eq_true, inB_iff] at h
  exact ⟨by omega, by omega, h.2⟩
def sameAt (xss : List (List Int)) (i : Nat) : Bool := vld (xss.getD i []) && decide ((xss.getD i []).length = (xss.getD 0 []).length)
def argsOk (xss : List (List Int)) (n : Int) : Bool := (List.range xss.length).all (sameAt xss) && decide ((xss.length : Int) = n)
theorem argsOk_at {xss : List (List Int)} {n : Int} {i : Nat} (hi : i < xss.length) (h : sameAt xss i = false) : argsOk xss n = false := by
  have : (List.range xss.length).all (sameAt xss) = false := by
    rw [List.all_eq_false]
    exact ⟨i, List.mem_range.2 hi, by rw [h]; simp⟩
  rw [argsOk, this, Bool.false_and]
theorem argsOk_len {xss : List (List Int)} {n : Int} (h : ¬ (xss.length : Int) = n) : argsOk xss n = false := by rw [argsOk, decide_eq_false h, Bool.and_false]
theorem argsOk_all {xss : List (List Int)} {n : Int} (h : ∀ i, i < xss.length → sameAt xss i = true) : argsOk xss n = decide ((xss.length : Int) = n) := by
  have : (List.range xss.length).all (sameAt xss) = true := by
    rw [List.all_eq_true]
    intro i hi
    exact h i (List.mem_range.1 hi)
  rw [argsOk, this, Bool.true_and]
theorem argsOk_iff {xss : List (List Int)} {n : Int} (h : argsOk xss n = true) : (xss.length : Int) = n ∧ ∀ i, i < xss.length → vld (xss.getD i []) = true ∧ (xss.getD i []).length = (xss.getD 0 []).length := by
  rw [argsOk, Bool.and_eq_true, decide_eq_true_eq, List.all_eq_true] at h
  refine ⟨h.2, fun i hi => ?_⟩
  have := h.1 i (List.mem_range.2 hi)
  rw [sameAt, Bool.and_eq_true, decide_eq_true_eq] at this
  exact this
theorem sameAt_vld {xss : List (List Int)} {i : Nat} (h : vld (xss.getD i []) = false) : sameAt xss i = false := by rw [sameAt, h, Bool.false_and]
theorem sameAt_len {xss : List (List Int)} {i : Nat} (h : ¬ (xss.getD i []).length = (xss.getD 0 []).length) : sameAt xss i = false := by rw [sameAt, decide_eq_false h, Bool.and_false]
theorem sameAt_true {xss : List (List Int)} {i : Nat} (h : vld (xss.getD i []) = true) (h2 : (xss.getD i []).length = (xss.getD 0 []).length) : sameAt xss i = true := by rw [sameAt, h, decide_eq_true h2]; rfl
/-- The order of series, 0 if there are none. -/
def ordS (xss : List (List Int)) : Nat := (xss.getD 0 []).length - 1
theorem argsOk_good {xss : List (List Int)} {n : Int} (h : argsOk xss n = true) : Good (ordS xss + 1) xss ∧ ordS xss ≤ 12 := by
  have ha := (argsOk_iff h).2
  by_cases h0 : 0 < xss.length
  · have hv := vld_parts (ha 0 h0).1
    refine ⟨fun i hi => ?_, by unfold ordS; omega⟩
    have h1 := ha i hi
    exact ⟨by unfold ordS; omega, (vld_parts h1.1).2.2⟩
  · refine ⟨fun i hi => by omega, ?_⟩
    obtain rfl : xss = [] := List.eq_nil_of_length_eq_zero (by omega)
    simp [ordS]
def fTapeSeries (t : Tp) (xss : List (List Int)) : List (List Int) × Int :=
  if okT t = true then (if argsOk xss t.inputs = true then (match regS t xss (ordS xss + 1) t.code.length with | none => ([], 6) | some out => (pickR out t.outs, 0)) else ([], 2)) else ([], 1)
theorem fTapeSeries_bad {t : Tp} {xss : List (List Int)} (h : okT t = false) : fTapeSeries t xss = ([], 1) := by rw [fTapeSeries, if_neg (by rw [h]; decide)]
theorem fTapeSeries_args {t : Tp} {xss : List (List Int)} (h : okT t = true) (h2 : argsOk xss t.inputs = false) : fTapeSeries t xss = ([], 2) := by rw [fTapeSeries, if_pos h, if_neg (by rw [h2]; decide)]
theorem fTapeSeries_none {t : Tp} {xss : List (List Int)} (h : okT t = true) (h2 : argsOk xss t.inputs = true) (e : regS t xss (ordS xss + 1) t.code.length = none) : fTapeSeries t xss = ([], 6) := by rw [fTapeSeries, if_pos h, if_pos h2, e]
theorem fTapeSeries_some {t : Tp} {xss out : List (List Int)} (h : okT t = true) (h2 : argsOk xss t.inputs = true) (e : regS t xss (ordS xss + 1) t.code.length = some out) : fTapeSeries t xss = (pickR out t.outs, 0) := by rw [fTapeSeries, if_pos h, if_pos h2, e]
theorem pickR_length (out : List (List Int)) (ks : List Int) : (pickR out ks).length = ks.length := by unfold pickR; rw [rowsOf_length]
theorem pickR_get {out : List (List Int)} {ks : List Int} {i : Nat} (h : i < ks.length) : (pickR out ks).getD i [] = out.getD (ks.getD i 0).toNat [] := by unfold pickR; rw [rowsOf_get _ _ _ h]
theorem tot_bound {xss : List (List Int)} {m : Nat} (h : ∀ i, i < xss.length → (xss.getD i []).length ≤ m) : tot xss ≤ xss.length * m := by
  induction xss with
  | nil => simp [tot]
  | cons x xs ih =>
    have h0 : x.length ≤ m := h 0 (by simp)
    have h1 := ih fun i hi => h (i + 1) (by simpa using hi)
    simp only [tot, List.length_cons, Nat.add_mul, Nat.one_mul]
    omega
theorem fTapeSeries_len (t : Tp) (xss : List (List Int)) : (fTapeSeries t xss).1.length ≤ 1048576 ∧ tot (fTapeSeries t xss).1 ≤ 1048576 := by
  cases ok : okT t
  · rw [fTapeSeries_bad ok]; simp [tot]
  cases ha : argsOk xss t.inputs
  · rw [fTapeSeries_args ok ha]; simp [tot]
  cases e : regS t xss (ordS xss + 1) t.code.length with
  | none => rw [fTapeSeries_none ok ha e]; simp [tot]
  | some out =>
    rw [fTapeSeries_some ok ha e]
    have hou := (okT_iff.1 ok).2.2.2
    obtain ⟨hg, ho⟩ := argsOk_good ha
    obtain ⟨hol, hgo⟩ := regS_good ok (argsOk_iff ha).1 hg (Nat.le_refl _) e
    have hl := pickR_length out t.outs
    refine ⟨by dsimp only; omega, ?_⟩
    have hb := tot_bound (xss := pickR out t.outs) (m := 13) fun i hi => by
      rw [pickR_length] at hi
      have hk := hou.2.2.2 i hi
      rw [pickR_get hi, (hgo _ (by omega)).1]
      omega
    rw [hl] at hb
    dsimp only
    omega
def RowsOut (w : World) (r : List (List Int) × Int) (v : Value) (w' : World) : Prop := ∃ s vs, v = .tuple #[s, .int .i64 r.2] ∧ OutW w.heap.size w' s vs r.1 ∧ Ext w w'
theorem RowsOut.nil {w w' : World} {c : Int} (he : Ext w w') : RowsOut w ([], c) (.tuple #[.slice none 0 0, .int .i64 c]) w' := ⟨_, _, rfl, OutW.none _ _, he⟩
theorem OutW.empty {B : Nat} {w : World} {s : Value} (h : w.ownsRow B 24 1 s 0 []) : OutW B w s [] [] := ⟨h, rfl, fun i hi => by simp at hi, fun i j hi => by simp at hi⟩
/-! the arguments' form -/
theorem implAreArgs (xss : List (List Int)) (A : Option Addr) (c : Nat) (n : Int) (w : World) (h : Rows w A xss) (hn : xss.length ≤ 1048576) (ht : tot xss ≤ 1048576) :
    CallsR Try.prog 108 [.slice A xss.length c, .int .i64 n] w fun v w' => v = .bool (argsOk xss n) ∧ Ext w w' := by
  refine CallsR.enter Try.func108 (by decide +kernel) rfl Try.ntmps108 rfl ?_
  repeat' (first
    | refine EL.f (FV.move rfl) rfl rfl ?_
    | refine EL.f (FV.assign rfl) rfl rfl ?_
    | refine EL.f (FV.len rfl rfl) rfl rfl ?_
    | refine EL.nil ?_
    | refine EW.seq ?_
    | refine EW.region ?_
    | refine EW.block ?_)
  refine EW.loop (X := Nat) (fun i wr => i ≤ xss.length ∧ (∀ j, j < i → sameAt xss j = true) ∧ Ext w wr) (fun i => [(0, .slice A xss.length c), (1, .int .i64 n), (7, .slice A xss.length c), (8, .int .i64 xss.length), (9, .int .i64 i)]) (fun i => xss.length - i) 0 ⟨Nat.zero_le _, fun j hj => by omega, Ext.refl _⟩ ⟨rfl, rfl, rfl, rfl, rfl, trivial⟩ ?_
  rintro i wr ⟨hi, hall, hE⟩
  by_cases hlt : i < xss.length
  rotate_left
  · obtain rfl : i = xss.length := by omega
    rw [argsOk_all hall]
    by_cases hq : (xss.length : Int) = n
    · rw [decide_eq_true hq]
      repeat' (first
        | (show EL _ _ _ _ (_ :: _) _ _
           first
           | (show EL _ _ _ _ (⟨_, .move _, _, _, _, _⟩ :: _) _ _; refine EL.f (FV.move rfl) rfl rfl ?_)
           | (show EL _ _ _ _ (⟨_, .assign _, _, _, _, _⟩ :: _) _ _; refine EL.f (FV.assign rfl) rfl rfl ?_)
           | (show EL _ _ _ _ (⟨_, .call _, _, _, _, _⟩ :: _) _ _; refine EL.f (FV.len rfl rfl) rfl rfl ?_)
           | (show EL _ _ _ _ (⟨_, .binOp .eql _ _ _ _, _, _, _, _⟩ :: _) _ _; refine EL.fT (FV.eql rfl rfl) rfl (fun _ => rfl) (by omega) ?_)
           | (show EL _ _ _ _ (⟨_, .binOp .lss _ _ _ _, _, _, _, _⟩ :: _) _ _; refine EL.fF (FV.lss rfl rfl) rfl (fun _ => rfl) (by omega) ?_))
        | refine EL.nil ?_
        | refine EW.seq ?_
        | refine EW.region ?_
        | refine EW.exit ?_
        | refine EW.ret ?_
        | refine EW.condF rfl ?_)
      exact ⟨_, rfl, rfl, hE⟩
    · rw [decide_eq_false hq]
      repeat' (first
        | (show EL _ _ _ _ (_ :: _) _ _
           first
           | (show EL _ _ _ _ (⟨_, .move _, _, _, _, _⟩ :: _) _ _; refine EL.f (FV.move rfl) rfl rfl ?_)
           | (show EL _ _ _ _ (⟨_, .assign _, _, _, _, _⟩ :: _) _ _; refine EL.f (FV.assign rfl) rfl rfl ?_)
           | (show EL _ _ _ _ (⟨_, .call _, _, _, _, _⟩ :: _) _ _; refine EL.f (FV.len rfl rfl) rfl rfl ?_)
           | (show EL _ _ _ _ (⟨_, .binOp .lss _ _ _ _, _, _, _, _⟩ :: _) _ _; refine EL.fF (FV.lss rfl rfl) rfl (fun _ => rfl) (by omega) ?_)
           | (show EL _ _ _ _ (⟨_, .binOp .eql _ _ _ _, _, _, _, _⟩ :: _) _ _; refine EL.fF (FV.eql rfl rfl) rfl (fun _ => rfl) (by omega) ?_))
        | refine EL.nil ?_
        | refine EW.seq ?_
        | refine EW.region ?_
        | refine EW.exit ?_
        | refine EW.ret ?_
        | refine EW.condF rfl ?_)
      exact ⟨_, rfl, rfl, hE⟩
  obtain ⟨b, o, rfl, hal⟩ := h.all (by omega)
  obtain ⟨B1, c1, hc1, hr1⟩ := hal i hlt
  obtain ⟨B0, c0, hc0, hr0⟩ := hal 0 (by omega)
  have q1 := hE.cell hc1
  have q0 := hE.cell hc0
  have t1 := tot_row hlt
  have t0 := tot_row (xs := xss) (i := 0) (by omega)
  have hv := implValid B1 c1 (xss.getD i []) wr (hr1.ext hE) (by omega)
  cases hq : vld (xss.getD i [])
  · rw [hq] at hv
    repeat' (first
      | (show EL _ _ _ _ (_ :: _) _ _
         first
         | (show EL _ _ _ _ (⟨_, _, _, _, _, some _⟩ :: _) _ _; refine EL.skip rfl rfl ?_)
         | (show EL _ _ _ _ (⟨_, .call _, _, _, _, _⟩ :: _) _ _; (refine EL.h (Hv.call hv rfl) rfl (fun _ => rfl) ?_; rintro _ _ ⟨rfl, rfl⟩))
         | (show EL _ _ _ _ (⟨_, .load _ _, _, _, _, _⟩ :: _) _ _; refine EL.f (FV.load1 rfl rfl rfl (q1)) rfl rfl ?_)
         | (show EL _ _ _ _ (⟨_, .move _, _, _, _, _⟩ :: _) _ _; refine EL.f (FV.move rfl) rfl rfl ?_)
         | (show EL _ _ _ _ (⟨_, .assign _, _, _, _, _⟩ :: _) _ _; refine EL.f (FV.assign rfl) rfl rfl ?_)
         | (show EL _ _ _ _ (⟨_, .unOp .not _ _, _, _, _, _⟩ :: _) _ _; refine EL.f (FV.not rfl) rfl rfl ?_)
         | (show EL _ _ _ _ (⟨_, .pick _ _ _, _, _, _, _⟩ :: _) _ _; refine EL.f (FV.pickT rfl rfl) rfl rfl ?_)
         | (show EL _ _ _ _ (⟨_, .binOp .lss _ _ _ _, _, _, _, _⟩ :: _) _ _; refine EL.fT (FV.lss rfl rfl) rfl (fun _ => rfl) (by omega) ?_)
         | (show EL _ _ _ _ (⟨_, .indexAddr _ _ _, _, _, _, _⟩ :: _) _ _; refine EL.f (FV.idx1 rfl rfl rfl rfl (by omega) (by omega)) rfl rfl ?_))
      | refine EL.nil ?_
      | refine EW.seq ?_
      | refine EW.region ?_
      | refine EW.block ?_
      | refine EW.skip ?_
      | refine EW.ret ?_
      | refine EW.condT rfl ?_)
    exact ⟨_, rfl, by rw [argsOk_at hlt (sameAt_vld hq)], hE⟩
  rw [hq] at hv
  by_cases hl : (xss.getD i []).length = (xss.getD 0 []).length
  rotate_left
  · repeat' (first
      | (show EL _ _ _ _ (_ :: _) _ _
         first
         | (show EL _ _ _ _ (⟨_, .call _, _, _, _, _⟩ :: _) _ _; first | (refine EL.h (Hv.call hv rfl) rfl (fun _ => rfl) ?_; rintro _ _ ⟨rfl, rfl⟩) | refine EL.f (FV.len rfl rfl) rfl rfl ?_)
         | (show EL _ _ _ _ (⟨_, .load _ _, _, _, _, _⟩ :: _) _ _; first | refine EL.f (FV.load1 rfl rfl rfl (q1)) rfl rfl ?_ | refine EL.f (FV.load1 rfl rfl rfl (q0)) rfl rfl ?_)
         | (show EL _ _ _ _ (⟨_, .move _, _, _, _, _⟩ :: _) _ _; refine EL.f (FV.move rfl) rfl rfl ?_)
         | (show EL _ _ _ _ (⟨_, .assign _, _, _, _, _⟩ :: _) _ _; refine EL.f (FV.assign rfl) rfl rfl ?_)
         | (show EL _ _ _ _ (⟨_, .unOp .not _ _, _, _, _, _⟩ :: _) _ _; refine EL.f (FV.not rfl) rfl rfl ?_)
         | (show EL _ _ _ _ (⟨_, .pick _ _ _, _, _, _, _⟩ :: _) _ _; refine EL.f (FV.pickF rfl rfl) rfl rfl ?_)
         | (show EL _ _ _ _ (⟨_, .binOp .lss _ _ _ _, _, _, _, _⟩ :: _) _ _; refine EL.fT (FV.lss rfl rfl) rfl (fun _ => rfl) (by omega) ?_)
         | (show EL _ _ _ _ (⟨_, .binOp .neq _ _ _ _, _, _, _, _⟩ :: _) _ _; refine EL.fT (FV.neq rfl rfl) rfl (fun _ => rfl) (by omega) ?_)
         | (show EL _ _ _ _ (⟨_, .indexAddr _ _ _, _, _, _, _⟩ :: _) _ _; refine EL.f (FV.idx1 rfl rfl rfl rfl (by omega) (by omega)) rfl rfl ?_))
      | refine EL.nil ?_
      | refine EW.seq ?_
      | refine EW.region ?_
      | refine EW.block ?_
      | refine EW.skip ?_
      | refine EW.ret ?_
      | refine EW.condT rfl ?_)
    exact ⟨_, rfl, by rw [argsOk_at hlt (sameAt_len hl)], hE⟩
  repeat' (first
    | (show EL _ _ _ _ (_ :: _) _ _
       first
       | (show EL _ _ _ _ (⟨_, .call _, _, _, _, _⟩ :: _) _ _; first | (refine EL.h (Hv.call hv rfl) rfl (fun _ => rfl) ?_; rintro _ _ ⟨rfl, rfl⟩) | refine EL.f (FV.len rfl rfl) rfl rfl ?_)
       | (show EL _ _ _ _ (⟨_, .load _ _, _, _, _, _⟩ :: _) _ _; first | refine EL.f (FV.load1 rfl rfl rfl (q1)) rfl rfl ?_ | refine EL.f (FV.load1 rfl rfl rfl (q0)) rfl rfl ?_)
       | (show EL _ _ _ _ (⟨_, .move _, _, _, _, _⟩ :: _) _ _; refine EL.f (FV.move rfl) rfl rfl ?_)
       | (show EL _ _ _ _ (⟨_, .assign _, _, _, _, _⟩ :: _) _ _; refine EL.f (FV.assign rfl) rfl rfl ?_)
       | (show EL _ _ _ _ (⟨_, .binOp .add _ _ _ _, _, _, _, _⟩ :: _) _ _; refine EL.f (FV.addI rfl rfl (by omega)) rfl rfl ?_)
       | (show EL _ _ _ _ (⟨_, .unOp .not _ _, _, _, _, _⟩ :: _) _ _; refine EL.f (FV.not rfl) rfl rfl ?_)
       | (show EL _ _ _ _ (⟨_, .pick _ _ _, _, _, _, _⟩ :: _) _ _; refine EL.f (FV.pickF rfl rfl) rfl rfl ?_)
       | (show EL _ _ _ _ (⟨_, .binOp .lss _ _ _ _, _, _, _, _⟩ :: _) _ _; refine EL.fT (FV.lss rfl rfl) rfl (fun _ => rfl) (by omega) ?_)
       | (show EL _ _ _ _ (⟨_, .binOp .neq _ _ _ _, _, _, _, _⟩ :: _) _ _; refine EL.fF (FV.neq rfl rfl) rfl (fun _ => rfl) (by omega) ?_)
       | (show EL _ _ _ _ (⟨_, .indexAddr _ _ _, _, _, _, _⟩ :: _) _ _; refine EL.f (FV.idx1 rfl rfl rfl rfl (by omega) (by omega)) rfl rfl ?_))
    | refine EL.nil ?_
    | refine EW.seq ?_
    | refine EW.region ?_
    | refine EW.block ?_
    | refine EW.skip ?_
    | refine EW.condT rfl ?_
    | refine EW.condF rfl ?_)
  exact ⟨i + 1, ⟨rfl, rfl, rfl, rfl, rfl, trivial⟩, ⟨by omega, fun j hj => by
    by_cases e : j = i
    · subst e; exact sameAt_true hq hl
    · exact hall j (by omega), hE⟩, by omega⟩
theorem implOrder (xss : List (List Int)) (A : Option Addr) (c : Nat) (n : Int) (w : World) (h : Rows w A xss) (ha : argsOk xss n = true) :
    CallsR Try.prog 109 [.slice A xss.length c] w fun v w' => v = .int .i64 (ordS xss : Nat) ∧ w = w' := by
  refine CallsR.enter Try.func109 (by decide +kernel) rfl Try.ntmps109 rfl ?_
  have hg := argsOk_iff ha
  by_cases h0 : xss.length = 0
  · obtain rfl : xss = [] := List.eq_nil_of_length_eq_zero h0
    repeat' (first
      | (show EL _ _ _ _ (_ :: _) _ _
         first
         | (show EL _ _ _ _ (⟨_, .move _, _, _, _, _⟩ :: _) _ _; refine EL.f (FV.move rfl) rfl rfl ?_)
         | (show EL _ _ _ _ (⟨_, .assign _, _, _, _, _⟩ :: _) _ _; refine EL.f (FV.assign rfl) rfl rfl ?_)
         | (show EL _ _ _ _ (⟨_, .call _, _, _, _, _⟩ :: _) _ _; refine EL.f (FV.len rfl rfl) rfl rfl ?_)
         | (show EL _ _ _ _ (⟨_, .binOp .eql _ _ _ _, _, _, _, _⟩ :: _) _ _; refine EL.fT (FV.eql rfl rfl) rfl (fun _ => rfl) (by omega) ?_))
      | refine EL.nil ?_
      | refine EW.seq ?_
      | refine EW.region ?_
      | refine EW.ret ?_
      | refine EW.condT rfl ?_)
    exact ⟨_, rfl, rfl, rfl⟩
  obtain ⟨b, o, rfl, hal⟩ := h.all (by omega)
  obtain ⟨B0, c0, hc0, hr0⟩ := hal 0 (by omega)
  have hv := vld_parts (hg.2 0 (by omega)).1
  repeat' (first
    | (show EL _ _ _ _ (_ :: _) _ _
       first
       | (show EL _ _ _ _ (⟨_, .load _ _, _, _, _, _⟩ :: _) _ _; refine EL.f (FV.load1 rfl rfl rfl (hc0)) rfl rfl ?_)
       | (show EL _ _ _ _ (⟨_, .move _, _, _, _, _⟩ :: _) _ _; refine EL.f (FV.move rfl) rfl rfl ?_)
       | (show EL _ _ _ _ (⟨_, .assign _, _, _, _, _⟩ :: _) _ _; refine EL.f (FV.assign rfl) rfl rfl ?_)
       | (show EL _ _ _ _ (⟨_, .binOp .sub _ _ _ _, _, _, _, _⟩ :: _) _ _; refine EL.f (FV.subI rfl rfl (by omega)) rfl rfl ?_)
       | (show EL _ _ _ _ (⟨_, .call _, _, _, _, _⟩ :: _) _ _; refine EL.f (FV.len rfl rfl) rfl rfl ?_)
       | (show EL _ _ _ _ (⟨_, .binOp .eql _ _ _ _, _, _, _, _⟩ :: _) _ _; refine EL.fF (FV.eql rfl rfl) rfl (fun _ => rfl) (by omega) ?_)
       | (show EL _ _ _ _ (⟨_, .indexAddr _ _ _, _, _, _, _⟩ :: _) _ _; refine EL.f (FV.idx1 rfl rfl rfl rfl (by omega) (by omega)) rfl rfl ?_))
    | refine EL.nil ?_
    | refine EW.seq ?_
    | refine EW.region ?_
    | refine EW.skip ?_
    | refine EW.ret ?_
    | refine EW.condF rfl ?_)
  exact ⟨_, rfl, by unfold ordS; congr 1; omega, rfl⟩
theorem specSize (xss : List (List Int)) (A : Option Addr) (c : Nat) (n : Int) (w : World) (h : Rows w A xss) (ha : argsOk xss n = true) :
    CallsR Try.prog 106 [.slice A xss.length c] w fun v w' => v = .int .i64 ((ordS xss + 1 : Nat) : Int) ∧ w = w' := by
  refine CallsR.enter Try.func106 (by decide +kernel) rfl Try.ntmps106 rfl ?_
  have hg := argsOk_iff ha
  by_cases h0 : xss.length = 0
  · obtain rfl : xss = [] := List.eq_nil_of_length_eq_zero h0
    repeat' (first
      | (show EL _ _ _ _ (_ :: _) _ _
         first
         | (show EL _ _ _ _ (⟨_, .move _, _, _, _, _⟩ :: _) _ _; refine EL.f (FV.move rfl) rfl rfl ?_)
         | (show EL _ _ _ _ (⟨_, .assign _, _, _, _, _⟩ :: _) _ _; refine EL.f (FV.assign rfl) rfl rfl ?_)
         | (show EL _ _ _ _ (⟨_, .call _, _, _, _, _⟩ :: _) _ _; refine EL.f (FV.len rfl rfl) rfl rfl ?_)
         | (show EL _ _ _ _ (⟨_, .binOp .eql _ _ _ _, _, _, _, _⟩ :: _) _ _; refine EL.fT (FV.eql rfl rfl) rfl (fun _ => rfl) (by omega) ?_))
      | refine EL.nil ?_
      | refine EW.seq ?_
      | refine EW.region ?_
      | refine EW.ret ?_
      | refine EW.condT rfl ?_)
    exact ⟨_, rfl, rfl, rfl⟩
  obtain ⟨b, o, rfl, hal⟩ := h.all (by omega)
  obtain ⟨B0, c0, hc0, hr0⟩ := hal 0 (by omega)
  have hv := vld_parts (hg.2 0 (by omega)).1
  repeat' (first
    | (show EL _ _ _ _ (_ :: _) _ _
       first
       | (show EL _ _ _ _ (⟨_, .load _ _, _, _, _, _⟩ :: _) _ _; refine EL.f (FV.load1 rfl rfl rfl (hc0)) rfl rfl ?_)
       | (show EL _ _ _ _ (⟨_, .move _, _, _, _, _⟩ :: _) _ _; refine EL.f (FV.move rfl) rfl rfl ?_)
       | (show EL _ _ _ _ (⟨_, .assign _, _, _, _, _⟩ :: _) _ _; refine EL.f (FV.assign rfl) rfl rfl ?_)
       | (show EL _ _ _ _ (⟨_, .call _, _, _, _, _⟩ :: _) _ _; refine EL.f (FV.len rfl rfl) rfl rfl ?_)
       | (show EL _ _ _ _ (⟨_, .binOp .eql _ _ _ _, _, _, _, _⟩ :: _) _ _; refine EL.fF (FV.eql rfl rfl) rfl (fun _ => rfl) (by omega) ?_)
       | (show EL _ _ _ _ (⟨_, .indexAddr _ _ _, _, _, _, _⟩ :: _) _ _; refine EL.f (FV.idx1 rfl rfl rfl rfl (by omega) (by omega)) rfl rfl ?_))
    | refine EL.nil ?_
    | refine EW.seq ?_
    | refine EW.region ?_
    | refine EW.skip ?_
    | refine EW.ret ?_
    | refine EW.condF rfl ?_)
  exact ⟨_, rfl, by unfold ordS; congr 1; omega, rfl⟩
theorem pick_next {out : List (List Int)} {ks : List Int} {k : Nat} (h : k < ks.length) : (pickR out ks).take (k + 1) = (pickR out ks).take k ++ [out.getD (ks.getD k 0).toNat []] := by
  rw [take_nextR (by rw [pickR_length]; exact h), pickR_get h]
set_option maxHeartbeats 16000000 in
theorem implTapeSeriesT (v : Value) (t : Tp) (A : Option Addr) (c : Nat) (xss : List (List Int)) (w : World) (h : TapeV w v t) (hf : Fit t) (hx : Rows w A xss) (hn : xss.length ≤ 1048576) (ht : tot xss ≤ 1048576) :
    CallsR Try.prog 50 [v, .slice A xss.length c] w (RowsOut w (fTapeSeries t xss)) := by
  have hv := h
  obtain ⟨P, p, Q, q, R, r, rfl, r1, r2, r3⟩ := h
  refine CallsR.enter Try.func50 (by decide +kernel) rfl Try.ntmps50 rfl ?_
  repeat' (first
    | refine EW.seq ?_
    | refine EW.region ?_)
  refine EL.h (Hv.boxA (sz := 4) rfl rfl) rfl (fun _ => rfl) ?_
  rintro _ w1 ⟨g1, rfl, hg1, hb, he1⟩
  repeat' (first
    | refine EL.f (FV.loadAgg (cs := [.int .i64 t.inputs, .slice P t.code.length p, .slice Q t.guards.length q, .slice R t.outs.length r]) rfl rfl rfl rfl rfl (fun _ e => e ▸ At.lies hb)) rfl rfl ?_
    | refine EL.f (FV.assign rfl) rfl rfl ?_
    | refine EL.nil ?_
    | refine EW.seq ?_
    | refine EW.region ?_
    | refine EW.block ?_)
  refine EL.h (Hv.call (implValidTape _ t w1 (hv.ext he1) hf) rfl) rfl (fun _ => rfl) ?_
  rintro _ w2 ⟨rfl, he2⟩
  have hw2 := he1.trans he2
  replace hb := At.ext hb he2
  cases ok : okT t
  · repeat' (first
      | refine EL.f (FV.assign rfl) rfl rfl ?_
      | refine EL.f (FV.not rfl) rfl rfl ?_
      | refine EL.nil ?_
      | refine EW.seq ?_
      | refine EW.region ?_
      | refine EW.ret ?_
      | refine EW.condT rfl ?_)
    rw [fTapeSeries_bad ok]
    exact ⟨_, rfl, RowsOut.nil hw2⟩
  have hin := (okT_iff.1 ok).1
  have hou := (okT_iff.1 ok).2.2.2
  repeat' (first
    | (show EL _ _ _ _ (_ :: _) _ _
       first
       | (show EL _ _ _ _ (⟨_, .fieldAddr _ _ _, _, _, _, _⟩ :: _) _ _; refine EL.f (FV.fieldAddr rfl rfl rfl rfl rfl) rfl rfl ?_)
       | (show EL _ _ _ _ (⟨_, .load _ _, _, _, _, _⟩ :: _) _ _; refine EL.f (FV.load1 rfl rfl rfl (At.cell hb rfl)) rfl rfl ?_)
       | (show EL _ _ _ _ (⟨_, .move _, _, _, _, _⟩ :: _) _ _; refine EL.f (FV.move rfl) rfl rfl ?_)
       | (show EL _ _ _ _ (⟨_, .assign _, _, _, _, _⟩ :: _) _ _; refine EL.f (FV.assign rfl) rfl rfl ?_)
       | (show EL _ _ _ _ (⟨_, .unOp .not _ _, _, _, _, _⟩ :: _) _ _; refine EL.f (FV.not rfl) rfl rfl ?_))
    | refine EL.nil ?_
    | refine EW.seq ?_
    | refine EW.region ?_
    | refine EW.condF rfl ?_)
  refine EL.h (Hv.call (implAreArgs xss A c t.inputs w2 (hx.ext hw2) hn ht) rfl) rfl (fun _ => rfl) ?_
  rintro _ w3 ⟨rfl, he3⟩
  have hw3 := hw2.trans he3
  replace hb := At.ext hb he3
  cases ha : argsOk xss t.inputs
  · repeat' (first
      | refine EL.f (FV.assign rfl) rfl rfl ?_
      | refine EL.f (FV.not rfl) rfl rfl ?_
      | refine EL.nil ?_
      | refine EW.seq ?_
      | refine EW.region ?_
      | refine EW.ret ?_
      | refine EW.condT rfl ?_)
    rw [fTapeSeries_args ok ha]
    exact ⟨_, rfl, RowsOut.nil hw3⟩
  obtain ⟨hg, ho12⟩ := argsOk_good ha
  have hl := (argsOk_iff ha).1
  repeat' (first
    | refine EL.f (FV.assign rfl) rfl rfl ?_
    | refine EL.f (FV.not rfl) rfl rfl ?_
    | refine EL.nil ?_
    | refine EW.seq ?_
    | refine EW.skip ?_
    | refine EW.condF rfl ?_)
  refine EW.draw (fun w' => Ext w3 w') [(0, true), (1, true), (2, true), (3, false), (4, false), (5, true), (6, true), (7, true), (8, true), (9, true)] mixed (by decide +kernel) (Ext.drew _) ?_
  repeat' (first
    | refine EP.f rfl (FV.loadAgg (cs := [.int .i64 t.inputs, .slice P t.code.length p, .slice Q t.guards.length q, .slice R t.outs.length r]) rfl rfl rfl rfl rfl (fun _ h' => (At.lies hb).ext h')) rfl rfl ?_
    | refine EP.f rfl (FV.move rfl) rfl rfl ?_)
  have ed := Ext.drew w3
  refine EP.h rfl rfl (Hv.call (implOrder xss A c t.inputs w3.drew (hx.ext (hw3.trans ed)) ha) rfl) rfl (fun _ => rfl) ?_
  rintro _ _ ⟨rfl, rfl⟩
  refine ⟨ed, ?_⟩
  refine EP.h rfl rfl (Hv.call (implRegisters _ t A c xss (ordS xss) w3.drew (hv.ext (hw3.trans ed)) hf ok (hx.ext (hw3.trans ed)) hl hg (by omega)) rfl) rfl (fun _ => rfl) ?_
  rintro res w5 hR
  have e35 := ed.trans hR.2
  refine ⟨e35, ?_⟩
  have hw5 := hw3.trans e35
  replace hb := At.ext hb e35
  unfold RegOut at hR
  cases e : regS t xss (ordS xss + 1) t.code.length with
  | none =>
    rw [e] at hR
    obtain ⟨⟨s, rfl⟩, _⟩ := hR
    repeat' (first
      | refine EP.nil ?_
      | refine EP.f rfl (FV.move rfl) rfl rfl ?_
      | refine EP.f rfl (FV.assign rfl) rfl rfl ?_
      | refine EP.f rfl (FV.extract rfl rfl) rfl rfl ?_)
    rw [fTapeSeries_none ok ha e]
    repeat' (first
      | refine EL.f (FV.move rfl) rfl rfl ?_
      | refine EL.f (FV.assign rfl) rfl rfl ?_
      | refine EL.fT (FV.neq rfl rfl) rfl (fun _ => rfl) (by omega) ?_
      | refine EL.nil ?_
      | refine EW.seq ?_
      | refine EW.region ?_
      | refine EW.ret ?_
      | refine EW.condT rfl ?_)
    exact ⟨_, rfl, RowsOut.nil hw5⟩
  | some out =>
    rw [e] at hR
    obtain ⟨⟨s, rfl, ho⟩, _⟩ := hR
    obtain ⟨hol, hgo⟩ := regS_good ok hl hg (Nat.le_refl _) e
    obtain ⟨A5, c5, rfl, hr5⟩ := ho.rows
    repeat' (first
      | refine EP.nil ?_
      | refine EP.f rfl (FV.move rfl) rfl rfl ?_
      | refine EP.f rfl (FV.assign rfl) rfl rfl ?_
      | refine EP.f rfl (FV.extract rfl rfl) rfl rfl ?_)
    rw [fTapeSeries_some ok ha e]
    repeat' (first
      | refine EL.f (FV.move rfl) rfl rfl ?_
      | refine EL.fF (FV.neq rfl rfl) rfl (fun _ => rfl) (by omega) ?_
      | refine EL.nil ?_
      | refine EW.seq ?_
      | refine EW.region ?_
      | refine EW.skip ?_
      | refine EW.condF rfl ?_)
    refine EL.h (Hv.build0E rfl rfl) rfl (fun _ => rfl) ?_
    rintro _ w6 ⟨g8, rfl, hg8, _, ho6, he6⟩
    have hg6 : g8 < w6.heap.size := (own_block ho6 rfl).2
    have hw6 := hw5.trans he6
    replace hb := At.ext hb he6
    repeat' (first
      | (show EL _ _ _ _ (_ :: _) _ _
         first
         | (show EL _ _ _ _ (⟨_, .fieldAddr _ _ _, _, _, _, _⟩ :: _) _ _; refine EL.f (FV.fieldAddr rfl rfl rfl rfl rfl) rfl rfl ?_)
         | (show EL _ _ _ _ (⟨_, .load _ _, _, _, _, _⟩ :: _) _ _; refine EL.f (FV.load1 rfl rfl rfl (At.cell hb rfl)) rfl rfl ?_)
         | (show EL _ _ _ _ (⟨_, .move _, _, _, _, _⟩ :: _) _ _; refine EL.f (FV.move rfl) rfl rfl ?_)
         | (show EL _ _ _ _ (⟨_, .assign _, _, _, _, _⟩ :: _) _ _; refine EL.f (FV.assign rfl) rfl rfl ?_))
      | refine EL.nil ?_
      | refine EW.seq ?_
      | refine EW.region ?_)
    refine EL.h (Hv.call (implPickedR A5 R c5 r out t.outs w5 w6 hr5 he6 (r3.ext hw6) (fun i hi => by have := hou.2.2.2 i hi; omega) (by omega)) rfl) rfl (fun _ => rfl) ?_
    rintro s36 w7 ⟨⟨ps, hps, hpr⟩, he7⟩
    have hpl := pickR_length out t.outs
    rw [hpl] at hps hpr
    obtain ⟨P6, p6, rfl, hprd⟩ := own_form hps
    have hw7 := hw6.trans he7
    have he57 := he6.trans he7
    have h0 := (hou.2.2.2 0 (by omega))
    repeat' (first
      | refine EL.f (FV.move rfl) rfl rfl ?_
      | refine EL.f (FV.len rfl rfl) rfl rfl ?_
      | refine EL.nil ?_
      | refine EW.block ?_)
    refine EW.loop (X := Nat × Value × List Value) (fun y wr => y.1 ≤ t.outs.length ∧ OutW w5.heap.size wr y.2.1 y.2.2 ((pickR out t.outs).take y.1) ∧ (∀ k, y.2.1.ownBlock = some k → k = g8 ∨ w7.heap.size ≤ k) ∧ wr.ownsRow w6.heap.size 24 1 (.slice P6 t.outs.length p6) t.outs.length ps ∧ w7.heap.size ≤ wr.heap.size ∧ Ext w5 wr) (fun y => [(8, y.2.1), (36, .slice P6 t.outs.length p6), (37, .int .i64 t.outs.length), (38, .int .i64 y.1)]) (fun y => t.outs.length - y.1) (0, .slice (some ⟨g8, 0, none⟩) 0 0, []) ⟨Nat.zero_le _, OutW.empty (own_ext ho6 he7), fun k hk => .inl (by simpa [Value.ownBlock] using hk.symm), hps, Nat.le_refl _, he57⟩ ⟨rfl, rfl, rfl, rfl, trivial⟩ ?_
    rintro ⟨i, s8, vs⟩ wr ⟨hi, hW, hblk, hpo, hsz, hE⟩
    dsimp only at *
    have hWr := hw5.trans hE
    by_cases hlt : i < t.outs.length
    rotate_left
    · obtain rfl : i = t.outs.length := by omega
      rw [List.take_of_length_le (by rw [hpl]; exact Nat.le_refl _)] at hW
      repeat' (first
        | refine EL.f (FV.move rfl) rfl rfl ?_
        | refine EL.f (FV.assign rfl) rfl rfl ?_
        | refine EL.fF (FV.lss rfl rfl) rfl (fun _ => rfl) (by omega) ?_
        | refine EL.nil ?_
        | refine EW.seq ?_
        | refine EW.region ?_
        | refine EW.exit ?_
        | refine EW.ret ?_
        | refine EW.condF rfl ?_)
      exact ⟨_, rfl, _, _, rfl, hW.lower hw5.size, hWr⟩
    have hik := hou.2.2.2 i hlt
    obtain ⟨Ai, ci, hvi, hri⟩ := hpr i hlt
    rw [pickR_get hlt] at hvi hri
    have hgi := hgo (t.outs.getD i 0).toNat (by omega)
    obtain ⟨P7, p7, e7, hprd2⟩ := own_form hpo
    injection e7 with e7 _ e8
    subst e7 e8
    obtain ⟨b6, o6, rfl, hc6⟩ := hprd2 i _ hvi
    obtain ⟨bi, oi, rfl, _⟩ := hri.all (by rw [ints_length]; omega)
    have hnx := pick_next (out := out) hlt
    have hll : ((pickR out t.outs).take i).length = i := by rw [List.length_take]; omega
    generalize out.getD (t.outs.getD i 0).toNat [] = row at *
    repeat' (first
      | (show EL _ _ _ _ (_ :: _) _ _
         first
         | (show EL _ _ _ _ (⟨_, .load _ _, _, _, _, _⟩ :: _) _ _; refine EL.f (FV.load1 rfl rfl rfl (hc6)) rfl rfl ?_)
         | (show EL _ _ _ _ (⟨_, .move _, _, _, _, _⟩ :: _) _ _; refine EL.f (FV.move rfl) rfl rfl ?_)
         | (show EL _ _ _ _ (⟨_, .assign _, _, _, _, _⟩ :: _) _ _; refine EL.f (FV.assign rfl) rfl rfl ?_)
         | (show EL _ _ _ _ (⟨_, .binOp .lss _ _ _ _, _, _, _, _⟩ :: _) _ _; refine EL.fT (FV.lss rfl rfl) rfl (fun _ => rfl) (by omega) ?_)
         | (show EL _ _ _ _ (⟨_, .indexAddr _ _ _, _, _, _, _⟩ :: _) _ _; refine EL.f (FV.idx1 rfl rfl rfl rfl (by omega) (by omega)) rfl rfl ?_))
      | refine EL.nil ?_
      | refine EW.seq ?_
      | refine EW.region ?_
      | refine EW.block ?_
      | refine EW.skip ?_
      | refine EW.condT rfl ?_)
    refine EL.h (Hv.call (implClone bi oi ci row wr (hri.ext hE) (by omega) (by omega)) rfl) rfl (fun _ => rfl) ?_
    rintro u u1 ⟨hu, hu1⟩
    obtain ⟨Au, cu, rfl, _⟩ := hu.form
    skip
    refine EL.h (Hv.build1A rfl rfl rfl rfl) rfl (fun _ => rfl) ?_
    rintro _ u2 ⟨g9, rfl, h9, hg9, he9⟩
    have e02 := hu1.trans he9
    have hWo := own_ext hW.own e02
    rw [hll] at hWo
    skip
    refine EL.h (Hv.appendG (B := w5.heap.size) (us := [.slice Au row.length cu]) rfl rfl rfl rfl rfl rfl hWo rfl (fun j v hj => At.cell h9 hj) (fun v hv => by simp at hv; subst hv; rfl) (by omega) (by omega) (Nat.le_trans hE.size e02.size)) rfl (fun _ => rfl) ?_
    rintro s9 u3 ⟨ho9, hgr, hbl, hwh⟩
    have hE3 := Ext.after (hE.trans e02) hbl
    have hpb : ∀ k, (Value.slice (some ⟨b6, o6, none⟩) t.outs.length p6).ownBlock = some k → s8.ownBlock ≠ some k := fun k hk hq => by
      have a1 := own_block hps hk
      have a2 := hblk k hq
      omega
    repeat' (first
      | refine EL.f (FV.move rfl) rfl rfl ?_
      | refine EL.f (FV.assign rfl) rfl rfl ?_
      | refine EL.f (FV.addI rfl rfl (by omega)) rfl rfl ?_
      | refine EL.nil ?_
      | refine EW.region ?_)
    refine ⟨(i + 1, s9, vs ++ [.slice Au row.length cu]), ⟨rfl, rfl, rfl, rfl, trivial⟩, ⟨by dsimp only; omega, ?_, fun k hk => ?_, ?_, ?_, hE3⟩, by dsimp only; omega⟩
    · dsimp only
      rw [hnx]
      exact OutW.push hW e02 hE.size (OwnI.ext hu he9) (by rw [hll]; exact ho9) hgr
    · dsimp only at hk
      rcases hwh with hwh | hwh
      · exact hblk k (by rw [← hwh]; exact hk)
      · rw [hwh] at hk
        injection hk with hk
        have := e02.size
        exact .inr (by omega)
    · refine own_far (own_ext hpo e02) hgr ?_
      cases hb : (Value.slice (some ⟨b6, o6, none⟩) t.outs.length p6).ownBlock with
      | none => exact .inl rfl
      | some k => exact .inr fun q => hpb k hb q.symm
    · have := e02.size
      have := hgr.size
      omega
set_option maxHeartbeats 16000000 in
theorem specTapeSeriesT (v : Value) (t : Tp) (A : Option Addr) (c : Nat) (xss : List (List Int)) (w : World) (h : TapeV w v t) (hf : Fit t) (hx : Rows w A xss) (hn : xss.length ≤ 1048576) (ht : tot xss ≤ 1048576) :
    CallsR Try.prog 48 [v, .slice A xss.length c] w (RowsOut w (fTapeSeries t xss)) := by
  have hv := h
  obtain ⟨P, p, Q, q, R, r, rfl, r1, r2, r3⟩ := h
  refine CallsR.enter Try.func48 (by decide +kernel) rfl Try.ntmps48 rfl ?_
  repeat' (first
    | refine EW.seq ?_
    | refine EW.region ?_)
  refine EL.h (Hv.boxA (sz := 4) rfl rfl) rfl (fun _ => rfl) ?_
  rintro _ w1 ⟨g1, rfl, hg1, hb, he1⟩
  have hP : TapeP w1 g1 0 t := ⟨P, p, Q, q, R, r, At.lies hb, r1.ext he1, r2.ext he1, r3.ext he1⟩
  repeat' (first
    | refine EL.f (FV.assign rfl) rfl rfl ?_
    | refine EL.nil ?_
    | refine EW.seq ?_
    | refine EW.region ?_)
  refine EL.h (Hv.call (specOkT g1 0 t w1 hP hf) rfl) rfl (fun _ => rfl) ?_
  rintro _ w2 ⟨rfl, he2⟩
  have hw2 := he1.trans he2
  replace hb := At.ext hb he2
  cases ok : okT t
  · repeat' (first
      | (refine EL.h (Hv.build0 rfl rfl) rfl (fun _ => rfl) ?_; rintro v w' ⟨ho, he⟩)
      | refine EL.f (FV.assign rfl) rfl rfl ?_
      | refine EL.f (FV.not rfl) rfl rfl ?_
      | refine EL.nil ?_
      | refine EW.seq ?_
      | refine EW.region ?_
      | refine EW.ret ?_
      | refine EW.condT rfl ?_)
    rw [fTapeSeries_bad ok]
    exact ⟨_, rfl, v, [], rfl, (OutW.empty ho).lower hw2.size, hw2.trans he⟩
  have hin := (okT_iff.1 ok).1
  have hou := (okT_iff.1 ok).2.2.2
  by_cases hl : (xss.length : Int) = t.inputs
  rotate_left
  · repeat' (first
      | (show EL _ _ _ _ (_ :: _) _ _
         first
         | (show EL _ _ _ _ (⟨_, .fieldAddr _ _ _, _, _, _, _⟩ :: _) _ _; refine EL.f (FV.fieldAddr rfl rfl rfl rfl rfl) rfl rfl ?_)
         | (show EL _ _ _ _ (⟨_, .load _ _, _, _, _, _⟩ :: _) _ _; refine EL.f (FV.load1 rfl rfl rfl (At.cell hb rfl)) rfl rfl ?_)
         | (show EL _ _ _ _ (⟨_, .buildSlice _ _ _, _, _, _, _⟩ :: _) _ _; (refine EL.h (Hv.build0 rfl rfl) rfl (fun _ => rfl) ?_; rintro v w' ⟨ho, he⟩))
         | (show EL _ _ _ _ (⟨_, .move _, _, _, _, _⟩ :: _) _ _; refine EL.f (FV.move rfl) rfl rfl ?_)
         | (show EL _ _ _ _ (⟨_, .assign _, _, _, _, _⟩ :: _) _ _; refine EL.f (FV.assign rfl) rfl rfl ?_)
         | (show EL _ _ _ _ (⟨_, .call _, _, _, _, _⟩ :: _) _ _; refine EL.f (FV.len rfl rfl) rfl rfl ?_)
         | (show EL _ _ _ _ (⟨_, .unOp .not _ _, _, _, _, _⟩ :: _) _ _; refine EL.f (FV.not rfl) rfl rfl ?_)
         | (show EL _ _ _ _ (⟨_, .binOp .neq _ _ _ _, _, _, _, _⟩ :: _) _ _; refine EL.fT (FV.neq rfl rfl) rfl (fun _ => rfl) (by omega) ?_))
      | refine EL.nil ?_
      | refine EW.seq ?_
      | refine EW.region ?_
      | refine EW.skip ?_
      | refine EW.ret ?_
      | refine EW.condT rfl ?_
      | refine EW.condF rfl ?_)
    rw [fTapeSeries_args ok (argsOk_len hl)]
    exact ⟨_, rfl, v, [], rfl, (OutW.empty ho).lower hw2.size, hw2.trans he⟩
  repeat' (first
    | (show EL _ _ _ _ (_ :: _) _ _
       first
       | (show EL _ _ _ _ (⟨_, .fieldAddr _ _ _, _, _, _, _⟩ :: _) _ _; refine EL.f (FV.fieldAddr rfl rfl rfl rfl rfl) rfl rfl ?_)
       | (show EL _ _ _ _ (⟨_, .load _ _, _, _, _, _⟩ :: _) _ _; refine EL.f (FV.load1 rfl rfl rfl (At.cell hb rfl)) rfl rfl ?_)
       | (show EL _ _ _ _ (⟨_, .move _, _, _, _, _⟩ :: _) _ _; refine EL.f (FV.move rfl) rfl rfl ?_)
       | (show EL _ _ _ _ (⟨_, .assign _, _, _, _, _⟩ :: _) _ _; refine EL.f (FV.assign rfl) rfl rfl ?_)
       | (show EL _ _ _ _ (⟨_, .call _, _, _, _, _⟩ :: _) _ _; refine EL.f (FV.len rfl rfl) rfl rfl ?_)
       | (show EL _ _ _ _ (⟨_, .unOp .not _ _, _, _, _, _⟩ :: _) _ _; refine EL.f (FV.not rfl) rfl rfl ?_)
       | (show EL _ _ _ _ (⟨_, .binOp .neq _ _ _ _, _, _, _, _⟩ :: _) _ _; refine EL.fF (FV.neq rfl rfl) rfl (fun _ => rfl) (by omega) ?_))
    | refine EL.nil ?_
    | refine EW.seq ?_
    | refine EW.region ?_
    | refine EW.block ?_
    | refine EW.skip ?_
    | refine EW.condF rfl ?_)
  refine EW.loop (X := Nat) (fun i wr => i ≤ xss.length ∧ (∀ j, j < i → sameAt xss j = true) ∧ Ext w2 wr) (fun i => [(1, .slice A xss.length c), (2, .pointer (some ⟨g1, 0, none⟩)), (6, .int .i64 i)]) (fun i => xss.length - i) 0 ⟨Nat.zero_le _, fun j hj => by omega, Ext.refl _⟩ ⟨rfl, rfl, rfl, trivial⟩ ?_
  rintro i wr ⟨hi, hall, hE⟩
  have hWr := hw2.trans hE
  by_cases hlt : i < xss.length
  · obtain ⟨b, o, rfl, hal⟩ := hx.all (by omega)
    obtain ⟨B1, c1, hc1, hr1⟩ := hal i hlt
    obtain ⟨B0, c0, hc0, hr0⟩ := hal 0 (by omega)
    have q1 := hWr.cell hc1
    have q0 := hWr.cell hc0
    have t1 := tot_row hlt
    have t0 := tot_row (xs := xss) (i := 0) (by omega)
    have ed := Ext.drew wr
    have hvd := specOk B1 c1 (xss.getD i []) wr.drew (hr1.ext (hWr.trans ed)) (by omega)
    repeat' (first
      | refine EL.f (FV.move rfl) rfl rfl ?_
      | refine EL.f (FV.len rfl rfl) rfl rfl ?_
      | refine EL.fT (FV.lss rfl rfl) rfl (fun _ => rfl) (by omega) ?_
      | refine EL.nil ?_
      | refine EW.seq ?_
      | refine EW.region ?_
      | refine EW.block ?_
      | refine EW.skip ?_
      | refine EW.condT rfl ?_)
    cases hq : vld (xss.getD i [])
    · rw [hq] at hvd
      refine EW.draw (fun w' => Ext wr w') (pl 0 4 ++ [(4, false)] ++ pl 5 13) mixed (by decide +kernel) ed ?_
      repeat' (first
        | refine EP.f rfl (FV.load rfl rfl rfl (fun w' h' => h'.cell q1)) rfl rfl ?_
        | refine EP.f rfl (FV.move rfl) rfl rfl ?_
        | refine EP.f rfl (FV.idx1 rfl rfl rfl rfl (by omega) (by omega)) rfl rfl ?_)
      refine EP.h rfl rfl (Hv.call hvd rfl) rfl (fun _ => rfl) ?_
      rintro _ _ ⟨rfl, rfl⟩
      refine ⟨ed, ?_⟩
      repeat' (first
        | refine EP.f rfl (FV.pickT rfl rfl) rfl rfl ?_
        | refine EP.skip rfl rfl rfl ?_
        | refine EP.nil ?_
        | refine EP.f rfl (FV.move rfl) rfl rfl ?_
        | refine EP.f rfl (FV.not rfl) rfl rfl ?_)
      repeat' (first
        | (refine EL.h (Hv.build0 rfl rfl) rfl (fun _ => rfl) ?_; rintro v w' ⟨ho, he⟩)
        | refine EL.f (FV.assign rfl) rfl rfl ?_
        | refine EL.nil ?_
        | refine EW.seq ?_
        | refine EW.region ?_
        | refine EW.ret ?_
        | refine EW.condT rfl ?_)
      rw [fTapeSeries_args ok (argsOk_at hlt (sameAt_vld hq))]
      exact ⟨_, rfl, v, [], rfl, (OutW.empty ho).lower (hWr.trans ed).size, (hWr.trans ed).trans he⟩
    rw [hq] at hvd
    by_cases hle : (xss.getD i []).length = (xss.getD 0 []).length
    · refine EW.draw (fun w' => Ext wr w') (pl 0 4 ++ [(4, false)] ++ pl 5 13) mixed (by decide +kernel) ed ?_
      repeat' (first
        | refine EP.f rfl (FV.load rfl rfl rfl (fun w' h' => h'.cell q1)) rfl rfl ?_
        | refine EP.f rfl (FV.move rfl) rfl rfl ?_
        | refine EP.f rfl (FV.idx1 rfl rfl rfl rfl (by omega) (by omega)) rfl rfl ?_)
      refine EP.h rfl rfl (Hv.call hvd rfl) rfl (fun _ => rfl) ?_
      rintro _ _ ⟨rfl, rfl⟩
      refine ⟨ed, ?_⟩
      repeat' (first
        | refine EP.f rfl (FV.pickF rfl rfl) rfl rfl ?_
        | refine EP.fF rfl (FV.neq rfl rfl) rfl (fun _ => rfl) (by omega) ?_
        | refine EP.f rfl (FV.load rfl rfl rfl (fun w' h' => h'.cell q1)) rfl rfl ?_
        | refine EP.f rfl (FV.load rfl rfl rfl (fun w' h' => h'.cell q0)) rfl rfl ?_
        | refine EP.nil ?_
        | refine EP.f rfl (FV.move rfl) rfl rfl ?_
        | refine EP.f rfl (FV.len rfl rfl) rfl rfl ?_
        | refine EP.f rfl (FV.idx1 rfl rfl rfl rfl (by omega) (by omega)) rfl rfl ?_
        | refine EP.f rfl (FV.not rfl) rfl rfl ?_)
      repeat' (first
        | refine EL.f (FV.move rfl) rfl rfl ?_
        | refine EL.f (FV.assign rfl) rfl rfl ?_
        | refine EL.f (FV.addI rfl rfl (by omega)) rfl rfl ?_
        | refine EL.nil ?_
        | refine EW.region ?_
        | refine EW.skip ?_
        | refine EW.condF rfl ?_)
      exact ⟨i + 1, ⟨rfl, rfl, rfl, trivial⟩, ⟨by omega, fun j hj => by
        by_cases e : j = i
        · subst e; exact sameAt_true hq hle
        · exact hall j (by omega), hE.trans ed⟩, by omega⟩
    · refine EW.draw (fun w' => Ext wr w') (pl 0 4 ++ [(4, false)] ++ pl 5 13) mixed (by decide +kernel) ed ?_
      repeat' (first
        | refine EP.f rfl (FV.load rfl rfl rfl (fun w' h' => h'.cell q1)) rfl rfl ?_
        | refine EP.f rfl (FV.move rfl) rfl rfl ?_
        | refine EP.f rfl (FV.idx1 rfl rfl rfl rfl (by omega) (by omega)) rfl rfl ?_)
      refine EP.h rfl rfl (Hv.call hvd rfl) rfl (fun _ => rfl) ?_
      rintro _ _ ⟨rfl, rfl⟩
      refine ⟨ed, ?_⟩
      repeat' (first
        | refine EP.f rfl (FV.pickF rfl rfl) rfl rfl ?_
        | refine EP.fT rfl (FV.neq rfl rfl) rfl (fun _ => rfl) (by omega) ?_
        | refine EP.f rfl (FV.load rfl rfl rfl (fun w' h' => h'.cell q1)) rfl rfl ?_
        | refine EP.f rfl (FV.load rfl rfl rfl (fun w' h' => h'.cell q0)) rfl rfl ?_
        | refine EP.nil ?_
        | refine EP.f rfl (FV.move rfl) rfl rfl ?_
        | refine EP.f rfl (FV.len rfl rfl) rfl rfl ?_
        | refine EP.f rfl (FV.idx1 rfl rfl rfl rfl (by omega) (by omega)) rfl rfl ?_
        | refine EP.f rfl (FV.not rfl) rfl rfl ?_)
      repeat' (first
        | (refine EL.h (Hv.build0 rfl rfl) rfl (fun _ => rfl) ?_; rintro v w' ⟨ho, he⟩)
        | refine EL.f (FV.assign rfl) rfl rfl ?_
        | refine EL.nil ?_
        | refine EW.seq ?_
        | refine EW.region ?_
        | refine EW.ret ?_
        | refine EW.condT rfl ?_)
      rw [fTapeSeries_args ok (argsOk_at hlt (sameAt_len hle))]
      exact ⟨_, rfl, v, [], rfl, (OutW.empty ho).lower (hWr.trans ed).size, (hWr.trans ed).trans he⟩
  obtain rfl : i = xss.length := by omega
  have ha : argsOk xss t.inputs = true := by rw [argsOk_all hall, decide_eq_true hl]
  obtain ⟨hg, ho12⟩ := argsOk_good ha
  replace hb := At.ext hb hE
  repeat' (first
    | refine EL.f (FV.move rfl) rfl rfl ?_
    | refine EL.f (FV.len rfl rfl) rfl rfl ?_
    | refine EL.fF (FV.lss rfl rfl) rfl (fun _ => rfl) (by omega) ?_
    | refine EL.nil ?_
    | refine EW.seq ?_
    | refine EW.region ?_
    | refine EW.exit ?_
    | refine EW.condF rfl ?_)
  refine EL.h (Hv.call (specSize xss A c t.inputs wr (hx.ext hWr) ha) rfl) rfl (fun _ => rfl) ?_
  rintro _ _ ⟨rfl, rfl⟩
  skip
  refine EL.h (Hv.call (specSeries g1 0 t A c xss (ordS xss) wr (hP.ext (he2.trans hE)) hf ok (hx.ext hWr) hl hg (by omega)) rfl) rfl (fun _ => rfl) ?_
  rintro res w5 hR
  have hw5 := hWr.trans hR.2
  replace hb := At.ext hb hR.2
  have hb5 := hb
  unfold RegOut at hR
  cases e : regS t xss (ordS xss + 1) t.code.length with
  | none =>
    rw [e] at hR
    obtain ⟨⟨s, rfl⟩, _⟩ := hR
    rw [fTapeSeries_none ok ha e]
    repeat' (first
      | (show EL _ _ _ _ (_ :: _) _ _
         first
         | (show EL _ _ _ _ (⟨_, .buildSlice _ _ _, _, _, _, _⟩ :: _) _ _; (refine EL.h (Hv.build0 rfl rfl) rfl (fun _ => rfl) ?_; rintro v w' ⟨ho, he⟩))
         | (show EL _ _ _ _ (⟨_, .move _, _, _, _, _⟩ :: _) _ _; refine EL.f (FV.move rfl) rfl rfl ?_)
         | (show EL _ _ _ _ (⟨_, .assign _, _, _, _, _⟩ :: _) _ _; refine EL.f (FV.assign rfl) rfl rfl ?_)
         | (show EL _ _ _ _ (⟨_, .extract _ _, _, _, _, _⟩ :: _) _ _; refine EL.f (FV.extract rfl rfl) rfl rfl ?_)
         | (show EL _ _ _ _ (⟨_, .unOp .not _ _, _, _, _, _⟩ :: _) _ _; refine EL.f (FV.not rfl) rfl rfl ?_))
      | refine EL.nil ?_
      | refine EW.seq ?_
      | refine EW.region ?_
      | refine EW.ret ?_
      | refine EW.condT rfl ?_)
    exact ⟨_, rfl, v, [], rfl, (OutW.empty ho).lower hw5.size, hw5.trans he⟩
  | some out =>
    rw [e] at hR
    obtain ⟨⟨s, rfl, ho⟩, _⟩ := hR
    obtain ⟨hol, hgo⟩ := regS_good ok hl hg (Nat.le_refl _) e
    obtain ⟨A5, c5, rfl, hr5⟩ := ho.rows
    have hpl := pickR_length out t.outs
    rw [fTapeSeries_some ok ha e]
    repeat' (first
      | (show EL _ _ _ _ (_ :: _) _ _
         first
         | (show EL _ _ _ _ (⟨_, .move _, _, _, _, _⟩ :: _) _ _; refine EL.f (FV.move rfl) rfl rfl ?_)
         | (show EL _ _ _ _ (⟨_, .assign _, _, _, _, _⟩ :: _) _ _; refine EL.f (FV.assign rfl) rfl rfl ?_)
         | (show EL _ _ _ _ (⟨_, .extract _ _, _, _, _, _⟩ :: _) _ _; refine EL.f (FV.extract rfl rfl) rfl rfl ?_)
         | (show EL _ _ _ _ (⟨_, .unOp .not _ _, _, _, _, _⟩ :: _) _ _; refine EL.f (FV.not rfl) rfl rfl ?_))
      | refine EL.nil ?_
      | refine EW.seq ?_
      | refine EW.region ?_
      | refine EW.skip ?_
      | refine EW.condF rfl ?_)
    refine EL.h (Hv.build0 rfl rfl) rfl (fun _ => rfl) ?_
    rintro s8 w6 ⟨ho6, he6⟩
    replace hb := At.ext hb he6
    repeat' (first
      | refine EL.f (FV.assign rfl) rfl rfl ?_
      | refine EL.nil ?_
      | refine EW.seq ?_
      | refine EW.region ?_
      | refine EW.block ?_)
    refine EW.loop (X := Nat × Value × List Value) (fun y wr => y.1 ≤ t.outs.length ∧ OutW w5.heap.size wr y.2.1 y.2.2 ((pickR out t.outs).take y.1) ∧ Ext w5 wr) (fun y => [(2, .pointer (some ⟨g1, 0, none⟩)), (7, .slice A5 out.length c5), (9, y.2.1), (10, .int .i64 y.1)]) (fun y => t.outs.length - y.1) (0, s8, []) ⟨Nat.zero_le _, OutW.empty ho6, he6⟩ ⟨rfl, rfl, rfl, rfl, trivial⟩ ?_
    rintro ⟨i, s9, vs⟩ wq ⟨hi, hW, hE⟩
    dsimp only at *
    have hWq := hw5.trans hE
    have hbq := At.lies hb
    have k3 : wq.cell? ⟨g1, 3, none⟩ = some (.slice R t.outs.length r) := hE.cell (At.cell hb5 rfl)
    by_cases hlt : i < t.outs.length
    rotate_left
    · obtain rfl : i = t.outs.length := by omega
      rw [List.take_of_length_le (by rw [hpl]; exact Nat.le_refl _)] at hW
      repeat' (first
        | (show EL _ _ _ _ (_ :: _) _ _
           first
           | (show EL _ _ _ _ (⟨_, .fieldAddr _ _ _, _, _, _, _⟩ :: _) _ _; refine EL.f (FV.fieldAddr rfl rfl rfl rfl rfl) rfl rfl ?_)
           | (show EL _ _ _ _ (⟨_, .load _ _, _, _, _, _⟩ :: _) _ _; refine EL.f (FV.load1 rfl rfl rfl (k3)) rfl rfl ?_)
           | (show EL _ _ _ _ (⟨_, .move _, _, _, _, _⟩ :: _) _ _; refine EL.f (FV.move rfl) rfl rfl ?_)
           | (show EL _ _ _ _ (⟨_, .assign _, _, _, _, _⟩ :: _) _ _; refine EL.f (FV.assign rfl) rfl rfl ?_)
           | (show EL _ _ _ _ (⟨_, .call _, _, _, _, _⟩ :: _) _ _; refine EL.f (FV.len rfl rfl) rfl rfl ?_)
           | (show EL _ _ _ _ (⟨_, .binOp .lss _ _ _ _, _, _, _, _⟩ :: _) _ _; refine EL.fF (FV.lss rfl rfl) rfl (fun _ => rfl) (by omega) ?_))
        | refine EL.nil ?_
        | refine EW.seq ?_
        | refine EW.region ?_
        | refine EW.exit ?_
        | refine EW.ret ?_
        | refine EW.condF rfl ?_)
      exact ⟨_, rfl, _, _, rfl, hW.lower hw5.size, hWq⟩
    have hik := hou.2.2.2 i hlt
    have hgi := hgo (t.outs.getD i 0).toNat (by omega)
    obtain ⟨b3, o3, rfl, hc3⟩ := (r3.ext hWq).int hlt
    obtain ⟨b5, o5, B5, d5, rfl, hc5, hri⟩ := hr5 (t.outs.getD i 0).toNat (by omega)
    have hc5q := hE.cell hc5
    have hnx := pick_next (out := out) hlt
    have hll : ((pickR out t.outs).take i).length = i := by rw [List.length_take]; omega
    generalize out.getD (t.outs.getD i 0).toNat [] = row at *
    repeat' (first
      | (show EL _ _ _ _ (_ :: _) _ _
         first
         | (show EL _ _ _ _ (⟨_, .fieldAddr _ _ _, _, _, _, _⟩ :: _) _ _; refine EL.f (FV.fieldAddr rfl rfl rfl rfl rfl) rfl rfl ?_)
         | (show EL _ _ _ _ (⟨_, .load _ _, _, _, _, _⟩ :: _) _ _; first | refine EL.f (FV.load1 rfl rfl rfl (k3)) rfl rfl ?_ | refine EL.f (FV.load1 rfl rfl rfl (hc3)) rfl rfl ?_ | refine EL.f (FV.load1 rfl rfl rfl (hc5q)) rfl rfl ?_)
         | (show EL _ _ _ _ (⟨_, .move _, _, _, _, _⟩ :: _) _ _; refine EL.f (FV.move rfl) rfl rfl ?_)
         | (show EL _ _ _ _ (⟨_, .call _, _, _, _, _⟩ :: _) _ _; refine EL.f (FV.len rfl rfl) rfl rfl ?_)
         | (show EL _ _ _ _ (⟨_, .binOp .lss _ _ _ _, _, _, _, _⟩ :: _) _ _; refine EL.fT (FV.lss rfl rfl) rfl (fun _ => rfl) (by omega) ?_)
         | (show EL _ _ _ _ (⟨_, .indexAddr _ _ _, _, _, _, _⟩ :: _) _ _; refine EL.f (FV.idx1 rfl rfl rfl rfl (by omega) (by omega)) rfl rfl ?_))
      | refine EL.nil ?_
      | refine EW.seq ?_
      | refine EW.region ?_
      | refine EW.block ?_
      | refine EW.skip ?_
      | refine EW.condT rfl ?_)
    refine EL.h (Hv.call (specOwnS B5 d5 row wq (hri.ext hE) (by omega) (by omega)) rfl) rfl (fun _ => rfl) ?_
    rintro u u1 ⟨hu, hu1⟩
    obtain ⟨Au, cu, rfl, _⟩ := hu.form
    skip
    refine EL.h (Hv.build1A rfl rfl rfl rfl) rfl (fun _ => rfl) ?_
    rintro _ u2 ⟨g9, rfl, h9, hg9, he9⟩
    have e02 := hu1.trans he9
    have hWo := own_ext hW.own e02
    rw [hll] at hWo
    skip
    refine EL.h (Hv.appendG (B := w5.heap.size) (us := [.slice Au row.length cu]) rfl rfl rfl rfl rfl rfl hWo rfl (fun j v hj => At.cell h9 hj) (fun v hv => by simp at hv; subst hv; rfl) (by omega) (by omega) (Nat.le_trans hE.size e02.size)) rfl (fun _ => rfl) ?_
    rintro s10 u3 ⟨ho9, hgr, hbl, hwh⟩
    have hE3 := Ext.after (hE.trans e02) hbl
    repeat' (first
      | refine EL.f (FV.move rfl) rfl rfl ?_
      | refine EL.f (FV.assign rfl) rfl rfl ?_
      | refine EL.f (FV.addI rfl rfl (by omega)) rfl rfl ?_
      | refine EL.nil ?_
      | refine EW.region ?_)
    refine ⟨(i + 1, s10, vs ++ [.slice Au row.length cu]), ⟨rfl, rfl, rfl, rfl, trivial⟩, ⟨by dsimp only; omega, ?_, hE3⟩, by dsimp only; omega⟩
    dsimp only
    rw [hnx]
    exact OutW.push hW e02 hE.size (OwnI.ext hu he9) (by rw [hll]; exact ho9) hgr
end Eng
end Go.Proofs.Ytfkohgfcchhlpaa
