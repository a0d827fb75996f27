/- Size, depth, totality and sameness of expressions, in the program and in the reference. Conditions: the number of nodes. -/
import Derived.Test.YtgahkbcfjibjaaaEb
namespace Go.Proofs.Ytgahkbcfjibjaaa
open Go Go.RowKit
namespace Eng
namespace Ex
mutual
def depth : Ex → Nat
  | .node _ _ _ _ ks => depthL ks + 1
def depthL : List Ex → Nat
  | [] => 0
  | e :: es => max (depth e) (depthL es)
end
mutual
def total : Ex → Bool
  | .node k _ _ _ ks => !(decide (k = 6 ∨ k = 10 ∨ k = 11)) && totalL ks
def totalL : List Ex → Bool
  | [] => true
  | e :: es => total e && totalL es
end
mutual
def same : Ex → Ex → Bool
  | .node k n p c ks, .node k' n' p' c' ls => decide (k = k' ∧ n = n' ∧ p = p' ∧ c = c') && sameL ks ls
def sameL : List Ex → List Ex → Bool
  | [], [] => true
  | x :: xs, y :: ys => same x y && sameL xs ys
  | [], _ :: _ => false
  | _ :: _, [] => false
end
end Ex
theorem all_getD {α : Type} {d : α} {Q : α → Prop} : ∀ {xs : List α}, (∀ i, i < xs.length → Q (xs.getD i d)) → ∀ x, x ∈ xs → Q x := fun {xs} h x hx => by
  obtain ⟨i, hi, e⟩ := List.mem_iff_getElem.1 hx
  have := h i hi
  simpa [hi, e] using this
theorem depthL_append (xs ys : List Ex) : Ex.depthL (xs ++ ys) = max (Ex.depthL xs) (Ex.depthL ys) := by
  induction xs with
  | nil => simp [Ex.depthL]
  | cons x xs ih => simp only [List.cons_append, Ex.depthL, ih]; omega
theorem depthL_take {ks : List Ex} {i : Nat} (h : i < ks.length) : Ex.depthL (ks.take (i + 1)) = max (Ex.depthL (ks.take i)) (ks.getD i dEx).depth := by
  rw [take_next (d := dEx) h, depthL_append]
  simp [Ex.depthL]
theorem depthL_le : ∀ xs : List Ex, (∀ x, x ∈ xs → Ex.depth x ≤ Ex.size x) → Ex.depthL xs ≤ Ex.sizeL xs
  | [], _ => Nat.le_refl _
  | x :: xs, h => by
    have h1 := h x List.mem_cons_self
    have h2 := depthL_le xs fun y hy => h y (List.mem_cons_of_mem _ hy)
    simp only [Ex.depthL, Ex.sizeL]
    omega
theorem depth_le (e : Ex) : e.depth ≤ e.size := by
  induction e using Ex.ind with
  | h k n p c ks ih =>
    have := depthL_le ks (all_getD ih)
    simp only [Ex.depth, Ex.size]
    omega
theorem totalL_all (xs : List Ex) : Ex.totalL xs = xs.all Ex.total := by
  induction xs with
  | nil => simp [Ex.totalL]
  | cons x xs ih => simp [Ex.totalL, ih]
theorem sameL_len : ∀ {xs ys : List Ex}, xs.length ≠ ys.length → Ex.sameL xs ys = false
  | [], [], h => absurd rfl h
  | [], _ :: _, _ => by simp [Ex.sameL]
  | _ :: _, [], _ => by simp [Ex.sameL]
  | x :: xs, y :: ys, h => by
    rw [Ex.sameL, sameL_len (xs := xs) (ys := ys) (by simpa using h), Bool.and_false]
theorem sameL_true : ∀ {xs ys : List Ex}, xs.length = ys.length → (∀ i, i < xs.length → Ex.same (xs.getD i dEx) (ys.getD i dEx) = true) → Ex.sameL xs ys = true
  | [], [], _, _ => by simp [Ex.sameL]
  | [], _ :: _, h, _ => by simp at h
  | _ :: _, [], h, _ => by simp at h
  | x :: xs, y :: ys, h, hs => by
    have h0 := hs 0 (by simp)
    have h1 := sameL_true (xs := xs) (ys := ys) (by simpa using h) fun i hi => hs (i + 1) (by simpa using hi)
    rw [Ex.sameL, h1, Bool.and_true]
    exact h0
theorem sameL_false : ∀ {xs ys : List Ex} {i : Nat}, xs.length = ys.length → i < xs.length → Ex.same (xs.getD i dEx) (ys.getD i dEx) = false → Ex.sameL xs ys = false
  | [], _, i, _, h, _ => by simp at h
  | _ :: _, [], _, h, _, _ => by simp at h
  | x :: xs, y :: ys, 0, _, _, hs => by
    rw [Ex.sameL, show Ex.same x y = false from hs, Bool.false_and]
  | x :: xs, y :: ys, i + 1, h, hi, hs => by
    rw [Ex.sameL, sameL_false (xs := xs) (ys := ys) (i := i) (by simpa using h) (by simpa using hi) hs, Bool.and_false]
theorem EP.fT {P : Program} {n : Nat} {ops : Array Oper} {S : World → Prop} {Q : Env → World → Prop} {rest : List (Nat × Bool)} {i : Nat} {o : Oper} {ρ : Env} {ρ' : Value → Env} {w : World} {p : Prop} [Decidable p] (ho : ops[i]? = some o) (hv : FV P n S ρ o (.bool (decide p))) (hg : wantE ops ρ o = some true) (hd : ∀ v, putE n o.dst v ρ = some (ρ' v)) (hp : p) (k : EP P n ops S Q rest (ρ' (.bool true)) w) : EP P n ops S Q ((i, true) :: rest) ρ w :=
  EP.f ho (by rwa [decide_eq_true hp] at hv) hg (hd _) k
theorem EP.fF {P : Program} {n : Nat} {ops : Array Oper} {S : World → Prop} {Q : Env → World → Prop} {rest : List (Nat × Bool)} {i : Nat} {o : Oper} {ρ : Env} {ρ' : Value → Env} {w : World} {p : Prop} [Decidable p] (ho : ops[i]? = some o) (hv : FV P n S ρ o (.bool (decide p))) (hg : wantE ops ρ o = some true) (hd : ∀ v, putE n o.dst v ρ = some (ρ' v)) (hp : ¬ p) (k : EP P n ops S Q rest (ρ' (.bool false)) w) : EP P n ops S Q ((i, true) :: rest) ρ w :=
  EP.f ho (by rwa [decide_eq_false hp] at hv) hg (hd _) k
/-- 'max(x, y)'. -/
theorem FV.max2 {P : Program} {n : Nat} {S : World → Prop} {ρ : Env} {dst : Option Tmp} {ty : TypeId} {pos : String} {af : Array Edge} {gd : Option (Nat × Bool)} {x y : Operand} {ts : Array TypeId} {p q : Nat} (hx : ev ρ x = some (.int .i64 p)) (hy : ev ρ y = some (.int .i64 q)) :
    FV P n S ρ ⟨dst, .call { callee := .builtin .max, args := #[x, y], argTypes := ts }, ty, pos, af, gd⟩ (.int .i64 (max p q : Nat)) :=
  ⟨fun a ha w _ => by
    simp [execOp, ha.eval hx, ha.eval hy, resolve, invoke, builtin, Builtin.max_, Builtin.max2]
    split <;> omega⟩
theorem implSize (e : Ex) : e.size ≤ 1048577 → ∀ cs w, ExB w 0 cs e → CallsR Try.prog 89 [.agg cs.toArray] w fun v w' => v = .int .i64 e.size ∧ Ext w w' := by
  induction e using Ex.ind with
  | h k n p c ks ih =>
  intro hs cs w hx
  have hge := sizeL_ge ks
  skip
  simp only [Ex.size] at hs
  obtain ⟨A, cap, rfl, hks⟩ := hx.inv
  refine CallsR.enter Try.func89 (by decide +kernel) rfl Try.ntmps89 rfl ?_
  repeat' (first
    | refine EW.seq ?_
    | refine EW.region ?_)
  refine EL.h (Hv.boxA (sz := 5) rfl rfl) rfl (fun _ => rfl) ?_
  rintro _ w1 ⟨g1, rfl, hg1, hb, he1⟩
  repeat' (first
    | (show EL _ _ _ _ (_ :: _) _ _
       first
       | (show EL _ _ _ _ (⟨_, .fieldAddr _ _ _, _, _, _, _⟩ :: _) _ _; refine EL.f (FV.fieldAddr rfl rfl rfl rfl rfl) rfl rfl ?_)
       | (show EL _ _ _ _ (⟨_, .load _ _, _, _, _, _⟩ :: _) _ _; refine EL.f (FV.load1 rfl rfl rfl (At.cell hb rfl)) rfl rfl ?_)
       | (show EL _ _ _ _ (⟨_, .move _, _, _, _, _⟩ :: _) _ _; refine EL.f (FV.move rfl) rfl rfl ?_)
       | (show EL _ _ _ _ (⟨_, .assign _, _, _, _, _⟩ :: _) _ _; refine EL.f (FV.assign rfl) rfl rfl ?_)
       | (show EL _ _ _ _ (⟨_, .call _, _, _, _, _⟩ :: _) _ _; refine EL.f (FV.len rfl rfl) rfl rfl ?_))
    | refine EL.nil ?_
    | refine EW.seq ?_
    | refine EW.region ?_
    | refine EW.block ?_)
  refine EW.loop (X := Nat) (fun i wr => i ≤ ks.length ∧ Ext w wr) (fun i => [(3, .int .i64 (Ex.sizeL (ks.take i) + 1 : Nat)), (7, .slice A ks.length cap), (8, .int .i64 ks.length), (9, .int .i64 i)]) (fun i => ks.length - i) 0 ⟨Nat.zero_le _, he1⟩ ⟨rfl, rfl, rfl, rfl, trivial⟩ ?_
  rintro i wr ⟨hi, hE⟩
  by_cases hlt : i < ks.length
  · obtain ⟨b, o, cs, rfl, hL, hX, hc⟩ := (hks.ext hE).kid hlt
    have hst := sizeL_take hlt
    have hac := sizeL_take hlt
    have hkd := sizeL_kid hlt
    have hcall := ih i hlt (by omega)
    have hdl := depth_le (ks.getD i dEx)
    generalize ks.getD i dEx = x at *
    repeat' (first
      | refine EL.f (FV.idx rfl rfl rfl rfl (by omega) (by omega)) rfl rfl ?_
      | refine EL.f (FV.loadAgg (cs := cs) rfl rfl rfl hc rfl (fun _ e => e ▸ hL)) rfl rfl ?_
      | refine EL.fT (FV.lss rfl rfl) rfl (fun _ => rfl) (by omega) ?_
      | refine EL.nil ?_
      | refine EW.seq ?_
      | refine EW.region ?_
      | refine EW.block ?_
      | refine EW.skip ?_
      | refine EW.condT rfl ?_)
    refine EL.h (Hv.allocA rfl rfl) rfl (fun _ => rfl) ?_
    rintro _ w3 ⟨g5, rfl, hg5, h5, he3⟩
    skip
    refine EL.h (Hv.storeAggG (vs := cs) rfl rfl rfl hc hX.one h5 (by rw [hc]; exact Nat.le_refl _)) rfl (fun _ => rfl) ?_
    rintro _ w4 ⟨h5', hr4⟩
    have hE4 : Ext wr w4 := Below.wr he3 hr4 (by omega) (Nat.le_refl _)
    replace h5' : At w4 59 5 g5 1 1 cs := by
      rw [setL_eq _ _ _ (by rw [hc]; exact Nat.le_refl _)] at h5'
      simpa [hc, Value.cells] using h5'
    repeat' (first
      | refine EL.f (FV.loadAgg (cs := cs) rfl rfl rfl hc rfl (fun _ e => e ▸ At.lies h5')) rfl rfl ?_
      | refine EL.f (FV.move rfl) rfl rfl ?_
      | refine EL.nil ?_
      | refine EW.region ?_)
    refine EL.h (Hv.call (hcall cs w4 (hX.ext hE4)) rfl) rfl (fun _ => rfl) ?_
    rintro _ w5 ⟨rfl, he5⟩
    repeat' (first
      | refine EL.f (FV.move rfl) rfl rfl ?_
      | refine EL.f (FV.assign rfl) rfl rfl ?_
      | refine EL.f (FV.addI rfl rfl (by omega)) rfl rfl ?_
      | refine EL.nil ?_
      | refine EW.region ?_)
    exact ⟨i + 1, ⟨by rw [hac]; exact (show some (Value.int .i64 _) = some (Value.int .i64 _) from by congr 2; push_cast; omega), rfl, rfl, rfl, trivial⟩, ⟨by omega, (hE.trans hE4).trans he5⟩, by omega⟩
  · obtain rfl : i = ks.length := by omega
    rw [List.take_length]
    repeat' (first
      | refine EL.f (FV.move rfl) rfl rfl ?_
      | refine EL.f (FV.assign rfl) rfl rfl ?_
      | refine EL.fF (FV.lss rfl rfl) rfl (fun _ => rfl) (by omega) ?_
      | refine EL.nil ?_
      | refine EW.seq ?_
      | refine EW.region ?_
      | refine EW.exit ?_
      | refine EW.ret ?_
      | refine EW.condF rfl ?_)
    exact ⟨_, rfl, by rw [Ex.size], hE⟩
theorem implDepth (e : Ex) : e.size ≤ 1048577 → ∀ cs w, ExB w 0 cs e → CallsR Try.prog 105 [.agg cs.toArray] w fun v w' => v = .int .i64 e.depth ∧ Ext w w' := by
  induction e using Ex.ind with
  | h k n p c ks ih =>
  intro hs cs w hx
  have hge := sizeL_ge ks
  have hdL := depthL_le ks (fun x _ => depth_le x)
  simp only [Ex.size] at hs
  obtain ⟨A, cap, rfl, hks⟩ := hx.inv
  refine CallsR.enter Try.func105 (by decide +kernel) rfl Try.ntmps105 rfl ?_
  repeat' (first
    | refine EW.seq ?_
    | refine EW.region ?_)
  refine EL.h (Hv.boxA (sz := 5) rfl rfl) rfl (fun _ => rfl) ?_
  rintro _ w1 ⟨g1, rfl, hg1, hb, he1⟩
  repeat' (first
    | (show EL _ _ _ _ (_ :: _) _ _
       first
       | (show EL _ _ _ _ (⟨_, .fieldAddr _ _ _, _, _, _, _⟩ :: _) _ _; refine EL.f (FV.fieldAddr rfl rfl rfl rfl rfl) rfl rfl ?_)
       | (show EL _ _ _ _ (⟨_, .load _ _, _, _, _, _⟩ :: _) _ _; refine EL.f (FV.load1 rfl rfl rfl (At.cell hb rfl)) rfl rfl ?_)
       | (show EL _ _ _ _ (⟨_, .move _, _, _, _, _⟩ :: _) _ _; refine EL.f (FV.move rfl) rfl rfl ?_)
       | (show EL _ _ _ _ (⟨_, .assign _, _, _, _, _⟩ :: _) _ _; refine EL.f (FV.assign rfl) rfl rfl ?_)
       | (show EL _ _ _ _ (⟨_, .call _, _, _, _, _⟩ :: _) _ _; refine EL.f (FV.len rfl rfl) rfl rfl ?_))
    | refine EL.nil ?_
    | refine EW.seq ?_
    | refine EW.region ?_
    | refine EW.block ?_)
  refine EW.loop (X := Nat) (fun i wr => i ≤ ks.length ∧ Ext w wr) (fun i => [(3, .int .i64 (Ex.depthL (ks.take i) : Nat)), (7, .slice A ks.length cap), (8, .int .i64 ks.length), (9, .int .i64 i)]) (fun i => ks.length - i) 0 ⟨Nat.zero_le _, he1⟩ ⟨rfl, rfl, rfl, rfl, trivial⟩ ?_
  rintro i wr ⟨hi, hE⟩
  by_cases hlt : i < ks.length
  · obtain ⟨b, o, cs, rfl, hL, hX, hc⟩ := (hks.ext hE).kid hlt
    have hst := sizeL_take hlt
    have hac := depthL_take hlt
    have hkd := sizeL_kid hlt
    have hcall := ih i hlt (by omega)
    have hdl := depth_le (ks.getD i dEx)
    generalize ks.getD i dEx = x at *
    repeat' (first
      | refine EL.f (FV.idx rfl rfl rfl rfl (by omega) (by omega)) rfl rfl ?_
      | refine EL.f (FV.loadAgg (cs := cs) rfl rfl rfl hc rfl (fun _ e => e ▸ hL)) rfl rfl ?_
      | refine EL.fT (FV.lss rfl rfl) rfl (fun _ => rfl) (by omega) ?_
      | refine EL.nil ?_
      | refine EW.seq ?_
      | refine EW.region ?_
      | refine EW.block ?_
      | refine EW.skip ?_
      | refine EW.condT rfl ?_)
    refine EL.h (Hv.allocA rfl rfl) rfl (fun _ => rfl) ?_
    rintro _ w3 ⟨g5, rfl, hg5, h5, he3⟩
    skip
    refine EL.h (Hv.storeAggG (vs := cs) rfl rfl rfl hc hX.one h5 (by rw [hc]; exact Nat.le_refl _)) rfl (fun _ => rfl) ?_
    rintro _ w4 ⟨h5', hr4⟩
    have hE4 : Ext wr w4 := Below.wr he3 hr4 (by omega) (Nat.le_refl _)
    replace h5' : At w4 59 5 g5 1 1 cs := by
      rw [setL_eq _ _ _ (by rw [hc]; exact Nat.le_refl _)] at h5'
      simpa [hc, Value.cells] using h5'
    repeat' (first
      | refine EL.f (FV.loadAgg (cs := cs) rfl rfl rfl hc rfl (fun _ e => e ▸ At.lies h5')) rfl rfl ?_
      | refine EL.f (FV.move rfl) rfl rfl ?_
      | refine EL.nil ?_
      | refine EW.region ?_)
    refine EL.h (Hv.call (hcall cs w4 (hX.ext hE4)) rfl) rfl (fun _ => rfl) ?_
    rintro _ w5 ⟨rfl, he5⟩
    repeat' (first
      | refine EL.f (FV.move rfl) rfl rfl ?_
      | refine EL.f (FV.assign rfl) rfl rfl ?_
      | refine EL.f (FV.addI rfl rfl (by omega)) rfl rfl ?_
      | refine EL.nil ?_
      | refine EL.f (FV.max2 rfl rfl) rfl rfl ?_
      | refine EW.region ?_)
    exact ⟨i + 1, ⟨by rw [hac]; rfl, rfl, rfl, rfl, trivial⟩, ⟨by omega, (hE.trans hE4).trans he5⟩, by omega⟩
  · obtain rfl : i = ks.length := by omega
    rw [List.take_length]
    repeat' (first
      | (show EL _ _ _ _ (_ :: _) _ _
         first
         | (show EL _ _ _ _ (⟨_, .move _, _, _, _, _⟩ :: _) _ _; refine EL.f (FV.move rfl) rfl rfl ?_)
         | (show EL _ _ _ _ (⟨_, .assign _, _, _, _, _⟩ :: _) _ _; refine EL.f (FV.assign rfl) rfl rfl ?_)
         | (show EL _ _ _ _ (⟨_, .binOp .add _ _ _ _, _, _, _, _⟩ :: _) _ _; refine EL.f (FV.addI rfl rfl (by omega)) rfl rfl ?_)
         | (show EL _ _ _ _ (⟨_, .binOp .lss _ _ _ _, _, _, _, _⟩ :: _) _ _; refine EL.fF (FV.lss rfl rfl) rfl (fun _ => rfl) (by omega) ?_))
      | refine EL.nil ?_
      | refine EW.seq ?_
      | refine EW.region ?_
      | refine EW.exit ?_
      | refine EW.ret ?_
      | refine EW.condF rfl ?_)
    exact ⟨_, rfl, by rw [Ex.depth]; push_cast; rfl, hE⟩
theorem specMax (a b : Nat) (w : World) : CallsR Try.prog 116 [.int .i64 a, .int .i64 b] w fun v w' => v = .int .i64 (max a b : Nat) ∧ w = w' := by
  refine CallsR.enter Try.func116 (by decide +kernel) rfl Try.ntmps116 rfl ?_
  by_cases h : b < a
  · repeat' (first
      | refine EL.f (FV.move rfl) rfl rfl ?_
      | refine EL.f (FV.assign rfl) rfl rfl ?_
      | refine EL.fT (FV.gtr rfl rfl) rfl (fun _ => rfl) (by omega) ?_
      | refine EL.nil ?_
      | refine EW.seq ?_
      | refine EW.region ?_
      | refine EW.ret ?_
      | refine EW.condT rfl ?_)
    exact ⟨_, rfl, by rw [Nat.max_eq_left (by omega)], rfl⟩
  · repeat' (first
      | refine EL.f (FV.move rfl) rfl rfl ?_
      | refine EL.f (FV.assign rfl) rfl rfl ?_
      | refine EL.fF (FV.gtr rfl rfl) rfl (fun _ => rfl) (by omega) ?_
      | refine EL.nil ?_
      | refine EW.seq ?_
      | refine EW.region ?_
      | refine EW.skip ?_
      | refine EW.ret ?_
      | refine EW.condF rfl ?_)
    exact ⟨_, rfl, by rw [Nat.max_eq_right (by omega)], rfl⟩
theorem specDepth (e : Ex) : e.size ≤ 1048577 → ∀ b o w, ExP w b o e → CallsR Try.prog 113 [.pointer (some ⟨b, o, none⟩)] w fun v w' => v = .int .i64 e.depth ∧ Ext w w' := by
  induction e using Ex.ind with
  | h k n p c ks ih =>
  intro hs b o w hx
  have hge := sizeL_ge ks
  have hdL := depthL_le ks (fun x _ => depth_le x)
  simp only [Ex.size] at hs
  obtain ⟨cs0, hL0, hX0⟩ := hx
  obtain ⟨A, cap, rfl, hks⟩ := hX0.inv
  refine CallsR.enter Try.func113 (by decide +kernel) rfl Try.ntmps113 rfl ?_
  repeat' (first
    | refine EL.f (FV.assign rfl) rfl rfl ?_
    | refine EL.nil ?_
    | refine EW.seq ?_
    | refine EW.region ?_
    | refine EW.block ?_)
  refine EW.loop (X := Nat) (fun i wr => i ≤ ks.length ∧ Ext w wr) (fun i => [(0, .pointer (some ⟨b, o, none⟩)), (3, .int .i64 (Ex.depthL (ks.take i) : Nat)), (4, .int .i64 i)]) (fun i => ks.length - i) 0 ⟨Nat.zero_le _, Ext.refl _⟩ ⟨rfl, rfl, rfl, trivial⟩ ?_
  rintro i wr ⟨hi, hE⟩
  have h4 := (hL0.ext hE) 4 _ rfl
  by_cases hlt : i < ks.length
  · obtain ⟨b1, o1, cs, rfl, hL, hX, hc⟩ := (hks.ext hE).kid hlt
    have hst := sizeL_take hlt
    have hac := depthL_take hlt
    have hkd := sizeL_kid hlt
    have hcall := ih i hlt (by omega)
    have hdl := depth_le (ks.getD i dEx)
    generalize ks.getD i dEx = x at *
    repeat' (first
      | (show EL _ _ _ _ (_ :: _) _ _
         first
         | (show EL _ _ _ _ (⟨_, .nilCheck _, _, _, _, _⟩ :: _) _ _; refine EL.f (FV.nilChk rfl) rfl rfl ?_)
         | (show EL _ _ _ _ (⟨_, .fieldAddr _ _ _, _, _, _, _⟩ :: _) _ _; refine EL.f (FV.fieldAddr rfl rfl rfl rfl rfl) rfl rfl ?_)
         | (show EL _ _ _ _ (⟨_, .load _ _, _, _, _, _⟩ :: _) _ _; refine EL.f (FV.load1 rfl rfl rfl (h4)) rfl rfl ?_)
         | (show EL _ _ _ _ (⟨_, .indexAddr _ _ _, _, _, _, _⟩ :: _) _ _; refine EL.f (FV.idx rfl rfl rfl rfl (by omega) (by omega)) rfl rfl ?_)
         | (show EL _ _ _ _ (⟨_, .move _, _, _, _, _⟩ :: _) _ _; refine EL.f (FV.move rfl) rfl rfl ?_)
         | (show EL _ _ _ _ (⟨_, .call _, _, _, _, _⟩ :: _) _ _; refine EL.f (FV.len rfl rfl) rfl rfl ?_)
         | (show EL _ _ _ _ (⟨_, .binOp .lss _ _ _ _, _, _, _, _⟩ :: _) _ _; refine EL.fT (FV.lss rfl rfl) rfl (fun _ => rfl) (by omega) ?_))
      | refine EL.nil ?_
      | refine EW.seq ?_
      | refine EW.region ?_
      | refine EW.block ?_
      | refine EW.skip ?_
      | refine EW.condT rfl ?_)
    refine EL.h (Hv.call (hcall b1 (o1 + i * 5) wr ⟨cs, hL, hX⟩) rfl) rfl (fun _ => rfl) ?_
    rintro _ w5 ⟨rfl, he5⟩
    repeat' (first
      | (show EL _ _ _ _ (_ :: _) _ _
         first
         | (show EL _ _ _ _ (⟨_, .call _, _, _, _, _⟩ :: _) _ _; (refine EL.h (Hv.call (specMax _ _ _) rfl) rfl (fun _ => rfl) ?_; rintro _ _ ⟨rfl, rfl⟩))
         | (show EL _ _ _ _ (⟨_, .move _, _, _, _, _⟩ :: _) _ _; refine EL.f (FV.move rfl) rfl rfl ?_)
         | (show EL _ _ _ _ (⟨_, .assign _, _, _, _, _⟩ :: _) _ _; refine EL.f (FV.assign rfl) rfl rfl ?_)
         | (show EL _ _ _ _ (⟨_, .binOp .add _ _ _ _, _, _, _, _⟩ :: _) _ _; refine EL.f (FV.addI rfl rfl (by omega)) rfl rfl ?_))
      | refine EL.nil ?_
      | refine EW.region ?_)
    exact ⟨i + 1, ⟨rfl, by rw [hac]; rfl, rfl, trivial⟩, ⟨by omega, hE.trans he5⟩, by omega⟩
  · obtain rfl : i = ks.length := by omega
    rw [List.take_length]
    repeat' (first
      | (show EL _ _ _ _ (_ :: _) _ _
         first
         | (show EL _ _ _ _ (⟨_, .nilCheck _, _, _, _, _⟩ :: _) _ _; refine EL.f (FV.nilChk rfl) rfl rfl ?_)
         | (show EL _ _ _ _ (⟨_, .fieldAddr _ _ _, _, _, _, _⟩ :: _) _ _; refine EL.f (FV.fieldAddr rfl rfl rfl rfl rfl) rfl rfl ?_)
         | (show EL _ _ _ _ (⟨_, .load _ _, _, _, _, _⟩ :: _) _ _; refine EL.f (FV.load1 rfl rfl rfl (h4)) rfl rfl ?_)
         | (show EL _ _ _ _ (⟨_, .move _, _, _, _, _⟩ :: _) _ _; refine EL.f (FV.move rfl) rfl rfl ?_)
         | (show EL _ _ _ _ (⟨_, .assign _, _, _, _, _⟩ :: _) _ _; refine EL.f (FV.assign rfl) rfl rfl ?_)
         | (show EL _ _ _ _ (⟨_, .binOp .add _ _ _ _, _, _, _, _⟩ :: _) _ _; refine EL.f (FV.addI rfl rfl (by omega)) rfl rfl ?_)
         | (show EL _ _ _ _ (⟨_, .call _, _, _, _, _⟩ :: _) _ _; refine EL.f (FV.len rfl rfl) rfl rfl ?_)
         | (show EL _ _ _ _ (⟨_, .binOp .lss _ _ _ _, _, _, _, _⟩ :: _) _ _; refine EL.fF (FV.lss rfl rfl) rfl (fun _ => rfl) (by omega) ?_))
      | refine EL.nil ?_
      | refine EW.seq ?_
      | refine EW.region ?_
      | refine EW.exit ?_
      | refine EW.ret ?_
      | refine EW.condF rfl ?_)
    exact ⟨_, rfl, by rw [Ex.depth]; push_cast; rfl, hE⟩
end Eng
end Go.Proofs.Ytgahkbcfjibjaaa
