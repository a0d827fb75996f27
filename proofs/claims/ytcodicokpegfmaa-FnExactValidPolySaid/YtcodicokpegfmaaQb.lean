/- ValidPoly: what it says, and the contracts of both sides. Conditions: the number of exponents and terms. -/
import Derived.Test.YtcodicokpegfmaaQa
import Derived.Test.YtcodicokpegfmaaVe
import Derived.Test.YtcodicokpegfmaaEd
namespace Go.Proofs.Ytcodicokpegfmaa
open Go Go.RowKit
namespace Eng
def sumI : List Int → Int
  | [] => 0
  | x :: xs => x + sumI xs
theorem sumI_append (xs ys : List Int) : sumI (xs ++ ys) = sumI xs + sumI ys := by
  induction xs with
  | nil => simp [sumI]
  | cons x xs ih => simp only [List.cons_append, sumI, ih]; omega
theorem sumI_take {xs : List Int} {i : Nat} (h : i < xs.length) : sumI (xs.take (i + 1)) = sumI (xs.take i) + xs.getD i 0 := by
  rw [take_next (d := 0) h, sumI_append]
  simp [sumI]
theorem sumI_split (xs : List Int) (i : Nat) : sumI xs = sumI (xs.take i) + sumI (xs.drop i) := by
  rw [← sumI_append, List.take_append_drop]
theorem sumI_bound {xs : List Int} (h : ∀ x, x ∈ xs → 0 ≤ x ∧ x ≤ 12) : 0 ≤ sumI xs ∧ sumI xs ≤ 12 * (xs.length : Nat) := by
  induction xs with
  | nil => simp [sumI]
  | cons x xs ih =>
    have h1 := h x List.mem_cons_self
    have h2 := ih fun y hy => h y (List.mem_cons_of_mem _ hy)
    simp only [sumI, List.length_cons]
    omega
def degOk (xs : List Int) : Bool := (!xs.any fun n => !decide (0 ≤ n ∧ n ≤ 12)) && decide (sumI xs ≤ 12)
theorem deg_any {xs : List Int} (h : (xs.any fun n => !decide (0 ≤ n ∧ n ≤ 12)) = false) : ∀ x, x ∈ xs → 0 ≤ x ∧ x ≤ 12 := by
  intro x hx
  rw [List.any_eq_false] at h
  have := h x hx
  simpa using this
theorem degOk_false {xs : List Int} {k : Nat} (hk : k < xs.length) (h : ¬ (0 ≤ xs.getD k 0 ∧ xs.getD k 0 ≤ 12 - sumI (xs.take k))) : degOk xs = false := by
  cases hd : degOk xs
  · rfl
  exfalso
  unfold degOk at hd
  rw [Bool.and_eq_true, Bool.not_eq_true', decide_eq_true_eq] at hd
  have ha := deg_any hd.1
  have h1 := ha (xs.getD k 0) (by simp [hk])
  have h2 := sumI_split xs (k + 1)
  rw [sumI_take hk] at h2
  have h3 := (sumI_bound (xs := xs.drop (k + 1)) fun x hx => ha x (List.mem_of_mem_drop hx)).1
  have := hd.2
  omega
theorem degOk_true {xs : List Int} (h : ∀ j, j < xs.length → 0 ≤ xs.getD j 0 ∧ xs.getD j 0 ≤ 12) (hs : sumI xs ≤ 12) : degOk xs = true := by
  have ha := all_getD (d := 0) (Q := fun x => 0 ≤ x ∧ x ≤ 12) h
  have : (xs.any fun n => !decide (0 ≤ n ∧ n ≤ 12)) = false := by
    rw [List.any_eq_false]
    intro x hx
    simp only [Bool.not_eq_true, Bool.not_eq_false', decide_eq_true_eq]
    exact ha x hx
  rw [degOk, this, decide_eq_true hs]
  rfl
def tmOk (vars : Int) (t : Tm) : Bool := decide ((t.exps.length : Int) = vars) && (decide (1 ≤ t.coef ∧ t.coef ≤ 1000002) && degOk t.exps)
def cmpL : List Int → List Int → Int
  | [], [] => 0
  | [], _ :: _ => -1
  | _ :: _, [] => 1
  | x :: xs, y :: ys => if x < y then -1 else if y < x then 1 else cmpL xs ys
theorem cmpL_lt : ∀ {xs ys : List Int} {i : Nat}, xs.length = ys.length → i < xs.length → (∀ j, j < i → xs.getD j 0 = ys.getD j 0) → xs.getD i 0 < ys.getD i 0 → cmpL xs ys = -1
  | [], _, i, _, h, _, _ => by simp at h
  | _ :: _, [], _, h, _, _, _ => by simp at h
  | x :: xs, y :: ys, 0, _, _, _, h => by rw [cmpL, if_pos (show x < y from h)]
  | x :: xs, y :: ys, i + 1, hl, hi, he, h => by
    have h0 : x = y := he 0 (by omega)
    rw [cmpL, if_neg (by omega), if_neg (by omega)]
    exact cmpL_lt (i := i) (by simpa using hl) (by simpa using hi) (fun j hj => he (j + 1) (by omega)) h
theorem cmpL_gt : ∀ {xs ys : List Int} {i : Nat}, xs.length = ys.length → i < xs.length → (∀ j, j < i → xs.getD j 0 = ys.getD j 0) → ys.getD i 0 < xs.getD i 0 → cmpL xs ys = 1
  | [], _, i, _, h, _, _ => by simp at h
  | _ :: _, [], _, h, _, _, _ => by simp at h
  | x :: xs, y :: ys, 0, _, _, _, h => by
    have h' : y < x := h
    rw [cmpL, if_neg (by omega), if_pos h']
  | x :: xs, y :: ys, i + 1, hl, hi, he, h => by
    have h0 : x = y := he 0 (by omega)
    rw [cmpL, if_neg (by omega), if_neg (by omega)]
    exact cmpL_gt (i := i) (by simpa using hl) (by simpa using hi) (fun j hj => he (j + 1) (by omega)) h
theorem cmpL_eq : ∀ {xs ys : List Int}, xs.length = ys.length → (∀ j, j < xs.length → xs.getD j 0 = ys.getD j 0) → cmpL xs ys = 0
  | [], [], _, _ => rfl
  | [], _ :: _, h, _ => by simp at h
  | _ :: _, [], h, _ => by simp at h
  | x :: xs, y :: ys, hl, he => by
    have h0 : x = y := he 0 (by simp)
    rw [cmpL, if_neg (by omega), if_neg (by omega)]
    exact cmpL_eq (by simpa using hl) fun j hj => he (j + 1) (by simpa using hj)
def ordOk (ts : List Tm) (i : Nat) : Bool := decide (i = 0) || decide (cmpL (ts.getD (i - 1) dTm).exps (ts.getD i dTm).exps < 0)
def tOk (vars : Int) (ts : List Tm) (i : Nat) : Bool := tmOk vars (ts.getD i dTm) && ordOk ts i
def validY (q : Po) : Bool := decide (0 ≤ q.vars ∧ q.vars ≤ 12) && (decide (q.terms.length ≤ 120) && (List.range q.terms.length).all (tOk q.vars q.terms))
theorem validY_vars {q : Po} (h : ¬ (0 ≤ q.vars ∧ q.vars ≤ 12)) : validY q = false := by rw [validY, decide_eq_false h, Bool.false_and]
theorem validY_long {q : Po} (h : ¬ q.terms.length ≤ 120) : validY q = false := by rw [validY, decide_eq_false h, Bool.false_and, Bool.and_false]
theorem validY_at {q : Po} {i : Nat} (hi : i < q.terms.length) (h : tOk q.vars q.terms i = false) : validY q = false := by
  have : (List.range q.terms.length).all (tOk q.vars q.terms) = false := by
    rw [List.all_eq_false]
    exact ⟨i, List.mem_range.2 hi, by rw [h]; simp⟩
  rw [validY, this, Bool.and_false, Bool.and_false]
theorem validY_all {q : Po} (h1 : 0 ≤ q.vars ∧ q.vars ≤ 12) (h2 : q.terms.length ≤ 120) (ha : ∀ i, i < q.terms.length → tOk q.vars q.terms i = true) : validY q = true := by
  rw [validY, decide_eq_true h1, decide_eq_true h2, Bool.true_and, Bool.true_and, List.all_eq_true]
  intro i hi
  exact ha i (List.mem_range.1 hi)
theorem tOk_len {vars : Int} {ts : List Tm} {i : Nat} (h : tOk vars ts i = true) : ((ts.getD i dTm).exps.length : Int) = vars := by
  rw [tOk, tmOk, Bool.and_eq_true, Bool.and_eq_true, decide_eq_true_eq] at h
  exact h.1.1
theorem tOk_tm {vars : Int} {ts : List Tm} {i : Nat} (h : tmOk vars (ts.getD i dTm) = false) : tOk vars ts i = false := by rw [tOk, h, Bool.false_and]
theorem tOk_ord {vars : Int} {ts : List Tm} {i : Nat} (h : ordOk ts i = false) : tOk vars ts i = false := by rw [tOk, h, Bool.and_false]
theorem tOk_true {vars : Int} {ts : List Tm} {i : Nat} (h : tmOk vars (ts.getD i dTm) = true) (h2 : ordOk ts i = true) : tOk vars ts i = true := by rw [tOk, h, h2]; rfl
theorem tmOk_len {vars : Int} {t : Tm} (h : ¬ (t.exps.length : Int) = vars) : tmOk vars t = false := by rw [tmOk, decide_eq_false h, Bool.false_and]
theorem tmOk_coef {vars : Int} {t : Tm} (h : ¬ (1 ≤ t.coef ∧ t.coef ≤ 1000002)) : tmOk vars t = false := by rw [tmOk, decide_eq_false h, Bool.false_and, Bool.and_false]
theorem tmOk_deg {vars : Int} {t : Tm} (h : degOk t.exps = false) : tmOk vars t = false := by rw [tmOk, h, Bool.and_false, Bool.and_false]
theorem tmOk_true {vars : Int} {t : Tm} (h1 : (t.exps.length : Int) = vars) (h2 : 1 ≤ t.coef ∧ t.coef ≤ 1000002) (h3 : degOk t.exps = true) : tmOk vars t = true := by rw [tmOk, decide_eq_true h1, decide_eq_true h2, h3]; rfl
theorem ordOk_zero (ts : List Tm) : ordOk ts 0 = true := rfl
theorem ordOk_pos {ts : List Tm} {i : Nat} (h : 0 < i) : ordOk ts i = decide (cmpL (ts.getD (i - 1) dTm).exps (ts.getD i dTm).exps < 0) := by rw [ordOk, decide_eq_false (by omega), Bool.false_or]
/-- an operation that is passed over, as its guard's own operation was -/
theorem off_spec {n : Nat} {ops : Array Oper} {o : Oper} {ρ : Env} {a : Act} (ha : Fits ρ n a) (hg : offE ops ρ o = true) : Region.wanted o (yielded ops a.tmps) = false := by
  unfold offE at hg
  unfold Region.wanted
  cases h1 : o.guard with
  | none => simp [h1] at hg
  | some jw =>
    obtain ⟨j, want⟩ := jw
    simp only [h1] at hg ⊢
    cases h2 : ops[j]? with
    | none => simp [h2] at hg
    | some oj =>
      simp only [h2] at hg
      cases h3 : oj.dst with
      | none => simp [h3] at hg
      | some d =>
        simp only [h3] at hg
        cases h4 : get ρ d with
        | none => simp [h4] at hg
        | some v =>
          have hv := ha.val d v h4
          cases v <;> simp [h4] at hg
          unfold yielded
          simp only [h2, Option.bind_some, h3, hv]
          rfl
theorem EP.skipU {P : Program} {n : Nat} {ops : Array Oper} {S : World → Prop} {Q : Env → World → Prop} {rest : List (Nat × Bool)} {i : Nat} {o : Oper} {ρ ρ' : Env} {w : World} (ho : ops[i]? = some o) (hg : offE ops ρ o = true) (hd : putE n o.dst undef ρ = some ρ') (k : EP P n ops S Q rest ρ' w) : EP P n ops S Q ((i, true) :: rest) ρ w :=
  ⟨fun hs listed hp a ha hS => by
    simp only [planB, Bool.and_eq_true] at hp
    obtain ⟨hf, hr, hp⟩ := hp
    refine anyS_take ho hs (fun _ _ _ h => h) _ listed a w (Region.free_spec ho hf) (by simpa using hr) (.inr ⟨off_spec ha hg, rfl⟩) hS ?_
    exact k.out hs _ hp _ (ha.put hd) hS⟩
/-! the library -/
theorem implNaN (x : Int) (w : World) : CallsR Try.prog 96 [.int .i64 x] w fun v w' => v = .bool false ∧ w = w' := by
  refine CallsR.enter Try.func96 (by decide +kernel) rfl Try.ntmps96 rfl ?_
  repeat' (first
    | refine EL.f (FV.move rfl) rfl rfl ?_
    | refine EL.f (FV.assign rfl) rfl rfl ?_
    | refine EL.fF (FV.neq rfl rfl) rfl (fun _ => rfl) (by omega) ?_
    | refine EL.nil ?_
    | refine EW.seq ?_
    | refine EW.region ?_
    | refine EW.ret ?_)
  exact ⟨_, rfl, rfl, rfl⟩
def cmpI (x y : Int) : Int := if x < y then -1 else if y < x then 1 else 0
theorem implCmp1 (x y : Int) (w : World) : CallsR Try.prog 85 [.int .i64 x, .int .i64 y] w fun v w' => v = .int .i64 (cmpI x y) ∧ w = w' := by
  refine CallsR.enter Try.func85 (by decide +kernel) rfl Try.ntmps85 rfl ?_
  unfold cmpI
  by_cases h1 : x < y
  · rw [if_pos h1]
    repeat' (first
      | (show EL _ _ _ _ (_ :: _) _ _
         first
         | (show EL _ _ _ _ (⟨_, .call _, _, _, _, _⟩ :: _) _ _; (refine EL.h (Hv.call (implNaN _ _) rfl) rfl (fun _ => rfl) ?_; rintro _ _ ⟨rfl, rfl⟩))
         | (show EL _ _ _ _ (⟨_, .move _, _, _, _, _⟩ :: _) _ _; refine EL.f (FV.move rfl) rfl rfl ?_)
         | (show EL _ _ _ _ (⟨_, .assign _, _, _, _, _⟩ :: _) _ _; refine EL.f (FV.assign rfl) rfl rfl ?_)
         | (show EL _ _ _ _ (⟨_, .binOp .lss _ _ _ _, _, _, _, _⟩ :: _) _ _; refine EL.fT (FV.lss rfl rfl) rfl (fun _ => rfl) (by omega) ?_))
      | refine EL.nil ?_
      | refine EW.seq ?_
      | refine EW.region ?_
      | refine EW.skip ?_
      | refine EW.ret ?_
      | refine EW.condT rfl ?_
      | refine EW.condF rfl ?_)
    exact ⟨_, rfl, rfl, rfl⟩
  rw [if_neg h1]
  by_cases h2 : y < x
  · rw [if_pos h2]
    repeat' (first
      | (show EL _ _ _ _ (_ :: _) _ _
         first
         | (show EL _ _ _ _ (⟨_, .call _, _, _, _, _⟩ :: _) _ _; (refine EL.h (Hv.call (implNaN _ _) rfl) rfl (fun _ => rfl) ?_; rintro _ _ ⟨rfl, rfl⟩))
         | (show EL _ _ _ _ (⟨_, .move _, _, _, _, _⟩ :: _) _ _; refine EL.f (FV.move rfl) rfl rfl ?_)
         | (show EL _ _ _ _ (⟨_, .assign _, _, _, _, _⟩ :: _) _ _; refine EL.f (FV.assign rfl) rfl rfl ?_)
         | (show EL _ _ _ _ (⟨_, .binOp .gtr _ _ _ _, _, _, _, _⟩ :: _) _ _; refine EL.fT (FV.gtr rfl rfl) rfl (fun _ => rfl) (by omega) ?_)
         | (show EL _ _ _ _ (⟨_, .binOp .lss _ _ _ _, _, _, _, _⟩ :: _) _ _; refine EL.fF (FV.lss rfl rfl) rfl (fun _ => rfl) (by omega) ?_))
      | refine EL.nil ?_
      | refine EW.seq ?_
      | refine EW.region ?_
      | refine EW.skip ?_
      | refine EW.ret ?_
      | refine EW.condT rfl ?_
      | refine EW.condF rfl ?_)
    exact ⟨_, rfl, rfl, rfl⟩
  · rw [if_neg h2]
    repeat' (first
      | (show EL _ _ _ _ (_ :: _) _ _
         first
         | (show EL _ _ _ _ (⟨_, .call _, _, _, _, _⟩ :: _) _ _; (refine EL.h (Hv.call (implNaN _ _) rfl) rfl (fun _ => rfl) ?_; rintro _ _ ⟨rfl, rfl⟩))
         | (show EL _ _ _ _ (⟨_, .move _, _, _, _, _⟩ :: _) _ _; refine EL.f (FV.move rfl) rfl rfl ?_)
         | (show EL _ _ _ _ (⟨_, .assign _, _, _, _, _⟩ :: _) _ _; refine EL.f (FV.assign rfl) rfl rfl ?_)
         | (show EL _ _ _ _ (⟨_, .binOp .lss _ _ _ _, _, _, _, _⟩ :: _) _ _; refine EL.fF (FV.lss rfl rfl) rfl (fun _ => rfl) (by omega) ?_)
         | (show EL _ _ _ _ (⟨_, .binOp .gtr _ _ _ _, _, _, _, _⟩ :: _) _ _; refine EL.fF (FV.gtr rfl rfl) rfl (fun _ => rfl) (by omega) ?_))
      | refine EL.nil ?_
      | refine EW.seq ?_
      | refine EW.region ?_
      | refine EW.skip ?_
      | refine EW.ret ?_
      | refine EW.condF rfl ?_)
    exact ⟨_, rfl, rfl, rfl⟩
theorem implCmp (A B : Option Addr) (c d : Nat) (xs ys : List Int) (w : World) (hx : IsB w 0 A xs) (hy : IsB w 0 B ys) (hl : xs.length = ys.length) : CallsR Try.prog 63 [.slice A xs.length c, .slice B ys.length d] w fun v w' => v = .int .i64 (cmpL xs ys) ∧ Ext w w' := by
  have hr := hx.1
  refine CallsR.enter Try.func63 (by decide +kernel) rfl Try.ntmps63 rfl ?_
  repeat' (first
    | refine EL.f (FV.move rfl) rfl rfl ?_
    | refine EL.f (FV.assign rfl) rfl rfl ?_
    | refine EL.f (FV.len rfl rfl) rfl rfl ?_
    | refine EL.nil ?_
    | refine EW.seq ?_
    | refine EW.region ?_
    | refine EW.block ?_)
  refine EW.loop (X := Nat) (fun k wr => k ≤ xs.length ∧ (∀ j, j < k → xs.getD j 0 = ys.getD j 0) ∧ Ext w wr) (fun k => [(0, .slice A xs.length c), (1, .slice B ys.length d), (9, .slice A xs.length c), (10, .int .i64 xs.length), (11, .int .i64 k)]) (fun k => xs.length - k) 0 ⟨Nat.zero_le _, fun j hj => by omega, Ext.refl _⟩ ⟨rfl, rfl, rfl, rfl, rfl, trivial⟩ ?_
  rintro k wr ⟨hk, he, hE⟩
  by_cases hlt : k < xs.length
  rotate_left
  · obtain rfl : k = xs.length := by omega
    repeat' (first
      | (show EL _ _ _ _ (_ :: _) _ _
         first
         | (show EL _ _ _ _ (⟨_, .move _, _, _, _, _⟩ :: _) _ _; refine EL.f (FV.move rfl) rfl rfl ?_)
         | (show EL _ _ _ _ (⟨_, .assign _, _, _, _, _⟩ :: _) _ _; refine EL.f (FV.assign rfl) rfl rfl ?_)
         | (show EL _ _ _ _ (⟨_, .call _, _, _, _, _⟩ :: _) _ _; refine EL.f (FV.len rfl rfl) rfl rfl ?_)
         | (show EL _ _ _ _ (⟨_, .binOp .lss _ _ _ _, _, _, _, _⟩ :: _) _ _; refine EL.fF (FV.lss rfl rfl) rfl (fun _ => rfl) (by omega) ?_))
      | refine EL.nil ?_
      | refine EW.seq ?_
      | refine EW.region ?_
      | refine EW.skip ?_
      | refine EW.exit ?_
      | refine EW.ret ?_
      | refine EW.condF rfl ?_)
    exact ⟨_, rfl, by rw [cmpL_eq hl he], hE⟩
  obtain ⟨b, o, rfl, hc⟩ := hx.rd.int hlt
  obtain ⟨b2, o2, rfl, hc2⟩ := hy.rd.int (show k < ys.length by omega)
  have c1 := hE.cell hc
  have c2 := hE.cell hc2
  by_cases h1 : xs.getD k 0 < ys.getD k 0
  · have hq : cmpI (xs.getD k 0) (ys.getD k 0) = -1 := if_pos h1
    repeat' (first
      | (show EL _ _ _ _ (_ :: _) _ _
         first
         | (show EL _ _ _ _ (⟨_, .load _ _, _, _, _, _⟩ :: _) _ _; first | refine EL.f (FV.load1 rfl rfl rfl (c1)) rfl rfl ?_ | refine EL.f (FV.load1 rfl rfl rfl (c2)) rfl rfl ?_)
         | (show EL _ _ _ _ (⟨_, .call _, _, _, _, _⟩ :: _) _ _; first | (refine EL.h (Hv.call (implCmp1 _ _ _) rfl) rfl (fun _ => rfl) ?_; rintro _ _ ⟨rfl, rfl⟩; rw [hq]) | refine EL.f (FV.len rfl rfl) rfl rfl ?_)
         | (show EL _ _ _ _ (⟨_, .move _, _, _, _, _⟩ :: _) _ _; refine EL.f (FV.move rfl) rfl rfl ?_)
         | (show EL _ _ _ _ (⟨_, .assign _, _, _, _, _⟩ :: _) _ _; refine EL.f (FV.assign rfl) rfl rfl ?_)
         | (show EL _ _ _ _ (⟨_, .binOp .lss _ _ _ _, _, _, _, _⟩ :: _) _ _; refine EL.fT (FV.lss rfl rfl) rfl (fun _ => rfl) (by omega) ?_)
         | (show EL _ _ _ _ (⟨_, .binOp .neq _ _ _ _, _, _, _, _⟩ :: _) _ _; refine EL.fT (FV.neq rfl rfl) rfl (fun _ => rfl) (by omega) ?_)
         | (show EL _ _ _ _ (⟨_, .binOp .geq _ _ _ _, _, _, _, _⟩ :: _) _ _; refine EL.fF (FV.geq rfl rfl) rfl (fun _ => rfl) (by omega) ?_)
         | (show EL _ _ _ _ (⟨_, .indexAddr _ _ _, _, _, _, _⟩ :: _) _ _; refine EL.f (FV.idx1 rfl rfl rfl rfl (by omega) (by omega)) rfl rfl ?_))
      | refine EL.nil ?_
      | refine EW.seq ?_
      | refine EW.region ?_
      | refine EW.block ?_
      | refine EW.skip ?_
      | refine EW.ret ?_
      | refine EW.condT rfl ?_
      | refine EW.condF rfl ?_)
    exact ⟨_, rfl, by rw [cmpL_lt hl hlt he h1], hE⟩
  by_cases h2 : ys.getD k 0 < xs.getD k 0
  · have hq : cmpI (xs.getD k 0) (ys.getD k 0) = 1 := by rw [cmpI, if_neg h1, if_pos h2]
    repeat' (first
      | (show EL _ _ _ _ (_ :: _) _ _
         first
         | (show EL _ _ _ _ (⟨_, .load _ _, _, _, _, _⟩ :: _) _ _; first | refine EL.f (FV.load1 rfl rfl rfl (c1)) rfl rfl ?_ | refine EL.f (FV.load1 rfl rfl rfl (c2)) rfl rfl ?_)
         | (show EL _ _ _ _ (⟨_, .call _, _, _, _, _⟩ :: _) _ _; first | (refine EL.h (Hv.call (implCmp1 _ _ _) rfl) rfl (fun _ => rfl) ?_; rintro _ _ ⟨rfl, rfl⟩; rw [hq]) | refine EL.f (FV.len rfl rfl) rfl rfl ?_)
         | (show EL _ _ _ _ (⟨_, .move _, _, _, _, _⟩ :: _) _ _; refine EL.f (FV.move rfl) rfl rfl ?_)
         | (show EL _ _ _ _ (⟨_, .assign _, _, _, _, _⟩ :: _) _ _; refine EL.f (FV.assign rfl) rfl rfl ?_)
         | (show EL _ _ _ _ (⟨_, .binOp .lss _ _ _ _, _, _, _, _⟩ :: _) _ _; refine EL.fT (FV.lss rfl rfl) rfl (fun _ => rfl) (by omega) ?_)
         | (show EL _ _ _ _ (⟨_, .binOp .neq _ _ _ _, _, _, _, _⟩ :: _) _ _; refine EL.fT (FV.neq rfl rfl) rfl (fun _ => rfl) (by omega) ?_)
         | (show EL _ _ _ _ (⟨_, .binOp .geq _ _ _ _, _, _, _, _⟩ :: _) _ _; refine EL.fF (FV.geq rfl rfl) rfl (fun _ => rfl) (by omega) ?_)
         | (show EL _ _ _ _ (⟨_, .indexAddr _ _ _, _, _, _, _⟩ :: _) _ _; refine EL.f (FV.idx1 rfl rfl rfl rfl (by omega) (by omega)) rfl rfl ?_))
      | refine EL.nil ?_
      | refine EW.seq ?_
      | refine EW.region ?_
      | refine EW.block ?_
      | refine EW.skip ?_
      | refine EW.ret ?_
      | refine EW.condT rfl ?_
      | refine EW.condF rfl ?_)
    exact ⟨_, rfl, by rw [cmpL_gt hl hlt he h2], hE⟩
  have hq : cmpI (xs.getD k 0) (ys.getD k 0) = 0 := by rw [cmpI, if_neg h1, if_neg h2]
  repeat' (first
    | (show EL _ _ _ _ (_ :: _) _ _
       first
       | (show EL _ _ _ _ (⟨_, .load _ _, _, _, _, _⟩ :: _) _ _; first | refine EL.f (FV.load1 rfl rfl rfl (c1)) rfl rfl ?_ | refine EL.f (FV.load1 rfl rfl rfl (c2)) rfl rfl ?_)
       | (show EL _ _ _ _ (⟨_, .call _, _, _, _, _⟩ :: _) _ _; first | (refine EL.h (Hv.call (implCmp1 _ _ _) rfl) rfl (fun _ => rfl) ?_; rintro _ _ ⟨rfl, rfl⟩; rw [hq]) | refine EL.f (FV.len rfl rfl) rfl rfl ?_)
       | (show EL _ _ _ _ (⟨_, .move _, _, _, _, _⟩ :: _) _ _; refine EL.f (FV.move rfl) rfl rfl ?_)
       | (show EL _ _ _ _ (⟨_, .assign _, _, _, _, _⟩ :: _) _ _; refine EL.f (FV.assign rfl) rfl rfl ?_)
       | (show EL _ _ _ _ (⟨_, .binOp .add _ _ _ _, _, _, _, _⟩ :: _) _ _; refine EL.f (FV.addI rfl rfl (by omega)) rfl rfl ?_)
       | (show EL _ _ _ _ (⟨_, .binOp .lss _ _ _ _, _, _, _, _⟩ :: _) _ _; refine EL.fT (FV.lss rfl rfl) rfl (fun _ => rfl) (by omega) ?_)
       | (show EL _ _ _ _ (⟨_, .binOp .geq _ _ _ _, _, _, _, _⟩ :: _) _ _; refine EL.fF (FV.geq rfl rfl) rfl (fun _ => rfl) (by omega) ?_)
       | (show EL _ _ _ _ (⟨_, .binOp .neq _ _ _ _, _, _, _, _⟩ :: _) _ _; refine EL.fF (FV.neq rfl rfl) rfl (fun _ => rfl) (by omega) ?_)
       | (show EL _ _ _ _ (⟨_, .indexAddr _ _ _, _, _, _, _⟩ :: _) _ _; refine EL.f (FV.idx1 rfl rfl rfl rfl (by omega) (by omega)) rfl rfl ?_))
    | refine EL.nil ?_
    | refine EW.seq ?_
    | refine EW.region ?_
    | refine EW.block ?_
    | refine EW.skip ?_
    | refine EW.condT rfl ?_
    | refine EW.condF rfl ?_)
  exact ⟨k + 1, ⟨rfl, rfl, rfl, rfl, rfl, trivial⟩, ⟨by omega, fun j hj => by
    by_cases e : j = k
    · subst e; omega
    · exact he j (by omega), hE⟩, by omega⟩
theorem indexFuncI (f : FuncId) (p : Int → Bool) (xs : List Int) (A : Option Addr) (cap : Nat) (w : World) (h : IsB w 0 A xs) (hf : ∀ x w, CallsR Try.prog f [.int .i64 x] w fun v w' => v = .bool (p x) ∧ w = w') :
    CallsR Try.prog 86 [.slice A xs.length cap, .func (.func f) #[] #[]] w fun v w' => ∃ r : Int, v = .int .i64 r ∧ decide (0 ≤ r) = xs.any p ∧ Ext w w' := by
  have hr := h.1
  refine CallsR.enter Try.func86 (by decide +kernel) rfl Try.ntmps86 rfl ?_
  repeat' (first
    | refine EL.f (FV.move rfl) rfl rfl ?_
    | refine EL.f (FV.assign rfl) rfl rfl ?_
    | refine EL.f (FV.len rfl rfl) rfl rfl ?_
    | refine EL.nil ?_
    | refine EW.seq ?_
    | refine EW.region ?_
    | refine EW.block ?_)
  refine EW.loop (X := Nat) (fun i wr => i ≤ xs.length ∧ (∀ j, j < i → p (xs.getD j 0) = false) ∧ Ext w wr) (fun i => [(0, .slice A xs.length cap), (1, .func (.func f) #[] #[]), (7, .int .i64 xs.length), (8, .int .i64 i)]) (fun i => xs.length - i) 0 ⟨Nat.zero_le _, fun j hj => by omega, Ext.refl _⟩ ⟨rfl, rfl, rfl, rfl, trivial⟩ ?_
  rintro i wr ⟨hi, hno, hE⟩
  by_cases hlt : i < xs.length
  · obtain ⟨b, o, rfl, hc⟩ := h.rd.int hlt
    have c1 := hE.cell hc
    repeat' (first
      | (show EL _ _ _ _ (_ :: _) _ _
         first
         | (show EL _ _ _ _ (⟨_, .load _ _, _, _, _, _⟩ :: _) _ _; refine EL.f (FV.load1 rfl rfl rfl (c1)) rfl rfl ?_)
         | (show EL _ _ _ _ (⟨_, .move _, _, _, _, _⟩ :: _) _ _; refine EL.f (FV.move rfl) rfl rfl ?_)
         | (show EL _ _ _ _ (⟨_, .assign _, _, _, _, _⟩ :: _) _ _; refine EL.f (FV.assign rfl) rfl rfl ?_)
         | (show EL _ _ _ _ (⟨_, .binOp .lss _ _ _ _, _, _, _, _⟩ :: _) _ _; refine EL.fT (FV.lss rfl rfl) rfl (fun _ => rfl) (by omega) ?_)
         | (show EL _ _ _ _ (⟨_, .indexAddr _ _ _, _, _, _, _⟩ :: _) _ _; refine EL.f (FV.idx1 rfl rfl rfl rfl (by omega) (by omega)) rfl rfl ?_))
      | refine EL.nil ?_
      | refine EW.seq ?_
      | refine EW.region ?_
      | refine EW.block ?_
      | refine EW.skip ?_
      | refine EW.condT rfl ?_)
    refine EL.h (Hv.callF (hf (xs.getD i 0) wr) rfl rfl) rfl (fun _ => rfl) ?_
    rintro _ _ ⟨rfl, rfl⟩
    cases hp : p (xs.getD i 0)
    · repeat' (first
        | refine EL.f (FV.move rfl) rfl rfl ?_
        | refine EL.f (FV.addI rfl rfl (by omega)) rfl rfl ?_
        | refine EL.nil ?_
        | refine EW.region ?_
        | refine EW.skip ?_
        | refine EW.condF rfl ?_)
      exact ⟨i + 1, ⟨rfl, rfl, rfl, rfl, trivial⟩, ⟨by omega, fun j hj => by
        by_cases e : j = i
        · subst e; exact hp
        · exact hno j (by omega), hE⟩, by omega⟩
    · repeat' (first
        | refine EL.f (FV.move rfl) rfl rfl ?_
        | refine EL.f (FV.assign rfl) rfl rfl ?_
        | refine EL.nil ?_
        | refine EW.seq ?_
        | refine EW.region ?_
        | refine EW.ret ?_
        | refine EW.condT rfl ?_)
      exact ⟨_, rfl, _, rfl, by rw [any_some hlt hp]; simp, hE⟩
  · obtain rfl : i = xs.length := by omega
    repeat' (first
      | refine EL.f (FV.assign rfl) rfl rfl ?_
      | refine EL.fF (FV.lss rfl rfl) rfl (fun _ => rfl) (by omega) ?_
      | refine EL.nil ?_
      | refine EW.seq ?_
      | refine EW.region ?_
      | refine EW.exit ?_
      | refine EW.ret ?_
      | refine EW.condF rfl ?_)
    exact ⟨_, rfl, _, rfl, by rw [any_none hno]; simp, hE⟩
theorem containsFuncI (f : FuncId) (p : Int → Bool) (xs : List Int) (A : Option Addr) (cap : Nat) (w : World) (h : IsB w 0 A xs) (hf : ∀ x w, CallsR Try.prog f [.int .i64 x] w fun v w' => v = .bool (p x) ∧ w = w') :
    CallsR Try.prog 64 [.slice A xs.length cap, .func (.func f) #[] #[]] w fun v w' => v = .bool (xs.any p) ∧ Ext w w' := by
  refine CallsR.enter Try.func64 (by decide +kernel) rfl Try.ntmps64 rfl ?_
  repeat' (first
    | refine EL.f (FV.move rfl) rfl rfl ?_
    | refine EL.f (FV.assign rfl) rfl rfl ?_
    | refine EL.nil ?_
    | refine EW.seq ?_
    | refine EW.region ?_)
  refine EL.h (Hv.call (indexFuncI f p xs A cap w h hf) rfl) rfl (fun _ => rfl) ?_
  rintro _ w1 ⟨r, rfl, hr, he1⟩
  refine EL.f (FV.geq rfl rfl) rfl rfl ?_
  rw [hr]
  repeat' (first
    | refine EL.f (FV.assign rfl) rfl rfl ?_
    | refine EL.nil ?_
    | refine EW.ret ?_)
  exact ⟨_, rfl, rfl, he1⟩
/-! the program -/
theorem implOut (x : Int) (w : World) : CallsR Try.prog 65 [.int .i64 x] w fun v w' => v = .bool (!decide (0 ≤ x ∧ x ≤ 12)) ∧ w = w' := by
  refine CallsR.enter Try.func65 (by decide +kernel) rfl Try.ntmps65 rfl ?_
  repeat' (first
    | (show EL _ _ _ _ (_ :: _) _ _
       first
       | (show EL _ _ _ _ (⟨_, .call _, _, _, _, _⟩ :: _) _ _; (refine EL.h (Hv.call (implWithin _ _ _ _) rfl) rfl (fun _ => rfl) ?_; rintro _ _ ⟨rfl, rfl⟩))
       | (show EL _ _ _ _ (⟨_, .move _, _, _, _, _⟩ :: _) _ _; refine EL.f (FV.move rfl) rfl rfl ?_)
       | (show EL _ _ _ _ (⟨_, .assign _, _, _, _, _⟩ :: _) _ _; refine EL.f (FV.assign rfl) rfl rfl ?_)
       | (show EL _ _ _ _ (⟨_, .unOp .not _ _, _, _, _, _⟩ :: _) _ _; refine EL.f (FV.not rfl) rfl rfl ?_))
    | refine EL.nil ?_
    | refine EW.seq ?_
    | refine EW.region ?_
    | refine EW.ret ?_)
  exact ⟨_, rfl, rfl, rfl⟩
theorem implDegree (t : Tm) (cs : List Value) (w : World) (h : TmB w 0 cs t) (hl : t.exps.length ≤ 12) (ha : ∀ x, x ∈ t.exps → 0 ≤ x ∧ x ≤ 12) : CallsR Try.prog 66 [.agg cs.toArray] w fun v w' => v = .int .i64 (sumI t.exps) ∧ Ext w w' := by
  obtain ⟨A, cap, rfl, hx⟩ := h
  refine CallsR.enter Try.func66 (by decide +kernel) rfl Try.ntmps66 rfl ?_
  repeat' (first
    | refine EW.seq ?_
    | refine EW.region ?_)
  refine EL.h (Hv.boxA (sz := 2) rfl rfl) rfl (fun _ => rfl) ?_
  rintro _ w1 ⟨g1, rfl, hg1, hb, he1⟩
  repeat' (first
    | (show EL _ _ _ _ (_ :: _) _ _
       first
       | (show EL _ _ _ _ (⟨_, .fieldAddr _ _ _, _, _, _, _⟩ :: _) _ _; refine EL.f (FV.fieldAddr rfl rfl rfl rfl rfl) rfl rfl ?_)
       | (show EL _ _ _ _ (⟨_, .load _ _, _, _, _, _⟩ :: _) _ _; refine EL.f (FV.load1 rfl rfl rfl (At.cell hb rfl)) rfl rfl ?_)
       | (show EL _ _ _ _ (⟨_, .move _, _, _, _, _⟩ :: _) _ _; refine EL.f (FV.move rfl) rfl rfl ?_)
       | (show EL _ _ _ _ (⟨_, .assign _, _, _, _, _⟩ :: _) _ _; refine EL.f (FV.assign rfl) rfl rfl ?_)
       | (show EL _ _ _ _ (⟨_, .call _, _, _, _, _⟩ :: _) _ _; refine EL.f (FV.len rfl rfl) rfl rfl ?_))
    | refine EL.nil ?_
    | refine EW.seq ?_
    | refine EW.region ?_
    | refine EW.block ?_)
  refine EW.loop (X := Nat) (fun k wr => k ≤ t.exps.length ∧ Ext w wr) (fun k => [(3, .int .i64 (sumI (t.exps.take k))), (7, .slice A t.exps.length cap), (8, .int .i64 t.exps.length), (9, .int .i64 k)]) (fun k => t.exps.length - k) 0 ⟨Nat.zero_le _, he1⟩ ⟨rfl, rfl, rfl, rfl, trivial⟩ ?_
  rintro k wr ⟨hk, hE⟩
  by_cases hlt : k < t.exps.length
  rotate_left
  · obtain rfl : k = t.exps.length := by omega
    rw [List.take_length]
    repeat' (first
      | refine EL.f (FV.move rfl) rfl rfl ?_
      | refine EL.f (FV.assign rfl) rfl rfl ?_
      | refine EL.fF (FV.lss rfl rfl) rfl (fun _ => rfl) (by omega) ?_
      | refine EL.nil ?_
      | refine EW.seq ?_
      | refine EW.region ?_
      | refine EW.exit ?_
      | refine EW.ret ?_
      | refine EW.condF rfl ?_)
    exact ⟨_, rfl, rfl, hE⟩
  obtain ⟨b, o, rfl, hc⟩ := hx.rd.int hlt
  have c1 := hE.cell hc
  have b1 := sumI_bound (xs := t.exps.take k) fun x hx => ha x (List.mem_of_mem_take hx)
  rw [List.length_take] at b1
  have b2 := ha (t.exps.getD k 0) (by simp [hlt])
  repeat' (first
    | (show EL _ _ _ _ (_ :: _) _ _
       first
       | (show EL _ _ _ _ (⟨_, .load _ _, _, _, _, _⟩ :: _) _ _; refine EL.f (FV.load1 rfl rfl rfl (c1)) rfl rfl ?_)
       | (show EL _ _ _ _ (⟨_, .move _, _, _, _, _⟩ :: _) _ _; refine EL.f (FV.move rfl) rfl rfl ?_)
       | (show EL _ _ _ _ (⟨_, .assign _, _, _, _, _⟩ :: _) _ _; refine EL.f (FV.assign rfl) rfl rfl ?_)
       | (show EL _ _ _ _ (⟨_, .binOp .add _ _ _ _, _, _, _, _⟩ :: _) _ _; refine EL.f (FV.addI rfl rfl (by omega)) rfl rfl ?_)
       | (show EL _ _ _ _ (⟨_, .binOp .lss _ _ _ _, _, _, _, _⟩ :: _) _ _; refine EL.fT (FV.lss rfl rfl) rfl (fun _ => rfl) (by omega) ?_)
       | (show EL _ _ _ _ (⟨_, .indexAddr _ _ _, _, _, _, _⟩ :: _) _ _; refine EL.f (FV.idx1 rfl rfl rfl rfl (by omega) (by omega)) rfl rfl ?_))
    | refine EL.nil ?_
    | refine EW.seq ?_
    | refine EW.region ?_
    | refine EW.block ?_
    | refine EW.skip ?_
    | refine EW.condT rfl ?_)
  exact ⟨k + 1, ⟨by rw [sumI_take hlt]; rfl, rfl, rfl, rfl, trivial⟩, ⟨by omega, hE⟩, by omega⟩
theorem TmB.inv {w : World} {B : Nat} {cs : List Value} {t : Tm} (h : TmB w B cs t) : ∃ A cap, cs = [.slice A t.exps.length cap, .int .i64 t.coef] ∧ IsB w B A t.exps := h
set_option maxHeartbeats 16000000 in
theorem implValidY (q : Po) (cs : List Value) (w : World) (hx : PoB w 0 cs q) : CallsR Try.prog 34 [.agg cs.toArray] w fun v w' => v = .bool (validY q) ∧ Ext w w' := by
  obtain ⟨A, cap, rfl, hts⟩ := hx
  have hge := hts.1
  refine CallsR.enter Try.func34 (by decide +kernel) rfl Try.ntmps34 rfl ?_
  repeat' (first
    | refine EW.seq ?_
    | refine EW.region ?_)
  refine EL.h (Hv.boxA (sz := 2) rfl rfl) rfl (fun _ => rfl) ?_
  rintro _ w1 ⟨g1, rfl, hg1, hb, he1⟩
  by_cases hv : 0 ≤ q.vars ∧ q.vars ≤ 12
  rotate_left
  · repeat' (first
      | (show EL _ _ _ _ (_ :: _) _ _
         first
         | (show EL _ _ _ _ (⟨_, _, _, _, _, some _⟩ :: _) _ _; refine EL.skip rfl rfl ?_)
         | (show EL _ _ _ _ (⟨_, .fieldAddr _ _ _, _, _, _, _⟩ :: _) _ _; refine EL.f (FV.fieldAddr rfl rfl rfl rfl rfl) rfl rfl ?_)
         | (show EL _ _ _ _ (⟨_, .load _ _, _, _, _, _⟩ :: _) _ _; refine EL.f (FV.load1 rfl rfl rfl (At.cell hb rfl)) rfl rfl ?_)
         | (show EL _ _ _ _ (⟨_, .call _, _, _, _, _⟩ :: _) _ _; (refine EL.h (Hv.call (implWithinR (r := false) (by unfold inB; exact decide_eq_false (by omega)) _) rfl) rfl (fun _ => rfl) ?_; rintro _ _ ⟨rfl, rfl⟩))
         | (show EL _ _ _ _ (⟨_, .move _, _, _, _, _⟩ :: _) _ _; refine EL.f (FV.move rfl) rfl rfl ?_)
         | (show EL _ _ _ _ (⟨_, .assign _, _, _, _, _⟩ :: _) _ _; refine EL.f (FV.assign rfl) rfl rfl ?_)
         | (show EL _ _ _ _ (⟨_, .unOp .not _ _, _, _, _, _⟩ :: _) _ _; refine EL.f (FV.not rfl) rfl rfl ?_)
         | (show EL _ _ _ _ (⟨_, .pick _ _ _, _, _, _, _⟩ :: _) _ _; refine EL.f (FV.pickT rfl rfl) rfl rfl ?_))
      | refine EL.nil ?_
      | refine EW.seq ?_
      | refine EW.region ?_
      | refine EW.ret ?_
      | refine EW.condT rfl ?_)
    exact ⟨_, rfl, by rw [validY_vars hv], he1⟩
  by_cases hn : q.terms.length ≤ 120
  rotate_left
  · repeat' (first
      | (show EL _ _ _ _ (_ :: _) _ _
         first
         | (show EL _ _ _ _ (⟨_, .fieldAddr _ _ _, _, _, _, _⟩ :: _) _ _; refine EL.f (FV.fieldAddr rfl rfl rfl rfl rfl) rfl rfl ?_)
         | (show EL _ _ _ _ (⟨_, .load _ _, _, _, _, _⟩ :: _) _ _; refine EL.f (FV.load1 rfl rfl rfl (At.cell hb rfl)) rfl rfl ?_)
         | (show EL _ _ _ _ (⟨_, .call _, _, _, _, _⟩ :: _) _ _; first | (refine EL.h (Hv.call (implWithinR (r := true) (by unfold inB; exact decide_eq_true (by omega)) _) rfl) rfl (fun _ => rfl) ?_; rintro _ _ ⟨rfl, rfl⟩) | refine EL.f (FV.len rfl rfl) rfl rfl ?_)
         | (show EL _ _ _ _ (⟨_, .move _, _, _, _, _⟩ :: _) _ _; refine EL.f (FV.move rfl) rfl rfl ?_)
         | (show EL _ _ _ _ (⟨_, .assign _, _, _, _, _⟩ :: _) _ _; refine EL.f (FV.assign rfl) rfl rfl ?_)
         | (show EL _ _ _ _ (⟨_, .unOp .not _ _, _, _, _, _⟩ :: _) _ _; refine EL.f (FV.not rfl) rfl rfl ?_)
         | (show EL _ _ _ _ (⟨_, .pick _ _ _, _, _, _, _⟩ :: _) _ _; refine EL.f (FV.pickF rfl rfl) rfl rfl ?_)
         | (show EL _ _ _ _ (⟨_, .binOp .gtr _ _ _ _, _, _, _, _⟩ :: _) _ _; refine EL.fT (FV.gtr rfl rfl) rfl (fun _ => rfl) (by omega) ?_))
      | refine EL.nil ?_
      | refine EW.seq ?_
      | refine EW.region ?_
      | refine EW.ret ?_
      | refine EW.condT rfl ?_)
    exact ⟨_, rfl, by rw [validY_long hn], he1⟩
  repeat' (first
    | (show EL _ _ _ _ (_ :: _) _ _
       first
       | (show EL _ _ _ _ (⟨_, .fieldAddr _ _ _, _, _, _, _⟩ :: _) _ _; refine EL.f (FV.fieldAddr rfl rfl rfl rfl rfl) rfl rfl ?_)
       | (show EL _ _ _ _ (⟨_, .load _ _, _, _, _, _⟩ :: _) _ _; refine EL.f (FV.load1 rfl rfl rfl (At.cell hb rfl)) rfl rfl ?_)
       | (show EL _ _ _ _ (⟨_, .call _, _, _, _, _⟩ :: _) _ _; first | (refine EL.h (Hv.call (implWithinR (r := true) (by unfold inB; exact decide_eq_true (by omega)) _) rfl) rfl (fun _ => rfl) ?_; rintro _ _ ⟨rfl, rfl⟩) | refine EL.f (FV.len rfl rfl) rfl rfl ?_)
       | (show EL _ _ _ _ (⟨_, .move _, _, _, _, _⟩ :: _) _ _; refine EL.f (FV.move rfl) rfl rfl ?_)
       | (show EL _ _ _ _ (⟨_, .assign _, _, _, _, _⟩ :: _) _ _; refine EL.f (FV.assign rfl) rfl rfl ?_)
       | (show EL _ _ _ _ (⟨_, .unOp .not _ _, _, _, _, _⟩ :: _) _ _; refine EL.f (FV.not rfl) rfl rfl ?_)
       | (show EL _ _ _ _ (⟨_, .pick _ _ _, _, _, _, _⟩ :: _) _ _; refine EL.f (FV.pickF rfl rfl) rfl rfl ?_)
       | (show EL _ _ _ _ (⟨_, .binOp .gtr _ _ _ _, _, _, _, _⟩ :: _) _ _; refine EL.fF (FV.gtr rfl rfl) rfl (fun _ => rfl) (by omega) ?_))
    | refine EL.nil ?_
    | refine EW.seq ?_
    | refine EW.region ?_
    | refine EW.block ?_
    | refine EW.skip ?_
    | refine EW.condF rfl ?_)
  refine EW.loop (X := Nat) (fun i wr => i ≤ q.terms.length ∧ (∀ j, j < i → tOk q.vars q.terms j = true) ∧ Ext w1 wr) (fun i => [(1, .pointer (some ⟨g1, 0, none⟩)), (16, .slice A q.terms.length cap), (17, .int .i64 q.terms.length), (18, .int .i64 i)]) (fun i => q.terms.length - i) 0 ⟨Nat.zero_le _, fun j hj => by omega, Ext.refl _⟩ ⟨rfl, rfl, rfl, rfl, trivial⟩ ?_
  rintro i wr ⟨hi, hall, hE⟩
  have hWr := he1.trans hE
  by_cases hlt : i < q.terms.length
  rotate_left
  · obtain rfl : i = q.terms.length := by omega
    repeat' (first
      | refine EL.f (FV.assign rfl) rfl rfl ?_
      | refine EL.fF (FV.lss rfl rfl) rfl (fun _ => rfl) (by omega) ?_
      | refine EL.nil ?_
      | refine EW.seq ?_
      | refine EW.region ?_
      | refine EW.exit ?_
      | refine EW.ret ?_
      | refine EW.condF rfl ?_)
    exact ⟨_, rfl, by rw [validY_all hv hn hall], hWr⟩
  have hvat := validY_at hlt
  obtain ⟨b, o, ct, rfl, hL, hX, hc⟩ := (hts.ext hWr).kid hlt
  repeat' (first
    | (show EL _ _ _ _ (_ :: _) _ _
       first
       | (show EL _ _ _ _ (⟨_, .indexAddr _ _ _, _, _, _, _⟩ :: _) _ _; refine EL.f (FV.idx rfl rfl rfl rfl (by omega) (by omega)) rfl rfl ?_)
       | (show EL _ _ _ _ (⟨_, .load _ _, _, _, _, _⟩ :: _) _ _; refine EL.f (FV.loadAgg (cs := ct) rfl rfl rfl hc rfl (fun _ e => e ▸ hL)) rfl rfl ?_)
       | (show EL _ _ _ _ (⟨_, .move _, _, _, _, _⟩ :: _) _ _; refine EL.f (FV.move rfl) rfl rfl ?_)
       | (show EL _ _ _ _ (⟨_, .binOp .lss _ _ _ _, _, _, _, _⟩ :: _) _ _; refine EL.fT (FV.lss rfl rfl) rfl (fun _ => rfl) (by omega) ?_))
    | refine EL.nil ?_
    | refine EW.seq ?_
    | refine EW.region ?_
    | refine EW.block ?_
    | refine EW.skip ?_
    | refine EW.condT rfl ?_)
  refine EL.h (Hv.allocA rfl rfl) rfl (fun _ => rfl) ?_
  rintro _ u1 ⟨g4, rfl, hg4, h4, he4⟩
  repeat' (first
    | refine EL.f (FV.assign rfl) rfl rfl ?_)
  refine EL.h (Hv.storeAggG (vs := ct) rfl rfl rfl hc hX.one h4 (by rw [hc]; exact Nat.le_refl _)) rfl (fun _ => rfl) ?_
  rintro _ u2 ⟨h5, hr5⟩
  rw [setL_all (by rw [hc]; rfl)] at h5
  have hu2 : Ext wr u2 := Below.wr he4 hr5 (by omega) (Nat.le_refl _)
  clear h4
  have hX2 := hX.ext hu2
  obtain ⟨E1, c1, rfl, hI⟩ := hX
  have hI2 := hI.ext hu2
  have hW2 := hWr.trans hu2
  have k0 := At.cell (At.ext hb (hE.trans hu2)) (show (Value.agg #[Value.int IntKind.i64 q.vars, Value.slice (some ⟨b, o, none⟩) q.terms.length cap]).cells.toList[0]? = some (.int .i64 q.vars) from rfl)
  have k1 := At.cell (At.ext hb (hE.trans hu2)) (show (Value.agg #[Value.int IntKind.i64 q.vars, Value.slice (some ⟨b, o, none⟩) q.terms.length cap]).cells.toList[1]? = some (.slice (some ⟨b, o, none⟩) q.terms.length cap) from rfl)
  have e0 := At.cell h5 (show ([Value.slice E1 (q.terms.getD i dTm).exps.length c1, Value.int IntKind.i64 (q.terms.getD i dTm).coef] : List Value)[0]? = some (.slice E1 (q.terms.getD i dTm).exps.length c1) from rfl)
  have e1 := At.cell h5 (show ([Value.slice E1 (q.terms.getD i dTm).exps.length c1, Value.int IntKind.i64 (q.terms.getD i dTm).coef] : List Value)[1]? = some (.int .i64 (q.terms.getD i dTm).coef) from rfl)
  have hil := hI.1
  have ed := Ext.drew u2
  refine EL.nil ?_
  refine EW.seqR (K := fun ρ' w' => Sub [(1, .pointer (some ⟨g1, 0, none⟩)), (16, .slice (some ⟨b, o, none⟩) q.terms.length cap), (17, .int .i64 q.terms.length), (18, .int .i64 i), (4, .pointer (some ⟨g4, 0, none⟩))] ρ' ∧ Ext u2 w' ∧ ordOk q.terms i = true ∧ ((q.terms.getD i dTm).exps.length : Int) = q.vars ∧ (1 ≤ (q.terms.getD i dTm).coef ∧ (q.terms.getD i dTm).coef ≤ 1000002)) ?_ ?_
  · refine EW.seq ?_
    by_cases q1 : ((q.terms.getD i dTm).exps.length : Int) = q.vars
    rotate_left
    · refine EW.draw (fun w' => Ext u2 w') (pl 0 29) mixed (by decide +kernel) ed ?_
      repeat' (first
        | refine EP.f rfl (FV.fieldAddr rfl rfl rfl rfl rfl) rfl rfl ?_
        | refine EP.f rfl (FV.pickT rfl rfl) rfl rfl ?_
        | refine EP.skip rfl rfl rfl ?_
        | refine EP.skipU rfl rfl rfl ?_
        | refine EP.fT rfl (FV.neq rfl rfl) rfl (fun _ => rfl) (by omega) ?_
        | refine EP.f rfl (FV.load rfl rfl rfl (fun w' h' => h'.cell k0)) rfl rfl ?_
        | refine EP.f rfl (FV.load rfl rfl rfl (fun w' h' => h'.cell e0)) rfl rfl ?_
        | refine EP.nil ?_
        | refine EP.f rfl (FV.move rfl) rfl rfl ?_
        | refine EP.f rfl (FV.len rfl rfl) rfl rfl ?_)
      repeat' (first
        | refine EL.f (FV.assign rfl) rfl rfl ?_
        | refine EL.nil ?_
        | refine EW.seq ?_
        | refine EW.region ?_
        | refine EW.ret ?_
        | refine EW.condT rfl ?_)
      exact ⟨_, rfl, by rw [hvat (tOk_tm (tmOk_len q1))], hW2.trans ed⟩
    by_cases q2 : 1 ≤ (q.terms.getD i dTm).coef ∧ (q.terms.getD i dTm).coef ≤ 1000002
    rotate_left
    · have i2 : inB (q.terms.getD i dTm).coef 1 1000002 = false := by unfold inB; exact decide_eq_false q2
      refine EW.draw (fun w' => Ext u2 w') (pl 0 9 ++ [(9, false)] ++ pl 10 19) mixed (by decide +kernel) ed ?_
      repeat' (first
        | refine EP.f rfl (FV.fieldAddr rfl rfl rfl rfl rfl) rfl rfl ?_
        | refine EP.fF rfl (FV.neq rfl rfl) rfl (fun _ => rfl) (by omega) ?_
        | refine EP.f rfl (FV.load rfl rfl rfl (fun w' h' => h'.cell k0)) rfl rfl ?_
        | refine EP.f rfl (FV.load rfl rfl rfl (fun w' h' => h'.cell e0)) rfl rfl ?_
        | refine EP.f rfl (FV.load rfl rfl rfl (fun w' h' => h'.cell e1)) rfl rfl ?_
        | refine EP.f rfl (FV.move rfl) rfl rfl ?_
        | refine EP.f rfl (FV.len rfl rfl) rfl rfl ?_)
      refine EP.h rfl rfl (Hv.call (implWithinR i2 _) rfl) rfl (fun _ => rfl) ?_
      rintro _ _ ⟨rfl, rfl⟩
      refine ⟨ed, ?_⟩
      repeat' (first
        | refine EP.f rfl (FV.pickT rfl rfl) rfl rfl ?_
        | refine EP.f rfl (FV.pickF rfl rfl) rfl rfl ?_
        | refine EP.skip rfl rfl rfl ?_
        | refine EP.skipU rfl rfl rfl ?_
        | refine EP.nil ?_
        | refine EP.f rfl (FV.move rfl) rfl rfl ?_
        | refine EP.f rfl (FV.not rfl) rfl rfl ?_)
      repeat' (first
        | refine EL.f (FV.assign rfl) rfl rfl ?_
        | refine EL.nil ?_
        | refine EW.seq ?_
        | refine EW.region ?_
        | refine EW.ret ?_
        | refine EW.condT rfl ?_)
      exact ⟨_, rfl, by rw [hvat (tOk_tm (tmOk_coef q2))], hW2.trans ed⟩
    have i2 : inB (q.terms.getD i dTm).coef 1 1000002 = true := inB_iff.2 q2
    by_cases i0 : i = 0
    · refine EW.draw (fun w' => Ext u2 w') (pl 0 9 ++ [(9, false)] ++ pl 10 19) mixed (by decide +kernel) ed ?_
      repeat' (first
        | refine EP.f rfl (FV.fieldAddr rfl rfl rfl rfl rfl) rfl rfl ?_
        | refine EP.fF rfl (FV.neq rfl rfl) rfl (fun _ => rfl) (by omega) ?_
        | refine EP.f rfl (FV.load rfl rfl rfl (fun w' h' => h'.cell k0)) rfl rfl ?_
        | refine EP.f rfl (FV.load rfl rfl rfl (fun w' h' => h'.cell e0)) rfl rfl ?_
        | refine EP.f rfl (FV.load rfl rfl rfl (fun w' h' => h'.cell e1)) rfl rfl ?_
        | refine EP.f rfl (FV.move rfl) rfl rfl ?_
        | refine EP.f rfl (FV.len rfl rfl) rfl rfl ?_)
      refine EP.h rfl rfl (Hv.call (implWithinR i2 _) rfl) rfl (fun _ => rfl) ?_
      rintro _ _ ⟨rfl, rfl⟩
      refine ⟨ed, ?_⟩
      repeat' (first
        | refine EP.f rfl (FV.pickF rfl rfl) rfl rfl ?_
        | refine EP.skip rfl rfl rfl ?_
        | refine EP.fF rfl (FV.gtr rfl rfl) rfl (fun _ => rfl) (by omega) ?_
        | refine EP.nil ?_
        | refine EP.f rfl (FV.move rfl) rfl rfl ?_
        | refine EP.f rfl (FV.not rfl) rfl rfl ?_)
      repeat' (first
        | refine EW.skip ?_
        | refine EW.condF rfl ?_)
      exact ⟨⟨rfl, rfl, rfl, rfl, rfl, trivial⟩, ed, by rw [i0]; exact ordOk_zero _, q1, q2⟩
    have ei : ((i : Int) - 1).toNat = i - 1 := by omega
    obtain ⟨bp, op, cp, ep, hLp, ⟨E2, c2, rfl, hIp⟩, hcp⟩ := (hts.ext hW2).kid (i := ((i : Int) - 1).toNat) (by omega)
    injection ep with ep
    injection ep with ep1 ep2 _
    subst ep1 ep2
    have p0 := hLp 0 _ rfl
    have hpl := tOk_len (hall (i - 1) (by omega))
    rw [← ei] at hpl
    have hipl := hIp.1
    have hcc := implCmp E2 E1 c2 c1 _ _ u2.drew (hIp.ext ed) (hI2.ext ed) (by omega)
    have hord := ordOk_pos (ts := q.terms) (i := i) (by omega)
    rw [← ei] at hord
    refine EW.draw (fun w' => Ext u2 w') (pl 0 9 ++ [(9, false)] ++ pl 10 15 ++ [(25, false)] ++ pl 26 3) mixed (by decide +kernel) ed ?_
    repeat' (first
      | refine EP.f rfl (FV.fieldAddr rfl rfl rfl rfl rfl) rfl rfl ?_
      | refine EP.fF rfl (FV.neq rfl rfl) rfl (fun _ => rfl) (by omega) ?_
      | refine EP.f rfl (FV.load rfl rfl rfl (fun w' h' => h'.cell k0)) rfl rfl ?_
      | refine EP.f rfl (FV.load rfl rfl rfl (fun w' h' => h'.cell e0)) rfl rfl ?_
      | refine EP.f rfl (FV.load rfl rfl rfl (fun w' h' => h'.cell e1)) rfl rfl ?_
      | refine EP.f rfl (FV.move rfl) rfl rfl ?_
      | refine EP.f rfl (FV.len rfl rfl) rfl rfl ?_)
    refine EP.h rfl rfl (Hv.call (implWithinR i2 _) rfl) rfl (fun _ => rfl) ?_
    rintro _ _ ⟨rfl, rfl⟩
    refine ⟨ed, ?_⟩
    repeat' (first
      | refine EP.f rfl (FV.fieldAddr rfl rfl rfl rfl rfl) rfl rfl ?_
      | refine EP.f rfl (FV.pickF rfl rfl) rfl rfl ?_
      | refine EP.fT rfl (FV.gtr rfl rfl) rfl (fun _ => rfl) (by omega) ?_
      | refine EP.f rfl (FV.load rfl rfl rfl (fun w' h' => h'.cell k1)) rfl rfl ?_
      | refine EP.f rfl (FV.load rfl rfl rfl (fun w' h' => h'.cell e0)) rfl rfl ?_
      | refine EP.f rfl (FV.load rfl rfl rfl (fun w' h' => h'.cell p0)) rfl rfl ?_
      | refine EP.f rfl (FV.idx (s := 2) rfl rfl rfl rfl (by omega) (by omega)) rfl rfl ?_
      | refine EP.f rfl (FV.move rfl) rfl rfl ?_
      | refine EP.f rfl (FV.subI rfl rfl (by omega)) rfl rfl ?_
      | refine EP.f rfl (FV.not rfl) rfl rfl ?_)
    refine EP.h rfl rfl (Hv.call hcc rfl) rfl (fun _ => rfl) ?_
    rintro _ u3 ⟨rfl, he7⟩
    refine ⟨ed.trans he7, ?_⟩
    by_cases hlt0 : cmpL (q.terms.getD ((i : Int) - 1).toNat dTm).exps (q.terms.getD i dTm).exps < 0
    · rw [decide_eq_true hlt0] at hord
      repeat' (first
        | refine EP.f rfl (FV.pickT rfl rfl) rfl rfl ?_
        | refine EP.f rfl (FV.pickF rfl rfl) rfl rfl ?_
        | refine EP.fF rfl (FV.geq rfl rfl) rfl (fun _ => rfl) (by omega) ?_
        | refine EP.nil ?_)
      repeat' (first
        | refine EW.skip ?_
        | refine EW.condF rfl ?_)
      exact ⟨⟨rfl, rfl, rfl, rfl, rfl, trivial⟩, ed.trans he7, hord, q1, q2⟩
    · rw [decide_eq_false hlt0] at hord
      repeat' (first
        | refine EP.f rfl (FV.pickT rfl rfl) rfl rfl ?_
        | refine EP.f rfl (FV.pickF rfl rfl) rfl rfl ?_
        | refine EP.fT rfl (FV.geq rfl rfl) rfl (fun _ => rfl) (by omega) ?_
        | refine EP.nil ?_)
      repeat' (first
        | refine EL.f (FV.assign rfl) rfl rfl ?_
        | refine EL.nil ?_
        | refine EW.seq ?_
        | refine EW.region ?_
        | refine EW.ret ?_
        | refine EW.condT rfl ?_)
      exact ⟨_, rfl, by rw [hvat (tOk_ord hord)], (hW2.trans ed).trans he7⟩
  rintro ρ' u4 ⟨hsub, heu, hord, q1, q2⟩
  refine EW.weaken ?_ hsub
  replace h5 := At.ext h5 heu
  have hW4 := hW2.trans heu
  repeat' (first
    | refine EL.f (FV.fieldAddr rfl rfl rfl rfl rfl) rfl rfl ?_
    | refine EL.f (FV.load1 rfl rfl rfl (At.cell h5 rfl)) rfl rfl ?_
    | refine EW.seq ?_
    | refine EW.region ?_)
  refine EL.h (Hv.call (containsFuncI 65 (fun n => !decide (0 ≤ n ∧ n ≤ 12)) _ E1 c1 u4 (hI2.ext heu) implOut) rfl) rfl (fun _ => rfl) ?_
  rintro _ u5 ⟨rfl, he8⟩
  replace h5 := At.ext h5 he8
  have hW5 := hW4.trans he8
  have hdg : degOk (q.terms.getD i dTm).exps = ((!(q.terms.getD i dTm).exps.any fun n => !decide (0 ≤ n ∧ n ≤ 12)) && decide (sumI (q.terms.getD i dTm).exps ≤ 12)) := rfl
  cases hany : (q.terms.getD i dTm).exps.any fun n => !decide (0 ≤ n ∧ n ≤ 12)
  rotate_left
  · repeat' (first
      | (show EL _ _ _ _ (_ :: _) _ _
         first
         | (show EL _ _ _ _ (⟨_, _, _, _, _, some _⟩ :: _) _ _; refine EL.skip rfl rfl ?_)
         | (show EL _ _ _ _ (⟨_, .move _, _, _, _, _⟩ :: _) _ _; refine EL.f (FV.move rfl) rfl rfl ?_)
         | (show EL _ _ _ _ (⟨_, .assign _, _, _, _, _⟩ :: _) _ _; refine EL.f (FV.assign rfl) rfl rfl ?_)
         | (show EL _ _ _ _ (⟨_, .pick _ _ _, _, _, _, _⟩ :: _) _ _; refine EL.f (FV.pickT rfl rfl) rfl rfl ?_))
      | refine EL.nil ?_
      | refine EW.seq ?_
      | refine EW.region ?_
      | refine EW.ret ?_
      | refine EW.condT rfl ?_)
    exact ⟨_, rfl, by rw [hvat (tOk_tm (tmOk_deg (by rw [hdg, hany]; rfl)))], hW5⟩
  repeat' (first
    | refine EL.f (FV.loadAgg (cs := [.slice E1 (q.terms.getD i dTm).exps.length c1, .int .i64 (q.terms.getD i dTm).coef]) rfl rfl rfl rfl rfl (fun _ e => e ▸ At.lies h5)) rfl rfl ?_
    | refine EL.f (FV.move rfl) rfl rfl ?_)
  refine EL.h (Hv.call (implDegree (q.terms.getD i dTm) _ u5 ((hX2.ext heu).ext he8) (by omega) (deg_any hany)) rfl) rfl (fun _ => rfl) ?_
  rintro _ u6 ⟨rfl, he9⟩
  by_cases h12 : sumI (q.terms.getD i dTm).exps ≤ 12
  rotate_left
  · repeat' (first
      | refine EL.f (FV.assign rfl) rfl rfl ?_
      | refine EL.f (FV.pickF rfl rfl) rfl rfl ?_
      | refine EL.fT (FV.gtr rfl rfl) rfl (fun _ => rfl) (by omega) ?_
      | refine EL.nil ?_
      | refine EW.seq ?_
      | refine EW.region ?_
      | refine EW.ret ?_
      | refine EW.condT rfl ?_)
    exact ⟨_, rfl, by rw [hvat (tOk_tm (tmOk_deg (by rw [hdg, decide_eq_false h12, Bool.and_false])))], hW5.trans he9⟩
  repeat' (first
    | (show EL _ _ _ _ (_ :: _) _ _
       first
       | (show EL _ _ _ _ (⟨_, .move _, _, _, _, _⟩ :: _) _ _; refine EL.f (FV.move rfl) rfl rfl ?_)
       | (show EL _ _ _ _ (⟨_, .binOp .add _ _ _ _, _, _, _, _⟩ :: _) _ _; refine EL.f (FV.addI rfl rfl (by omega)) rfl rfl ?_)
       | (show EL _ _ _ _ (⟨_, .pick _ _ _, _, _, _, _⟩ :: _) _ _; refine EL.f (FV.pickF rfl rfl) rfl rfl ?_)
       | (show EL _ _ _ _ (⟨_, .binOp .gtr _ _ _ _, _, _, _, _⟩ :: _) _ _; refine EL.fF (FV.gtr rfl rfl) rfl (fun _ => rfl) (by omega) ?_))
    | refine EL.nil ?_
    | refine EW.region ?_
    | refine EW.skip ?_
    | refine EW.condF rfl ?_)
  exact ⟨i + 1, ⟨rfl, rfl, rfl, rfl, trivial⟩, ⟨by omega, fun j hj => by
    by_cases e : j = i
    · subst e; exact tOk_true (tmOk_true q1 q2 (by rw [hdg, hany, decide_eq_true h12]; rfl)) hord
    · exact hall j (by omega), (((hE.trans hu2).trans heu).trans he8).trans he9⟩, by omega⟩
/-! the reference -/
theorem specCmp (A B : Option Addr) (c d : Nat) (xs ys : List Int) (w : World) (hx : IsB w 0 A xs) (hy : IsB w 0 B ys) (hl : xs.length = ys.length) : CallsR Try.prog 83 [.slice A xs.length c, .slice B ys.length d] w fun v w' => v = .int .i64 (cmpL xs ys) ∧ Ext w w' := by
  have hr := hx.1
  refine CallsR.enter Try.func83 (by decide +kernel) rfl Try.ntmps83 rfl ?_
  repeat' (first
    | refine EL.f (FV.assign rfl) rfl rfl ?_
    | refine EL.nil ?_
    | refine EW.seq ?_
    | refine EW.region ?_
    | refine EW.block ?_)
  refine EW.loop (X := Nat) (fun k wr => k ≤ xs.length ∧ (∀ j, j < k → xs.getD j 0 = ys.getD j 0) ∧ Ext w wr) (fun k => [(0, .slice A xs.length c), (1, .slice B ys.length d), (5, .int .i64 k)]) (fun k => xs.length - k) 0 ⟨Nat.zero_le _, fun j hj => by omega, Ext.refl _⟩ ⟨rfl, rfl, rfl, trivial⟩ ?_
  rintro k wr ⟨hk, he, hE⟩
  by_cases hlt : k < xs.length
  rotate_left
  · obtain rfl : k = xs.length := by omega
    repeat' (first
      | (show EL _ _ _ _ (_ :: _) _ _
         first
         | (show EL _ _ _ _ (⟨_, .move _, _, _, _, _⟩ :: _) _ _; refine EL.f (FV.move rfl) rfl rfl ?_)
         | (show EL _ _ _ _ (⟨_, .assign _, _, _, _, _⟩ :: _) _ _; refine EL.f (FV.assign rfl) rfl rfl ?_)
         | (show EL _ _ _ _ (⟨_, .call _, _, _, _, _⟩ :: _) _ _; refine EL.f (FV.len rfl rfl) rfl rfl ?_)
         | (show EL _ _ _ _ (⟨_, .binOp .lss _ _ _ _, _, _, _, _⟩ :: _) _ _; refine EL.fF (FV.lss rfl rfl) rfl (fun _ => rfl) (by omega) ?_))
      | refine EL.nil ?_
      | refine EW.seq ?_
      | refine EW.region ?_
      | refine EW.exit ?_
      | refine EW.ret ?_
      | refine EW.condF rfl ?_)
    exact ⟨_, rfl, by rw [cmpL_eq hl he], hE⟩
  obtain ⟨b, o, rfl, hc⟩ := hx.rd.int hlt
  obtain ⟨b2, o2, rfl, hc2⟩ := hy.rd.int (show k < ys.length by omega)
  have c1 := hE.cell hc
  have c2 := hE.cell hc2
  have ed := Ext.drew wr
  have ed2 := ed.trans (Ext.drew _)
  repeat' (first
    | refine EL.f (FV.move rfl) rfl rfl ?_
    | refine EL.f (FV.len rfl rfl) rfl rfl ?_
    | refine EL.fT (FV.lss rfl rfl) rfl (fun _ => rfl) (by omega) ?_
    | refine EL.nil ?_
    | refine EW.seq ?_
    | refine EW.region ?_
    | refine EW.block ?_
    | refine EW.skip ?_
    | refine EW.condT rfl ?_)
  refine EW.draw (fun w' => Ext wr w') (pl 0 9) mixed (by decide +kernel) ed ?_
  by_cases h1 : xs.getD k 0 < ys.getD k 0
  · skip
    repeat' (first
      | refine EP.fT rfl (FV.lss rfl rfl) rfl (fun _ => rfl) (by omega) ?_
      | refine EP.f rfl (FV.load rfl rfl rfl (fun w' h' => h'.cell c1)) rfl rfl ?_
      | refine EP.f rfl (FV.load rfl rfl rfl (fun w' h' => h'.cell c2)) rfl rfl ?_
      | refine EP.nil ?_
      | refine EP.f rfl (FV.move rfl) rfl rfl ?_
      | refine EP.f rfl (FV.idx1 rfl rfl rfl rfl (by omega) (by omega)) rfl rfl ?_)
    repeat' (first
      | refine EL.f (FV.assign rfl) rfl rfl ?_
      | refine EL.nil ?_
      | refine EW.seq ?_
      | refine EW.region ?_
      | refine EW.ret ?_
      | refine EW.condT rfl ?_)
    exact ⟨_, rfl, by rw [cmpL_lt hl hlt he h1], hE.trans ed⟩
  repeat' (first
    | refine EP.fF rfl (FV.lss rfl rfl) rfl (fun _ => rfl) (by omega) ?_
    | refine EP.f rfl (FV.load rfl rfl rfl (fun w' h' => h'.cell c1)) rfl rfl ?_
    | refine EP.f rfl (FV.load rfl rfl rfl (fun w' h' => h'.cell c2)) rfl rfl ?_
    | refine EP.nil ?_
    | refine EP.f rfl (FV.move rfl) rfl rfl ?_
    | refine EP.f rfl (FV.idx1 rfl rfl rfl rfl (by omega) (by omega)) rfl rfl ?_)
  repeat' (first
    | refine EW.seq ?_
    | refine EW.skip ?_
    | refine EW.condF rfl ?_)
  refine EW.draw (fun w' => Ext wr w') (pl 0 9) mixed (by decide +kernel) ed2 ?_
  by_cases h2 : ys.getD k 0 < xs.getD k 0
  · skip
    repeat' (first
      | refine EP.fT rfl (FV.gtr rfl rfl) rfl (fun _ => rfl) (by omega) ?_
      | refine EP.f rfl (FV.load rfl rfl rfl (fun w' h' => h'.cell c1)) rfl rfl ?_
      | refine EP.f rfl (FV.load rfl rfl rfl (fun w' h' => h'.cell c2)) rfl rfl ?_
      | refine EP.nil ?_
      | refine EP.f rfl (FV.move rfl) rfl rfl ?_
      | refine EP.f rfl (FV.idx1 rfl rfl rfl rfl (by omega) (by omega)) rfl rfl ?_)
    repeat' (first
      | refine EL.f (FV.assign rfl) rfl rfl ?_
      | refine EL.nil ?_
      | refine EW.seq ?_
      | refine EW.region ?_
      | refine EW.ret ?_
      | refine EW.condT rfl ?_)
    exact ⟨_, rfl, by rw [cmpL_gt hl hlt he h2], hE.trans ed2⟩
  repeat' (first
    | refine EP.fF rfl (FV.gtr rfl rfl) rfl (fun _ => rfl) (by omega) ?_
    | refine EP.f rfl (FV.load rfl rfl rfl (fun w' h' => h'.cell c1)) rfl rfl ?_
    | refine EP.f rfl (FV.load rfl rfl rfl (fun w' h' => h'.cell c2)) rfl rfl ?_
    | refine EP.nil ?_
    | refine EP.f rfl (FV.move rfl) rfl rfl ?_
    | refine EP.f rfl (FV.idx1 rfl rfl rfl rfl (by omega) (by omega)) rfl rfl ?_)
  repeat' (first
    | refine EL.f (FV.move rfl) rfl rfl ?_
    | refine EL.f (FV.assign rfl) rfl rfl ?_
    | refine EL.f (FV.addI rfl rfl (by omega)) rfl rfl ?_
    | refine EL.nil ?_
    | refine EW.region ?_
    | refine EW.skip ?_
    | refine EW.condF rfl ?_)
  exact ⟨k + 1, ⟨rfl, rfl, rfl, trivial⟩, ⟨by omega, fun j hj => by
    by_cases e : j = k
    · subst e; omega
    · exact he j (by omega), hE.trans ed2⟩, by omega⟩
set_option maxHeartbeats 4000000 in
theorem specTerm (t : Tm) (b o : Nat) (vars : Int) (w : World) (hx : ∃ cs, Lies w b o cs ∧ TmB w 0 cs t) : CallsR Try.prog 82 [.pointer (some ⟨b, o, none⟩), .int .i64 vars] w fun v w' => v = .bool (tmOk vars t) ∧ Ext w w' := by
  obtain ⟨cs, hL, A, cap, rfl, hI⟩ := hx
  have hr := hI.1
  have t0 := hL 0 _ rfl
  have t1 := hL 1 _ rfl
  refine CallsR.enter Try.func82 (by decide +kernel) rfl Try.ntmps82 rfl ?_
  by_cases q1 : (t.exps.length : Int) = vars
  rotate_left
  · repeat' (first
      | (show EL _ _ _ _ (_ :: _) _ _
         first
         | (show EL _ _ _ _ (⟨_, _, _, _, _, some _⟩ :: _) _ _; refine EL.skip rfl rfl ?_)
         | (show EL _ _ _ _ (⟨_, .nilCheck _, _, _, _, _⟩ :: _) _ _; refine EL.f (FV.nilChk rfl) rfl rfl ?_)
         | (show EL _ _ _ _ (⟨_, .fieldAddr _ _ _, _, _, _, _⟩ :: _) _ _; refine EL.f (FV.fieldAddr rfl rfl rfl rfl rfl) rfl rfl ?_)
         | (show EL _ _ _ _ (⟨_, .load _ _, _, _, _, _⟩ :: _) _ _; refine EL.f (FV.load1 rfl rfl rfl (t0)) rfl rfl ?_)
         | (show EL _ _ _ _ (⟨_, .move _, _, _, _, _⟩ :: _) _ _; refine EL.f (FV.move rfl) rfl rfl ?_)
         | (show EL _ _ _ _ (⟨_, .assign _, _, _, _, _⟩ :: _) _ _; refine EL.f (FV.assign rfl) rfl rfl ?_)
         | (show EL _ _ _ _ (⟨_, .call _, _, _, _, _⟩ :: _) _ _; refine EL.f (FV.len rfl rfl) rfl rfl ?_)
         | (show EL _ _ _ _ (⟨_, .pick _ _ _, _, _, _, _⟩ :: _) _ _; refine EL.f (FV.pickT rfl rfl) rfl rfl ?_)
         | (show EL _ _ _ _ (⟨_, .binOp .neq _ _ _ _, _, _, _, _⟩ :: _) _ _; refine EL.fT (FV.neq rfl rfl) rfl (fun _ => rfl) (by omega) ?_))
      | refine EL.nil ?_
      | refine EW.seq ?_
      | refine EW.region ?_
      | refine EW.ret ?_
      | refine EW.condT rfl ?_)
    exact ⟨_, rfl, by rw [tmOk_len q1], Ext.refl _⟩
  by_cases qn : 0 ≤ t.coef ∧ t.coef ≤ 1000002
  rotate_left
  · have in1 : inB t.coef 0 1000002 = false := by unfold inB; exact decide_eq_false qn
    repeat' (first
      | (show EL _ _ _ _ (_ :: _) _ _
         first
         | (show EL _ _ _ _ (⟨_, _, _, _, _, some _⟩ :: _) _ _; refine EL.skip rfl rfl ?_)
         | (show EL _ _ _ _ (⟨_, .nilCheck _, _, _, _, _⟩ :: _) _ _; refine EL.f (FV.nilChk rfl) rfl rfl ?_)
         | (show EL _ _ _ _ (⟨_, .fieldAddr _ _ _, _, _, _, _⟩ :: _) _ _; refine EL.f (FV.fieldAddr rfl rfl rfl rfl rfl) rfl rfl ?_)
         | (show EL _ _ _ _ (⟨_, .load _ _, _, _, _, _⟩ :: _) _ _; first | refine EL.f (FV.load1 rfl rfl rfl (t0)) rfl rfl ?_ | refine EL.f (FV.load1 rfl rfl rfl (t1)) rfl rfl ?_)
         | (show EL _ _ _ _ (⟨_, .call _, _, _, _, _⟩ :: _) _ _; first | (refine EL.h (Hv.call (specNumber _ _) rfl) rfl (fun _ => rfl) ?_; rintro _ _ ⟨rfl, rfl⟩; rw [in1]) | refine EL.f (FV.len rfl rfl) rfl rfl ?_)
         | (show EL _ _ _ _ (⟨_, .move _, _, _, _, _⟩ :: _) _ _; refine EL.f (FV.move rfl) rfl rfl ?_)
         | (show EL _ _ _ _ (⟨_, .assign _, _, _, _, _⟩ :: _) _ _; refine EL.f (FV.assign rfl) rfl rfl ?_)
         | (show EL _ _ _ _ (⟨_, .unOp .not _ _, _, _, _, _⟩ :: _) _ _; refine EL.f (FV.not rfl) rfl rfl ?_)
         | (show EL _ _ _ _ (⟨_, .pick _ _ _, _, _, _, _⟩ :: _) _ _; first | refine EL.f (FV.pickT rfl rfl) rfl rfl ?_ | refine EL.f (FV.pickF rfl rfl) rfl rfl ?_)
         | (show EL _ _ _ _ (⟨_, .binOp .neq _ _ _ _, _, _, _, _⟩ :: _) _ _; refine EL.fF (FV.neq rfl rfl) rfl (fun _ => rfl) (by omega) ?_))
      | refine EL.nil ?_
      | refine EW.seq ?_
      | refine EW.region ?_
      | refine EW.ret ?_
      | refine EW.condT rfl ?_)
    exact ⟨_, rfl, by rw [tmOk_coef (by omega)], Ext.refl _⟩
  have in1 : inB t.coef 0 1000002 = true := inB_iff.2 qn
  by_cases q0 : t.coef = 0
  · repeat' (first
      | (show EL _ _ _ _ (_ :: _) _ _
         first
         | (show EL _ _ _ _ (⟨_, .nilCheck _, _, _, _, _⟩ :: _) _ _; refine EL.f (FV.nilChk rfl) rfl rfl ?_)
         | (show EL _ _ _ _ (⟨_, .fieldAddr _ _ _, _, _, _, _⟩ :: _) _ _; refine EL.f (FV.fieldAddr rfl rfl rfl rfl rfl) rfl rfl ?_)
         | (show EL _ _ _ _ (⟨_, .load _ _, _, _, _, _⟩ :: _) _ _; first | refine EL.f (FV.load1 rfl rfl rfl (t0)) rfl rfl ?_ | refine EL.f (FV.load1 rfl rfl rfl (t1)) rfl rfl ?_)
         | (show EL _ _ _ _ (⟨_, .call _, _, _, _, _⟩ :: _) _ _; first | (refine EL.h (Hv.call (specNumber _ _) rfl) rfl (fun _ => rfl) ?_; rintro _ _ ⟨rfl, rfl⟩; rw [in1]) | refine EL.f (FV.len rfl rfl) rfl rfl ?_)
         | (show EL _ _ _ _ (⟨_, .move _, _, _, _, _⟩ :: _) _ _; refine EL.f (FV.move rfl) rfl rfl ?_)
         | (show EL _ _ _ _ (⟨_, .assign _, _, _, _, _⟩ :: _) _ _; refine EL.f (FV.assign rfl) rfl rfl ?_)
         | (show EL _ _ _ _ (⟨_, .unOp .not _ _, _, _, _, _⟩ :: _) _ _; refine EL.f (FV.not rfl) rfl rfl ?_)
         | (show EL _ _ _ _ (⟨_, .pick _ _ _, _, _, _, _⟩ :: _) _ _; refine EL.f (FV.pickF rfl rfl) rfl rfl ?_)
         | (show EL _ _ _ _ (⟨_, .binOp .eql _ _ _ _, _, _, _, _⟩ :: _) _ _; refine EL.fT (FV.eql rfl rfl) rfl (fun _ => rfl) (by omega) ?_)
         | (show EL _ _ _ _ (⟨_, .binOp .neq _ _ _ _, _, _, _, _⟩ :: _) _ _; refine EL.fF (FV.neq rfl rfl) rfl (fun _ => rfl) (by omega) ?_))
      | refine EL.nil ?_
      | refine EW.seq ?_
      | refine EW.region ?_
      | refine EW.ret ?_
      | refine EW.condT rfl ?_)
    exact ⟨_, rfl, by rw [tmOk_coef (by omega)], Ext.refl _⟩
  repeat' (first
    | (show EL _ _ _ _ (_ :: _) _ _
       first
       | (show EL _ _ _ _ (⟨_, .nilCheck _, _, _, _, _⟩ :: _) _ _; refine EL.f (FV.nilChk rfl) rfl rfl ?_)
       | (show EL _ _ _ _ (⟨_, .fieldAddr _ _ _, _, _, _, _⟩ :: _) _ _; refine EL.f (FV.fieldAddr rfl rfl rfl rfl rfl) rfl rfl ?_)
       | (show EL _ _ _ _ (⟨_, .load _ _, _, _, _, _⟩ :: _) _ _; first | refine EL.f (FV.load1 rfl rfl rfl (t0)) rfl rfl ?_ | refine EL.f (FV.load1 rfl rfl rfl (t1)) rfl rfl ?_)
       | (show EL _ _ _ _ (⟨_, .call _, _, _, _, _⟩ :: _) _ _; first | (refine EL.h (Hv.call (specNumber _ _) rfl) rfl (fun _ => rfl) ?_; rintro _ _ ⟨rfl, rfl⟩; rw [in1]) | refine EL.f (FV.len rfl rfl) rfl rfl ?_)
       | (show EL _ _ _ _ (⟨_, .move _, _, _, _, _⟩ :: _) _ _; refine EL.f (FV.move rfl) rfl rfl ?_)
       | (show EL _ _ _ _ (⟨_, .assign _, _, _, _, _⟩ :: _) _ _; refine EL.f (FV.assign rfl) rfl rfl ?_)
       | (show EL _ _ _ _ (⟨_, .unOp .not _ _, _, _, _, _⟩ :: _) _ _; refine EL.f (FV.not rfl) rfl rfl ?_)
       | (show EL _ _ _ _ (⟨_, .pick _ _ _, _, _, _, _⟩ :: _) _ _; refine EL.f (FV.pickF rfl rfl) rfl rfl ?_)
       | (show EL _ _ _ _ (⟨_, .binOp .eql _ _ _ _, _, _, _, _⟩ :: _) _ _; refine EL.fF (FV.eql rfl rfl) rfl (fun _ => rfl) (by omega) ?_)
       | (show EL _ _ _ _ (⟨_, .binOp .neq _ _ _ _, _, _, _, _⟩ :: _) _ _; refine EL.fF (FV.neq rfl rfl) rfl (fun _ => rfl) (by omega) ?_))
    | refine EL.nil ?_
    | refine EW.seq ?_
    | refine EW.region ?_
    | refine EW.block ?_
    | refine EW.skip ?_
    | refine EW.condF rfl ?_)
  refine EW.loop (X := Nat) (fun k wr => k ≤ t.exps.length ∧ (∀ j, j < k → 0 ≤ t.exps.getD j 0 ∧ t.exps.getD j 0 ≤ 12) ∧ (0 ≤ sumI (t.exps.take k) ∧ sumI (t.exps.take k) ≤ 12) ∧ Ext w wr) (fun k => [(0, .pointer (some ⟨b, o, none⟩)), (1, .int .i64 vars), (5, .int .i64 (12 - sumI (t.exps.take k))), (6, .int .i64 k)]) (fun k => t.exps.length - k) 0 ⟨Nat.zero_le _, fun j hj => by omega, by simp [sumI], Ext.refl _⟩ ⟨rfl, rfl, rfl, rfl, trivial⟩ ?_
  rintro k wr ⟨hk, hall, hsm, hE⟩
  have c0 := hE.cell t0
  by_cases hlt : k < t.exps.length
  rotate_left
  · obtain rfl : k = t.exps.length := by omega
    rw [List.take_length] at hsm
    repeat' (first
      | (show EL _ _ _ _ (_ :: _) _ _
         first
         | (show EL _ _ _ _ (⟨_, .nilCheck _, _, _, _, _⟩ :: _) _ _; refine EL.f (FV.nilChk rfl) rfl rfl ?_)
         | (show EL _ _ _ _ (⟨_, .fieldAddr _ _ _, _, _, _, _⟩ :: _) _ _; refine EL.f (FV.fieldAddr rfl rfl rfl rfl rfl) rfl rfl ?_)
         | (show EL _ _ _ _ (⟨_, .load _ _, _, _, _, _⟩ :: _) _ _; refine EL.f (FV.load1 rfl rfl rfl (c0)) rfl rfl ?_)
         | (show EL _ _ _ _ (⟨_, .move _, _, _, _, _⟩ :: _) _ _; refine EL.f (FV.move rfl) rfl rfl ?_)
         | (show EL _ _ _ _ (⟨_, .assign _, _, _, _, _⟩ :: _) _ _; refine EL.f (FV.assign rfl) rfl rfl ?_)
         | (show EL _ _ _ _ (⟨_, .call _, _, _, _, _⟩ :: _) _ _; refine EL.f (FV.len rfl rfl) rfl rfl ?_)
         | (show EL _ _ _ _ (⟨_, .binOp .lss _ _ _ _, _, _, _, _⟩ :: _) _ _; refine EL.fF (FV.lss rfl rfl) rfl (fun _ => rfl) (by omega) ?_))
      | refine EL.nil ?_
      | refine EW.seq ?_
      | refine EW.region ?_
      | refine EW.exit ?_
      | refine EW.ret ?_
      | refine EW.condF rfl ?_)
    exact ⟨_, rfl, by rw [tmOk_true q1 (by omega) (degOk_true hall hsm.2)], hE⟩
  obtain ⟨b1, o1, rfl, hc⟩ := hI.rd.int hlt
  have cx := hE.cell hc
  by_cases hin : 0 ≤ t.exps.getD k 0 ∧ t.exps.getD k 0 ≤ 12 - sumI (t.exps.take k)
  rotate_left
  · have i3 : inB (t.exps.getD k 0) 0 (12 - sumI (t.exps.take k)) = false := by unfold inB; exact decide_eq_false hin
    repeat' (first
      | (show EL _ _ _ _ (_ :: _) _ _
         first
         | (show EL _ _ _ _ (⟨_, .nilCheck _, _, _, _, _⟩ :: _) _ _; refine EL.f (FV.nilChk rfl) rfl rfl ?_)
         | (show EL _ _ _ _ (⟨_, .fieldAddr _ _ _, _, _, _, _⟩ :: _) _ _; refine EL.f (FV.fieldAddr rfl rfl rfl rfl rfl) rfl rfl ?_)
         | (show EL _ _ _ _ (⟨_, .load _ _, _, _, _, _⟩ :: _) _ _; first | refine EL.f (FV.load1 rfl rfl rfl (c0)) rfl rfl ?_ | refine EL.f (FV.load1 rfl rfl rfl (cx)) rfl rfl ?_)
         | (show EL _ _ _ _ (⟨_, .call _, _, _, _, _⟩ :: _) _ _; first | (refine EL.h (Hv.call (specInR i3 _) rfl) rfl (fun _ => rfl) ?_; rintro _ _ ⟨rfl, rfl⟩) | refine EL.f (FV.len rfl rfl) rfl rfl ?_)
         | (show EL _ _ _ _ (⟨_, .move _, _, _, _, _⟩ :: _) _ _; refine EL.f (FV.move rfl) rfl rfl ?_)
         | (show EL _ _ _ _ (⟨_, .assign _, _, _, _, _⟩ :: _) _ _; refine EL.f (FV.assign rfl) rfl rfl ?_)
         | (show EL _ _ _ _ (⟨_, .unOp .not _ _, _, _, _, _⟩ :: _) _ _; refine EL.f (FV.not rfl) rfl rfl ?_)
         | (show EL _ _ _ _ (⟨_, .binOp .lss _ _ _ _, _, _, _, _⟩ :: _) _ _; refine EL.fT (FV.lss rfl rfl) rfl (fun _ => rfl) (by omega) ?_)
         | (show EL _ _ _ _ (⟨_, .indexAddr _ _ _, _, _, _, _⟩ :: _) _ _; refine EL.f (FV.idx1 rfl rfl rfl rfl (by omega) (by omega)) rfl rfl ?_))
      | refine EL.nil ?_
      | refine EW.seq ?_
      | refine EW.region ?_
      | refine EW.block ?_
      | refine EW.skip ?_
      | refine EW.ret ?_
      | refine EW.condT rfl ?_)
    exact ⟨_, rfl, by rw [tmOk_deg (degOk_false hlt hin)], hE⟩
  have i3 : inB (t.exps.getD k 0) 0 (12 - sumI (t.exps.take k)) = true := inB_iff.2 hin
  repeat' (first
    | (show EL _ _ _ _ (_ :: _) _ _
       first
       | (show EL _ _ _ _ (⟨_, .nilCheck _, _, _, _, _⟩ :: _) _ _; refine EL.f (FV.nilChk rfl) rfl rfl ?_)
       | (show EL _ _ _ _ (⟨_, .fieldAddr _ _ _, _, _, _, _⟩ :: _) _ _; refine EL.f (FV.fieldAddr rfl rfl rfl rfl rfl) rfl rfl ?_)
       | (show EL _ _ _ _ (⟨_, .load _ _, _, _, _, _⟩ :: _) _ _; first | refine EL.f (FV.load1 rfl rfl rfl (c0)) rfl rfl ?_ | refine EL.f (FV.load1 rfl rfl rfl (cx)) rfl rfl ?_)
       | (show EL _ _ _ _ (⟨_, .call _, _, _, _, _⟩ :: _) _ _; first | (refine EL.h (Hv.call (specInR i3 _) rfl) rfl (fun _ => rfl) ?_; rintro _ _ ⟨rfl, rfl⟩) | refine EL.f (FV.len rfl rfl) rfl rfl ?_)
       | (show EL _ _ _ _ (⟨_, .move _, _, _, _, _⟩ :: _) _ _; refine EL.f (FV.move rfl) rfl rfl ?_)
       | (show EL _ _ _ _ (⟨_, .assign _, _, _, _, _⟩ :: _) _ _; refine EL.f (FV.assign rfl) rfl rfl ?_)
       | (show EL _ _ _ _ (⟨_, .binOp .add _ _ _ _, _, _, _, _⟩ :: _) _ _; refine EL.f (FV.addI rfl rfl (by omega)) rfl rfl ?_)
       | (show EL _ _ _ _ (⟨_, .binOp .sub _ _ _ _, _, _, _, _⟩ :: _) _ _; refine EL.f (FV.subI rfl rfl (by omega)) rfl rfl ?_)
       | (show EL _ _ _ _ (⟨_, .unOp .not _ _, _, _, _, _⟩ :: _) _ _; refine EL.f (FV.not rfl) rfl rfl ?_)
       | (show EL _ _ _ _ (⟨_, .binOp .lss _ _ _ _, _, _, _, _⟩ :: _) _ _; refine EL.fT (FV.lss rfl rfl) rfl (fun _ => rfl) (by omega) ?_)
       | (show EL _ _ _ _ (⟨_, .indexAddr _ _ _, _, _, _, _⟩ :: _) _ _; refine EL.f (FV.idx1 rfl rfl rfl rfl (by omega) (by omega)) rfl rfl ?_))
    | refine EL.nil ?_
    | refine EW.seq ?_
    | refine EW.region ?_
    | refine EW.block ?_
    | refine EW.skip ?_
    | refine EW.condT rfl ?_
    | refine EW.condF rfl ?_)
  have hst := sumI_take hlt
  exact ⟨k + 1, ⟨rfl, rfl, by rw [hst]; exact (show some (Value.int .i64 _) = some (Value.int .i64 _) from by congr 2; omega), rfl, trivial⟩, ⟨by omega, fun j hj => by
    by_cases e : j = k
    · subst e; omega
    · exact hall j (by omega), by omega, hE⟩, by omega⟩
set_option maxHeartbeats 16000000 in
theorem specOkY (q : Po) (b0 o0 : Nat) (w : World) (hx : ∃ cs, Lies w b0 o0 cs ∧ PoB w 0 cs q) : CallsR Try.prog 60 [.pointer (some ⟨b0, o0, none⟩)] w fun v w' => v = .bool (validY q) ∧ Ext w w' := by
  obtain ⟨cs, hL0, A, cap, rfl, hts⟩ := hx
  have hge := hts.1
  have t0 := hL0 0 _ rfl
  have t1 := hL0 1 _ rfl
  refine CallsR.enter Try.func60 (by decide +kernel) rfl Try.ntmps60 rfl ?_
  by_cases hv : 0 ≤ q.vars ∧ q.vars ≤ 12
  rotate_left
  · have i1 : inB q.vars 0 12 = false := by unfold inB; exact decide_eq_false hv
    repeat' (first
      | (show EL _ _ _ _ (_ :: _) _ _
         first
         | (show EL _ _ _ _ (⟨_, _, _, _, _, some _⟩ :: _) _ _; refine EL.skip rfl rfl ?_)
         | (show EL _ _ _ _ (⟨_, .nilCheck _, _, _, _, _⟩ :: _) _ _; refine EL.f (FV.nilChk rfl) rfl rfl ?_)
         | (show EL _ _ _ _ (⟨_, .fieldAddr _ _ _, _, _, _, _⟩ :: _) _ _; refine EL.f (FV.fieldAddr rfl rfl rfl rfl rfl) rfl rfl ?_)
         | (show EL _ _ _ _ (⟨_, .load _ _, _, _, _, _⟩ :: _) _ _; refine EL.f (FV.load1 rfl rfl rfl (t0)) rfl rfl ?_)
         | (show EL _ _ _ _ (⟨_, .call _, _, _, _, _⟩ :: _) _ _; (refine EL.h (Hv.call (specInR i1 _) rfl) rfl (fun _ => rfl) ?_; rintro _ _ ⟨rfl, rfl⟩))
         | (show EL _ _ _ _ (⟨_, .move _, _, _, _, _⟩ :: _) _ _; refine EL.f (FV.move rfl) rfl rfl ?_)
         | (show EL _ _ _ _ (⟨_, .assign _, _, _, _, _⟩ :: _) _ _; refine EL.f (FV.assign rfl) rfl rfl ?_)
         | (show EL _ _ _ _ (⟨_, .unOp .not _ _, _, _, _, _⟩ :: _) _ _; refine EL.f (FV.not rfl) rfl rfl ?_)
         | (show EL _ _ _ _ (⟨_, .pick _ _ _, _, _, _, _⟩ :: _) _ _; refine EL.f (FV.pickT rfl rfl) rfl rfl ?_))
      | refine EL.nil ?_
      | refine EW.seq ?_
      | refine EW.region ?_
      | refine EW.ret ?_
      | refine EW.condT rfl ?_)
    exact ⟨_, rfl, by rw [validY_vars hv], Ext.refl _⟩
  have i1 : inB q.vars 0 12 = true := inB_iff.2 hv
  by_cases hn : q.terms.length ≤ 120
  rotate_left
  · repeat' (first
      | (show EL _ _ _ _ (_ :: _) _ _
         first
         | (show EL _ _ _ _ (⟨_, .nilCheck _, _, _, _, _⟩ :: _) _ _; refine EL.f (FV.nilChk rfl) rfl rfl ?_)
         | (show EL _ _ _ _ (⟨_, .fieldAddr _ _ _, _, _, _, _⟩ :: _) _ _; refine EL.f (FV.fieldAddr rfl rfl rfl rfl rfl) rfl rfl ?_)
         | (show EL _ _ _ _ (⟨_, .load _ _, _, _, _, _⟩ :: _) _ _; first | refine EL.f (FV.load1 rfl rfl rfl (t0)) rfl rfl ?_ | refine EL.f (FV.load1 rfl rfl rfl (t1)) rfl rfl ?_)
         | (show EL _ _ _ _ (⟨_, .call _, _, _, _, _⟩ :: _) _ _; first | (refine EL.h (Hv.call (specInR i1 _) rfl) rfl (fun _ => rfl) ?_; rintro _ _ ⟨rfl, rfl⟩) | refine EL.f (FV.len rfl rfl) rfl rfl ?_)
         | (show EL _ _ _ _ (⟨_, .move _, _, _, _, _⟩ :: _) _ _; refine EL.f (FV.move rfl) rfl rfl ?_)
         | (show EL _ _ _ _ (⟨_, .assign _, _, _, _, _⟩ :: _) _ _; refine EL.f (FV.assign rfl) rfl rfl ?_)
         | (show EL _ _ _ _ (⟨_, .unOp .not _ _, _, _, _, _⟩ :: _) _ _; refine EL.f (FV.not rfl) rfl rfl ?_)
         | (show EL _ _ _ _ (⟨_, .pick _ _ _, _, _, _, _⟩ :: _) _ _; refine EL.f (FV.pickF rfl rfl) rfl rfl ?_)
         | (show EL _ _ _ _ (⟨_, .binOp .gtr _ _ _ _, _, _, _, _⟩ :: _) _ _; refine EL.fT (FV.gtr rfl rfl) rfl (fun _ => rfl) (by omega) ?_))
      | refine EL.nil ?_
      | refine EW.seq ?_
      | refine EW.region ?_
      | refine EW.ret ?_
      | refine EW.condT rfl ?_)
    exact ⟨_, rfl, by rw [validY_long hn], Ext.refl _⟩
  repeat' (first
    | (show EL _ _ _ _ (_ :: _) _ _
       first
       | (show EL _ _ _ _ (⟨_, .nilCheck _, _, _, _, _⟩ :: _) _ _; refine EL.f (FV.nilChk rfl) rfl rfl ?_)
       | (show EL _ _ _ _ (⟨_, .fieldAddr _ _ _, _, _, _, _⟩ :: _) _ _; refine EL.f (FV.fieldAddr rfl rfl rfl rfl rfl) rfl rfl ?_)
       | (show EL _ _ _ _ (⟨_, .load _ _, _, _, _, _⟩ :: _) _ _; first | refine EL.f (FV.load1 rfl rfl rfl (t0)) rfl rfl ?_ | refine EL.f (FV.load1 rfl rfl rfl (t1)) rfl rfl ?_)
       | (show EL _ _ _ _ (⟨_, .call _, _, _, _, _⟩ :: _) _ _; first | (refine EL.h (Hv.call (specInR i1 _) rfl) rfl (fun _ => rfl) ?_; rintro _ _ ⟨rfl, rfl⟩) | refine EL.f (FV.len rfl rfl) rfl rfl ?_)
       | (show EL _ _ _ _ (⟨_, .move _, _, _, _, _⟩ :: _) _ _; refine EL.f (FV.move rfl) rfl rfl ?_)
       | (show EL _ _ _ _ (⟨_, .assign _, _, _, _, _⟩ :: _) _ _; refine EL.f (FV.assign rfl) rfl rfl ?_)
       | (show EL _ _ _ _ (⟨_, .unOp .not _ _, _, _, _, _⟩ :: _) _ _; refine EL.f (FV.not rfl) rfl rfl ?_)
       | (show EL _ _ _ _ (⟨_, .pick _ _ _, _, _, _, _⟩ :: _) _ _; refine EL.f (FV.pickF rfl rfl) rfl rfl ?_)
       | (show EL _ _ _ _ (⟨_, .binOp .gtr _ _ _ _, _, _, _, _⟩ :: _) _ _; refine EL.fF (FV.gtr rfl rfl) rfl (fun _ => rfl) (by omega) ?_))
    | refine EL.nil ?_
    | refine EW.seq ?_
    | refine EW.region ?_
    | refine EW.block ?_
    | refine EW.skip ?_
    | refine EW.condF rfl ?_)
  refine EW.loop (X := Nat) (fun i wr => i ≤ q.terms.length ∧ (∀ j, j < i → tOk q.vars q.terms j = true) ∧ Ext w wr) (fun i => [(0, .pointer (some ⟨b0, o0, none⟩)), (3, .int .i64 i)]) (fun i => q.terms.length - i) 0 ⟨Nat.zero_le _, fun j hj => by omega, Ext.refl _⟩ ⟨rfl, rfl, trivial⟩ ?_
  rintro i wr ⟨hi, hall, hE⟩
  have k0 := hE.cell t0
  have k1 := hE.cell t1
  by_cases hlt : i < q.terms.length
  rotate_left
  · obtain rfl : i = q.terms.length := by omega
    repeat' (first
      | (show EL _ _ _ _ (_ :: _) _ _
         first
         | (show EL _ _ _ _ (⟨_, .nilCheck _, _, _, _, _⟩ :: _) _ _; refine EL.f (FV.nilChk rfl) rfl rfl ?_)
         | (show EL _ _ _ _ (⟨_, .fieldAddr _ _ _, _, _, _, _⟩ :: _) _ _; refine EL.f (FV.fieldAddr rfl rfl rfl rfl rfl) rfl rfl ?_)
         | (show EL _ _ _ _ (⟨_, .load _ _, _, _, _, _⟩ :: _) _ _; refine EL.f (FV.load1 rfl rfl rfl (k1)) rfl rfl ?_)
         | (show EL _ _ _ _ (⟨_, .move _, _, _, _, _⟩ :: _) _ _; refine EL.f (FV.move rfl) rfl rfl ?_)
         | (show EL _ _ _ _ (⟨_, .assign _, _, _, _, _⟩ :: _) _ _; refine EL.f (FV.assign rfl) rfl rfl ?_)
         | (show EL _ _ _ _ (⟨_, .call _, _, _, _, _⟩ :: _) _ _; refine EL.f (FV.len rfl rfl) rfl rfl ?_)
         | (show EL _ _ _ _ (⟨_, .binOp .lss _ _ _ _, _, _, _, _⟩ :: _) _ _; refine EL.fF (FV.lss rfl rfl) rfl (fun _ => rfl) (by omega) ?_))
      | refine EL.nil ?_
      | refine EW.seq ?_
      | refine EW.region ?_
      | refine EW.exit ?_
      | refine EW.ret ?_
      | refine EW.condF rfl ?_)
    exact ⟨_, rfl, by rw [validY_all hv hn hall], hE⟩
  have hvat := validY_at hlt
  obtain ⟨b, o, ct, rfl, hL, hX, hc⟩ := (hts.ext hE).kid hlt
  have hX2 := hX
  obtain ⟨E1, c1, rfl, hI⟩ := hX
  have e0 := hL 0 _ rfl
  have ed := Ext.drew wr
  have hcall := specTerm (q.terms.getD i dTm) b (o + i * 2) q.vars wr.drew ⟨_, hL.ext ed, hX2.ext ed⟩
  repeat' (first
    | (show EL _ _ _ _ (_ :: _) _ _
       first
       | (show EL _ _ _ _ (⟨_, .nilCheck _, _, _, _, _⟩ :: _) _ _; refine EL.f (FV.nilChk rfl) rfl rfl ?_)
       | (show EL _ _ _ _ (⟨_, .fieldAddr _ _ _, _, _, _, _⟩ :: _) _ _; refine EL.f (FV.fieldAddr rfl rfl rfl rfl rfl) rfl rfl ?_)
       | (show EL _ _ _ _ (⟨_, .load _ _, _, _, _, _⟩ :: _) _ _; refine EL.f (FV.load1 rfl rfl rfl (k1)) rfl rfl ?_)
       | (show EL _ _ _ _ (⟨_, .move _, _, _, _, _⟩ :: _) _ _; refine EL.f (FV.move rfl) rfl rfl ?_)
       | (show EL _ _ _ _ (⟨_, .call _, _, _, _, _⟩ :: _) _ _; refine EL.f (FV.len rfl rfl) rfl rfl ?_)
       | (show EL _ _ _ _ (⟨_, .binOp .lss _ _ _ _, _, _, _, _⟩ :: _) _ _; refine EL.fT (FV.lss rfl rfl) rfl (fun _ => rfl) (by omega) ?_))
    | refine EL.nil ?_
    | refine EW.seq ?_
    | refine EW.region ?_
    | refine EW.block ?_
    | refine EW.skip ?_
    | refine EW.condT rfl ?_)
  cases htm : tmOk q.vars (q.terms.getD i dTm)
  · rw [htm] at hcall
    refine EW.draw (fun w' => Ext wr w') (pl 0 10 ++ [(10, false)] ++ pl 11 26) mixed (by decide +kernel) ed ?_
    repeat' (first
      | refine EP.f rfl (FV.nilChk rfl) rfl rfl ?_
      | refine EP.f rfl (FV.fieldAddr rfl rfl rfl rfl rfl) rfl rfl ?_
      | refine EP.f rfl (FV.load rfl rfl rfl (fun w' h' => h'.cell k0)) rfl rfl ?_
      | refine EP.f rfl (FV.load rfl rfl rfl (fun w' h' => h'.cell k1)) rfl rfl ?_
      | refine EP.f rfl (FV.idx (s := 2) rfl rfl rfl rfl (by omega) (by omega)) rfl rfl ?_
      | refine EP.f rfl (FV.move rfl) rfl rfl ?_)
    refine EP.h rfl rfl (Hv.call hcall rfl) rfl (fun _ => rfl) ?_
    rintro _ u1 ⟨rfl, he1⟩
    refine ⟨ed.trans he1, ?_⟩
    repeat' (first
      | refine EP.f rfl (FV.pickT rfl rfl) rfl rfl ?_
      | refine EP.skip rfl rfl rfl ?_
      | refine EP.skipU rfl rfl rfl ?_
      | refine EP.nil ?_
      | refine EP.f rfl (FV.move rfl) rfl rfl ?_
      | refine EP.f rfl (FV.not rfl) rfl rfl ?_)
    repeat' (first
      | refine EL.f (FV.assign rfl) rfl rfl ?_
      | refine EL.nil ?_
      | refine EW.seq ?_
      | refine EW.region ?_
      | refine EW.ret ?_
      | refine EW.condT rfl ?_)
    exact ⟨_, rfl, by rw [hvat (tOk_tm htm)], (hE.trans ed).trans he1⟩
  rw [htm] at hcall
  by_cases i0 : i = 0
  · refine EW.draw (fun w' => Ext wr w') (pl 0 10 ++ [(10, false)] ++ pl 11 26) mixed (by decide +kernel) ed ?_
    repeat' (first
      | refine EP.f rfl (FV.nilChk rfl) rfl rfl ?_
      | refine EP.f rfl (FV.fieldAddr rfl rfl rfl rfl rfl) rfl rfl ?_
      | refine EP.f rfl (FV.load rfl rfl rfl (fun w' h' => h'.cell k0)) rfl rfl ?_
      | refine EP.f rfl (FV.load rfl rfl rfl (fun w' h' => h'.cell k1)) rfl rfl ?_
      | refine EP.f rfl (FV.idx (s := 2) rfl rfl rfl rfl (by omega) (by omega)) rfl rfl ?_
      | refine EP.f rfl (FV.move rfl) rfl rfl ?_)
    refine EP.h rfl rfl (Hv.call hcall rfl) rfl (fun _ => rfl) ?_
    rintro _ u1 ⟨rfl, he1⟩
    refine ⟨ed.trans he1, ?_⟩
    repeat' (first
      | refine EP.f rfl (FV.pickF rfl rfl) rfl rfl ?_
      | refine EP.skip rfl rfl rfl ?_
      | refine EP.fF rfl (FV.gtr rfl rfl) rfl (fun _ => rfl) (by omega) ?_
      | refine EP.nil ?_
      | refine EP.f rfl (FV.move rfl) rfl rfl ?_
      | refine EP.f rfl (FV.not rfl) rfl rfl ?_)
    repeat' (first
      | refine EL.f (FV.move rfl) rfl rfl ?_
      | refine EL.f (FV.assign rfl) rfl rfl ?_
      | refine EL.f (FV.addI rfl rfl (by omega)) rfl rfl ?_
      | refine EL.nil ?_
      | refine EW.region ?_
      | refine EW.skip ?_
      | refine EW.condF rfl ?_)
    exact ⟨i + 1, ⟨rfl, rfl, trivial⟩, ⟨by omega, fun j hj => by
      obtain rfl : j = i := by omega
      exact tOk_true htm (by rw [i0]; exact ordOk_zero _), (hE.trans ed).trans he1⟩, by omega⟩
  have ei : ((i : Int) - 1).toNat = i - 1 := by omega
  obtain ⟨bp, op, cp, ep, hLp, ⟨E2, c2, rfl, hIp⟩, hcp⟩ := (hts.ext hE).kid (i := ((i : Int) - 1).toNat) (by omega)
  injection ep with ep
  injection ep with ep1 ep2 _
  subst ep1 ep2
  have p0 := hLp 0 _ rfl
  have hpl := tOk_len (hall (i - 1) (by omega))
  rw [← ei] at hpl
  have hq1 : ((q.terms.getD i dTm).exps.length : Int) = q.vars := by
    by_cases e : ((q.terms.getD i dTm).exps.length : Int) = q.vars
    · exact e
    · rw [tmOk_len e] at htm; cases htm
  have hord := ordOk_pos (ts := q.terms) (i := i) (by omega)
  rw [← ei] at hord
  refine EW.draw (fun w' => Ext wr w') (pl 0 10 ++ [(10, false)] ++ pl 11 22 ++ [(33, false)] ++ pl 34 3) mixed (by decide +kernel) ed ?_
  repeat' (first
    | refine EP.f rfl (FV.nilChk rfl) rfl rfl ?_
    | refine EP.f rfl (FV.fieldAddr rfl rfl rfl rfl rfl) rfl rfl ?_
    | refine EP.f rfl (FV.load rfl rfl rfl (fun w' h' => h'.cell k0)) rfl rfl ?_
    | refine EP.f rfl (FV.load rfl rfl rfl (fun w' h' => h'.cell k1)) rfl rfl ?_
    | refine EP.f rfl (FV.idx (s := 2) rfl rfl rfl rfl (by omega) (by omega)) rfl rfl ?_
    | refine EP.f rfl (FV.move rfl) rfl rfl ?_)
  refine EP.h rfl rfl (Hv.call hcall rfl) rfl (fun _ => rfl) ?_
  rintro _ u1 ⟨rfl, he1⟩
  have ed1 := ed.trans he1
  refine ⟨ed1, ?_⟩
  repeat' (first
    | refine EP.f rfl (FV.nilChk rfl) rfl rfl ?_
    | refine EP.f rfl (FV.fieldAddr rfl rfl rfl rfl rfl) rfl rfl ?_
    | refine EP.fT rfl (FV.gtr rfl rfl) rfl (fun _ => rfl) (by omega) ?_
    | refine EP.f rfl (FV.load rfl rfl rfl (fun w' h' => h'.cell k1)) rfl rfl ?_
    | refine EP.f rfl (FV.load rfl rfl rfl (fun w' h' => h'.cell e0)) rfl rfl ?_
    | refine EP.f rfl (FV.load rfl rfl rfl (fun w' h' => h'.cell p0)) rfl rfl ?_
    | refine EP.f rfl (FV.idx (s := 2) rfl rfl rfl rfl (by omega) (by omega)) rfl rfl ?_
    | refine EP.f rfl (FV.move rfl) rfl rfl ?_
    | refine EP.f rfl (FV.subI rfl rfl (by omega)) rfl rfl ?_
    | refine EP.f rfl (FV.not rfl) rfl rfl ?_)
  refine EP.h rfl rfl (Hv.call (specCmp E2 E1 c2 c1 _ _ u1 (hIp.ext ed1) (hI.ext ed1) (by omega)) rfl) rfl (fun _ => rfl) ?_
  rintro _ u3 ⟨rfl, he7⟩
  refine ⟨ed1.trans he7, ?_⟩
  by_cases hlt0 : cmpL (q.terms.getD ((i : Int) - 1).toNat dTm).exps (q.terms.getD i dTm).exps < 0
  · rw [decide_eq_true hlt0] at hord
    repeat' (first
      | refine EP.f rfl (FV.pickT rfl rfl) rfl rfl ?_
      | refine EP.f rfl (FV.pickF rfl rfl) rfl rfl ?_
      | refine EP.fF rfl (FV.geq rfl rfl) rfl (fun _ => rfl) (by omega) ?_
      | refine EP.nil ?_)
    repeat' (first
      | refine EL.f (FV.move rfl) rfl rfl ?_
      | refine EL.f (FV.assign rfl) rfl rfl ?_
      | refine EL.f (FV.addI rfl rfl (by omega)) rfl rfl ?_
      | refine EL.nil ?_
      | refine EW.region ?_
      | refine EW.skip ?_
      | refine EW.condF rfl ?_)
    exact ⟨i + 1, ⟨rfl, rfl, trivial⟩, ⟨by omega, fun j hj => by
      by_cases e : j = i
      · subst e; exact tOk_true htm hord
      · exact hall j (by omega), (hE.trans ed1).trans he7⟩, by omega⟩
  · rw [decide_eq_false hlt0] at hord
    repeat' (first
      | refine EP.f rfl (FV.pickT rfl rfl) rfl rfl ?_
      | refine EP.f rfl (FV.pickF rfl rfl) rfl rfl ?_
      | refine EP.fT rfl (FV.geq rfl rfl) rfl (fun _ => rfl) (by omega) ?_
      | refine EP.nil ?_)
    repeat' (first
      | refine EL.f (FV.assign rfl) rfl rfl ?_
      | refine EL.nil ?_
      | refine EW.seq ?_
      | refine EW.region ?_
      | refine EW.ret ?_
      | refine EW.condT rfl ?_)
    exact ⟨_, rfl, by rw [hvat (tOk_ord hord)], (hE.trans ed1).trans he7⟩
theorem specValidY (q : Po) (cs : List Value) (w : World) (hx : PoB w 0 cs q) : CallsR Try.prog 32 [.agg cs.toArray] w fun v w' => v = .bool (validY q) ∧ Ext w w' := by
  refine CallsR.enter Try.func32 (by decide +kernel) rfl Try.ntmps32 rfl ?_
  repeat' (first
    | refine EW.seq ?_
    | refine EW.region ?_)
  refine EL.h (Hv.boxA (sz := 2) rfl hx.len) rfl (fun _ => rfl) ?_
  rintro _ w1 ⟨g1, rfl, hg1, hb, he1⟩
  repeat' (first
    | refine EL.f (FV.assign rfl) rfl rfl ?_
    | refine EL.nil ?_
    | refine EW.seq ?_
    | refine EW.region ?_)
  refine EL.h (Hv.call (specOkY q g1 0 w1 ⟨cs, At.lies hb, hx.ext he1⟩) rfl) rfl (fun _ => rfl) ?_
  rintro _ w2 ⟨rfl, he2⟩
  repeat' (first
    | refine EL.f (FV.assign rfl) rfl rfl ?_
    | refine EL.nil ?_
    | refine EW.ret ?_)
  exact ⟨_, rfl, rfl, he1.trans he2⟩
end Eng
end Go.Proofs.Ytcodicokpegfmaa
