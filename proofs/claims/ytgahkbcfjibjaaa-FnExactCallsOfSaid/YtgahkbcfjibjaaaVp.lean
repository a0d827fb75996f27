/- Well formed expressions, plain. No condition. -/
import Derived.Test.YtgahkbcfjibjaaaPa
import Derived.Test.YtgahkbcfjibjaaaEc
import Derived.Test.YtgahkbcfjibjaaaNm
namespace Go.Proofs.Ytgahkbcfjibjaaa
open Go Go.RowKit
namespace Eng
/-- The kinds with a fixed number of kids. -/
def KidsOk (k : Int) (m : Nat) : Prop := ((k = 1 ∨ k = 2) ∧ m = 0) ∨ ((k = 3 ∨ k = 4 ∨ k = 5 ∨ k = 6 ∨ k = 9) ∧ m = 2) ∨ (k = 7 ∧ m = 1) ∨ (k = 8 ∧ m = 3)
instance (k : Int) (m : Nat) : Decidable (KidsOk k m) := inferInstanceAs (Decidable (_ ∨ _))
def kidsN (k : Int) : Int := if k = 1 ∨ k = 2 then 0 else if k = 3 ∨ k = 4 ∨ k = 5 ∨ k = 6 ∨ k = 9 then 2 else if k = 7 then 1 else if k = 8 then 3 else -1
theorem kidsN_iff (k : Int) (m : Nat) : kidsN k = m ↔ KidsOk k m := by
  unfold kidsN KidsOk
  repeat' split
  all_goals omega
/-- The form of a node; fp, fo: the parameters and the results of the function that it names. -/
def NodeOk (fp : Int) (fo : Nat) (funcs vars k n p c : Int) (m : Nat) : Prop :=
  ((k = 10 ∨ k = 11) ∧ (0 ≤ n ∧ n ≤ funcs - 1) ∧ ((m : Int) = fp ∧ 0 ≤ p ∧ p ≤ (fo : Int) - 1) ∧ ((k = 10 ∧ c = 0) ∨ (k = 11 ∧ 0 ≤ c ∧ c ≤ 8 ∧ (fo : Int) = fp))) ∨
  (KidsOk k m ∧ p = 0 ∧ c = 0 ∧ ((k = 1 ∧ 0 ≤ n ∧ n ≤ 1000002) ∨ (k = 2 ∧ 0 ≤ n ∧ n ≤ vars - 1) ∨ (3 ≤ k ∧ n = 0)))
instance (fp : Int) (fo : Nat) (funcs vars k n p c : Int) (m : Nat) : Decidable (NodeOk fp fo funcs vars k n p c m) := inferInstanceAs (Decidable (_ ∨ _))
def nodeOk (fs : List Fu) (funcs vars k n p c : Int) (m : Nat) : Bool := decide (NodeOk (fs.getD n.toNat dFu).params (fs.getD n.toNat dFu).outs.length funcs vars k n p c m)
def ownV (k : Int) (i : Nat) (vars : Int) : Int := if k = 9 ∧ i = 1 then vars + 1 else vars
mutual
def Ex.formed (fs : List Fu) (funcs : Int) : Ex → Int → Bool
  | .node k n p c ks, vars => nodeOk fs funcs vars k n p c ks.length && Ex.formedL fs funcs k 0 ks vars
def Ex.formedL (fs : List Fu) (funcs : Int) (k : Int) : Nat → List Ex → Int → Bool
  | _, [], _ => true
  | i, e :: es, vars => Ex.formed fs funcs e (ownV k i vars) && Ex.formedL fs funcs k (i + 1) es vars
end
theorem formedL_true {fs : List Fu} {funcs k vars : Int} : ∀ {i : Nat} {xs : List Ex}, (∀ j, j < xs.length → (xs.getD j dEx).formed fs funcs (ownV k (i + j) vars) = true) → Ex.formedL fs funcs k i xs vars = true
  | _, [], _ => by simp [Ex.formedL]
  | i, x :: xs, h => by
    have h0 := h 0 (by simp)
    have h1 := formedL_true (i := i + 1) (xs := xs) fun j hj => by
      have := h (j + 1) (by simpa using hj)
      rwa [show i + (j + 1) = i + 1 + j from by omega] at this
    rw [Ex.formedL, h1, Bool.and_true]
    exact h0
theorem formedL_false {fs : List Fu} {funcs k vars : Int} : ∀ {i j : Nat} {xs : List Ex}, j < xs.length → (xs.getD j dEx).formed fs funcs (ownV k (i + j) vars) = false → Ex.formedL fs funcs k i xs vars = false
  | _, _, [], h, _ => by simp at h
  | i, 0, x :: xs, _, h => by rw [Ex.formedL, show Ex.formed fs funcs x (ownV k i vars) = false from h, Bool.false_and]
  | i, j + 1, x :: xs, hj, h => by
    rw [Ex.formedL, formedL_false (i := i + 1) (j := j) (xs := xs) (by simpa using hj) (by rwa [show i + (j + 1) = i + 1 + j from by omega] at h), Bool.and_false]
theorem formed_not {fs : List Fu} {funcs vars k n p c : Int} {ks : List Ex} (h : ¬ NodeOk (fs.getD n.toNat dFu).params (fs.getD n.toNat dFu).outs.length funcs vars k n p c ks.length) : Ex.formed fs funcs (.node k n p c ks) vars = false := by
  rw [Ex.formed, nodeOk, decide_eq_false h, Bool.false_and]
theorem formed_leaf {fs : List Fu} {funcs vars k n p c : Int} {ks : List Ex} (h : NodeOk (fs.getD n.toNat dFu).params (fs.getD n.toNat dFu).outs.length funcs vars k n p c ks.length) (h0 : ks.length = 0) : Ex.formed fs funcs (.node k n p c ks) vars = true := by
  obtain rfl := List.eq_nil_of_length_eq_zero h0
  rw [Ex.formed, nodeOk, decide_eq_true h]
  simp [Ex.formedL]
theorem formed_kids {fs : List Fu} {funcs vars k n p c : Int} {ks : List Ex} (h : NodeOk (fs.getD n.toNat dFu).params (fs.getD n.toNat dFu).outs.length funcs vars k n p c ks.length) : Ex.formed fs funcs (.node k n p c ks) vars = Ex.formedL fs funcs k 0 ks vars := by
  rw [Ex.formed, nodeOk, decide_eq_true h, Bool.true_and]
theorem depth_kid {ks : List Ex} {i : Nat} (h : i < ks.length) : (ks.getD i dEx).depth ≤ Ex.depthL ks := by
  have h1 : Ex.depthL (ks.take (i + 1)) ≤ Ex.depthL ks := by
    have e : ks = ks.take (i + 1) ++ ks.drop (i + 1) := (List.take_append_drop _ _).symm
    rw [show Ex.depthL ks = Ex.depthL (ks.take (i + 1) ++ ks.drop (i + 1)) from by rw [← e], depthL_append]
    omega
  rw [depthL_take h] at h1
  omega
theorem ownV_bound (k : Int) (i : Nat) (vars : Int) : vars ≤ ownV k i vars ∧ ownV k i vars ≤ vars + 1 := by
  unfold ownV
  split <;> omega
/-- What ValidExpr says. -/
def validE (fs : List Fu) (e : Ex) (vars funcs : Int) : Bool := inB vars 0 412 && (inB funcs 0 fs.length && (decide (e.size ≤ 400) && (decide (e.depth ≤ 60) && e.formed fs funcs vars)))
end Eng
end Go.Proofs.Ytgahkbcfjibjaaa
