/- RegistersOf, RunTape and GuardsHold, in the program and in the reference. Conditions: the lengths. -/
import Derived.Test.YtgahkbcfjibjaaaTa
namespace Go.Proofs.Ytgahkbcfjibjaaa
open Go Go.RowKit
namespace Eng
def rowsOf (f : Nat → List Int) (n : Nat) : List (List Int) := (List.range n).map f
theorem rowsOf_length (f : Nat → List Int) (n : Nat) : (rowsOf f n).length = n := by simp [rowsOf]
theorem rowsOf_get (f : Nat → List Int) (n k : Nat) (h : k < n) : (rowsOf f n).getD k [] = f k := by simp [rowsOf, h]
theorem rowsOf_succ (f : Nat → List Int) (n : Nat) : rowsOf f (n + 1) = rowsOf f n ++ [f n] := by simp [rowsOf, List.range_succ]
/-- Element j of each row. -/
def colL (xss : List (List Int)) (j : Nat) : List Int := mapR (fun i => (xss.getD i []).getD j 0) xss.length
def pickL (xs at_ : List Int) : List Int := mapR (fun k => xs.getD (at_.getD k 0).toNat 0) at_.length
/-- The code of a tape and lists. -/
def goodR (inp : Int) (xs : List Int) : Bool := decide ((xs.length : Int) = inp) && nums xs
def runC (t : Tp) (xss : List (List Int)) : Int := if okT t = true then (if below xss.length (fun i => goodR t.inputs (xss.getD i [])) = true then 0 else 2) else 1
theorem mapR_nil (f : Nat → Int) : mapR f 0 = [] := rfl
theorem mapR_push {B : Nat} {w : World} {v : Value} {f : Nat → Int} {k : Nat} (h : w.ownsRow B 2 1 v (k + 1) (ints (mapR f k) ++ [.int .i64 (f k)])) : OwnI B w v (mapR f (k + 1)) := by
  unfold OwnI
  rw [mapR_length, mapR_succ, ints_append, ints_one]
  exact h
theorem mapR_row {B : Nat} {w : World} {v : Value} {f : Nat → Int} {k : Nat} (h : OwnI B w v (mapR f k)) : w.ownsRow B 2 1 v k (ints (mapR f k)) := by
  unfold OwnI at h
  rwa [mapR_length] at h

theorem runC_one (t : Tp) (xs : List Int) : runC t [xs] = if okT t = true then (if goodR t.inputs xs = true then 0 else 2) else 1 := by
  unfold runC below
  simp [List.range_succ]
/-- The rows that go in at order 0 and at order 1. -/
def lineL (xs ds : List Int) (j : Nat) : List (List Int) := rowsOf (fun i => if j = 0 then [xs.getD i 0] else [xs.getD i 0, ds.getD i 0]) xs.length
theorem constL_one (x : Int) : constL x 1 = [x] := rfl
theorem constL_two (x : Int) : constL x 2 = [x, 0] := rfl
end Eng
end Go.Proofs.Ytgahkbcfjibjaaa
