/- Contracts of quotients of series. Conditions: numbers, equal lengths. -/
import Derived.Test.YtgahkbcfjibjaaaSer
namespace Go.Proofs.Ytgahkbcfjibjaaa
open Go Go.RowKit
namespace Eng

/-- What is left of xs k behind i products. -/
def qRest (xs ys out : List Int) (k : Nat) : Nat → Int
  | 0 => xs.getD k 0
  | i + 1 => (qRest xs ys out k i - out.getD i 0 * ys.getD (k - i) 0) % 1000003
def qL (xs ys : List Int) : Nat → List Int
  | 0 => []
  | k + 1 => qL xs ys k ++ [qRest xs ys (qL xs ys k) k k * inv (ys.getD 0 0) % 1000003]
def divL (xs ys : List Int) : List Int := qL xs ys xs.length
theorem qL_length (xs ys : List Int) (k : Nat) : (qL xs ys k).length = k := by
  induction k with
  | zero => rfl
  | succ k ih => simp [qL, ih]
theorem divL_length (xs ys : List Int) : (divL xs ys).length = xs.length := qL_length _ _ _
theorem qL_take (xs ys : List Int) (k m : Nat) : (qL xs ys (k + m)).take k = qL xs ys k := by
  induction m with
  | zero => rw [Nat.add_zero, List.take_of_length_le (by rw [qL_length]; omega)]
  | succ m ih =>
    rw [← Nat.add_assoc, qL, List.take_append_of_le_length (by rw [qL_length]; omega), ih]
theorem divL_take (xs ys : List Int) (k : Nat) (h : k ≤ xs.length) : (divL xs ys).take k = qL xs ys k := by
  have := qL_take xs ys k (xs.length - k)
  rwa [show k + (xs.length - k) = xs.length from by omega] at this
theorem qRest_congr (xs ys a b : List Int) (k i : Nat) (h : ∀ j, j < i → a.getD j 0 = b.getD j 0) : qRest xs ys a k i = qRest xs ys b k i := by
  induction i with
  | zero => rfl
  | succ i ih => simp only [qRest]; rw [ih fun j hj => h j (by omega), h i (by omega)]
theorem getD_take {xs : List Int} {k j : Nat} (h : j < k) : (xs.take k).getD j 0 = xs.getD j 0 := by
  simp [h]
theorem divL_get (xs ys : List Int) (k : Nat) (h : k < xs.length) : (divL xs ys).getD k 0 = qRest xs ys (divL xs ys) k k * inv (ys.getD 0 0) % 1000003 := by
  have e := divL_take xs ys (k + 1) h
  have e2 := divL_take xs ys k (by omega)
  rw [← getD_take (show k < k + 1 by omega), e, qL]
  rw [List.getD_eq_getElem?_getD, List.getElem?_append_right (by rw [qL_length]; exact Nat.le_refl _), qL_length, Nat.sub_self]
  simp only [List.getElem?_cons_zero, Option.getD_some]
  congr 2
  refine qRest_congr _ _ _ _ _ _ fun j hj => ?_
  rw [← e2, getD_take hj]
theorem qRest_bounds {xs ys out : List Int} {k : Nat} (nx : nums xs = true) (i : Nat) : 0 ≤ qRest xs ys out k i ∧ qRest xs ys out k i < 1000003 := by
  cases i with
  | zero => exact num_getD nx k
  | succ i => simp only [qRest]; omega
theorem nums_divL {xs ys : List Int} : nums (divL xs ys) = true := by
  refine all_of_lt fun i hi => ?_
  rw [divL_length] at hi
  rw [divL_get xs ys i hi]
  unfold isNum inB
  exact decide_eq_true (by omega)

end Eng
end Go.Proofs.Ytgahkbcfjibjaaa
