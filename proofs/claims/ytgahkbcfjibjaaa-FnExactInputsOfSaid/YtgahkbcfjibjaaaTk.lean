/- AdjointsOf, TapeReverse and TapeHessian: the reference's contracts. Conditions: the lengths. -/
import Derived.Test.YtgahkbcfjibjaaaTj
namespace Go.Proofs.Ytgahkbcfjibjaaa
open Go Go.RowKit
namespace Eng
theorem inN_bound (t : Tp) (adj : List (List Int)) (j k i : Nat) : 0 ≤ (inN t adj j k).getD i 0 ∧ (inN t adj j k).getD i 0 < 1000003 := by
  induction k with
  | zero =>
    rw [inN, List.getD_eq_getElem?_getD, List.getElem?_replicate]
    split <;> simp
  | succ k ih =>
    rw [inN]
    split
    · by_cases h : (t.code.getD k dIns).num.toNat = i
      · rw [h]
        by_cases hi : i < (inN t adj j k).length
        · rw [getD_setA hi]; omega
        · rw [List.getD_eq_getElem?_getD, List.getElem?_eq_none (by rw [List.length_set]; omega)]; simp
      · rw [getD_setB h]; exact ih
    · exact ih
end Eng
end Go.Proofs.Ytgahkbcfjibjaaa
