/- Contracts of sums, multiples, products and quotients of series. Conditions: numbers, equal lengths of at most 13. -/
import Derived.Test.YtgahkbcfjibjaaaVal
namespace Go.Proofs.Ytgahkbcfjibjaaa
open Go Go.RowKit
namespace Eng

theorem num_getD {xs : List Int} (h : nums xs = true) (k : Nat) : 0 ≤ xs.getD k 0 ∧ xs.getD k 0 < 1000003 := by
  by_cases hk : k < xs.length
  · have := (List.all_eq_true.1 h) xs[k] (List.getElem_mem hk)
    unfold isNum inB at this
    have := of_decide_eq_true this
    simp [hk]
    omega
  · simp [Nat.le_of_not_lt hk]
/-- f 0, f 1, .. -/
def mapR (f : Nat → Int) (n : Nat) : List Int := (List.range n).map f
theorem mapR_length (f : Nat → Int) (n : Nat) : (mapR f n).length = n := by simp [mapR]
theorem mapR_getD (f : Nat → Int) (n k : Nat) (h : k < n) : (mapR f n).getD k 0 = f k := by simp [mapR, h]
theorem mapR_succ (f : Nat → Int) (n : Nat) : mapR f (n + 1) = mapR f n ++ [f n] := by simp [mapR, List.range_succ]
theorem nums_mapR (f : Nat → Int) (n : Nat) (h : ∀ k, k < n → 0 ≤ f k ∧ f k < 1000003) : nums (mapR f n) = true := by
  refine all_of_lt fun i hi => ?_
  rw [mapR_length] at hi
  rw [mapR_getD f n i hi]
  have := h i hi
  unfold isNum inB
  exact decide_eq_true (by omega)
theorem mapR_congr {f g : Nat → Int} {n : Nat} (h : ∀ k, k < n → f k = g k) : mapR f n = mapR g n := by
  unfold mapR
  exact List.map_congr_left fun k hk => h k (List.mem_range.1 hk)

def addL (xs ys : List Int) : List Int := mapR (fun k => (xs.getD k 0 + ys.getD k 0) % 1000003) xs.length
def scaleL (xs : List Int) (n : Int) : List Int := mapR (fun k => xs.getD k 0 * n % 1000003) xs.length
theorem nums_addL (xs ys : List Int) : nums (addL xs ys) = true := nums_mapR _ _ fun k _ => by omega
theorem nums_scaleL (xs : List Int) (n : Int) : nums (scaleL xs n) = true := nums_mapR _ _ fun k _ => by omega
theorem addL_length (xs ys : List Int) : (addL xs ys).length = xs.length := mapR_length _ _
theorem scaleL_length (xs : List Int) (n : Int) : (scaleL xs n).length = xs.length := mapR_length _ _

/-- The end of a filling loop whose round stores f k. -/
theorem At.fill {w : World} {g n k : Nat} {f : Nat → Int} (h : AtI w g n (filled (mapR f n) k n)) (hk : k < n) : AtI (w.setCell ⟨g, k, none⟩ (.int .i64 (f k))) g n (filled (mapR f n) (k + 1) n) := by
  have := AtI.set_ h (k := k) (f k)
  have e := filled_set (mapR f n) k n (by rw [mapR_length]; exact hk) hk
  rw [mapR_getD f n k hk] at e
  rwa [e] at this

/-! multiples -/

/-! products -/
/-- f 0 + .. + f (i - 1), reduced at each step. -/
def psum (f : Nat → Int) : Nat → Int
  | 0 => 0
  | i + 1 => (psum f i + f i) % 1000003
theorem psum_bounds (f : Nat → Int) (i : Nat) : 0 ≤ psum f i ∧ psum f i < 1000003 := by
  cases i with
  | zero => simp [psum]
  | succ i => simp only [psum]; omega
def mulC (xs ys : List Int) (k i : Nat) : Int := xs.getD i 0 * ys.getD (k - i) 0
def mulL (xs ys : List Int) : List Int := mapR (fun k => psum (mulC xs ys k) (k + 1)) xs.length
theorem mulL_length (xs ys : List Int) : (mulL xs ys).length = xs.length := mapR_length _ _
theorem nums_mulL (xs ys : List Int) : nums (mulL xs ys) = true := nums_mapR _ _ fun _ _ => psum_bounds _ _

end Eng
end Go.Proofs.Ytgahkbcfjibjaaa
