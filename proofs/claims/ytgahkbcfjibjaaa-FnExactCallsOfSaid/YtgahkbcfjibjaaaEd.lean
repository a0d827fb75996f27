/- Totality and sameness of expressions, in the program and in the reference. Conditions: the number of nodes. -/
import Derived.Test.YtgahkbcfjibjaaaEc
namespace Go.Proofs.Ytgahkbcfjibjaaa
open Go Go.RowKit
namespace Eng
theorem any_none {α : Type} {d : α} {p : α → Bool} {xs : List α} (h : ∀ i, i < xs.length → p (xs.getD i d) = false) : xs.any p = false := by
  rw [List.any_eq_false]
  intro x hx
  have := all_getD (Q := fun x => p x = false) h x hx
  simp [this]
theorem any_some {α : Type} {d : α} {p : α → Bool} {xs : List α} {i : Nat} (hi : i < xs.length) (h : p (xs.getD i d) = true) : xs.any p = true := by
  rw [List.any_eq_true]
  exact ⟨xs[i], List.getElem_mem hi, by simpa [hi] using h⟩
theorem all_any {α : Type} (p : α → Bool) (xs : List α) : (!xs.any fun x => !p x) = xs.all p := by
  induction xs with
  | nil => rfl
  | cons x xs ih => simp only [List.any_cons, List.all_cons, ← ih]; cases p x <;> simp
/-! the library's searches -/
/-! totality -/
/-! sameness -/
/-- Lists that are alike element by element. -/
def eqAll {α : Type} (p : α → α → Bool) : List α → List α → Bool
  | [], [] => true
  | x :: xs, y :: ys => p x y && eqAll p xs ys
  | [], _ :: _ => false
  | _ :: _, [] => false
theorem eqAll_len {α : Type} {p : α → α → Bool} : ∀ {xs ys : List α}, xs.length ≠ ys.length → eqAll p xs ys = false
  | [], [], h => absurd rfl h
  | [], _ :: _, _ => rfl
  | _ :: _, [], _ => rfl
  | x :: xs, y :: ys, h => by rw [eqAll, eqAll_len (xs := xs) (ys := ys) (by simpa using h), Bool.and_false]
theorem eqAll_true {α : Type} {d : α} {p : α → α → Bool} : ∀ {xs ys : List α}, xs.length = ys.length → (∀ i, i < xs.length → p (xs.getD i d) (ys.getD i d) = true) → eqAll p xs ys = true
  | [], [], _, _ => rfl
  | [], _ :: _, h, _ => by simp at h
  | _ :: _, [], h, _ => by simp at h
  | x :: xs, y :: ys, h, hs => by
    have h0 := hs 0 (by simp)
    rw [eqAll, eqAll_true (d := d) (xs := xs) (ys := ys) (by simpa using h) fun i hi => hs (i + 1) (by simpa using hi), Bool.and_true]
    exact h0
theorem eqAll_false {α : Type} {d : α} {p : α → α → Bool} : ∀ {xs ys : List α} {i : Nat}, xs.length = ys.length → i < xs.length → p (xs.getD i d) (ys.getD i d) = false → eqAll p xs ys = false
  | [], _, i, _, h, _ => by simp at h
  | _ :: _, [], _, h, _, _ => by simp at h
  | x :: xs, y :: ys, 0, _, _, hs => by rw [eqAll, show p x y = false from hs, Bool.false_and]
  | x :: xs, y :: ys, i + 1, h, hi, hs => by rw [eqAll, eqAll_false (d := d) (xs := xs) (ys := ys) (i := i) (by simpa using h) (by simpa using hi) hs, Bool.and_false]
theorem sameL_eqAll : ∀ xs ys : List Ex, Ex.sameL xs ys = eqAll Ex.same xs ys
  | [], [] => by simp [Ex.sameL, eqAll]
  | [], _ :: _ => by simp [Ex.sameL, eqAll]
  | _ :: _, [] => by simp [Ex.sameL, eqAll]
  | x :: xs, y :: ys => by rw [Ex.sameL, eqAll, sameL_eqAll xs ys]
theorem same_node {k n p c k' n' p' c' : Int} {ks ls : List Ex} (h : k = k' ∧ n = n' ∧ p = p' ∧ c = c') : Ex.same (.node k n p c ks) (.node k' n' p' c' ls) = eqAll Ex.same ks ls := by
  rw [Ex.same, decide_eq_true h, Bool.true_and, sameL_eqAll]
theorem same_not {k n p c k' n' p' c' : Int} {ks ls : List Ex} (h : ¬ (k = k' ∧ n = n' ∧ p = p' ∧ c = c')) : Ex.same (.node k n p c ks) (.node k' n' p' c' ls) = false := by
  rw [Ex.same, decide_eq_false h, Bool.false_and]
end Eng
end Go.Proofs.Ytgahkbcfjibjaaa
