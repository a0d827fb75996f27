/- The variables of an expression, plain. No condition. -/
import Derived.Test.YtgahkbcfjibjaaaEa
import Derived.Test.YtgahkbcfjibjaaaMsp
namespace Go.Proofs.Ytgahkbcfjibjaaa
open Go Go.RowKit
namespace Eng
def ownV (k : Int) (i : Nat) (vars : Int) : Int := if k = 9 ∧ i = 1 then vars + 1 else vars
theorem ownV_bound (k : Int) (i : Nat) (vars : Int) : vars ≤ ownV k i vars ∧ ownV k i vars ≤ vars + 1 := by
  unfold ownV
  split <;> omega
mutual
/-- The variables met, behind those met ahead; false: one that is not there. -/
def Ex.free (vars : Int) : Ex → Int → List Int → List Int × Bool
  | .node k n _ _ ks, now, acc =>
    if k = 2 ∧ ¬ (0 ≤ n ∧ n ≤ now - 1) then (acc, false)
    else if k = 9 ∧ ¬ ks.length = 2 then (if k = 2 ∧ n < vars then putR n acc else acc, false)
    else Ex.freeL vars k 0 ks now (if k = 2 ∧ n < vars then putR n acc else acc)
def Ex.freeL (vars k : Int) : Nat → List Ex → Int → List Int → List Int × Bool
  | _, [], _, acc => (acc, true)
  | i, e :: es, now, acc => if (Ex.free vars e (ownV k i now) acc).2 = true then Ex.freeL vars k (i + 1) es now (Ex.free vars e (ownV k i now) acc).1 else ((Ex.free vars e (ownV k i now) acc).1, false)
end
theorem freeL_snoc {vars k now : Int} {e : Ex} : ∀ {i : Nat} {xs : List Ex} {acc : List Int}, (Ex.freeL vars k i xs now acc).2 = true → Ex.freeL vars k i (xs ++ [e]) now acc = Ex.free vars e (ownV k (i + xs.length) now) (Ex.freeL vars k i xs now acc).1
  | i, [], acc, _ => by
    rw [List.nil_append, Ex.freeL, Ex.freeL, Ex.freeL]
    split
    · rename_i h; exact Prod.ext rfl h.symm
    · rename_i h; exact Prod.ext rfl (by simpa using h)
  | i, x :: xs, acc, h => by
    rw [List.cons_append, Ex.freeL]
    rw [Ex.freeL] at h
    by_cases hx : (Ex.free vars x (ownV k i now) acc).2 = true
    · rw [if_pos hx] at h ⊢
      rw [freeL_snoc h, Ex.freeL, if_pos hx]
      rw [show i + 1 + xs.length = i + (x :: xs).length from by simp; omega]
    · rw [if_neg hx] at h
      cases h
theorem freeL_fail {vars k now : Int} {ys : List Ex} : ∀ {i : Nat} {xs : List Ex} {acc : List Int}, (Ex.freeL vars k i xs now acc).2 = false → Ex.freeL vars k i (xs ++ ys) now acc = Ex.freeL vars k i xs now acc
  | i, [], acc, h => by rw [Ex.freeL] at h; cases h
  | i, x :: xs, acc, h => by
    rw [List.cons_append, Ex.freeL, Ex.freeL]
    rw [Ex.freeL] at h
    by_cases hx : (Ex.free vars x (ownV k i now) acc).2 = true
    · rw [if_pos hx] at h ⊢
      rw [if_pos hx]
      exact freeL_fail h
    · rw [if_neg hx, if_neg hx]
theorem free_rising (vars : Int) (e : Ex) : ∀ now acc, Rising acc → Rising (Ex.free vars e now acc).1 := by
  induction e using Ex.ind with
  | h k n p c ks ih =>
  intro now acc h
  have h1 : Rising (if k = 2 ∧ n < vars then putR n acc else acc) := by split; exact putR_rising h; exact h
  rw [Ex.free]
  split
  · exact h
  split
  · exact h1
  · generalize (if k = 2 ∧ n < vars then putR n acc else acc) = a at h1
    clear h
    have key : ∀ (xs : List Ex) (i : Nat) (b : List Int), (∀ x ∈ xs, ∀ now acc, Rising acc → Rising (Ex.free vars x now acc).1) → Rising b → Rising (Ex.freeL vars k i xs now b).1 := by
      intro xs
      induction xs with
      | nil => intro i b _ hb; rw [Ex.freeL]; exact hb
      | cons x xs ihx =>
        intro i b hx hb
        have h2 := hx x List.mem_cons_self (ownV k i now) b hb
        rw [Ex.freeL]
        split
        · exact ihx (i + 1) _ (fun y hy => hx y (List.mem_cons_of_mem _ hy)) h2
        · exact h2
    refine key ks 0 a (fun x hx => ?_) h1
    obtain ⟨i, hi, e⟩ := List.mem_iff_getElem.1 hx
    have := ih i hi
    rwa [show ks.getD i dEx = x from by simp [hi, e]] at this
theorem free_length (vars : Int) (e : Ex) : ∀ now acc, (Ex.free vars e now acc).1.length ≤ acc.length + e.size := by
  induction e using Ex.ind with
  | h k n p c ks ih =>
  intro now acc
  have h1 : (if k = 2 ∧ n < vars then putR n acc else acc).length ≤ acc.length + 1 := by split; exact putR_length; omega
  rw [Ex.free, Ex.size]
  split
  · dsimp only; omega
  split
  · dsimp only; omega
  · generalize (if k = 2 ∧ n < vars then putR n acc else acc) = a at h1
    have key : ∀ (xs : List Ex) (i : Nat) (b : List Int), (∀ x ∈ xs, ∀ now acc, (Ex.free vars x now acc).1.length ≤ acc.length + x.size) → (Ex.freeL vars k i xs now b).1.length ≤ b.length + Ex.sizeL xs := by
      intro xs
      induction xs with
      | nil => intro i b _; rw [Ex.freeL, Ex.sizeL]; exact Nat.le_refl _
      | cons x xs ihx =>
        intro i b hx
        have h2 := hx x List.mem_cons_self (ownV k i now) b
        rw [Ex.freeL, Ex.sizeL]
        split
        · have := ihx (i + 1) (Ex.free vars x (ownV k i now) b).1 (fun y hy => hx y (List.mem_cons_of_mem _ hy)); omega
        · dsimp only; omega
    have := key ks 0 a fun x hx => by
      obtain ⟨i, hi, e⟩ := List.mem_iff_getElem.1 hx
      have := ih i hi
      rwa [show ks.getD i dEx = x from by simp [hi, e]] at this
    omega
theorem freeL_length (vars k : Int) (xs : List Ex) : ∀ (i : Nat) (now : Int) (b : List Int), (Ex.freeL vars k i xs now b).1.length ≤ b.length + Ex.sizeL xs := by
  induction xs with
  | nil => intro i now b; rw [Ex.freeL, Ex.sizeL]; exact Nat.le_refl _
  | cons x xs ih =>
    intro i now b
    have h2 := free_length vars x (ownV k i now) b
    rw [Ex.freeL, Ex.sizeL]
    split
    · have := ih (i + 1) now (Ex.free vars x (ownV k i now) b).1; omega
    · dsimp only; omega
def fVars (e : Ex) (vars : Int) : List Int × Int := if (0 ≤ vars ∧ vars ≤ 412) ∧ (Ex.free vars e vars []).2 = true then ((Ex.free vars e vars []).1, 0) else ([], 1)
theorem fVars_bad {e : Ex} {vars : Int} (h : ¬ ((0 ≤ vars ∧ vars ≤ 412) ∧ (Ex.free vars e vars []).2 = true)) : fVars e vars = ([], 1) := if_neg h
theorem fVars_ok {e : Ex} {vars : Int} (h : (0 ≤ vars ∧ vars ≤ 412) ∧ (Ex.free vars e vars []).2 = true) : fVars e vars = ((Ex.free vars e vars []).1, 0) := if_pos h
theorem rising_room {a b : Int} : ∀ {xs : List Int}, Rising xs → (∀ x ∈ xs, a ≤ x ∧ x < b) → a ≤ b → (xs.length : Int) ≤ b - a := by
  intro xs
  induction xs generalizing a with
  | nil => intro _ _ h; simp; exact h
  | cons x xs ih =>
    intro h hx hab
    have h1 := hx x List.mem_cons_self
    obtain ⟨h2, h3⟩ := List.pairwise_cons.1 h
    have := ih (a := x + 1) h3 (fun y hy => ⟨by have := h2 y hy; omega, (hx y (List.mem_cons_of_mem _ hy)).2⟩) (by omega)
    simp only [List.length_cons]
    omega
theorem free_room (vars : Int) (e : Ex) : ∀ now acc, (∀ x ∈ acc, 0 ≤ x ∧ x < vars) → ∀ x ∈ (Ex.free vars e now acc).1, 0 ≤ x ∧ x < vars := by
  induction e using Ex.ind with
  | h k n p c ks ih =>
  intro now acc h
  rw [Ex.free]
  by_cases ho : k = 2 ∧ ¬ (0 ≤ n ∧ n ≤ now - 1)
  · rw [if_pos ho]; exact h
  rw [if_neg ho]
  have h1 : ∀ x ∈ (if k = 2 ∧ n < vars then putR n acc else acc), 0 ≤ x ∧ x < vars := by
    split
    · rename_i hq
      intro x hx
      rcases mem_putR.1 hx with rfl | q
      · refine ⟨?_, hq.2⟩
        by_cases hn : 0 ≤ x
        · exact hn
        · exact absurd ⟨hq.1, fun r => hn r.1⟩ ho
      · exact h x q
    · exact h
  split
  · exact h1
  · generalize (if k = 2 ∧ n < vars then putR n acc else acc) = a at h1
    have key : ∀ (xs : List Ex) (i : Nat) (b : List Int), (∀ x ∈ xs, ∀ now acc, (∀ y ∈ acc, 0 ≤ y ∧ y < vars) → ∀ y ∈ (Ex.free vars x now acc).1, 0 ≤ y ∧ y < vars) → (∀ y ∈ b, 0 ≤ y ∧ y < vars) → ∀ y ∈ (Ex.freeL vars k i xs now b).1, 0 ≤ y ∧ y < vars := by
      intro xs
      induction xs with
      | nil => intro i b _ hb; rw [Ex.freeL]; exact hb
      | cons x xs ihx =>
        intro i b hx hb
        have h2 := hx x List.mem_cons_self (ownV k i now) b hb
        rw [Ex.freeL]
        split
        · exact ihx (i + 1) _ (fun y hy => hx y (List.mem_cons_of_mem _ hy)) h2
        · exact h2
    refine key ks 0 a (fun x hx => ?_) h1
    obtain ⟨i, hi, e⟩ := List.mem_iff_getElem.1 hx
    have := ih i hi
    rwa [show ks.getD i dEx = x from by simp [hi, e]] at this
theorem fVars_len (e : Ex) (vars : Int) : (fVars e vars).1.length ≤ 1048576 := by
  by_cases q : (0 ≤ vars ∧ vars ≤ 412) ∧ (Ex.free vars e vars []).2 = true
  · rw [fVars_ok q]
    have := rising_room (free_rising vars e vars [] (by simp [Rising])) (free_room vars e vars [] (by simp)) q.1.1
    dsimp only
    omega
  · rw [fVars_bad q]; simp
end Eng
end Go.Proofs.Ytgahkbcfjibjaaa
