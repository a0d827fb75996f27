/- Rising lists of numbers, plain. No condition. -/
import Derived.Test.YtgahkbcfjibjaaaMem
namespace Go.Proofs.Ytgahkbcfjibjaaa
open Go Go.RowKit
namespace Eng
def Rising (xs : List Int) : Prop := xs.Pairwise (· < ·)
/-- A number put to its place, once. -/
def putR (n : Int) : List Int → List Int
  | [] => [n]
  | x :: xs => if x < n then x :: putR n xs else if x = n then x :: xs else n :: x :: xs
theorem mem_putR {n m : Int} : ∀ {xs : List Int}, m ∈ putR n xs ↔ m = n ∨ m ∈ xs
  | [] => by simp [putR]
  | x :: xs => by
    have ih := mem_putR (n := n) (m := m) (xs := xs)
    unfold putR
    split
    · simp only [List.mem_cons, ih]
      constructor
      · rintro (h | h | h) <;> simp [h]
      · rintro (h | h | h) <;> simp [h]
    · split
      · rename_i h
        subst h
        simp
      · simp
theorem putR_rising {n : Int} : ∀ {xs : List Int}, Rising xs → Rising (putR n xs)
  | [], _ => by simp [putR, Rising]
  | x :: xs, h => by
    have h' : (∀ y ∈ xs, x < y) ∧ Rising xs := by simpa [Rising] using h
    have ih := putR_rising (n := n) h'.2
    unfold putR
    split
    · rename_i hx
      refine List.Pairwise.cons (fun y hy => ?_) ih
      rcases mem_putR.1 hy with rfl | hy
      · exact hx
      · exact h'.1 y hy
    · split
      · exact h
      · refine List.Pairwise.cons (fun y hy => ?_) h
        rcases List.mem_cons.1 hy with rfl | hy
        · omega
        · have := h'.1 y hy
          omega
theorem rising_ext : ∀ {xs ys : List Int}, Rising xs → Rising ys → (∀ m, m ∈ xs ↔ m ∈ ys) → xs = ys
  | [], [], _, _, _ => rfl
  | [], y :: ys, _, _, h => by have := (h y).2 List.mem_cons_self; simp at this
  | x :: xs, [], _, _, h => by have := (h x).1 List.mem_cons_self; simp at this
  | x :: xs, y :: ys, hx, hy, h => by
    have hx' : (∀ z ∈ xs, x < z) ∧ Rising xs := by simpa [Rising] using hx
    have hy' : (∀ z ∈ ys, y < z) ∧ Rising ys := by simpa [Rising] using hy
    have e : x = y := by
      rcases List.mem_cons.1 ((h x).1 List.mem_cons_self) with e | e
      · exact e
      · rcases List.mem_cons.1 ((h y).2 List.mem_cons_self) with e2 | e2
        · exact e2.symm
        · have := hy'.1 x e; have := hx'.1 y e2; omega
    subst e
    rw [rising_ext hx'.2 hy'.2 fun m => ?_]
    have hm := h m
    simp only [List.mem_cons] at hm
    constructor
    · intro q
      rcases hm.1 (.inr q) with e | e
      · have := hx'.1 m q; omega
      · exact e
    · intro q
      rcases hm.2 (.inr q) with e | e
      · have := hy'.1 m q; omega
      · exact e
theorem rising_sort {xs : List Int} (h : xs.Nodup) : Rising (xs.mergeSort fun x y => decide (x ≤ y)) := by
  have h1 : (xs.mergeSort fun x y => decide (x ≤ y)).Pairwise (fun x y => decide (x ≤ y) = true) := List.pairwise_mergeSort (fun a b c h1 h2 => by simp at *; omega) (fun a b => by simp; omega) xs
  have h2 : (xs.mergeSort fun x y => decide (x ≤ y)).Nodup := (List.mergeSort_perm xs _).nodup_iff.2 h
  refine (h1.and h2).imp fun {a b} hab => ?_
  have h3 : a ≤ b := by simpa using hab.1
  have h4 := hab.2
  omega
theorem mem_sort {xs : List Int} {m : Int} : m ∈ (xs.mergeSort fun x y => decide (x ≤ y)) ↔ m ∈ xs := (List.mergeSort_perm xs _).mem_iff
theorem putR_less {n : Int} : ∀ {xs : List Int}, (∀ y ∈ xs, y < n) → putR n xs = xs ++ [n]
  | [], _ => rfl
  | x :: xs, h => by
    rw [putR, if_pos (h x List.mem_cons_self), putR_less fun y hy => h y (List.mem_cons_of_mem _ hy)]
    rfl
theorem putR_done {n x : Int} : ∀ {xs : List Int}, (∃ y ∈ xs, n ≤ y) → putR n (xs ++ [x]) = putR n xs ++ [x]
  | [], h => by obtain ⟨y, hy, _⟩ := h; simp at hy
  | z :: zs, h => by
    rw [List.cons_append, putR, putR]
    by_cases h1 : z < n
    · rw [if_pos h1, if_pos h1, putR_done (xs := zs)]
      · rfl
      · obtain ⟨y, hy, hn⟩ := h
        rcases List.mem_cons.1 hy with rfl | hy
        · omega
        · exact ⟨y, hy, hn⟩
    · rw [if_neg h1, if_neg h1]
      split <;> rfl
theorem putR_first {n x : Int} : ∀ {xs : List Int}, (∀ y ∈ xs, y < n) → n ≤ x → putR n (xs ++ [x]) = if n < x then xs ++ [n] ++ [x] else xs ++ [x]
  | [], _, h => by
    rw [List.nil_append, putR, if_neg (by omega)]
    by_cases e : n < x
    · rw [if_pos e, if_neg (by omega)]; rfl
    · rw [if_neg e, if_pos (by omega)]
  | z :: zs, h, hx => by
    rw [List.cons_append, putR, if_pos (h z List.mem_cons_self), putR_first (xs := zs) (fun y hy => h y (List.mem_cons_of_mem _ hy)) hx]
    split <;> rfl
theorem putR_length {n : Int} {xs : List Int} : (putR n xs).length ≤ xs.length + 1 := by
  induction xs with
  | nil => simp [putR]
  | cons x xs ih =>
    unfold putR
    split
    · simpa using ih
    · split <;> simp
end Eng
end Go.Proofs.Ytgahkbcfjibjaaa
