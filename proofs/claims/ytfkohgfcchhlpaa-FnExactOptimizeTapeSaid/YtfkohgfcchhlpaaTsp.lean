/- ShareTape: what it computes. No program in sight. -/
import Derived.Test.YtfkohgfcchhlpaaTtp
import Derived.Test.YtfkohgfcchhlpaaTn
namespace Go.Proofs.Ytfkohgfcchhlpaa
open Go Go.RowKit
namespace Eng
/-- The smaller operand first, where the order does not matter. -/
def ordI (x : Ins) : Ins := if (x.op = 3 ∨ x.op = 5) ∧ x.b < x.a then ⟨x.op, x.b, x.a, x.num⟩ else x
/-- One more, unless it is there. -/
def addN {α : Type} [DecidableEq α] (xs : List α) (x : α) : List α := if x ∈ xs then xs else xs ++ [x]
theorem addN_in {α : Type} [DecidableEq α] {xs : List α} {x : α} (h : x ∈ xs) : addN xs x = xs := if_pos h
theorem addN_out {α : Type} [DecidableEq α] {xs : List α} {x : α} (h : x ∉ xs) : addN xs x = xs ++ [x] := if_neg h
theorem addN_le {α : Type} [DecidableEq α] (xs : List α) (x : α) : xs.length ≤ (addN xs x).length ∧ (addN xs x).length ≤ xs.length + 1 := by
  unfold addN
  split
  · omega
  · simp
theorem addN_get {α : Type} [DecidableEq α] {d : α} (xs : List α) (x : α) {j : Nat} (h : j < xs.length) : (addN xs x).getD j d = xs.getD j d := by
  unfold addN
  split
  · rfl
  · exact getD_snoc h
theorem addN_idx {α : Type} [DecidableEq α] (xs : List α) (x : α) : xs.idxOf x < (addN xs x).length := by
  unfold addN
  split
  · rename_i h; exact List.idxOf_lt_length_of_mem h
  · rename_i h
    have := List.idxOf_le_length (a := x) (l := xs)
    simp; omega
theorem idx_cons {α : Type} [DecidableEq α] {y x : α} {ys : List α} (h : y ≠ x) : (y :: ys).idxOf x = ys.idxOf x + 1 := by rw [List.idxOf_cons, show (y == x) = false from by simpa using h]; rfl
theorem idx_at {α : Type} [DecidableEq α] {d : α} : ∀ {xs : List α} {x : α} {i : Nat}, i < xs.length → (∀ j, j < i → xs.getD j d ≠ x) → xs.getD i d = x → xs.idxOf x = i
  | [], _, _, h, _, _ => by simp at h
  | y :: ys, x, 0, _, _, h => by
    have h : y = x := h
    subst h
    simp
  | y :: ys, x, i + 1, hi, hj, h => by
    have h0 : y ≠ x := hj 0 (by omega)
    rw [idx_cons h0, idx_at (d := d) (by simpa using hi) (fun j hlt => hj (j + 1) (by omega)) h]
theorem not_mem_get {α : Type} {d : α} {xs : List α} {x : α} (h : ∀ j, j < xs.length → xs.getD j d ≠ x) : x ∉ xs := fun hm => by
  obtain ⟨i, hi, e⟩ := List.mem_iff_getElem.1 hm
  exact h i hi (by simp [hi, e])
theorem mem_get {α : Type} {d : α} {xs : List α} {x : α} {i : Nat} (hi : i < xs.length) (e : xs.getD i d = x) : x ∈ xs := by
  have : xs.getD i d = xs[i] := by simp [hi]
  rw [← e, this]
  exact List.getElem_mem hi
def shX (t : Tp) (k : Nat) (to : List Int) : Ins := ordI (mvI (t.code.getD k dIns) to)
def shC (t : Tp) : Nat → List Ins × List Int
  | 0 => ([], [])
  | k + 1 => (addN (shC t k).1 (shX t k (shC t k).2), (shC t k).2 ++ [((shC t k).1.idxOf (shX t k (shC t k).2) : Int)])
theorem shC_len (t : Tp) (k : Nat) : (shC t k).2.length = k ∧ (shC t k).1.length ≤ k := by
  induction k with
  | zero => exact ⟨rfl, Nat.le_refl _⟩
  | succ k ih =>
    have := addN_le (shC t k).1 (shX t k (shC t k).2)
    exact ⟨by simp [shC, ih.1], by simp only [shC]; omega⟩
theorem shC_reg (t : Tp) (k i : Nat) (h : i < k) : 0 ≤ (shC t k).2.getD i 0 ∧ (shC t k).2.getD i 0 < (shC t k).1.length := by
  induction k with
  | zero => omega
  | succ k ih =>
    have hl := shC_len t k
    have ha := addN_le (shC t k).1 (shX t k (shC t k).2)
    have hx := addN_idx (shC t k).1 (shX t k (shC t k).2)
    simp only [shC]
    by_cases hk : i < k
    · rw [getD_snoc (by omega)]
      have := ih hk
      omega
    · obtain rfl : i = (shC t k).2.length := by omega
      rw [getD_last]
      omega
/-- What is there once. -/
def ddG (gs : List Gd) : Nat → List Gd
  | 0 => []
  | k + 1 => addN (ddG gs k) (gs.getD k dGd)
theorem ddG_len (gs : List Gd) (k : Nat) : (ddG gs k).length ≤ k := by
  induction k with
  | zero => exact Nat.le_refl _
  | succ k ih =>
    have := addN_le (ddG gs k) (gs.getD k dGd)
    simp only [ddG]; omega
theorem ddG_mem {gs : List Gd} {k : Nat} {x : Gd} (h : x ∈ ddG gs k) : ∃ i, i < k ∧ x = gs.getD i dGd := by
  induction k with
  | zero => cases h
  | succ k ih =>
    simp only [ddG] at h
    unfold addN at h
    split at h
    · obtain ⟨i, hi, e⟩ := ih h
      exact ⟨i, by omega, e⟩
    · rcases List.mem_append.1 h with h | h
      · obtain ⟨i, hi, e⟩ := ih h
        exact ⟨i, by omega, e⟩
      · exact ⟨k, by omega, by simpa using h⟩
/-- A tape with equal instructions and guards once. -/
def shareT (t : Tp) : Tp := ⟨t.inputs, (shC t t.code.length).1, ddG (gdsTo t (shC t t.code.length).2 t.guards.length) t.guards.length, outsTo t (shC t t.code.length).2 t.outs.length⟩
def fShareTape (t : Tp) : Tp × Int := if okT t = true then (shareT t, 0) else (⟨0, [], [], []⟩, 1)
theorem shareT_fit {t : Tp} (h : Fit t) : Fit (shareT t) := by
  have h1 := (shC_len t t.code.length).2
  have h2 := ddG_len (gdsTo t (shC t t.code.length).2 t.guards.length) t.guards.length
  have := h.c
  have := h.g
  exact ⟨by simp only [shareT]; omega, by simp only [shareT]; omega, by simp only [shareT, outsTo, mapR_length]; exact h.o⟩
theorem fShareTape_fit (t : Tp) (h : Fit t) : Fit (fShareTape t).1 := by
  unfold fShareTape
  split
  · exact shareT_fit h
  · exact ⟨by simp, by simp, by simp⟩
/-! ### the reference's list of places: as long as the code from the start -/
def padT (to : List Int) (n : Nat) : List Int := to ++ List.replicate (n - to.length) 0
theorem padT_length {to : List Int} {n : Nat} (h : to.length ≤ n) : (padT to n).length = n := by simp [padT]; omega
theorem padT_nil (n : Nat) : padT [] n = List.replicate n 0 := by simp [padT]
theorem padT_full {to : List Int} : padT to to.length = to := by simp [padT]
theorem padT_get {to : List Int} {n i : Nat} (h : i < to.length) : (padT to n).getD i 0 = to.getD i 0 := by
  unfold padT
  rw [List.getD_eq_getElem?_getD, List.getElem?_append_left h, ← List.getD_eq_getElem?_getD]
theorem padT_set {to : List Int} {n : Nat} (v : Int) (h : to.length < n) : (padT to n).set to.length v = padT (to ++ [v]) n := by
  unfold padT
  rw [List.set_append_right _ _ (Nat.le_refl _), Nat.sub_self, show n - to.length = (n - (to ++ [v]).length) + 1 from by simp; omega, List.replicate_succ, List.set_cons_zero, List.append_assoc]
  rfl
theorem mvI_pad {inp : Int} {x : Ins} {to : List Int} {n k : Nat} (h : okI inp x k = true) (hl : to.length = k) : mvI x (padT to n) = mvI x to := by
  unfold mvI
  by_cases hb : x.op = 3 ∨ x.op = 4 ∨ x.op = 5 ∨ x.op = 6
  · rw [if_pos hb, if_pos hb]
    obtain ⟨ha, hb'⟩ := okI_bin' h hb
    rw [padT_get (by omega), padT_get (by omega)]
  · rw [if_neg hb, if_neg hb]
    by_cases h7 : x.op = 7
    · rw [if_pos h7, if_pos h7]
      have ha := okI_neg h h7
      rw [padT_get (by omega)]
    · rw [if_neg h7, if_neg h7]
end Eng
end Go.Proofs.Ytfkohgfcchhlpaa
