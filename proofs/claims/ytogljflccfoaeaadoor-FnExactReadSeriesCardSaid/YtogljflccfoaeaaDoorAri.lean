/- Contracts of the functions on residues. No condition but that arguments are int64 numbers. -/
import Derived.Test.YtogljflccfoaeaaDoorTab
namespace Go.Proofs.YtogljflccfoaeaaDoor
open Go Go.RowKit
namespace Eng

theorem tmod_bounds (x : Int) : -1000003 < x.tmod 1000003 ∧ x.tmod 1000003 < 1000003 := by
  constructor
  · have := Int.lt_tmod_of_pos x (b := 1000003) (by omega); omega
  · exact Int.tmod_lt_of_pos x (by omega)
theorem emod_of_tmod (x : Int) : (x.tmod 1000003 + 1000003) % 1000003 = x % 1000003 := by
  rw [Int.tmod_eq_emod]
  split
  · omega
  · simp
theorem emod_of_tmod_neg (x : Int) (h : x.tmod 1000003 < 0) : x.tmod 1000003 + 1000003 = x % 1000003 := by
  have := emod_of_tmod x
  have := tmod_bounds x
  omega
theorem emod_of_tmod_pos (x : Int) (h : ¬ x.tmod 1000003 < 0) : x.tmod 1000003 = x % 1000003 := by
  have := emod_of_tmod x
  have := tmod_bounds x
  omega

theorem mul_bounds {a b : Int} (h1 : 0 ≤ a ∧ a < 1000003) (h2 : 0 ≤ b ∧ b < 1000003) : 0 ≤ a * b ∧ a * b ≤ 1000004000004 := by
  constructor
  · exact Int.mul_nonneg h1.1 h2.1
  · have : a * b ≤ 1000002 * 1000002 := Int.mul_le_mul (by omega) (by omega) h2.1 (by omega)
    omega

/-! powers -/
def pw (x : Int) (n : Int) : Int := if n < 0 then 0 else (x ^ n.toNat) % 1000003
structure PwInv (x N : Int) (s : Int × Int × Int) : Prop where
  o : 0 ≤ s.1 ∧ s.1 < 1000003
  b : 0 ≤ s.2.1 ∧ s.2.1 < 1000003
  n : 0 ≤ s.2.2 ∧ s.2.2 ≤ 9223372036854775807
  eq : (s.1 * s.2.1 ^ s.2.2.toNat) % 1000003 = x ^ N.toNat % 1000003
theorem pow_emod (a m : Int) (k : Nat) : (a % m) ^ k % m = a ^ k % m := by
  induction k with
  | zero => simp
  | succ k ih => rw [Int.pow_succ, Int.pow_succ, Int.mul_emod, ih, Int.emod_emod, ← Int.mul_emod]
theorem sq_pow (b : Int) (k : Nat) : (b * b) ^ k = b ^ (2 * k) := by
  induction k with
  | zero => simp
  | succ k ih => rw [Int.pow_succ, ih, show 2 * (k + 1) = 2 * k + 1 + 1 from by omega, Int.pow_succ, Int.pow_succ, Int.mul_assoc]
theorem PwInv.start (x N : Int) (hN : 0 ≤ N) (h2 : N ≤ 9223372036854775807) : PwInv x N (1, x % 1000003, N) :=
  ⟨by simp, by simp only; omega, ⟨hN, h2⟩, by simp only [Int.one_mul]; exact pow_emod _ _ _⟩
theorem PwInv.odd {x N o b n : Int} (h : PwInv x N (o, b, n)) (hn : 0 < n) (h1 : n % 2 = 1) : PwInv x N (o * b % 1000003, b * b % 1000003, n / 2) := by
  refine ⟨by simp only; omega, by simp only; omega, by have := h.n; simp only at this ⊢; omega, ?_⟩
  rw [← h.eq]
  simp only
  have e : n.toNat = 2 * (n / 2).toNat + 1 := by omega
  rw [e, Int.mul_emod, pow_emod, Int.emod_emod, ← Int.mul_emod, sq_pow, Int.pow_succ, Int.mul_assoc, Int.mul_comm b (b ^ _)]
theorem PwInv.even {x N o b n : Int} (h : PwInv x N (o, b, n)) (hn : 0 < n) (h1 : ¬ n % 2 = 1) : PwInv x N (o, b * b % 1000003, n / 2) := by
  refine ⟨h.o, by simp only; omega, by have := h.n; simp only at this ⊢; omega, ?_⟩
  rw [← h.eq]
  simp only
  have e : n.toNat = 2 * (n / 2).toNat := by omega
  rw [e, Int.mul_emod, pow_emod, ← Int.mul_emod, sq_pow]
theorem PwInv.done {x N o b n : Int} (h : PwInv x N (o, b, n)) (hn : ¬ 0 < n) (hN : ¬ N < 0) : o = pw x N := by
  have e := h.eq
  have := h.n
  have := h.o
  simp only at *
  have hz : n.toNat = 0 := by omega
  rw [hz] at e
  simp only [Int.pow_zero, Int.mul_one] at e
  unfold pw
  rw [if_neg hN, ← e]
  omega

/-! inverses -/
def inv (x : Int) : Int := pw x 1000001
theorem pw_bounds (x n : Int) : 0 ≤ pw x n ∧ pw x n < 1000003 := by
  unfold pw
  split
  · omega
  · omega
theorem inv_bounds (x : Int) : 0 ≤ inv x ∧ inv x < 1000003 := pw_bounds _ _
end Eng
end Go.Proofs.YtogljflccfoaeaaDoor
