/- CountOps, in the program and in the reference. Conditions: the lengths. -/
import Derived.Test.YtgahkbcfjibjaaaTy
namespace Go.Proofs.Ytgahkbcfjibjaaa
open Go Go.RowKit
namespace Eng
theorem AtI.own' {B : Nat} {w : World} {g n c : Nat} {xs : List Int} (h : AtI w g c xs) (hn : xs.length = n) (hB : B ≤ g) : OwnI B w (.slice (some ⟨g, 0, none⟩) n c) xs := by
  subst hn
  exact At.own h hB
theorem SerOut.nil' {w w' : World} {c : Int} (he : Ext w w') : SerOut w ([], c) (.tuple #[.slice none 0 0, .int .i64 c]) w' := ⟨_, rfl, ⟨rfl, .inl ⟨rfl, rfl⟩⟩, he⟩
theorem okI_op {inp k : Int} {x : Ins} (h : okI inp x k = true) : 1 ≤ x.op ∧ x.op ≤ 7 := by
  unfold okI at h
  split at h
  · omega
  · split at h
    · omega
    · split at h
      · omega
      · split at h
        · omega
        · cases h
def cntL (xs : List Ins) : Nat → List Int
  | 0 => List.replicate 7 0
  | k + 1 => (cntL xs k).set ((xs.getD k dIns).op - 1).toNat ((cntL xs k).getD ((xs.getD k dIns).op - 1).toNat 0 + 1)
theorem cntL_length (xs : List Ins) (k : Nat) : (cntL xs k).length = 7 := by
  induction k with
  | zero => rfl
  | succ k ih => rw [cntL, List.length_set, ih]
theorem cntL_le (xs : List Ins) (k j : Nat) : 0 ≤ (cntL xs k).getD j 0 ∧ (cntL xs k).getD j 0 ≤ k := by
  induction k with
  | zero =>
    rw [show cntL xs 0 = List.replicate 7 0 from rfl, List.getD_eq_getElem?_getD, List.getElem?_replicate]
    split <;> simp
  | succ k ih =>
    simp only [cntL]
    by_cases h : ((xs.getD k dIns).op - 1).toNat = j
    · rw [h]
      by_cases hj : j < (cntL xs k).length
      · rw [List.getD_eq_getElem?_getD, List.getElem?_set_self hj]
        simp only [Option.getD_some]
        omega
      · rw [List.getD_eq_getElem?_getD, List.getElem?_eq_none (by rw [List.length_set]; omega)]
        simp
        omega
    · rw [List.getD_eq_getElem?_getD, List.getElem?_set_ne h, ← List.getD_eq_getElem?_getD]
      omega
def fCountOps (t : Tp) : List Int × Int := if okT t = true then (cntL t.code t.code.length, 0) else ([], 1)
theorem fCountOps_len (t : Tp) : (fCountOps t).1.length ≤ 1048576 := by
  unfold fCountOps
  split
  · simp only; rw [cntL_length]; omega
  · simp
end Eng
end Go.Proofs.Ytgahkbcfjibjaaa
