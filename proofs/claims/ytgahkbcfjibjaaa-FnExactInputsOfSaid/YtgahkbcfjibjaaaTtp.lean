/- TrimTape: what it computes. No program in sight. -/
import Derived.Test.YtgahkbcfjibjaaaTx
namespace Go.Proofs.Ytgahkbcfjibjaaa
open Go Go.RowKit
namespace Eng
/-- Marks set at some places. -/
def markB (need : List Bool) : List Int → List Bool
  | [] => need
  | r :: rs => markB (need.set r.toNat true) rs
theorem markB_length (need : List Bool) (ks : List Int) : (markB need ks).length = need.length := by
  induction ks generalizing need with
  | nil => rfl
  | cons r rs ih => rw [markB, ih, List.length_set]
theorem markB_get (need : List Bool) (ks : List Int) (i : Nat) (hi : i < need.length) : (markB need ks).getD i false = (need.getD i false || ks.any (fun r => r.toNat == i)) := by
  induction ks generalizing need with
  | nil => simp [markB]
  | cons r rs ih =>
    rw [markB, ih _ (by rw [List.length_set]; exact hi), List.any_cons]
    by_cases h : r.toNat = i
    · subst h
      rw [List.getD_eq_getElem?_getD, List.getElem?_set_self hi]
      simp
    · rw [List.getD_eq_getElem?_getD, List.getElem?_set_ne h, ← List.getD_eq_getElem?_getD]
      have hb : (r.toNat == i) = false := by simpa using h
      rw [hb, Bool.false_or]
theorem bools_ext {xs ys : List Bool} (hl : xs.length = ys.length) (h : ∀ i, i < xs.length → xs.getD i false = ys.getD i false) : xs = ys :=
  List.ext_getElem hl fun i h1 h2 => by
    have := h i h1
    simpa [h1, h2] using this
theorem markB_append (need : List Bool) (xs ys : List Int) : markB need (xs ++ ys) = markB (markB need xs) ys := by
  induction xs generalizing need with
  | nil => rfl
  | cons r rs ih => rw [List.cons_append, markB, ih, markB]
/-- The order of the marks does not matter. -/
theorem markB_swap (need : List Bool) (xs ys : List Int) : markB (markB need xs) ys = markB (markB need ys) xs := by
  refine bools_ext (by simp only [markB_length]) fun i hi => ?_
  simp only [markB_length] at hi
  rw [markB_get _ _ _ (by rw [markB_length]; exact hi), markB_get _ _ _ hi, markB_get _ _ _ (by rw [markB_length]; exact hi), markB_get _ _ _ hi]
  rw [Bool.or_assoc, Bool.or_assoc, Bool.or_comm (xs.any _)]
def nStep (k : Nat) (x : Ins) (need : List Bool) : List Bool :=
  if need.getD k false = true then (if x.op = 3 ∨ x.op = 4 ∨ x.op = 5 ∨ x.op = 6 then (need.set x.a.toNat true).set x.b.toNat true else if x.op = 7 then need.set x.a.toNat true else need) else need
theorem nStep_length (k : Nat) (x : Ins) (need : List Bool) : (nStep k x need).length = need.length := by
  unfold nStep
  repeat' split
  all_goals simp
def gregs (t : Tp) : List Int := t.guards.map Gd.reg
def need0 (t : Tp) : List Bool := markB (markB (List.replicate t.code.length false) (gregs t)) t.outs
/-- The program marks the outputs first. -/
theorem need0_swap (t : Tp) : markB (List.replicate t.code.length false) (t.outs ++ gregs t) = need0 t := by
  rw [markB_append, markB_swap]
  rfl
def nS (t : Tp) (nd : List Bool) : Nat → List Bool
  | 0 => nd
  | j + 1 => nStep (t.code.length - 1 - j) (t.code.getD (t.code.length - 1 - j) dIns) (nS t nd j)
theorem nS_length (t : Tp) (nd : List Bool) (j : Nat) : (nS t nd j).length = nd.length := by
  induction j with
  | zero => rfl
  | succ j ih => rw [nS, nStep_length, ih]
theorem need0_length (t : Tp) : (need0 t).length = t.code.length := by unfold need0; simp only [markB_length, List.length_replicate]
theorem nS_next {t : Tp} {nd : List Bool} {m : Nat} (h : m < t.code.length) : nS t nd (t.code.length - m) = nStep m (t.code.getD m dIns) (nS t nd (t.code.length - (m + 1))) := by
  rw [show t.code.length - m = (t.code.length - (m + 1)) + 1 from by omega, nS, show t.code.length - 1 - (t.code.length - (m + 1)) = m from by omega]
def mvI (x : Ins) (to : List Int) : Ins :=
  if x.op = 3 ∨ x.op = 4 ∨ x.op = 5 ∨ x.op = 6 then ⟨x.op, to.getD x.a.toNat 0, to.getD x.b.toNat 0, x.num⟩ else if x.op = 7 then ⟨x.op, to.getD x.a.toNat 0, x.b, x.num⟩ else x
def trC (t : Tp) (need : List Bool) : Nat → List Ins × List Int
  | 0 => ([], List.replicate t.code.length 0)
  | k + 1 => if need.getD k false = true then ((trC t need k).1 ++ [mvI (t.code.getD k dIns) ((trC t need k).2.set k ((trC t need k).1.length : Int))], (trC t need k).2.set k ((trC t need k).1.length : Int)) else trC t need k
theorem trC_length (t : Tp) (need : List Bool) (k : Nat) : (trC t need k).2.length = t.code.length ∧ (trC t need k).1.length ≤ k := by
  induction k with
  | zero => simp [trC]
  | succ k ih =>
    rw [trC]
    split
    · simp; exact ⟨ih.1, by omega⟩
    · exact ⟨ih.1, by omega⟩
def trimR (t : Tp) : List Ins × List Int := trC t (nS t (need0 t) t.code.length) t.code.length
theorem markB_take (need : List Bool) (ks : List Int) (k : Nat) (h : k < ks.length) : markB need (ks.take (k + 1)) = (markB need (ks.take k)).set (ks.getD k 0).toNat true := by
  rw [List.take_succ_eq_append_getElem h, markB_append]
  simp [markB, h]
/-- The registers that an instruction needs. -/
def opsL (x : Ins) : List Int := if x.op = 3 ∨ x.op = 4 ∨ x.op = 5 ∨ x.op = 6 then [x.a, x.b] else if x.op = 7 then [x.a] else []
/-- The program's way to mark them. -/
def orS (need : List Bool) (k : Nat) (ks : List Int) : Nat → List Bool
  | 0 => need
  | i + 1 => (orS need k ks i).set (ks.getD i 0).toNat ((orS need k ks i).getD (ks.getD i 0).toNat false || (orS need k ks i).getD k false)
theorem orS_length (need : List Bool) (k : Nat) (ks : List Int) (i : Nat) : (orS need k ks i).length = need.length := by
  induction i with
  | zero => rfl
  | succ i ih => rw [orS, List.length_set, ih]
theorem set_same (xs : List Bool) (i : Nat) : xs.set i (xs.getD i false) = xs := by
  refine bools_ext (by simp) fun j hj => ?_
  rw [List.length_set] at hj
  by_cases h : i = j
  · subst h
    rw [List.getD_eq_getElem?_getD, List.getElem?_set_self hj]
    rfl
  · rw [List.getD_eq_getElem?_getD, List.getElem?_set_ne h, ← List.getD_eq_getElem?_getD]
theorem okI_bin' {inp k : Int} {x : Ins} (h : okI inp x k = true) (o : x.op = 3 ∨ x.op = 4 ∨ x.op = 5 ∨ x.op = 6) : (0 ≤ x.a ∧ x.a < k) ∧ 0 ≤ x.b ∧ x.b < k := by
  unfold okI at h
  rw [if_neg (by omega), if_neg (by omega), if_pos o] at h
  simp only [Bool.and_eq_true, inB_iff] at h
  omega
theorem orS_step {inp : Int} {need : List Bool} {k : Nat} {x : Ins} (ok : okI inp x k = true) : orS need k (opsL x) (opsL x).length = nStep k x need := by
  have hne : ∀ (r : Int) (b : Bool), 0 ≤ r ∧ r < k → (need.set r.toNat b).getD k false = need.getD k false := fun r b hr => by
    rw [List.getD_eq_getElem?_getD, List.getElem?_set_ne (by omega), ← List.getD_eq_getElem?_getD]
  unfold opsL nStep
  by_cases hb : x.op = 3 ∨ x.op = 4 ∨ x.op = 5 ∨ x.op = 6
  · obtain ⟨ha, hb'⟩ := okI_bin' ok hb
    rw [if_pos hb, if_pos hb]
    show ((need.set x.a.toNat (need.getD x.a.toNat false || need.getD k false)).set x.b.toNat ((need.set x.a.toNat (need.getD x.a.toNat false || need.getD k false)).getD x.b.toNat false || (need.set x.a.toNat (need.getD x.a.toNat false || need.getD k false)).getD k false)) = _
    rw [hne _ _ ha]
    cases hk : need.getD k false
    · rw [if_neg (by decide), Bool.or_false, Bool.or_false, set_same, set_same]
    · rw [if_pos rfl, Bool.or_true, Bool.or_true]
  · rw [if_neg hb, if_neg hb]
    by_cases h7 : x.op = 7
    · rw [if_pos h7, if_pos h7]
      show need.set x.a.toNat (need.getD x.a.toNat false || need.getD k false) = _
      cases hk : need.getD k false
      · rw [if_neg (by decide), Bool.or_false, set_same]
      · rw [if_pos rfl, Bool.or_true]
    · rw [if_neg h7, if_neg h7]
      show need = _
      split <;> rfl
end Eng
end Go.Proofs.Ytgahkbcfjibjaaa
