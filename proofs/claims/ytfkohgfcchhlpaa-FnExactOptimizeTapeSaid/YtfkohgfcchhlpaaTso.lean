/- OptimizeTape: what it computes; what the ways to shorten a tape hand back is valid again. No program in sight. -/
import Derived.Test.YtfkohgfcchhlpaaTsp
import Derived.Test.YtfkohgfcchhlpaaTfs
namespace Go.Proofs.Ytfkohgfcchhlpaa
open Go Go.RowKit
namespace Eng
def foldT (t : Tp) : Tp := endT t (foldC t t.code.length) (idL t.code.length)
def trimT (t : Tp) : Tp := endT t (trimR t).1 (trimR t).2
def fOptimizeTape (t : Tp) : Tp × Int := if okT t = true then (trimT (shareT (foldT t)), 0) else (⟨0, [], [], []⟩, 1)
theorem foldT_fit {t : Tp} (h : Fit t) : Fit (foldT t) := ⟨by simp only [foldT, endT, foldC_length]; exact h.c, by simp only [foldT, endT, gdsTo_length]; exact h.g, by simp only [foldT, endT, outsTo, mapR_length]; exact h.o⟩
theorem trimT_fit {t : Tp} (h : Fit t) : Fit (trimT t) := by
  have h1 := (trC_length t (nS t (need0 t) t.code.length) t.code.length).2
  have := h.c
  exact ⟨by simp only [trimT, endT, trimR]; omega, by simp only [trimT, endT, gdsTo_length]; exact h.g, by simp only [trimT, endT, outsTo, mapR_length]; exact h.o⟩
theorem fOptimizeTape_fit (t : Tp) (h : Fit t) : Fit (fOptimizeTape t).1 := by
  unfold fOptimizeTape
  split
  · exact trimT_fit (shareT_fit (foldT_fit h))
  · exact ⟨by simp, by simp, by simp⟩
/-! ### validity -/
theorem okI_add {inp k : Int} {x : Ins} (o : x.op = 3 ∨ x.op = 4 ∨ x.op = 5 ∨ x.op = 6) (ha : 0 ≤ x.a ∧ x.a < k) (hb : 0 ≤ x.b ∧ x.b < k) (hn : x.num = 0) : okI inp x k = true := by
  unfold okI
  rw [if_neg (by omega), if_neg (by omega), if_pos o]
  simp only [Bool.and_eq_true, inB_iff, decide_eq_true_eq]
  omega
theorem okI_n7 {inp k : Int} {x : Ins} (o : x.op = 7) (ha : 0 ≤ x.a ∧ x.a < k) (hb : x.b = 0) (hn : x.num = 0) : okI inp x k = true := by
  unfold okI
  rw [if_neg (by omega), if_neg (by omega), if_neg (by omega), if_pos o]
  simp only [Bool.and_eq_true, inB_iff, decide_eq_true_eq]
  omega
theorem okI_num0 {inp k : Int} {x : Ins} (h : okI inp x k = true) (o : 3 ≤ x.op) : x.num = 0 := by
  unfold okI at h
  rw [if_neg (by omega), if_neg (by omega)] at h
  split at h
  · simp only [Bool.and_eq_true, decide_eq_true_eq] at h; exact h.2.2
  · split at h
    · simp only [Bool.and_eq_true, decide_eq_true_eq] at h; exact h.2.2
    · cases h
theorem okI_low {inp k m : Int} {x : Ins} (h : okI inp x k = true) (o : x.op < 3) : okI inp x m = true := by
  unfold okI at *
  by_cases o1 : x.op = 1
  · rw [if_pos o1] at *; exact h
  · rw [if_neg o1] at *
    by_cases o2 : x.op = 2
    · rw [if_pos o2] at *; exact h
    · rw [if_neg o2, if_neg (by omega), if_neg (by omega)] at h; cases h
theorem okI_mv {inp k m : Int} {x : Ins} {to : List Int} (h : okI inp x k = true) (ht : ∀ r : Int, 0 ≤ r → r < k → 0 ≤ to.getD r.toNat 0 ∧ to.getD r.toNat 0 < m) : okI inp (mvI x to) m = true := by
  unfold mvI
  by_cases hb : x.op = 3 ∨ x.op = 4 ∨ x.op = 5 ∨ x.op = 6
  · rw [if_pos hb]
    obtain ⟨ha, hb'⟩ := okI_bin' h hb
    exact okI_add hb (ht _ ha.1 ha.2) (ht _ hb'.1 hb'.2) (okI_num0 (x := x) h (by omega))
  · rw [if_neg hb]
    by_cases h7 : x.op = 7
    · rw [if_pos h7]
      have ha := okI_neg h h7
      exact okI_n7 h7 (ht _ ha.1 ha.2) (okI_b0 (x := x) h h7) (okI_num0 (x := x) h (by omega))
    · rw [if_neg h7]
      have := okI_op h
      exact okI_low h (by omega)
theorem okI_ord {inp k : Int} {x : Ins} (h : okI inp x k = true) : okI inp (ordI x) k = true := by
  unfold ordI
  split
  · rename_i ho
    obtain ⟨ha, hb⟩ := okI_bin' h (by omega)
    exact okI_add (x := ⟨x.op, x.b, x.a, x.num⟩) (by have := ho.1; show x.op = 3 ∨ x.op = 4 ∨ x.op = 5 ∨ x.op = 6; omega) hb ha (okI_num0 (x := x) h (by omega))
  · exact h
theorem shC_ok {t : Tp} (ok : okT t = true) (k : Nat) (hk : k ≤ t.code.length) : ∀ j, j < (shC t k).1.length → okI t.inputs ((shC t k).1.getD j dIns) j = true := by
  have okc := (okT_iff.1 ok).2.2.2.2.1
  induction k with
  | zero => intro j hj; simp [shC] at hj
  | succ k ih =>
    intro j hj
    have ih := ih (by omega)
    simp only [shC] at *
    by_cases hm : shX t k (shC t k).2 ∈ (shC t k).1
    · rw [addN_in hm] at *
      exact ih j hj
    · rw [addN_out hm] at *
      rw [List.length_append] at hj
      by_cases hlt : j < (shC t k).1.length
      · rw [getD_snoc hlt]
        exact ih j hlt
      · obtain rfl : j = (shC t k).1.length := by simp at hj; omega
        rw [getD_last]
        refine okI_ord (okI_mv (okc k (by omega)) fun r h0 h1 => shC_reg t k r.toNat (by omega))
theorem gdsTo_get (t : Tp) (to : List Int) (n i : Nat) (h : i < n) : (gdsTo t to n).getD i dGd = gdTo to (t.guards.getD i dGd) := by simp [gdsTo, h]
theorem okT_end {t u : Tp} (ok : okT t = true) (hi : u.inputs = t.inputs) (hc : u.code.length ≤ 3200) (hg : u.guards.length ≤ 3200) (ho : u.outs.length = t.outs.length)
    (okc : ∀ j, j < u.code.length → okI t.inputs (u.code.getD j dIns) j = true) (hgu : ∀ i, i < u.guards.length → 0 ≤ (u.guards.getD i dGd).reg ∧ (u.guards.getD i dGd).reg < u.code.length)
    (hou : ∀ i, i < u.outs.length → 0 ≤ u.outs.getD i 0 ∧ u.outs.getD i 0 < u.code.length) : okT u = true := by
  obtain ⟨h1, _, _, h4, _⟩ := okT_iff.1 ok
  refine okT_iff.2 ⟨by rw [hi]; exact h1, hc, hg, by rw [ho]; exact h4, fun k hk => by rw [hi]; exact okc k hk, hgu, hou⟩
theorem shareT_ok {t : Tp} (ok : okT t = true) : okT (shareT t) = true := by
  obtain ⟨h1, h2, h3, h4, h5, h6, h7⟩ := okT_iff.1 ok
  have hl := (shC_len t t.code.length).2
  have hd := ddG_len (gdsTo t (shC t t.code.length).2 t.guards.length) t.guards.length
  refine okT_end ok rfl (by simp only [shareT]; omega) (by simp only [shareT]; omega) (by simp only [shareT, outsTo, mapR_length]) (shC_ok ok _ (Nat.le_refl _)) ?_ ?_
  · intro i hi
    simp only [shareT] at *
    obtain ⟨j, hj, e⟩ := ddG_mem (mem_get (d := dGd) hi rfl)
    rw [e, gdsTo_get _ _ _ _ hj]
    have := h6 j hj
    exact shC_reg t _ _ (by omega)
  · intro i hi
    simp only [shareT, outsTo, mapR_length] at *
    rw [mapR_getD _ _ _ hi]
    have := h7 i hi
    exact shC_reg t _ _ (by omega)
theorem foldC_ok {t : Tp} (ok : okT t = true) (k : Nat) (hk : k ≤ t.code.length) : ∀ j, j < k → okI t.inputs ((foldC t k).getD j dIns) j = true := by
  have okc := (okT_iff.1 ok).2.2.2.2.1
  induction k with
  | zero => intro j hj; omega
  | succ k ih =>
    intro j hj
    have hl := foldC_length t k
    simp only [foldC]
    by_cases hlt : j < k
    · rw [getD_snoc (by omega)]
      exact ih (by omega) j hlt
    · obtain rfl : j = (foldC t k).length := by omega
      rw [getD_last]
      have hx := okc k (by omega)
      rw [hl]
      unfold foldI
      split
      · split
        · rename_i e
          unfold okI
          have := opVal_bounds e
          simp only
          rw [if_neg (by omega), if_pos trivial]
          simp only [isNum, decide_true, Bool.true_and, inB_iff]
          omega
        · exact hx
      · exact hx
theorem idL_get {n : Nat} {r : Int} (h : 0 ≤ r ∧ r < n) : (idL n).getD r.toNat 0 = r := by
  unfold idL
  rw [mapR_getD _ _ _ (by omega)]
  omega
theorem foldT_ok {t : Tp} (ok : okT t = true) : okT (foldT t) = true := by
  obtain ⟨h1, h2, h3, h4, h5, h6, h7⟩ := okT_iff.1 ok
  have hl := foldC_length t t.code.length
  refine okT_end ok rfl (by simp only [foldT, endT]; omega) (by simp only [foldT, endT, gdsTo_length]; omega) (by simp only [foldT, endT, outsTo, mapR_length]) (fun j hj => foldC_ok ok _ (Nat.le_refl _) j (by simp only [foldT, endT] at hj; omega)) ?_ ?_
  · intro i hi
    simp only [foldT, endT, gdsTo_length, hl] at *
    rw [gdsTo_get _ _ _ _ hi]
    have := h6 i hi
    simp only [gdTo]
    rw [idL_get this]
    exact this
  · intro i hi
    simp only [foldT, endT, outsTo, mapR_length, hl] at *
    rw [mapR_getD _ _ _ hi]
    have := h7 i hi
    rw [idL_get this]
    exact this
end Eng
end Go.Proofs.Ytfkohgfcchhlpaa
