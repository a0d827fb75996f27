/- RegistersOf, RunTape and GuardsHold: contracts. Conditions: the lengths. -/
import Derived.Test.YtgahkbcfjibjaaaTb
namespace Go.Proofs.Ytgahkbcfjibjaaa
open Go Go.RowKit
namespace Eng
theorem Rows.one {w : World} {g : Nat} {A : Option Addr} {c : Nat} {xs : List Int} (hc : w.cell? ⟨g, 0, none⟩ = some (.slice A xs.length c)) (hx : Rd w A (ints xs)) : Rows w (some ⟨g, 0, none⟩) [xs] := fun i hi => by
  obtain rfl : i = 0 := by simpa using hi
  exact ⟨g, 0, A, c, rfl, hc, hx⟩
theorem runC_zero {t : Tp} {xs : List Int} (h : runC t [xs] = 0) : okT t = true ∧ (xs.length : Int) = t.inputs ∧ nums xs = true := by
  rw [runC_one] at h
  cases ok : okT t
  · rw [ok] at h; simp at h
  rw [ok, if_pos rfl] at h
  cases g : goodR t.inputs xs
  · rw [g] at h; simp at h
  unfold goodR at g
  simp only [Bool.and_eq_true, decide_eq_true_eq] at g
  exact ⟨rfl, g.1, g.2⟩
theorem nums_one {x : Int} (h : 0 ≤ x ∧ x < 1000003) : nums [x] = true := by
  simp [nums, isNum, inB]; omega
theorem nums_two {x y : Int} (h : 0 ≤ x ∧ x < 1000003) (k : 0 ≤ y ∧ y < 1000003) : nums [x, y] = true := by
  simp [nums, isNum, inB]; omega
theorem lineL_length (xs ds : List Int) (j : Nat) : (lineL xs ds j).length = xs.length := rowsOf_length _ _
theorem lineL_zero (xs ds : List Int) : lineL xs ds 0 = rowsOf (fun i => [xs.getD i 0]) xs.length := by simp [lineL]
theorem lineL_good {xs ds : List Int} {j : Nat} (hj : j ≤ 1) (nx : nums xs = true) (nd : nums ds = true) : Good (j + 1) (lineL xs ds j) := fun i hi => by
  rw [lineL_length] at hi
  unfold lineL
  rw [rowsOf_get _ _ _ hi]
  rcases (show j = 0 ∨ j = 1 by omega) with rfl | rfl
  · rw [if_pos rfl]; exact ⟨rfl, nums_one (num_getD nx i)⟩
  · rw [if_neg (by omega)]; exact ⟨rfl, nums_two (num_getD nx i) (num_getD nd i)⟩
def fRegs (t : Tp) (xs : List Int) : List Int × Int :=
  if runC t [xs] = 0 then (match regS t (lineL xs xs 0) 1 t.code.length with | none => ([], 6) | some out => (colL out 0, 0)) else ([], runC t [xs])
theorem fRegs_code {t : Tp} {xs : List Int} (h : runC t [xs] ≠ 0) : fRegs t xs = ([], runC t [xs]) := by unfold fRegs; rw [if_neg h]
theorem fRegs_none {t : Tp} {xs : List Int} (h : runC t [xs] = 0) (e : regS t (lineL xs xs 0) 1 t.code.length = none) : fRegs t xs = ([], 6) := by unfold fRegs; rw [if_pos h, e]
theorem fRegs_some {t : Tp} {xs : List Int} {out : List (List Int)} (h : runC t [xs] = 0) (e : regS t (lineL xs xs 0) 1 t.code.length = some out) : fRegs t xs = (colL out 0, 0) := by unfold fRegs; rw [if_pos h, e]
theorem fRegs_zero {t : Tp} {xs : List Int} (h : (fRegs t xs).2 = 0) : okT t = true ∧ (fRegs t xs).1.length = t.code.length := by
  by_cases hr : runC t [xs] = 0
  · obtain ⟨ok, hl, hn⟩ := runC_zero hr
    cases e : regS t (lineL xs xs 0) 1 t.code.length with
    | none => rw [fRegs_none hr e] at h; simp at h
    | some out =>
      have := regS_good ok (by rw [lineL_length]; exact hl) (lineL_good (j := 0) (by omega) hn hn) (Nat.le_refl _) e
      rw [fRegs_some hr e]
      exact ⟨ok, by simp [colL, mapR_length, this.1]⟩
  · rw [fRegs_code hr] at h
    exact absurd h hr
theorem fRegs_len (t : Tp) (xs : List Int) : (fRegs t xs).1.length ≤ 1048576 := by
  by_cases hr : runC t [xs] = 0
  · obtain ⟨ok, hl, hn⟩ := runC_zero hr
    cases e : regS t (lineL xs xs 0) 1 t.code.length with
    | none => rw [fRegs_none hr e]; simp
    | some out =>
      have h2 := (fRegs_zero (t := t) (xs := xs) (by rw [fRegs_some hr e])).2
      have := (okT_iff.1 ok).2.1
      omega
  · rw [fRegs_code hr]; simp
def fRunTape (t : Tp) (xs : List Int) : List Int × Int := if (fRegs t xs).2 = 0 then (pickL (fRegs t xs).1 t.outs, 0) else ([], (fRegs t xs).2)
theorem pickL_length (xs ks : List Int) : (pickL xs ks).length = ks.length := mapR_length _ _
theorem fRunTape_len (t : Tp) (xs : List Int) : (fRunTape t xs).1.length ≤ 1048576 := by
  unfold fRunTape
  split
  · rename_i h
    have := (okT_iff.1 (fRegs_zero h).1).2.2.2.1
    simp only [pickL_length]
    omega
  · simp
/-- Does guard i hold? -/
def gdOk (xs : List Int) (gs : List Gd) (i : Nat) : Bool := decide (xs.getD (gs.getD i dGd).reg.toNat 0 = 0) == (gs.getD i dGd).zero
def fGuardsHold (t : Tp) (xs : List Int) : Bool × Int := if (fRegs t xs).2 = 0 then (below t.guards.length (gdOk (fRegs t xs).1 t.guards), 0) else (false, (fRegs t xs).2)
theorem cellZ {w w' : World} {b o k : Nat} {v : Value} (he : Ext w w') (hc : w.cell? ⟨b, o + k, none⟩ = some v) : w'.cell? ⟨b, o + k * 1, none⟩ = some v := by rw [Nat.mul_one]; exact he.cell hc
end Eng
end Go.Proofs.Ytgahkbcfjibjaaa
