/- Interpolation, the plain law: the forward differences scaled by factorials are the divided differences. No program. -/
import Derived.Test.YtlhfcmcocbiafaaSer4
import Derived.Test.YtlhfcmcocbiafaaSer6
namespace Go.Proofs.Ytlhfcmcocbiafaa
open Go Go.RowKit
namespace Eng

/-! inverses, reckoned fast -/
def fpw : Nat → Int × Int × Int → Int × Int × Int
  | 0, s => s
  | f + 1, (o, b, n) => if 0 < n then (if n % 2 = 1 then fpw f (o * b % 1000003, b * b % 1000003, n / 2) else fpw f (o, b * b % 1000003, n / 2)) else (o, b, n)
theorem fpw_inv {x N : Int} (f : Nat) : ∀ s, PwInv x N s → PwInv x N (fpw f s) := by
  induction f with
  | zero => exact fun s h => h
  | succ f ih =>
    rintro ⟨o, b, n⟩ h
    simp only [fpw]
    split
    · split
      · exact ih _ (h.odd ‹_› ‹_›)
      · exact ih _ (h.even ‹_› ‹_›)
    · exact h
theorem fpw_zero (f : Nat) : ∀ s : Int × Int × Int, s.2.2 < 2 ^ f → ¬ 0 < (fpw f s).2.2 := by
  induction f with
  | zero => intro s h; simp only [fpw]; simp at h; omega
  | succ f ih =>
    rintro ⟨o, b, n⟩ h
    simp only [Int.pow_succ] at h
    simp only [fpw]
    split
    · split
      · exact ih _ (by simp only; omega)
      · exact ih _ (by simp only; omega)
    · assumption
def invF (x : Int) : Int := (fpw 20 (1, x % 1000003, 1000001)).1
theorem inv_fast (x : Int) : inv x = invF x := by
  have h := fpw_inv 20 _ (PwInv.start x 1000001 (by omega) (by omega))
  have hz := fpw_zero 20 (1, x % 1000003, 1000001) (show (1000001 : Int) < 2 ^ 20 by decide)
  exact (PwInv.done h hz (by omega)).symm

/-! the bases, which hang on nothing but the length -/
def stepB (n i : Nat) (b : List Int) : List Int := mapR (fun k => if k = 0 then b.getD 0 0 * ((-(i : Int)) % 1000003) % 1000003 else (b.getD k 0 * ((-(i : Int)) % 1000003) % 1000003 + b.getD (k - 1) 0) % 1000003) n
def nextI (n i : Nat) (b : List Int) : List Int := mapR (fun j => ((if 0 < j then b.getD (j - 1) 0 else 0) - b.getD j 0 * (i : Int)) % 1000003) n
def sBn (n : Nat) : Nat → List Int
  | 0 => constL 1 n
  | i + 1 => stepB n i (sBn n i)
def sIn (n : Nat) : Nat → List Int
  | 0 => constL 1 n
  | i + 1 => scaleL (nextI n i (sIn n i)) (inv ((i : Int) + 1))
theorem sBn_length (n i : Nat) : (sBn n i).length = n := by
  cases i with
  | zero => simp [sBn, constL]
  | succ i => exact mapR_length _ _
theorem sIn_length (n i : Nat) : (sIn n i).length = n := by
  cases i with
  | zero => simp [sIn, constL]
  | succ i => simp only [sIn]; rw [scaleL_length]; exact mapR_length _ _
def tabB : List (List Int) := [[1, 0, 0, 0, 0, 0, 0, 0, 0, 0, 0, 0, 0], [0, 1, 0, 0, 0, 0, 0, 0, 0, 0, 0, 0, 0], [0, 1000002, 1, 0, 0, 0, 0, 0, 0, 0, 0, 0, 0], [0, 2, 1000000, 1, 0, 0, 0, 0, 0, 0, 0, 0, 0], [0, 999997, 11, 999997, 1, 0, 0, 0, 0, 0, 0, 0, 0], [0, 24, 999953, 35, 999993, 1, 0, 0, 0, 0, 0, 0, 0], [0, 999883, 274, 999778, 85, 999988, 1, 0, 0, 0, 0, 0, 0], [0, 720, 998239, 1624, 999268, 175, 999982, 1, 0, 0, 0, 0, 0], [0, 994963, 13068, 986871, 6769, 998043, 322, 999975, 1, 0, 0, 0, 0], [0, 40320, 890419, 118124, 932719, 22449, 995467, 546, 999967, 1, 0, 0, 0], [0, 637123, 26573, 827306, 723680, 730678, 63273, 990553, 870, 999958, 1, 0, 0], [0, 628791, 371393, 753540, 590527, 416921, 97948, 157773, 981853, 1320, 999948, 1, 0], [0, 83320, 543480, 82477, 257761, 4408, 339496, 362451, 357423, 967333, 1925, 999937, 1], [0, 163, 561581, 553759, 989357, 204865, 930471, 990099, 73387, 749463, 944233, 2717, 999925]]
def tabI : List (List Int) := [[1, 0, 0, 0, 0, 0, 0, 0, 0, 0, 0, 0, 0], [0, 1, 0, 0, 0, 0, 0, 0, 0, 0, 0, 0, 0], [0, 500001, 500002, 0, 0, 0, 0, 0, 0, 0, 0, 0, 0], [0, 666669, 500001, 833336, 0, 0, 0, 0, 0, 0, 0, 0, 0], [0, 750002, 291668, 750002, 208334, 0, 0, 0, 0, 0, 0, 0, 0], [0, 600002, 916669, 458335, 583335, 441668, 0, 0, 0, 0, 0, 0, 0], [0, 166667, 836114, 437501, 923614, 895836, 740280, 0, 0, 0, 0, 0, 0], [0, 714288, 450001, 744447, 270834, 506946, 779169, 534327, 0, 0, 0, 0, 0], [0, 375001, 320537, 404862, 481078, 90278, 256598, 629863, 441792, 0, 0, 0, 0], [0, 222223, 756748, 453518, 172917, 973209, 337501, 801970, 232838, 49088, 0, 0, 0], [0, 700002, 641153, 467511, 389728, 941409, 793573, 611981, 270644, 779107, 404910, 0, 0], [0, 727275, 935320, 724189, 233659, 815972, 455065, 606709, 900507, 589056, 975459, 36810, 0], [0, 583335, 119899, 497440, 179496, 521501, 400857, 315108, 891766, 785078, 404921, 797548, 503069], [0, 230770, 703429, 396204, 872579, 70885, 516250, 432276, 585690, 343913, 840467, 141106, 981598]]
def tabV : List Int := [1, 500002, 666669, 250001, 600002, 833336, 714288, 625002, 222223, 300001, 727275, 416668, 230770]
theorem tabV_ok : ∀ i : Nat, i < 13 → invF ((i : Int) + 1) = tabV.getD i 0 := by decide +kernel
theorem tabB_start : ∀ n, n < 14 → constL 1 n = (tabB.getD 0 []).take n := by decide +kernel
theorem tabI_start : ∀ n, n < 14 → constL 1 n = (tabI.getD 0 []).take n := by decide +kernel
theorem tabB_step : ∀ n, n < 14 → ∀ i, i < 13 → stepB n i ((tabB.getD i []).take n) = (tabB.getD (i + 1) []).take n := by decide +kernel
theorem tabI_step : ∀ n, n < 14 → ∀ i, i < 13 → scaleL (nextI n i ((tabI.getD i []).take n)) (tabV.getD i 0) = (tabI.getD (i + 1) []).take n := by decide +kernel
theorem tabI_nums : ∀ n, n < 14 → nums ((tabI.getD 0 []).take n) = true := by decide +kernel
theorem sBn_tab (n : Nat) (hn : n < 14) : ∀ i, i < 14 → sBn n i = (tabB.getD i []).take n := by
  intro i
  induction i with
  | zero => intro _; exact tabB_start n hn
  | succ i ih => intro hi; simp only [sBn]; rw [ih (by omega), tabB_step n hn i (by omega)]
theorem sIn_tab (n : Nat) (hn : n < 14) : ∀ i, i < 14 → sIn n i = (tabI.getD i []).take n := by
  intro i
  induction i with
  | zero => intro _; exact tabI_start n hn
  | succ i ih => intro hi; simp only [sIn]; rw [ih (by omega), inv_fast, tabV_ok i (by omega), tabI_step n hn i (by omega)]

theorem nums_sIn {n i : Nat} (hn : n < 14) (hi : i < n) : nums (sIn n i) = true := by
  cases i with
  | zero => rw [sIn_tab n hn 0 (by omega)]; exact tabI_nums n hn
  | succ i => simp only [sIn]; exact nums_scaleL _ _
/-- The binomial numbers. -/
def cc : Nat → Nat → Int
  | 0, _ => 1
  | _ + 1, 0 => 0
  | k + 1, t + 1 => cc k t + cc (k + 1) t
theorem tab_hv : ∀ n, n < 14 → ∀ i, i < n → ∀ t, t < n → hv ((tabI.getD i []).take n) (t : Int) n = cc i t % 1000003 := by decide +kernel
theorem tab_scale : ∀ n, n < 14 → ∀ i, i < n → (tabI.getD i []).take n = scaleL ((tabB.getD i []).take n) (invF (hv ((tabB.getD i []).take n) (i : Int) n)) := by decide +kernel
theorem sIn_hv {n i t : Nat} (hn : n < 14) (hi : i < n) (ht : t < n) : hv (sIn n i) (t : Int) n = cc i t % 1000003 := by
  rw [sIn_tab n hn i (by omega)]; exact tab_hv n hn i hi t ht
theorem sIn_scale {n i : Nat} (hn : n < 14) (hi : i < n) : sIn n i = scaleL (sBn n i) (inv (hv (sBn n i) (i : Int) n)) := by
  rw [sIn_tab n hn i (by omega), sBn_tab n hn i (by omega), inv_fast]; exact tab_scale n hn i hi

/-! Newton's formula -/
def sm (f : Nat → Int) : Nat → Int
  | 0 => 0
  | k + 1 => sm f k + f k
def gz (v : Nat → Int) : Nat → Nat → Int
  | 0, j => v j
  | k + 1, j => gz v k (j + 1) - gz v k j
theorem sm_pascal (v : Nat → Int) (j t K : Nat) : sm (fun k => gz v k j * cc k (t + 1)) (K + 1) = sm (fun k => gz v k j * cc k t) (K + 1) + sm (fun k => gz v (k + 1) j * cc k t) K := by
  induction K with
  | zero => simp [sm, cc]
  | succ K ih =>
    rw [sm, ih, sm, sm]
    simp only [sm, cc, Int.mul_add]
    omega
theorem sm_sub (v : Nat → Int) (j t K : Nat) : sm (fun k => gz v (k + 1) j * cc k t) K = sm (fun k => gz v k (j + 1) * cc k t) K - sm (fun k => gz v k j * cc k t) K := by
  induction K with
  | zero => simp [sm]
  | succ K ih =>
    rw [sm, ih, sm, sm]
    simp only [gz, Int.sub_mul]
    omega
theorem cc_zero : ∀ t k, t < k → cc k t = 0 := by
  intro t
  induction t with
  | zero => intro k h; cases k with
    | zero => omega
    | succ k => rfl
  | succ t ih => intro k h; cases k with
    | zero => omega
    | succ k => simp only [cc]; rw [ih k (by omega), ih (k + 1) (by omega)]; rfl
theorem cc_self (t : Nat) : cc t t = 1 := by
  induction t with
  | zero => rfl
  | succ t ih => simp only [cc]; rw [ih, cc_zero t (t + 1) (by omega)]; rfl
theorem newton (v : Nat → Int) (t : Nat) : ∀ j, sm (fun k => gz v k j * cc k t) (t + 1) = v (j + t) := by
  induction t with
  | zero => intro j; simp [sm, cc, gz]
  | succ t ih =>
    intro j
    rw [sm_pascal, sm_sub, ih (j + 1), sm]
    rw [cc_zero t (t + 1) (by omega), Int.mul_zero, show j + 1 + t = j + (t + 1) from by omega]
    omega

/-- Differences, reduced. -/
def gm (xs : List Int) : Nat → Nat → Int
  | 0, j => xs.getD j 0
  | k + 1, j => (gm xs k (j + 1) - gm xs k j) % 1000003
theorem gm_bounds {xs : List Int} (nx : nums xs = true) (k j : Nat) : 0 ≤ gm xs k j ∧ gm xs k j < 1000003 := by
  cases k with
  | zero => exact num_getD nx j
  | succ k => simp only [gm]; omega
theorem gm_gz {xs : List Int} (nx : nums xs = true) (k : Nat) : ∀ j, gm xs k j = gz (fun j => xs.getD j 0) k j % 1000003 := by
  induction k with
  | zero => intro j; have := num_getD nx j; simp only [gm, gz]; omega
  | succ k ih => intro j; simp only [gm, gz]; rw [ih, ih]; omega
def outL (xs : List Int) : Nat → List Int
  | 0 => List.replicate xs.length 0
  | i + 1 => addL (outL xs i) (scaleL (sIn xs.length i) (gm xs i 0))
theorem outL_length (xs : List Int) (i : Nat) : (outL xs i).length = xs.length := by
  induction i with
  | zero => simp [outL]
  | succ i ih => simp only [outL]; rw [addL_length, ih]
theorem nums_outL (xs : List Int) (i : Nat) : nums (outL xs i) = true := by
  cases i with
  | zero =>
    refine all_of_lt fun i hi => ?_
    simp only [outL, List.length_replicate] at hi
    simp [outL, hi, isNum, inB]
  | succ i => exact nums_addL _ _
theorem hv_zero (n : Nat) (t : Int) (j : Nat) : hv (List.replicate n 0) t j = 0 := by
  induction j with
  | zero => rfl
  | succ j ih =>
    simp only [hv]
    rw [ih, List.getD_eq_getElem?_getD, List.getElem?_replicate]
    split <;> simp
theorem lin_step (ha hb s T a b : Int) : ((ha + hb * s) % 1000003 * T + (a + b * s % 1000003) % 1000003) % 1000003 = ((ha * T + a) % 1000003 + (hb * T + b) % 1000003 * s) % 1000003 := by
  have e1 : (ha + hb * s) % 1000003 * T = ha * T + hb * s * T - 1000003 * ((ha + hb * s) / 1000003 * T) := by rw [Int.emod_def, Int.sub_mul, Int.add_mul, Int.mul_assoc 1000003]
  have e2 : (hb * T + b) % 1000003 * s = hb * T * s + b * s - 1000003 * ((hb * T + b) / 1000003 * s) := by rw [Int.emod_def, Int.sub_mul, Int.add_mul, Int.mul_assoc 1000003]
  have e3 : hb * s * T = hb * T * s := by rw [Int.mul_assoc, Int.mul_comm s T, ← Int.mul_assoc]
  rw [e1, e2, e3]
  generalize (ha + hb * s) / 1000003 * T = q1
  generalize (hb * T + b) / 1000003 * s = q2
  omega
theorem hv_add (a b : List Int) (s t : Int) (hl : a.length = b.length) (j : Nat) (hj : j ≤ a.length) : hv (addL a (scaleL b s)) t j = (hv a t j + hv b t j * s) % 1000003 := by
  induction j with
  | zero => simp [hv]
  | succ j ih =>
    simp only [hv]
    rw [ih (by omega), addL_length, ← hl]
    have e : (addL a (scaleL b s)).getD (a.length - 1 - j) 0 = (a.getD (a.length - 1 - j) 0 + b.getD (a.length - 1 - j) 0 * s % 1000003) % 1000003 := by
      unfold addL
      rw [mapR_getD _ _ _ (by omega)]
      unfold scaleL
      rw [mapR_getD _ _ _ (by omega)]
    rw [e]
    exact lin_step _ _ _ _ _ _
theorem out_hv {xs : List Int} (hn : xs.length < 14) (nx : nums xs = true) {t : Nat} (ht : t < xs.length) (i : Nat) (hi : i ≤ xs.length) : hv (outL xs i) (t : Int) xs.length = sm (fun k => gz (fun j => xs.getD j 0) k 0 * cc k t) i % 1000003 := by
  induction i with
  | zero => simp only [outL, sm]; rw [hv_zero]; rfl
  | succ i ih =>
    simp only [outL, sm]
    rw [hv_add _ _ _ _ (by rw [outL_length, sIn_length]) _ (by rw [outL_length]; exact Nat.le_refl _), ih (by omega), sIn_hv hn (by omega) ht, gm_gz nx]
    generalize gz (fun j => xs.getD j 0) i 0 = g
    generalize cc i t = c
    have : c % 1000003 * (g % 1000003) % 1000003 = g * c % 1000003 := by rw [← Int.mul_emod, Int.mul_comm]
    omega
theorem out_key {xs : List Int} (hn : xs.length < 14) (nx : nums xs = true) (i : Nat) (hi : i < xs.length) : (xs.getD i 0 - hv (outL xs i) (i : Int) xs.length) % 1000003 = gm xs i 0 := by
  rw [out_hv hn nx hi i (by omega), gm_gz nx]
  have h := newton (fun j => xs.getD j 0) i 0
  simp only [sm, Nat.zero_add] at h
  rw [cc_self, Int.mul_one] at h
  omega
theorem fit_scale {xs : List Int} (hn : xs.length < 14) (nx : nums xs = true) (i : Nat) (hi : i < xs.length) :
    scaleL (sBn xs.length i) ((xs.getD i 0 - hv (outL xs i) (i : Int) xs.length) % 1000003 * inv (hv (sBn xs.length i) (i : Int) xs.length) % 1000003) = scaleL (sIn xs.length i) (gm xs i 0) := by
  rw [out_key hn nx i hi, sIn_scale hn hi]
  generalize inv (hv (sBn xs.length i) (i : Int) xs.length) = v
  generalize gm xs i 0 = g
  unfold scaleL
  rw [mapR_length]
  refine mapR_congr fun k hk => ?_
  rw [mapR_getD _ _ _ hk]
  generalize (sBn xs.length i).getD k 0 = b
  have e1 : b * (g * v % 1000003) % 1000003 = b * g * v % 1000003 := by rw [Int.mul_emod, Int.emod_emod, ← Int.mul_emod, Int.mul_assoc]
  have e2 : b * v % 1000003 * g % 1000003 = b * v * g % 1000003 := by rw [Int.mul_emod, Int.emod_emod, ← Int.mul_emod]
  rw [e1, e2, Int.mul_assoc, Int.mul_comm g v, ← Int.mul_assoc]
end Eng
end Go.Proofs.Ytlhfcmcocbiafaa
