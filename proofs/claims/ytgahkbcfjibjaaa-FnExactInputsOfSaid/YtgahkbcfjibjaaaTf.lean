/- The reverse sweep of a tape: what it computes, and that first coefficients are computed from first coefficients. No program in sight. -/
import Derived.Test.YtgahkbcfjibjaaaTe
namespace Go.Proofs.Ytgahkbcfjibjaaa
open Go Go.RowKit
namespace Eng
theorem getD_setA {α : Type} {xs : List α} {i : Nat} {x d : α} (h : i < xs.length) : (xs.set i x).getD i d = x := by
  rw [List.getD_eq_getElem?_getD, List.getElem?_set_self h]; rfl
theorem getD_setB {α : Type} {xs : List α} {i j : Nat} {x d : α} (h : i ≠ j) : (xs.set i x).getD j d = xs.getD j d := by
  rw [List.getD_eq_getElem?_getD, List.getElem?_set_ne h, ← List.getD_eq_getElem?_getD]
/-- A series is added to row r. -/
def putL (a : List (List Int)) (r : Int) (s : List Int) : List (List Int) := a.set r.toNat (addL (a.getD r.toNat []) s)
theorem putL_length (a : List (List Int)) (r : Int) (s : List Int) : (putL a r s).length = a.length := by simp [putL]
theorem Good.set {sz : Nat} {a : List (List Int)} {x : List Int} (h : Good sz a) (i : Nat) (hl : x.length = sz) (hn : nums x = true) : Good sz (a.set i x) := fun j hj => by
  rw [List.length_set] at hj
  by_cases hij : i = j
  · subst hij; rw [getD_setA hj]; exact ⟨hl, hn⟩
  · rw [getD_setB hij]; exact h j hj
theorem putL_good {sz : Nat} {a : List (List Int)} (h : Good sz a) (r : Int) (s : List Int) : Good sz (putL a r s) := by
  unfold putL
  by_cases hr : r.toNat < a.length
  · exact h.set _ (by rw [addL_length]; exact (h _ hr).1) (nums_addL _ _)
  · rw [List.set_eq_of_length_le (by omega)]; exact h
def outS (t : Tp) (ws : List Int) (sz : Nat) : Nat → List (List Int)
  | 0 => List.replicate t.code.length (List.replicate sz 0)
  | k + 1 => putL (outS t ws sz k) (t.outs.getD k 0) (constL (ws.getD k 0) sz)
def swStep (regs : List (List Int)) (k : Nat) (x : Ins) (a : List (List Int)) : List (List Int) :=
  if x.op = 3 then putL (putL a x.a (a.getD k [])) x.b (a.getD k [])
  else if x.op = 4 then putL (putL a x.a (a.getD k [])) x.b (scaleL (a.getD k []) 1000002)
  else if x.op = 5 then putL (putL a x.a (mulL (a.getD k []) (regs.getD x.b.toNat []))) x.b (mulL (a.getD k []) (regs.getD x.a.toNat []))
  else if x.op = 6 then putL (putL a x.a (divL (a.getD k []) (regs.getD x.b.toNat []))) x.b (scaleL (mulL (divL (a.getD k []) (regs.getD x.b.toNat [])) (regs.getD k [])) 1000002)
  else if x.op = 7 then putL a x.a (scaleL (a.getD k []) 1000002)
  else a
def swS (t : Tp) (regs : List (List Int)) (ws : List Int) (sz : Nat) : Nat → List (List Int)
  | 0 => outS t ws sz t.outs.length
  | j + 1 => swStep regs (t.code.length - 1 - j) (t.code.getD (t.code.length - 1 - j) dIns) (swS t regs ws sz j)
theorem outS_length (t : Tp) (ws : List Int) (sz k : Nat) : (outS t ws sz k).length = t.code.length := by
  induction k with
  | zero => simp [outS]
  | succ k ih => rw [outS, putL_length, ih]
theorem zeros_good (n sz : Nat) : Good sz (List.replicate n (List.replicate sz 0)) := fun i hi => by
  rw [List.length_replicate] at hi
  have : (List.replicate n (List.replicate sz (0 : Int))).getD i [] = List.replicate sz 0 := by
    rw [List.getD_eq_getElem?_getD, List.getElem?_replicate, if_pos hi]; rfl
  rw [this]
  refine ⟨by simp, ?_⟩
  unfold nums
  rw [List.all_eq_true]
  intro x hx
  rw [List.eq_of_mem_replicate hx]
  decide
theorem outS_good (t : Tp) (ws : List Int) (sz k : Nat) : Good sz (outS t ws sz k) := by
  induction k with
  | zero => exact zeros_good _ _
  | succ k ih => exact putL_good ih _ _
theorem swStep_length (regs : List (List Int)) (k : Nat) (x : Ins) (a : List (List Int)) : (swStep regs k x a).length = a.length := by
  unfold swStep
  repeat' split
  all_goals simp only [putL_length]
theorem swStep_good {sz : Nat} (regs : List (List Int)) (k : Nat) (x : Ins) {a : List (List Int)} (h : Good sz a) : Good sz (swStep regs k x a) := by
  unfold swStep
  repeat' split
  all_goals first | exact h | exact putL_good (putL_good h _ _) _ _ | exact putL_good h _ _
theorem swS_length (t : Tp) (regs : List (List Int)) (ws : List Int) (sz j : Nat) : (swS t regs ws sz j).length = t.code.length := by
  induction j with
  | zero => exact outS_length _ _ _ _
  | succ j ih => rw [swS, swStep_length, ih]
theorem swS_good (t : Tp) (regs : List (List Int)) (ws : List Int) (sz j : Nat) : Good sz (swS t regs ws sz j) := by
  induction j with
  | zero => exact outS_good _ _ _ _
  | succ j ih => exact swStep_good _ _ _ ih

/-! ### first coefficients -/
def hd (xs : List Int) : List Int := [xs.getD 0 0]
def hds (a : List (List Int)) : List (List Int) := a.map hd
theorem hds_length (a : List (List Int)) : (hds a).length = a.length := by simp [hds]
theorem hds_get {a : List (List Int)} {i : Nat} (h : i < a.length) : (hds a).getD i [] = hd (a.getD i []) := by simp [hds, h]
theorem mapR_one (f : Nat → Int) : mapR f 1 = [f 0] := rfl
theorem mapR_hd {f : Nat → Int} {n : Nat} (h : 1 ≤ n) : hd (mapR f n) = [f 0] := by
  unfold hd
  rw [mapR_getD _ _ _ (by omega)]
theorem hd_add {a b : List Int} (h : 1 ≤ a.length) : hd (addL a b) = addL (hd a) (hd b) := by
  unfold addL
  rw [mapR_hd h]
  rfl
theorem hd_scale {a : List Int} {n : Int} (h : 1 ≤ a.length) : hd (scaleL a n) = scaleL (hd a) n := by
  unfold scaleL
  rw [mapR_hd h]
  rfl
theorem hd_mul {a b : List Int} (h : 1 ≤ a.length) : hd (mulL a b) = mulL (hd a) (hd b) := by
  unfold mulL
  rw [mapR_hd h]
  rfl
theorem hd_div {a b : List Int} (h : 1 ≤ a.length) : hd (divL a b) = divL (hd a) (hd b) := by
  have e : divL (hd a) (hd b) = hd (divL (hd a) (hd b)) := by
    have hl := divL_length (hd a) (hd b)
    match hq : divL (hd a) (hd b), hl with
    | [x], _ => rfl
  rw [e]
  unfold hd
  rw [divL_get a b 0 (by omega), divL_get [a.getD 0 0] [b.getD 0 0] 0 (by simp)]
  rfl
theorem hd_sub {a b : List Int} (h : 1 ≤ a.length) (k : 1 ≤ b.length) : hd (subL a b) = subL (hd a) (hd b) := by
  unfold subL
  rw [hd_add h, hd_scale k]
theorem hd_const (x : Int) {n : Nat} (h : 1 ≤ n) : hd (constL x n) = constL x 1 := by
  obtain ⟨m, rfl⟩ : ∃ m, n = m + 1 := ⟨n - 1, by omega⟩
  rfl
theorem hd_get (a : List Int) : (hd a).getD 0 0 = a.getD 0 0 := rfl
theorem hds_put {sz : Nat} {a : List (List Int)} {r : Int} {s : List Int} (h : Good sz a) (hs : 1 ≤ sz) (hr : r.toNat < a.length) : hds (putL a r s) = putL (hds a) r (hd s) := by
  unfold putL
  rw [hds_get hr, ← hd_add (by rw [(h _ hr).1]; exact hs)]
  unfold hds
  rw [List.map_set]
theorem hds_out {t : Tp} {ws : List Int} {sz : Nat} (hs : 1 ≤ sz) (ho : ∀ i, i < t.outs.length → 0 ≤ t.outs.getD i 0 ∧ t.outs.getD i 0 < t.code.length) : ∀ k, k ≤ t.outs.length → hds (outS t ws sz k) = outS t ws 1 k := by
  intro k
  induction k with
  | zero =>
    intro _
    unfold outS hds
    rw [List.map_replicate]
    congr 1
    obtain ⟨m, rfl⟩ : ∃ m, sz = m + 1 := ⟨sz - 1, by omega⟩
    rfl
  | succ k ih =>
    intro hk
    have := ho k (by omega)
    rw [outS, hds_put (outS_good _ _ _ _) hs (by rw [outS_length]; omega), ih (by omega), hd_const _ hs]
    rfl
theorem hds_step {regs : List (List Int)} {k n : Nat} {x : Ins} {a : List (List Int)} {inp : Int} (ok : okI inp x k = true) (hk : k < n) (hr : regs.length = n) (ha : a.length = n) (_gr : Good 2 regs) (ga : Good 2 a) : hds (swStep regs k x a) = swStep (hds regs) k x (hds a) := by
  have hop := okI_op ok
  have own : (hds a).getD k [] = hd (a.getD k []) := hds_get (by omega)
  have l0 := (ga k (by omega)).1
  unfold swStep
  rw [own]
  by_cases o3 : x.op = 3
  · have := okI_bin ok (by omega)
    rw [if_pos o3, if_pos o3, hds_put (putL_good ga _ _) (by omega) (by rw [putL_length]; omega), hds_put ga (by omega) (by omega)]
  rw [if_neg o3, if_neg o3]
  by_cases o4 : x.op = 4
  · have := okI_bin ok (by omega)
    rw [if_pos o4, if_pos o4, hds_put (putL_good ga _ _) (by omega) (by rw [putL_length]; omega), hds_put ga (by omega) (by omega), hd_scale (by omega)]
  rw [if_neg o4, if_neg o4]
  by_cases o5 : x.op = 5
  · have := okI_bin ok (by omega)
    rw [if_pos o5, if_pos o5, hds_put (putL_good ga _ _) (by omega) (by rw [putL_length]; omega), hds_put ga (by omega) (by omega), hd_mul (by omega), hd_mul (by omega), hds_get (by omega), hds_get (by omega)]
  rw [if_neg o5, if_neg o5]
  by_cases o6 : x.op = 6
  · have := okI_bin ok (by omega)
    rw [if_pos o6, if_pos o6, hds_put (putL_good ga _ _) (by omega) (by rw [putL_length]; omega), hds_put ga (by omega) (by omega), hd_scale (by rw [mulL_length, divL_length]; omega), hd_mul (by rw [divL_length]; omega), hd_div (by omega), hds_get (by omega), hds_get (by omega)]
  rw [if_neg o6, if_neg o6]
  by_cases o7 : x.op = 7
  · have := okI_neg ok o7
    rw [if_pos o7, if_pos o7, hds_put ga (by omega) (by omega), hd_scale (by omega)]
  rw [if_neg o7, if_neg o7]
theorem hds_sw {t : Tp} {regs : List (List Int)} {ws : List Int} (ok : okT t = true) (hr : regs.length = t.code.length) (gr : Good 2 regs) : ∀ j, j ≤ t.code.length → hds (swS t regs ws 2 j) = swS t (hds regs) ws 1 j := by
  intro j
  induction j with
  | zero => intro _; exact hds_out (by omega) (okT_iff.1 ok).2.2.2.2.2.2 _ (Nat.le_refl _)
  | succ j ih =>
    intro hj
    have h := (okT_iff.1 ok).2.2.2.2.1 (t.code.length - 1 - j) (by omega)
    rw [swS, hds_step h (by omega) hr (swS_length _ _ _ _ _) gr (swS_good _ _ _ _ _), ih (by omega)]
    rfl
theorem hd_step {inp : Int} {args out : List (List Int)} {k : Nat} {x : Ins} (ok : okI inp x k = true) (hl : (args.length : Int) = inp) (hk : out.length = k) (go : Good 2 out) : (stepS args 2 out x).map hd = stepS (hds args) 1 (hds out) x := by
  have hop := okI_op ok
  unfold stepS
  by_cases o1 : x.op = 1
  · have := okI_in ok o1
    rw [if_pos o1, if_pos o1, hds_get (by omega)]
    rfl
  rw [if_neg o1, if_neg o1]
  by_cases o2 : x.op = 2
  · rw [if_pos o2, if_pos o2]
    rfl
  rw [if_neg o2, if_neg o2]
  by_cases o3 : x.op = 3
  · have := okI_bin ok (by omega)
    have := (go x.a.toNat (by omega)).1
    rw [if_pos o3, if_pos o3, hds_get (by omega), hds_get (by omega), ← hd_add (by omega)]
    rfl
  rw [if_neg o3, if_neg o3]
  by_cases o4 : x.op = 4
  · have := okI_bin ok (by omega)
    have := (go x.a.toNat (by omega)).1
    have := (go x.b.toNat (by omega)).1
    rw [if_pos o4, if_pos o4, hds_get (by omega), hds_get (by omega), ← hd_sub (by omega) (by omega)]
    rfl
  rw [if_neg o4, if_neg o4]
  by_cases o5 : x.op = 5
  · have := okI_bin ok (by omega)
    have := (go x.a.toNat (by omega)).1
    rw [if_pos o5, if_pos o5, hds_get (by omega), hds_get (by omega), ← hd_mul (by omega)]
    rfl
  rw [if_neg o5, if_neg o5]
  by_cases o7 : x.op = 7
  · have := okI_neg ok o7
    have := (go x.a.toNat (by omega)).1
    rw [if_pos o7, if_pos o7, hds_get (by omega), ← hd_scale (by omega)]
    rfl
  rw [if_neg o7, if_neg o7]
  have := okI_bin ok (by omega)
  have := (go x.a.toNat (by omega)).1
  rw [hds_get (by omega), hds_get (by omega), hd_get]
  by_cases hz : (out.getD x.b.toNat []).getD 0 0 = 0
  · rw [if_pos hz, if_pos hz]
    rfl
  · rw [if_neg hz, if_neg hz, ← hd_div (by omega)]
    rfl
theorem hd_regs {t : Tp} {args : List (List Int)} (ok : okT t = true) (hl : (args.length : Int) = t.inputs) (ha : Good 2 args) : ∀ k, k ≤ t.code.length → (regS t args 2 k).map hds = regS t (hds args) 1 k := by
  intro k
  induction k with
  | zero => intro _; rfl
  | succ k ih =>
    intro hk
    have ih := ih (by omega)
    show ((regS t args 2 k).bind _).map hds = (regS t (hds args) 1 k).bind _
    rw [← ih]
    cases e : regS t args 2 k with
    | none => rfl
    | some out =>
      obtain ⟨hol, hgo⟩ := regS_good ok hl ha (by omega) e
      have hs := hd_step ((okT_iff.1 ok).2.2.2.2.1 k (by omega)) hl hol hgo
      simp only [Option.bind_some, Option.map_some]
      rw [← hs]
      cases stepS args 2 out (t.code.getD k dIns) with
      | none => rfl
      | some s => simp [hds]
theorem hds_line (xs ds : List Int) : hds (lineL xs ds 1) = lineL xs xs 0 := by
  unfold hds lineL rowsOf
  rw [List.map_map]
  apply List.map_congr_left
  intro i _
  rfl
theorem col_hds (a : List (List Int)) : colL (hds a) 0 = colL a 0 := by
  unfold colL
  rw [hds_length]
  refine mapR_congr fun k hk => ?_
  rw [hds_get hk]
  rfl

/-! ### the sweep's result, and sums by inputs -/
def goodW (t : Tp) (ws : List Int) : Bool := decide (ws.length = t.outs.length) && nums ws
def wC (t : Tp) (xs ws ds : List Int) : Int := if runC t [xs, ds] = 0 then (if goodW t ws = true then 0 else 2) else runC t [xs, ds]
def swR (t : Tp) (xs ws ds : List Int) (j : Nat) : List (List Int) × Int :=
  if wC t xs ws ds = 0 then (match regS t (lineL xs ds j) (j + 1) t.code.length with | none => ([], 6) | some regs => (swS t regs ws (j + 1) t.code.length, 0)) else ([], wC t xs ws ds)
theorem wC_zero {t : Tp} {xs ws ds : List Int} (h : wC t xs ws ds = 0) : runC t [xs, ds] = 0 ∧ ws.length = t.outs.length ∧ nums ws = true := by
  unfold wC at h
  by_cases hr : runC t [xs, ds] = 0
  · rw [if_pos hr] at h
    cases g : goodW t ws
    · rw [g] at h; simp at h
    · unfold goodW at g
      simp only [Bool.and_eq_true, decide_eq_true_eq] at g
      exact ⟨hr, g.1, g.2⟩
  · rw [if_neg hr] at h; exact absurd h hr
theorem swR_code {t : Tp} {xs ws ds : List Int} {j : Nat} (h : wC t xs ws ds ≠ 0) : swR t xs ws ds j = ([], wC t xs ws ds) := by unfold swR; rw [if_neg h]
theorem swR_none {t : Tp} {xs ws ds : List Int} {j : Nat} (h : wC t xs ws ds = 0) (e : regS t (lineL xs ds j) (j + 1) t.code.length = none) : swR t xs ws ds j = ([], 6) := by unfold swR; rw [if_pos h, e]
theorem swR_some {t : Tp} {xs ws ds : List Int} {j : Nat} {regs : List (List Int)} (h : wC t xs ws ds = 0) (e : regS t (lineL xs ds j) (j + 1) t.code.length = some regs) : swR t xs ws ds j = (swS t regs ws (j + 1) t.code.length, 0) := by unfold swR; rw [if_pos h, e]
/-- The reference's sweep of size 1 is the program's of size 2, cut off. -/
theorem swR_cut (t : Tp) (xs ws : List Int) : swR t xs ws xs 0 = (hds (swR t xs ws xs 1).1, (swR t xs ws xs 1).2) := by
  by_cases hc : wC t xs ws xs = 0
  · obtain ⟨ok, ⟨hl, hn⟩, _⟩ := runC_zero2 (wC_zero hc).1
    have hll : ((lineL xs xs 1).length : Int) = t.inputs := by rw [lineL_length]; exact hl
    have hg := lineL_good (j := 1) (by omega) hn hn
    have hh := hd_regs ok hll hg _ (Nat.le_refl _)
    rw [hds_line] at hh
    cases e : regS t (lineL xs xs 1) 2 t.code.length with
    | none =>
      rw [e] at hh
      rw [swR_none (j := 1) hc e, swR_none (j := 0) hc hh.symm]
      rfl
    | some regs =>
      rw [e] at hh
      obtain ⟨hol, hgo⟩ := regS_good ok hll hg (Nat.le_refl _) e
      rw [swR_some (j := 1) hc e, swR_some (j := 0) hc hh.symm]
      show (_, _) = (hds (swS t regs ws 2 t.code.length), _)
      rw [hds_sw ok hol hgo _ (Nat.le_refl _)]
  · rw [swR_code hc, swR_code hc]
    rfl
theorem swR_zero {t : Tp} {xs ws ds : List Int} {j : Nat} (h : (swR t xs ws ds j).2 = 0) : okT t = true ∧ (swR t xs ws ds j).1.length = t.code.length ∧ Good (j + 1) (swR t xs ws ds j).1 := by
  by_cases hc : wC t xs ws ds = 0
  · have ok := (runC_zero2 (wC_zero hc).1).1
    cases e : regS t (lineL xs ds j) (j + 1) t.code.length with
    | none => rw [swR_none hc e] at h; simp at h
    | some regs => rw [swR_some hc e]; exact ⟨ok, swS_length _ _ _ _ _, swS_good _ _ _ _ _⟩
  · rw [swR_code hc] at h; exact absurd h hc
def inS (t : Tp) (adj : List (List Int)) : Nat → List (List Int)
  | 0 => List.replicate t.inputs.toNat (List.replicate 2 0)
  | k + 1 => if (t.code.getD k dIns).op = 1 then putL (inS t adj k) (t.code.getD k dIns).num (adj.getD k []) else inS t adj k
def inN (t : Tp) (adj : List (List Int)) (j : Nat) : Nat → List Int
  | 0 => List.replicate t.inputs.toNat 0
  | k + 1 => if (t.code.getD k dIns).op = 1 then (inN t adj j k).set (t.code.getD k dIns).num.toNat (((inN t adj j k).getD (t.code.getD k dIns).num.toNat 0 + (adj.getD k []).getD j 0) % 1000003) else inN t adj j k
theorem inS_length (t : Tp) (adj : List (List Int)) (k : Nat) : (inS t adj k).length = t.inputs.toNat := by
  induction k with
  | zero => simp [inS]
  | succ k ih =>
    rw [inS]
    split
    · rw [putL_length, ih]
    · exact ih
theorem inN_length (t : Tp) (adj : List (List Int)) (j k : Nat) : (inN t adj j k).length = t.inputs.toNat := by
  induction k with
  | zero => simp [inN]
  | succ k ih =>
    rw [inN]
    split
    · rw [List.length_set, ih]
    · exact ih
theorem inS_good (t : Tp) (adj : List (List Int)) (k : Nat) : Good 2 (inS t adj k) := by
  induction k with
  | zero => exact zeros_good _ _
  | succ k ih =>
    rw [inS]
    split
    · exact putL_good ih _ _
    · exact ih
theorem col_set (a : List (List Int)) (r j : Nat) (x : List Int) (_hr : r < a.length) : colL (a.set r x) j = (colL a j).set r (x.getD j 0) := by
  apply List.ext_getElem
  · simp [colL, mapR]
  · intro i h1 h2
    have hi : i < a.length := by simpa [colL, mapR] using h1
    by_cases hri : r = i
    · subst hri
      simp [colL, mapR, hi]
    · simp [colL, mapR, hri, hi]
theorem col_in {t : Tp} (ok : okT t = true) (adj : List (List Int)) {j : Nat} (hj : j < 2) : ∀ k, k ≤ t.code.length → colL (inS t adj k) j = inN t adj j k := by
  intro k
  induction k with
  | zero =>
    intro _
    apply List.ext_getElem
    · simp [colL, mapR, inS, inN]
    · intro i h1 h2
      have hi : i < t.inputs.toNat := by simpa [inN] using h2
      have : (List.replicate 2 (0 : Int))[j]?.getD 0 = 0 := by rw [List.getElem?_replicate]; split <;> rfl
      simp only [colL, mapR, inS, inN, List.length_replicate, List.getElem_map, List.getElem_range, List.getD_eq_getElem?_getD, List.getElem?_replicate, hi, if_true, Option.getD_some, List.getElem_replicate]
      rw [if_pos hj]
      rfl
  | succ k ih =>
    intro hk
    have ih := ih (by omega)
    rw [inS, inN]
    by_cases o : (t.code.getD k dIns).op = 1
    · rw [if_pos o, if_pos o, ← ih]
      have hin := okI_in ((okT_iff.1 ok).2.2.2.2.1 k (by omega)) o
      have hl := inS_length t adj k
      have hr : (t.code.getD k dIns).num.toNat < (inS t adj k).length := by omega
      unfold putL
      rw [col_set _ _ _ _ hr]
      congr 1
      have hg := (inS_good t adj k _ hr).1
      unfold addL
      rw [mapR_getD _ _ _ (by omega)]
      unfold colL
      rw [mapR_getD _ _ _ hr]
    · rw [if_neg o, if_neg o, ih]
theorem inN_hds (t : Tp) (adj : List (List Int)) (hl : adj.length = t.code.length) : ∀ k, k ≤ t.code.length → inN t (hds adj) 0 k = inN t adj 0 k := by
  intro k
  induction k with
  | zero => intro _; rfl
  | succ k ih =>
    intro hk
    rw [inN, inN, ih (by omega), hds_get (by omega)]
    rfl
def fAdjoints (t : Tp) (xs ws : List Int) : List Int × Int := if (swR t xs ws xs 1).2 = 0 then (colL (swR t xs ws xs 1).1 0, 0) else ([], (swR t xs ws xs 1).2)
def fReverse (t : Tp) (xs ws : List Int) : List Int × Int := if (swR t xs ws xs 1).2 = 0 then (inN t (swR t xs ws xs 1).1 0 t.code.length, 0) else ([], (swR t xs ws xs 1).2)
def fHessian (t : Tp) (xs ws ds : List Int) : List Int × Int := if (swR t xs ws ds 1).2 = 0 then (inN t (swR t xs ws ds 1).1 1 t.code.length, 0) else ([], (swR t xs ws ds 1).2)
theorem fAdjoints_len (t : Tp) (xs ws : List Int) : (fAdjoints t xs ws).1.length ≤ 1048576 := by
  unfold fAdjoints
  split
  · rename_i h
    obtain ⟨ok, hl, _⟩ := swR_zero h
    have := (okT_iff.1 ok).2.1
    simp only [colL, mapR_length]
    omega
  · simp
theorem fReverse_len (t : Tp) (xs ws : List Int) : (fReverse t xs ws).1.length ≤ 1048576 := by
  unfold fReverse
  split
  · rename_i h
    have := (okT_iff.1 (swR_zero h).1).1
    simp only [inN_length]
    omega
  · simp
theorem fHessian_len (t : Tp) (xs ws ds : List Int) : (fHessian t xs ws ds).1.length ≤ 1048576 := by
  unfold fHessian
  split
  · rename_i h
    have := (okT_iff.1 (swR_zero h).1).1
    simp only [inN_length]
    omega
  · simp
end Eng
end Go.Proofs.Ytgahkbcfjibjaaa
