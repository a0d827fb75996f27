/- Exponentials and reversions of series: contracts and laws. Conditions: as each says. -/
import Derived.Test.YtlhfcmcocbiafaaSer7
namespace Go.Proofs.Ytlhfcmcocbiafaa
open Go Go.RowKit
namespace Eng

theorem EW.viaM {P : Program} {n : Nat} {Q : Exit → Env → World → Prop} {ρ : Env} {w : World} {x : Code} {K : Env → World → Prop} (M : Env → World → Prop) (h : EW P n x (thenE M Q) ρ w) (h2 : ∀ ρ' w', M ρ' w' → K ρ' w') : EW P n x (thenE K Q) ρ w :=
  EW.mono h fun e ρ' w' hq => by cases e <;> first | exact h2 _ _ hq | exact hq
/-- A list built from left to right, each element from those before it. -/
def recL (f : List Int → Nat → Int) : Nat → List Int
  | 0 => []
  | k + 1 => recL f k ++ [f (recL f k) k]
theorem recL_length (f : List Int → Nat → Int) (k : Nat) : (recL f k).length = k := by
  induction k with
  | zero => rfl
  | succ k ih => simp [recL, ih]
theorem recL_take (f : List Int → Nat → Int) (k n : Nat) (h : k ≤ n) : (recL f n).take k = recL f k := by
  obtain ⟨m, rfl⟩ : ∃ m, n = k + m := ⟨n - k, by omega⟩
  clear h
  induction m with
  | zero => rw [Nat.add_zero, List.take_of_length_le (by rw [recL_length]; omega)]
  | succ m ih => rw [← Nat.add_assoc, recL, List.take_append_of_le_length (by rw [recL_length]; omega), ih]
theorem recL_get (f : List Int → Nat → Int) (n k : Nat) (h : k < n) : (recL f n).getD k 0 = f ((recL f n).take k) k := by
  rw [recL_take f k n (by omega), ← getD_take (show k < k + 1 by omega), recL_take f (k + 1) n h, recL]
  rw [List.getD_eq_getElem?_getD, List.getElem?_append_right (by rw [recL_length]; exact Nat.le_refl _), recL_length, Nat.sub_self]
  simp
theorem nums_recL (f : List Int → Nat → Int) (n : Nat) (h : ∀ a k, 0 ≤ f a k ∧ f a k < 1000003) : nums (recL f n) = true := by
  refine all_of_lt fun i hi => ?_
  rw [recL_length] at hi
  rw [recL_get f n i hi]
  have := h ((recL f n).take i) i
  unfold isNum inB
  exact decide_eq_true (by omega)

/-! exponentials -/
def expS (xs out : List Int) (k : Nat) : Nat → Int
  | 0 => 0
  | i + 1 => (expS xs out k i + ((i : Int) + 1) * xs.getD (i + 1) 0 % 1000003 * out.getD (k - (i + 1)) 0) % 1000003
theorem expS_bounds (xs out : List Int) (k i : Nat) : 0 ≤ expS xs out k i ∧ expS xs out k i < 1000003 := by
  cases i with
  | zero => simp [expS]
  | succ i => simp only [expS]; omega
theorem expS_congr (xs a b : List Int) (k i : Nat) (hi : i ≤ k) (h : ∀ j, j < k → a.getD j 0 = b.getD j 0) : expS xs a k i = expS xs b k i := by
  induction i with
  | zero => rfl
  | succ i ih => simp only [expS]; rw [ih (by omega), h (k - (i + 1)) (by omega)]
def expF (xs : List Int) (a : List Int) (k : Nat) : Int := if k = 0 then 1 else expS xs a k k * inv k % 1000003
theorem expF_bounds (xs a : List Int) (k : Nat) : 0 ≤ expF xs a k ∧ expF xs a k < 1000003 := by
  unfold expF
  split <;> omega
def expL (xs : List Int) : List Int := recL (expF xs) xs.length
theorem expL_length (xs : List Int) : (expL xs).length = xs.length := recL_length _ _
theorem nums_expL (xs : List Int) : nums (expL xs) = true := nums_recL _ _ (expF_bounds xs)
theorem expL_get (xs : List Int) (k : Nat) (h : k < xs.length) (h1 : 1 ≤ k) : (expL xs).getD k 0 = expS xs (expL xs) k k * inv k % 1000003 := by
  unfold expL
  rw [recL_get _ _ _ h, expF, if_neg (by omega), expS_congr xs _ (recL (expF xs) xs.length) k k (Nat.le_refl _) fun j hj => getD_take hj]
theorem expL_start (xs : List Int) (h : 1 ≤ xs.length) : filled (expL xs) 1 xs.length = (List.replicate xs.length 0).set 0 1 := by
  unfold filled expL
  rw [recL_take _ 1 _ h]
  obtain ⟨m, hm⟩ : ∃ m, xs.length = m + 1 := ⟨xs.length - 1, by omega⟩
  rw [hm]
  simp [recL, expF, List.replicate_succ]
theorem filled_getD {xs : List Int} {k n j : Nat} (h : j < k) (hk : k ≤ xs.length) : (filled xs k n).getD j 0 = xs.getD j 0 := by
  unfold filled
  rw [List.getD_eq_getElem?_getD, List.getElem?_append_left (by rw [List.length_take]; omega), ← List.getD_eq_getElem?_getD, getD_take h]
def ExpR (xs : List Int) : List Int × Int := if vld xs = true then (if xs.getD 0 0 ≠ 0 then ([], 4) else (expL xs, 0)) else ([], 1)
theorem ExpR_len (xs : List Int) : (ExpR xs).1.length ≤ 1048576 := by
  unfold ExpR
  split
  · rename_i h
    have := vld_len h
    split
    · simp
    · simp only; rw [expL_length]; omega
  · simp
theorem implExpSeriesS (A : Option Addr) (c : Nat) (xs : List Int) (w : World) (hx : Rd w A (ints xs)) (hn : xs.length ≤ 1048576) :
    CallsR Try.prog 47 [.slice A xs.length c] w (SerOut w (ExpR xs)) := by
  refine CallsR.enter Try.func47 (by decide +kernel) rfl Try.ntmps47 rfl ?_
  have cx := implValid A c xs w hx (by omega)
  unfold ExpR
  cases vx : vld xs
  · rw [vx] at cx
    repeat' (first
      | (refine EL.h (Hv.call cx rfl) rfl (fun _ => rfl) ?_; rintro _ _ ⟨rfl, rfl⟩)
      | refine EW.seq ?_
      | refine EL.f (FV.move rfl) rfl rfl ?_
      | refine EL.f (FV.assign rfl) rfl rfl ?_
      | refine EL.nil ?_
      | refine EW.region ?_
      | refine EW.block ?_
      | refine EW.skip ?_
      | refine EW.exit ?_
      | refine EW.ret ?_
      | refine EW.condT rfl ?_
      | refine EW.condF rfl ?_
      | refine EL.f (FV.addI rfl rfl (by omega)) rfl rfl ?_
      | refine EL.f (FV.subI rfl rfl (by omega)) rfl rfl ?_
      | refine EL.f (FV.remI rfl rfl (by decide) (by omega)) rfl rfl ?_
      | refine EL.f (FV.quoI rfl rfl (by decide) (by omega)) rfl rfl ?_
      | refine EL.f (FV.extract rfl rfl) rfl rfl ?_
      | refine EL.f (FV.len rfl rfl) rfl rfl ?_
      | refine EL.f (FV.lenS rfl rfl) rfl rfl ?_
      | refine EL.f (FV.not rfl) rfl rfl ?_
      | refine EL.skip rfl rfl ?_
      | refine EL.f (FV.pickT rfl rfl) rfl rfl ?_
      | refine EL.f (FV.pickF rfl rfl) rfl rfl ?_
      | refine EL.fT (FV.lss rfl rfl) rfl (fun _ => rfl) (by omega) ?_
      | refine EL.fT (FV.leq rfl rfl) rfl (fun _ => rfl) (by omega) ?_
      | refine EL.fT (FV.gtr rfl rfl) rfl (fun _ => rfl) (by omega) ?_
      | refine EL.fT (FV.geq rfl rfl) rfl (fun _ => rfl) (by omega) ?_
      | refine EL.fT (FV.eql rfl rfl) rfl (fun _ => rfl) (by omega) ?_
      | refine EL.fT (FV.neq rfl rfl) rfl (fun _ => rfl) (by omega) ?_
      | refine EL.fF (FV.lss rfl rfl) rfl (fun _ => rfl) (by omega) ?_
      | refine EL.fF (FV.leq rfl rfl) rfl (fun _ => rfl) (by omega) ?_
      | refine EL.fF (FV.gtr rfl rfl) rfl (fun _ => rfl) (by omega) ?_
      | refine EL.fF (FV.geq rfl rfl) rfl (fun _ => rfl) (by omega) ?_
      | refine EL.fF (FV.eql rfl rfl) rfl (fun _ => rfl) (by omega) ?_
      | refine EL.fF (FV.neq rfl rfl) rfl (fun _ => rfl) (by omega) ?_
      | refine EL.f (FV.rem rfl rfl (by decide)) rfl rfl ?_
      | refine EL.f (FV.idx0 rfl rfl rfl rfl (by omega) (by omega)) rfl rfl ?_
      | refine EL.f (FV.idx1 rfl rfl rfl rfl (by omega) (by omega)) rfl rfl ?_
      | refine EL.f (FV.load1 rfl rfl rfl (by assumption)) rfl rfl ?_)
    exact ⟨_, rfl, SerOut.nil _ _⟩
  rw [vx] at cx
  have hl := vld_len vx
  obtain ⟨b, o, rfl, hc⟩ := hx.all (by rw [ints_length]; omega)
  have hc0 : w.cell? ⟨b, o + 0, none⟩ = some (.int .i64 (xs.getD 0 0)) := hc 0 _ (ints_get (by omega))
  by_cases g0 : xs.getD 0 0 ≠ 0
  · repeat' (first
      | (refine EL.h (Hv.call cx rfl) rfl (fun _ => rfl) ?_; rintro _ _ ⟨rfl, rfl⟩)
      | refine EW.seq ?_
      | refine EL.f (FV.move rfl) rfl rfl ?_
      | refine EL.f (FV.assign rfl) rfl rfl ?_
      | refine EL.nil ?_
      | refine EW.region ?_
      | refine EW.block ?_
      | refine EW.skip ?_
      | refine EW.exit ?_
      | refine EW.ret ?_
      | refine EW.condT rfl ?_
      | refine EW.condF rfl ?_
      | refine EL.f (FV.addI rfl rfl (by omega)) rfl rfl ?_
      | refine EL.f (FV.subI rfl rfl (by omega)) rfl rfl ?_
      | refine EL.f (FV.remI rfl rfl (by decide) (by omega)) rfl rfl ?_
      | refine EL.f (FV.quoI rfl rfl (by decide) (by omega)) rfl rfl ?_
      | refine EL.f (FV.extract rfl rfl) rfl rfl ?_
      | refine EL.f (FV.len rfl rfl) rfl rfl ?_
      | refine EL.f (FV.lenS rfl rfl) rfl rfl ?_
      | refine EL.f (FV.not rfl) rfl rfl ?_
      | refine EL.skip rfl rfl ?_
      | refine EL.f (FV.pickT rfl rfl) rfl rfl ?_
      | refine EL.f (FV.pickF rfl rfl) rfl rfl ?_
      | refine EL.fT (FV.lss rfl rfl) rfl (fun _ => rfl) (by omega) ?_
      | refine EL.fT (FV.leq rfl rfl) rfl (fun _ => rfl) (by omega) ?_
      | refine EL.fT (FV.gtr rfl rfl) rfl (fun _ => rfl) (by omega) ?_
      | refine EL.fT (FV.geq rfl rfl) rfl (fun _ => rfl) (by omega) ?_
      | refine EL.fT (FV.eql rfl rfl) rfl (fun _ => rfl) (by omega) ?_
      | refine EL.fT (FV.neq rfl rfl) rfl (fun _ => rfl) (by omega) ?_
      | refine EL.fF (FV.lss rfl rfl) rfl (fun _ => rfl) (by omega) ?_
      | refine EL.fF (FV.leq rfl rfl) rfl (fun _ => rfl) (by omega) ?_
      | refine EL.fF (FV.gtr rfl rfl) rfl (fun _ => rfl) (by omega) ?_
      | refine EL.fF (FV.geq rfl rfl) rfl (fun _ => rfl) (by omega) ?_
      | refine EL.fF (FV.eql rfl rfl) rfl (fun _ => rfl) (by omega) ?_
      | refine EL.fF (FV.neq rfl rfl) rfl (fun _ => rfl) (by omega) ?_
      | refine EL.f (FV.rem rfl rfl (by decide)) rfl rfl ?_
      | refine EL.f (FV.idx0 rfl rfl rfl rfl (by omega) (by omega)) rfl rfl ?_
      | refine EL.f (FV.idx1 rfl rfl rfl rfl (by omega) (by omega)) rfl rfl ?_
      | refine EL.f (FV.load1 rfl rfl rfl (by assumption)) rfl rfl ?_)
    rw [if_pos rfl, if_pos g0]
    exact ⟨_, rfl, SerOut.nil _ _⟩
  rw [if_pos rfl, if_neg g0]
  have hl0 := expL_length xs
  repeat' (first
    | (refine EL.h (Hv.call cx rfl) rfl (fun _ => rfl) ?_; rintro _ _ ⟨rfl, rfl⟩)
    | (refine EL.h (Hv.make (kl := .i64) rfl rfl rfl rfl (by omega) (by omega)) rfl (fun _ => rfl) ?_; rintro _ w1 ⟨g, rfl, hg, hat, he⟩)
    | refine EW.seq ?_
    | refine EL.f (FV.move rfl) rfl rfl ?_
    | refine EL.f (FV.assign rfl) rfl rfl ?_
    | refine EL.nil ?_
    | refine EW.region ?_
    | refine EW.block ?_
    | refine EW.skip ?_
    | refine EW.exit ?_
    | refine EW.ret ?_
    | refine EW.condT rfl ?_
    | refine EW.condF rfl ?_
    | refine EL.f (FV.addI rfl rfl (by omega)) rfl rfl ?_
    | refine EL.f (FV.subI rfl rfl (by omega)) rfl rfl ?_
    | refine EL.f (FV.remI rfl rfl (by decide) (by omega)) rfl rfl ?_
    | refine EL.f (FV.quoI rfl rfl (by decide) (by omega)) rfl rfl ?_
    | refine EL.f (FV.extract rfl rfl) rfl rfl ?_
    | refine EL.f (FV.len rfl rfl) rfl rfl ?_
    | refine EL.f (FV.lenS rfl rfl) rfl rfl ?_
    | refine EL.f (FV.not rfl) rfl rfl ?_
    | refine EL.skip rfl rfl ?_
    | refine EL.f (FV.pickT rfl rfl) rfl rfl ?_
    | refine EL.f (FV.pickF rfl rfl) rfl rfl ?_
    | refine EL.fT (FV.lss rfl rfl) rfl (fun _ => rfl) (by omega) ?_
    | refine EL.fT (FV.leq rfl rfl) rfl (fun _ => rfl) (by omega) ?_
    | refine EL.fT (FV.gtr rfl rfl) rfl (fun _ => rfl) (by omega) ?_
    | refine EL.fT (FV.geq rfl rfl) rfl (fun _ => rfl) (by omega) ?_
    | refine EL.fT (FV.eql rfl rfl) rfl (fun _ => rfl) (by omega) ?_
    | refine EL.fT (FV.neq rfl rfl) rfl (fun _ => rfl) (by omega) ?_
    | refine EL.fF (FV.lss rfl rfl) rfl (fun _ => rfl) (by omega) ?_
    | refine EL.fF (FV.leq rfl rfl) rfl (fun _ => rfl) (by omega) ?_
    | refine EL.fF (FV.gtr rfl rfl) rfl (fun _ => rfl) (by omega) ?_
    | refine EL.fF (FV.geq rfl rfl) rfl (fun _ => rfl) (by omega) ?_
    | refine EL.fF (FV.eql rfl rfl) rfl (fun _ => rfl) (by omega) ?_
    | refine EL.fF (FV.neq rfl rfl) rfl (fun _ => rfl) (by omega) ?_
    | refine EL.f (FV.rem rfl rfl (by decide)) rfl rfl ?_
    | refine EL.f (FV.idx0 rfl rfl rfl rfl (by omega) (by omega)) rfl rfl ?_
    | refine EL.f (FV.idx1 rfl rfl rfl rfl (by omega) (by omega)) rfl rfl ?_
    | refine EL.f (FV.load1 rfl rfl rfl (by assumption)) rfl rfl ?_)
  rw [madeInts] at hat
  replace hat : AtI w1 g xs.length (List.replicate xs.length 0) := by unfold AtI; rw [List.length_replicate]; exact hat
  have hk0 : 0 < (List.replicate xs.length (0 : Int)).length := by rw [List.length_replicate]; omega
  repeat' (first
    | (refine EL.h (Hv.storeAt rfl rfl rfl rfl rfl hat (ints_get hk0)) rfl (fun _ => rfl) ?_; rintro _ _ ⟨rfl, _⟩)
    | refine EW.seq ?_
    | refine EL.f (FV.move rfl) rfl rfl ?_
    | refine EL.f (FV.assign rfl) rfl rfl ?_
    | refine EL.nil ?_
    | refine EW.region ?_
    | refine EW.block ?_
    | refine EW.skip ?_
    | refine EW.exit ?_
    | refine EW.ret ?_
    | refine EW.condT rfl ?_
    | refine EW.condF rfl ?_
    | refine EL.f (FV.addI rfl rfl (by omega)) rfl rfl ?_
    | refine EL.f (FV.subI rfl rfl (by omega)) rfl rfl ?_
    | refine EL.f (FV.remI rfl rfl (by decide) (by omega)) rfl rfl ?_
    | refine EL.f (FV.quoI rfl rfl (by decide) (by omega)) rfl rfl ?_
    | refine EL.f (FV.extract rfl rfl) rfl rfl ?_
    | refine EL.f (FV.len rfl rfl) rfl rfl ?_
    | refine EL.f (FV.lenS rfl rfl) rfl rfl ?_
    | refine EL.f (FV.not rfl) rfl rfl ?_
    | refine EL.skip rfl rfl ?_
    | refine EL.f (FV.pickT rfl rfl) rfl rfl ?_
    | refine EL.f (FV.pickF rfl rfl) rfl rfl ?_
    | refine EL.fT (FV.lss rfl rfl) rfl (fun _ => rfl) (by omega) ?_
    | refine EL.fT (FV.leq rfl rfl) rfl (fun _ => rfl) (by omega) ?_
    | refine EL.fT (FV.gtr rfl rfl) rfl (fun _ => rfl) (by omega) ?_
    | refine EL.fT (FV.geq rfl rfl) rfl (fun _ => rfl) (by omega) ?_
    | refine EL.fT (FV.eql rfl rfl) rfl (fun _ => rfl) (by omega) ?_
    | refine EL.fT (FV.neq rfl rfl) rfl (fun _ => rfl) (by omega) ?_
    | refine EL.fF (FV.lss rfl rfl) rfl (fun _ => rfl) (by omega) ?_
    | refine EL.fF (FV.leq rfl rfl) rfl (fun _ => rfl) (by omega) ?_
    | refine EL.fF (FV.gtr rfl rfl) rfl (fun _ => rfl) (by omega) ?_
    | refine EL.fF (FV.geq rfl rfl) rfl (fun _ => rfl) (by omega) ?_
    | refine EL.fF (FV.eql rfl rfl) rfl (fun _ => rfl) (by omega) ?_
    | refine EL.fF (FV.neq rfl rfl) rfl (fun _ => rfl) (by omega) ?_
    | refine EL.f (FV.rem rfl rfl (by decide)) rfl rfl ?_
    | refine EL.f (FV.idx0 rfl rfl rfl rfl (by omega) (by omega)) rfl rfl ?_
    | refine EL.f (FV.idx1 rfl rfl rfl rfl (by omega) (by omega)) rfl rfl ?_
    | refine EL.f (FV.load1 rfl rfl rfl (by assumption)) rfl rfl ?_)
  refine EW.loop (fun k wr => 1 ≤ k ∧ k ≤ xs.length ∧ AtI wr g xs.length (filled (expL xs) k xs.length) ∧ Below w.heap.size w wr) (fun k => [(0, .slice (some ⟨b, o, none⟩) xs.length c), (4, .slice (some ⟨g, 0, none⟩) xs.length xs.length), (5, .int .i64 k)]) (fun k => xs.length - k) 1 ⟨Nat.le_refl _, hl.1, by rw [expL_start xs hl.1]; exact AtI.set_ (k := 0) hat 1, Below.set_ he (by omega) _⟩ ⟨rfl, rfl, rfl, trivial⟩ ?_
  rintro k wr ⟨h1, hk, hat, hb⟩
  have hlen := filled_length (expL xs) k xs.length (by omega) (by omega)
  by_cases hlt : k < xs.length
  · repeat' (first
      | refine EW.seq ?_
      | refine EL.f (FV.move rfl) rfl rfl ?_
      | refine EL.f (FV.assign rfl) rfl rfl ?_
      | refine EL.nil ?_
      | refine EW.region ?_
      | refine EW.block ?_
      | refine EW.skip ?_
      | refine EW.exit ?_
      | refine EW.ret ?_
      | refine EW.condT rfl ?_
      | refine EW.condF rfl ?_
      | refine EL.f (FV.addI rfl rfl (by omega)) rfl rfl ?_
      | refine EL.f (FV.subI rfl rfl (by omega)) rfl rfl ?_
      | refine EL.f (FV.remI rfl rfl (by decide) (by omega)) rfl rfl ?_
      | refine EL.f (FV.quoI rfl rfl (by decide) (by omega)) rfl rfl ?_
      | refine EL.f (FV.extract rfl rfl) rfl rfl ?_
      | refine EL.f (FV.len rfl rfl) rfl rfl ?_
      | refine EL.f (FV.lenS rfl rfl) rfl rfl ?_
      | refine EL.f (FV.not rfl) rfl rfl ?_
      | refine EL.skip rfl rfl ?_
      | refine EL.f (FV.pickT rfl rfl) rfl rfl ?_
      | refine EL.f (FV.pickF rfl rfl) rfl rfl ?_
      | refine EL.fT (FV.lss rfl rfl) rfl (fun _ => rfl) (by omega) ?_
      | refine EL.fT (FV.leq rfl rfl) rfl (fun _ => rfl) (by omega) ?_
      | refine EL.fT (FV.gtr rfl rfl) rfl (fun _ => rfl) (by omega) ?_
      | refine EL.fT (FV.geq rfl rfl) rfl (fun _ => rfl) (by omega) ?_
      | refine EL.fT (FV.eql rfl rfl) rfl (fun _ => rfl) (by omega) ?_
      | refine EL.fT (FV.neq rfl rfl) rfl (fun _ => rfl) (by omega) ?_
      | refine EL.fF (FV.lss rfl rfl) rfl (fun _ => rfl) (by omega) ?_
      | refine EL.fF (FV.leq rfl rfl) rfl (fun _ => rfl) (by omega) ?_
      | refine EL.fF (FV.gtr rfl rfl) rfl (fun _ => rfl) (by omega) ?_
      | refine EL.fF (FV.geq rfl rfl) rfl (fun _ => rfl) (by omega) ?_
      | refine EL.fF (FV.eql rfl rfl) rfl (fun _ => rfl) (by omega) ?_
      | refine EL.fF (FV.neq rfl rfl) rfl (fun _ => rfl) (by omega) ?_
      | refine EL.f (FV.rem rfl rfl (by decide)) rfl rfl ?_
      | refine EL.f (FV.idx0 rfl rfl rfl rfl (by omega) (by omega)) rfl rfl ?_
      | refine EL.f (FV.idx1 rfl rfl rfl rfl (by omega) (by omega)) rfl rfl ?_
      | refine EL.f (FV.load1 rfl rfl rfl (by assumption)) rfl rfl ?_)
    refine EW.loop (fun i wi => i ≤ k ∧ Ext wr wi) (fun i => [(0, .slice (some ⟨b, o, none⟩) xs.length c), (4, .slice (some ⟨g, 0, none⟩) xs.length xs.length), (5, .int .i64 k), (6, .int .i64 (expS xs (expL xs) k i)), (7, .int .i64 ((i : Int) + 1))]) (fun i => k - i) 0 ⟨Nat.zero_le _, Ext.refl _⟩ ⟨rfl, rfl, rfl, rfl, rfl, trivial⟩ ?_
    rintro i wi ⟨hi, hei⟩
    have hbi : Below w.heap.size w wi := Below.then_ hb (Nat.le_refl _) hei
    have hati := At.ext hat hei
    have hs := expS_bounds xs (expL xs) k i
    by_cases hik : i < k
    · have hd := hc (i + 1) _ (ints_get (show i + 1 < xs.length by omega))
      have hd' : wi.cell? ⟨b, o + ((i : Int) + 1).toNat, none⟩ = some (.int .i64 (xs.getD (i + 1) 0)) := (hbi.cell (World.block_lt_of_cell? w _ hd)).trans hd
      have ho := AtI.int hati (show k - (i + 1) < (filled (expL xs) k xs.length).length by omega)
      rw [filled_getD (by omega) (by omega)] at ho
      have ho' : wi.cell? ⟨g, ((k : Int) - ((i : Int) + 1)).toNat, none⟩ = some (.int .i64 ((expL xs).getD (k - (i + 1)) 0)) := by
        rw [show ((k : Int) - ((i : Int) + 1)).toNat = k - (i + 1) from by omega]; exact ho
      have hm := mul_bounds (a := (i : Int) + 1) (by omega) (num_getD hl.2.2 (i + 1))
      have hm2 := mul_bounds (a := ((i : Int) + 1) * xs.getD (i + 1) 0 % 1000003) (by omega) (num_getD (nums_expL xs) (k - (i + 1)))
      repeat' (first
        | refine EW.seq ?_
        | refine EL.f (FV.move rfl) rfl rfl ?_
        | refine EL.f (FV.assign rfl) rfl rfl ?_
        | refine EL.nil ?_
        | refine EW.region ?_
        | refine EW.block ?_
        | refine EW.skip ?_
        | refine EW.exit ?_
        | refine EW.ret ?_
        | refine EW.condT rfl ?_
        | refine EW.condF rfl ?_
        | refine EL.f (FV.addI rfl rfl (by omega)) rfl rfl ?_
        | refine EL.f (FV.subI rfl rfl (by omega)) rfl rfl ?_
        | refine EL.f (FV.remI rfl rfl (by decide) (by omega)) rfl rfl ?_
        | refine EL.f (FV.quoI rfl rfl (by decide) (by omega)) rfl rfl ?_
        | refine EL.f (FV.extract rfl rfl) rfl rfl ?_
        | refine EL.f (FV.len rfl rfl) rfl rfl ?_
        | refine EL.f (FV.lenS rfl rfl) rfl rfl ?_
        | refine EL.f (FV.not rfl) rfl rfl ?_
        | refine EL.skip rfl rfl ?_
        | refine EL.f (FV.pickT rfl rfl) rfl rfl ?_
        | refine EL.f (FV.pickF rfl rfl) rfl rfl ?_
        | refine EL.fT (FV.lss rfl rfl) rfl (fun _ => rfl) (by omega) ?_
        | refine EL.fT (FV.leq rfl rfl) rfl (fun _ => rfl) (by omega) ?_
        | refine EL.fT (FV.gtr rfl rfl) rfl (fun _ => rfl) (by omega) ?_
        | refine EL.fT (FV.geq rfl rfl) rfl (fun _ => rfl) (by omega) ?_
        | refine EL.fT (FV.eql rfl rfl) rfl (fun _ => rfl) (by omega) ?_
        | refine EL.fT (FV.neq rfl rfl) rfl (fun _ => rfl) (by omega) ?_
        | refine EL.fF (FV.lss rfl rfl) rfl (fun _ => rfl) (by omega) ?_
        | refine EL.fF (FV.leq rfl rfl) rfl (fun _ => rfl) (by omega) ?_
        | refine EL.fF (FV.gtr rfl rfl) rfl (fun _ => rfl) (by omega) ?_
        | refine EL.fF (FV.geq rfl rfl) rfl (fun _ => rfl) (by omega) ?_
        | refine EL.fF (FV.eql rfl rfl) rfl (fun _ => rfl) (by omega) ?_
        | refine EL.fF (FV.neq rfl rfl) rfl (fun _ => rfl) (by omega) ?_
        | refine EL.f (FV.rem rfl rfl (by decide)) rfl rfl ?_
        | refine EL.f (FV.idx0 rfl rfl rfl rfl (by omega) (by omega)) rfl rfl ?_
        | refine EL.f (FV.idx1 rfl rfl rfl rfl (by omega) (by omega)) rfl rfl ?_
        | refine EL.f (FV.load1 rfl rfl rfl (by assumption)) rfl rfl ?_)
      refine EW.draw (fun w' => w' = wi.drew) (pl 0 18) mixed (by decide +kernel) rfl ?_
      repeat' (first
        | refine EP.f rfl (FV.load rfl rfl rfl (fun _ h' => atDrew h' hd')) rfl rfl ?_
        | (refine EP.f rfl (FV.load rfl rfl rfl (fun _ h' => atDrew h' (by rw [Nat.zero_add]; exact ho'))) rfl rfl ?_)
        | refine EP.f rfl (FV.load rfl rfl rfl (fun _ h' => atDrew h' ho')) rfl rfl ?_
        | refine EP.f rfl (FV.mulI rfl rfl (by omega)) rfl rfl ?_
        | refine EP.nil ?_
        | refine EP.f rfl (FV.move rfl) rfl rfl ?_
        | refine EP.f rfl (FV.assign rfl) rfl rfl ?_
        | refine EP.f rfl (FV.addI rfl rfl (by omega)) rfl rfl ?_
        | refine EP.f rfl (FV.subI rfl rfl (by omega)) rfl rfl ?_
        | refine EP.f rfl (FV.remI rfl rfl (by decide) (by omega)) rfl rfl ?_
        | refine EP.f rfl (FV.extract rfl rfl) rfl rfl ?_
        | refine EP.f rfl (FV.len rfl rfl) rfl rfl ?_
        | refine EP.f rfl (FV.idx0 rfl rfl rfl rfl (by omega) (by omega)) rfl rfl ?_
        | refine EP.f rfl (FV.idx1 rfl rfl rfl rfl (by omega) (by omega)) rfl rfl ?_
        | refine EP.f rfl (FV.not rfl) rfl rfl ?_)
      repeat' (first
        | refine EW.seq ?_
        | refine EL.f (FV.move rfl) rfl rfl ?_
        | refine EL.f (FV.assign rfl) rfl rfl ?_
        | refine EL.nil ?_
        | refine EW.region ?_
        | refine EW.block ?_
        | refine EW.skip ?_
        | refine EW.exit ?_
        | refine EW.ret ?_
        | refine EW.condT rfl ?_
        | refine EW.condF rfl ?_
        | refine EL.f (FV.addI rfl rfl (by omega)) rfl rfl ?_
        | refine EL.f (FV.subI rfl rfl (by omega)) rfl rfl ?_
        | refine EL.f (FV.remI rfl rfl (by decide) (by omega)) rfl rfl ?_
        | refine EL.f (FV.quoI rfl rfl (by decide) (by omega)) rfl rfl ?_
        | refine EL.f (FV.extract rfl rfl) rfl rfl ?_
        | refine EL.f (FV.len rfl rfl) rfl rfl ?_
        | refine EL.f (FV.lenS rfl rfl) rfl rfl ?_
        | refine EL.f (FV.not rfl) rfl rfl ?_
        | refine EL.skip rfl rfl ?_
        | refine EL.f (FV.pickT rfl rfl) rfl rfl ?_
        | refine EL.f (FV.pickF rfl rfl) rfl rfl ?_
        | refine EL.fT (FV.lss rfl rfl) rfl (fun _ => rfl) (by omega) ?_
        | refine EL.fT (FV.leq rfl rfl) rfl (fun _ => rfl) (by omega) ?_
        | refine EL.fT (FV.gtr rfl rfl) rfl (fun _ => rfl) (by omega) ?_
        | refine EL.fT (FV.geq rfl rfl) rfl (fun _ => rfl) (by omega) ?_
        | refine EL.fT (FV.eql rfl rfl) rfl (fun _ => rfl) (by omega) ?_
        | refine EL.fT (FV.neq rfl rfl) rfl (fun _ => rfl) (by omega) ?_
        | refine EL.fF (FV.lss rfl rfl) rfl (fun _ => rfl) (by omega) ?_
        | refine EL.fF (FV.leq rfl rfl) rfl (fun _ => rfl) (by omega) ?_
        | refine EL.fF (FV.gtr rfl rfl) rfl (fun _ => rfl) (by omega) ?_
        | refine EL.fF (FV.geq rfl rfl) rfl (fun _ => rfl) (by omega) ?_
        | refine EL.fF (FV.eql rfl rfl) rfl (fun _ => rfl) (by omega) ?_
        | refine EL.fF (FV.neq rfl rfl) rfl (fun _ => rfl) (by omega) ?_
        | refine EL.f (FV.rem rfl rfl (by decide)) rfl rfl ?_
        | refine EL.f (FV.idx0 rfl rfl rfl rfl (by omega) (by omega)) rfl rfl ?_
        | refine EL.f (FV.idx1 rfl rfl rfl rfl (by omega) (by omega)) rfl rfl ?_
        | refine EL.f (FV.load1 rfl rfl rfl (by assumption)) rfl rfl ?_)
      exact ⟨i + 1, ⟨rfl, rfl, rfl, rfl, rfl, trivial⟩, ⟨by omega, hei.trans (Ext.drew _)⟩, by omega⟩
    · obtain rfl : i = k := by omega
      have hm := mul_bounds hs (inv_bounds i)
      have hkk : i < (filled (expL xs) i xs.length).length := by omega
      repeat' (first
        | (refine EL.h (Hv.call (implInverse0 _ _) rfl) rfl (fun _ => rfl) ?_; rintro _ _ ⟨rfl, rfl⟩)
        | refine EL.f (FV.mulI rfl rfl (by omega)) rfl rfl ?_
        | (refine EL.h (Hv.storeAt rfl rfl rfl rfl rfl hati (ints_get hkk)) rfl (fun _ => rfl) ?_; rintro _ _ ⟨rfl, _⟩)
        | refine EW.seq ?_
        | refine EL.f (FV.move rfl) rfl rfl ?_
        | refine EL.f (FV.assign rfl) rfl rfl ?_
        | refine EL.nil ?_
        | refine EW.region ?_
        | refine EW.block ?_
        | refine EW.skip ?_
        | refine EW.exit ?_
        | refine EW.ret ?_
        | refine EW.condT rfl ?_
        | refine EW.condF rfl ?_
        | refine EL.f (FV.addI rfl rfl (by omega)) rfl rfl ?_
        | refine EL.f (FV.subI rfl rfl (by omega)) rfl rfl ?_
        | refine EL.f (FV.remI rfl rfl (by decide) (by omega)) rfl rfl ?_
        | refine EL.f (FV.quoI rfl rfl (by decide) (by omega)) rfl rfl ?_
        | refine EL.f (FV.extract rfl rfl) rfl rfl ?_
        | refine EL.f (FV.len rfl rfl) rfl rfl ?_
        | refine EL.f (FV.lenS rfl rfl) rfl rfl ?_
        | refine EL.f (FV.not rfl) rfl rfl ?_
        | refine EL.skip rfl rfl ?_
        | refine EL.f (FV.pickT rfl rfl) rfl rfl ?_
        | refine EL.f (FV.pickF rfl rfl) rfl rfl ?_
        | refine EL.fT (FV.lss rfl rfl) rfl (fun _ => rfl) (by omega) ?_
        | refine EL.fT (FV.leq rfl rfl) rfl (fun _ => rfl) (by omega) ?_
        | refine EL.fT (FV.gtr rfl rfl) rfl (fun _ => rfl) (by omega) ?_
        | refine EL.fT (FV.geq rfl rfl) rfl (fun _ => rfl) (by omega) ?_
        | refine EL.fT (FV.eql rfl rfl) rfl (fun _ => rfl) (by omega) ?_
        | refine EL.fT (FV.neq rfl rfl) rfl (fun _ => rfl) (by omega) ?_
        | refine EL.fF (FV.lss rfl rfl) rfl (fun _ => rfl) (by omega) ?_
        | refine EL.fF (FV.leq rfl rfl) rfl (fun _ => rfl) (by omega) ?_
        | refine EL.fF (FV.gtr rfl rfl) rfl (fun _ => rfl) (by omega) ?_
        | refine EL.fF (FV.geq rfl rfl) rfl (fun _ => rfl) (by omega) ?_
        | refine EL.fF (FV.eql rfl rfl) rfl (fun _ => rfl) (by omega) ?_
        | refine EL.fF (FV.neq rfl rfl) rfl (fun _ => rfl) (by omega) ?_
        | refine EL.f (FV.rem rfl rfl (by decide)) rfl rfl ?_
        | refine EL.f (FV.idx0 rfl rfl rfl rfl (by omega) (by omega)) rfl rfl ?_
        | refine EL.f (FV.idx1 rfl rfl rfl rfl (by omega) (by omega)) rfl rfl ?_
        | refine EL.f (FV.load1 rfl rfl rfl (by assumption)) rfl rfl ?_)
      refine ⟨i + 1, ⟨rfl, rfl, rfl, trivial⟩, ⟨by omega, by omega, ?_, Below.set_ hbi (by omega) _⟩, by omega⟩
      have e := filled_set (expL xs) i xs.length (by omega) (by omega)
      rw [expL_get xs i hlt h1] at e
      rw [← e]
      exact AtI.set_ hati _
  · obtain rfl : k = xs.length := by omega
    have e := filled_full (expL xs)
    rw [hl0] at e
    rw [e] at hat
    repeat' (first
      | refine EW.seq ?_
      | refine EL.f (FV.move rfl) rfl rfl ?_
      | refine EL.f (FV.assign rfl) rfl rfl ?_
      | refine EL.nil ?_
      | refine EW.region ?_
      | refine EW.block ?_
      | refine EW.skip ?_
      | refine EW.exit ?_
      | refine EW.ret ?_
      | refine EW.condT rfl ?_
      | refine EW.condF rfl ?_
      | refine EL.f (FV.addI rfl rfl (by omega)) rfl rfl ?_
      | refine EL.f (FV.subI rfl rfl (by omega)) rfl rfl ?_
      | refine EL.f (FV.remI rfl rfl (by decide) (by omega)) rfl rfl ?_
      | refine EL.f (FV.quoI rfl rfl (by decide) (by omega)) rfl rfl ?_
      | refine EL.f (FV.extract rfl rfl) rfl rfl ?_
      | refine EL.f (FV.len rfl rfl) rfl rfl ?_
      | refine EL.f (FV.lenS rfl rfl) rfl rfl ?_
      | refine EL.f (FV.not rfl) rfl rfl ?_
      | refine EL.skip rfl rfl ?_
      | refine EL.f (FV.pickT rfl rfl) rfl rfl ?_
      | refine EL.f (FV.pickF rfl rfl) rfl rfl ?_
      | refine EL.fT (FV.lss rfl rfl) rfl (fun _ => rfl) (by omega) ?_
      | refine EL.fT (FV.leq rfl rfl) rfl (fun _ => rfl) (by omega) ?_
      | refine EL.fT (FV.gtr rfl rfl) rfl (fun _ => rfl) (by omega) ?_
      | refine EL.fT (FV.geq rfl rfl) rfl (fun _ => rfl) (by omega) ?_
      | refine EL.fT (FV.eql rfl rfl) rfl (fun _ => rfl) (by omega) ?_
      | refine EL.fT (FV.neq rfl rfl) rfl (fun _ => rfl) (by omega) ?_
      | refine EL.fF (FV.lss rfl rfl) rfl (fun _ => rfl) (by omega) ?_
      | refine EL.fF (FV.leq rfl rfl) rfl (fun _ => rfl) (by omega) ?_
      | refine EL.fF (FV.gtr rfl rfl) rfl (fun _ => rfl) (by omega) ?_
      | refine EL.fF (FV.geq rfl rfl) rfl (fun _ => rfl) (by omega) ?_
      | refine EL.fF (FV.eql rfl rfl) rfl (fun _ => rfl) (by omega) ?_
      | refine EL.fF (FV.neq rfl rfl) rfl (fun _ => rfl) (by omega) ?_
      | refine EL.f (FV.rem rfl rfl (by decide)) rfl rfl ?_
      | refine EL.f (FV.idx0 rfl rfl rfl rfl (by omega) (by omega)) rfl rfl ?_
      | refine EL.f (FV.idx1 rfl rfl rfl rfl (by omega) (by omega)) rfl rfl ?_
      | refine EL.f (FV.load1 rfl rfl rfl (by assumption)) rfl rfl ?_)
    have := AtI.own (B := w.heap.size) hat (by omega)
    rw [hl0] at this
    exact ⟨_, rfl, _, rfl, this, hb⟩
theorem specExpSeriesS (A : Option Addr) (c : Nat) (xs : List Int) (w : World) (hx : Rd w A (ints xs)) (hn : xs.length ≤ 1048576) :
    CallsR Try.prog 46 [.slice A xs.length c] w (SerOut w (ExpR xs)) := by
  refine CallsR.enter Try.func46 (by decide +kernel) rfl Try.ntmps46 rfl ?_
  have cx := specOk A c xs w hx (by omega)
  unfold ExpR
  cases vx : vld xs
  · rw [vx] at cx
    repeat' (first
      | (refine EL.h (Hv.call cx rfl) rfl (fun _ => rfl) ?_; rintro _ _ ⟨rfl, rfl⟩)
      | (refine EL.h (Hv.build0 rfl rfl) rfl (fun _ => rfl) ?_; rintro v w' ⟨ho, he⟩)
      | refine EW.seq ?_
      | refine EL.f (FV.move rfl) rfl rfl ?_
      | refine EL.f (FV.assign rfl) rfl rfl ?_
      | refine EL.nil ?_
      | refine EW.region ?_
      | refine EW.block ?_
      | refine EW.skip ?_
      | refine EW.exit ?_
      | refine EW.ret ?_
      | refine EW.condT rfl ?_
      | refine EW.condF rfl ?_
      | refine EL.f (FV.addI rfl rfl (by omega)) rfl rfl ?_
      | refine EL.f (FV.subI rfl rfl (by omega)) rfl rfl ?_
      | refine EL.f (FV.remI rfl rfl (by decide) (by omega)) rfl rfl ?_
      | refine EL.f (FV.quoI rfl rfl (by decide) (by omega)) rfl rfl ?_
      | refine EL.f (FV.extract rfl rfl) rfl rfl ?_
      | refine EL.f (FV.len rfl rfl) rfl rfl ?_
      | refine EL.f (FV.lenS rfl rfl) rfl rfl ?_
      | refine EL.f (FV.not rfl) rfl rfl ?_
      | refine EL.skip rfl rfl ?_
      | refine EL.f (FV.pickT rfl rfl) rfl rfl ?_
      | refine EL.f (FV.pickF rfl rfl) rfl rfl ?_
      | refine EL.fT (FV.lss rfl rfl) rfl (fun _ => rfl) (by omega) ?_
      | refine EL.fT (FV.leq rfl rfl) rfl (fun _ => rfl) (by omega) ?_
      | refine EL.fT (FV.gtr rfl rfl) rfl (fun _ => rfl) (by omega) ?_
      | refine EL.fT (FV.geq rfl rfl) rfl (fun _ => rfl) (by omega) ?_
      | refine EL.fT (FV.eql rfl rfl) rfl (fun _ => rfl) (by omega) ?_
      | refine EL.fT (FV.neq rfl rfl) rfl (fun _ => rfl) (by omega) ?_
      | refine EL.fF (FV.lss rfl rfl) rfl (fun _ => rfl) (by omega) ?_
      | refine EL.fF (FV.leq rfl rfl) rfl (fun _ => rfl) (by omega) ?_
      | refine EL.fF (FV.gtr rfl rfl) rfl (fun _ => rfl) (by omega) ?_
      | refine EL.fF (FV.geq rfl rfl) rfl (fun _ => rfl) (by omega) ?_
      | refine EL.fF (FV.eql rfl rfl) rfl (fun _ => rfl) (by omega) ?_
      | refine EL.fF (FV.neq rfl rfl) rfl (fun _ => rfl) (by omega) ?_
      | refine EL.f (FV.rem rfl rfl (by decide)) rfl rfl ?_
      | refine EL.f (FV.idx0 rfl rfl rfl rfl (by omega) (by omega)) rfl rfl ?_
      | refine EL.f (FV.idx1 rfl rfl rfl rfl (by omega) (by omega)) rfl rfl ?_
      | refine EL.f (FV.load1 rfl rfl rfl (by assumption)) rfl rfl ?_)
    exact ⟨_, rfl, v, rfl, ho, he⟩
  rw [vx] at cx
  have hl := vld_len vx
  obtain ⟨b, o, rfl, hc⟩ := hx.all (by rw [ints_length]; omega)
  have hc0 : w.cell? ⟨b, o + 0, none⟩ = some (.int .i64 (xs.getD 0 0)) := hc 0 _ (ints_get (by omega))
  by_cases g0 : xs.getD 0 0 ≠ 0
  · repeat' (first
      | (refine EL.h (Hv.call cx rfl) rfl (fun _ => rfl) ?_; rintro _ _ ⟨rfl, rfl⟩)
      | (refine EL.h (Hv.build0 rfl rfl) rfl (fun _ => rfl) ?_; rintro v w' ⟨ho, he⟩)
      | refine EW.seq ?_
      | refine EL.f (FV.move rfl) rfl rfl ?_
      | refine EL.f (FV.assign rfl) rfl rfl ?_
      | refine EL.nil ?_
      | refine EW.region ?_
      | refine EW.block ?_
      | refine EW.skip ?_
      | refine EW.exit ?_
      | refine EW.ret ?_
      | refine EW.condT rfl ?_
      | refine EW.condF rfl ?_
      | refine EL.f (FV.addI rfl rfl (by omega)) rfl rfl ?_
      | refine EL.f (FV.subI rfl rfl (by omega)) rfl rfl ?_
      | refine EL.f (FV.remI rfl rfl (by decide) (by omega)) rfl rfl ?_
      | refine EL.f (FV.quoI rfl rfl (by decide) (by omega)) rfl rfl ?_
      | refine EL.f (FV.extract rfl rfl) rfl rfl ?_
      | refine EL.f (FV.len rfl rfl) rfl rfl ?_
      | refine EL.f (FV.lenS rfl rfl) rfl rfl ?_
      | refine EL.f (FV.not rfl) rfl rfl ?_
      | refine EL.skip rfl rfl ?_
      | refine EL.f (FV.pickT rfl rfl) rfl rfl ?_
      | refine EL.f (FV.pickF rfl rfl) rfl rfl ?_
      | refine EL.fT (FV.lss rfl rfl) rfl (fun _ => rfl) (by omega) ?_
      | refine EL.fT (FV.leq rfl rfl) rfl (fun _ => rfl) (by omega) ?_
      | refine EL.fT (FV.gtr rfl rfl) rfl (fun _ => rfl) (by omega) ?_
      | refine EL.fT (FV.geq rfl rfl) rfl (fun _ => rfl) (by omega) ?_
      | refine EL.fT (FV.eql rfl rfl) rfl (fun _ => rfl) (by omega) ?_
      | refine EL.fT (FV.neq rfl rfl) rfl (fun _ => rfl) (by omega) ?_
      | refine EL.fF (FV.lss rfl rfl) rfl (fun _ => rfl) (by omega) ?_
      | refine EL.fF (FV.leq rfl rfl) rfl (fun _ => rfl) (by omega) ?_
      | refine EL.fF (FV.gtr rfl rfl) rfl (fun _ => rfl) (by omega) ?_
      | refine EL.fF (FV.geq rfl rfl) rfl (fun _ => rfl) (by omega) ?_
      | refine EL.fF (FV.eql rfl rfl) rfl (fun _ => rfl) (by omega) ?_
      | refine EL.fF (FV.neq rfl rfl) rfl (fun _ => rfl) (by omega) ?_
      | refine EL.f (FV.rem rfl rfl (by decide)) rfl rfl ?_
      | refine EL.f (FV.idx0 rfl rfl rfl rfl (by omega) (by omega)) rfl rfl ?_
      | refine EL.f (FV.idx1 rfl rfl rfl rfl (by omega) (by omega)) rfl rfl ?_
      | refine EL.f (FV.load1 rfl rfl rfl (by assumption)) rfl rfl ?_)
    rw [if_pos rfl, if_pos g0]
    exact ⟨_, rfl, v, rfl, ho, he⟩
  rw [if_pos rfl, if_neg g0]
  have hl0 := expL_length xs
  repeat' (first
    | (refine EL.h (Hv.call cx rfl) rfl (fun _ => rfl) ?_; rintro _ _ ⟨rfl, rfl⟩)
    | (refine EL.h (Hv.call (specConst 1 xs.length (by omega) _) rfl) rfl (fun _ => rfl) ?_; rintro _ w1 ⟨g, rfl, hg, hat, he⟩)
    | refine EW.seq ?_
    | refine EL.f (FV.move rfl) rfl rfl ?_
    | refine EL.f (FV.assign rfl) rfl rfl ?_
    | refine EL.nil ?_
    | refine EW.region ?_
    | refine EW.block ?_
    | refine EW.skip ?_
    | refine EW.exit ?_
    | refine EW.ret ?_
    | refine EW.condT rfl ?_
    | refine EW.condF rfl ?_
    | refine EL.f (FV.addI rfl rfl (by omega)) rfl rfl ?_
    | refine EL.f (FV.subI rfl rfl (by omega)) rfl rfl ?_
    | refine EL.f (FV.remI rfl rfl (by decide) (by omega)) rfl rfl ?_
    | refine EL.f (FV.quoI rfl rfl (by decide) (by omega)) rfl rfl ?_
    | refine EL.f (FV.extract rfl rfl) rfl rfl ?_
    | refine EL.f (FV.len rfl rfl) rfl rfl ?_
    | refine EL.f (FV.lenS rfl rfl) rfl rfl ?_
    | refine EL.f (FV.not rfl) rfl rfl ?_
    | refine EL.skip rfl rfl ?_
    | refine EL.f (FV.pickT rfl rfl) rfl rfl ?_
    | refine EL.f (FV.pickF rfl rfl) rfl rfl ?_
    | refine EL.fT (FV.lss rfl rfl) rfl (fun _ => rfl) (by omega) ?_
    | refine EL.fT (FV.leq rfl rfl) rfl (fun _ => rfl) (by omega) ?_
    | refine EL.fT (FV.gtr rfl rfl) rfl (fun _ => rfl) (by omega) ?_
    | refine EL.fT (FV.geq rfl rfl) rfl (fun _ => rfl) (by omega) ?_
    | refine EL.fT (FV.eql rfl rfl) rfl (fun _ => rfl) (by omega) ?_
    | refine EL.fT (FV.neq rfl rfl) rfl (fun _ => rfl) (by omega) ?_
    | refine EL.fF (FV.lss rfl rfl) rfl (fun _ => rfl) (by omega) ?_
    | refine EL.fF (FV.leq rfl rfl) rfl (fun _ => rfl) (by omega) ?_
    | refine EL.fF (FV.gtr rfl rfl) rfl (fun _ => rfl) (by omega) ?_
    | refine EL.fF (FV.geq rfl rfl) rfl (fun _ => rfl) (by omega) ?_
    | refine EL.fF (FV.eql rfl rfl) rfl (fun _ => rfl) (by omega) ?_
    | refine EL.fF (FV.neq rfl rfl) rfl (fun _ => rfl) (by omega) ?_
    | refine EL.f (FV.rem rfl rfl (by decide)) rfl rfl ?_
    | refine EL.f (FV.idx0 rfl rfl rfl rfl (by omega) (by omega)) rfl rfl ?_
    | refine EL.f (FV.idx1 rfl rfl rfl rfl (by omega) (by omega)) rfl rfl ?_
    | refine EL.f (FV.load1 rfl rfl rfl (by assumption)) rfl rfl ?_)
  refine EW.loop (fun k wr => 1 ≤ k ∧ k ≤ xs.length ∧ AtI wr g xs.length (filled (expL xs) k xs.length) ∧ Below w.heap.size w wr) (fun k => [(0, .slice (some ⟨b, o, none⟩) xs.length c), (4, .slice (some ⟨g, 0, none⟩) xs.length xs.length), (5, .int .i64 k)]) (fun k => xs.length - k) 1 ⟨Nat.le_refl _, hl.1, by rw [expL_start xs hl.1]; exact hat, he⟩ ⟨rfl, rfl, rfl, trivial⟩ ?_
  rintro k wr ⟨h1, hk, hat, hb⟩
  have hlen := filled_length (expL xs) k xs.length (by omega) (by omega)
  by_cases hlt : k < xs.length
  · repeat' (first
      | refine EW.seq ?_
      | refine EL.f (FV.move rfl) rfl rfl ?_
      | refine EL.f (FV.assign rfl) rfl rfl ?_
      | refine EL.nil ?_
      | refine EW.region ?_
      | refine EW.block ?_
      | refine EW.skip ?_
      | refine EW.exit ?_
      | refine EW.ret ?_
      | refine EW.condT rfl ?_
      | refine EW.condF rfl ?_
      | refine EL.f (FV.addI rfl rfl (by omega)) rfl rfl ?_
      | refine EL.f (FV.subI rfl rfl (by omega)) rfl rfl ?_
      | refine EL.f (FV.remI rfl rfl (by decide) (by omega)) rfl rfl ?_
      | refine EL.f (FV.quoI rfl rfl (by decide) (by omega)) rfl rfl ?_
      | refine EL.f (FV.extract rfl rfl) rfl rfl ?_
      | refine EL.f (FV.len rfl rfl) rfl rfl ?_
      | refine EL.f (FV.lenS rfl rfl) rfl rfl ?_
      | refine EL.f (FV.not rfl) rfl rfl ?_
      | refine EL.skip rfl rfl ?_
      | refine EL.f (FV.pickT rfl rfl) rfl rfl ?_
      | refine EL.f (FV.pickF rfl rfl) rfl rfl ?_
      | refine EL.fT (FV.lss rfl rfl) rfl (fun _ => rfl) (by omega) ?_
      | refine EL.fT (FV.leq rfl rfl) rfl (fun _ => rfl) (by omega) ?_
      | refine EL.fT (FV.gtr rfl rfl) rfl (fun _ => rfl) (by omega) ?_
      | refine EL.fT (FV.geq rfl rfl) rfl (fun _ => rfl) (by omega) ?_
      | refine EL.fT (FV.eql rfl rfl) rfl (fun _ => rfl) (by omega) ?_
      | refine EL.fT (FV.neq rfl rfl) rfl (fun _ => rfl) (by omega) ?_
      | refine EL.fF (FV.lss rfl rfl) rfl (fun _ => rfl) (by omega) ?_
      | refine EL.fF (FV.leq rfl rfl) rfl (fun _ => rfl) (by omega) ?_
      | refine EL.fF (FV.gtr rfl rfl) rfl (fun _ => rfl) (by omega) ?_
      | refine EL.fF (FV.geq rfl rfl) rfl (fun _ => rfl) (by omega) ?_
      | refine EL.fF (FV.eql rfl rfl) rfl (fun _ => rfl) (by omega) ?_
      | refine EL.fF (FV.neq rfl rfl) rfl (fun _ => rfl) (by omega) ?_
      | refine EL.f (FV.rem rfl rfl (by decide)) rfl rfl ?_
      | refine EL.f (FV.idx0 rfl rfl rfl rfl (by omega) (by omega)) rfl rfl ?_
      | refine EL.f (FV.idx1 rfl rfl rfl rfl (by omega) (by omega)) rfl rfl ?_
      | refine EL.f (FV.load1 rfl rfl rfl (by assumption)) rfl rfl ?_)
    refine EW.loop (fun i wi => i ≤ k ∧ Ext wr wi) (fun i => [(0, .slice (some ⟨b, o, none⟩) xs.length c), (4, .slice (some ⟨g, 0, none⟩) xs.length xs.length), (5, .int .i64 k), (6, .int .i64 (expS xs (expL xs) k i)), (7, .int .i64 ((i : Int) + 1))]) (fun i => k - i) 0 ⟨Nat.zero_le _, Ext.refl _⟩ ⟨rfl, rfl, rfl, rfl, rfl, trivial⟩ ?_
    rintro i wi ⟨hi, hei⟩
    have hbi : Below w.heap.size w wi := Below.then_ hb (Nat.le_refl _) hei
    have hati := At.ext hat hei
    by_cases hik : i < k
    · have hd := hc (i + 1) _ (ints_get (show i + 1 < xs.length by omega))
      have hd' : wi.cell? ⟨b, o + ((i : Int) + 1).toNat, none⟩ = some (.int .i64 (xs.getD (i + 1) 0)) := (hbi.cell (World.block_lt_of_cell? w _ hd)).trans hd
      have ho := AtI.int hati (show k - (i + 1) < (filled (expL xs) k xs.length).length by omega)
      rw [filled_getD (by omega) (by omega)] at ho
      have ho' : wi.cell? ⟨g, ((k : Int) - ((i : Int) + 1)).toNat, none⟩ = some (.int .i64 ((expL xs).getD (k - (i + 1)) 0)) := by
        rw [show ((k : Int) - ((i : Int) + 1)).toNat = k - (i + 1) from by omega]; exact ho
      repeat' (first
        | refine EW.seq ?_
        | refine EL.f (FV.move rfl) rfl rfl ?_
        | refine EL.f (FV.assign rfl) rfl rfl ?_
        | refine EL.nil ?_
        | refine EW.region ?_
        | refine EW.block ?_
        | refine EW.skip ?_
        | refine EW.exit ?_
        | refine EW.ret ?_
        | refine EW.condT rfl ?_
        | refine EW.condF rfl ?_
        | refine EL.f (FV.addI rfl rfl (by omega)) rfl rfl ?_
        | refine EL.f (FV.subI rfl rfl (by omega)) rfl rfl ?_
        | refine EL.f (FV.remI rfl rfl (by decide) (by omega)) rfl rfl ?_
        | refine EL.f (FV.quoI rfl rfl (by decide) (by omega)) rfl rfl ?_
        | refine EL.f (FV.extract rfl rfl) rfl rfl ?_
        | refine EL.f (FV.len rfl rfl) rfl rfl ?_
        | refine EL.f (FV.lenS rfl rfl) rfl rfl ?_
        | refine EL.f (FV.not rfl) rfl rfl ?_
        | refine EL.skip rfl rfl ?_
        | refine EL.f (FV.pickT rfl rfl) rfl rfl ?_
        | refine EL.f (FV.pickF rfl rfl) rfl rfl ?_
        | refine EL.fT (FV.lss rfl rfl) rfl (fun _ => rfl) (by omega) ?_
        | refine EL.fT (FV.leq rfl rfl) rfl (fun _ => rfl) (by omega) ?_
        | refine EL.fT (FV.gtr rfl rfl) rfl (fun _ => rfl) (by omega) ?_
        | refine EL.fT (FV.geq rfl rfl) rfl (fun _ => rfl) (by omega) ?_
        | refine EL.fT (FV.eql rfl rfl) rfl (fun _ => rfl) (by omega) ?_
        | refine EL.fT (FV.neq rfl rfl) rfl (fun _ => rfl) (by omega) ?_
        | refine EL.fF (FV.lss rfl rfl) rfl (fun _ => rfl) (by omega) ?_
        | refine EL.fF (FV.leq rfl rfl) rfl (fun _ => rfl) (by omega) ?_
        | refine EL.fF (FV.gtr rfl rfl) rfl (fun _ => rfl) (by omega) ?_
        | refine EL.fF (FV.geq rfl rfl) rfl (fun _ => rfl) (by omega) ?_
        | refine EL.fF (FV.eql rfl rfl) rfl (fun _ => rfl) (by omega) ?_
        | refine EL.fF (FV.neq rfl rfl) rfl (fun _ => rfl) (by omega) ?_
        | refine EL.f (FV.rem rfl rfl (by decide)) rfl rfl ?_
        | refine EL.f (FV.idx0 rfl rfl rfl rfl (by omega) (by omega)) rfl rfl ?_
        | refine EL.f (FV.idx1 rfl rfl rfl rfl (by omega) (by omega)) rfl rfl ?_
        | refine EL.f (FV.load1 rfl rfl rfl (by assumption)) rfl rfl ?_)
      refine EW.draw (fun w' => w' = wi.drew) (pl 0 6 ++ [(7, true), (8, true), (9, true), (10, true), (11, true), (12, true), (6, false), (13, false), (14, false), (15, true)]) mixed (by decide +kernel) rfl ?_
      repeat' (first
        | refine EP.f rfl (FV.load rfl rfl rfl (fun _ h' => atDrew h' hd')) rfl rfl ?_
        | (refine EP.f rfl (FV.load rfl rfl rfl (fun _ h' => atDrew h' (by rw [Nat.zero_add]; exact ho'))) rfl rfl ?_)
        | refine EP.f rfl (FV.load rfl rfl rfl (fun _ h' => atDrew h' ho')) rfl rfl ?_
        | (refine EP.h rfl rfl (Hv.call (specTimes _ _ _) rfl) rfl (fun _ => rfl) ?_; rintro _ _ ⟨rfl, rfl⟩; refine ⟨rfl, ?_⟩)
        | (refine EP.h rfl rfl (Hv.call (specPlus _ _ _) rfl) rfl (fun _ => rfl) ?_; rintro _ _ ⟨rfl, rfl⟩; refine ⟨rfl, ?_⟩)
        | refine EP.nil ?_
        | refine EP.f rfl (FV.move rfl) rfl rfl ?_
        | refine EP.f rfl (FV.assign rfl) rfl rfl ?_
        | refine EP.f rfl (FV.addI rfl rfl (by omega)) rfl rfl ?_
        | refine EP.f rfl (FV.subI rfl rfl (by omega)) rfl rfl ?_
        | refine EP.f rfl (FV.remI rfl rfl (by decide) (by omega)) rfl rfl ?_
        | refine EP.f rfl (FV.extract rfl rfl) rfl rfl ?_
        | refine EP.f rfl (FV.len rfl rfl) rfl rfl ?_
        | refine EP.f rfl (FV.idx0 rfl rfl rfl rfl (by omega) (by omega)) rfl rfl ?_
        | refine EP.f rfl (FV.idx1 rfl rfl rfl rfl (by omega) (by omega)) rfl rfl ?_
        | refine EP.f rfl (FV.not rfl) rfl rfl ?_)
      repeat' (first
        | refine EW.seq ?_
        | refine EL.f (FV.move rfl) rfl rfl ?_
        | refine EL.f (FV.assign rfl) rfl rfl ?_
        | refine EL.nil ?_
        | refine EW.region ?_
        | refine EW.block ?_
        | refine EW.skip ?_
        | refine EW.exit ?_
        | refine EW.ret ?_
        | refine EW.condT rfl ?_
        | refine EW.condF rfl ?_
        | refine EL.f (FV.addI rfl rfl (by omega)) rfl rfl ?_
        | refine EL.f (FV.subI rfl rfl (by omega)) rfl rfl ?_
        | refine EL.f (FV.remI rfl rfl (by decide) (by omega)) rfl rfl ?_
        | refine EL.f (FV.quoI rfl rfl (by decide) (by omega)) rfl rfl ?_
        | refine EL.f (FV.extract rfl rfl) rfl rfl ?_
        | refine EL.f (FV.len rfl rfl) rfl rfl ?_
        | refine EL.f (FV.lenS rfl rfl) rfl rfl ?_
        | refine EL.f (FV.not rfl) rfl rfl ?_
        | refine EL.skip rfl rfl ?_
        | refine EL.f (FV.pickT rfl rfl) rfl rfl ?_
        | refine EL.f (FV.pickF rfl rfl) rfl rfl ?_
        | refine EL.fT (FV.lss rfl rfl) rfl (fun _ => rfl) (by omega) ?_
        | refine EL.fT (FV.leq rfl rfl) rfl (fun _ => rfl) (by omega) ?_
        | refine EL.fT (FV.gtr rfl rfl) rfl (fun _ => rfl) (by omega) ?_
        | refine EL.fT (FV.geq rfl rfl) rfl (fun _ => rfl) (by omega) ?_
        | refine EL.fT (FV.eql rfl rfl) rfl (fun _ => rfl) (by omega) ?_
        | refine EL.fT (FV.neq rfl rfl) rfl (fun _ => rfl) (by omega) ?_
        | refine EL.fF (FV.lss rfl rfl) rfl (fun _ => rfl) (by omega) ?_
        | refine EL.fF (FV.leq rfl rfl) rfl (fun _ => rfl) (by omega) ?_
        | refine EL.fF (FV.gtr rfl rfl) rfl (fun _ => rfl) (by omega) ?_
        | refine EL.fF (FV.geq rfl rfl) rfl (fun _ => rfl) (by omega) ?_
        | refine EL.fF (FV.eql rfl rfl) rfl (fun _ => rfl) (by omega) ?_
        | refine EL.fF (FV.neq rfl rfl) rfl (fun _ => rfl) (by omega) ?_
        | refine EL.f (FV.rem rfl rfl (by decide)) rfl rfl ?_
        | refine EL.f (FV.idx0 rfl rfl rfl rfl (by omega) (by omega)) rfl rfl ?_
        | refine EL.f (FV.idx1 rfl rfl rfl rfl (by omega) (by omega)) rfl rfl ?_
        | refine EL.f (FV.load1 rfl rfl rfl (by assumption)) rfl rfl ?_)
      have e : expS xs (expL xs) k (i + 1) = (expS xs (expL xs) k i + ((i : Int) + 1) * xs.getD (i + 1) 0 % 1000003 * (expL xs).getD (k - (i + 1)) 0 % 1000003) % 1000003 := by
        simp only [expS]
        omega
      exact ⟨i + 1, ⟨rfl, rfl, rfl, by rw [e]; rfl, rfl, trivial⟩, ⟨by omega, hei.trans (Ext.drew _)⟩, by omega⟩
    · obtain rfl : i = k := by omega
      have hkk : i < (filled (expL xs) i xs.length).length := by omega
      repeat' (first
        | (refine EL.h (Hv.call (specInverse0 _ _) rfl) rfl (fun _ => rfl) ?_; rintro _ _ ⟨rfl, rfl⟩)
        | (refine EL.h (Hv.call (specTimes _ _ _) rfl) rfl (fun _ => rfl) ?_; rintro _ _ ⟨rfl, rfl⟩)
        | (refine EL.h (Hv.storeAt rfl rfl rfl rfl rfl hati (ints_get hkk)) rfl (fun _ => rfl) ?_; rintro _ _ ⟨rfl, _⟩)
        | refine EW.seq ?_
        | refine EL.f (FV.move rfl) rfl rfl ?_
        | refine EL.f (FV.assign rfl) rfl rfl ?_
        | refine EL.nil ?_
        | refine EW.region ?_
        | refine EW.block ?_
        | refine EW.skip ?_
        | refine EW.exit ?_
        | refine EW.ret ?_
        | refine EW.condT rfl ?_
        | refine EW.condF rfl ?_
        | refine EL.f (FV.addI rfl rfl (by omega)) rfl rfl ?_
        | refine EL.f (FV.subI rfl rfl (by omega)) rfl rfl ?_
        | refine EL.f (FV.remI rfl rfl (by decide) (by omega)) rfl rfl ?_
        | refine EL.f (FV.quoI rfl rfl (by decide) (by omega)) rfl rfl ?_
        | refine EL.f (FV.extract rfl rfl) rfl rfl ?_
        | refine EL.f (FV.len rfl rfl) rfl rfl ?_
        | refine EL.f (FV.lenS rfl rfl) rfl rfl ?_
        | refine EL.f (FV.not rfl) rfl rfl ?_
        | refine EL.skip rfl rfl ?_
        | refine EL.f (FV.pickT rfl rfl) rfl rfl ?_
        | refine EL.f (FV.pickF rfl rfl) rfl rfl ?_
        | refine EL.fT (FV.lss rfl rfl) rfl (fun _ => rfl) (by omega) ?_
        | refine EL.fT (FV.leq rfl rfl) rfl (fun _ => rfl) (by omega) ?_
        | refine EL.fT (FV.gtr rfl rfl) rfl (fun _ => rfl) (by omega) ?_
        | refine EL.fT (FV.geq rfl rfl) rfl (fun _ => rfl) (by omega) ?_
        | refine EL.fT (FV.eql rfl rfl) rfl (fun _ => rfl) (by omega) ?_
        | refine EL.fT (FV.neq rfl rfl) rfl (fun _ => rfl) (by omega) ?_
        | refine EL.fF (FV.lss rfl rfl) rfl (fun _ => rfl) (by omega) ?_
        | refine EL.fF (FV.leq rfl rfl) rfl (fun _ => rfl) (by omega) ?_
        | refine EL.fF (FV.gtr rfl rfl) rfl (fun _ => rfl) (by omega) ?_
        | refine EL.fF (FV.geq rfl rfl) rfl (fun _ => rfl) (by omega) ?_
        | refine EL.fF (FV.eql rfl rfl) rfl (fun _ => rfl) (by omega) ?_
        | refine EL.fF (FV.neq rfl rfl) rfl (fun _ => rfl) (by omega) ?_
        | refine EL.f (FV.rem rfl rfl (by decide)) rfl rfl ?_
        | refine EL.f (FV.idx0 rfl rfl rfl rfl (by omega) (by omega)) rfl rfl ?_
        | refine EL.f (FV.idx1 rfl rfl rfl rfl (by omega) (by omega)) rfl rfl ?_
        | refine EL.f (FV.load1 rfl rfl rfl (by assumption)) rfl rfl ?_)
      refine ⟨i + 1, ⟨rfl, rfl, rfl, trivial⟩, ⟨by omega, by omega, ?_, Below.set_ hbi (by omega) _⟩, by omega⟩
      have e := filled_set (expL xs) i xs.length (by omega) (by omega)
      rw [expL_get xs i hlt h1] at e
      rw [← e]
      exact AtI.set_ hati _
  · obtain rfl : k = xs.length := by omega
    have e := filled_full (expL xs)
    rw [hl0] at e
    rw [e] at hat
    repeat' (first
      | refine EW.seq ?_
      | refine EL.f (FV.move rfl) rfl rfl ?_
      | refine EL.f (FV.assign rfl) rfl rfl ?_
      | refine EL.nil ?_
      | refine EW.region ?_
      | refine EW.block ?_
      | refine EW.skip ?_
      | refine EW.exit ?_
      | refine EW.ret ?_
      | refine EW.condT rfl ?_
      | refine EW.condF rfl ?_
      | refine EL.f (FV.addI rfl rfl (by omega)) rfl rfl ?_
      | refine EL.f (FV.subI rfl rfl (by omega)) rfl rfl ?_
      | refine EL.f (FV.remI rfl rfl (by decide) (by omega)) rfl rfl ?_
      | refine EL.f (FV.quoI rfl rfl (by decide) (by omega)) rfl rfl ?_
      | refine EL.f (FV.extract rfl rfl) rfl rfl ?_
      | refine EL.f (FV.len rfl rfl) rfl rfl ?_
      | refine EL.f (FV.lenS rfl rfl) rfl rfl ?_
      | refine EL.f (FV.not rfl) rfl rfl ?_
      | refine EL.skip rfl rfl ?_
      | refine EL.f (FV.pickT rfl rfl) rfl rfl ?_
      | refine EL.f (FV.pickF rfl rfl) rfl rfl ?_
      | refine EL.fT (FV.lss rfl rfl) rfl (fun _ => rfl) (by omega) ?_
      | refine EL.fT (FV.leq rfl rfl) rfl (fun _ => rfl) (by omega) ?_
      | refine EL.fT (FV.gtr rfl rfl) rfl (fun _ => rfl) (by omega) ?_
      | refine EL.fT (FV.geq rfl rfl) rfl (fun _ => rfl) (by omega) ?_
      | refine EL.fT (FV.eql rfl rfl) rfl (fun _ => rfl) (by omega) ?_
      | refine EL.fT (FV.neq rfl rfl) rfl (fun _ => rfl) (by omega) ?_
      | refine EL.fF (FV.lss rfl rfl) rfl (fun _ => rfl) (by omega) ?_
      | refine EL.fF (FV.leq rfl rfl) rfl (fun _ => rfl) (by omega) ?_
      | refine EL.fF (FV.gtr rfl rfl) rfl (fun _ => rfl) (by omega) ?_
      | refine EL.fF (FV.geq rfl rfl) rfl (fun _ => rfl) (by omega) ?_
      | refine EL.fF (FV.eql rfl rfl) rfl (fun _ => rfl) (by omega) ?_
      | refine EL.fF (FV.neq rfl rfl) rfl (fun _ => rfl) (by omega) ?_
      | refine EL.f (FV.rem rfl rfl (by decide)) rfl rfl ?_
      | refine EL.f (FV.idx0 rfl rfl rfl rfl (by omega) (by omega)) rfl rfl ?_
      | refine EL.f (FV.idx1 rfl rfl rfl rfl (by omega) (by omega)) rfl rfl ?_
      | refine EL.f (FV.load1 rfl rfl rfl (by assumption)) rfl rfl ?_)
    have := AtI.own (B := w.heap.size) hat (by omega)
    rw [hl0] at this
    exact ⟨_, rfl, _, rfl, this, hb⟩
theorem lawExpSeries (A0 : Option Addr) (c0 : Nat) (xs0 : List Int) (w : World) (h0 : Rd w A0 (ints xs0)) : CallsR Try.prog 14 [.slice A0 xs0.length c0] w fun v w' => v = .bool true ∧ Ext w w' := by
  refine CallsR.enter Try.func14 (by decide +kernel) rfl Try.ntmps14 rfl ?_
  by_cases hl0 : (1048576 : Int) < xs0.length
  · repeat' (first
      | refine EW.seq ?_
      | refine EL.f (FV.move rfl) rfl rfl ?_
      | refine EL.f (FV.assign rfl) rfl rfl ?_
      | refine EL.nil ?_
      | refine EW.region ?_
      | refine EW.block ?_
      | refine EW.skip ?_
      | refine EW.exit ?_
      | refine EW.ret ?_
      | refine EW.condT rfl ?_
      | refine EW.condF rfl ?_
      | refine EL.f (FV.addI rfl rfl (by omega)) rfl rfl ?_
      | refine EL.f (FV.subI rfl rfl (by omega)) rfl rfl ?_
      | refine EL.f (FV.remI rfl rfl (by decide) (by omega)) rfl rfl ?_
      | refine EL.f (FV.quoI rfl rfl (by decide) (by omega)) rfl rfl ?_
      | refine EL.f (FV.extract rfl rfl) rfl rfl ?_
      | refine EL.f (FV.len rfl rfl) rfl rfl ?_
      | refine EL.f (FV.lenS rfl rfl) rfl rfl ?_
      | refine EL.f (FV.not rfl) rfl rfl ?_
      | refine EL.skip rfl rfl ?_
      | refine EL.f (FV.pickT rfl rfl) rfl rfl ?_
      | refine EL.f (FV.pickF rfl rfl) rfl rfl ?_
      | refine EL.fT (FV.lss rfl rfl) rfl (fun _ => rfl) (by omega) ?_
      | refine EL.fT (FV.leq rfl rfl) rfl (fun _ => rfl) (by omega) ?_
      | refine EL.fT (FV.gtr rfl rfl) rfl (fun _ => rfl) (by omega) ?_
      | refine EL.fT (FV.geq rfl rfl) rfl (fun _ => rfl) (by omega) ?_
      | refine EL.fT (FV.eql rfl rfl) rfl (fun _ => rfl) (by omega) ?_
      | refine EL.fT (FV.neq rfl rfl) rfl (fun _ => rfl) (by omega) ?_
      | refine EL.fF (FV.lss rfl rfl) rfl (fun _ => rfl) (by omega) ?_
      | refine EL.fF (FV.leq rfl rfl) rfl (fun _ => rfl) (by omega) ?_
      | refine EL.fF (FV.gtr rfl rfl) rfl (fun _ => rfl) (by omega) ?_
      | refine EL.fF (FV.geq rfl rfl) rfl (fun _ => rfl) (by omega) ?_
      | refine EL.fF (FV.eql rfl rfl) rfl (fun _ => rfl) (by omega) ?_
      | refine EL.fF (FV.neq rfl rfl) rfl (fun _ => rfl) (by omega) ?_
      | refine EL.f (FV.rem rfl rfl (by decide)) rfl rfl ?_
      | refine EL.f (FV.idx0 rfl rfl rfl rfl (by omega) (by omega)) rfl rfl ?_
      | refine EL.f (FV.idx1 rfl rfl rfl rfl (by omega) (by omega)) rfl rfl ?_
      | refine EL.f (FV.load1 rfl rfl rfl (by assumption)) rfl rfl ?_)
    exact ⟨_, rfl, rfl, Ext.refl _⟩
  have hn0 : xs0.length ≤ 1048576 := by omega
  have hr := ExpR_len xs0
  repeat' (first
    | refine EW.seq ?_
    | refine EL.f (FV.move rfl) rfl rfl ?_
    | refine EL.f (FV.assign rfl) rfl rfl ?_
    | refine EL.nil ?_
    | refine EW.region ?_
    | refine EW.block ?_
    | refine EW.skip ?_
    | refine EW.exit ?_
    | refine EW.ret ?_
    | refine EW.condT rfl ?_
    | refine EW.condF rfl ?_
    | refine EL.f (FV.addI rfl rfl (by omega)) rfl rfl ?_
    | refine EL.f (FV.subI rfl rfl (by omega)) rfl rfl ?_
    | refine EL.f (FV.remI rfl rfl (by decide) (by omega)) rfl rfl ?_
    | refine EL.f (FV.quoI rfl rfl (by decide) (by omega)) rfl rfl ?_
    | refine EL.f (FV.extract rfl rfl) rfl rfl ?_
    | refine EL.f (FV.len rfl rfl) rfl rfl ?_
    | refine EL.f (FV.lenS rfl rfl) rfl rfl ?_
    | refine EL.f (FV.not rfl) rfl rfl ?_
    | refine EL.skip rfl rfl ?_
    | refine EL.f (FV.pickT rfl rfl) rfl rfl ?_
    | refine EL.f (FV.pickF rfl rfl) rfl rfl ?_
    | refine EL.fT (FV.lss rfl rfl) rfl (fun _ => rfl) (by omega) ?_
    | refine EL.fT (FV.leq rfl rfl) rfl (fun _ => rfl) (by omega) ?_
    | refine EL.fT (FV.gtr rfl rfl) rfl (fun _ => rfl) (by omega) ?_
    | refine EL.fT (FV.geq rfl rfl) rfl (fun _ => rfl) (by omega) ?_
    | refine EL.fT (FV.eql rfl rfl) rfl (fun _ => rfl) (by omega) ?_
    | refine EL.fT (FV.neq rfl rfl) rfl (fun _ => rfl) (by omega) ?_
    | refine EL.fF (FV.lss rfl rfl) rfl (fun _ => rfl) (by omega) ?_
    | refine EL.fF (FV.leq rfl rfl) rfl (fun _ => rfl) (by omega) ?_
    | refine EL.fF (FV.gtr rfl rfl) rfl (fun _ => rfl) (by omega) ?_
    | refine EL.fF (FV.geq rfl rfl) rfl (fun _ => rfl) (by omega) ?_
    | refine EL.fF (FV.eql rfl rfl) rfl (fun _ => rfl) (by omega) ?_
    | refine EL.fF (FV.neq rfl rfl) rfl (fun _ => rfl) (by omega) ?_
    | refine EL.f (FV.rem rfl rfl (by decide)) rfl rfl ?_
    | refine EL.f (FV.idx0 rfl rfl rfl rfl (by omega) (by omega)) rfl rfl ?_
    | refine EL.f (FV.idx1 rfl rfl rfl rfl (by omega) (by omega)) rfl rfl ?_
    | refine EL.f (FV.load1 rfl rfl rfl (by assumption)) rfl rfl ?_)
  refine EL.h (Hv.call (toInts A0 c0 xs0 w (h0.ext (Ext.refl w)) hn0) rfl) rfl (fun _ => rfl) ?_
  rintro _ u1 ⟨p0, rfl, pb0, pt0, e1⟩
  have W1 := (Ext.refl w).trans e1
  repeat' (first
    | refine EW.seq ?_
    | refine EL.f (FV.move rfl) rfl rfl ?_
    | refine EL.f (FV.assign rfl) rfl rfl ?_
    | refine EL.nil ?_
    | refine EW.region ?_
    | refine EW.block ?_
    | refine EW.skip ?_
    | refine EW.exit ?_
    | refine EW.ret ?_
    | refine EW.condT rfl ?_
    | refine EW.condF rfl ?_
    | refine EL.f (FV.addI rfl rfl (by omega)) rfl rfl ?_
    | refine EL.f (FV.subI rfl rfl (by omega)) rfl rfl ?_
    | refine EL.f (FV.remI rfl rfl (by decide) (by omega)) rfl rfl ?_
    | refine EL.f (FV.quoI rfl rfl (by decide) (by omega)) rfl rfl ?_
    | refine EL.f (FV.extract rfl rfl) rfl rfl ?_
    | refine EL.f (FV.len rfl rfl) rfl rfl ?_
    | refine EL.f (FV.lenS rfl rfl) rfl rfl ?_
    | refine EL.f (FV.not rfl) rfl rfl ?_
    | refine EL.skip rfl rfl ?_
    | refine EL.f (FV.pickT rfl rfl) rfl rfl ?_
    | refine EL.f (FV.pickF rfl rfl) rfl rfl ?_
    | refine EL.fT (FV.lss rfl rfl) rfl (fun _ => rfl) (by omega) ?_
    | refine EL.fT (FV.leq rfl rfl) rfl (fun _ => rfl) (by omega) ?_
    | refine EL.fT (FV.gtr rfl rfl) rfl (fun _ => rfl) (by omega) ?_
    | refine EL.fT (FV.geq rfl rfl) rfl (fun _ => rfl) (by omega) ?_
    | refine EL.fT (FV.eql rfl rfl) rfl (fun _ => rfl) (by omega) ?_
    | refine EL.fT (FV.neq rfl rfl) rfl (fun _ => rfl) (by omega) ?_
    | refine EL.fF (FV.lss rfl rfl) rfl (fun _ => rfl) (by omega) ?_
    | refine EL.fF (FV.leq rfl rfl) rfl (fun _ => rfl) (by omega) ?_
    | refine EL.fF (FV.gtr rfl rfl) rfl (fun _ => rfl) (by omega) ?_
    | refine EL.fF (FV.geq rfl rfl) rfl (fun _ => rfl) (by omega) ?_
    | refine EL.fF (FV.eql rfl rfl) rfl (fun _ => rfl) (by omega) ?_
    | refine EL.fF (FV.neq rfl rfl) rfl (fun _ => rfl) (by omega) ?_
    | refine EL.f (FV.rem rfl rfl (by decide)) rfl rfl ?_
    | refine EL.f (FV.idx0 rfl rfl rfl rfl (by omega) (by omega)) rfl rfl ?_
    | refine EL.f (FV.idx1 rfl rfl rfl rfl (by omega) (by omega)) rfl rfl ?_
    | refine EL.f (FV.load1 rfl rfl rfl (by assumption)) rfl rfl ?_)
  refine EL.h (Hv.call (specExpSeriesS (some ⟨p0, 0, none⟩) _ xs0 u1 (At.rd pt0) hn0) rfl) rfl (fun _ => rfl) ?_
  rintro _ u2 ⟨sv, rfl, sown, e2⟩
  have W2 := W1.trans e2
  obtain ⟨SA, sc, rfl, sr⟩ := sown.form
  repeat' (first
    | refine EW.seq ?_
    | refine EL.f (FV.move rfl) rfl rfl ?_
    | refine EL.f (FV.assign rfl) rfl rfl ?_
    | refine EL.nil ?_
    | refine EW.region ?_
    | refine EW.block ?_
    | refine EW.skip ?_
    | refine EW.exit ?_
    | refine EW.ret ?_
    | refine EW.condT rfl ?_
    | refine EW.condF rfl ?_
    | refine EL.f (FV.addI rfl rfl (by omega)) rfl rfl ?_
    | refine EL.f (FV.subI rfl rfl (by omega)) rfl rfl ?_
    | refine EL.f (FV.remI rfl rfl (by decide) (by omega)) rfl rfl ?_
    | refine EL.f (FV.quoI rfl rfl (by decide) (by omega)) rfl rfl ?_
    | refine EL.f (FV.extract rfl rfl) rfl rfl ?_
    | refine EL.f (FV.len rfl rfl) rfl rfl ?_
    | refine EL.f (FV.lenS rfl rfl) rfl rfl ?_
    | refine EL.f (FV.not rfl) rfl rfl ?_
    | refine EL.skip rfl rfl ?_
    | refine EL.f (FV.pickT rfl rfl) rfl rfl ?_
    | refine EL.f (FV.pickF rfl rfl) rfl rfl ?_
    | refine EL.fT (FV.lss rfl rfl) rfl (fun _ => rfl) (by omega) ?_
    | refine EL.fT (FV.leq rfl rfl) rfl (fun _ => rfl) (by omega) ?_
    | refine EL.fT (FV.gtr rfl rfl) rfl (fun _ => rfl) (by omega) ?_
    | refine EL.fT (FV.geq rfl rfl) rfl (fun _ => rfl) (by omega) ?_
    | refine EL.fT (FV.eql rfl rfl) rfl (fun _ => rfl) (by omega) ?_
    | refine EL.fT (FV.neq rfl rfl) rfl (fun _ => rfl) (by omega) ?_
    | refine EL.fF (FV.lss rfl rfl) rfl (fun _ => rfl) (by omega) ?_
    | refine EL.fF (FV.leq rfl rfl) rfl (fun _ => rfl) (by omega) ?_
    | refine EL.fF (FV.gtr rfl rfl) rfl (fun _ => rfl) (by omega) ?_
    | refine EL.fF (FV.geq rfl rfl) rfl (fun _ => rfl) (by omega) ?_
    | refine EL.fF (FV.eql rfl rfl) rfl (fun _ => rfl) (by omega) ?_
    | refine EL.fF (FV.neq rfl rfl) rfl (fun _ => rfl) (by omega) ?_
    | refine EL.f (FV.rem rfl rfl (by decide)) rfl rfl ?_
    | refine EL.f (FV.idx0 rfl rfl rfl rfl (by omega) (by omega)) rfl rfl ?_
    | refine EL.f (FV.idx1 rfl rfl rfl rfl (by omega) (by omega)) rfl rfl ?_
    | refine EL.f (FV.load1 rfl rfl rfl (by assumption)) rfl rfl ?_)
  refine EL.h (Hv.call (toInts A0 c0 xs0 u2 (h0.ext W2) hn0) rfl) rfl (fun _ => rfl) ?_
  rintro _ u3 ⟨x0, rfl, xb0, xt0, e3⟩
  have W3 := W2.trans e3
  have S3 := (Ext.refl u2).trans e3
  have xl0 := At.lt xt0
  repeat' (first
    | refine EW.seq ?_
    | refine EL.f (FV.move rfl) rfl rfl ?_
    | refine EL.f (FV.assign rfl) rfl rfl ?_
    | refine EL.nil ?_
    | refine EW.region ?_
    | refine EW.block ?_
    | refine EW.skip ?_
    | refine EW.exit ?_
    | refine EW.ret ?_
    | refine EW.condT rfl ?_
    | refine EW.condF rfl ?_
    | refine EL.f (FV.addI rfl rfl (by omega)) rfl rfl ?_
    | refine EL.f (FV.subI rfl rfl (by omega)) rfl rfl ?_
    | refine EL.f (FV.remI rfl rfl (by decide) (by omega)) rfl rfl ?_
    | refine EL.f (FV.quoI rfl rfl (by decide) (by omega)) rfl rfl ?_
    | refine EL.f (FV.extract rfl rfl) rfl rfl ?_
    | refine EL.f (FV.len rfl rfl) rfl rfl ?_
    | refine EL.f (FV.lenS rfl rfl) rfl rfl ?_
    | refine EL.f (FV.not rfl) rfl rfl ?_
    | refine EL.skip rfl rfl ?_
    | refine EL.f (FV.pickT rfl rfl) rfl rfl ?_
    | refine EL.f (FV.pickF rfl rfl) rfl rfl ?_
    | refine EL.fT (FV.lss rfl rfl) rfl (fun _ => rfl) (by omega) ?_
    | refine EL.fT (FV.leq rfl rfl) rfl (fun _ => rfl) (by omega) ?_
    | refine EL.fT (FV.gtr rfl rfl) rfl (fun _ => rfl) (by omega) ?_
    | refine EL.fT (FV.geq rfl rfl) rfl (fun _ => rfl) (by omega) ?_
    | refine EL.fT (FV.eql rfl rfl) rfl (fun _ => rfl) (by omega) ?_
    | refine EL.fT (FV.neq rfl rfl) rfl (fun _ => rfl) (by omega) ?_
    | refine EL.fF (FV.lss rfl rfl) rfl (fun _ => rfl) (by omega) ?_
    | refine EL.fF (FV.leq rfl rfl) rfl (fun _ => rfl) (by omega) ?_
    | refine EL.fF (FV.gtr rfl rfl) rfl (fun _ => rfl) (by omega) ?_
    | refine EL.fF (FV.geq rfl rfl) rfl (fun _ => rfl) (by omega) ?_
    | refine EL.fF (FV.eql rfl rfl) rfl (fun _ => rfl) (by omega) ?_
    | refine EL.fF (FV.neq rfl rfl) rfl (fun _ => rfl) (by omega) ?_
    | refine EL.f (FV.rem rfl rfl (by decide)) rfl rfl ?_
    | refine EL.f (FV.idx0 rfl rfl rfl rfl (by omega) (by omega)) rfl rfl ?_
    | refine EL.f (FV.idx1 rfl rfl rfl rfl (by omega) (by omega)) rfl rfl ?_
    | refine EL.f (FV.load1 rfl rfl rfl (by assumption)) rfl rfl ?_)
  refine EL.h (Hv.call (implExpSeriesS (some ⟨x0, 0, none⟩) _ xs0 u3 (At.rd xt0) hn0) rfl) rfl (fun _ => rfl) ?_
  rintro _ u4 ⟨gv, rfl, gown, e4⟩
  have W4 := W3.trans e4
  have S4 := S3.trans e4
  replace xt0 := At.ext xt0 e4
  obtain ⟨GA, gc, rfl, _⟩ := gown.form
  have xg0 : x0 < u3.heap.size := by have := xl0;  omega
  have xs_0 : u2.heap.size ≤ x0 := by have := xb0;  omega
  have ug : u2.heap.size ≤ u3.heap.size := by have := e3.size; omega
  repeat' (first
    | refine EW.seq ?_
    | refine EL.f (FV.move rfl) rfl rfl ?_
    | refine EL.f (FV.assign rfl) rfl rfl ?_
    | refine EL.nil ?_
    | refine EW.region ?_
    | refine EW.block ?_
    | refine EW.skip ?_
    | refine EW.exit ?_
    | refine EW.ret ?_
    | refine EW.condT rfl ?_
    | refine EW.condF rfl ?_
    | refine EL.f (FV.addI rfl rfl (by omega)) rfl rfl ?_
    | refine EL.f (FV.subI rfl rfl (by omega)) rfl rfl ?_
    | refine EL.f (FV.remI rfl rfl (by decide) (by omega)) rfl rfl ?_
    | refine EL.f (FV.quoI rfl rfl (by decide) (by omega)) rfl rfl ?_
    | refine EL.f (FV.extract rfl rfl) rfl rfl ?_
    | refine EL.f (FV.len rfl rfl) rfl rfl ?_
    | refine EL.f (FV.lenS rfl rfl) rfl rfl ?_
    | refine EL.f (FV.not rfl) rfl rfl ?_
    | refine EL.skip rfl rfl ?_
    | refine EL.f (FV.pickT rfl rfl) rfl rfl ?_
    | refine EL.f (FV.pickF rfl rfl) rfl rfl ?_
    | refine EL.fT (FV.lss rfl rfl) rfl (fun _ => rfl) (by omega) ?_
    | refine EL.fT (FV.leq rfl rfl) rfl (fun _ => rfl) (by omega) ?_
    | refine EL.fT (FV.gtr rfl rfl) rfl (fun _ => rfl) (by omega) ?_
    | refine EL.fT (FV.geq rfl rfl) rfl (fun _ => rfl) (by omega) ?_
    | refine EL.fT (FV.eql rfl rfl) rfl (fun _ => rfl) (by omega) ?_
    | refine EL.fT (FV.neq rfl rfl) rfl (fun _ => rfl) (by omega) ?_
    | refine EL.fF (FV.lss rfl rfl) rfl (fun _ => rfl) (by omega) ?_
    | refine EL.fF (FV.leq rfl rfl) rfl (fun _ => rfl) (by omega) ?_
    | refine EL.fF (FV.gtr rfl rfl) rfl (fun _ => rfl) (by omega) ?_
    | refine EL.fF (FV.geq rfl rfl) rfl (fun _ => rfl) (by omega) ?_
    | refine EL.fF (FV.eql rfl rfl) rfl (fun _ => rfl) (by omega) ?_
    | refine EL.fF (FV.neq rfl rfl) rfl (fun _ => rfl) (by omega) ?_
    | refine EL.f (FV.rem rfl rfl (by decide)) rfl rfl ?_
    | refine EL.f (FV.idx0 rfl rfl rfl rfl (by omega) (by omega)) rfl rfl ?_
    | refine EL.f (FV.idx1 rfl rfl rfl rfl (by omega) (by omega)) rfl rfl ?_
    | refine EL.f (FV.load1 rfl rfl rfl (by assumption)) rfl rfl ?_)
  refine EL.h (Hv.call (eqSame GA SA gc sc _ u4 (OwnI.rd gown) (sr.ext S4) hr) rfl) rfl (fun _ => rfl) ?_
  rintro _ u5 ⟨rfl, e5⟩
  have W5 := W4.trans e5
  have S5 := S4.trans e5
  replace xt0 := At.ext xt0 e5
  replace gown := OwnI.ext gown e5
  repeat' (first
    | refine EW.seq ?_
    | refine EL.f (FV.move rfl) rfl rfl ?_
    | refine EL.f (FV.assign rfl) rfl rfl ?_
    | refine EL.nil ?_
    | refine EW.region ?_
    | refine EW.block ?_
    | refine EW.skip ?_
    | refine EW.exit ?_
    | refine EW.ret ?_
    | refine EW.condT rfl ?_
    | refine EW.condF rfl ?_
    | refine EL.f (FV.addI rfl rfl (by omega)) rfl rfl ?_
    | refine EL.f (FV.subI rfl rfl (by omega)) rfl rfl ?_
    | refine EL.f (FV.remI rfl rfl (by decide) (by omega)) rfl rfl ?_
    | refine EL.f (FV.quoI rfl rfl (by decide) (by omega)) rfl rfl ?_
    | refine EL.f (FV.extract rfl rfl) rfl rfl ?_
    | refine EL.f (FV.len rfl rfl) rfl rfl ?_
    | refine EL.f (FV.lenS rfl rfl) rfl rfl ?_
    | refine EL.f (FV.not rfl) rfl rfl ?_
    | refine EL.skip rfl rfl ?_
    | refine EL.f (FV.pickT rfl rfl) rfl rfl ?_
    | refine EL.f (FV.pickF rfl rfl) rfl rfl ?_
    | refine EL.fT (FV.lss rfl rfl) rfl (fun _ => rfl) (by omega) ?_
    | refine EL.fT (FV.leq rfl rfl) rfl (fun _ => rfl) (by omega) ?_
    | refine EL.fT (FV.gtr rfl rfl) rfl (fun _ => rfl) (by omega) ?_
    | refine EL.fT (FV.geq rfl rfl) rfl (fun _ => rfl) (by omega) ?_
    | refine EL.fT (FV.eql rfl rfl) rfl (fun _ => rfl) (by omega) ?_
    | refine EL.fT (FV.neq rfl rfl) rfl (fun _ => rfl) (by omega) ?_
    | refine EL.fF (FV.lss rfl rfl) rfl (fun _ => rfl) (by omega) ?_
    | refine EL.fF (FV.leq rfl rfl) rfl (fun _ => rfl) (by omega) ?_
    | refine EL.fF (FV.gtr rfl rfl) rfl (fun _ => rfl) (by omega) ?_
    | refine EL.fF (FV.geq rfl rfl) rfl (fun _ => rfl) (by omega) ?_
    | refine EL.fF (FV.eql rfl rfl) rfl (fun _ => rfl) (by omega) ?_
    | refine EL.fF (FV.neq rfl rfl) rfl (fun _ => rfl) (by omega) ?_
    | refine EL.f (FV.rem rfl rfl (by decide)) rfl rfl ?_
    | refine EL.f (FV.idx0 rfl rfl rfl rfl (by omega) (by omega)) rfl rfl ?_
    | refine EL.f (FV.idx1 rfl rfl rfl rfl (by omega) (by omega)) rfl rfl ?_
    | refine EL.f (FV.load1 rfl rfl rfl (by assumption)) rfl rfl ?_)
  refine EL.h (Hv.call (toInts A0 c0 xs0 u5 (h0.ext W5) hn0) rfl) rfl (fun _ => rfl) ?_
  rintro _ u6 ⟨y0, rfl, yb0, yt0, e6⟩
  have W6 := W5.trans e6
  have S6 := S5.trans e6
  replace xt0 := At.ext xt0 e6
  replace gown := OwnI.ext gown e6
  repeat' (first
    | refine EW.seq ?_
    | refine EL.f (FV.move rfl) rfl rfl ?_
    | refine EL.f (FV.assign rfl) rfl rfl ?_
    | refine EL.nil ?_
    | refine EW.region ?_
    | refine EW.block ?_
    | refine EW.skip ?_
    | refine EW.exit ?_
    | refine EW.ret ?_
    | refine EW.condT rfl ?_
    | refine EW.condF rfl ?_
    | refine EL.f (FV.addI rfl rfl (by omega)) rfl rfl ?_
    | refine EL.f (FV.subI rfl rfl (by omega)) rfl rfl ?_
    | refine EL.f (FV.remI rfl rfl (by decide) (by omega)) rfl rfl ?_
    | refine EL.f (FV.quoI rfl rfl (by decide) (by omega)) rfl rfl ?_
    | refine EL.f (FV.extract rfl rfl) rfl rfl ?_
    | refine EL.f (FV.len rfl rfl) rfl rfl ?_
    | refine EL.f (FV.lenS rfl rfl) rfl rfl ?_
    | refine EL.f (FV.not rfl) rfl rfl ?_
    | refine EL.skip rfl rfl ?_
    | refine EL.f (FV.pickT rfl rfl) rfl rfl ?_
    | refine EL.f (FV.pickF rfl rfl) rfl rfl ?_
    | refine EL.fT (FV.lss rfl rfl) rfl (fun _ => rfl) (by omega) ?_
    | refine EL.fT (FV.leq rfl rfl) rfl (fun _ => rfl) (by omega) ?_
    | refine EL.fT (FV.gtr rfl rfl) rfl (fun _ => rfl) (by omega) ?_
    | refine EL.fT (FV.geq rfl rfl) rfl (fun _ => rfl) (by omega) ?_
    | refine EL.fT (FV.eql rfl rfl) rfl (fun _ => rfl) (by omega) ?_
    | refine EL.fT (FV.neq rfl rfl) rfl (fun _ => rfl) (by omega) ?_
    | refine EL.fF (FV.lss rfl rfl) rfl (fun _ => rfl) (by omega) ?_
    | refine EL.fF (FV.leq rfl rfl) rfl (fun _ => rfl) (by omega) ?_
    | refine EL.fF (FV.gtr rfl rfl) rfl (fun _ => rfl) (by omega) ?_
    | refine EL.fF (FV.geq rfl rfl) rfl (fun _ => rfl) (by omega) ?_
    | refine EL.fF (FV.eql rfl rfl) rfl (fun _ => rfl) (by omega) ?_
    | refine EL.fF (FV.neq rfl rfl) rfl (fun _ => rfl) (by omega) ?_
    | refine EL.f (FV.rem rfl rfl (by decide)) rfl rfl ?_
    | refine EL.f (FV.idx0 rfl rfl rfl rfl (by omega) (by omega)) rfl rfl ?_
    | refine EL.f (FV.idx1 rfl rfl rfl rfl (by omega) (by omega)) rfl rfl ?_
    | refine EL.f (FV.load1 rfl rfl rfl (by assumption)) rfl rfl ?_)
  refine EL.h (Hv.call (eqSame (some ⟨x0, 0, none⟩) (some ⟨y0, 0, none⟩) _ _ xs0 u6 (At.rd xt0) (At.rd yt0) hn0) rfl) rfl (fun _ => rfl) ?_
  rintro _ u7 ⟨rfl, e7⟩
  have W7 := W6.trans e7
  have S7 := S6.trans e7
  replace xt0 := At.ext xt0 e7
  replace gown := OwnI.ext gown e7
  repeat' (first
    | refine EW.seq ?_
    | refine EL.f (FV.move rfl) rfl rfl ?_
    | refine EL.f (FV.assign rfl) rfl rfl ?_
    | refine EL.nil ?_
    | refine EW.region ?_
    | refine EW.block ?_
    | refine EW.skip ?_
    | refine EW.exit ?_
    | refine EW.ret ?_
    | refine EW.condT rfl ?_
    | refine EW.condF rfl ?_
    | refine EL.f (FV.addI rfl rfl (by omega)) rfl rfl ?_
    | refine EL.f (FV.subI rfl rfl (by omega)) rfl rfl ?_
    | refine EL.f (FV.remI rfl rfl (by decide) (by omega)) rfl rfl ?_
    | refine EL.f (FV.quoI rfl rfl (by decide) (by omega)) rfl rfl ?_
    | refine EL.f (FV.extract rfl rfl) rfl rfl ?_
    | refine EL.f (FV.len rfl rfl) rfl rfl ?_
    | refine EL.f (FV.lenS rfl rfl) rfl rfl ?_
    | refine EL.f (FV.not rfl) rfl rfl ?_
    | refine EL.skip rfl rfl ?_
    | refine EL.f (FV.pickT rfl rfl) rfl rfl ?_
    | refine EL.f (FV.pickF rfl rfl) rfl rfl ?_
    | refine EL.fT (FV.lss rfl rfl) rfl (fun _ => rfl) (by omega) ?_
    | refine EL.fT (FV.leq rfl rfl) rfl (fun _ => rfl) (by omega) ?_
    | refine EL.fT (FV.gtr rfl rfl) rfl (fun _ => rfl) (by omega) ?_
    | refine EL.fT (FV.geq rfl rfl) rfl (fun _ => rfl) (by omega) ?_
    | refine EL.fT (FV.eql rfl rfl) rfl (fun _ => rfl) (by omega) ?_
    | refine EL.fT (FV.neq rfl rfl) rfl (fun _ => rfl) (by omega) ?_
    | refine EL.fF (FV.lss rfl rfl) rfl (fun _ => rfl) (by omega) ?_
    | refine EL.fF (FV.leq rfl rfl) rfl (fun _ => rfl) (by omega) ?_
    | refine EL.fF (FV.gtr rfl rfl) rfl (fun _ => rfl) (by omega) ?_
    | refine EL.fF (FV.geq rfl rfl) rfl (fun _ => rfl) (by omega) ?_
    | refine EL.fF (FV.eql rfl rfl) rfl (fun _ => rfl) (by omega) ?_
    | refine EL.fF (FV.neq rfl rfl) rfl (fun _ => rfl) (by omega) ?_
    | refine EL.f (FV.rem rfl rfl (by decide)) rfl rfl ?_
    | refine EL.f (FV.idx0 rfl rfl rfl rfl (by omega) (by omega)) rfl rfl ?_
    | refine EL.f (FV.idx1 rfl rfl rfl rfl (by omega) (by omega)) rfl rfl ?_
    | refine EL.f (FV.load1 rfl rfl rfl (by assumption)) rfl rfl ?_)
  refine EL.h (Hv.call (markInts _ x0 xs0 (1) u7 (AtI.own (B := x0) xt0 (Nat.le_refl _)) hn0 (by omega)) rfl) rfl (fun _ => rfl) ?_
  rintro _ u8 ⟨rfl, _, gr0⟩
  have W8 := Ext.mark (g := x0) W7 gr0 (by have := xs_0; have := W2.size; omega)
  have S8 := Ext.mark (g := x0) S7 gr0 xs_0
  replace gown := OwnI.keep (g := x0) gown gr0 xg0
  repeat' (first
    | refine EW.seq ?_
    | refine EL.f (FV.move rfl) rfl rfl ?_
    | refine EL.f (FV.assign rfl) rfl rfl ?_
    | refine EL.nil ?_
    | refine EW.region ?_
    | refine EW.block ?_
    | refine EW.skip ?_
    | refine EW.exit ?_
    | refine EW.ret ?_
    | refine EW.condT rfl ?_
    | refine EW.condF rfl ?_
    | refine EL.f (FV.addI rfl rfl (by omega)) rfl rfl ?_
    | refine EL.f (FV.subI rfl rfl (by omega)) rfl rfl ?_
    | refine EL.f (FV.remI rfl rfl (by decide) (by omega)) rfl rfl ?_
    | refine EL.f (FV.quoI rfl rfl (by decide) (by omega)) rfl rfl ?_
    | refine EL.f (FV.extract rfl rfl) rfl rfl ?_
    | refine EL.f (FV.len rfl rfl) rfl rfl ?_
    | refine EL.f (FV.lenS rfl rfl) rfl rfl ?_
    | refine EL.f (FV.not rfl) rfl rfl ?_
    | refine EL.skip rfl rfl ?_
    | refine EL.f (FV.pickT rfl rfl) rfl rfl ?_
    | refine EL.f (FV.pickF rfl rfl) rfl rfl ?_
    | refine EL.fT (FV.lss rfl rfl) rfl (fun _ => rfl) (by omega) ?_
    | refine EL.fT (FV.leq rfl rfl) rfl (fun _ => rfl) (by omega) ?_
    | refine EL.fT (FV.gtr rfl rfl) rfl (fun _ => rfl) (by omega) ?_
    | refine EL.fT (FV.geq rfl rfl) rfl (fun _ => rfl) (by omega) ?_
    | refine EL.fT (FV.eql rfl rfl) rfl (fun _ => rfl) (by omega) ?_
    | refine EL.fT (FV.neq rfl rfl) rfl (fun _ => rfl) (by omega) ?_
    | refine EL.fF (FV.lss rfl rfl) rfl (fun _ => rfl) (by omega) ?_
    | refine EL.fF (FV.leq rfl rfl) rfl (fun _ => rfl) (by omega) ?_
    | refine EL.fF (FV.gtr rfl rfl) rfl (fun _ => rfl) (by omega) ?_
    | refine EL.fF (FV.geq rfl rfl) rfl (fun _ => rfl) (by omega) ?_
    | refine EL.fF (FV.eql rfl rfl) rfl (fun _ => rfl) (by omega) ?_
    | refine EL.fF (FV.neq rfl rfl) rfl (fun _ => rfl) (by omega) ?_
    | refine EL.f (FV.rem rfl rfl (by decide)) rfl rfl ?_
    | refine EL.f (FV.idx0 rfl rfl rfl rfl (by omega) (by omega)) rfl rfl ?_
    | refine EL.f (FV.idx1 rfl rfl rfl rfl (by omega) (by omega)) rfl rfl ?_
    | refine EL.f (FV.load1 rfl rfl rfl (by assumption)) rfl rfl ?_)
  refine EL.h (Hv.call (eqSame GA SA gc sc _ u8 (OwnI.rd gown) (sr.ext S8) hr) rfl) rfl (fun _ => rfl) ?_
  rintro _ u9 ⟨rfl, e9⟩
  have W9 := W8.trans e9
  have S9 := S8.trans e9
  replace gown := OwnI.ext gown e9
  repeat' (first
    | refine EW.seq ?_
    | refine EL.f (FV.move rfl) rfl rfl ?_
    | refine EL.f (FV.assign rfl) rfl rfl ?_
    | refine EL.nil ?_
    | refine EW.region ?_
    | refine EW.block ?_
    | refine EW.skip ?_
    | refine EW.exit ?_
    | refine EW.ret ?_
    | refine EW.condT rfl ?_
    | refine EW.condF rfl ?_
    | refine EL.f (FV.addI rfl rfl (by omega)) rfl rfl ?_
    | refine EL.f (FV.subI rfl rfl (by omega)) rfl rfl ?_
    | refine EL.f (FV.remI rfl rfl (by decide) (by omega)) rfl rfl ?_
    | refine EL.f (FV.quoI rfl rfl (by decide) (by omega)) rfl rfl ?_
    | refine EL.f (FV.extract rfl rfl) rfl rfl ?_
    | refine EL.f (FV.len rfl rfl) rfl rfl ?_
    | refine EL.f (FV.lenS rfl rfl) rfl rfl ?_
    | refine EL.f (FV.not rfl) rfl rfl ?_
    | refine EL.skip rfl rfl ?_
    | refine EL.f (FV.pickT rfl rfl) rfl rfl ?_
    | refine EL.f (FV.pickF rfl rfl) rfl rfl ?_
    | refine EL.fT (FV.lss rfl rfl) rfl (fun _ => rfl) (by omega) ?_
    | refine EL.fT (FV.leq rfl rfl) rfl (fun _ => rfl) (by omega) ?_
    | refine EL.fT (FV.gtr rfl rfl) rfl (fun _ => rfl) (by omega) ?_
    | refine EL.fT (FV.geq rfl rfl) rfl (fun _ => rfl) (by omega) ?_
    | refine EL.fT (FV.eql rfl rfl) rfl (fun _ => rfl) (by omega) ?_
    | refine EL.fT (FV.neq rfl rfl) rfl (fun _ => rfl) (by omega) ?_
    | refine EL.fF (FV.lss rfl rfl) rfl (fun _ => rfl) (by omega) ?_
    | refine EL.fF (FV.leq rfl rfl) rfl (fun _ => rfl) (by omega) ?_
    | refine EL.fF (FV.gtr rfl rfl) rfl (fun _ => rfl) (by omega) ?_
    | refine EL.fF (FV.geq rfl rfl) rfl (fun _ => rfl) (by omega) ?_
    | refine EL.fF (FV.eql rfl rfl) rfl (fun _ => rfl) (by omega) ?_
    | refine EL.fF (FV.neq rfl rfl) rfl (fun _ => rfl) (by omega) ?_
    | refine EL.f (FV.rem rfl rfl (by decide)) rfl rfl ?_
    | refine EL.f (FV.idx0 rfl rfl rfl rfl (by omega) (by omega)) rfl rfl ?_
    | refine EL.f (FV.idx1 rfl rfl rfl rfl (by omega) (by omega)) rfl rfl ?_
    | refine EL.f (FV.load1 rfl rfl rfl (by assumption)) rfl rfl ?_)
  refine EL.h (Hv.call (markInts _ u3.heap.size _ 1 u9 gown hr (by omega)) rfl) rfl (fun _ => rfl) ?_
  rintro _ u10 ⟨rfl, gmk, grg⟩
  have W10 := Ext.markO W9 gown grg (by have := ug; have := W2.size; omega)
  have S10 := Ext.markO S9 gown grg ug
  replace gown := gmk
  repeat' (first
    | refine EW.seq ?_
    | refine EL.f (FV.move rfl) rfl rfl ?_
    | refine EL.f (FV.assign rfl) rfl rfl ?_
    | refine EL.nil ?_
    | refine EW.region ?_
    | refine EW.block ?_
    | refine EW.skip ?_
    | refine EW.exit ?_
    | refine EW.ret ?_
    | refine EW.condT rfl ?_
    | refine EW.condF rfl ?_
    | refine EL.f (FV.addI rfl rfl (by omega)) rfl rfl ?_
    | refine EL.f (FV.subI rfl rfl (by omega)) rfl rfl ?_
    | refine EL.f (FV.remI rfl rfl (by decide) (by omega)) rfl rfl ?_
    | refine EL.f (FV.quoI rfl rfl (by decide) (by omega)) rfl rfl ?_
    | refine EL.f (FV.extract rfl rfl) rfl rfl ?_
    | refine EL.f (FV.len rfl rfl) rfl rfl ?_
    | refine EL.f (FV.lenS rfl rfl) rfl rfl ?_
    | refine EL.f (FV.not rfl) rfl rfl ?_
    | refine EL.skip rfl rfl ?_
    | refine EL.f (FV.pickT rfl rfl) rfl rfl ?_
    | refine EL.f (FV.pickF rfl rfl) rfl rfl ?_
    | refine EL.fT (FV.lss rfl rfl) rfl (fun _ => rfl) (by omega) ?_
    | refine EL.fT (FV.leq rfl rfl) rfl (fun _ => rfl) (by omega) ?_
    | refine EL.fT (FV.gtr rfl rfl) rfl (fun _ => rfl) (by omega) ?_
    | refine EL.fT (FV.geq rfl rfl) rfl (fun _ => rfl) (by omega) ?_
    | refine EL.fT (FV.eql rfl rfl) rfl (fun _ => rfl) (by omega) ?_
    | refine EL.fT (FV.neq rfl rfl) rfl (fun _ => rfl) (by omega) ?_
    | refine EL.fF (FV.lss rfl rfl) rfl (fun _ => rfl) (by omega) ?_
    | refine EL.fF (FV.leq rfl rfl) rfl (fun _ => rfl) (by omega) ?_
    | refine EL.fF (FV.gtr rfl rfl) rfl (fun _ => rfl) (by omega) ?_
    | refine EL.fF (FV.geq rfl rfl) rfl (fun _ => rfl) (by omega) ?_
    | refine EL.fF (FV.eql rfl rfl) rfl (fun _ => rfl) (by omega) ?_
    | refine EL.fF (FV.neq rfl rfl) rfl (fun _ => rfl) (by omega) ?_
    | refine EL.f (FV.rem rfl rfl (by decide)) rfl rfl ?_
    | refine EL.f (FV.idx0 rfl rfl rfl rfl (by omega) (by omega)) rfl rfl ?_
    | refine EL.f (FV.idx1 rfl rfl rfl rfl (by omega) (by omega)) rfl rfl ?_
    | refine EL.f (FV.load1 rfl rfl rfl (by assumption)) rfl rfl ?_)
  refine EL.h (Hv.call (heldInts GA gc _ 1 u10 (OwnI.rd gown) hr (by omega)) rfl) rfl (fun _ => rfl) ?_
  rintro _ _ ⟨rfl, rfl⟩
  repeat' (first
    | refine EW.seq ?_
    | refine EL.f (FV.move rfl) rfl rfl ?_
    | refine EL.f (FV.assign rfl) rfl rfl ?_
    | refine EL.nil ?_
    | refine EW.region ?_
    | refine EW.block ?_
    | refine EW.skip ?_
    | refine EW.exit ?_
    | refine EW.ret ?_
    | refine EW.condT rfl ?_
    | refine EW.condF rfl ?_
    | refine EL.f (FV.addI rfl rfl (by omega)) rfl rfl ?_
    | refine EL.f (FV.subI rfl rfl (by omega)) rfl rfl ?_
    | refine EL.f (FV.remI rfl rfl (by decide) (by omega)) rfl rfl ?_
    | refine EL.f (FV.quoI rfl rfl (by decide) (by omega)) rfl rfl ?_
    | refine EL.f (FV.extract rfl rfl) rfl rfl ?_
    | refine EL.f (FV.len rfl rfl) rfl rfl ?_
    | refine EL.f (FV.lenS rfl rfl) rfl rfl ?_
    | refine EL.f (FV.not rfl) rfl rfl ?_
    | refine EL.skip rfl rfl ?_
    | refine EL.f (FV.pickT rfl rfl) rfl rfl ?_
    | refine EL.f (FV.pickF rfl rfl) rfl rfl ?_
    | refine EL.fT (FV.lss rfl rfl) rfl (fun _ => rfl) (by omega) ?_
    | refine EL.fT (FV.leq rfl rfl) rfl (fun _ => rfl) (by omega) ?_
    | refine EL.fT (FV.gtr rfl rfl) rfl (fun _ => rfl) (by omega) ?_
    | refine EL.fT (FV.geq rfl rfl) rfl (fun _ => rfl) (by omega) ?_
    | refine EL.fT (FV.eql rfl rfl) rfl (fun _ => rfl) (by omega) ?_
    | refine EL.fT (FV.neq rfl rfl) rfl (fun _ => rfl) (by omega) ?_
    | refine EL.fF (FV.lss rfl rfl) rfl (fun _ => rfl) (by omega) ?_
    | refine EL.fF (FV.leq rfl rfl) rfl (fun _ => rfl) (by omega) ?_
    | refine EL.fF (FV.gtr rfl rfl) rfl (fun _ => rfl) (by omega) ?_
    | refine EL.fF (FV.geq rfl rfl) rfl (fun _ => rfl) (by omega) ?_
    | refine EL.fF (FV.eql rfl rfl) rfl (fun _ => rfl) (by omega) ?_
    | refine EL.fF (FV.neq rfl rfl) rfl (fun _ => rfl) (by omega) ?_
    | refine EL.f (FV.rem rfl rfl (by decide)) rfl rfl ?_
    | refine EL.f (FV.idx0 rfl rfl rfl rfl (by omega) (by omega)) rfl rfl ?_
    | refine EL.f (FV.idx1 rfl rfl rfl rfl (by omega) (by omega)) rfl rfl ?_
    | refine EL.f (FV.load1 rfl rfl rfl (by assumption)) rfl rfl ?_)
  refine EL.h (Hv.call (toInts A0 c0 xs0 u10 (h0.ext W10) hn0) rfl) rfl (fun _ => rfl) ?_
  rintro _ u11 ⟨z0, rfl, zb0, zt0, e11⟩
  have W11 := W10.trans e11
  have S11 := S10.trans e11
  replace gown := OwnI.ext gown e11
  repeat' (first
    | refine EW.seq ?_
    | refine EL.f (FV.move rfl) rfl rfl ?_
    | refine EL.f (FV.assign rfl) rfl rfl ?_
    | refine EL.nil ?_
    | refine EW.region ?_
    | refine EW.block ?_
    | refine EW.skip ?_
    | refine EW.exit ?_
    | refine EW.ret ?_
    | refine EW.condT rfl ?_
    | refine EW.condF rfl ?_
    | refine EL.f (FV.addI rfl rfl (by omega)) rfl rfl ?_
    | refine EL.f (FV.subI rfl rfl (by omega)) rfl rfl ?_
    | refine EL.f (FV.remI rfl rfl (by decide) (by omega)) rfl rfl ?_
    | refine EL.f (FV.quoI rfl rfl (by decide) (by omega)) rfl rfl ?_
    | refine EL.f (FV.extract rfl rfl) rfl rfl ?_
    | refine EL.f (FV.len rfl rfl) rfl rfl ?_
    | refine EL.f (FV.lenS rfl rfl) rfl rfl ?_
    | refine EL.f (FV.not rfl) rfl rfl ?_
    | refine EL.skip rfl rfl ?_
    | refine EL.f (FV.pickT rfl rfl) rfl rfl ?_
    | refine EL.f (FV.pickF rfl rfl) rfl rfl ?_
    | refine EL.fT (FV.lss rfl rfl) rfl (fun _ => rfl) (by omega) ?_
    | refine EL.fT (FV.leq rfl rfl) rfl (fun _ => rfl) (by omega) ?_
    | refine EL.fT (FV.gtr rfl rfl) rfl (fun _ => rfl) (by omega) ?_
    | refine EL.fT (FV.geq rfl rfl) rfl (fun _ => rfl) (by omega) ?_
    | refine EL.fT (FV.eql rfl rfl) rfl (fun _ => rfl) (by omega) ?_
    | refine EL.fT (FV.neq rfl rfl) rfl (fun _ => rfl) (by omega) ?_
    | refine EL.fF (FV.lss rfl rfl) rfl (fun _ => rfl) (by omega) ?_
    | refine EL.fF (FV.leq rfl rfl) rfl (fun _ => rfl) (by omega) ?_
    | refine EL.fF (FV.gtr rfl rfl) rfl (fun _ => rfl) (by omega) ?_
    | refine EL.fF (FV.geq rfl rfl) rfl (fun _ => rfl) (by omega) ?_
    | refine EL.fF (FV.eql rfl rfl) rfl (fun _ => rfl) (by omega) ?_
    | refine EL.fF (FV.neq rfl rfl) rfl (fun _ => rfl) (by omega) ?_
    | refine EL.f (FV.rem rfl rfl (by decide)) rfl rfl ?_
    | refine EL.f (FV.idx0 rfl rfl rfl rfl (by omega) (by omega)) rfl rfl ?_
    | refine EL.f (FV.idx1 rfl rfl rfl rfl (by omega) (by omega)) rfl rfl ?_
    | refine EL.f (FV.load1 rfl rfl rfl (by assumption)) rfl rfl ?_)
  refine EL.h (Hv.call (implExpSeriesS (some ⟨z0, 0, none⟩) _ xs0 u11 (At.rd zt0) hn0) rfl) rfl (fun _ => rfl) ?_
  rintro _ u12 ⟨hv, rfl, hown, e12⟩
  have W12 := W11.trans e12
  have S12 := S11.trans e12
  replace gown := OwnI.ext gown e12
  obtain ⟨HA, hc, rfl, hrd⟩ := hown.form
  repeat' (first
    | refine EW.seq ?_
    | refine EL.f (FV.move rfl) rfl rfl ?_
    | refine EL.f (FV.assign rfl) rfl rfl ?_
    | refine EL.nil ?_
    | refine EW.region ?_
    | refine EW.block ?_
    | refine EW.skip ?_
    | refine EW.exit ?_
    | refine EW.ret ?_
    | refine EW.condT rfl ?_
    | refine EW.condF rfl ?_
    | refine EL.f (FV.addI rfl rfl (by omega)) rfl rfl ?_
    | refine EL.f (FV.subI rfl rfl (by omega)) rfl rfl ?_
    | refine EL.f (FV.remI rfl rfl (by decide) (by omega)) rfl rfl ?_
    | refine EL.f (FV.quoI rfl rfl (by decide) (by omega)) rfl rfl ?_
    | refine EL.f (FV.extract rfl rfl) rfl rfl ?_
    | refine EL.f (FV.len rfl rfl) rfl rfl ?_
    | refine EL.f (FV.lenS rfl rfl) rfl rfl ?_
    | refine EL.f (FV.not rfl) rfl rfl ?_
    | refine EL.skip rfl rfl ?_
    | refine EL.f (FV.pickT rfl rfl) rfl rfl ?_
    | refine EL.f (FV.pickF rfl rfl) rfl rfl ?_
    | refine EL.fT (FV.lss rfl rfl) rfl (fun _ => rfl) (by omega) ?_
    | refine EL.fT (FV.leq rfl rfl) rfl (fun _ => rfl) (by omega) ?_
    | refine EL.fT (FV.gtr rfl rfl) rfl (fun _ => rfl) (by omega) ?_
    | refine EL.fT (FV.geq rfl rfl) rfl (fun _ => rfl) (by omega) ?_
    | refine EL.fT (FV.eql rfl rfl) rfl (fun _ => rfl) (by omega) ?_
    | refine EL.fT (FV.neq rfl rfl) rfl (fun _ => rfl) (by omega) ?_
    | refine EL.fF (FV.lss rfl rfl) rfl (fun _ => rfl) (by omega) ?_
    | refine EL.fF (FV.leq rfl rfl) rfl (fun _ => rfl) (by omega) ?_
    | refine EL.fF (FV.gtr rfl rfl) rfl (fun _ => rfl) (by omega) ?_
    | refine EL.fF (FV.geq rfl rfl) rfl (fun _ => rfl) (by omega) ?_
    | refine EL.fF (FV.eql rfl rfl) rfl (fun _ => rfl) (by omega) ?_
    | refine EL.fF (FV.neq rfl rfl) rfl (fun _ => rfl) (by omega) ?_
    | refine EL.f (FV.rem rfl rfl (by decide)) rfl rfl ?_
    | refine EL.f (FV.idx0 rfl rfl rfl rfl (by omega) (by omega)) rfl rfl ?_
    | refine EL.f (FV.idx1 rfl rfl rfl rfl (by omega) (by omega)) rfl rfl ?_
    | refine EL.f (FV.load1 rfl rfl rfl (by assumption)) rfl rfl ?_)
  refine EL.h (Hv.call (eqSame HA SA hc sc _ u12 hrd (sr.ext S12) hr) rfl) rfl (fun _ => rfl) ?_
  rintro _ u13 ⟨rfl, e13⟩
  have W13 := W12.trans e13
  have S13 := S12.trans e13
  replace gown := OwnI.ext gown e13
  repeat' (first
    | refine EW.seq ?_
    | refine EL.f (FV.move rfl) rfl rfl ?_
    | refine EL.f (FV.assign rfl) rfl rfl ?_
    | refine EL.nil ?_
    | refine EW.region ?_
    | refine EW.block ?_
    | refine EW.skip ?_
    | refine EW.exit ?_
    | refine EW.ret ?_
    | refine EW.condT rfl ?_
    | refine EW.condF rfl ?_
    | refine EL.f (FV.addI rfl rfl (by omega)) rfl rfl ?_
    | refine EL.f (FV.subI rfl rfl (by omega)) rfl rfl ?_
    | refine EL.f (FV.remI rfl rfl (by decide) (by omega)) rfl rfl ?_
    | refine EL.f (FV.quoI rfl rfl (by decide) (by omega)) rfl rfl ?_
    | refine EL.f (FV.extract rfl rfl) rfl rfl ?_
    | refine EL.f (FV.len rfl rfl) rfl rfl ?_
    | refine EL.f (FV.lenS rfl rfl) rfl rfl ?_
    | refine EL.f (FV.not rfl) rfl rfl ?_
    | refine EL.skip rfl rfl ?_
    | refine EL.f (FV.pickT rfl rfl) rfl rfl ?_
    | refine EL.f (FV.pickF rfl rfl) rfl rfl ?_
    | refine EL.fT (FV.lss rfl rfl) rfl (fun _ => rfl) (by omega) ?_
    | refine EL.fT (FV.leq rfl rfl) rfl (fun _ => rfl) (by omega) ?_
    | refine EL.fT (FV.gtr rfl rfl) rfl (fun _ => rfl) (by omega) ?_
    | refine EL.fT (FV.geq rfl rfl) rfl (fun _ => rfl) (by omega) ?_
    | refine EL.fT (FV.eql rfl rfl) rfl (fun _ => rfl) (by omega) ?_
    | refine EL.fT (FV.neq rfl rfl) rfl (fun _ => rfl) (by omega) ?_
    | refine EL.fF (FV.lss rfl rfl) rfl (fun _ => rfl) (by omega) ?_
    | refine EL.fF (FV.leq rfl rfl) rfl (fun _ => rfl) (by omega) ?_
    | refine EL.fF (FV.gtr rfl rfl) rfl (fun _ => rfl) (by omega) ?_
    | refine EL.fF (FV.geq rfl rfl) rfl (fun _ => rfl) (by omega) ?_
    | refine EL.fF (FV.eql rfl rfl) rfl (fun _ => rfl) (by omega) ?_
    | refine EL.fF (FV.neq rfl rfl) rfl (fun _ => rfl) (by omega) ?_
    | refine EL.f (FV.rem rfl rfl (by decide)) rfl rfl ?_
    | refine EL.f (FV.idx0 rfl rfl rfl rfl (by omega) (by omega)) rfl rfl ?_
    | refine EL.f (FV.idx1 rfl rfl rfl rfl (by omega) (by omega)) rfl rfl ?_
    | refine EL.f (FV.load1 rfl rfl rfl (by assumption)) rfl rfl ?_)
  refine EL.h (Hv.call (heldInts GA gc _ 1 u13 (OwnI.rd gown) hr (by omega)) rfl) rfl (fun _ => rfl) ?_
  rintro _ _ ⟨rfl, rfl⟩
  repeat' (first
    | refine EW.seq ?_
    | refine EL.f (FV.move rfl) rfl rfl ?_
    | refine EL.f (FV.assign rfl) rfl rfl ?_
    | refine EL.nil ?_
    | refine EW.region ?_
    | refine EW.block ?_
    | refine EW.skip ?_
    | refine EW.exit ?_
    | refine EW.ret ?_
    | refine EW.condT rfl ?_
    | refine EW.condF rfl ?_
    | refine EL.f (FV.addI rfl rfl (by omega)) rfl rfl ?_
    | refine EL.f (FV.subI rfl rfl (by omega)) rfl rfl ?_
    | refine EL.f (FV.remI rfl rfl (by decide) (by omega)) rfl rfl ?_
    | refine EL.f (FV.quoI rfl rfl (by decide) (by omega)) rfl rfl ?_
    | refine EL.f (FV.extract rfl rfl) rfl rfl ?_
    | refine EL.f (FV.len rfl rfl) rfl rfl ?_
    | refine EL.f (FV.lenS rfl rfl) rfl rfl ?_
    | refine EL.f (FV.not rfl) rfl rfl ?_
    | refine EL.skip rfl rfl ?_
    | refine EL.f (FV.pickT rfl rfl) rfl rfl ?_
    | refine EL.f (FV.pickF rfl rfl) rfl rfl ?_
    | refine EL.fT (FV.lss rfl rfl) rfl (fun _ => rfl) (by omega) ?_
    | refine EL.fT (FV.leq rfl rfl) rfl (fun _ => rfl) (by omega) ?_
    | refine EL.fT (FV.gtr rfl rfl) rfl (fun _ => rfl) (by omega) ?_
    | refine EL.fT (FV.geq rfl rfl) rfl (fun _ => rfl) (by omega) ?_
    | refine EL.fT (FV.eql rfl rfl) rfl (fun _ => rfl) (by omega) ?_
    | refine EL.fT (FV.neq rfl rfl) rfl (fun _ => rfl) (by omega) ?_
    | refine EL.fF (FV.lss rfl rfl) rfl (fun _ => rfl) (by omega) ?_
    | refine EL.fF (FV.leq rfl rfl) rfl (fun _ => rfl) (by omega) ?_
    | refine EL.fF (FV.gtr rfl rfl) rfl (fun _ => rfl) (by omega) ?_
    | refine EL.fF (FV.geq rfl rfl) rfl (fun _ => rfl) (by omega) ?_
    | refine EL.fF (FV.eql rfl rfl) rfl (fun _ => rfl) (by omega) ?_
    | refine EL.fF (FV.neq rfl rfl) rfl (fun _ => rfl) (by omega) ?_
    | refine EL.f (FV.rem rfl rfl (by decide)) rfl rfl ?_
    | refine EL.f (FV.idx0 rfl rfl rfl rfl (by omega) (by omega)) rfl rfl ?_
    | refine EL.f (FV.idx1 rfl rfl rfl rfl (by omega) (by omega)) rfl rfl ?_
    | refine EL.f (FV.load1 rfl rfl rfl (by assumption)) rfl rfl ?_)
  exact ⟨_, rfl, rfl, W13⟩

/-! reversion -/
def revF (xs : List Int) (a : List Int) (k : Nat) : Int :=
  if k = 0 then 0 else if k = 1 then inv (xs.getD 1 0) else (0 - (compL xs (filled a k xs.length)).getD k 0 * inv (xs.getD 1 0)) % 1000003
def revL (xs : List Int) : List Int := recL (revF xs) xs.length
theorem revF_bounds (xs a : List Int) (k : Nat) : 0 ≤ revF xs a k ∧ revF xs a k < 1000003 := by
  have := inv_bounds (xs.getD 1 0)
  unfold revF
  split
  · omega
  · split <;> omega
theorem revL_length (xs : List Int) : (revL xs).length = xs.length := recL_length _ _
theorem nums_revL (xs : List Int) : nums (revL xs) = true := nums_recL _ _ (revF_bounds xs)
theorem filled_take (a : List Int) (k n : Nat) : filled (a.take k) k n = filled a k n := by
  unfold filled
  rw [List.take_take, Nat.min_self]
theorem revL_get (xs : List Int) (k : Nat) (h : k < xs.length) (h2 : 2 ≤ k) : (revL xs).getD k 0 = (0 - (compL xs (filled (revL xs) k xs.length)).getD k 0 * inv (xs.getD 1 0)) % 1000003 := by
  unfold revL
  rw [recL_get _ _ _ h, revF, if_neg (by omega), if_neg (by omega), filled_take]
theorem revL_start (xs : List Int) (h : 2 ≤ xs.length) : filled (revL xs) 2 xs.length = (List.replicate xs.length 0).set 1 (inv (xs.getD 1 0)) := by
  unfold filled revL
  rw [recL_take _ 2 _ h]
  obtain ⟨m, hm⟩ : ∃ m, xs.length = m + 2 := ⟨xs.length - 2, by omega⟩
  rw [hm]
  simp [recL, revF, List.replicate_succ]
theorem nums_filled {xs : List Int} (h : nums xs = true) (k n : Nat) : nums (filled xs k n) = true := by
  unfold nums at *
  rw [List.all_eq_true] at *
  intro x hx
  unfold filled at hx
  rw [List.mem_append] at hx
  rcases hx with hx | hx
  · exact h x (List.mem_of_mem_take hx)
  · rw [List.mem_replicate] at hx
    rw [hx.2]
    rfl
def RevR (xs : List Int) : List Int × Int := if vld xs = true then (if xs.length = 1 then ([], 2) else if xs.getD 0 0 ≠ 0 then ([], 4) else if xs.getD 1 0 = 0 then ([], 6) else (revL xs, 0)) else ([], 1)
theorem RevR_len (xs : List Int) : (RevR xs).1.length ≤ 1048576 := by
  unfold RevR
  split
  · rename_i h
    have := vld_len h
    split
    · simp
    · split
      · simp
      · split
        · simp
        · simp only; rw [revL_length]; omega
  · simp
theorem specNeg (x : Int) (h : -1000000000000000000 ≤ x ∧ x ≤ 1000000000000000000) (w : World) : CallsR Try.prog 90 [.int .i64 x] w fun v w' => v = .int .i64 ((-x) % 1000003) ∧ w = w' := by
  refine CallsR.enter Try.func90 (by decide +kernel) rfl Try.ntmps90 rfl ?_
  repeat' (first
    | refine EL.f (FV.neg rfl (by omega)) rfl rfl ?_
    | (refine EL.h (Hv.call (specResidue _ _) rfl) rfl (fun _ => rfl) ?_; rintro _ _ ⟨rfl, rfl⟩)
    | refine EW.seq ?_
    | refine EL.f (FV.move rfl) rfl rfl ?_
    | refine EL.f (FV.assign rfl) rfl rfl ?_
    | refine EL.nil ?_
    | refine EW.region ?_
    | refine EW.block ?_
    | refine EW.skip ?_
    | refine EW.exit ?_
    | refine EW.ret ?_
    | refine EW.condT rfl ?_
    | refine EW.condF rfl ?_
    | refine EL.f (FV.addI rfl rfl (by omega)) rfl rfl ?_
    | refine EL.f (FV.subI rfl rfl (by omega)) rfl rfl ?_
    | refine EL.f (FV.remI rfl rfl (by decide) (by omega)) rfl rfl ?_
    | refine EL.f (FV.quoI rfl rfl (by decide) (by omega)) rfl rfl ?_
    | refine EL.f (FV.extract rfl rfl) rfl rfl ?_
    | refine EL.f (FV.len rfl rfl) rfl rfl ?_
    | refine EL.f (FV.lenS rfl rfl) rfl rfl ?_
    | refine EL.f (FV.not rfl) rfl rfl ?_
    | refine EL.skip rfl rfl ?_
    | refine EL.f (FV.pickT rfl rfl) rfl rfl ?_
    | refine EL.f (FV.pickF rfl rfl) rfl rfl ?_
    | refine EL.fT (FV.lss rfl rfl) rfl (fun _ => rfl) (by omega) ?_
    | refine EL.fT (FV.leq rfl rfl) rfl (fun _ => rfl) (by omega) ?_
    | refine EL.fT (FV.gtr rfl rfl) rfl (fun _ => rfl) (by omega) ?_
    | refine EL.fT (FV.geq rfl rfl) rfl (fun _ => rfl) (by omega) ?_
    | refine EL.fT (FV.eql rfl rfl) rfl (fun _ => rfl) (by omega) ?_
    | refine EL.fT (FV.neq rfl rfl) rfl (fun _ => rfl) (by omega) ?_
    | refine EL.fF (FV.lss rfl rfl) rfl (fun _ => rfl) (by omega) ?_
    | refine EL.fF (FV.leq rfl rfl) rfl (fun _ => rfl) (by omega) ?_
    | refine EL.fF (FV.gtr rfl rfl) rfl (fun _ => rfl) (by omega) ?_
    | refine EL.fF (FV.geq rfl rfl) rfl (fun _ => rfl) (by omega) ?_
    | refine EL.fF (FV.eql rfl rfl) rfl (fun _ => rfl) (by omega) ?_
    | refine EL.fF (FV.neq rfl rfl) rfl (fun _ => rfl) (by omega) ?_
    | refine EL.f (FV.rem rfl rfl (by decide)) rfl rfl ?_
    | refine EL.f (FV.idx0 rfl rfl rfl rfl (by omega) (by omega)) rfl rfl ?_
    | refine EL.f (FV.idx1 rfl rfl rfl rfl (by omega) (by omega)) rfl rfl ?_
    | refine EL.f (FV.load1 rfl rfl rfl (by assumption)) rfl rfl ?_)
  exact ⟨_, rfl, rfl, rfl⟩
theorem neg_mul_mod (a f : Int) : (-a) % 1000003 * f % 1000003 = (0 - a * f) % 1000003 := by
  rw [Int.mul_emod, Int.emod_emod, ← Int.mul_emod, Int.neg_mul, Int.zero_sub]
theorem implReverseSeriesS (A : Option Addr) (c : Nat) (xs : List Int) (w : World) (hx : Rd w A (ints xs)) (hn : xs.length ≤ 1048576) :
    CallsR Try.prog 55 [.slice A xs.length c] w (SerOut w (RevR xs)) := by
  refine CallsR.enter Try.func55 (by decide +kernel) rfl Try.ntmps55 rfl ?_
  have cx := implValid A c xs w hx (by omega)
  unfold RevR
  cases vx : vld xs
  · rw [vx] at cx
    repeat' (first
      | (refine EL.h (Hv.call cx rfl) rfl (fun _ => rfl) ?_; rintro _ _ ⟨rfl, rfl⟩)
      | refine EW.seq ?_
      | refine EL.f (FV.move rfl) rfl rfl ?_
      | refine EL.f (FV.assign rfl) rfl rfl ?_
      | refine EL.nil ?_
      | refine EW.region ?_
      | refine EW.block ?_
      | refine EW.skip ?_
      | refine EW.exit ?_
      | refine EW.ret ?_
      | refine EW.condT rfl ?_
      | refine EW.condF rfl ?_
      | refine EL.f (FV.addI rfl rfl (by omega)) rfl rfl ?_
      | refine EL.f (FV.subI rfl rfl (by omega)) rfl rfl ?_
      | refine EL.f (FV.remI rfl rfl (by decide) (by omega)) rfl rfl ?_
      | refine EL.f (FV.quoI rfl rfl (by decide) (by omega)) rfl rfl ?_
      | refine EL.f (FV.extract rfl rfl) rfl rfl ?_
      | refine EL.f (FV.len rfl rfl) rfl rfl ?_
      | refine EL.f (FV.lenS rfl rfl) rfl rfl ?_
      | refine EL.f (FV.not rfl) rfl rfl ?_
      | refine EL.skip rfl rfl ?_
      | refine EL.f (FV.pickT rfl rfl) rfl rfl ?_
      | refine EL.f (FV.pickF rfl rfl) rfl rfl ?_
      | refine EL.fT (FV.lss rfl rfl) rfl (fun _ => rfl) (by omega) ?_
      | refine EL.fT (FV.leq rfl rfl) rfl (fun _ => rfl) (by omega) ?_
      | refine EL.fT (FV.gtr rfl rfl) rfl (fun _ => rfl) (by omega) ?_
      | refine EL.fT (FV.geq rfl rfl) rfl (fun _ => rfl) (by omega) ?_
      | refine EL.fT (FV.eql rfl rfl) rfl (fun _ => rfl) (by omega) ?_
      | refine EL.fT (FV.neq rfl rfl) rfl (fun _ => rfl) (by omega) ?_
      | refine EL.fF (FV.lss rfl rfl) rfl (fun _ => rfl) (by omega) ?_
      | refine EL.fF (FV.leq rfl rfl) rfl (fun _ => rfl) (by omega) ?_
      | refine EL.fF (FV.gtr rfl rfl) rfl (fun _ => rfl) (by omega) ?_
      | refine EL.fF (FV.geq rfl rfl) rfl (fun _ => rfl) (by omega) ?_
      | refine EL.fF (FV.eql rfl rfl) rfl (fun _ => rfl) (by omega) ?_
      | refine EL.fF (FV.neq rfl rfl) rfl (fun _ => rfl) (by omega) ?_
      | refine EL.f (FV.rem rfl rfl (by decide)) rfl rfl ?_
      | refine EL.f (FV.idx0 rfl rfl rfl rfl (by omega) (by omega)) rfl rfl ?_
      | refine EL.f (FV.idx1 rfl rfl rfl rfl (by omega) (by omega)) rfl rfl ?_
      | refine EL.f (FV.load1 rfl rfl rfl (by assumption)) rfl rfl ?_)
    exact ⟨_, rfl, SerOut.nil _ _⟩
  rw [vx] at cx
  have hl := vld_len vx
  obtain ⟨b, o, rfl, hc⟩ := hx.all (by rw [ints_length]; omega)
  by_cases g0 : xs.length = 1
  · repeat' (first
      | (refine EL.h (Hv.call cx rfl) rfl (fun _ => rfl) ?_; rintro _ _ ⟨rfl, rfl⟩)
      | refine EW.seq ?_
      | refine EL.f (FV.move rfl) rfl rfl ?_
      | refine EL.f (FV.assign rfl) rfl rfl ?_
      | refine EL.nil ?_
      | refine EW.region ?_
      | refine EW.block ?_
      | refine EW.skip ?_
      | refine EW.exit ?_
      | refine EW.ret ?_
      | refine EW.condT rfl ?_
      | refine EW.condF rfl ?_
      | refine EL.f (FV.addI rfl rfl (by omega)) rfl rfl ?_
      | refine EL.f (FV.subI rfl rfl (by omega)) rfl rfl ?_
      | refine EL.f (FV.remI rfl rfl (by decide) (by omega)) rfl rfl ?_
      | refine EL.f (FV.quoI rfl rfl (by decide) (by omega)) rfl rfl ?_
      | refine EL.f (FV.extract rfl rfl) rfl rfl ?_
      | refine EL.f (FV.len rfl rfl) rfl rfl ?_
      | refine EL.f (FV.lenS rfl rfl) rfl rfl ?_
      | refine EL.f (FV.not rfl) rfl rfl ?_
      | refine EL.skip rfl rfl ?_
      | refine EL.f (FV.pickT rfl rfl) rfl rfl ?_
      | refine EL.f (FV.pickF rfl rfl) rfl rfl ?_
      | refine EL.fT (FV.lss rfl rfl) rfl (fun _ => rfl) (by omega) ?_
      | refine EL.fT (FV.leq rfl rfl) rfl (fun _ => rfl) (by omega) ?_
      | refine EL.fT (FV.gtr rfl rfl) rfl (fun _ => rfl) (by omega) ?_
      | refine EL.fT (FV.geq rfl rfl) rfl (fun _ => rfl) (by omega) ?_
      | refine EL.fT (FV.eql rfl rfl) rfl (fun _ => rfl) (by omega) ?_
      | refine EL.fT (FV.neq rfl rfl) rfl (fun _ => rfl) (by omega) ?_
      | refine EL.fF (FV.lss rfl rfl) rfl (fun _ => rfl) (by omega) ?_
      | refine EL.fF (FV.leq rfl rfl) rfl (fun _ => rfl) (by omega) ?_
      | refine EL.fF (FV.gtr rfl rfl) rfl (fun _ => rfl) (by omega) ?_
      | refine EL.fF (FV.geq rfl rfl) rfl (fun _ => rfl) (by omega) ?_
      | refine EL.fF (FV.eql rfl rfl) rfl (fun _ => rfl) (by omega) ?_
      | refine EL.fF (FV.neq rfl rfl) rfl (fun _ => rfl) (by omega) ?_
      | refine EL.f (FV.rem rfl rfl (by decide)) rfl rfl ?_
      | refine EL.f (FV.idx0 rfl rfl rfl rfl (by omega) (by omega)) rfl rfl ?_
      | refine EL.f (FV.idx1 rfl rfl rfl rfl (by omega) (by omega)) rfl rfl ?_
      | refine EL.f (FV.load1 rfl rfl rfl (by assumption)) rfl rfl ?_)
    rw [if_pos rfl, if_pos g0]
    exact ⟨_, rfl, SerOut.nil _ _⟩
  have hc0 : w.cell? ⟨b, o + 0, none⟩ = some (.int .i64 (xs.getD 0 0)) := hc 0 _ (ints_get (by omega))
  by_cases g1 : xs.getD 0 0 ≠ 0
  · repeat' (first
      | (refine EL.h (Hv.call cx rfl) rfl (fun _ => rfl) ?_; rintro _ _ ⟨rfl, rfl⟩)
      | refine EW.seq ?_
      | refine EL.f (FV.move rfl) rfl rfl ?_
      | refine EL.f (FV.assign rfl) rfl rfl ?_
      | refine EL.nil ?_
      | refine EW.region ?_
      | refine EW.block ?_
      | refine EW.skip ?_
      | refine EW.exit ?_
      | refine EW.ret ?_
      | refine EW.condT rfl ?_
      | refine EW.condF rfl ?_
      | refine EL.f (FV.addI rfl rfl (by omega)) rfl rfl ?_
      | refine EL.f (FV.subI rfl rfl (by omega)) rfl rfl ?_
      | refine EL.f (FV.remI rfl rfl (by decide) (by omega)) rfl rfl ?_
      | refine EL.f (FV.quoI rfl rfl (by decide) (by omega)) rfl rfl ?_
      | refine EL.f (FV.extract rfl rfl) rfl rfl ?_
      | refine EL.f (FV.len rfl rfl) rfl rfl ?_
      | refine EL.f (FV.lenS rfl rfl) rfl rfl ?_
      | refine EL.f (FV.not rfl) rfl rfl ?_
      | refine EL.skip rfl rfl ?_
      | refine EL.f (FV.pickT rfl rfl) rfl rfl ?_
      | refine EL.f (FV.pickF rfl rfl) rfl rfl ?_
      | refine EL.fT (FV.lss rfl rfl) rfl (fun _ => rfl) (by omega) ?_
      | refine EL.fT (FV.leq rfl rfl) rfl (fun _ => rfl) (by omega) ?_
      | refine EL.fT (FV.gtr rfl rfl) rfl (fun _ => rfl) (by omega) ?_
      | refine EL.fT (FV.geq rfl rfl) rfl (fun _ => rfl) (by omega) ?_
      | refine EL.fT (FV.eql rfl rfl) rfl (fun _ => rfl) (by omega) ?_
      | refine EL.fT (FV.neq rfl rfl) rfl (fun _ => rfl) (by omega) ?_
      | refine EL.fF (FV.lss rfl rfl) rfl (fun _ => rfl) (by omega) ?_
      | refine EL.fF (FV.leq rfl rfl) rfl (fun _ => rfl) (by omega) ?_
      | refine EL.fF (FV.gtr rfl rfl) rfl (fun _ => rfl) (by omega) ?_
      | refine EL.fF (FV.geq rfl rfl) rfl (fun _ => rfl) (by omega) ?_
      | refine EL.fF (FV.eql rfl rfl) rfl (fun _ => rfl) (by omega) ?_
      | refine EL.fF (FV.neq rfl rfl) rfl (fun _ => rfl) (by omega) ?_
      | refine EL.f (FV.rem rfl rfl (by decide)) rfl rfl ?_
      | refine EL.f (FV.idx0 rfl rfl rfl rfl (by omega) (by omega)) rfl rfl ?_
      | refine EL.f (FV.idx1 rfl rfl rfl rfl (by omega) (by omega)) rfl rfl ?_
      | refine EL.f (FV.load1 rfl rfl rfl (by assumption)) rfl rfl ?_)
    rw [if_pos rfl, if_neg g0, if_pos g1]
    exact ⟨_, rfl, SerOut.nil _ _⟩
  have hc1 : w.cell? ⟨b, o + 1, none⟩ = some (.int .i64 (xs.getD 1 0)) := hc 1 _ (ints_get (by omega))
  by_cases g2 : xs.getD 1 0 = 0
  · repeat' (first
      | (refine EL.h (Hv.call cx rfl) rfl (fun _ => rfl) ?_; rintro _ _ ⟨rfl, rfl⟩)
      | refine EW.seq ?_
      | refine EL.f (FV.move rfl) rfl rfl ?_
      | refine EL.f (FV.assign rfl) rfl rfl ?_
      | refine EL.nil ?_
      | refine EW.region ?_
      | refine EW.block ?_
      | refine EW.skip ?_
      | refine EW.exit ?_
      | refine EW.ret ?_
      | refine EW.condT rfl ?_
      | refine EW.condF rfl ?_
      | refine EL.f (FV.addI rfl rfl (by omega)) rfl rfl ?_
      | refine EL.f (FV.subI rfl rfl (by omega)) rfl rfl ?_
      | refine EL.f (FV.remI rfl rfl (by decide) (by omega)) rfl rfl ?_
      | refine EL.f (FV.quoI rfl rfl (by decide) (by omega)) rfl rfl ?_
      | refine EL.f (FV.extract rfl rfl) rfl rfl ?_
      | refine EL.f (FV.len rfl rfl) rfl rfl ?_
      | refine EL.f (FV.lenS rfl rfl) rfl rfl ?_
      | refine EL.f (FV.not rfl) rfl rfl ?_
      | refine EL.skip rfl rfl ?_
      | refine EL.f (FV.pickT rfl rfl) rfl rfl ?_
      | refine EL.f (FV.pickF rfl rfl) rfl rfl ?_
      | refine EL.fT (FV.lss rfl rfl) rfl (fun _ => rfl) (by omega) ?_
      | refine EL.fT (FV.leq rfl rfl) rfl (fun _ => rfl) (by omega) ?_
      | refine EL.fT (FV.gtr rfl rfl) rfl (fun _ => rfl) (by omega) ?_
      | refine EL.fT (FV.geq rfl rfl) rfl (fun _ => rfl) (by omega) ?_
      | refine EL.fT (FV.eql rfl rfl) rfl (fun _ => rfl) (by omega) ?_
      | refine EL.fT (FV.neq rfl rfl) rfl (fun _ => rfl) (by omega) ?_
      | refine EL.fF (FV.lss rfl rfl) rfl (fun _ => rfl) (by omega) ?_
      | refine EL.fF (FV.leq rfl rfl) rfl (fun _ => rfl) (by omega) ?_
      | refine EL.fF (FV.gtr rfl rfl) rfl (fun _ => rfl) (by omega) ?_
      | refine EL.fF (FV.geq rfl rfl) rfl (fun _ => rfl) (by omega) ?_
      | refine EL.fF (FV.eql rfl rfl) rfl (fun _ => rfl) (by omega) ?_
      | refine EL.fF (FV.neq rfl rfl) rfl (fun _ => rfl) (by omega) ?_
      | refine EL.f (FV.rem rfl rfl (by decide)) rfl rfl ?_
      | refine EL.f (FV.idx0 rfl rfl rfl rfl (by omega) (by omega)) rfl rfl ?_
      | refine EL.f (FV.idx1 rfl rfl rfl rfl (by omega) (by omega)) rfl rfl ?_
      | refine EL.f (FV.load1 rfl rfl rfl (by assumption)) rfl rfl ?_)
    rw [if_pos rfl, if_neg g0, if_neg g1, if_pos g2]
    exact ⟨_, rfl, SerOut.nil _ _⟩
  rw [if_pos rfl, if_neg g0, if_neg g1, if_neg g2]
  have hl0 := revL_length xs
  have h2 : 2 ≤ xs.length := by omega
  have hib := inv_bounds (xs.getD 1 0)
  repeat' (first
    | (refine EL.h (Hv.call cx rfl) rfl (fun _ => rfl) ?_; rintro _ _ ⟨rfl, rfl⟩)
    | refine EW.seq ?_
    | refine EL.f (FV.move rfl) rfl rfl ?_
    | refine EL.f (FV.assign rfl) rfl rfl ?_
    | refine EL.nil ?_
    | refine EW.region ?_
    | refine EW.block ?_
    | refine EW.skip ?_
    | refine EW.exit ?_
    | refine EW.ret ?_
    | refine EW.condT rfl ?_
    | refine EW.condF rfl ?_
    | refine EL.f (FV.addI rfl rfl (by omega)) rfl rfl ?_
    | refine EL.f (FV.subI rfl rfl (by omega)) rfl rfl ?_
    | refine EL.f (FV.remI rfl rfl (by decide) (by omega)) rfl rfl ?_
    | refine EL.f (FV.quoI rfl rfl (by decide) (by omega)) rfl rfl ?_
    | refine EL.f (FV.extract rfl rfl) rfl rfl ?_
    | refine EL.f (FV.len rfl rfl) rfl rfl ?_
    | refine EL.f (FV.lenS rfl rfl) rfl rfl ?_
    | refine EL.f (FV.not rfl) rfl rfl ?_
    | refine EL.skip rfl rfl ?_
    | refine EL.f (FV.pickT rfl rfl) rfl rfl ?_
    | refine EL.f (FV.pickF rfl rfl) rfl rfl ?_
    | refine EL.fT (FV.lss rfl rfl) rfl (fun _ => rfl) (by omega) ?_
    | refine EL.fT (FV.leq rfl rfl) rfl (fun _ => rfl) (by omega) ?_
    | refine EL.fT (FV.gtr rfl rfl) rfl (fun _ => rfl) (by omega) ?_
    | refine EL.fT (FV.geq rfl rfl) rfl (fun _ => rfl) (by omega) ?_
    | refine EL.fT (FV.eql rfl rfl) rfl (fun _ => rfl) (by omega) ?_
    | refine EL.fT (FV.neq rfl rfl) rfl (fun _ => rfl) (by omega) ?_
    | refine EL.fF (FV.lss rfl rfl) rfl (fun _ => rfl) (by omega) ?_
    | refine EL.fF (FV.leq rfl rfl) rfl (fun _ => rfl) (by omega) ?_
    | refine EL.fF (FV.gtr rfl rfl) rfl (fun _ => rfl) (by omega) ?_
    | refine EL.fF (FV.geq rfl rfl) rfl (fun _ => rfl) (by omega) ?_
    | refine EL.fF (FV.eql rfl rfl) rfl (fun _ => rfl) (by omega) ?_
    | refine EL.fF (FV.neq rfl rfl) rfl (fun _ => rfl) (by omega) ?_
    | refine EL.f (FV.rem rfl rfl (by decide)) rfl rfl ?_
    | refine EL.f (FV.idx0 rfl rfl rfl rfl (by omega) (by omega)) rfl rfl ?_
    | refine EL.f (FV.idx1 rfl rfl rfl rfl (by omega) (by omega)) rfl rfl ?_
    | refine EL.f (FV.load1 rfl rfl rfl (by assumption)) rfl rfl ?_)
  refine EW.viaM (fun ρ' w' => ∃ g, Sub [(0, .slice (some ⟨b, o, none⟩) xs.length c), (4, .slice (some ⟨g, 0, none⟩) xs.length xs.length), (5, .int .i64 (inv (xs.getD 1 0)))] ρ' ∧ w.heap.size ≤ g ∧ AtI w' g xs.length (List.replicate xs.length 0) ∧ Ext w w') ?_ ?_
  · refine EW.draw (fun w' => Ext w w') (pl 0 2 ++ [(3, true), (4, true), (5, true), (1206, false), (7, true), (8, true)]) mixed (by decide +kernel) (Ext.drew _) ?_
    repeat' (first
      | refine EP.f rfl (FV.load rfl rfl rfl (fun _ h' => h'.cell hc1)) rfl rfl ?_
      | refine EP.nil ?_
      | refine EP.f rfl (FV.move rfl) rfl rfl ?_
      | refine EP.f rfl (FV.assign rfl) rfl rfl ?_
      | refine EP.f rfl (FV.addI rfl rfl (by omega)) rfl rfl ?_
      | refine EP.f rfl (FV.subI rfl rfl (by omega)) rfl rfl ?_
      | refine EP.f rfl (FV.remI rfl rfl (by decide) (by omega)) rfl rfl ?_
      | refine EP.f rfl (FV.extract rfl rfl) rfl rfl ?_
      | refine EP.f rfl (FV.len rfl rfl) rfl rfl ?_
      | refine EP.f rfl (FV.idx0 rfl rfl rfl rfl (by omega) (by omega)) rfl rfl ?_
      | refine EP.f rfl (FV.idx1 rfl rfl rfl rfl (by omega) (by omega)) rfl rfl ?_
      | refine EP.f rfl (FV.not rfl) rfl rfl ?_)
    refine EP.pair (i := 2) (j := 6) rfl rfl rfl rfl rfl rfl rfl (fun _ => rfl) (fun _ => rfl) (fun _ => rfl) (fun _ => rfl) (fun _ _ => rfl) (fun _ _ => rfl) ?_ ?_
    · refine (Hv.make (kl := .i64) rfl rfl rfl rfl (by omega) (by omega)).mono ?_
      rintro _ w1 ⟨g, rfl, hg, hat, he⟩
      refine ⟨(Ext.drew _).trans he, (Hv.call (implInverse0 _ _) rfl).mono ?_⟩
      rintro _ _ ⟨rfl, rfl⟩
      refine ⟨(Ext.drew _).trans he, ?_⟩
      rw [madeInts] at hat
      repeat' (first
        | refine EP.nil ?_
        | refine EP.f rfl (FV.move rfl) rfl rfl ?_
        | refine EP.f rfl (FV.assign rfl) rfl rfl ?_
        | refine EP.f rfl (FV.addI rfl rfl (by omega)) rfl rfl ?_
        | refine EP.f rfl (FV.subI rfl rfl (by omega)) rfl rfl ?_
        | refine EP.f rfl (FV.remI rfl rfl (by decide) (by omega)) rfl rfl ?_
        | refine EP.f rfl (FV.extract rfl rfl) rfl rfl ?_
        | refine EP.f rfl (FV.len rfl rfl) rfl rfl ?_
        | refine EP.f rfl (FV.idx0 rfl rfl rfl rfl (by omega) (by omega)) rfl rfl ?_
        | refine EP.f rfl (FV.idx1 rfl rfl rfl rfl (by omega) (by omega)) rfl rfl ?_
        | refine EP.f rfl (FV.not rfl) rfl rfl ?_)
      exact ⟨g, ⟨rfl, rfl, rfl, trivial⟩, Nat.le_of_eq hg.symm, by unfold AtI; rw [List.length_replicate]; exact hat, (Ext.drew w).trans he⟩
    · refine (Hv.call (implInverse0 _ _) rfl).mono ?_
      rintro _ _ ⟨rfl, rfl⟩
      refine ⟨Ext.drew _, (Hv.make (kl := .i64) rfl rfl rfl rfl (by omega) (by omega)).mono ?_⟩
      rintro _ w1 ⟨g, rfl, hg, hat, he⟩
      refine ⟨(Ext.drew _).trans he, ?_⟩
      rw [madeInts] at hat
      repeat' (first
        | refine EP.nil ?_
        | refine EP.f rfl (FV.move rfl) rfl rfl ?_
        | refine EP.f rfl (FV.assign rfl) rfl rfl ?_
        | refine EP.f rfl (FV.addI rfl rfl (by omega)) rfl rfl ?_
        | refine EP.f rfl (FV.subI rfl rfl (by omega)) rfl rfl ?_
        | refine EP.f rfl (FV.remI rfl rfl (by decide) (by omega)) rfl rfl ?_
        | refine EP.f rfl (FV.extract rfl rfl) rfl rfl ?_
        | refine EP.f rfl (FV.len rfl rfl) rfl rfl ?_
        | refine EP.f rfl (FV.idx0 rfl rfl rfl rfl (by omega) (by omega)) rfl rfl ?_
        | refine EP.f rfl (FV.idx1 rfl rfl rfl rfl (by omega) (by omega)) rfl rfl ?_
        | refine EP.f rfl (FV.not rfl) rfl rfl ?_)
      exact ⟨g, ⟨rfl, rfl, rfl, trivial⟩, Nat.le_of_eq hg.symm, by unfold AtI; rw [List.length_replicate]; exact hat, (Ext.drew w).trans he⟩
  rintro ρ' w1 ⟨g, hs, hg, hat, he⟩
  refine EW.weaken ?_ hs
  clear hs
  have hk0 : 1 < (List.replicate xs.length (0 : Int)).length := by rw [List.length_replicate]; omega
  repeat' (first
    | (refine EL.h (Hv.storeAt rfl rfl rfl rfl rfl hat (ints_get hk0)) rfl (fun _ => rfl) ?_; rintro _ _ ⟨rfl, _⟩)
    | refine EW.seq ?_
    | refine EL.f (FV.move rfl) rfl rfl ?_
    | refine EL.f (FV.assign rfl) rfl rfl ?_
    | refine EL.nil ?_
    | refine EW.region ?_
    | refine EW.block ?_
    | refine EW.skip ?_
    | refine EW.exit ?_
    | refine EW.ret ?_
    | refine EW.condT rfl ?_
    | refine EW.condF rfl ?_
    | refine EL.f (FV.addI rfl rfl (by omega)) rfl rfl ?_
    | refine EL.f (FV.subI rfl rfl (by omega)) rfl rfl ?_
    | refine EL.f (FV.remI rfl rfl (by decide) (by omega)) rfl rfl ?_
    | refine EL.f (FV.quoI rfl rfl (by decide) (by omega)) rfl rfl ?_
    | refine EL.f (FV.extract rfl rfl) rfl rfl ?_
    | refine EL.f (FV.len rfl rfl) rfl rfl ?_
    | refine EL.f (FV.lenS rfl rfl) rfl rfl ?_
    | refine EL.f (FV.not rfl) rfl rfl ?_
    | refine EL.skip rfl rfl ?_
    | refine EL.f (FV.pickT rfl rfl) rfl rfl ?_
    | refine EL.f (FV.pickF rfl rfl) rfl rfl ?_
    | refine EL.fT (FV.lss rfl rfl) rfl (fun _ => rfl) (by omega) ?_
    | refine EL.fT (FV.leq rfl rfl) rfl (fun _ => rfl) (by omega) ?_
    | refine EL.fT (FV.gtr rfl rfl) rfl (fun _ => rfl) (by omega) ?_
    | refine EL.fT (FV.geq rfl rfl) rfl (fun _ => rfl) (by omega) ?_
    | refine EL.fT (FV.eql rfl rfl) rfl (fun _ => rfl) (by omega) ?_
    | refine EL.fT (FV.neq rfl rfl) rfl (fun _ => rfl) (by omega) ?_
    | refine EL.fF (FV.lss rfl rfl) rfl (fun _ => rfl) (by omega) ?_
    | refine EL.fF (FV.leq rfl rfl) rfl (fun _ => rfl) (by omega) ?_
    | refine EL.fF (FV.gtr rfl rfl) rfl (fun _ => rfl) (by omega) ?_
    | refine EL.fF (FV.geq rfl rfl) rfl (fun _ => rfl) (by omega) ?_
    | refine EL.fF (FV.eql rfl rfl) rfl (fun _ => rfl) (by omega) ?_
    | refine EL.fF (FV.neq rfl rfl) rfl (fun _ => rfl) (by omega) ?_
    | refine EL.f (FV.rem rfl rfl (by decide)) rfl rfl ?_
    | refine EL.f (FV.idx0 rfl rfl rfl rfl (by omega) (by omega)) rfl rfl ?_
    | refine EL.f (FV.idx1 rfl rfl rfl rfl (by omega) (by omega)) rfl rfl ?_
    | refine EL.f (FV.load1 rfl rfl rfl (by assumption)) rfl rfl ?_)
  refine EW.loop (fun k wr => 2 ≤ k ∧ k ≤ xs.length ∧ AtI wr g xs.length (filled (revL xs) k xs.length) ∧ Below w.heap.size w wr) (fun k => [(0, .slice (some ⟨b, o, none⟩) xs.length c), (4, .slice (some ⟨g, 0, none⟩) xs.length xs.length), (5, .int .i64 (inv (xs.getD 1 0))), (6, .int .i64 k)]) (fun k => xs.length - k) 2 ⟨Nat.le_refl _, h2, by rw [revL_start xs h2]; exact AtI.set_ (k := 1) hat _, Below.set_ he (by omega) _⟩ ⟨rfl, rfl, rfl, rfl, trivial⟩ ?_
  rintro k wr ⟨h1, hk, hat, hb⟩
  have hlen := filled_length (revL xs) k xs.length (by omega) (by omega)
  by_cases hlt : k < xs.length
  · have call := implComposed (some ⟨b, o, none⟩) (some ⟨g, 0, none⟩) c xs.length xs (filled (revL xs) k xs.length) wr (hx.ext hb) (At.rd hat) (by omega) hl.1 (by omega) hl.2.2 (nums_filled (nums_revL xs) _ _)
    rw [hlen] at call
    repeat' (first
      | refine EW.seq ?_
      | refine EL.f (FV.move rfl) rfl rfl ?_
      | refine EL.f (FV.assign rfl) rfl rfl ?_
      | refine EL.nil ?_
      | refine EW.region ?_
      | refine EW.block ?_
      | refine EW.skip ?_
      | refine EW.exit ?_
      | refine EW.ret ?_
      | refine EW.condT rfl ?_
      | refine EW.condF rfl ?_
      | refine EL.f (FV.addI rfl rfl (by omega)) rfl rfl ?_
      | refine EL.f (FV.subI rfl rfl (by omega)) rfl rfl ?_
      | refine EL.f (FV.remI rfl rfl (by decide) (by omega)) rfl rfl ?_
      | refine EL.f (FV.quoI rfl rfl (by decide) (by omega)) rfl rfl ?_
      | refine EL.f (FV.extract rfl rfl) rfl rfl ?_
      | refine EL.f (FV.len rfl rfl) rfl rfl ?_
      | refine EL.f (FV.lenS rfl rfl) rfl rfl ?_
      | refine EL.f (FV.not rfl) rfl rfl ?_
      | refine EL.skip rfl rfl ?_
      | refine EL.f (FV.pickT rfl rfl) rfl rfl ?_
      | refine EL.f (FV.pickF rfl rfl) rfl rfl ?_
      | refine EL.fT (FV.lss rfl rfl) rfl (fun _ => rfl) (by omega) ?_
      | refine EL.fT (FV.leq rfl rfl) rfl (fun _ => rfl) (by omega) ?_
      | refine EL.fT (FV.gtr rfl rfl) rfl (fun _ => rfl) (by omega) ?_
      | refine EL.fT (FV.geq rfl rfl) rfl (fun _ => rfl) (by omega) ?_
      | refine EL.fT (FV.eql rfl rfl) rfl (fun _ => rfl) (by omega) ?_
      | refine EL.fT (FV.neq rfl rfl) rfl (fun _ => rfl) (by omega) ?_
      | refine EL.fF (FV.lss rfl rfl) rfl (fun _ => rfl) (by omega) ?_
      | refine EL.fF (FV.leq rfl rfl) rfl (fun _ => rfl) (by omega) ?_
      | refine EL.fF (FV.gtr rfl rfl) rfl (fun _ => rfl) (by omega) ?_
      | refine EL.fF (FV.geq rfl rfl) rfl (fun _ => rfl) (by omega) ?_
      | refine EL.fF (FV.eql rfl rfl) rfl (fun _ => rfl) (by omega) ?_
      | refine EL.fF (FV.neq rfl rfl) rfl (fun _ => rfl) (by omega) ?_
      | refine EL.f (FV.rem rfl rfl (by decide)) rfl rfl ?_
      | refine EL.f (FV.idx0 rfl rfl rfl rfl (by omega) (by omega)) rfl rfl ?_
      | refine EL.f (FV.idx1 rfl rfl rfl rfl (by omega) (by omega)) rfl rfl ?_
      | refine EL.f (FV.load1 rfl rfl rfl (by assumption)) rfl rfl ?_)
    refine EL.h (Hv.call call rfl) rfl (fun _ => rfl) ?_
    rintro v2 w2 ⟨ho2, he2⟩
    have hml := compL_length xs (filled (revL xs) k xs.length)
    obtain ⟨g2, c2, rfl, hg2, hat2⟩ := own_at ho2 (by omega)
    have hati := At.ext hat he2
    have ho := AtI.int hat2 (show k < (compL xs (filled (revL xs) k xs.length)).length by omega)
    have hm := mul_bounds (num_getD (nums_cpL xs (filled (revL xs) k xs.length) xs.length) k) hib
    have hm' : 0 ≤ (compL xs (filled (revL xs) k xs.length)).getD k 0 * inv (xs.getD 1 0) ∧ (compL xs (filled (revL xs) k xs.length)).getD k 0 * inv (xs.getD 1 0) ≤ 1000004000004 := hm
    have hkk : k < (filled (revL xs) k xs.length).length := by omega
    rw [hml]
    repeat' (first
      | refine EL.f (FV.load1 rfl rfl rfl ho) rfl rfl ?_
      | refine EL.f (FV.mulI rfl rfl (by omega)) rfl rfl ?_
      | (refine EL.h (Hv.call (implMinus _ _ _) rfl) rfl (fun _ => rfl) ?_; rintro _ _ ⟨rfl, rfl⟩)
      | (refine EL.h (Hv.storeAt rfl rfl rfl rfl rfl hati (ints_get hkk)) rfl (fun _ => rfl) ?_; rintro _ _ ⟨rfl, _⟩)
      | refine EW.seq ?_
      | refine EL.f (FV.move rfl) rfl rfl ?_
      | refine EL.f (FV.assign rfl) rfl rfl ?_
      | refine EL.nil ?_
      | refine EW.region ?_
      | refine EW.block ?_
      | refine EW.skip ?_
      | refine EW.exit ?_
      | refine EW.ret ?_
      | refine EW.condT rfl ?_
      | refine EW.condF rfl ?_
      | refine EL.f (FV.addI rfl rfl (by omega)) rfl rfl ?_
      | refine EL.f (FV.subI rfl rfl (by omega)) rfl rfl ?_
      | refine EL.f (FV.remI rfl rfl (by decide) (by omega)) rfl rfl ?_
      | refine EL.f (FV.quoI rfl rfl (by decide) (by omega)) rfl rfl ?_
      | refine EL.f (FV.extract rfl rfl) rfl rfl ?_
      | refine EL.f (FV.len rfl rfl) rfl rfl ?_
      | refine EL.f (FV.lenS rfl rfl) rfl rfl ?_
      | refine EL.f (FV.not rfl) rfl rfl ?_
      | refine EL.skip rfl rfl ?_
      | refine EL.f (FV.pickT rfl rfl) rfl rfl ?_
      | refine EL.f (FV.pickF rfl rfl) rfl rfl ?_
      | refine EL.fT (FV.lss rfl rfl) rfl (fun _ => rfl) (by omega) ?_
      | refine EL.fT (FV.leq rfl rfl) rfl (fun _ => rfl) (by omega) ?_
      | refine EL.fT (FV.gtr rfl rfl) rfl (fun _ => rfl) (by omega) ?_
      | refine EL.fT (FV.geq rfl rfl) rfl (fun _ => rfl) (by omega) ?_
      | refine EL.fT (FV.eql rfl rfl) rfl (fun _ => rfl) (by omega) ?_
      | refine EL.fT (FV.neq rfl rfl) rfl (fun _ => rfl) (by omega) ?_
      | refine EL.fF (FV.lss rfl rfl) rfl (fun _ => rfl) (by omega) ?_
      | refine EL.fF (FV.leq rfl rfl) rfl (fun _ => rfl) (by omega) ?_
      | refine EL.fF (FV.gtr rfl rfl) rfl (fun _ => rfl) (by omega) ?_
      | refine EL.fF (FV.geq rfl rfl) rfl (fun _ => rfl) (by omega) ?_
      | refine EL.fF (FV.eql rfl rfl) rfl (fun _ => rfl) (by omega) ?_
      | refine EL.fF (FV.neq rfl rfl) rfl (fun _ => rfl) (by omega) ?_
      | refine EL.f (FV.rem rfl rfl (by decide)) rfl rfl ?_
      | refine EL.f (FV.idx0 rfl rfl rfl rfl (by omega) (by omega)) rfl rfl ?_
      | refine EL.f (FV.idx1 rfl rfl rfl rfl (by omega) (by omega)) rfl rfl ?_
      | refine EL.f (FV.load1 rfl rfl rfl (by assumption)) rfl rfl ?_)
    refine ⟨k + 1, ⟨rfl, rfl, rfl, rfl, trivial⟩, ⟨by omega, by omega, ?_, Below.set_ (Below.then_ hb (Nat.le_refl _) he2) (by omega) _⟩, by omega⟩
    have e := filled_set (revL xs) k xs.length (by omega) (by omega)
    rw [revL_get xs k hlt h1] at e
    rw [← e]
    exact AtI.set_ hati _
  · obtain rfl : k = xs.length := by omega
    have e := filled_full (revL xs)
    rw [hl0] at e
    rw [e] at hat
    repeat' (first
      | refine EW.seq ?_
      | refine EL.f (FV.move rfl) rfl rfl ?_
      | refine EL.f (FV.assign rfl) rfl rfl ?_
      | refine EL.nil ?_
      | refine EW.region ?_
      | refine EW.block ?_
      | refine EW.skip ?_
      | refine EW.exit ?_
      | refine EW.ret ?_
      | refine EW.condT rfl ?_
      | refine EW.condF rfl ?_
      | refine EL.f (FV.addI rfl rfl (by omega)) rfl rfl ?_
      | refine EL.f (FV.subI rfl rfl (by omega)) rfl rfl ?_
      | refine EL.f (FV.remI rfl rfl (by decide) (by omega)) rfl rfl ?_
      | refine EL.f (FV.quoI rfl rfl (by decide) (by omega)) rfl rfl ?_
      | refine EL.f (FV.extract rfl rfl) rfl rfl ?_
      | refine EL.f (FV.len rfl rfl) rfl rfl ?_
      | refine EL.f (FV.lenS rfl rfl) rfl rfl ?_
      | refine EL.f (FV.not rfl) rfl rfl ?_
      | refine EL.skip rfl rfl ?_
      | refine EL.f (FV.pickT rfl rfl) rfl rfl ?_
      | refine EL.f (FV.pickF rfl rfl) rfl rfl ?_
      | refine EL.fT (FV.lss rfl rfl) rfl (fun _ => rfl) (by omega) ?_
      | refine EL.fT (FV.leq rfl rfl) rfl (fun _ => rfl) (by omega) ?_
      | refine EL.fT (FV.gtr rfl rfl) rfl (fun _ => rfl) (by omega) ?_
      | refine EL.fT (FV.geq rfl rfl) rfl (fun _ => rfl) (by omega) ?_
      | refine EL.fT (FV.eql rfl rfl) rfl (fun _ => rfl) (by omega) ?_
      | refine EL.fT (FV.neq rfl rfl) rfl (fun _ => rfl) (by omega) ?_
      | refine EL.fF (FV.lss rfl rfl) rfl (fun _ => rfl) (by omega) ?_
      | refine EL.fF (FV.leq rfl rfl) rfl (fun _ => rfl) (by omega) ?_
      | refine EL.fF (FV.gtr rfl rfl) rfl (fun _ => rfl) (by omega) ?_
      | refine EL.fF (FV.geq rfl rfl) rfl (fun _ => rfl) (by omega) ?_
      | refine EL.fF (FV.eql rfl rfl) rfl (fun _ => rfl) (by omega) ?_
      | refine EL.fF (FV.neq rfl rfl) rfl (fun _ => rfl) (by omega) ?_
      | refine EL.f (FV.rem rfl rfl (by decide)) rfl rfl ?_
      | refine EL.f (FV.idx0 rfl rfl rfl rfl (by omega) (by omega)) rfl rfl ?_
      | refine EL.f (FV.idx1 rfl rfl rfl rfl (by omega) (by omega)) rfl rfl ?_
      | refine EL.f (FV.load1 rfl rfl rfl (by assumption)) rfl rfl ?_)
    have := AtI.own (B := w.heap.size) hat (by omega)
    rw [hl0] at this
    exact ⟨_, rfl, _, rfl, this, hb⟩
theorem specReverse (A : Option Addr) (c : Nat) (xs : List Int) (w : World) (hx : Rd w A (ints xs)) (h2 : 2 ≤ xs.length) (hn : xs.length ≤ 1000) (_ : nums xs = true) :
    CallsR Try.prog 79 [.slice A xs.length c] w fun v w' => OwnI w.heap.size w' v (revL xs) ∧ Ext w w' := by
  refine CallsR.enter Try.func79 (by decide +kernel) rfl Try.ntmps79 rfl ?_
  obtain ⟨b, o, rfl, hc⟩ := hx.all (by rw [ints_length]; omega)
  have hl0 := revL_length xs
  have hc1 : w.cell? ⟨b, o + 1, none⟩ = some (.int .i64 (xs.getD 1 0)) := hc 1 _ (ints_get (by omega))
  repeat' (first
    | (refine EL.h (Hv.call (specConst 0 xs.length hn _) rfl) rfl (fun _ => rfl) ?_; rintro _ w1 ⟨g, rfl, hg, hat, he⟩)
    | refine EW.seq ?_
    | refine EL.f (FV.move rfl) rfl rfl ?_
    | refine EL.f (FV.assign rfl) rfl rfl ?_
    | refine EL.nil ?_
    | refine EW.region ?_
    | refine EW.block ?_
    | refine EW.skip ?_
    | refine EW.exit ?_
    | refine EW.ret ?_
    | refine EW.condT rfl ?_
    | refine EW.condF rfl ?_
    | refine EL.f (FV.addI rfl rfl (by omega)) rfl rfl ?_
    | refine EL.f (FV.subI rfl rfl (by omega)) rfl rfl ?_
    | refine EL.f (FV.remI rfl rfl (by decide) (by omega)) rfl rfl ?_
    | refine EL.f (FV.quoI rfl rfl (by decide) (by omega)) rfl rfl ?_
    | refine EL.f (FV.extract rfl rfl) rfl rfl ?_
    | refine EL.f (FV.len rfl rfl) rfl rfl ?_
    | refine EL.f (FV.lenS rfl rfl) rfl rfl ?_
    | refine EL.f (FV.not rfl) rfl rfl ?_
    | refine EL.skip rfl rfl ?_
    | refine EL.f (FV.pickT rfl rfl) rfl rfl ?_
    | refine EL.f (FV.pickF rfl rfl) rfl rfl ?_
    | refine EL.fT (FV.lss rfl rfl) rfl (fun _ => rfl) (by omega) ?_
    | refine EL.fT (FV.leq rfl rfl) rfl (fun _ => rfl) (by omega) ?_
    | refine EL.fT (FV.gtr rfl rfl) rfl (fun _ => rfl) (by omega) ?_
    | refine EL.fT (FV.geq rfl rfl) rfl (fun _ => rfl) (by omega) ?_
    | refine EL.fT (FV.eql rfl rfl) rfl (fun _ => rfl) (by omega) ?_
    | refine EL.fT (FV.neq rfl rfl) rfl (fun _ => rfl) (by omega) ?_
    | refine EL.fF (FV.lss rfl rfl) rfl (fun _ => rfl) (by omega) ?_
    | refine EL.fF (FV.leq rfl rfl) rfl (fun _ => rfl) (by omega) ?_
    | refine EL.fF (FV.gtr rfl rfl) rfl (fun _ => rfl) (by omega) ?_
    | refine EL.fF (FV.geq rfl rfl) rfl (fun _ => rfl) (by omega) ?_
    | refine EL.fF (FV.eql rfl rfl) rfl (fun _ => rfl) (by omega) ?_
    | refine EL.fF (FV.neq rfl rfl) rfl (fun _ => rfl) (by omega) ?_
    | refine EL.f (FV.rem rfl rfl (by decide)) rfl rfl ?_
    | refine EL.f (FV.idx0 rfl rfl rfl rfl (by omega) (by omega)) rfl rfl ?_
    | refine EL.f (FV.idx1 rfl rfl rfl rfl (by omega) (by omega)) rfl rfl ?_
    | refine EL.f (FV.load1 rfl rfl rfl (by assumption)) rfl rfl ?_)
  rw [constL_zero] at hat
  have hk0 : 1 < (List.replicate xs.length (0 : Int)).length := by rw [List.length_replicate]; omega
  have hc1' := he.cell hc1
  repeat' (first
    | (refine EL.h (Hv.call (specInverse0 _ _) rfl) rfl (fun _ => rfl) ?_; rintro _ _ ⟨rfl, rfl⟩)
    | (refine EL.h (Hv.storeAt rfl rfl rfl rfl rfl hat (ints_get hk0)) rfl (fun _ => rfl) ?_; rintro _ _ ⟨rfl, _⟩)
    | refine EW.seq ?_
    | refine EL.f (FV.move rfl) rfl rfl ?_
    | refine EL.f (FV.assign rfl) rfl rfl ?_
    | refine EL.nil ?_
    | refine EW.region ?_
    | refine EW.block ?_
    | refine EW.skip ?_
    | refine EW.exit ?_
    | refine EW.ret ?_
    | refine EW.condT rfl ?_
    | refine EW.condF rfl ?_
    | refine EL.f (FV.addI rfl rfl (by omega)) rfl rfl ?_
    | refine EL.f (FV.subI rfl rfl (by omega)) rfl rfl ?_
    | refine EL.f (FV.remI rfl rfl (by decide) (by omega)) rfl rfl ?_
    | refine EL.f (FV.quoI rfl rfl (by decide) (by omega)) rfl rfl ?_
    | refine EL.f (FV.extract rfl rfl) rfl rfl ?_
    | refine EL.f (FV.len rfl rfl) rfl rfl ?_
    | refine EL.f (FV.lenS rfl rfl) rfl rfl ?_
    | refine EL.f (FV.not rfl) rfl rfl ?_
    | refine EL.skip rfl rfl ?_
    | refine EL.f (FV.pickT rfl rfl) rfl rfl ?_
    | refine EL.f (FV.pickF rfl rfl) rfl rfl ?_
    | refine EL.fT (FV.lss rfl rfl) rfl (fun _ => rfl) (by omega) ?_
    | refine EL.fT (FV.leq rfl rfl) rfl (fun _ => rfl) (by omega) ?_
    | refine EL.fT (FV.gtr rfl rfl) rfl (fun _ => rfl) (by omega) ?_
    | refine EL.fT (FV.geq rfl rfl) rfl (fun _ => rfl) (by omega) ?_
    | refine EL.fT (FV.eql rfl rfl) rfl (fun _ => rfl) (by omega) ?_
    | refine EL.fT (FV.neq rfl rfl) rfl (fun _ => rfl) (by omega) ?_
    | refine EL.fF (FV.lss rfl rfl) rfl (fun _ => rfl) (by omega) ?_
    | refine EL.fF (FV.leq rfl rfl) rfl (fun _ => rfl) (by omega) ?_
    | refine EL.fF (FV.gtr rfl rfl) rfl (fun _ => rfl) (by omega) ?_
    | refine EL.fF (FV.geq rfl rfl) rfl (fun _ => rfl) (by omega) ?_
    | refine EL.fF (FV.eql rfl rfl) rfl (fun _ => rfl) (by omega) ?_
    | refine EL.fF (FV.neq rfl rfl) rfl (fun _ => rfl) (by omega) ?_
    | refine EL.f (FV.rem rfl rfl (by decide)) rfl rfl ?_
    | refine EL.f (FV.idx0 rfl rfl rfl rfl (by omega) (by omega)) rfl rfl ?_
    | refine EL.f (FV.idx1 rfl rfl rfl rfl (by omega) (by omega)) rfl rfl ?_
    | refine EL.f (FV.load1 rfl rfl rfl (by assumption)) rfl rfl ?_)
  refine EW.loop (fun k wr => 2 ≤ k ∧ k ≤ xs.length ∧ AtI wr g xs.length (filled (revL xs) k xs.length) ∧ Below w.heap.size w wr) (fun k => [(0, .slice (some ⟨b, o, none⟩) xs.length c), (3, .slice (some ⟨g, 0, none⟩) xs.length xs.length), (4, .int .i64 (inv (xs.getD 1 0))), (5, .int .i64 k)]) (fun k => xs.length - k) 2 ⟨Nat.le_refl _, h2, by rw [revL_start xs h2]; exact AtI.set_ (k := 1) hat _, Below.set_ he (by omega) _⟩ ⟨rfl, rfl, rfl, rfl, trivial⟩ ?_
  rintro k wr ⟨h1, hk, hat, hb⟩
  have hlen := filled_length (revL xs) k xs.length (by omega) (by omega)
  by_cases hlt : k < xs.length
  · have call := specCompose (some ⟨b, o, none⟩) (some ⟨g, 0, none⟩) c xs.length xs (filled (revL xs) k xs.length) wr (hx.ext hb) (At.rd hat) (by omega) (by omega) hn
    rw [hlen] at call
    repeat' (first
      | refine EW.seq ?_
      | refine EL.f (FV.move rfl) rfl rfl ?_
      | refine EL.f (FV.assign rfl) rfl rfl ?_
      | refine EL.nil ?_
      | refine EW.region ?_
      | refine EW.block ?_
      | refine EW.skip ?_
      | refine EW.exit ?_
      | refine EW.ret ?_
      | refine EW.condT rfl ?_
      | refine EW.condF rfl ?_
      | refine EL.f (FV.addI rfl rfl (by omega)) rfl rfl ?_
      | refine EL.f (FV.subI rfl rfl (by omega)) rfl rfl ?_
      | refine EL.f (FV.remI rfl rfl (by decide) (by omega)) rfl rfl ?_
      | refine EL.f (FV.quoI rfl rfl (by decide) (by omega)) rfl rfl ?_
      | refine EL.f (FV.extract rfl rfl) rfl rfl ?_
      | refine EL.f (FV.len rfl rfl) rfl rfl ?_
      | refine EL.f (FV.lenS rfl rfl) rfl rfl ?_
      | refine EL.f (FV.not rfl) rfl rfl ?_
      | refine EL.skip rfl rfl ?_
      | refine EL.f (FV.pickT rfl rfl) rfl rfl ?_
      | refine EL.f (FV.pickF rfl rfl) rfl rfl ?_
      | refine EL.fT (FV.lss rfl rfl) rfl (fun _ => rfl) (by omega) ?_
      | refine EL.fT (FV.leq rfl rfl) rfl (fun _ => rfl) (by omega) ?_
      | refine EL.fT (FV.gtr rfl rfl) rfl (fun _ => rfl) (by omega) ?_
      | refine EL.fT (FV.geq rfl rfl) rfl (fun _ => rfl) (by omega) ?_
      | refine EL.fT (FV.eql rfl rfl) rfl (fun _ => rfl) (by omega) ?_
      | refine EL.fT (FV.neq rfl rfl) rfl (fun _ => rfl) (by omega) ?_
      | refine EL.fF (FV.lss rfl rfl) rfl (fun _ => rfl) (by omega) ?_
      | refine EL.fF (FV.leq rfl rfl) rfl (fun _ => rfl) (by omega) ?_
      | refine EL.fF (FV.gtr rfl rfl) rfl (fun _ => rfl) (by omega) ?_
      | refine EL.fF (FV.geq rfl rfl) rfl (fun _ => rfl) (by omega) ?_
      | refine EL.fF (FV.eql rfl rfl) rfl (fun _ => rfl) (by omega) ?_
      | refine EL.fF (FV.neq rfl rfl) rfl (fun _ => rfl) (by omega) ?_
      | refine EL.f (FV.rem rfl rfl (by decide)) rfl rfl ?_
      | refine EL.f (FV.idx0 rfl rfl rfl rfl (by omega) (by omega)) rfl rfl ?_
      | refine EL.f (FV.idx1 rfl rfl rfl rfl (by omega) (by omega)) rfl rfl ?_
      | refine EL.f (FV.load1 rfl rfl rfl (by assumption)) rfl rfl ?_)
    refine EL.h (Hv.call call rfl) rfl (fun _ => rfl) ?_
    rintro v2 w2 ⟨ho2, he2⟩
    have hml := compL_length xs (filled (revL xs) k xs.length)
    obtain ⟨g2, c2, rfl, hg2, hat2⟩ := own_at ho2 (by omega)
    have hati := At.ext hat he2
    have ho := AtI.int hat2 (show k < (compL xs (filled (revL xs) k xs.length)).length by omega)
    have hm : 0 ≤ (compL xs (filled (revL xs) k xs.length)).getD k 0 ∧ (compL xs (filled (revL xs) k xs.length)).getD k 0 < 1000003 := num_getD (nums_cpL xs (filled (revL xs) k xs.length) xs.length) k
    have hkk : k < (filled (revL xs) k xs.length).length := by omega
    rw [hml]
    repeat' (first
      | refine EL.f (FV.load1 rfl rfl rfl ho) rfl rfl ?_
      | (refine EL.h (Hv.call (specNeg _ (by omega) _) rfl) rfl (fun _ => rfl) ?_; rintro _ _ ⟨rfl, rfl⟩)
      | (refine EL.h (Hv.call (specTimes _ _ _) rfl) rfl (fun _ => rfl) ?_; rintro _ _ ⟨rfl, rfl⟩)
      | (refine EL.h (Hv.storeAt rfl rfl rfl rfl rfl hati (ints_get hkk)) rfl (fun _ => rfl) ?_; rintro _ _ ⟨rfl, _⟩)
      | refine EW.seq ?_
      | refine EL.f (FV.move rfl) rfl rfl ?_
      | refine EL.f (FV.assign rfl) rfl rfl ?_
      | refine EL.nil ?_
      | refine EW.region ?_
      | refine EW.block ?_
      | refine EW.skip ?_
      | refine EW.exit ?_
      | refine EW.ret ?_
      | refine EW.condT rfl ?_
      | refine EW.condF rfl ?_
      | refine EL.f (FV.addI rfl rfl (by omega)) rfl rfl ?_
      | refine EL.f (FV.subI rfl rfl (by omega)) rfl rfl ?_
      | refine EL.f (FV.remI rfl rfl (by decide) (by omega)) rfl rfl ?_
      | refine EL.f (FV.quoI rfl rfl (by decide) (by omega)) rfl rfl ?_
      | refine EL.f (FV.extract rfl rfl) rfl rfl ?_
      | refine EL.f (FV.len rfl rfl) rfl rfl ?_
      | refine EL.f (FV.lenS rfl rfl) rfl rfl ?_
      | refine EL.f (FV.not rfl) rfl rfl ?_
      | refine EL.skip rfl rfl ?_
      | refine EL.f (FV.pickT rfl rfl) rfl rfl ?_
      | refine EL.f (FV.pickF rfl rfl) rfl rfl ?_
      | refine EL.fT (FV.lss rfl rfl) rfl (fun _ => rfl) (by omega) ?_
      | refine EL.fT (FV.leq rfl rfl) rfl (fun _ => rfl) (by omega) ?_
      | refine EL.fT (FV.gtr rfl rfl) rfl (fun _ => rfl) (by omega) ?_
      | refine EL.fT (FV.geq rfl rfl) rfl (fun _ => rfl) (by omega) ?_
      | refine EL.fT (FV.eql rfl rfl) rfl (fun _ => rfl) (by omega) ?_
      | refine EL.fT (FV.neq rfl rfl) rfl (fun _ => rfl) (by omega) ?_
      | refine EL.fF (FV.lss rfl rfl) rfl (fun _ => rfl) (by omega) ?_
      | refine EL.fF (FV.leq rfl rfl) rfl (fun _ => rfl) (by omega) ?_
      | refine EL.fF (FV.gtr rfl rfl) rfl (fun _ => rfl) (by omega) ?_
      | refine EL.fF (FV.geq rfl rfl) rfl (fun _ => rfl) (by omega) ?_
      | refine EL.fF (FV.eql rfl rfl) rfl (fun _ => rfl) (by omega) ?_
      | refine EL.fF (FV.neq rfl rfl) rfl (fun _ => rfl) (by omega) ?_
      | refine EL.f (FV.rem rfl rfl (by decide)) rfl rfl ?_
      | refine EL.f (FV.idx0 rfl rfl rfl rfl (by omega) (by omega)) rfl rfl ?_
      | refine EL.f (FV.idx1 rfl rfl rfl rfl (by omega) (by omega)) rfl rfl ?_
      | refine EL.f (FV.load1 rfl rfl rfl (by assumption)) rfl rfl ?_)
    refine ⟨k + 1, ⟨rfl, rfl, rfl, rfl, trivial⟩, ⟨by omega, by omega, ?_, Below.set_ (Below.then_ hb (Nat.le_refl _) he2) (by omega) _⟩, by omega⟩
    have e := filled_set (revL xs) k xs.length (by omega) (by omega)
    rw [revL_get xs k hlt h1] at e
    rw [← e, neg_mul_mod]
    exact AtI.set_ hati _
  · obtain rfl : k = xs.length := by omega
    have e := filled_full (revL xs)
    rw [hl0] at e
    rw [e] at hat
    repeat' (first
      | refine EW.seq ?_
      | refine EL.f (FV.move rfl) rfl rfl ?_
      | refine EL.f (FV.assign rfl) rfl rfl ?_
      | refine EL.nil ?_
      | refine EW.region ?_
      | refine EW.block ?_
      | refine EW.skip ?_
      | refine EW.exit ?_
      | refine EW.ret ?_
      | refine EW.condT rfl ?_
      | refine EW.condF rfl ?_
      | refine EL.f (FV.addI rfl rfl (by omega)) rfl rfl ?_
      | refine EL.f (FV.subI rfl rfl (by omega)) rfl rfl ?_
      | refine EL.f (FV.remI rfl rfl (by decide) (by omega)) rfl rfl ?_
      | refine EL.f (FV.quoI rfl rfl (by decide) (by omega)) rfl rfl ?_
      | refine EL.f (FV.extract rfl rfl) rfl rfl ?_
      | refine EL.f (FV.len rfl rfl) rfl rfl ?_
      | refine EL.f (FV.lenS rfl rfl) rfl rfl ?_
      | refine EL.f (FV.not rfl) rfl rfl ?_
      | refine EL.skip rfl rfl ?_
      | refine EL.f (FV.pickT rfl rfl) rfl rfl ?_
      | refine EL.f (FV.pickF rfl rfl) rfl rfl ?_
      | refine EL.fT (FV.lss rfl rfl) rfl (fun _ => rfl) (by omega) ?_
      | refine EL.fT (FV.leq rfl rfl) rfl (fun _ => rfl) (by omega) ?_
      | refine EL.fT (FV.gtr rfl rfl) rfl (fun _ => rfl) (by omega) ?_
      | refine EL.fT (FV.geq rfl rfl) rfl (fun _ => rfl) (by omega) ?_
      | refine EL.fT (FV.eql rfl rfl) rfl (fun _ => rfl) (by omega) ?_
      | refine EL.fT (FV.neq rfl rfl) rfl (fun _ => rfl) (by omega) ?_
      | refine EL.fF (FV.lss rfl rfl) rfl (fun _ => rfl) (by omega) ?_
      | refine EL.fF (FV.leq rfl rfl) rfl (fun _ => rfl) (by omega) ?_
      | refine EL.fF (FV.gtr rfl rfl) rfl (fun _ => rfl) (by omega) ?_
      | refine EL.fF (FV.geq rfl rfl) rfl (fun _ => rfl) (by omega) ?_
      | refine EL.fF (FV.eql rfl rfl) rfl (fun _ => rfl) (by omega) ?_
      | refine EL.fF (FV.neq rfl rfl) rfl (fun _ => rfl) (by omega) ?_
      | refine EL.f (FV.rem rfl rfl (by decide)) rfl rfl ?_
      | refine EL.f (FV.idx0 rfl rfl rfl rfl (by omega) (by omega)) rfl rfl ?_
      | refine EL.f (FV.idx1 rfl rfl rfl rfl (by omega) (by omega)) rfl rfl ?_
      | refine EL.f (FV.load1 rfl rfl rfl (by assumption)) rfl rfl ?_)
    refine ⟨_, rfl, ?_, hb⟩
    have := AtI.own (B := w.heap.size) hat (by omega)
    rwa [hl0] at this
theorem specReverseSeriesS (A : Option Addr) (c : Nat) (xs : List Int) (w : World) (hx : Rd w A (ints xs)) (hn : xs.length ≤ 1048576) :
    CallsR Try.prog 54 [.slice A xs.length c] w (SerOut w (RevR xs)) := by
  refine CallsR.enter Try.func54 (by decide +kernel) rfl Try.ntmps54 rfl ?_
  have cx := specOk A c xs w hx (by omega)
  unfold RevR
  cases vx : vld xs
  · rw [vx] at cx
    repeat' (first
      | (refine EL.h (Hv.call cx rfl) rfl (fun _ => rfl) ?_; rintro _ _ ⟨rfl, rfl⟩)
      | (refine EL.h (Hv.build0 rfl rfl) rfl (fun _ => rfl) ?_; rintro v w' ⟨ho, he⟩)
      | refine EW.seq ?_
      | refine EL.f (FV.move rfl) rfl rfl ?_
      | refine EL.f (FV.assign rfl) rfl rfl ?_
      | refine EL.nil ?_
      | refine EW.region ?_
      | refine EW.block ?_
      | refine EW.skip ?_
      | refine EW.exit ?_
      | refine EW.ret ?_
      | refine EW.condT rfl ?_
      | refine EW.condF rfl ?_
      | refine EL.f (FV.addI rfl rfl (by omega)) rfl rfl ?_
      | refine EL.f (FV.subI rfl rfl (by omega)) rfl rfl ?_
      | refine EL.f (FV.remI rfl rfl (by decide) (by omega)) rfl rfl ?_
      | refine EL.f (FV.quoI rfl rfl (by decide) (by omega)) rfl rfl ?_
      | refine EL.f (FV.extract rfl rfl) rfl rfl ?_
      | refine EL.f (FV.len rfl rfl) rfl rfl ?_
      | refine EL.f (FV.lenS rfl rfl) rfl rfl ?_
      | refine EL.f (FV.not rfl) rfl rfl ?_
      | refine EL.skip rfl rfl ?_
      | refine EL.f (FV.pickT rfl rfl) rfl rfl ?_
      | refine EL.f (FV.pickF rfl rfl) rfl rfl ?_
      | refine EL.fT (FV.lss rfl rfl) rfl (fun _ => rfl) (by omega) ?_
      | refine EL.fT (FV.leq rfl rfl) rfl (fun _ => rfl) (by omega) ?_
      | refine EL.fT (FV.gtr rfl rfl) rfl (fun _ => rfl) (by omega) ?_
      | refine EL.fT (FV.geq rfl rfl) rfl (fun _ => rfl) (by omega) ?_
      | refine EL.fT (FV.eql rfl rfl) rfl (fun _ => rfl) (by omega) ?_
      | refine EL.fT (FV.neq rfl rfl) rfl (fun _ => rfl) (by omega) ?_
      | refine EL.fF (FV.lss rfl rfl) rfl (fun _ => rfl) (by omega) ?_
      | refine EL.fF (FV.leq rfl rfl) rfl (fun _ => rfl) (by omega) ?_
      | refine EL.fF (FV.gtr rfl rfl) rfl (fun _ => rfl) (by omega) ?_
      | refine EL.fF (FV.geq rfl rfl) rfl (fun _ => rfl) (by omega) ?_
      | refine EL.fF (FV.eql rfl rfl) rfl (fun _ => rfl) (by omega) ?_
      | refine EL.fF (FV.neq rfl rfl) rfl (fun _ => rfl) (by omega) ?_
      | refine EL.f (FV.rem rfl rfl (by decide)) rfl rfl ?_
      | refine EL.f (FV.idx0 rfl rfl rfl rfl (by omega) (by omega)) rfl rfl ?_
      | refine EL.f (FV.idx1 rfl rfl rfl rfl (by omega) (by omega)) rfl rfl ?_
      | refine EL.f (FV.load1 rfl rfl rfl (by assumption)) rfl rfl ?_)
    exact ⟨_, rfl, v, rfl, ho, he⟩
  rw [vx] at cx
  have hl := vld_len vx
  obtain ⟨b, o, rfl, hc⟩ := hx.all (by rw [ints_length]; omega)
  by_cases g0 : xs.length = 1
  · repeat' (first
      | (refine EL.h (Hv.call cx rfl) rfl (fun _ => rfl) ?_; rintro _ _ ⟨rfl, rfl⟩)
      | (refine EL.h (Hv.build0 rfl rfl) rfl (fun _ => rfl) ?_; rintro v w' ⟨ho, he⟩)
      | refine EW.seq ?_
      | refine EL.f (FV.move rfl) rfl rfl ?_
      | refine EL.f (FV.assign rfl) rfl rfl ?_
      | refine EL.nil ?_
      | refine EW.region ?_
      | refine EW.block ?_
      | refine EW.skip ?_
      | refine EW.exit ?_
      | refine EW.ret ?_
      | refine EW.condT rfl ?_
      | refine EW.condF rfl ?_
      | refine EL.f (FV.addI rfl rfl (by omega)) rfl rfl ?_
      | refine EL.f (FV.subI rfl rfl (by omega)) rfl rfl ?_
      | refine EL.f (FV.remI rfl rfl (by decide) (by omega)) rfl rfl ?_
      | refine EL.f (FV.quoI rfl rfl (by decide) (by omega)) rfl rfl ?_
      | refine EL.f (FV.extract rfl rfl) rfl rfl ?_
      | refine EL.f (FV.len rfl rfl) rfl rfl ?_
      | refine EL.f (FV.lenS rfl rfl) rfl rfl ?_
      | refine EL.f (FV.not rfl) rfl rfl ?_
      | refine EL.skip rfl rfl ?_
      | refine EL.f (FV.pickT rfl rfl) rfl rfl ?_
      | refine EL.f (FV.pickF rfl rfl) rfl rfl ?_
      | refine EL.fT (FV.lss rfl rfl) rfl (fun _ => rfl) (by omega) ?_
      | refine EL.fT (FV.leq rfl rfl) rfl (fun _ => rfl) (by omega) ?_
      | refine EL.fT (FV.gtr rfl rfl) rfl (fun _ => rfl) (by omega) ?_
      | refine EL.fT (FV.geq rfl rfl) rfl (fun _ => rfl) (by omega) ?_
      | refine EL.fT (FV.eql rfl rfl) rfl (fun _ => rfl) (by omega) ?_
      | refine EL.fT (FV.neq rfl rfl) rfl (fun _ => rfl) (by omega) ?_
      | refine EL.fF (FV.lss rfl rfl) rfl (fun _ => rfl) (by omega) ?_
      | refine EL.fF (FV.leq rfl rfl) rfl (fun _ => rfl) (by omega) ?_
      | refine EL.fF (FV.gtr rfl rfl) rfl (fun _ => rfl) (by omega) ?_
      | refine EL.fF (FV.geq rfl rfl) rfl (fun _ => rfl) (by omega) ?_
      | refine EL.fF (FV.eql rfl rfl) rfl (fun _ => rfl) (by omega) ?_
      | refine EL.fF (FV.neq rfl rfl) rfl (fun _ => rfl) (by omega) ?_
      | refine EL.f (FV.rem rfl rfl (by decide)) rfl rfl ?_
      | refine EL.f (FV.idx0 rfl rfl rfl rfl (by omega) (by omega)) rfl rfl ?_
      | refine EL.f (FV.idx1 rfl rfl rfl rfl (by omega) (by omega)) rfl rfl ?_
      | refine EL.f (FV.load1 rfl rfl rfl (by assumption)) rfl rfl ?_)
    rw [if_pos rfl, if_pos g0]
    exact ⟨_, rfl, v, rfl, ho, he⟩
  have hc0 : w.cell? ⟨b, o + 0, none⟩ = some (.int .i64 (xs.getD 0 0)) := hc 0 _ (ints_get (by omega))
  by_cases g1 : xs.getD 0 0 ≠ 0
  · repeat' (first
      | (refine EL.h (Hv.call cx rfl) rfl (fun _ => rfl) ?_; rintro _ _ ⟨rfl, rfl⟩)
      | (refine EL.h (Hv.build0 rfl rfl) rfl (fun _ => rfl) ?_; rintro v w' ⟨ho, he⟩)
      | refine EW.seq ?_
      | refine EL.f (FV.move rfl) rfl rfl ?_
      | refine EL.f (FV.assign rfl) rfl rfl ?_
      | refine EL.nil ?_
      | refine EW.region ?_
      | refine EW.block ?_
      | refine EW.skip ?_
      | refine EW.exit ?_
      | refine EW.ret ?_
      | refine EW.condT rfl ?_
      | refine EW.condF rfl ?_
      | refine EL.f (FV.addI rfl rfl (by omega)) rfl rfl ?_
      | refine EL.f (FV.subI rfl rfl (by omega)) rfl rfl ?_
      | refine EL.f (FV.remI rfl rfl (by decide) (by omega)) rfl rfl ?_
      | refine EL.f (FV.quoI rfl rfl (by decide) (by omega)) rfl rfl ?_
      | refine EL.f (FV.extract rfl rfl) rfl rfl ?_
      | refine EL.f (FV.len rfl rfl) rfl rfl ?_
      | refine EL.f (FV.lenS rfl rfl) rfl rfl ?_
      | refine EL.f (FV.not rfl) rfl rfl ?_
      | refine EL.skip rfl rfl ?_
      | refine EL.f (FV.pickT rfl rfl) rfl rfl ?_
      | refine EL.f (FV.pickF rfl rfl) rfl rfl ?_
      | refine EL.fT (FV.lss rfl rfl) rfl (fun _ => rfl) (by omega) ?_
      | refine EL.fT (FV.leq rfl rfl) rfl (fun _ => rfl) (by omega) ?_
      | refine EL.fT (FV.gtr rfl rfl) rfl (fun _ => rfl) (by omega) ?_
      | refine EL.fT (FV.geq rfl rfl) rfl (fun _ => rfl) (by omega) ?_
      | refine EL.fT (FV.eql rfl rfl) rfl (fun _ => rfl) (by omega) ?_
      | refine EL.fT (FV.neq rfl rfl) rfl (fun _ => rfl) (by omega) ?_
      | refine EL.fF (FV.lss rfl rfl) rfl (fun _ => rfl) (by omega) ?_
      | refine EL.fF (FV.leq rfl rfl) rfl (fun _ => rfl) (by omega) ?_
      | refine EL.fF (FV.gtr rfl rfl) rfl (fun _ => rfl) (by omega) ?_
      | refine EL.fF (FV.geq rfl rfl) rfl (fun _ => rfl) (by omega) ?_
      | refine EL.fF (FV.eql rfl rfl) rfl (fun _ => rfl) (by omega) ?_
      | refine EL.fF (FV.neq rfl rfl) rfl (fun _ => rfl) (by omega) ?_
      | refine EL.f (FV.rem rfl rfl (by decide)) rfl rfl ?_
      | refine EL.f (FV.idx0 rfl rfl rfl rfl (by omega) (by omega)) rfl rfl ?_
      | refine EL.f (FV.idx1 rfl rfl rfl rfl (by omega) (by omega)) rfl rfl ?_
      | refine EL.f (FV.load1 rfl rfl rfl (by assumption)) rfl rfl ?_)
    rw [if_pos rfl, if_neg g0, if_pos g1]
    exact ⟨_, rfl, v, rfl, ho, he⟩
  have hc1 : w.cell? ⟨b, o + 1, none⟩ = some (.int .i64 (xs.getD 1 0)) := hc 1 _ (ints_get (by omega))
  by_cases g2 : xs.getD 1 0 = 0
  · repeat' (first
      | (refine EL.h (Hv.call cx rfl) rfl (fun _ => rfl) ?_; rintro _ _ ⟨rfl, rfl⟩)
      | (refine EL.h (Hv.build0 rfl rfl) rfl (fun _ => rfl) ?_; rintro v w' ⟨ho, he⟩)
      | refine EW.seq ?_
      | refine EL.f (FV.move rfl) rfl rfl ?_
      | refine EL.f (FV.assign rfl) rfl rfl ?_
      | refine EL.nil ?_
      | refine EW.region ?_
      | refine EW.block ?_
      | refine EW.skip ?_
      | refine EW.exit ?_
      | refine EW.ret ?_
      | refine EW.condT rfl ?_
      | refine EW.condF rfl ?_
      | refine EL.f (FV.addI rfl rfl (by omega)) rfl rfl ?_
      | refine EL.f (FV.subI rfl rfl (by omega)) rfl rfl ?_
      | refine EL.f (FV.remI rfl rfl (by decide) (by omega)) rfl rfl ?_
      | refine EL.f (FV.quoI rfl rfl (by decide) (by omega)) rfl rfl ?_
      | refine EL.f (FV.extract rfl rfl) rfl rfl ?_
      | refine EL.f (FV.len rfl rfl) rfl rfl ?_
      | refine EL.f (FV.lenS rfl rfl) rfl rfl ?_
      | refine EL.f (FV.not rfl) rfl rfl ?_
      | refine EL.skip rfl rfl ?_
      | refine EL.f (FV.pickT rfl rfl) rfl rfl ?_
      | refine EL.f (FV.pickF rfl rfl) rfl rfl ?_
      | refine EL.fT (FV.lss rfl rfl) rfl (fun _ => rfl) (by omega) ?_
      | refine EL.fT (FV.leq rfl rfl) rfl (fun _ => rfl) (by omega) ?_
      | refine EL.fT (FV.gtr rfl rfl) rfl (fun _ => rfl) (by omega) ?_
      | refine EL.fT (FV.geq rfl rfl) rfl (fun _ => rfl) (by omega) ?_
      | refine EL.fT (FV.eql rfl rfl) rfl (fun _ => rfl) (by omega) ?_
      | refine EL.fT (FV.neq rfl rfl) rfl (fun _ => rfl) (by omega) ?_
      | refine EL.fF (FV.lss rfl rfl) rfl (fun _ => rfl) (by omega) ?_
      | refine EL.fF (FV.leq rfl rfl) rfl (fun _ => rfl) (by omega) ?_
      | refine EL.fF (FV.gtr rfl rfl) rfl (fun _ => rfl) (by omega) ?_
      | refine EL.fF (FV.geq rfl rfl) rfl (fun _ => rfl) (by omega) ?_
      | refine EL.fF (FV.eql rfl rfl) rfl (fun _ => rfl) (by omega) ?_
      | refine EL.fF (FV.neq rfl rfl) rfl (fun _ => rfl) (by omega) ?_
      | refine EL.f (FV.rem rfl rfl (by decide)) rfl rfl ?_
      | refine EL.f (FV.idx0 rfl rfl rfl rfl (by omega) (by omega)) rfl rfl ?_
      | refine EL.f (FV.idx1 rfl rfl rfl rfl (by omega) (by omega)) rfl rfl ?_
      | refine EL.f (FV.load1 rfl rfl rfl (by assumption)) rfl rfl ?_)
    rw [if_pos rfl, if_neg g0, if_neg g1, if_pos g2]
    exact ⟨_, rfl, v, rfl, ho, he⟩
  rw [if_pos rfl, if_neg g0, if_neg g1, if_neg g2]
  repeat' (first
    | (refine EL.h (Hv.call cx rfl) rfl (fun _ => rfl) ?_; rintro _ _ ⟨rfl, rfl⟩)
    | (refine EL.h (Hv.call (specReverse _ c xs w hx (by omega) (by omega) hl.2.2) rfl) rfl (fun _ => rfl) ?_; rintro v w' ⟨ho, he⟩)
    | refine EW.seq ?_
    | refine EL.f (FV.move rfl) rfl rfl ?_
    | refine EL.f (FV.assign rfl) rfl rfl ?_
    | refine EL.nil ?_
    | refine EW.region ?_
    | refine EW.block ?_
    | refine EW.skip ?_
    | refine EW.exit ?_
    | refine EW.ret ?_
    | refine EW.condT rfl ?_
    | refine EW.condF rfl ?_
    | refine EL.f (FV.addI rfl rfl (by omega)) rfl rfl ?_
    | refine EL.f (FV.subI rfl rfl (by omega)) rfl rfl ?_
    | refine EL.f (FV.remI rfl rfl (by decide) (by omega)) rfl rfl ?_
    | refine EL.f (FV.quoI rfl rfl (by decide) (by omega)) rfl rfl ?_
    | refine EL.f (FV.extract rfl rfl) rfl rfl ?_
    | refine EL.f (FV.len rfl rfl) rfl rfl ?_
    | refine EL.f (FV.lenS rfl rfl) rfl rfl ?_
    | refine EL.f (FV.not rfl) rfl rfl ?_
    | refine EL.skip rfl rfl ?_
    | refine EL.f (FV.pickT rfl rfl) rfl rfl ?_
    | refine EL.f (FV.pickF rfl rfl) rfl rfl ?_
    | refine EL.fT (FV.lss rfl rfl) rfl (fun _ => rfl) (by omega) ?_
    | refine EL.fT (FV.leq rfl rfl) rfl (fun _ => rfl) (by omega) ?_
    | refine EL.fT (FV.gtr rfl rfl) rfl (fun _ => rfl) (by omega) ?_
    | refine EL.fT (FV.geq rfl rfl) rfl (fun _ => rfl) (by omega) ?_
    | refine EL.fT (FV.eql rfl rfl) rfl (fun _ => rfl) (by omega) ?_
    | refine EL.fT (FV.neq rfl rfl) rfl (fun _ => rfl) (by omega) ?_
    | refine EL.fF (FV.lss rfl rfl) rfl (fun _ => rfl) (by omega) ?_
    | refine EL.fF (FV.leq rfl rfl) rfl (fun _ => rfl) (by omega) ?_
    | refine EL.fF (FV.gtr rfl rfl) rfl (fun _ => rfl) (by omega) ?_
    | refine EL.fF (FV.geq rfl rfl) rfl (fun _ => rfl) (by omega) ?_
    | refine EL.fF (FV.eql rfl rfl) rfl (fun _ => rfl) (by omega) ?_
    | refine EL.fF (FV.neq rfl rfl) rfl (fun _ => rfl) (by omega) ?_
    | refine EL.f (FV.rem rfl rfl (by decide)) rfl rfl ?_
    | refine EL.f (FV.idx0 rfl rfl rfl rfl (by omega) (by omega)) rfl rfl ?_
    | refine EL.f (FV.idx1 rfl rfl rfl rfl (by omega) (by omega)) rfl rfl ?_
    | refine EL.f (FV.load1 rfl rfl rfl (by assumption)) rfl rfl ?_)
  exact ⟨_, rfl, v, rfl, ho, he⟩
theorem lawReverseSeries (A0 : Option Addr) (c0 : Nat) (xs0 : List Int) (w : World) (h0 : Rd w A0 (ints xs0)) : CallsR Try.prog 18 [.slice A0 xs0.length c0] w fun v w' => v = .bool true ∧ Ext w w' := by
  refine CallsR.enter Try.func18 (by decide +kernel) rfl Try.ntmps18 rfl ?_
  by_cases hl0 : (1048576 : Int) < xs0.length
  · repeat' (first
      | refine EW.seq ?_
      | refine EL.f (FV.move rfl) rfl rfl ?_
      | refine EL.f (FV.assign rfl) rfl rfl ?_
      | refine EL.nil ?_
      | refine EW.region ?_
      | refine EW.block ?_
      | refine EW.skip ?_
      | refine EW.exit ?_
      | refine EW.ret ?_
      | refine EW.condT rfl ?_
      | refine EW.condF rfl ?_
      | refine EL.f (FV.addI rfl rfl (by omega)) rfl rfl ?_
      | refine EL.f (FV.subI rfl rfl (by omega)) rfl rfl ?_
      | refine EL.f (FV.remI rfl rfl (by decide) (by omega)) rfl rfl ?_
      | refine EL.f (FV.quoI rfl rfl (by decide) (by omega)) rfl rfl ?_
      | refine EL.f (FV.extract rfl rfl) rfl rfl ?_
      | refine EL.f (FV.len rfl rfl) rfl rfl ?_
      | refine EL.f (FV.lenS rfl rfl) rfl rfl ?_
      | refine EL.f (FV.not rfl) rfl rfl ?_
      | refine EL.skip rfl rfl ?_
      | refine EL.f (FV.pickT rfl rfl) rfl rfl ?_
      | refine EL.f (FV.pickF rfl rfl) rfl rfl ?_
      | refine EL.fT (FV.lss rfl rfl) rfl (fun _ => rfl) (by omega) ?_
      | refine EL.fT (FV.leq rfl rfl) rfl (fun _ => rfl) (by omega) ?_
      | refine EL.fT (FV.gtr rfl rfl) rfl (fun _ => rfl) (by omega) ?_
      | refine EL.fT (FV.geq rfl rfl) rfl (fun _ => rfl) (by omega) ?_
      | refine EL.fT (FV.eql rfl rfl) rfl (fun _ => rfl) (by omega) ?_
      | refine EL.fT (FV.neq rfl rfl) rfl (fun _ => rfl) (by omega) ?_
      | refine EL.fF (FV.lss rfl rfl) rfl (fun _ => rfl) (by omega) ?_
      | refine EL.fF (FV.leq rfl rfl) rfl (fun _ => rfl) (by omega) ?_
      | refine EL.fF (FV.gtr rfl rfl) rfl (fun _ => rfl) (by omega) ?_
      | refine EL.fF (FV.geq rfl rfl) rfl (fun _ => rfl) (by omega) ?_
      | refine EL.fF (FV.eql rfl rfl) rfl (fun _ => rfl) (by omega) ?_
      | refine EL.fF (FV.neq rfl rfl) rfl (fun _ => rfl) (by omega) ?_
      | refine EL.f (FV.rem rfl rfl (by decide)) rfl rfl ?_
      | refine EL.f (FV.idx0 rfl rfl rfl rfl (by omega) (by omega)) rfl rfl ?_
      | refine EL.f (FV.idx1 rfl rfl rfl rfl (by omega) (by omega)) rfl rfl ?_
      | refine EL.f (FV.load1 rfl rfl rfl (by assumption)) rfl rfl ?_)
    exact ⟨_, rfl, rfl, Ext.refl _⟩
  have hn0 : xs0.length ≤ 1048576 := by omega
  have hr := RevR_len xs0
  repeat' (first
    | refine EW.seq ?_
    | refine EL.f (FV.move rfl) rfl rfl ?_
    | refine EL.f (FV.assign rfl) rfl rfl ?_
    | refine EL.nil ?_
    | refine EW.region ?_
    | refine EW.block ?_
    | refine EW.skip ?_
    | refine EW.exit ?_
    | refine EW.ret ?_
    | refine EW.condT rfl ?_
    | refine EW.condF rfl ?_
    | refine EL.f (FV.addI rfl rfl (by omega)) rfl rfl ?_
    | refine EL.f (FV.subI rfl rfl (by omega)) rfl rfl ?_
    | refine EL.f (FV.remI rfl rfl (by decide) (by omega)) rfl rfl ?_
    | refine EL.f (FV.quoI rfl rfl (by decide) (by omega)) rfl rfl ?_
    | refine EL.f (FV.extract rfl rfl) rfl rfl ?_
    | refine EL.f (FV.len rfl rfl) rfl rfl ?_
    | refine EL.f (FV.lenS rfl rfl) rfl rfl ?_
    | refine EL.f (FV.not rfl) rfl rfl ?_
    | refine EL.skip rfl rfl ?_
    | refine EL.f (FV.pickT rfl rfl) rfl rfl ?_
    | refine EL.f (FV.pickF rfl rfl) rfl rfl ?_
    | refine EL.fT (FV.lss rfl rfl) rfl (fun _ => rfl) (by omega) ?_
    | refine EL.fT (FV.leq rfl rfl) rfl (fun _ => rfl) (by omega) ?_
    | refine EL.fT (FV.gtr rfl rfl) rfl (fun _ => rfl) (by omega) ?_
    | refine EL.fT (FV.geq rfl rfl) rfl (fun _ => rfl) (by omega) ?_
    | refine EL.fT (FV.eql rfl rfl) rfl (fun _ => rfl) (by omega) ?_
    | refine EL.fT (FV.neq rfl rfl) rfl (fun _ => rfl) (by omega) ?_
    | refine EL.fF (FV.lss rfl rfl) rfl (fun _ => rfl) (by omega) ?_
    | refine EL.fF (FV.leq rfl rfl) rfl (fun _ => rfl) (by omega) ?_
    | refine EL.fF (FV.gtr rfl rfl) rfl (fun _ => rfl) (by omega) ?_
    | refine EL.fF (FV.geq rfl rfl) rfl (fun _ => rfl) (by omega) ?_
    | refine EL.fF (FV.eql rfl rfl) rfl (fun _ => rfl) (by omega) ?_
    | refine EL.fF (FV.neq rfl rfl) rfl (fun _ => rfl) (by omega) ?_
    | refine EL.f (FV.rem rfl rfl (by decide)) rfl rfl ?_
    | refine EL.f (FV.idx0 rfl rfl rfl rfl (by omega) (by omega)) rfl rfl ?_
    | refine EL.f (FV.idx1 rfl rfl rfl rfl (by omega) (by omega)) rfl rfl ?_
    | refine EL.f (FV.load1 rfl rfl rfl (by assumption)) rfl rfl ?_)
  refine EL.h (Hv.call (toInts A0 c0 xs0 w (h0.ext (Ext.refl w)) hn0) rfl) rfl (fun _ => rfl) ?_
  rintro _ u1 ⟨p0, rfl, pb0, pt0, e1⟩
  have W1 := (Ext.refl w).trans e1
  repeat' (first
    | refine EW.seq ?_
    | refine EL.f (FV.move rfl) rfl rfl ?_
    | refine EL.f (FV.assign rfl) rfl rfl ?_
    | refine EL.nil ?_
    | refine EW.region ?_
    | refine EW.block ?_
    | refine EW.skip ?_
    | refine EW.exit ?_
    | refine EW.ret ?_
    | refine EW.condT rfl ?_
    | refine EW.condF rfl ?_
    | refine EL.f (FV.addI rfl rfl (by omega)) rfl rfl ?_
    | refine EL.f (FV.subI rfl rfl (by omega)) rfl rfl ?_
    | refine EL.f (FV.remI rfl rfl (by decide) (by omega)) rfl rfl ?_
    | refine EL.f (FV.quoI rfl rfl (by decide) (by omega)) rfl rfl ?_
    | refine EL.f (FV.extract rfl rfl) rfl rfl ?_
    | refine EL.f (FV.len rfl rfl) rfl rfl ?_
    | refine EL.f (FV.lenS rfl rfl) rfl rfl ?_
    | refine EL.f (FV.not rfl) rfl rfl ?_
    | refine EL.skip rfl rfl ?_
    | refine EL.f (FV.pickT rfl rfl) rfl rfl ?_
    | refine EL.f (FV.pickF rfl rfl) rfl rfl ?_
    | refine EL.fT (FV.lss rfl rfl) rfl (fun _ => rfl) (by omega) ?_
    | refine EL.fT (FV.leq rfl rfl) rfl (fun _ => rfl) (by omega) ?_
    | refine EL.fT (FV.gtr rfl rfl) rfl (fun _ => rfl) (by omega) ?_
    | refine EL.fT (FV.geq rfl rfl) rfl (fun _ => rfl) (by omega) ?_
    | refine EL.fT (FV.eql rfl rfl) rfl (fun _ => rfl) (by omega) ?_
    | refine EL.fT (FV.neq rfl rfl) rfl (fun _ => rfl) (by omega) ?_
    | refine EL.fF (FV.lss rfl rfl) rfl (fun _ => rfl) (by omega) ?_
    | refine EL.fF (FV.leq rfl rfl) rfl (fun _ => rfl) (by omega) ?_
    | refine EL.fF (FV.gtr rfl rfl) rfl (fun _ => rfl) (by omega) ?_
    | refine EL.fF (FV.geq rfl rfl) rfl (fun _ => rfl) (by omega) ?_
    | refine EL.fF (FV.eql rfl rfl) rfl (fun _ => rfl) (by omega) ?_
    | refine EL.fF (FV.neq rfl rfl) rfl (fun _ => rfl) (by omega) ?_
    | refine EL.f (FV.rem rfl rfl (by decide)) rfl rfl ?_
    | refine EL.f (FV.idx0 rfl rfl rfl rfl (by omega) (by omega)) rfl rfl ?_
    | refine EL.f (FV.idx1 rfl rfl rfl rfl (by omega) (by omega)) rfl rfl ?_
    | refine EL.f (FV.load1 rfl rfl rfl (by assumption)) rfl rfl ?_)
  refine EL.h (Hv.call (specReverseSeriesS (some ⟨p0, 0, none⟩) _ xs0 u1 (At.rd pt0) hn0) rfl) rfl (fun _ => rfl) ?_
  rintro _ u2 ⟨sv, rfl, sown, e2⟩
  have W2 := W1.trans e2
  obtain ⟨SA, sc, rfl, sr⟩ := sown.form
  repeat' (first
    | refine EW.seq ?_
    | refine EL.f (FV.move rfl) rfl rfl ?_
    | refine EL.f (FV.assign rfl) rfl rfl ?_
    | refine EL.nil ?_
    | refine EW.region ?_
    | refine EW.block ?_
    | refine EW.skip ?_
    | refine EW.exit ?_
    | refine EW.ret ?_
    | refine EW.condT rfl ?_
    | refine EW.condF rfl ?_
    | refine EL.f (FV.addI rfl rfl (by omega)) rfl rfl ?_
    | refine EL.f (FV.subI rfl rfl (by omega)) rfl rfl ?_
    | refine EL.f (FV.remI rfl rfl (by decide) (by omega)) rfl rfl ?_
    | refine EL.f (FV.quoI rfl rfl (by decide) (by omega)) rfl rfl ?_
    | refine EL.f (FV.extract rfl rfl) rfl rfl ?_
    | refine EL.f (FV.len rfl rfl) rfl rfl ?_
    | refine EL.f (FV.lenS rfl rfl) rfl rfl ?_
    | refine EL.f (FV.not rfl) rfl rfl ?_
    | refine EL.skip rfl rfl ?_
    | refine EL.f (FV.pickT rfl rfl) rfl rfl ?_
    | refine EL.f (FV.pickF rfl rfl) rfl rfl ?_
    | refine EL.fT (FV.lss rfl rfl) rfl (fun _ => rfl) (by omega) ?_
    | refine EL.fT (FV.leq rfl rfl) rfl (fun _ => rfl) (by omega) ?_
    | refine EL.fT (FV.gtr rfl rfl) rfl (fun _ => rfl) (by omega) ?_
    | refine EL.fT (FV.geq rfl rfl) rfl (fun _ => rfl) (by omega) ?_
    | refine EL.fT (FV.eql rfl rfl) rfl (fun _ => rfl) (by omega) ?_
    | refine EL.fT (FV.neq rfl rfl) rfl (fun _ => rfl) (by omega) ?_
    | refine EL.fF (FV.lss rfl rfl) rfl (fun _ => rfl) (by omega) ?_
    | refine EL.fF (FV.leq rfl rfl) rfl (fun _ => rfl) (by omega) ?_
    | refine EL.fF (FV.gtr rfl rfl) rfl (fun _ => rfl) (by omega) ?_
    | refine EL.fF (FV.geq rfl rfl) rfl (fun _ => rfl) (by omega) ?_
    | refine EL.fF (FV.eql rfl rfl) rfl (fun _ => rfl) (by omega) ?_
    | refine EL.fF (FV.neq rfl rfl) rfl (fun _ => rfl) (by omega) ?_
    | refine EL.f (FV.rem rfl rfl (by decide)) rfl rfl ?_
    | refine EL.f (FV.idx0 rfl rfl rfl rfl (by omega) (by omega)) rfl rfl ?_
    | refine EL.f (FV.idx1 rfl rfl rfl rfl (by omega) (by omega)) rfl rfl ?_
    | refine EL.f (FV.load1 rfl rfl rfl (by assumption)) rfl rfl ?_)
  refine EL.h (Hv.call (toInts A0 c0 xs0 u2 (h0.ext W2) hn0) rfl) rfl (fun _ => rfl) ?_
  rintro _ u3 ⟨x0, rfl, xb0, xt0, e3⟩
  have W3 := W2.trans e3
  have S3 := (Ext.refl u2).trans e3
  have xl0 := At.lt xt0
  repeat' (first
    | refine EW.seq ?_
    | refine EL.f (FV.move rfl) rfl rfl ?_
    | refine EL.f (FV.assign rfl) rfl rfl ?_
    | refine EL.nil ?_
    | refine EW.region ?_
    | refine EW.block ?_
    | refine EW.skip ?_
    | refine EW.exit ?_
    | refine EW.ret ?_
    | refine EW.condT rfl ?_
    | refine EW.condF rfl ?_
    | refine EL.f (FV.addI rfl rfl (by omega)) rfl rfl ?_
    | refine EL.f (FV.subI rfl rfl (by omega)) rfl rfl ?_
    | refine EL.f (FV.remI rfl rfl (by decide) (by omega)) rfl rfl ?_
    | refine EL.f (FV.quoI rfl rfl (by decide) (by omega)) rfl rfl ?_
    | refine EL.f (FV.extract rfl rfl) rfl rfl ?_
    | refine EL.f (FV.len rfl rfl) rfl rfl ?_
    | refine EL.f (FV.lenS rfl rfl) rfl rfl ?_
    | refine EL.f (FV.not rfl) rfl rfl ?_
    | refine EL.skip rfl rfl ?_
    | refine EL.f (FV.pickT rfl rfl) rfl rfl ?_
    | refine EL.f (FV.pickF rfl rfl) rfl rfl ?_
    | refine EL.fT (FV.lss rfl rfl) rfl (fun _ => rfl) (by omega) ?_
    | refine EL.fT (FV.leq rfl rfl) rfl (fun _ => rfl) (by omega) ?_
    | refine EL.fT (FV.gtr rfl rfl) rfl (fun _ => rfl) (by omega) ?_
    | refine EL.fT (FV.geq rfl rfl) rfl (fun _ => rfl) (by omega) ?_
    | refine EL.fT (FV.eql rfl rfl) rfl (fun _ => rfl) (by omega) ?_
    | refine EL.fT (FV.neq rfl rfl) rfl (fun _ => rfl) (by omega) ?_
    | refine EL.fF (FV.lss rfl rfl) rfl (fun _ => rfl) (by omega) ?_
    | refine EL.fF (FV.leq rfl rfl) rfl (fun _ => rfl) (by omega) ?_
    | refine EL.fF (FV.gtr rfl rfl) rfl (fun _ => rfl) (by omega) ?_
    | refine EL.fF (FV.geq rfl rfl) rfl (fun _ => rfl) (by omega) ?_
    | refine EL.fF (FV.eql rfl rfl) rfl (fun _ => rfl) (by omega) ?_
    | refine EL.fF (FV.neq rfl rfl) rfl (fun _ => rfl) (by omega) ?_
    | refine EL.f (FV.rem rfl rfl (by decide)) rfl rfl ?_
    | refine EL.f (FV.idx0 rfl rfl rfl rfl (by omega) (by omega)) rfl rfl ?_
    | refine EL.f (FV.idx1 rfl rfl rfl rfl (by omega) (by omega)) rfl rfl ?_
    | refine EL.f (FV.load1 rfl rfl rfl (by assumption)) rfl rfl ?_)
  refine EL.h (Hv.call (implReverseSeriesS (some ⟨x0, 0, none⟩) _ xs0 u3 (At.rd xt0) hn0) rfl) rfl (fun _ => rfl) ?_
  rintro _ u4 ⟨gv, rfl, gown, e4⟩
  have W4 := W3.trans e4
  have S4 := S3.trans e4
  replace xt0 := At.ext xt0 e4
  obtain ⟨GA, gc, rfl, _⟩ := gown.form
  have xg0 : x0 < u3.heap.size := by have := xl0;  omega
  have xs_0 : u2.heap.size ≤ x0 := by have := xb0;  omega
  have ug : u2.heap.size ≤ u3.heap.size := by have := e3.size; omega
  repeat' (first
    | refine EW.seq ?_
    | refine EL.f (FV.move rfl) rfl rfl ?_
    | refine EL.f (FV.assign rfl) rfl rfl ?_
    | refine EL.nil ?_
    | refine EW.region ?_
    | refine EW.block ?_
    | refine EW.skip ?_
    | refine EW.exit ?_
    | refine EW.ret ?_
    | refine EW.condT rfl ?_
    | refine EW.condF rfl ?_
    | refine EL.f (FV.addI rfl rfl (by omega)) rfl rfl ?_
    | refine EL.f (FV.subI rfl rfl (by omega)) rfl rfl ?_
    | refine EL.f (FV.remI rfl rfl (by decide) (by omega)) rfl rfl ?_
    | refine EL.f (FV.quoI rfl rfl (by decide) (by omega)) rfl rfl ?_
    | refine EL.f (FV.extract rfl rfl) rfl rfl ?_
    | refine EL.f (FV.len rfl rfl) rfl rfl ?_
    | refine EL.f (FV.lenS rfl rfl) rfl rfl ?_
    | refine EL.f (FV.not rfl) rfl rfl ?_
    | refine EL.skip rfl rfl ?_
    | refine EL.f (FV.pickT rfl rfl) rfl rfl ?_
    | refine EL.f (FV.pickF rfl rfl) rfl rfl ?_
    | refine EL.fT (FV.lss rfl rfl) rfl (fun _ => rfl) (by omega) ?_
    | refine EL.fT (FV.leq rfl rfl) rfl (fun _ => rfl) (by omega) ?_
    | refine EL.fT (FV.gtr rfl rfl) rfl (fun _ => rfl) (by omega) ?_
    | refine EL.fT (FV.geq rfl rfl) rfl (fun _ => rfl) (by omega) ?_
    | refine EL.fT (FV.eql rfl rfl) rfl (fun _ => rfl) (by omega) ?_
    | refine EL.fT (FV.neq rfl rfl) rfl (fun _ => rfl) (by omega) ?_
    | refine EL.fF (FV.lss rfl rfl) rfl (fun _ => rfl) (by omega) ?_
    | refine EL.fF (FV.leq rfl rfl) rfl (fun _ => rfl) (by omega) ?_
    | refine EL.fF (FV.gtr rfl rfl) rfl (fun _ => rfl) (by omega) ?_
    | refine EL.fF (FV.geq rfl rfl) rfl (fun _ => rfl) (by omega) ?_
    | refine EL.fF (FV.eql rfl rfl) rfl (fun _ => rfl) (by omega) ?_
    | refine EL.fF (FV.neq rfl rfl) rfl (fun _ => rfl) (by omega) ?_
    | refine EL.f (FV.rem rfl rfl (by decide)) rfl rfl ?_
    | refine EL.f (FV.idx0 rfl rfl rfl rfl (by omega) (by omega)) rfl rfl ?_
    | refine EL.f (FV.idx1 rfl rfl rfl rfl (by omega) (by omega)) rfl rfl ?_
    | refine EL.f (FV.load1 rfl rfl rfl (by assumption)) rfl rfl ?_)
  refine EL.h (Hv.call (eqSame GA SA gc sc _ u4 (OwnI.rd gown) (sr.ext S4) hr) rfl) rfl (fun _ => rfl) ?_
  rintro _ u5 ⟨rfl, e5⟩
  have W5 := W4.trans e5
  have S5 := S4.trans e5
  replace xt0 := At.ext xt0 e5
  replace gown := OwnI.ext gown e5
  repeat' (first
    | refine EW.seq ?_
    | refine EL.f (FV.move rfl) rfl rfl ?_
    | refine EL.f (FV.assign rfl) rfl rfl ?_
    | refine EL.nil ?_
    | refine EW.region ?_
    | refine EW.block ?_
    | refine EW.skip ?_
    | refine EW.exit ?_
    | refine EW.ret ?_
    | refine EW.condT rfl ?_
    | refine EW.condF rfl ?_
    | refine EL.f (FV.addI rfl rfl (by omega)) rfl rfl ?_
    | refine EL.f (FV.subI rfl rfl (by omega)) rfl rfl ?_
    | refine EL.f (FV.remI rfl rfl (by decide) (by omega)) rfl rfl ?_
    | refine EL.f (FV.quoI rfl rfl (by decide) (by omega)) rfl rfl ?_
    | refine EL.f (FV.extract rfl rfl) rfl rfl ?_
    | refine EL.f (FV.len rfl rfl) rfl rfl ?_
    | refine EL.f (FV.lenS rfl rfl) rfl rfl ?_
    | refine EL.f (FV.not rfl) rfl rfl ?_
    | refine EL.skip rfl rfl ?_
    | refine EL.f (FV.pickT rfl rfl) rfl rfl ?_
    | refine EL.f (FV.pickF rfl rfl) rfl rfl ?_
    | refine EL.fT (FV.lss rfl rfl) rfl (fun _ => rfl) (by omega) ?_
    | refine EL.fT (FV.leq rfl rfl) rfl (fun _ => rfl) (by omega) ?_
    | refine EL.fT (FV.gtr rfl rfl) rfl (fun _ => rfl) (by omega) ?_
    | refine EL.fT (FV.geq rfl rfl) rfl (fun _ => rfl) (by omega) ?_
    | refine EL.fT (FV.eql rfl rfl) rfl (fun _ => rfl) (by omega) ?_
    | refine EL.fT (FV.neq rfl rfl) rfl (fun _ => rfl) (by omega) ?_
    | refine EL.fF (FV.lss rfl rfl) rfl (fun _ => rfl) (by omega) ?_
    | refine EL.fF (FV.leq rfl rfl) rfl (fun _ => rfl) (by omega) ?_
    | refine EL.fF (FV.gtr rfl rfl) rfl (fun _ => rfl) (by omega) ?_
    | refine EL.fF (FV.geq rfl rfl) rfl (fun _ => rfl) (by omega) ?_
    | refine EL.fF (FV.eql rfl rfl) rfl (fun _ => rfl) (by omega) ?_
    | refine EL.fF (FV.neq rfl rfl) rfl (fun _ => rfl) (by omega) ?_
    | refine EL.f (FV.rem rfl rfl (by decide)) rfl rfl ?_
    | refine EL.f (FV.idx0 rfl rfl rfl rfl (by omega) (by omega)) rfl rfl ?_
    | refine EL.f (FV.idx1 rfl rfl rfl rfl (by omega) (by omega)) rfl rfl ?_
    | refine EL.f (FV.load1 rfl rfl rfl (by assumption)) rfl rfl ?_)
  refine EL.h (Hv.call (toInts A0 c0 xs0 u5 (h0.ext W5) hn0) rfl) rfl (fun _ => rfl) ?_
  rintro _ u6 ⟨y0, rfl, yb0, yt0, e6⟩
  have W6 := W5.trans e6
  have S6 := S5.trans e6
  replace xt0 := At.ext xt0 e6
  replace gown := OwnI.ext gown e6
  repeat' (first
    | refine EW.seq ?_
    | refine EL.f (FV.move rfl) rfl rfl ?_
    | refine EL.f (FV.assign rfl) rfl rfl ?_
    | refine EL.nil ?_
    | refine EW.region ?_
    | refine EW.block ?_
    | refine EW.skip ?_
    | refine EW.exit ?_
    | refine EW.ret ?_
    | refine EW.condT rfl ?_
    | refine EW.condF rfl ?_
    | refine EL.f (FV.addI rfl rfl (by omega)) rfl rfl ?_
    | refine EL.f (FV.subI rfl rfl (by omega)) rfl rfl ?_
    | refine EL.f (FV.remI rfl rfl (by decide) (by omega)) rfl rfl ?_
    | refine EL.f (FV.quoI rfl rfl (by decide) (by omega)) rfl rfl ?_
    | refine EL.f (FV.extract rfl rfl) rfl rfl ?_
    | refine EL.f (FV.len rfl rfl) rfl rfl ?_
    | refine EL.f (FV.lenS rfl rfl) rfl rfl ?_
    | refine EL.f (FV.not rfl) rfl rfl ?_
    | refine EL.skip rfl rfl ?_
    | refine EL.f (FV.pickT rfl rfl) rfl rfl ?_
    | refine EL.f (FV.pickF rfl rfl) rfl rfl ?_
    | refine EL.fT (FV.lss rfl rfl) rfl (fun _ => rfl) (by omega) ?_
    | refine EL.fT (FV.leq rfl rfl) rfl (fun _ => rfl) (by omega) ?_
    | refine EL.fT (FV.gtr rfl rfl) rfl (fun _ => rfl) (by omega) ?_
    | refine EL.fT (FV.geq rfl rfl) rfl (fun _ => rfl) (by omega) ?_
    | refine EL.fT (FV.eql rfl rfl) rfl (fun _ => rfl) (by omega) ?_
    | refine EL.fT (FV.neq rfl rfl) rfl (fun _ => rfl) (by omega) ?_
    | refine EL.fF (FV.lss rfl rfl) rfl (fun _ => rfl) (by omega) ?_
    | refine EL.fF (FV.leq rfl rfl) rfl (fun _ => rfl) (by omega) ?_
    | refine EL.fF (FV.gtr rfl rfl) rfl (fun _ => rfl) (by omega) ?_
    | refine EL.fF (FV.geq rfl rfl) rfl (fun _ => rfl) (by omega) ?_
    | refine EL.fF (FV.eql rfl rfl) rfl (fun _ => rfl) (by omega) ?_
    | refine EL.fF (FV.neq rfl rfl) rfl (fun _ => rfl) (by omega) ?_
    | refine EL.f (FV.rem rfl rfl (by decide)) rfl rfl ?_
    | refine EL.f (FV.idx0 rfl rfl rfl rfl (by omega) (by omega)) rfl rfl ?_
    | refine EL.f (FV.idx1 rfl rfl rfl rfl (by omega) (by omega)) rfl rfl ?_
    | refine EL.f (FV.load1 rfl rfl rfl (by assumption)) rfl rfl ?_)
  refine EL.h (Hv.call (eqSame (some ⟨x0, 0, none⟩) (some ⟨y0, 0, none⟩) _ _ xs0 u6 (At.rd xt0) (At.rd yt0) hn0) rfl) rfl (fun _ => rfl) ?_
  rintro _ u7 ⟨rfl, e7⟩
  have W7 := W6.trans e7
  have S7 := S6.trans e7
  replace xt0 := At.ext xt0 e7
  replace gown := OwnI.ext gown e7
  repeat' (first
    | refine EW.seq ?_
    | refine EL.f (FV.move rfl) rfl rfl ?_
    | refine EL.f (FV.assign rfl) rfl rfl ?_
    | refine EL.nil ?_
    | refine EW.region ?_
    | refine EW.block ?_
    | refine EW.skip ?_
    | refine EW.exit ?_
    | refine EW.ret ?_
    | refine EW.condT rfl ?_
    | refine EW.condF rfl ?_
    | refine EL.f (FV.addI rfl rfl (by omega)) rfl rfl ?_
    | refine EL.f (FV.subI rfl rfl (by omega)) rfl rfl ?_
    | refine EL.f (FV.remI rfl rfl (by decide) (by omega)) rfl rfl ?_
    | refine EL.f (FV.quoI rfl rfl (by decide) (by omega)) rfl rfl ?_
    | refine EL.f (FV.extract rfl rfl) rfl rfl ?_
    | refine EL.f (FV.len rfl rfl) rfl rfl ?_
    | refine EL.f (FV.lenS rfl rfl) rfl rfl ?_
    | refine EL.f (FV.not rfl) rfl rfl ?_
    | refine EL.skip rfl rfl ?_
    | refine EL.f (FV.pickT rfl rfl) rfl rfl ?_
    | refine EL.f (FV.pickF rfl rfl) rfl rfl ?_
    | refine EL.fT (FV.lss rfl rfl) rfl (fun _ => rfl) (by omega) ?_
    | refine EL.fT (FV.leq rfl rfl) rfl (fun _ => rfl) (by omega) ?_
    | refine EL.fT (FV.gtr rfl rfl) rfl (fun _ => rfl) (by omega) ?_
    | refine EL.fT (FV.geq rfl rfl) rfl (fun _ => rfl) (by omega) ?_
    | refine EL.fT (FV.eql rfl rfl) rfl (fun _ => rfl) (by omega) ?_
    | refine EL.fT (FV.neq rfl rfl) rfl (fun _ => rfl) (by omega) ?_
    | refine EL.fF (FV.lss rfl rfl) rfl (fun _ => rfl) (by omega) ?_
    | refine EL.fF (FV.leq rfl rfl) rfl (fun _ => rfl) (by omega) ?_
    | refine EL.fF (FV.gtr rfl rfl) rfl (fun _ => rfl) (by omega) ?_
    | refine EL.fF (FV.geq rfl rfl) rfl (fun _ => rfl) (by omega) ?_
    | refine EL.fF (FV.eql rfl rfl) rfl (fun _ => rfl) (by omega) ?_
    | refine EL.fF (FV.neq rfl rfl) rfl (fun _ => rfl) (by omega) ?_
    | refine EL.f (FV.rem rfl rfl (by decide)) rfl rfl ?_
    | refine EL.f (FV.idx0 rfl rfl rfl rfl (by omega) (by omega)) rfl rfl ?_
    | refine EL.f (FV.idx1 rfl rfl rfl rfl (by omega) (by omega)) rfl rfl ?_
    | refine EL.f (FV.load1 rfl rfl rfl (by assumption)) rfl rfl ?_)
  refine EL.h (Hv.call (markInts _ x0 xs0 (1) u7 (AtI.own (B := x0) xt0 (Nat.le_refl _)) hn0 (by omega)) rfl) rfl (fun _ => rfl) ?_
  rintro _ u8 ⟨rfl, _, gr0⟩
  have W8 := Ext.mark (g := x0) W7 gr0 (by have := xs_0; have := W2.size; omega)
  have S8 := Ext.mark (g := x0) S7 gr0 xs_0
  replace gown := OwnI.keep (g := x0) gown gr0 xg0
  repeat' (first
    | refine EW.seq ?_
    | refine EL.f (FV.move rfl) rfl rfl ?_
    | refine EL.f (FV.assign rfl) rfl rfl ?_
    | refine EL.nil ?_
    | refine EW.region ?_
    | refine EW.block ?_
    | refine EW.skip ?_
    | refine EW.exit ?_
    | refine EW.ret ?_
    | refine EW.condT rfl ?_
    | refine EW.condF rfl ?_
    | refine EL.f (FV.addI rfl rfl (by omega)) rfl rfl ?_
    | refine EL.f (FV.subI rfl rfl (by omega)) rfl rfl ?_
    | refine EL.f (FV.remI rfl rfl (by decide) (by omega)) rfl rfl ?_
    | refine EL.f (FV.quoI rfl rfl (by decide) (by omega)) rfl rfl ?_
    | refine EL.f (FV.extract rfl rfl) rfl rfl ?_
    | refine EL.f (FV.len rfl rfl) rfl rfl ?_
    | refine EL.f (FV.lenS rfl rfl) rfl rfl ?_
    | refine EL.f (FV.not rfl) rfl rfl ?_
    | refine EL.skip rfl rfl ?_
    | refine EL.f (FV.pickT rfl rfl) rfl rfl ?_
    | refine EL.f (FV.pickF rfl rfl) rfl rfl ?_
    | refine EL.fT (FV.lss rfl rfl) rfl (fun _ => rfl) (by omega) ?_
    | refine EL.fT (FV.leq rfl rfl) rfl (fun _ => rfl) (by omega) ?_
    | refine EL.fT (FV.gtr rfl rfl) rfl (fun _ => rfl) (by omega) ?_
    | refine EL.fT (FV.geq rfl rfl) rfl (fun _ => rfl) (by omega) ?_
    | refine EL.fT (FV.eql rfl rfl) rfl (fun _ => rfl) (by omega) ?_
    | refine EL.fT (FV.neq rfl rfl) rfl (fun _ => rfl) (by omega) ?_
    | refine EL.fF (FV.lss rfl rfl) rfl (fun _ => rfl) (by omega) ?_
    | refine EL.fF (FV.leq rfl rfl) rfl (fun _ => rfl) (by omega) ?_
    | refine EL.fF (FV.gtr rfl rfl) rfl (fun _ => rfl) (by omega) ?_
    | refine EL.fF (FV.geq rfl rfl) rfl (fun _ => rfl) (by omega) ?_
    | refine EL.fF (FV.eql rfl rfl) rfl (fun _ => rfl) (by omega) ?_
    | refine EL.fF (FV.neq rfl rfl) rfl (fun _ => rfl) (by omega) ?_
    | refine EL.f (FV.rem rfl rfl (by decide)) rfl rfl ?_
    | refine EL.f (FV.idx0 rfl rfl rfl rfl (by omega) (by omega)) rfl rfl ?_
    | refine EL.f (FV.idx1 rfl rfl rfl rfl (by omega) (by omega)) rfl rfl ?_
    | refine EL.f (FV.load1 rfl rfl rfl (by assumption)) rfl rfl ?_)
  refine EL.h (Hv.call (eqSame GA SA gc sc _ u8 (OwnI.rd gown) (sr.ext S8) hr) rfl) rfl (fun _ => rfl) ?_
  rintro _ u9 ⟨rfl, e9⟩
  have W9 := W8.trans e9
  have S9 := S8.trans e9
  replace gown := OwnI.ext gown e9
  repeat' (first
    | refine EW.seq ?_
    | refine EL.f (FV.move rfl) rfl rfl ?_
    | refine EL.f (FV.assign rfl) rfl rfl ?_
    | refine EL.nil ?_
    | refine EW.region ?_
    | refine EW.block ?_
    | refine EW.skip ?_
    | refine EW.exit ?_
    | refine EW.ret ?_
    | refine EW.condT rfl ?_
    | refine EW.condF rfl ?_
    | refine EL.f (FV.addI rfl rfl (by omega)) rfl rfl ?_
    | refine EL.f (FV.subI rfl rfl (by omega)) rfl rfl ?_
    | refine EL.f (FV.remI rfl rfl (by decide) (by omega)) rfl rfl ?_
    | refine EL.f (FV.quoI rfl rfl (by decide) (by omega)) rfl rfl ?_
    | refine EL.f (FV.extract rfl rfl) rfl rfl ?_
    | refine EL.f (FV.len rfl rfl) rfl rfl ?_
    | refine EL.f (FV.lenS rfl rfl) rfl rfl ?_
    | refine EL.f (FV.not rfl) rfl rfl ?_
    | refine EL.skip rfl rfl ?_
    | refine EL.f (FV.pickT rfl rfl) rfl rfl ?_
    | refine EL.f (FV.pickF rfl rfl) rfl rfl ?_
    | refine EL.fT (FV.lss rfl rfl) rfl (fun _ => rfl) (by omega) ?_
    | refine EL.fT (FV.leq rfl rfl) rfl (fun _ => rfl) (by omega) ?_
    | refine EL.fT (FV.gtr rfl rfl) rfl (fun _ => rfl) (by omega) ?_
    | refine EL.fT (FV.geq rfl rfl) rfl (fun _ => rfl) (by omega) ?_
    | refine EL.fT (FV.eql rfl rfl) rfl (fun _ => rfl) (by omega) ?_
    | refine EL.fT (FV.neq rfl rfl) rfl (fun _ => rfl) (by omega) ?_
    | refine EL.fF (FV.lss rfl rfl) rfl (fun _ => rfl) (by omega) ?_
    | refine EL.fF (FV.leq rfl rfl) rfl (fun _ => rfl) (by omega) ?_
    | refine EL.fF (FV.gtr rfl rfl) rfl (fun _ => rfl) (by omega) ?_
    | refine EL.fF (FV.geq rfl rfl) rfl (fun _ => rfl) (by omega) ?_
    | refine EL.fF (FV.eql rfl rfl) rfl (fun _ => rfl) (by omega) ?_
    | refine EL.fF (FV.neq rfl rfl) rfl (fun _ => rfl) (by omega) ?_
    | refine EL.f (FV.rem rfl rfl (by decide)) rfl rfl ?_
    | refine EL.f (FV.idx0 rfl rfl rfl rfl (by omega) (by omega)) rfl rfl ?_
    | refine EL.f (FV.idx1 rfl rfl rfl rfl (by omega) (by omega)) rfl rfl ?_
    | refine EL.f (FV.load1 rfl rfl rfl (by assumption)) rfl rfl ?_)
  refine EL.h (Hv.call (markInts _ u3.heap.size _ 1 u9 gown hr (by omega)) rfl) rfl (fun _ => rfl) ?_
  rintro _ u10 ⟨rfl, gmk, grg⟩
  have W10 := Ext.markO W9 gown grg (by have := ug; have := W2.size; omega)
  have S10 := Ext.markO S9 gown grg ug
  replace gown := gmk
  repeat' (first
    | refine EW.seq ?_
    | refine EL.f (FV.move rfl) rfl rfl ?_
    | refine EL.f (FV.assign rfl) rfl rfl ?_
    | refine EL.nil ?_
    | refine EW.region ?_
    | refine EW.block ?_
    | refine EW.skip ?_
    | refine EW.exit ?_
    | refine EW.ret ?_
    | refine EW.condT rfl ?_
    | refine EW.condF rfl ?_
    | refine EL.f (FV.addI rfl rfl (by omega)) rfl rfl ?_
    | refine EL.f (FV.subI rfl rfl (by omega)) rfl rfl ?_
    | refine EL.f (FV.remI rfl rfl (by decide) (by omega)) rfl rfl ?_
    | refine EL.f (FV.quoI rfl rfl (by decide) (by omega)) rfl rfl ?_
    | refine EL.f (FV.extract rfl rfl) rfl rfl ?_
    | refine EL.f (FV.len rfl rfl) rfl rfl ?_
    | refine EL.f (FV.lenS rfl rfl) rfl rfl ?_
    | refine EL.f (FV.not rfl) rfl rfl ?_
    | refine EL.skip rfl rfl ?_
    | refine EL.f (FV.pickT rfl rfl) rfl rfl ?_
    | refine EL.f (FV.pickF rfl rfl) rfl rfl ?_
    | refine EL.fT (FV.lss rfl rfl) rfl (fun _ => rfl) (by omega) ?_
    | refine EL.fT (FV.leq rfl rfl) rfl (fun _ => rfl) (by omega) ?_
    | refine EL.fT (FV.gtr rfl rfl) rfl (fun _ => rfl) (by omega) ?_
    | refine EL.fT (FV.geq rfl rfl) rfl (fun _ => rfl) (by omega) ?_
    | refine EL.fT (FV.eql rfl rfl) rfl (fun _ => rfl) (by omega) ?_
    | refine EL.fT (FV.neq rfl rfl) rfl (fun _ => rfl) (by omega) ?_
    | refine EL.fF (FV.lss rfl rfl) rfl (fun _ => rfl) (by omega) ?_
    | refine EL.fF (FV.leq rfl rfl) rfl (fun _ => rfl) (by omega) ?_
    | refine EL.fF (FV.gtr rfl rfl) rfl (fun _ => rfl) (by omega) ?_
    | refine EL.fF (FV.geq rfl rfl) rfl (fun _ => rfl) (by omega) ?_
    | refine EL.fF (FV.eql rfl rfl) rfl (fun _ => rfl) (by omega) ?_
    | refine EL.fF (FV.neq rfl rfl) rfl (fun _ => rfl) (by omega) ?_
    | refine EL.f (FV.rem rfl rfl (by decide)) rfl rfl ?_
    | refine EL.f (FV.idx0 rfl rfl rfl rfl (by omega) (by omega)) rfl rfl ?_
    | refine EL.f (FV.idx1 rfl rfl rfl rfl (by omega) (by omega)) rfl rfl ?_
    | refine EL.f (FV.load1 rfl rfl rfl (by assumption)) rfl rfl ?_)
  refine EL.h (Hv.call (heldInts GA gc _ 1 u10 (OwnI.rd gown) hr (by omega)) rfl) rfl (fun _ => rfl) ?_
  rintro _ _ ⟨rfl, rfl⟩
  repeat' (first
    | refine EW.seq ?_
    | refine EL.f (FV.move rfl) rfl rfl ?_
    | refine EL.f (FV.assign rfl) rfl rfl ?_
    | refine EL.nil ?_
    | refine EW.region ?_
    | refine EW.block ?_
    | refine EW.skip ?_
    | refine EW.exit ?_
    | refine EW.ret ?_
    | refine EW.condT rfl ?_
    | refine EW.condF rfl ?_
    | refine EL.f (FV.addI rfl rfl (by omega)) rfl rfl ?_
    | refine EL.f (FV.subI rfl rfl (by omega)) rfl rfl ?_
    | refine EL.f (FV.remI rfl rfl (by decide) (by omega)) rfl rfl ?_
    | refine EL.f (FV.quoI rfl rfl (by decide) (by omega)) rfl rfl ?_
    | refine EL.f (FV.extract rfl rfl) rfl rfl ?_
    | refine EL.f (FV.len rfl rfl) rfl rfl ?_
    | refine EL.f (FV.lenS rfl rfl) rfl rfl ?_
    | refine EL.f (FV.not rfl) rfl rfl ?_
    | refine EL.skip rfl rfl ?_
    | refine EL.f (FV.pickT rfl rfl) rfl rfl ?_
    | refine EL.f (FV.pickF rfl rfl) rfl rfl ?_
    | refine EL.fT (FV.lss rfl rfl) rfl (fun _ => rfl) (by omega) ?_
    | refine EL.fT (FV.leq rfl rfl) rfl (fun _ => rfl) (by omega) ?_
    | refine EL.fT (FV.gtr rfl rfl) rfl (fun _ => rfl) (by omega) ?_
    | refine EL.fT (FV.geq rfl rfl) rfl (fun _ => rfl) (by omega) ?_
    | refine EL.fT (FV.eql rfl rfl) rfl (fun _ => rfl) (by omega) ?_
    | refine EL.fT (FV.neq rfl rfl) rfl (fun _ => rfl) (by omega) ?_
    | refine EL.fF (FV.lss rfl rfl) rfl (fun _ => rfl) (by omega) ?_
    | refine EL.fF (FV.leq rfl rfl) rfl (fun _ => rfl) (by omega) ?_
    | refine EL.fF (FV.gtr rfl rfl) rfl (fun _ => rfl) (by omega) ?_
    | refine EL.fF (FV.geq rfl rfl) rfl (fun _ => rfl) (by omega) ?_
    | refine EL.fF (FV.eql rfl rfl) rfl (fun _ => rfl) (by omega) ?_
    | refine EL.fF (FV.neq rfl rfl) rfl (fun _ => rfl) (by omega) ?_
    | refine EL.f (FV.rem rfl rfl (by decide)) rfl rfl ?_
    | refine EL.f (FV.idx0 rfl rfl rfl rfl (by omega) (by omega)) rfl rfl ?_
    | refine EL.f (FV.idx1 rfl rfl rfl rfl (by omega) (by omega)) rfl rfl ?_
    | refine EL.f (FV.load1 rfl rfl rfl (by assumption)) rfl rfl ?_)
  refine EL.h (Hv.call (toInts A0 c0 xs0 u10 (h0.ext W10) hn0) rfl) rfl (fun _ => rfl) ?_
  rintro _ u11 ⟨z0, rfl, zb0, zt0, e11⟩
  have W11 := W10.trans e11
  have S11 := S10.trans e11
  replace gown := OwnI.ext gown e11
  repeat' (first
    | refine EW.seq ?_
    | refine EL.f (FV.move rfl) rfl rfl ?_
    | refine EL.f (FV.assign rfl) rfl rfl ?_
    | refine EL.nil ?_
    | refine EW.region ?_
    | refine EW.block ?_
    | refine EW.skip ?_
    | refine EW.exit ?_
    | refine EW.ret ?_
    | refine EW.condT rfl ?_
    | refine EW.condF rfl ?_
    | refine EL.f (FV.addI rfl rfl (by omega)) rfl rfl ?_
    | refine EL.f (FV.subI rfl rfl (by omega)) rfl rfl ?_
    | refine EL.f (FV.remI rfl rfl (by decide) (by omega)) rfl rfl ?_
    | refine EL.f (FV.quoI rfl rfl (by decide) (by omega)) rfl rfl ?_
    | refine EL.f (FV.extract rfl rfl) rfl rfl ?_
    | refine EL.f (FV.len rfl rfl) rfl rfl ?_
    | refine EL.f (FV.lenS rfl rfl) rfl rfl ?_
    | refine EL.f (FV.not rfl) rfl rfl ?_
    | refine EL.skip rfl rfl ?_
    | refine EL.f (FV.pickT rfl rfl) rfl rfl ?_
    | refine EL.f (FV.pickF rfl rfl) rfl rfl ?_
    | refine EL.fT (FV.lss rfl rfl) rfl (fun _ => rfl) (by omega) ?_
    | refine EL.fT (FV.leq rfl rfl) rfl (fun _ => rfl) (by omega) ?_
    | refine EL.fT (FV.gtr rfl rfl) rfl (fun _ => rfl) (by omega) ?_
    | refine EL.fT (FV.geq rfl rfl) rfl (fun _ => rfl) (by omega) ?_
    | refine EL.fT (FV.eql rfl rfl) rfl (fun _ => rfl) (by omega) ?_
    | refine EL.fT (FV.neq rfl rfl) rfl (fun _ => rfl) (by omega) ?_
    | refine EL.fF (FV.lss rfl rfl) rfl (fun _ => rfl) (by omega) ?_
    | refine EL.fF (FV.leq rfl rfl) rfl (fun _ => rfl) (by omega) ?_
    | refine EL.fF (FV.gtr rfl rfl) rfl (fun _ => rfl) (by omega) ?_
    | refine EL.fF (FV.geq rfl rfl) rfl (fun _ => rfl) (by omega) ?_
    | refine EL.fF (FV.eql rfl rfl) rfl (fun _ => rfl) (by omega) ?_
    | refine EL.fF (FV.neq rfl rfl) rfl (fun _ => rfl) (by omega) ?_
    | refine EL.f (FV.rem rfl rfl (by decide)) rfl rfl ?_
    | refine EL.f (FV.idx0 rfl rfl rfl rfl (by omega) (by omega)) rfl rfl ?_
    | refine EL.f (FV.idx1 rfl rfl rfl rfl (by omega) (by omega)) rfl rfl ?_
    | refine EL.f (FV.load1 rfl rfl rfl (by assumption)) rfl rfl ?_)
  refine EL.h (Hv.call (implReverseSeriesS (some ⟨z0, 0, none⟩) _ xs0 u11 (At.rd zt0) hn0) rfl) rfl (fun _ => rfl) ?_
  rintro _ u12 ⟨hv, rfl, hown, e12⟩
  have W12 := W11.trans e12
  have S12 := S11.trans e12
  replace gown := OwnI.ext gown e12
  obtain ⟨HA, hc, rfl, hrd⟩ := hown.form
  repeat' (first
    | refine EW.seq ?_
    | refine EL.f (FV.move rfl) rfl rfl ?_
    | refine EL.f (FV.assign rfl) rfl rfl ?_
    | refine EL.nil ?_
    | refine EW.region ?_
    | refine EW.block ?_
    | refine EW.skip ?_
    | refine EW.exit ?_
    | refine EW.ret ?_
    | refine EW.condT rfl ?_
    | refine EW.condF rfl ?_
    | refine EL.f (FV.addI rfl rfl (by omega)) rfl rfl ?_
    | refine EL.f (FV.subI rfl rfl (by omega)) rfl rfl ?_
    | refine EL.f (FV.remI rfl rfl (by decide) (by omega)) rfl rfl ?_
    | refine EL.f (FV.quoI rfl rfl (by decide) (by omega)) rfl rfl ?_
    | refine EL.f (FV.extract rfl rfl) rfl rfl ?_
    | refine EL.f (FV.len rfl rfl) rfl rfl ?_
    | refine EL.f (FV.lenS rfl rfl) rfl rfl ?_
    | refine EL.f (FV.not rfl) rfl rfl ?_
    | refine EL.skip rfl rfl ?_
    | refine EL.f (FV.pickT rfl rfl) rfl rfl ?_
    | refine EL.f (FV.pickF rfl rfl) rfl rfl ?_
    | refine EL.fT (FV.lss rfl rfl) rfl (fun _ => rfl) (by omega) ?_
    | refine EL.fT (FV.leq rfl rfl) rfl (fun _ => rfl) (by omega) ?_
    | refine EL.fT (FV.gtr rfl rfl) rfl (fun _ => rfl) (by omega) ?_
    | refine EL.fT (FV.geq rfl rfl) rfl (fun _ => rfl) (by omega) ?_
    | refine EL.fT (FV.eql rfl rfl) rfl (fun _ => rfl) (by omega) ?_
    | refine EL.fT (FV.neq rfl rfl) rfl (fun _ => rfl) (by omega) ?_
    | refine EL.fF (FV.lss rfl rfl) rfl (fun _ => rfl) (by omega) ?_
    | refine EL.fF (FV.leq rfl rfl) rfl (fun _ => rfl) (by omega) ?_
    | refine EL.fF (FV.gtr rfl rfl) rfl (fun _ => rfl) (by omega) ?_
    | refine EL.fF (FV.geq rfl rfl) rfl (fun _ => rfl) (by omega) ?_
    | refine EL.fF (FV.eql rfl rfl) rfl (fun _ => rfl) (by omega) ?_
    | refine EL.fF (FV.neq rfl rfl) rfl (fun _ => rfl) (by omega) ?_
    | refine EL.f (FV.rem rfl rfl (by decide)) rfl rfl ?_
    | refine EL.f (FV.idx0 rfl rfl rfl rfl (by omega) (by omega)) rfl rfl ?_
    | refine EL.f (FV.idx1 rfl rfl rfl rfl (by omega) (by omega)) rfl rfl ?_
    | refine EL.f (FV.load1 rfl rfl rfl (by assumption)) rfl rfl ?_)
  refine EL.h (Hv.call (eqSame HA SA hc sc _ u12 hrd (sr.ext S12) hr) rfl) rfl (fun _ => rfl) ?_
  rintro _ u13 ⟨rfl, e13⟩
  have W13 := W12.trans e13
  have S13 := S12.trans e13
  replace gown := OwnI.ext gown e13
  repeat' (first
    | refine EW.seq ?_
    | refine EL.f (FV.move rfl) rfl rfl ?_
    | refine EL.f (FV.assign rfl) rfl rfl ?_
    | refine EL.nil ?_
    | refine EW.region ?_
    | refine EW.block ?_
    | refine EW.skip ?_
    | refine EW.exit ?_
    | refine EW.ret ?_
    | refine EW.condT rfl ?_
    | refine EW.condF rfl ?_
    | refine EL.f (FV.addI rfl rfl (by omega)) rfl rfl ?_
    | refine EL.f (FV.subI rfl rfl (by omega)) rfl rfl ?_
    | refine EL.f (FV.remI rfl rfl (by decide) (by omega)) rfl rfl ?_
    | refine EL.f (FV.quoI rfl rfl (by decide) (by omega)) rfl rfl ?_
    | refine EL.f (FV.extract rfl rfl) rfl rfl ?_
    | refine EL.f (FV.len rfl rfl) rfl rfl ?_
    | refine EL.f (FV.lenS rfl rfl) rfl rfl ?_
    | refine EL.f (FV.not rfl) rfl rfl ?_
    | refine EL.skip rfl rfl ?_
    | refine EL.f (FV.pickT rfl rfl) rfl rfl ?_
    | refine EL.f (FV.pickF rfl rfl) rfl rfl ?_
    | refine EL.fT (FV.lss rfl rfl) rfl (fun _ => rfl) (by omega) ?_
    | refine EL.fT (FV.leq rfl rfl) rfl (fun _ => rfl) (by omega) ?_
    | refine EL.fT (FV.gtr rfl rfl) rfl (fun _ => rfl) (by omega) ?_
    | refine EL.fT (FV.geq rfl rfl) rfl (fun _ => rfl) (by omega) ?_
    | refine EL.fT (FV.eql rfl rfl) rfl (fun _ => rfl) (by omega) ?_
    | refine EL.fT (FV.neq rfl rfl) rfl (fun _ => rfl) (by omega) ?_
    | refine EL.fF (FV.lss rfl rfl) rfl (fun _ => rfl) (by omega) ?_
    | refine EL.fF (FV.leq rfl rfl) rfl (fun _ => rfl) (by omega) ?_
    | refine EL.fF (FV.gtr rfl rfl) rfl (fun _ => rfl) (by omega) ?_
    | refine EL.fF (FV.geq rfl rfl) rfl (fun _ => rfl) (by omega) ?_
    | refine EL.fF (FV.eql rfl rfl) rfl (fun _ => rfl) (by omega) ?_
    | refine EL.fF (FV.neq rfl rfl) rfl (fun _ => rfl) (by omega) ?_
    | refine EL.f (FV.rem rfl rfl (by decide)) rfl rfl ?_
    | refine EL.f (FV.idx0 rfl rfl rfl rfl (by omega) (by omega)) rfl rfl ?_
    | refine EL.f (FV.idx1 rfl rfl rfl rfl (by omega) (by omega)) rfl rfl ?_
    | refine EL.f (FV.load1 rfl rfl rfl (by assumption)) rfl rfl ?_)
  refine EL.h (Hv.call (heldInts GA gc _ 1 u13 (OwnI.rd gown) hr (by omega)) rfl) rfl (fun _ => rfl) ?_
  rintro _ _ ⟨rfl, rfl⟩
  repeat' (first
    | refine EW.seq ?_
    | refine EL.f (FV.move rfl) rfl rfl ?_
    | refine EL.f (FV.assign rfl) rfl rfl ?_
    | refine EL.nil ?_
    | refine EW.region ?_
    | refine EW.block ?_
    | refine EW.skip ?_
    | refine EW.exit ?_
    | refine EW.ret ?_
    | refine EW.condT rfl ?_
    | refine EW.condF rfl ?_
    | refine EL.f (FV.addI rfl rfl (by omega)) rfl rfl ?_
    | refine EL.f (FV.subI rfl rfl (by omega)) rfl rfl ?_
    | refine EL.f (FV.remI rfl rfl (by decide) (by omega)) rfl rfl ?_
    | refine EL.f (FV.quoI rfl rfl (by decide) (by omega)) rfl rfl ?_
    | refine EL.f (FV.extract rfl rfl) rfl rfl ?_
    | refine EL.f (FV.len rfl rfl) rfl rfl ?_
    | refine EL.f (FV.lenS rfl rfl) rfl rfl ?_
    | refine EL.f (FV.not rfl) rfl rfl ?_
    | refine EL.skip rfl rfl ?_
    | refine EL.f (FV.pickT rfl rfl) rfl rfl ?_
    | refine EL.f (FV.pickF rfl rfl) rfl rfl ?_
    | refine EL.fT (FV.lss rfl rfl) rfl (fun _ => rfl) (by omega) ?_
    | refine EL.fT (FV.leq rfl rfl) rfl (fun _ => rfl) (by omega) ?_
    | refine EL.fT (FV.gtr rfl rfl) rfl (fun _ => rfl) (by omega) ?_
    | refine EL.fT (FV.geq rfl rfl) rfl (fun _ => rfl) (by omega) ?_
    | refine EL.fT (FV.eql rfl rfl) rfl (fun _ => rfl) (by omega) ?_
    | refine EL.fT (FV.neq rfl rfl) rfl (fun _ => rfl) (by omega) ?_
    | refine EL.fF (FV.lss rfl rfl) rfl (fun _ => rfl) (by omega) ?_
    | refine EL.fF (FV.leq rfl rfl) rfl (fun _ => rfl) (by omega) ?_
    | refine EL.fF (FV.gtr rfl rfl) rfl (fun _ => rfl) (by omega) ?_
    | refine EL.fF (FV.geq rfl rfl) rfl (fun _ => rfl) (by omega) ?_
    | refine EL.fF (FV.eql rfl rfl) rfl (fun _ => rfl) (by omega) ?_
    | refine EL.fF (FV.neq rfl rfl) rfl (fun _ => rfl) (by omega) ?_
    | refine EL.f (FV.rem rfl rfl (by decide)) rfl rfl ?_
    | refine EL.f (FV.idx0 rfl rfl rfl rfl (by omega) (by omega)) rfl rfl ?_
    | refine EL.f (FV.idx1 rfl rfl rfl rfl (by omega) (by omega)) rfl rfl ?_
    | refine EL.f (FV.load1 rfl rfl rfl (by assumption)) rfl rfl ?_)
  exact ⟨_, rfl, rfl, W13⟩
end Eng
end Go.Proofs.Ytlhfcmcocbiafaa
