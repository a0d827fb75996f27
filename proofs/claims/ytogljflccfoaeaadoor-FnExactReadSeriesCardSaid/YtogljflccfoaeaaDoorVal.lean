/- Contracts: ranges, numbers, valid series, in the program and in the reference. No condition but lengths. -/
import Derived.Test.YtogljflccfoaeaaDoorSl
import Derived.Test.YtogljflccfoaeaaDoorAri
namespace Go.Proofs.YtogljflccfoaeaaDoor
open Go Go.RowKit
namespace Eng
def inB (x a b : Int) : Bool := decide (a ≤ x ∧ x ≤ b)
theorem implWithin (x a b : Int) (w : World) : CallsR Tryd.prog 47 [.int .i64 x, .int .i64 a, .int .i64 b] w fun v w' => v = .bool (inB x a b) ∧ w = w' := by
  refine CallsR.enter Tryd.func47 (by decide +kernel) rfl Tryd.ntmps47 rfl ?_
  unfold inB
  by_cases h1 : a ≤ x <;> by_cases h2 : x ≤ b
  all_goals
    repeat' (first
      | (show EL _ _ _ _ (_ :: _) _ _
         first
         | (show EL _ _ _ _ (⟨_, _, _, _, _, some _⟩ :: _) _ _; refine EL.skip rfl rfl ?_)
         | (show EL _ _ _ _ (⟨_, .move _, _, _, _, _⟩ :: _) _ _; refine EL.f (FV.move rfl) rfl rfl ?_)
         | (show EL _ _ _ _ (⟨_, .assign _, _, _, _, _⟩ :: _) _ _; refine EL.f (FV.assign rfl) rfl rfl ?_)
         | (show EL _ _ _ _ (⟨_, .pick _ _ _, _, _, _, _⟩ :: _) _ _; first | refine EL.f (FV.pickT rfl rfl) rfl rfl ?_ | refine EL.f (FV.pickF rfl rfl) rfl rfl ?_)
         | (show EL _ _ _ _ (⟨_, .binOp .leq _ _ _ _, _, _, _, _⟩ :: _) _ _; first | refine EL.fT (FV.leq rfl rfl) rfl (fun _ => rfl) (by omega) ?_ | refine EL.fF (FV.leq rfl rfl) rfl (fun _ => rfl) (by omega) ?_)
         | (show EL _ _ _ _ (⟨_, .binOp .geq _ _ _ _, _, _, _, _⟩ :: _) _ _; first | refine EL.fT (FV.geq rfl rfl) rfl (fun _ => rfl) (by omega) ?_ | refine EL.fF (FV.geq rfl rfl) rfl (fun _ => rfl) (by omega) ?_))
      | refine EL.nil ?_
      | refine EW.seq ?_
      | refine EW.region ?_
      | refine EW.ret ?_)
    exact ⟨_, rfl, by simp [h1, h2], rfl⟩
theorem specIn (x a b : Int) (w : World) : CallsR Tryd.prog 42 [.int .i64 x, .int .i64 a, .int .i64 b] w fun v w' => v = .bool (inB x a b) ∧ w = w' := by
  refine CallsR.enter Tryd.func42 (by decide +kernel) rfl Tryd.ntmps42 rfl ?_
  unfold inB
  by_cases h1 : a ≤ x <;> by_cases h2 : x ≤ b
  all_goals
    repeat' (first
      | (show EL _ _ _ _ (_ :: _) _ _
         first
         | (show EL _ _ _ _ (⟨_, _, _, _, _, some _⟩ :: _) _ _; refine EL.skip rfl rfl ?_)
         | (show EL _ _ _ _ (⟨_, .move _, _, _, _, _⟩ :: _) _ _; refine EL.f (FV.move rfl) rfl rfl ?_)
         | (show EL _ _ _ _ (⟨_, .assign _, _, _, _, _⟩ :: _) _ _; refine EL.f (FV.assign rfl) rfl rfl ?_)
         | (show EL _ _ _ _ (⟨_, .pick _ _ _, _, _, _, _⟩ :: _) _ _; first | refine EL.f (FV.pickT rfl rfl) rfl rfl ?_ | refine EL.f (FV.pickF rfl rfl) rfl rfl ?_)
         | (show EL _ _ _ _ (⟨_, .binOp .leq _ _ _ _, _, _, _, _⟩ :: _) _ _; first | refine EL.fT (FV.leq rfl rfl) rfl (fun _ => rfl) (by omega) ?_ | refine EL.fF (FV.leq rfl rfl) rfl (fun _ => rfl) (by omega) ?_)
         | (show EL _ _ _ _ (⟨_, .binOp .geq _ _ _ _, _, _, _, _⟩ :: _) _ _; first | refine EL.fT (FV.geq rfl rfl) rfl (fun _ => rfl) (by omega) ?_ | refine EL.fF (FV.geq rfl rfl) rfl (fun _ => rfl) (by omega) ?_))
      | refine EL.nil ?_
      | refine EW.seq ?_
      | refine EW.region ?_
      | refine EW.ret ?_)
    exact ⟨_, rfl, by simp [h1, h2], rfl⟩
def isNum (x : Int) : Bool := inB x 0 1000002
theorem implIsNumber (x : Int) (w : World) : CallsR Tryd.prog 65 [.int .i64 x] w fun v w' => v = .bool (isNum x) ∧ w = w' := by
  refine CallsR.enter Tryd.func65 (by decide +kernel) rfl Tryd.ntmps65 rfl ?_
  repeat' (first
    | (refine EL.h (Hv.call (implWithin _ _ _ _) rfl) rfl (fun _ => rfl) ?_; rintro _ _ ⟨rfl, rfl⟩)
    | refine EL.f (FV.move rfl) rfl rfl ?_
    | refine EL.f (FV.assign rfl) rfl rfl ?_
    | refine EL.nil ?_
    | refine EW.seq ?_
    | refine EW.region ?_
    | refine EW.ret ?_)
  exact ⟨_, rfl, rfl, rfl⟩
theorem specNumber (x : Int) (w : World) : CallsR Tryd.prog 61 [.int .i64 x] w fun v w' => v = .bool (isNum x) ∧ w = w' := by
  refine CallsR.enter Tryd.func61 (by decide +kernel) rfl Tryd.ntmps61 rfl ?_
  repeat' (first
    | (refine EL.h (Hv.call (specIn _ _ _ _) rfl) rfl (fun _ => rfl) ?_; rintro _ _ ⟨rfl, rfl⟩)
    | refine EL.f (FV.move rfl) rfl rfl ?_
    | refine EL.f (FV.assign rfl) rfl rfl ?_
    | refine EL.nil ?_
    | refine EW.seq ?_
    | refine EW.region ?_
    | refine EW.ret ?_)
  exact ⟨_, rfl, rfl, rfl⟩
theorem implNotNumber (x : Int) (w : World) : CallsR Tryd.prog 64 [.int .i64 x] w fun v w' => v = .bool (!isNum x) ∧ w = w' := by
  refine CallsR.enter Tryd.func64 (by decide +kernel) rfl Tryd.ntmps64 rfl ?_
  repeat' (first
    | (show EL _ _ _ _ (_ :: _) _ _
       first
       | (show EL _ _ _ _ (⟨_, .call _, _, _, _, _⟩ :: _) _ _; (refine EL.h (Hv.call (implIsNumber _ _) rfl) rfl (fun _ => rfl) ?_; rintro _ _ ⟨rfl, rfl⟩))
       | (show EL _ _ _ _ (⟨_, .move _, _, _, _, _⟩ :: _) _ _; refine EL.f (FV.move rfl) rfl rfl ?_)
       | (show EL _ _ _ _ (⟨_, .assign _, _, _, _, _⟩ :: _) _ _; refine EL.f (FV.assign rfl) rfl rfl ?_)
       | (show EL _ _ _ _ (⟨_, .unOp .not _ _, _, _, _, _⟩ :: _) _ _; refine EL.f (FV.not rfl) rfl rfl ?_))
    | refine EL.nil ?_
    | refine EW.seq ?_
    | refine EW.region ?_
    | refine EW.ret ?_)
  exact ⟨_, rfl, rfl, rfl⟩

def nums (xs : List Int) : Bool := xs.all isNum
/-- A test that holds of the first k elements. -/
theorem all_of_lt {xs : List Int} {p : Int → Bool} (h : ∀ i, i < xs.length → p (xs.getD i 0) = true) : xs.all p = true := by
  rw [List.all_eq_true]
  intro x hx
  obtain ⟨i, hi, rfl⟩ := List.getElem_of_mem hx
  have := h i hi
  simpa [hi] using this
theorem not_all_of {xs : List Int} {p : Int → Bool} {i : Nat} (hi : i < xs.length) (h : p (xs.getD i 0) = false) : xs.all p = false := by
  cases ha : xs.all p with
  | false => rfl
  | true =>
    rw [List.all_eq_true] at ha
    have := ha (xs[i]) (List.getElem_mem hi)
    simp [hi] at h
    rw [h] at this
    cases this

/-- slices.IndexFunc at []int64, the test being a function of the program. -/
theorem indexFunc (f : FuncId) (p : Int → Bool) (A : Option Addr) (c : Nat) (xs : List Int) (w : World) (hx : Rd w A (ints xs)) (hn : xs.length ≤ 1073741824)
    (hp : ∀ x, x ∈ xs → ∀ w, CallsR Tryd.prog f [.int .i64 x] w fun v w' => v = .bool (p x) ∧ w = w') :
    CallsR Tryd.prog 68 [.slice A xs.length c, .func (.func f) #[] #[]] w fun v w' => ∃ j : Int, v = .int .i64 j ∧ (0 ≤ j ↔ xs.any p = true) ∧ -1 ≤ j ∧ w = w' := by
  refine CallsR.enter Tryd.func68 (by decide +kernel) rfl Tryd.ntmps68 rfl ?_
  repeat' (first
    | refine EL.f (FV.move rfl) rfl rfl ?_
    | refine EL.f (FV.assign rfl) rfl rfl ?_
    | refine EL.f (FV.len rfl rfl) rfl rfl ?_
    | refine EL.nil ?_
    | refine EW.seq ?_
    | refine EW.region ?_
    | refine EW.block ?_)
  refine EW.loop (fun k wr => k ≤ xs.length ∧ (∀ i, i < k → p (xs.getD i 0) = false) ∧ w = wr) (fun k => [(0, .slice A xs.length c), (1, .func (.func f) #[] #[]), (7, .int .i64 xs.length), (8, .int .i64 k)]) (fun k => xs.length - k) 0 ⟨Nat.zero_le _, fun i h => absurd h (Nat.not_lt_zero _), rfl⟩ ⟨rfl, rfl, rfl, rfl, trivial⟩ ?_
  rintro k wr ⟨hk, hall, rfl⟩
  by_cases hlt : k < xs.length
  · obtain ⟨b, o, rfl, hc⟩ := hx.int hlt
    have hmem : xs.getD k 0 ∈ xs := by simp [hlt]
    repeat' (first
      | (show EL _ _ _ _ (_ :: _) _ _
         first
         | (show EL _ _ _ _ (⟨_, .call _, _, _, _, _⟩ :: _) _ _; (refine EL.h (Hv.callF (hp _ hmem w) rfl rfl) rfl (fun _ => rfl) ?_; rintro _ _ ⟨rfl, rfl⟩))
         | (show EL _ _ _ _ (⟨_, .move _, _, _, _, _⟩ :: _) _ _; refine EL.f (FV.move rfl) rfl rfl ?_)
         | (show EL _ _ _ _ (⟨_, .assign _, _, _, _, _⟩ :: _) _ _; refine EL.f (FV.assign rfl) rfl rfl ?_)
         | (show EL _ _ _ _ (⟨_, .binOp .lss _ _ _ _, _, _, _, _⟩ :: _) _ _; refine EL.fT (FV.lss rfl rfl) rfl (fun _ => rfl) (by omega) ?_)
         | (show EL _ _ _ _ (⟨_, .indexAddr _ _ _, _, _, _, _⟩ :: _) _ _; refine EL.f (FV.idx1 rfl rfl rfl rfl (by omega) (by omega)) rfl rfl ?_)
         | (show EL _ _ _ _ (⟨_, .load _ _, _, _, _, _⟩ :: _) _ _; refine EL.f (FV.load1 rfl rfl rfl (by assumption)) rfl rfl ?_))
      | refine EL.nil ?_
      | refine EW.seq ?_
      | refine EW.region ?_
      | refine EW.block ?_
      | refine EW.skip ?_
      | refine EW.condT rfl ?_)
    refine EW.cond rfl (fun h1 => ?_) (fun h1 => ?_)
    · repeat' (first
        | refine EL.f (FV.move rfl) rfl rfl ?_
        | refine EL.f (FV.assign rfl) rfl rfl ?_
        | refine EL.nil ?_
        | refine EW.seq ?_
        | refine EW.region ?_
        | refine EW.ret ?_)
      refine ⟨_, rfl, k, rfl, ⟨fun _ => ?_, fun _ => by omega⟩, by omega, rfl⟩
      rw [List.any_eq_true]
      exact ⟨_, hmem, h1⟩
    · repeat' (first
        | refine EL.f (FV.move rfl) rfl rfl ?_
        | refine EL.f (FV.addI rfl rfl (by omega)) rfl rfl ?_
        | refine EL.nil ?_
        | refine EW.region ?_
        | refine EW.skip ?_)
      refine ⟨k + 1, ⟨rfl, rfl, rfl, rfl, trivial⟩, ⟨by omega, fun i hi => ?_, rfl⟩, by omega⟩
      by_cases hik : i = k
      · subst hik; exact h1
      · exact hall i (by omega)
  · obtain rfl : k = xs.length := by omega
    repeat' (first
      | refine EL.f (FV.assign rfl) rfl rfl ?_
      | refine EL.fF (FV.lss rfl rfl) rfl (fun _ => rfl) (by omega) ?_
      | refine EL.nil ?_
      | refine EW.seq ?_
      | refine EW.region ?_
      | refine EW.exit ?_
      | refine EW.ret ?_
      | refine EW.condF rfl ?_)
    refine ⟨_, rfl, -1, rfl, ⟨fun h => by omega, fun h => ?_⟩, by omega, rfl⟩
    rw [List.any_eq_true] at h
    obtain ⟨x, hxm, hpx⟩ := h
    obtain ⟨i, hi, rfl⟩ := List.getElem_of_mem hxm
    have := hall i hi
    simp [hi] at this
    rw [this] at hpx
    cases hpx
theorem containsFunc (f : FuncId) (p : Int → Bool) (A : Option Addr) (c : Nat) (xs : List Int) (w : World) (hx : Rd w A (ints xs)) (hn : xs.length ≤ 1073741824)
    (hp : ∀ x, x ∈ xs → ∀ w, CallsR Tryd.prog f [.int .i64 x] w fun v w' => v = .bool (p x) ∧ w = w') :
    CallsR Tryd.prog 55 [.slice A xs.length c, .func (.func f) #[] #[]] w fun v w' => v = .bool (xs.any p) ∧ w = w' := by
  refine CallsR.enter Tryd.func55 (by decide +kernel) rfl Tryd.ntmps55 rfl ?_
  repeat' (first
    | refine EL.f (FV.move rfl) rfl rfl ?_
    | refine EL.f (FV.assign rfl) rfl rfl ?_
    | refine EL.nil ?_
    | refine EW.seq ?_
    | refine EW.region ?_)
  refine EL.h (Hv.call (indexFunc f p A c xs w hx hn hp) rfl) rfl (fun _ => rfl) ?_
  rintro _ _ ⟨j, rfl, hj, _, rfl⟩
  by_cases h : 0 ≤ j
  · repeat' (first
      | refine EL.f (FV.assign rfl) rfl rfl ?_
      | refine EL.fT (FV.geq rfl rfl) rfl (fun _ => rfl) (by omega) ?_
      | refine EL.nil ?_
      | refine EW.ret ?_)
    exact ⟨_, rfl, by rw [hj.1 h], rfl⟩
  · repeat' (first
      | refine EL.f (FV.assign rfl) rfl rfl ?_
      | refine EL.fF (FV.geq rfl rfl) rfl (fun _ => rfl) (by omega) ?_
      | refine EL.nil ?_
      | refine EW.ret ?_)
    have : xs.any p = false := by
      cases ha : xs.any p with
      | false => rfl
      | true => exact absurd (hj.2 ha) h
    exact ⟨_, rfl, by rw [this], rfl⟩
theorem any_not (xs : List Int) : xs.any (fun x => !isNum x) = !nums xs := by
  unfold nums
  induction xs with
  | nil => rfl
  | cons x r ih => simp [ih]

theorem implAreNumbers (A : Option Addr) (c : Nat) (xs : List Int) (n : Int) (w : World) (hx : Rd w A (ints xs)) (hn : xs.length ≤ 1073741824) :
    CallsR Tryd.prog 48 [.slice A xs.length c, .int .i64 n] w fun v w' => v = .bool (decide ((xs.length : Int) = n) && nums xs) ∧ w = w' := by
  refine CallsR.enter Tryd.func48 (by decide +kernel) rfl Tryd.ntmps48 rfl ?_
  by_cases h : (xs.length : Int) = n
  · repeat' (first
      | (show EL _ _ _ _ (_ :: _) _ _
         first
         | (show EL _ _ _ _ (⟨_, .call _, _, _, _, _⟩ :: _) _ _; first | (refine EL.h (Hv.call (containsFunc _ (fun x => !isNum x) A c xs w hx hn (fun x _ => implNotNumber x)) rfl) rfl (fun _ => rfl) ?_; rintro _ _ ⟨rfl, rfl⟩) | refine EL.f (FV.len rfl rfl) rfl rfl ?_)
         | (show EL _ _ _ _ (⟨_, .move _, _, _, _, _⟩ :: _) _ _; refine EL.f (FV.move rfl) rfl rfl ?_)
         | (show EL _ _ _ _ (⟨_, .assign _, _, _, _, _⟩ :: _) _ _; refine EL.f (FV.assign rfl) rfl rfl ?_)
         | (show EL _ _ _ _ (⟨_, .unOp .not _ _, _, _, _, _⟩ :: _) _ _; refine EL.f (FV.not rfl) rfl rfl ?_)
         | (show EL _ _ _ _ (⟨_, .pick _ _ _, _, _, _, _⟩ :: _) _ _; refine EL.f (FV.pickT rfl rfl) rfl rfl ?_)
         | (show EL _ _ _ _ (⟨_, .binOp .eql _ _ _ _, _, _, _, _⟩ :: _) _ _; refine EL.fT (FV.eql rfl rfl) rfl (fun _ => rfl) (by omega) ?_))
      | refine EL.nil ?_
      | refine EW.seq ?_
      | refine EW.region ?_
      | refine EW.ret ?_)
    exact ⟨_, rfl, by rw [any_not, decide_eq_true h, Bool.not_not, Bool.true_and], rfl⟩
  · repeat' (first
      | (show EL _ _ _ _ (_ :: _) _ _
         first
         | (show EL _ _ _ _ (⟨_, _, _, _, _, some _⟩ :: _) _ _; refine EL.skip rfl rfl ?_)
         | (show EL _ _ _ _ (⟨_, .move _, _, _, _, _⟩ :: _) _ _; refine EL.f (FV.move rfl) rfl rfl ?_)
         | (show EL _ _ _ _ (⟨_, .assign _, _, _, _, _⟩ :: _) _ _; refine EL.f (FV.assign rfl) rfl rfl ?_)
         | (show EL _ _ _ _ (⟨_, .call _, _, _, _, _⟩ :: _) _ _; refine EL.f (FV.len rfl rfl) rfl rfl ?_)
         | (show EL _ _ _ _ (⟨_, .pick _ _ _, _, _, _, _⟩ :: _) _ _; refine EL.f (FV.pickF rfl rfl) rfl rfl ?_)
         | (show EL _ _ _ _ (⟨_, .binOp .eql _ _ _ _, _, _, _, _⟩ :: _) _ _; refine EL.fF (FV.eql rfl rfl) rfl (fun _ => rfl) (by omega) ?_))
      | refine EL.nil ?_
      | refine EW.seq ?_
      | refine EW.region ?_
      | refine EW.ret ?_)
    exact ⟨_, rfl, by rw [decide_eq_false h, Bool.false_and], rfl⟩
theorem specNumbers (A : Option Addr) (c : Nat) (xs : List Int) (w : World) (hx : Rd w A (ints xs)) (hn : xs.length ≤ 1073741824) :
    CallsR Tryd.prog 43 [.slice A xs.length c] w fun v w' => v = .bool (nums xs) ∧ w = w' := by
  refine CallsR.enter Tryd.func43 (by decide +kernel) rfl Tryd.ntmps43 rfl ?_
  repeat' (first
    | refine EL.f (FV.assign rfl) rfl rfl ?_
    | refine EL.nil ?_
    | refine EW.seq ?_
    | refine EW.region ?_
    | refine EW.block ?_)
  refine EW.loop (fun k wr => k ≤ xs.length ∧ (∀ i, i < k → isNum (xs.getD i 0) = true) ∧ w = wr) (fun k => [(0, .slice A xs.length c), (3, .int .i64 k)]) (fun k => xs.length - k) 0 ⟨Nat.zero_le _, fun i h => absurd h (Nat.not_lt_zero _), rfl⟩ ⟨rfl, rfl, trivial⟩ ?_
  rintro k wr ⟨hk, hall, rfl⟩
  by_cases hlt : k < xs.length
  · obtain ⟨b, o, rfl, hc⟩ := hx.int hlt
    repeat' (first
      | (show EL _ _ _ _ (_ :: _) _ _
         first
         | (show EL _ _ _ _ (⟨_, .call _, _, _, _, _⟩ :: _) _ _; first | (refine EL.h (Hv.call (specNumber _ _) rfl) rfl (fun _ => rfl) ?_; rintro _ _ ⟨rfl, rfl⟩) | refine EL.f (FV.len rfl rfl) rfl rfl ?_)
         | (show EL _ _ _ _ (⟨_, .move _, _, _, _, _⟩ :: _) _ _; refine EL.f (FV.move rfl) rfl rfl ?_)
         | (show EL _ _ _ _ (⟨_, .unOp .not _ _, _, _, _, _⟩ :: _) _ _; refine EL.f (FV.not rfl) rfl rfl ?_)
         | (show EL _ _ _ _ (⟨_, .binOp .lss _ _ _ _, _, _, _, _⟩ :: _) _ _; refine EL.fT (FV.lss rfl rfl) rfl (fun _ => rfl) (by omega) ?_)
         | (show EL _ _ _ _ (⟨_, .indexAddr _ _ _, _, _, _, _⟩ :: _) _ _; refine EL.f (FV.idx1 rfl rfl rfl rfl (by omega) (by omega)) rfl rfl ?_)
         | (show EL _ _ _ _ (⟨_, .load _ _, _, _, _, _⟩ :: _) _ _; refine EL.f (FV.load1 rfl rfl rfl (by assumption)) rfl rfl ?_))
      | refine EL.nil ?_
      | refine EW.seq ?_
      | refine EW.region ?_
      | refine EW.block ?_
      | refine EW.skip ?_
      | refine EW.condT rfl ?_)
    refine EW.cond rfl (fun h1 => ?_) (fun h1 => ?_)
    · repeat' (first
        | refine EL.f (FV.assign rfl) rfl rfl ?_
        | refine EL.nil ?_
        | refine EW.seq ?_
        | refine EW.region ?_
        | refine EW.ret ?_)
      exact ⟨_, rfl, by rw [show nums xs = false from not_all_of hlt (by simpa using h1)], rfl⟩
    · repeat' (first
        | refine EL.f (FV.move rfl) rfl rfl ?_
        | refine EL.f (FV.assign rfl) rfl rfl ?_
        | refine EL.f (FV.addI rfl rfl (by omega)) rfl rfl ?_
        | refine EL.nil ?_
        | refine EW.region ?_
        | refine EW.skip ?_)
      refine ⟨k + 1, ⟨rfl, rfl, trivial⟩, ⟨by omega, fun i hi => ?_, rfl⟩, by omega⟩
      by_cases hik : i = k
      · subst hik; simpa using h1
      · exact hall i (by omega)
  · obtain rfl : k = xs.length := by omega
    repeat' (first
      | (show EL _ _ _ _ (_ :: _) _ _
         first
         | (show EL _ _ _ _ (⟨_, .move _, _, _, _, _⟩ :: _) _ _; refine EL.f (FV.move rfl) rfl rfl ?_)
         | (show EL _ _ _ _ (⟨_, .assign _, _, _, _, _⟩ :: _) _ _; refine EL.f (FV.assign rfl) rfl rfl ?_)
         | (show EL _ _ _ _ (⟨_, .call _, _, _, _, _⟩ :: _) _ _; refine EL.f (FV.len rfl rfl) rfl rfl ?_)
         | (show EL _ _ _ _ (⟨_, .binOp .lss _ _ _ _, _, _, _, _⟩ :: _) _ _; refine EL.fF (FV.lss rfl rfl) rfl (fun _ => rfl) (by omega) ?_))
      | refine EL.nil ?_
      | refine EW.seq ?_
      | refine EW.region ?_
      | refine EW.exit ?_
      | refine EW.ret ?_
      | refine EW.condF rfl ?_)
    exact ⟨_, rfl, by rw [show nums xs = true from all_of_lt hall], rfl⟩

/-- A valid series. -/
def vld (xs : List Int) : Bool := inB xs.length 1 13 && nums xs
theorem implValid (A : Option Addr) (c : Nat) (xs : List Int) (w : World) (hx : Rd w A (ints xs)) (hn : xs.length ≤ 1073741824) :
    CallsR Tryd.prog 23 [.slice A xs.length c] w fun v w' => v = .bool (vld xs) ∧ w = w' := by
  refine CallsR.enter Tryd.func23 (by decide +kernel) rfl Tryd.ntmps23 rfl ?_
  repeat' (first
    | refine EL.f (FV.move rfl) rfl rfl ?_
    | refine EL.f (FV.assign rfl) rfl rfl ?_
    | refine EL.f (FV.len rfl rfl) rfl rfl ?_
    | refine EL.nil ?_
    | refine EW.seq ?_
    | refine EW.region ?_)
  refine EL.h (Hv.call (implWithin _ _ _ _) rfl) rfl (fun _ => rfl) ?_
  rintro _ _ ⟨rfl, rfl⟩
  unfold vld
  cases hin : inB xs.length 1 13
  · repeat' (first
      | (show EL _ _ _ _ (_ :: _) _ _
         first
         | (show EL _ _ _ _ (⟨_, _, _, _, _, some _⟩ :: _) _ _; refine EL.skip rfl rfl ?_)
         | (show EL _ _ _ _ (⟨_, .move _, _, _, _, _⟩ :: _) _ _; refine EL.f (FV.move rfl) rfl rfl ?_)
         | (show EL _ _ _ _ (⟨_, .assign _, _, _, _, _⟩ :: _) _ _; refine EL.f (FV.assign rfl) rfl rfl ?_)
         | (show EL _ _ _ _ (⟨_, .pick _ _ _, _, _, _, _⟩ :: _) _ _; refine EL.f (FV.pickF rfl rfl) rfl rfl ?_))
      | refine EL.nil ?_
      | refine EW.ret ?_)
    exact ⟨_, rfl, rfl, rfl⟩
  · repeat' (first
      | (show EL _ _ _ _ (_ :: _) _ _
         first
         | (show EL _ _ _ _ (⟨_, .call _, _, _, _, _⟩ :: _) _ _; first | (refine EL.h (Hv.call (implAreNumbers A c xs _ w hx hn) rfl) rfl (fun _ => rfl) ?_; rintro _ _ ⟨rfl, rfl⟩) | refine EL.f (FV.len rfl rfl) rfl rfl ?_)
         | (show EL _ _ _ _ (⟨_, .move _, _, _, _, _⟩ :: _) _ _; refine EL.f (FV.move rfl) rfl rfl ?_)
         | (show EL _ _ _ _ (⟨_, .assign _, _, _, _, _⟩ :: _) _ _; refine EL.f (FV.assign rfl) rfl rfl ?_)
         | (show EL _ _ _ _ (⟨_, .pick _ _ _, _, _, _, _⟩ :: _) _ _; refine EL.f (FV.pickT rfl rfl) rfl rfl ?_))
      | refine EL.nil ?_
      | refine EW.ret ?_)
    exact ⟨_, rfl, by rw [decide_eq_true rfl], rfl⟩
theorem specOk (A : Option Addr) (c : Nat) (xs : List Int) (w : World) (hx : Rd w A (ints xs)) (hn : xs.length ≤ 1073741824) :
    CallsR Tryd.prog 20 [.slice A xs.length c] w fun v w' => v = .bool (vld xs) ∧ w = w' := by
  refine CallsR.enter Tryd.func20 (by decide +kernel) rfl Tryd.ntmps20 rfl ?_
  repeat' (first
    | refine EL.f (FV.move rfl) rfl rfl ?_
    | refine EL.f (FV.assign rfl) rfl rfl ?_
    | refine EL.f (FV.len rfl rfl) rfl rfl ?_
    | refine EL.nil ?_
    | refine EW.seq ?_
    | refine EW.region ?_)
  refine EL.h (Hv.call (specIn _ _ _ _) rfl) rfl (fun _ => rfl) ?_
  rintro _ _ ⟨rfl, rfl⟩
  unfold vld
  cases hin : inB xs.length 1 13
  · repeat' (first
      | (show EL _ _ _ _ (_ :: _) _ _
         first
         | (show EL _ _ _ _ (⟨_, _, _, _, _, some _⟩ :: _) _ _; refine EL.skip rfl rfl ?_)
         | (show EL _ _ _ _ (⟨_, .move _, _, _, _, _⟩ :: _) _ _; refine EL.f (FV.move rfl) rfl rfl ?_)
         | (show EL _ _ _ _ (⟨_, .assign _, _, _, _, _⟩ :: _) _ _; refine EL.f (FV.assign rfl) rfl rfl ?_)
         | (show EL _ _ _ _ (⟨_, .pick _ _ _, _, _, _, _⟩ :: _) _ _; refine EL.f (FV.pickF rfl rfl) rfl rfl ?_))
      | refine EL.nil ?_
      | refine EW.ret ?_)
    exact ⟨_, rfl, rfl, rfl⟩
  · repeat' (first
      | (show EL _ _ _ _ (_ :: _) _ _
         first
         | (show EL _ _ _ _ (⟨_, .call _, _, _, _, _⟩ :: _) _ _; (refine EL.h (Hv.call (specNumbers A c xs w hx hn) rfl) rfl (fun _ => rfl) ?_; rintro _ _ ⟨rfl, rfl⟩))
         | (show EL _ _ _ _ (⟨_, .move _, _, _, _, _⟩ :: _) _ _; refine EL.f (FV.move rfl) rfl rfl ?_)
         | (show EL _ _ _ _ (⟨_, .assign _, _, _, _, _⟩ :: _) _ _; refine EL.f (FV.assign rfl) rfl rfl ?_)
         | (show EL _ _ _ _ (⟨_, .pick _ _ _, _, _, _, _⟩ :: _) _ _; refine EL.f (FV.pickT rfl rfl) rfl rfl ?_))
      | refine EL.nil ?_
      | refine EW.ret ?_)
    exact ⟨_, rfl, rfl, rfl⟩
end Eng
end Go.Proofs.YtogljflccfoaeaaDoor
