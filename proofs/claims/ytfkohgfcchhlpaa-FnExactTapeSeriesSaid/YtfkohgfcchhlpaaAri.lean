/- Contracts of the functions on residues. No condition but that arguments are int64 numbers. -/
import Derived.Test.YtfkohgfcchhlpaaTab
namespace Go.Proofs.Ytfkohgfcchhlpaa
open Go Go.RowKit
namespace Eng

theorem tmod_bounds (x : Int) : -1000003 < x.tmod 1000003 ∧ x.tmod 1000003 < 1000003 := by
  constructor
  · have := Int.lt_tmod_of_pos x (b := 1000003) (by omega); omega
  · exact Int.tmod_lt_of_pos x (by omega)
theorem emod_of_tmod (x : Int) : (x.tmod 1000003 + 1000003) % 1000003 = x % 1000003 := by
  rw [Int.tmod_eq_emod]
  split
  · omega
  · simp
theorem emod_of_tmod_neg (x : Int) (h : x.tmod 1000003 < 0) : x.tmod 1000003 + 1000003 = x % 1000003 := by
  have := emod_of_tmod x
  have := tmod_bounds x
  omega
theorem emod_of_tmod_pos (x : Int) (h : ¬ x.tmod 1000003 < 0) : x.tmod 1000003 = x % 1000003 := by
  have := emod_of_tmod x
  have := tmod_bounds x
  omega

theorem implResidue (x : Int) (w : World) : CallsR Try.prog 170 [.int .i64 x] w fun v w' => v = .int .i64 (x % 1000003) ∧ w = w' := by
  refine CallsR.enter Try.func170 (by decide +kernel) rfl Try.ntmps170 rfl ?_
  have hb := tmod_bounds x
  have he := emod_of_tmod x
  repeat' (first
    | (show EL _ _ _ _ (_ :: _) _ _
       first
       | (show EL _ _ _ _ (⟨_, .move _, _, _, _, _⟩ :: _) _ _; refine EL.f (FV.move rfl) rfl rfl ?_)
       | (show EL _ _ _ _ (⟨_, .assign _, _, _, _, _⟩ :: _) _ _; refine EL.f (FV.assign rfl) rfl rfl ?_)
       | (show EL _ _ _ _ (⟨_, .binOp .add _ _ _ _, _, _, _, _⟩ :: _) _ _; refine EL.f (FV.addI rfl rfl (by omega)) rfl rfl ?_)
       | (show EL _ _ _ _ (⟨_, .binOp .rem _ _ _ _, _, _, _, _⟩ :: _) _ _; first | refine EL.f (FV.remI rfl rfl (by decide) (by omega)) rfl rfl ?_ | refine EL.f (FV.rem rfl rfl (by decide)) rfl rfl ?_))
    | refine EL.nil ?_
    | refine EW.seq ?_
    | refine EW.region ?_
    | refine EW.ret ?_)
  exact ⟨_, rfl, by rw [he], rfl⟩

theorem specResidue (x : Int) (w : World) : CallsR Try.prog 159 [.int .i64 x] w fun v w' => v = .int .i64 (x % 1000003) ∧ w = w' := by
  refine CallsR.enter Try.func159 (by decide +kernel) rfl Try.ntmps159 rfl ?_
  have hb := tmod_bounds x
  repeat' (first
    | (show EL _ _ _ _ (_ :: _) _ _
       first
       | (show EL _ _ _ _ (⟨_, .move _, _, _, _, _⟩ :: _) _ _; refine EL.f (FV.move rfl) rfl rfl ?_)
       | (show EL _ _ _ _ (⟨_, .assign _, _, _, _, _⟩ :: _) _ _; refine EL.f (FV.assign rfl) rfl rfl ?_)
       | (show EL _ _ _ _ (⟨_, .binOp .add _ _ _ _, _, _, _, _⟩ :: _) _ _; refine EL.f (FV.addI rfl rfl (by omega)) rfl rfl ?_)
       | (show EL _ _ _ _ (⟨_, .binOp .rem _ _ _ _, _, _, _, _⟩ :: _) _ _; refine EL.f (FV.rem rfl rfl (by decide)) rfl rfl ?_)
       | (show EL _ _ _ _ (⟨_, .binOp .lss _ _ _ _, _, _, _, _⟩ :: _) _ _; refine EL.fS (FV.lss rfl rfl) rfl (fun _ => rfl) (fun _ => ?_) (fun _ => ?_)))
    | refine EL.nil ?_
    | refine EW.seq ?_
    | refine EW.region ?_
    | refine EW.skip ?_
    | refine EW.ret ?_
    | refine EW.condT rfl ?_
    | refine EW.condF rfl ?_)
  · exact ⟨_, rfl, by rw [emod_of_tmod_neg x ‹_›], rfl⟩
  · exact ⟨_, rfl, by rw [emod_of_tmod_pos x ‹_›], rfl⟩

theorem implPlus (x y : Int) (w : World) : CallsR Try.prog 163 [.int .i64 x, .int .i64 y] w fun v w' => v = .int .i64 ((x + y) % 1000003) ∧ w = w' := by
  refine CallsR.enter Try.func163 (by decide +kernel) rfl Try.ntmps163 rfl ?_
  repeat' (first
    | (show EL _ _ _ _ (_ :: _) _ _
       first
       | (show EL _ _ _ _ (⟨_, .call _, _, _, _, _⟩ :: _) _ _; (refine EL.h (Hv.call (implResidue _ _) rfl) rfl (fun _ => rfl) ?_; rintro _ _ ⟨rfl, rfl⟩))
       | (show EL _ _ _ _ (⟨_, .move _, _, _, _, _⟩ :: _) _ _; refine EL.f (FV.move rfl) rfl rfl ?_)
       | (show EL _ _ _ _ (⟨_, .assign _, _, _, _, _⟩ :: _) _ _; refine EL.f (FV.assign rfl) rfl rfl ?_)
       | (show EL _ _ _ _ (⟨_, .binOp .add _ _ _ _, _, _, _, _⟩ :: _) _ _; refine EL.f (FV.addI rfl rfl (by omega)) rfl rfl ?_)
       | (show EL _ _ _ _ (⟨_, .binOp .rem _ _ _ _, _, _, _, _⟩ :: _) _ _; refine EL.f (FV.remI rfl rfl (by decide) (by omega)) rfl rfl ?_))
    | refine EL.nil ?_
    | refine EW.seq ?_
    | refine EW.region ?_
    | refine EW.ret ?_)
  exact ⟨_, rfl, by rw [← Int.add_emod], rfl⟩
theorem specPlus (x y : Int) (w : World) : CallsR Try.prog 156 [.int .i64 x, .int .i64 y] w fun v w' => v = .int .i64 ((x + y) % 1000003) ∧ w = w' := by
  refine CallsR.enter Try.func156 (by decide +kernel) rfl Try.ntmps156 rfl ?_
  repeat' (first
    | (show EL _ _ _ _ (_ :: _) _ _
       first
       | (show EL _ _ _ _ (⟨_, .call _, _, _, _, _⟩ :: _) _ _; (refine EL.h (Hv.call (specResidue _ _) rfl) rfl (fun _ => rfl) ?_; rintro _ _ ⟨rfl, rfl⟩))
       | (show EL _ _ _ _ (⟨_, .move _, _, _, _, _⟩ :: _) _ _; refine EL.f (FV.move rfl) rfl rfl ?_)
       | (show EL _ _ _ _ (⟨_, .assign _, _, _, _, _⟩ :: _) _ _; refine EL.f (FV.assign rfl) rfl rfl ?_)
       | (show EL _ _ _ _ (⟨_, .binOp .add _ _ _ _, _, _, _, _⟩ :: _) _ _; refine EL.f (FV.addI rfl rfl (by omega)) rfl rfl ?_)
       | (show EL _ _ _ _ (⟨_, .binOp .rem _ _ _ _, _, _, _, _⟩ :: _) _ _; refine EL.f (FV.remI rfl rfl (by decide) (by omega)) rfl rfl ?_))
    | refine EL.nil ?_
    | refine EW.seq ?_
    | refine EW.region ?_
    | refine EW.ret ?_)
  exact ⟨_, rfl, by rw [← Int.add_emod], rfl⟩
theorem mul_bounds {a b : Int} (h1 : 0 ≤ a ∧ a < 1000003) (h2 : 0 ≤ b ∧ b < 1000003) : 0 ≤ a * b ∧ a * b ≤ 1000004000004 := by
  constructor
  · exact Int.mul_nonneg h1.1 h2.1
  · have : a * b ≤ 1000002 * 1000002 := Int.mul_le_mul (by omega) (by omega) h2.1 (by omega)
    omega

theorem implTimes (x y : Int) (w : World) : CallsR Try.prog 165 [.int .i64 x, .int .i64 y] w fun v w' => v = .int .i64 (x * y % 1000003) ∧ w = w' := by
  refine CallsR.enter Try.func165 (by decide +kernel) rfl Try.ntmps165 rfl ?_
  have hm := mul_bounds (a := x % 1000003) (b := y % 1000003) (by omega) (by omega)
  repeat' (first
    | (show EL _ _ _ _ (_ :: _) _ _
       first
       | (show EL _ _ _ _ (⟨_, .call _, _, _, _, _⟩ :: _) _ _; (refine EL.h (Hv.call (implResidue _ _) rfl) rfl (fun _ => rfl) ?_; rintro _ _ ⟨rfl, rfl⟩))
       | (show EL _ _ _ _ (⟨_, .binOp .mul _ _ _ _, _, _, _, _⟩ :: _) _ _; refine EL.f (FV.mulI rfl rfl (by omega)) rfl rfl ?_)
       | (show EL _ _ _ _ (⟨_, .move _, _, _, _, _⟩ :: _) _ _; refine EL.f (FV.move rfl) rfl rfl ?_)
       | (show EL _ _ _ _ (⟨_, .assign _, _, _, _, _⟩ :: _) _ _; refine EL.f (FV.assign rfl) rfl rfl ?_)
       | (show EL _ _ _ _ (⟨_, .binOp .rem _ _ _ _, _, _, _, _⟩ :: _) _ _; refine EL.f (FV.remI rfl rfl (by decide) (by omega)) rfl rfl ?_))
    | refine EL.nil ?_
    | refine EW.seq ?_
    | refine EW.region ?_
    | refine EW.ret ?_)
  exact ⟨_, rfl, by rw [← Int.mul_emod], rfl⟩
theorem specTimes (x y : Int) (w : World) : CallsR Try.prog 161 [.int .i64 x, .int .i64 y] w fun v w' => v = .int .i64 (x * y % 1000003) ∧ w = w' := by
  refine CallsR.enter Try.func161 (by decide +kernel) rfl Try.ntmps161 rfl ?_
  have hm := mul_bounds (a := x % 1000003) (b := y % 1000003) (by omega) (by omega)
  repeat' (first
    | (show EL _ _ _ _ (_ :: _) _ _
       first
       | (show EL _ _ _ _ (⟨_, .call _, _, _, _, _⟩ :: _) _ _; (refine EL.h (Hv.call (specResidue _ _) rfl) rfl (fun _ => rfl) ?_; rintro _ _ ⟨rfl, rfl⟩))
       | (show EL _ _ _ _ (⟨_, .binOp .mul _ _ _ _, _, _, _, _⟩ :: _) _ _; refine EL.f (FV.mulI rfl rfl (by omega)) rfl rfl ?_)
       | (show EL _ _ _ _ (⟨_, .move _, _, _, _, _⟩ :: _) _ _; refine EL.f (FV.move rfl) rfl rfl ?_)
       | (show EL _ _ _ _ (⟨_, .assign _, _, _, _, _⟩ :: _) _ _; refine EL.f (FV.assign rfl) rfl rfl ?_)
       | (show EL _ _ _ _ (⟨_, .binOp .rem _ _ _ _, _, _, _, _⟩ :: _) _ _; refine EL.f (FV.remI rfl rfl (by decide) (by omega)) rfl rfl ?_))
    | refine EL.nil ?_
    | refine EW.seq ?_
    | refine EW.region ?_
    | refine EW.ret ?_)
  exact ⟨_, rfl, by rw [← Int.mul_emod], rfl⟩

/-! powers -/
def pw (x : Int) (n : Int) : Int := if n < 0 then 0 else (x ^ n.toNat) % 1000003
structure PwInv (x N : Int) (s : Int × Int × Int) : Prop where
  o : 0 ≤ s.1 ∧ s.1 < 1000003
  b : 0 ≤ s.2.1 ∧ s.2.1 < 1000003
  n : 0 ≤ s.2.2 ∧ s.2.2 ≤ 9223372036854775807
  eq : (s.1 * s.2.1 ^ s.2.2.toNat) % 1000003 = x ^ N.toNat % 1000003
theorem pow_emod (a m : Int) (k : Nat) : (a % m) ^ k % m = a ^ k % m := by
  induction k with
  | zero => simp
  | succ k ih => rw [Int.pow_succ, Int.pow_succ, Int.mul_emod, ih, Int.emod_emod, ← Int.mul_emod]
theorem sq_pow (b : Int) (k : Nat) : (b * b) ^ k = b ^ (2 * k) := by
  induction k with
  | zero => simp
  | succ k ih => rw [Int.pow_succ, ih, show 2 * (k + 1) = 2 * k + 1 + 1 from by omega, Int.pow_succ, Int.pow_succ, Int.mul_assoc]
theorem PwInv.start (x N : Int) (hN : 0 ≤ N) (h2 : N ≤ 9223372036854775807) : PwInv x N (1, x % 1000003, N) :=
  ⟨by simp, by simp only; omega, ⟨hN, h2⟩, by simp only [Int.one_mul]; exact pow_emod _ _ _⟩
theorem PwInv.odd {x N o b n : Int} (h : PwInv x N (o, b, n)) (hn : 0 < n) (h1 : n % 2 = 1) : PwInv x N (o * b % 1000003, b * b % 1000003, n / 2) := by
  refine ⟨by simp only; omega, by simp only; omega, by have := h.n; simp only at this ⊢; omega, ?_⟩
  rw [← h.eq]
  simp only
  have e : n.toNat = 2 * (n / 2).toNat + 1 := by omega
  rw [e, Int.mul_emod, pow_emod, Int.emod_emod, ← Int.mul_emod, sq_pow, Int.pow_succ, Int.mul_assoc, Int.mul_comm b (b ^ _)]
theorem PwInv.even {x N o b n : Int} (h : PwInv x N (o, b, n)) (hn : 0 < n) (h1 : ¬ n % 2 = 1) : PwInv x N (o, b * b % 1000003, n / 2) := by
  refine ⟨h.o, by simp only; omega, by have := h.n; simp only at this ⊢; omega, ?_⟩
  rw [← h.eq]
  simp only
  have e : n.toNat = 2 * (n / 2).toNat := by omega
  rw [e, Int.mul_emod, pow_emod, ← Int.mul_emod, sq_pow]
theorem PwInv.done {x N o b n : Int} (h : PwInv x N (o, b, n)) (hn : ¬ 0 < n) (hN : ¬ N < 0) : o = pw x N := by
  have e := h.eq
  have := h.n
  have := h.o
  simp only at *
  have hz : n.toNat = 0 := by omega
  rw [hz] at e
  simp only [Int.pow_zero, Int.mul_one] at e
  unfold pw
  rw [if_neg hN, ← e]
  omega

theorem implPower (x N : Int) (h2 : N ≤ 9223372036854775807) (w : World) : CallsR Try.prog 171 [.int .i64 x, .int .i64 N] w fun v w' => v = .int .i64 (pw x N) ∧ w = w' := by
  refine CallsR.enter Try.func171 (by decide +kernel) rfl Try.ntmps171 rfl ?_
  repeat' (first
    | (show EL _ _ _ _ (_ :: _) _ _
       first
       | (show EL _ _ _ _ (⟨_, .call _, _, _, _, _⟩ :: _) _ _; (refine EL.h (Hv.call (implResidue _ _) rfl) rfl (fun _ => rfl) ?_; rintro _ _ ⟨rfl, rfl⟩))
       | (show EL _ _ _ _ (⟨_, .move _, _, _, _, _⟩ :: _) _ _; refine EL.f (FV.move rfl) rfl rfl ?_)
       | (show EL _ _ _ _ (⟨_, .assign _, _, _, _, _⟩ :: _) _ _; refine EL.f (FV.assign rfl) rfl rfl ?_)
       | (show EL _ _ _ _ (⟨_, .binOp .lss _ _ _ _, _, _, _, _⟩ :: _) _ _; refine EL.fS (FV.lss rfl rfl) rfl (fun _ => rfl) (fun _ => ?_) (fun _ => ?_)))
    | refine EL.nil ?_
    | refine EW.seq ?_
    | refine EW.region ?_
    | refine EW.block ?_
    | refine EW.skip ?_
    | refine EW.ret ?_
    | refine EW.condT rfl ?_
    | refine EW.condF rfl ?_)
  · exact ⟨_, rfl, by simp [pw, *], rfl⟩
  · refine EW.loop (fun s w' => PwInv x N s ∧ w = w') (fun s => [(1, .int .i64 s.2.2), (5, .int .i64 s.1), (6, .int .i64 s.2.1)]) (fun s => s.2.2.toNat) (1, x % 1000003, N) ⟨PwInv.start x N (by omega) h2, rfl⟩ ⟨rfl, rfl, rfl, trivial⟩ ?_
    rintro ⟨o, b, n⟩ w' ⟨hi, rfl⟩
    dsimp only
    have ho := hi.o
    have hb := hi.b
    have hn := hi.n
    simp only at ho hb hn
    have hm := mul_bounds ho hb
    have hm2 := mul_bounds hb hb
    repeat' (first
      | (show EL _ _ _ _ (_ :: _) _ _
         first
         | (show EL _ _ _ _ (⟨_, .binOp .mul _ _ _ _, _, _, _, _⟩ :: _) _ _; refine EL.f (FV.mulI rfl rfl (by omega)) rfl rfl ?_)
         | (show EL _ _ _ _ (⟨_, .move _, _, _, _, _⟩ :: _) _ _; refine EL.f (FV.move rfl) rfl rfl ?_)
         | (show EL _ _ _ _ (⟨_, .assign _, _, _, _, _⟩ :: _) _ _; refine EL.f (FV.assign rfl) rfl rfl ?_)
         | (show EL _ _ _ _ (⟨_, .binOp .rem _ _ _ _, _, _, _, _⟩ :: _) _ _; refine EL.f (FV.remI rfl rfl (by decide) (by omega)) rfl rfl ?_)
         | (show EL _ _ _ _ (⟨_, .binOp .quo _ _ _ _, _, _, _, _⟩ :: _) _ _; refine EL.f (FV.quoI rfl rfl (by decide) (by omega)) rfl rfl ?_)
         | (show EL _ _ _ _ (⟨_, .binOp .gtr _ _ _ _, _, _, _, _⟩ :: _) _ _; refine EL.fS (FV.gtr rfl rfl) rfl (fun _ => rfl) (fun _ => ?_) (fun _ => ?_))
         | (show EL _ _ _ _ (⟨_, .binOp .eql _ _ _ _, _, _, _, _⟩ :: _) _ _; refine EL.fS (FV.eql rfl rfl) rfl (fun _ => rfl) (fun _ => ?_) (fun _ => ?_)))
      | refine EL.nil ?_
      | refine EW.seq ?_
      | refine EW.region ?_
      | refine EW.block ?_
      | refine EW.skip ?_
      | refine EW.exit ?_
      | refine EW.ret ?_
      | refine EW.condT rfl ?_
      | refine EW.condF rfl ?_)
    · exact ⟨(_, _, _), ⟨rfl, rfl, rfl, trivial⟩, ⟨hi.odd ‹_› ‹_›, rfl⟩, by simp only; omega⟩
    · exact ⟨(_, _, _), ⟨rfl, rfl, rfl, trivial⟩, ⟨hi.even ‹_› ‹_›, rfl⟩, by simp only; omega⟩
    · exact ⟨_, rfl, by rw [hi.done ‹_› ‹_›], rfl⟩

theorem specPower (x N : Int) (h2 : N ≤ 9223372036854775807) (w : World) : CallsR Try.prog 169 [.int .i64 x, .int .i64 N] w fun v w' => v = .int .i64 (pw x N) ∧ w = w' := by
  refine CallsR.enter Try.func169 (by decide +kernel) rfl Try.ntmps169 rfl ?_
  repeat' (first
    | (show EL _ _ _ _ (_ :: _) _ _
       first
       | (show EL _ _ _ _ (⟨_, .call _, _, _, _, _⟩ :: _) _ _; (refine EL.h (Hv.call (specResidue _ _) rfl) rfl (fun _ => rfl) ?_; rintro _ _ ⟨rfl, rfl⟩))
       | (show EL _ _ _ _ (⟨_, .move _, _, _, _, _⟩ :: _) _ _; refine EL.f (FV.move rfl) rfl rfl ?_)
       | (show EL _ _ _ _ (⟨_, .assign _, _, _, _, _⟩ :: _) _ _; refine EL.f (FV.assign rfl) rfl rfl ?_)
       | (show EL _ _ _ _ (⟨_, .binOp .lss _ _ _ _, _, _, _, _⟩ :: _) _ _; refine EL.fS (FV.lss rfl rfl) rfl (fun _ => rfl) (fun _ => ?_) (fun _ => ?_)))
    | refine EL.nil ?_
    | refine EW.seq ?_
    | refine EW.region ?_
    | refine EW.block ?_
    | refine EW.skip ?_
    | refine EW.ret ?_
    | refine EW.condT rfl ?_
    | refine EW.condF rfl ?_)
  · exact ⟨_, rfl, by simp [pw, *], rfl⟩
  · refine EW.loop (fun s w' => PwInv x N s ∧ w = w') (fun s => [(1, .int .i64 s.2.2), (5, .int .i64 s.1), (6, .int .i64 s.2.1)]) (fun s => s.2.2.toNat) (1, x % 1000003, N) ⟨PwInv.start x N (by omega) h2, rfl⟩ ⟨rfl, rfl, rfl, trivial⟩ ?_
    rintro ⟨o, b, n⟩ w' ⟨hi, rfl⟩
    dsimp only
    have hn := hi.n
    simp only at hn
    repeat' (first
      | (show EL _ _ _ _ (_ :: _) _ _
         first
         | (show EL _ _ _ _ (⟨_, .call _, _, _, _, _⟩ :: _) _ _; (refine EL.h (Hv.call (specTimes _ _ _) rfl) rfl (fun _ => rfl) ?_; rintro _ _ ⟨rfl, rfl⟩))
         | (show EL _ _ _ _ (⟨_, .move _, _, _, _, _⟩ :: _) _ _; refine EL.f (FV.move rfl) rfl rfl ?_)
         | (show EL _ _ _ _ (⟨_, .assign _, _, _, _, _⟩ :: _) _ _; refine EL.f (FV.assign rfl) rfl rfl ?_)
         | (show EL _ _ _ _ (⟨_, .binOp .rem _ _ _ _, _, _, _, _⟩ :: _) _ _; refine EL.f (FV.remI rfl rfl (by decide) (by omega)) rfl rfl ?_)
         | (show EL _ _ _ _ (⟨_, .binOp .quo _ _ _ _, _, _, _, _⟩ :: _) _ _; refine EL.f (FV.quoI rfl rfl (by decide) (by omega)) rfl rfl ?_)
         | (show EL _ _ _ _ (⟨_, .binOp .gtr _ _ _ _, _, _, _, _⟩ :: _) _ _; refine EL.fS (FV.gtr rfl rfl) rfl (fun _ => rfl) (fun _ => ?_) (fun _ => ?_))
         | (show EL _ _ _ _ (⟨_, .binOp .eql _ _ _ _, _, _, _, _⟩ :: _) _ _; refine EL.fS (FV.eql rfl rfl) rfl (fun _ => rfl) (fun _ => ?_) (fun _ => ?_)))
      | refine EL.nil ?_
      | refine EW.seq ?_
      | refine EW.region ?_
      | refine EW.block ?_
      | refine EW.skip ?_
      | refine EW.exit ?_
      | refine EW.ret ?_
      | refine EW.condT rfl ?_
      | refine EW.condF rfl ?_)
    · exact ⟨(_, _, _), ⟨rfl, rfl, rfl, trivial⟩, ⟨hi.odd ‹_› ‹_›, rfl⟩, by simp only; omega⟩
    · exact ⟨(_, _, _), ⟨rfl, rfl, rfl, trivial⟩, ⟨hi.even ‹_› ‹_›, rfl⟩, by simp only; omega⟩
    · exact ⟨_, rfl, by rw [hi.done ‹_› ‹_›], rfl⟩

/-! inverses -/
def inv (x : Int) : Int := pw x 1000001
theorem pw_bounds (x n : Int) : 0 ≤ pw x n ∧ pw x n < 1000003 := by
  unfold pw
  split
  · omega
  · omega
theorem inv_bounds (x : Int) : 0 ≤ inv x ∧ inv x < 1000003 := pw_bounds _ _
theorem implInverse0 (x : Int) (w : World) : CallsR Try.prog 166 [.int .i64 x] w fun v w' => v = .int .i64 (inv x) ∧ w = w' := by
  refine CallsR.enter Try.func166 (by decide +kernel) rfl Try.ntmps166 rfl ?_
  repeat' (first
    | (refine EL.h (Hv.call (implPower _ _ (by decide) _) rfl) rfl (fun _ => rfl) ?_; rintro _ _ ⟨rfl, rfl⟩)
    | refine EL.f (FV.move rfl) rfl rfl ?_
    | refine EL.f (FV.assign rfl) rfl rfl ?_
    | refine EL.nil ?_
    | refine EW.seq ?_
    | refine EW.region ?_
    | refine EW.ret ?_)
  exact ⟨_, rfl, rfl, rfl⟩
theorem specInverse0 (x : Int) (w : World) : CallsR Try.prog 162 [.int .i64 x] w fun v w' => v = .int .i64 (inv x) ∧ w = w' := by
  refine CallsR.enter Try.func162 (by decide +kernel) rfl Try.ntmps162 rfl ?_
  repeat' (first
    | (refine EL.h (Hv.call (specPower _ _ (by decide) _) rfl) rfl (fun _ => rfl) ?_; rintro _ _ ⟨rfl, rfl⟩)
    | refine EL.f (FV.move rfl) rfl rfl ?_
    | refine EL.f (FV.assign rfl) rfl rfl ?_
    | refine EL.nil ?_
    | refine EW.seq ?_
    | refine EW.region ?_
    | refine EW.ret ?_)
  exact ⟨_, rfl, rfl, rfl⟩
theorem implMinus (x y : Int) (w : World) : CallsR Try.prog 164 [.int .i64 x, .int .i64 y] w fun v w' => v = .int .i64 ((x - y) % 1000003) ∧ w = w' := by
  refine CallsR.enter Try.func164 (by decide +kernel) rfl Try.ntmps164 rfl ?_
  repeat' (first
    | (show EL _ _ _ _ (_ :: _) _ _
       first
       | (show EL _ _ _ _ (⟨_, .call _, _, _, _, _⟩ :: _) _ _; first | (refine EL.h (Hv.call (implResidue _ _) rfl) rfl (fun _ => rfl) ?_; rintro _ _ ⟨rfl, rfl⟩) | (refine EL.h (Hv.call (implPlus _ _ _) rfl) rfl (fun _ => rfl) ?_; rintro _ _ ⟨rfl, rfl⟩))
       | (show EL _ _ _ _ (⟨_, .move _, _, _, _, _⟩ :: _) _ _; refine EL.f (FV.move rfl) rfl rfl ?_)
       | (show EL _ _ _ _ (⟨_, .assign _, _, _, _, _⟩ :: _) _ _; refine EL.f (FV.assign rfl) rfl rfl ?_)
       | (show EL _ _ _ _ (⟨_, .binOp .sub _ _ _ _, _, _, _, _⟩ :: _) _ _; refine EL.f (FV.subI rfl rfl (by omega)) rfl rfl ?_))
    | refine EL.nil ?_
    | refine EW.seq ?_
    | refine EW.region ?_
    | refine EW.ret ?_)
  exact ⟨_, rfl, by congr 1; omega, rfl⟩
theorem specMinus (x y : Int) (hx : -1000000000000000000 ≤ x ∧ x ≤ 1000000000000000000) (hy : -1000000000000000000 ≤ y ∧ y ≤ 1000000000000000000) (w : World) : CallsR Try.prog 160 [.int .i64 x, .int .i64 y] w fun v w' => v = .int .i64 ((x - y) % 1000003) ∧ w = w' := by
  refine CallsR.enter Try.func160 (by decide +kernel) rfl Try.ntmps160 rfl ?_
  repeat' (first
    | (show EL _ _ _ _ (_ :: _) _ _
       first
       | (show EL _ _ _ _ (⟨_, .call _, _, _, _, _⟩ :: _) _ _; (refine EL.h (Hv.call (specResidue _ _) rfl) rfl (fun _ => rfl) ?_; rintro _ _ ⟨rfl, rfl⟩))
       | (show EL _ _ _ _ (⟨_, .move _, _, _, _, _⟩ :: _) _ _; refine EL.f (FV.move rfl) rfl rfl ?_)
       | (show EL _ _ _ _ (⟨_, .assign _, _, _, _, _⟩ :: _) _ _; refine EL.f (FV.assign rfl) rfl rfl ?_)
       | (show EL _ _ _ _ (⟨_, .binOp .sub _ _ _ _, _, _, _, _⟩ :: _) _ _; refine EL.f (FV.subI rfl rfl (by omega)) rfl rfl ?_))
    | refine EL.nil ?_
    | refine EW.seq ?_
    | refine EW.region ?_
    | refine EW.ret ?_)
  exact ⟨_, rfl, rfl, rfl⟩
end Eng
end Go.Proofs.Ytfkohgfcchhlpaa
