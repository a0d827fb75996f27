/- Products and quotients of two series as the program exports them, and their laws. No condition. -/
import Derived.Test.YtlhfcmcocbiafaaSer3
namespace Go.Proofs.Ytlhfcmcocbiafaa
open Go Go.RowKit
namespace Eng
def MulR (xs ys : List Int) : List Int × Int := if twoC xs ys = 0 then (mulL xs ys, 0) else ([], twoC xs ys)
theorem MulR_len (xs ys : List Int) : (MulR xs ys).1.length ≤ 1048576 := by
  unfold MulR
  split
  · rename_i h; have := vld_len (twoC_zero h).1; simp only; rw [mulL_length]; omega
  · simp
theorem implMulS (A B : Option Addr) (c d : Nat) (xs ys : List Int) (w : World) (hx : Rd w A (ints xs)) (hy : Rd w B (ints ys)) (hn : xs.length ≤ 1048576) (hm : ys.length ≤ 1048576) :
    CallsR Try.prog 43 [.slice A xs.length c, .slice B ys.length d] w (SerOut w (MulR xs ys)) := by
  refine CallsR.enter Try.func43 (by decide +kernel) rfl Try.ntmps43 rfl ?_
  unfold MulR
  by_cases h0 : twoC xs ys = 0
  · have h1 := twoC_zero h0
    have h2 := vld_len h1.1
    have h3 := vld_len h1.2.1
    repeat' (first
      | (refine EL.h (Hv.call (implTwo A B c d xs ys w hx hy hn hm) rfl) rfl (fun _ => rfl) ?_; rintro _ _ ⟨rfl, rfl⟩)
      | (refine EL.h (Hv.call (implProduct A B c d xs ys w hx hy (by omega) (by omega) h2.2.2 h3.2.2) rfl) rfl (fun _ => rfl) ?_; rintro v w' ⟨ho, he⟩)
      | refine EW.seq ?_
      | refine EL.f (FV.move rfl) rfl rfl ?_
      | refine EL.f (FV.assign rfl) rfl rfl ?_
      | refine EL.nil ?_
      | refine EW.region ?_
      | refine EW.block ?_
      | refine EW.skip ?_
      | refine EW.exit ?_
      | refine EW.ret ?_
      | refine EW.condT rfl ?_
      | refine EW.condF rfl ?_
      | refine EL.f (FV.addI rfl rfl (by omega)) rfl rfl ?_
      | refine EL.f (FV.subI rfl rfl (by omega)) rfl rfl ?_
      | refine EL.f (FV.remI rfl rfl (by decide) (by omega)) rfl rfl ?_
      | refine EL.f (FV.quoI rfl rfl (by decide) (by omega)) rfl rfl ?_
      | refine EL.f (FV.extract rfl rfl) rfl rfl ?_
      | refine EL.f (FV.len rfl rfl) rfl rfl ?_
      | refine EL.f (FV.lenS rfl rfl) rfl rfl ?_
      | refine EL.f (FV.not rfl) rfl rfl ?_
      | refine EL.skip rfl rfl ?_
      | refine EL.f (FV.pickT rfl rfl) rfl rfl ?_
      | refine EL.f (FV.pickF rfl rfl) rfl rfl ?_
      | refine EL.fT (FV.lss rfl rfl) rfl (fun _ => rfl) (by omega) ?_
      | refine EL.fT (FV.leq rfl rfl) rfl (fun _ => rfl) (by omega) ?_
      | refine EL.fT (FV.gtr rfl rfl) rfl (fun _ => rfl) (by omega) ?_
      | refine EL.fT (FV.geq rfl rfl) rfl (fun _ => rfl) (by omega) ?_
      | refine EL.fT (FV.eql rfl rfl) rfl (fun _ => rfl) (by omega) ?_
      | refine EL.fT (FV.neq rfl rfl) rfl (fun _ => rfl) (by omega) ?_
      | refine EL.fF (FV.lss rfl rfl) rfl (fun _ => rfl) (by omega) ?_
      | refine EL.fF (FV.leq rfl rfl) rfl (fun _ => rfl) (by omega) ?_
      | refine EL.fF (FV.gtr rfl rfl) rfl (fun _ => rfl) (by omega) ?_
      | refine EL.fF (FV.geq rfl rfl) rfl (fun _ => rfl) (by omega) ?_
      | refine EL.fF (FV.eql rfl rfl) rfl (fun _ => rfl) (by omega) ?_
      | refine EL.fF (FV.neq rfl rfl) rfl (fun _ => rfl) (by omega) ?_
      | refine EL.f (FV.rem rfl rfl (by decide)) rfl rfl ?_
      | refine EL.f (FV.idx0 rfl rfl rfl rfl (by omega) (by omega)) rfl rfl ?_
      | refine EL.f (FV.idx1 rfl rfl rfl rfl (by omega) (by omega)) rfl rfl ?_
      | refine EL.f (FV.load1 rfl rfl rfl (by assumption)) rfl rfl ?_)
    rw [if_pos h0]
    exact ⟨_, rfl, v, rfl, ho, he⟩
  · repeat' (first
      | (refine EL.h (Hv.call (implTwo A B c d xs ys w hx hy hn hm) rfl) rfl (fun _ => rfl) ?_; rintro _ _ ⟨rfl, rfl⟩)
      | refine EW.seq ?_
      | refine EL.f (FV.move rfl) rfl rfl ?_
      | refine EL.f (FV.assign rfl) rfl rfl ?_
      | refine EL.nil ?_
      | refine EW.region ?_
      | refine EW.block ?_
      | refine EW.skip ?_
      | refine EW.exit ?_
      | refine EW.ret ?_
      | refine EW.condT rfl ?_
      | refine EW.condF rfl ?_
      | refine EL.f (FV.addI rfl rfl (by omega)) rfl rfl ?_
      | refine EL.f (FV.subI rfl rfl (by omega)) rfl rfl ?_
      | refine EL.f (FV.remI rfl rfl (by decide) (by omega)) rfl rfl ?_
      | refine EL.f (FV.quoI rfl rfl (by decide) (by omega)) rfl rfl ?_
      | refine EL.f (FV.extract rfl rfl) rfl rfl ?_
      | refine EL.f (FV.len rfl rfl) rfl rfl ?_
      | refine EL.f (FV.lenS rfl rfl) rfl rfl ?_
      | refine EL.f (FV.not rfl) rfl rfl ?_
      | refine EL.skip rfl rfl ?_
      | refine EL.f (FV.pickT rfl rfl) rfl rfl ?_
      | refine EL.f (FV.pickF rfl rfl) rfl rfl ?_
      | refine EL.fT (FV.lss rfl rfl) rfl (fun _ => rfl) (by omega) ?_
      | refine EL.fT (FV.leq rfl rfl) rfl (fun _ => rfl) (by omega) ?_
      | refine EL.fT (FV.gtr rfl rfl) rfl (fun _ => rfl) (by omega) ?_
      | refine EL.fT (FV.geq rfl rfl) rfl (fun _ => rfl) (by omega) ?_
      | refine EL.fT (FV.eql rfl rfl) rfl (fun _ => rfl) (by omega) ?_
      | refine EL.fT (FV.neq rfl rfl) rfl (fun _ => rfl) (by omega) ?_
      | refine EL.fF (FV.lss rfl rfl) rfl (fun _ => rfl) (by omega) ?_
      | refine EL.fF (FV.leq rfl rfl) rfl (fun _ => rfl) (by omega) ?_
      | refine EL.fF (FV.gtr rfl rfl) rfl (fun _ => rfl) (by omega) ?_
      | refine EL.fF (FV.geq rfl rfl) rfl (fun _ => rfl) (by omega) ?_
      | refine EL.fF (FV.eql rfl rfl) rfl (fun _ => rfl) (by omega) ?_
      | refine EL.fF (FV.neq rfl rfl) rfl (fun _ => rfl) (by omega) ?_
      | refine EL.f (FV.rem rfl rfl (by decide)) rfl rfl ?_
      | refine EL.f (FV.idx0 rfl rfl rfl rfl (by omega) (by omega)) rfl rfl ?_
      | refine EL.f (FV.idx1 rfl rfl rfl rfl (by omega) (by omega)) rfl rfl ?_
      | refine EL.f (FV.load1 rfl rfl rfl (by assumption)) rfl rfl ?_)
    rw [if_neg h0]
    exact ⟨_, rfl, SerOut.nil _ _⟩
theorem specMulS (A B : Option Addr) (c d : Nat) (xs ys : List Int) (w : World) (hx : Rd w A (ints xs)) (hy : Rd w B (ints ys)) (hn : xs.length ≤ 1048576) (hm : ys.length ≤ 1048576) :
    CallsR Try.prog 42 [.slice A xs.length c, .slice B ys.length d] w (SerOut w (MulR xs ys)) := by
  refine CallsR.enter Try.func42 (by decide +kernel) rfl Try.ntmps42 rfl ?_
  unfold MulR
  by_cases h0 : twoC xs ys = 0
  · have h1 := twoC_zero h0
    have h2 := vld_len h1.1
    have h3 := vld_len h1.2.1
    repeat' (first
      | (refine EL.h (Hv.call (specTwo A B c d xs ys w hx hy hn hm) rfl) rfl (fun _ => rfl) ?_; rintro _ _ ⟨rfl, rfl⟩)
      | (refine EL.h (Hv.call (specMul A B c d xs ys w hx hy (by omega) (by omega)) rfl) rfl (fun _ => rfl) ?_; rintro v w' ⟨ho, he⟩)
      | refine EW.seq ?_
      | refine EL.f (FV.move rfl) rfl rfl ?_
      | refine EL.f (FV.assign rfl) rfl rfl ?_
      | refine EL.nil ?_
      | refine EW.region ?_
      | refine EW.block ?_
      | refine EW.skip ?_
      | refine EW.exit ?_
      | refine EW.ret ?_
      | refine EW.condT rfl ?_
      | refine EW.condF rfl ?_
      | refine EL.f (FV.addI rfl rfl (by omega)) rfl rfl ?_
      | refine EL.f (FV.subI rfl rfl (by omega)) rfl rfl ?_
      | refine EL.f (FV.remI rfl rfl (by decide) (by omega)) rfl rfl ?_
      | refine EL.f (FV.quoI rfl rfl (by decide) (by omega)) rfl rfl ?_
      | refine EL.f (FV.extract rfl rfl) rfl rfl ?_
      | refine EL.f (FV.len rfl rfl) rfl rfl ?_
      | refine EL.f (FV.lenS rfl rfl) rfl rfl ?_
      | refine EL.f (FV.not rfl) rfl rfl ?_
      | refine EL.skip rfl rfl ?_
      | refine EL.f (FV.pickT rfl rfl) rfl rfl ?_
      | refine EL.f (FV.pickF rfl rfl) rfl rfl ?_
      | refine EL.fT (FV.lss rfl rfl) rfl (fun _ => rfl) (by omega) ?_
      | refine EL.fT (FV.leq rfl rfl) rfl (fun _ => rfl) (by omega) ?_
      | refine EL.fT (FV.gtr rfl rfl) rfl (fun _ => rfl) (by omega) ?_
      | refine EL.fT (FV.geq rfl rfl) rfl (fun _ => rfl) (by omega) ?_
      | refine EL.fT (FV.eql rfl rfl) rfl (fun _ => rfl) (by omega) ?_
      | refine EL.fT (FV.neq rfl rfl) rfl (fun _ => rfl) (by omega) ?_
      | refine EL.fF (FV.lss rfl rfl) rfl (fun _ => rfl) (by omega) ?_
      | refine EL.fF (FV.leq rfl rfl) rfl (fun _ => rfl) (by omega) ?_
      | refine EL.fF (FV.gtr rfl rfl) rfl (fun _ => rfl) (by omega) ?_
      | refine EL.fF (FV.geq rfl rfl) rfl (fun _ => rfl) (by omega) ?_
      | refine EL.fF (FV.eql rfl rfl) rfl (fun _ => rfl) (by omega) ?_
      | refine EL.fF (FV.neq rfl rfl) rfl (fun _ => rfl) (by omega) ?_
      | refine EL.f (FV.rem rfl rfl (by decide)) rfl rfl ?_
      | refine EL.f (FV.idx0 rfl rfl rfl rfl (by omega) (by omega)) rfl rfl ?_
      | refine EL.f (FV.idx1 rfl rfl rfl rfl (by omega) (by omega)) rfl rfl ?_
      | refine EL.f (FV.load1 rfl rfl rfl (by assumption)) rfl rfl ?_)
    rw [if_pos h0]
    exact ⟨_, rfl, v, rfl, ho, he⟩
  · repeat' (first
      | (refine EL.h (Hv.call (specTwo A B c d xs ys w hx hy hn hm) rfl) rfl (fun _ => rfl) ?_; rintro _ _ ⟨rfl, rfl⟩)
      | (refine EL.h (Hv.build0 rfl rfl) rfl (fun _ => rfl) ?_; rintro v w' ⟨ho, he⟩)
      | refine EW.seq ?_
      | refine EL.f (FV.move rfl) rfl rfl ?_
      | refine EL.f (FV.assign rfl) rfl rfl ?_
      | refine EL.nil ?_
      | refine EW.region ?_
      | refine EW.block ?_
      | refine EW.skip ?_
      | refine EW.exit ?_
      | refine EW.ret ?_
      | refine EW.condT rfl ?_
      | refine EW.condF rfl ?_
      | refine EL.f (FV.addI rfl rfl (by omega)) rfl rfl ?_
      | refine EL.f (FV.subI rfl rfl (by omega)) rfl rfl ?_
      | refine EL.f (FV.remI rfl rfl (by decide) (by omega)) rfl rfl ?_
      | refine EL.f (FV.quoI rfl rfl (by decide) (by omega)) rfl rfl ?_
      | refine EL.f (FV.extract rfl rfl) rfl rfl ?_
      | refine EL.f (FV.len rfl rfl) rfl rfl ?_
      | refine EL.f (FV.lenS rfl rfl) rfl rfl ?_
      | refine EL.f (FV.not rfl) rfl rfl ?_
      | refine EL.skip rfl rfl ?_
      | refine EL.f (FV.pickT rfl rfl) rfl rfl ?_
      | refine EL.f (FV.pickF rfl rfl) rfl rfl ?_
      | refine EL.fT (FV.lss rfl rfl) rfl (fun _ => rfl) (by omega) ?_
      | refine EL.fT (FV.leq rfl rfl) rfl (fun _ => rfl) (by omega) ?_
      | refine EL.fT (FV.gtr rfl rfl) rfl (fun _ => rfl) (by omega) ?_
      | refine EL.fT (FV.geq rfl rfl) rfl (fun _ => rfl) (by omega) ?_
      | refine EL.fT (FV.eql rfl rfl) rfl (fun _ => rfl) (by omega) ?_
      | refine EL.fT (FV.neq rfl rfl) rfl (fun _ => rfl) (by omega) ?_
      | refine EL.fF (FV.lss rfl rfl) rfl (fun _ => rfl) (by omega) ?_
      | refine EL.fF (FV.leq rfl rfl) rfl (fun _ => rfl) (by omega) ?_
      | refine EL.fF (FV.gtr rfl rfl) rfl (fun _ => rfl) (by omega) ?_
      | refine EL.fF (FV.geq rfl rfl) rfl (fun _ => rfl) (by omega) ?_
      | refine EL.fF (FV.eql rfl rfl) rfl (fun _ => rfl) (by omega) ?_
      | refine EL.fF (FV.neq rfl rfl) rfl (fun _ => rfl) (by omega) ?_
      | refine EL.f (FV.rem rfl rfl (by decide)) rfl rfl ?_
      | refine EL.f (FV.idx0 rfl rfl rfl rfl (by omega) (by omega)) rfl rfl ?_
      | refine EL.f (FV.idx1 rfl rfl rfl rfl (by omega) (by omega)) rfl rfl ?_
      | refine EL.f (FV.load1 rfl rfl rfl (by assumption)) rfl rfl ?_)
    rw [if_neg h0]
    exact ⟨_, rfl, v, rfl, ho, he⟩
theorem lawMulSeries (A0 : Option Addr) (c0 : Nat) (xs0 : List Int) (A1 : Option Addr) (c1 : Nat) (xs1 : List Int) (w : World) (h0 : Rd w A0 (ints xs0)) (h1 : Rd w A1 (ints xs1)) : CallsR Try.prog 12 [.slice A0 xs0.length c0, .slice A1 xs1.length c1] w fun v w' => v = .bool true ∧ Ext w w' := by
  refine CallsR.enter Try.func12 (by decide +kernel) rfl Try.ntmps12 rfl ?_
  by_cases hl0 : (1048576 : Int) < xs0.length
  · repeat' (first
      | refine EW.seq ?_
      | refine EL.f (FV.move rfl) rfl rfl ?_
      | refine EL.f (FV.assign rfl) rfl rfl ?_
      | refine EL.nil ?_
      | refine EW.region ?_
      | refine EW.block ?_
      | refine EW.skip ?_
      | refine EW.exit ?_
      | refine EW.ret ?_
      | refine EW.condT rfl ?_
      | refine EW.condF rfl ?_
      | refine EL.f (FV.addI rfl rfl (by omega)) rfl rfl ?_
      | refine EL.f (FV.subI rfl rfl (by omega)) rfl rfl ?_
      | refine EL.f (FV.remI rfl rfl (by decide) (by omega)) rfl rfl ?_
      | refine EL.f (FV.quoI rfl rfl (by decide) (by omega)) rfl rfl ?_
      | refine EL.f (FV.extract rfl rfl) rfl rfl ?_
      | refine EL.f (FV.len rfl rfl) rfl rfl ?_
      | refine EL.f (FV.lenS rfl rfl) rfl rfl ?_
      | refine EL.f (FV.not rfl) rfl rfl ?_
      | refine EL.skip rfl rfl ?_
      | refine EL.f (FV.pickT rfl rfl) rfl rfl ?_
      | refine EL.f (FV.pickF rfl rfl) rfl rfl ?_
      | refine EL.fT (FV.lss rfl rfl) rfl (fun _ => rfl) (by omega) ?_
      | refine EL.fT (FV.leq rfl rfl) rfl (fun _ => rfl) (by omega) ?_
      | refine EL.fT (FV.gtr rfl rfl) rfl (fun _ => rfl) (by omega) ?_
      | refine EL.fT (FV.geq rfl rfl) rfl (fun _ => rfl) (by omega) ?_
      | refine EL.fT (FV.eql rfl rfl) rfl (fun _ => rfl) (by omega) ?_
      | refine EL.fT (FV.neq rfl rfl) rfl (fun _ => rfl) (by omega) ?_
      | refine EL.fF (FV.lss rfl rfl) rfl (fun _ => rfl) (by omega) ?_
      | refine EL.fF (FV.leq rfl rfl) rfl (fun _ => rfl) (by omega) ?_
      | refine EL.fF (FV.gtr rfl rfl) rfl (fun _ => rfl) (by omega) ?_
      | refine EL.fF (FV.geq rfl rfl) rfl (fun _ => rfl) (by omega) ?_
      | refine EL.fF (FV.eql rfl rfl) rfl (fun _ => rfl) (by omega) ?_
      | refine EL.fF (FV.neq rfl rfl) rfl (fun _ => rfl) (by omega) ?_
      | refine EL.f (FV.rem rfl rfl (by decide)) rfl rfl ?_
      | refine EL.f (FV.idx0 rfl rfl rfl rfl (by omega) (by omega)) rfl rfl ?_
      | refine EL.f (FV.idx1 rfl rfl rfl rfl (by omega) (by omega)) rfl rfl ?_
      | refine EL.f (FV.load1 rfl rfl rfl (by assumption)) rfl rfl ?_)
    exact ⟨_, rfl, rfl, Ext.refl _⟩
  by_cases hl1 : (1048576 : Int) < xs1.length
  · repeat' (first
      | refine EW.seq ?_
      | refine EL.f (FV.move rfl) rfl rfl ?_
      | refine EL.f (FV.assign rfl) rfl rfl ?_
      | refine EL.nil ?_
      | refine EW.region ?_
      | refine EW.block ?_
      | refine EW.skip ?_
      | refine EW.exit ?_
      | refine EW.ret ?_
      | refine EW.condT rfl ?_
      | refine EW.condF rfl ?_
      | refine EL.f (FV.addI rfl rfl (by omega)) rfl rfl ?_
      | refine EL.f (FV.subI rfl rfl (by omega)) rfl rfl ?_
      | refine EL.f (FV.remI rfl rfl (by decide) (by omega)) rfl rfl ?_
      | refine EL.f (FV.quoI rfl rfl (by decide) (by omega)) rfl rfl ?_
      | refine EL.f (FV.extract rfl rfl) rfl rfl ?_
      | refine EL.f (FV.len rfl rfl) rfl rfl ?_
      | refine EL.f (FV.lenS rfl rfl) rfl rfl ?_
      | refine EL.f (FV.not rfl) rfl rfl ?_
      | refine EL.skip rfl rfl ?_
      | refine EL.f (FV.pickT rfl rfl) rfl rfl ?_
      | refine EL.f (FV.pickF rfl rfl) rfl rfl ?_
      | refine EL.fT (FV.lss rfl rfl) rfl (fun _ => rfl) (by omega) ?_
      | refine EL.fT (FV.leq rfl rfl) rfl (fun _ => rfl) (by omega) ?_
      | refine EL.fT (FV.gtr rfl rfl) rfl (fun _ => rfl) (by omega) ?_
      | refine EL.fT (FV.geq rfl rfl) rfl (fun _ => rfl) (by omega) ?_
      | refine EL.fT (FV.eql rfl rfl) rfl (fun _ => rfl) (by omega) ?_
      | refine EL.fT (FV.neq rfl rfl) rfl (fun _ => rfl) (by omega) ?_
      | refine EL.fF (FV.lss rfl rfl) rfl (fun _ => rfl) (by omega) ?_
      | refine EL.fF (FV.leq rfl rfl) rfl (fun _ => rfl) (by omega) ?_
      | refine EL.fF (FV.gtr rfl rfl) rfl (fun _ => rfl) (by omega) ?_
      | refine EL.fF (FV.geq rfl rfl) rfl (fun _ => rfl) (by omega) ?_
      | refine EL.fF (FV.eql rfl rfl) rfl (fun _ => rfl) (by omega) ?_
      | refine EL.fF (FV.neq rfl rfl) rfl (fun _ => rfl) (by omega) ?_
      | refine EL.f (FV.rem rfl rfl (by decide)) rfl rfl ?_
      | refine EL.f (FV.idx0 rfl rfl rfl rfl (by omega) (by omega)) rfl rfl ?_
      | refine EL.f (FV.idx1 rfl rfl rfl rfl (by omega) (by omega)) rfl rfl ?_
      | refine EL.f (FV.load1 rfl rfl rfl (by assumption)) rfl rfl ?_)
    exact ⟨_, rfl, rfl, Ext.refl _⟩
  have hn0 : xs0.length ≤ 1048576 := by omega
  have hn1 : xs1.length ≤ 1048576 := by omega
  have hr := MulR_len xs0 xs1
  repeat' (first
    | refine EW.seq ?_
    | refine EL.f (FV.move rfl) rfl rfl ?_
    | refine EL.f (FV.assign rfl) rfl rfl ?_
    | refine EL.nil ?_
    | refine EW.region ?_
    | refine EW.block ?_
    | refine EW.skip ?_
    | refine EW.exit ?_
    | refine EW.ret ?_
    | refine EW.condT rfl ?_
    | refine EW.condF rfl ?_
    | refine EL.f (FV.addI rfl rfl (by omega)) rfl rfl ?_
    | refine EL.f (FV.subI rfl rfl (by omega)) rfl rfl ?_
    | refine EL.f (FV.remI rfl rfl (by decide) (by omega)) rfl rfl ?_
    | refine EL.f (FV.quoI rfl rfl (by decide) (by omega)) rfl rfl ?_
    | refine EL.f (FV.extract rfl rfl) rfl rfl ?_
    | refine EL.f (FV.len rfl rfl) rfl rfl ?_
    | refine EL.f (FV.lenS rfl rfl) rfl rfl ?_
    | refine EL.f (FV.not rfl) rfl rfl ?_
    | refine EL.skip rfl rfl ?_
    | refine EL.f (FV.pickT rfl rfl) rfl rfl ?_
    | refine EL.f (FV.pickF rfl rfl) rfl rfl ?_
    | refine EL.fT (FV.lss rfl rfl) rfl (fun _ => rfl) (by omega) ?_
    | refine EL.fT (FV.leq rfl rfl) rfl (fun _ => rfl) (by omega) ?_
    | refine EL.fT (FV.gtr rfl rfl) rfl (fun _ => rfl) (by omega) ?_
    | refine EL.fT (FV.geq rfl rfl) rfl (fun _ => rfl) (by omega) ?_
    | refine EL.fT (FV.eql rfl rfl) rfl (fun _ => rfl) (by omega) ?_
    | refine EL.fT (FV.neq rfl rfl) rfl (fun _ => rfl) (by omega) ?_
    | refine EL.fF (FV.lss rfl rfl) rfl (fun _ => rfl) (by omega) ?_
    | refine EL.fF (FV.leq rfl rfl) rfl (fun _ => rfl) (by omega) ?_
    | refine EL.fF (FV.gtr rfl rfl) rfl (fun _ => rfl) (by omega) ?_
    | refine EL.fF (FV.geq rfl rfl) rfl (fun _ => rfl) (by omega) ?_
    | refine EL.fF (FV.eql rfl rfl) rfl (fun _ => rfl) (by omega) ?_
    | refine EL.fF (FV.neq rfl rfl) rfl (fun _ => rfl) (by omega) ?_
    | refine EL.f (FV.rem rfl rfl (by decide)) rfl rfl ?_
    | refine EL.f (FV.idx0 rfl rfl rfl rfl (by omega) (by omega)) rfl rfl ?_
    | refine EL.f (FV.idx1 rfl rfl rfl rfl (by omega) (by omega)) rfl rfl ?_
    | refine EL.f (FV.load1 rfl rfl rfl (by assumption)) rfl rfl ?_)
  refine EL.h (Hv.call (toInts A0 c0 xs0 w (h0.ext (Ext.refl w)) hn0) rfl) rfl (fun _ => rfl) ?_
  rintro _ u1 ⟨p0, rfl, pb0, pt0, e1⟩
  have W1 := (Ext.refl w).trans e1
  repeat' (first
    | refine EW.seq ?_
    | refine EL.f (FV.move rfl) rfl rfl ?_
    | refine EL.f (FV.assign rfl) rfl rfl ?_
    | refine EL.nil ?_
    | refine EW.region ?_
    | refine EW.block ?_
    | refine EW.skip ?_
    | refine EW.exit ?_
    | refine EW.ret ?_
    | refine EW.condT rfl ?_
    | refine EW.condF rfl ?_
    | refine EL.f (FV.addI rfl rfl (by omega)) rfl rfl ?_
    | refine EL.f (FV.subI rfl rfl (by omega)) rfl rfl ?_
    | refine EL.f (FV.remI rfl rfl (by decide) (by omega)) rfl rfl ?_
    | refine EL.f (FV.quoI rfl rfl (by decide) (by omega)) rfl rfl ?_
    | refine EL.f (FV.extract rfl rfl) rfl rfl ?_
    | refine EL.f (FV.len rfl rfl) rfl rfl ?_
    | refine EL.f (FV.lenS rfl rfl) rfl rfl ?_
    | refine EL.f (FV.not rfl) rfl rfl ?_
    | refine EL.skip rfl rfl ?_
    | refine EL.f (FV.pickT rfl rfl) rfl rfl ?_
    | refine EL.f (FV.pickF rfl rfl) rfl rfl ?_
    | refine EL.fT (FV.lss rfl rfl) rfl (fun _ => rfl) (by omega) ?_
    | refine EL.fT (FV.leq rfl rfl) rfl (fun _ => rfl) (by omega) ?_
    | refine EL.fT (FV.gtr rfl rfl) rfl (fun _ => rfl) (by omega) ?_
    | refine EL.fT (FV.geq rfl rfl) rfl (fun _ => rfl) (by omega) ?_
    | refine EL.fT (FV.eql rfl rfl) rfl (fun _ => rfl) (by omega) ?_
    | refine EL.fT (FV.neq rfl rfl) rfl (fun _ => rfl) (by omega) ?_
    | refine EL.fF (FV.lss rfl rfl) rfl (fun _ => rfl) (by omega) ?_
    | refine EL.fF (FV.leq rfl rfl) rfl (fun _ => rfl) (by omega) ?_
    | refine EL.fF (FV.gtr rfl rfl) rfl (fun _ => rfl) (by omega) ?_
    | refine EL.fF (FV.geq rfl rfl) rfl (fun _ => rfl) (by omega) ?_
    | refine EL.fF (FV.eql rfl rfl) rfl (fun _ => rfl) (by omega) ?_
    | refine EL.fF (FV.neq rfl rfl) rfl (fun _ => rfl) (by omega) ?_
    | refine EL.f (FV.rem rfl rfl (by decide)) rfl rfl ?_
    | refine EL.f (FV.idx0 rfl rfl rfl rfl (by omega) (by omega)) rfl rfl ?_
    | refine EL.f (FV.idx1 rfl rfl rfl rfl (by omega) (by omega)) rfl rfl ?_
    | refine EL.f (FV.load1 rfl rfl rfl (by assumption)) rfl rfl ?_)
  refine EL.h (Hv.call (toInts A1 c1 xs1 u1 (h1.ext W1) hn1) rfl) rfl (fun _ => rfl) ?_
  rintro _ u2 ⟨p1, rfl, pb1, pt1, e2⟩
  have W2 := W1.trans e2
  replace pt0 := At.ext pt0 e2
  repeat' (first
    | refine EW.seq ?_
    | refine EL.f (FV.move rfl) rfl rfl ?_
    | refine EL.f (FV.assign rfl) rfl rfl ?_
    | refine EL.nil ?_
    | refine EW.region ?_
    | refine EW.block ?_
    | refine EW.skip ?_
    | refine EW.exit ?_
    | refine EW.ret ?_
    | refine EW.condT rfl ?_
    | refine EW.condF rfl ?_
    | refine EL.f (FV.addI rfl rfl (by omega)) rfl rfl ?_
    | refine EL.f (FV.subI rfl rfl (by omega)) rfl rfl ?_
    | refine EL.f (FV.remI rfl rfl (by decide) (by omega)) rfl rfl ?_
    | refine EL.f (FV.quoI rfl rfl (by decide) (by omega)) rfl rfl ?_
    | refine EL.f (FV.extract rfl rfl) rfl rfl ?_
    | refine EL.f (FV.len rfl rfl) rfl rfl ?_
    | refine EL.f (FV.lenS rfl rfl) rfl rfl ?_
    | refine EL.f (FV.not rfl) rfl rfl ?_
    | refine EL.skip rfl rfl ?_
    | refine EL.f (FV.pickT rfl rfl) rfl rfl ?_
    | refine EL.f (FV.pickF rfl rfl) rfl rfl ?_
    | refine EL.fT (FV.lss rfl rfl) rfl (fun _ => rfl) (by omega) ?_
    | refine EL.fT (FV.leq rfl rfl) rfl (fun _ => rfl) (by omega) ?_
    | refine EL.fT (FV.gtr rfl rfl) rfl (fun _ => rfl) (by omega) ?_
    | refine EL.fT (FV.geq rfl rfl) rfl (fun _ => rfl) (by omega) ?_
    | refine EL.fT (FV.eql rfl rfl) rfl (fun _ => rfl) (by omega) ?_
    | refine EL.fT (FV.neq rfl rfl) rfl (fun _ => rfl) (by omega) ?_
    | refine EL.fF (FV.lss rfl rfl) rfl (fun _ => rfl) (by omega) ?_
    | refine EL.fF (FV.leq rfl rfl) rfl (fun _ => rfl) (by omega) ?_
    | refine EL.fF (FV.gtr rfl rfl) rfl (fun _ => rfl) (by omega) ?_
    | refine EL.fF (FV.geq rfl rfl) rfl (fun _ => rfl) (by omega) ?_
    | refine EL.fF (FV.eql rfl rfl) rfl (fun _ => rfl) (by omega) ?_
    | refine EL.fF (FV.neq rfl rfl) rfl (fun _ => rfl) (by omega) ?_
    | refine EL.f (FV.rem rfl rfl (by decide)) rfl rfl ?_
    | refine EL.f (FV.idx0 rfl rfl rfl rfl (by omega) (by omega)) rfl rfl ?_
    | refine EL.f (FV.idx1 rfl rfl rfl rfl (by omega) (by omega)) rfl rfl ?_
    | refine EL.f (FV.load1 rfl rfl rfl (by assumption)) rfl rfl ?_)
  refine EL.h (Hv.call (specMulS (some ⟨p0, 0, none⟩) (some ⟨p1, 0, none⟩) _ _ xs0 xs1 u2 (At.rd pt0) (At.rd pt1) hn0 hn1) rfl) rfl (fun _ => rfl) ?_
  rintro _ u3 ⟨sv, rfl, sown, e3⟩
  have W3 := W2.trans e3
  obtain ⟨SA, sc, rfl, sr⟩ := sown.form
  repeat' (first
    | refine EW.seq ?_
    | refine EL.f (FV.move rfl) rfl rfl ?_
    | refine EL.f (FV.assign rfl) rfl rfl ?_
    | refine EL.nil ?_
    | refine EW.region ?_
    | refine EW.block ?_
    | refine EW.skip ?_
    | refine EW.exit ?_
    | refine EW.ret ?_
    | refine EW.condT rfl ?_
    | refine EW.condF rfl ?_
    | refine EL.f (FV.addI rfl rfl (by omega)) rfl rfl ?_
    | refine EL.f (FV.subI rfl rfl (by omega)) rfl rfl ?_
    | refine EL.f (FV.remI rfl rfl (by decide) (by omega)) rfl rfl ?_
    | refine EL.f (FV.quoI rfl rfl (by decide) (by omega)) rfl rfl ?_
    | refine EL.f (FV.extract rfl rfl) rfl rfl ?_
    | refine EL.f (FV.len rfl rfl) rfl rfl ?_
    | refine EL.f (FV.lenS rfl rfl) rfl rfl ?_
    | refine EL.f (FV.not rfl) rfl rfl ?_
    | refine EL.skip rfl rfl ?_
    | refine EL.f (FV.pickT rfl rfl) rfl rfl ?_
    | refine EL.f (FV.pickF rfl rfl) rfl rfl ?_
    | refine EL.fT (FV.lss rfl rfl) rfl (fun _ => rfl) (by omega) ?_
    | refine EL.fT (FV.leq rfl rfl) rfl (fun _ => rfl) (by omega) ?_
    | refine EL.fT (FV.gtr rfl rfl) rfl (fun _ => rfl) (by omega) ?_
    | refine EL.fT (FV.geq rfl rfl) rfl (fun _ => rfl) (by omega) ?_
    | refine EL.fT (FV.eql rfl rfl) rfl (fun _ => rfl) (by omega) ?_
    | refine EL.fT (FV.neq rfl rfl) rfl (fun _ => rfl) (by omega) ?_
    | refine EL.fF (FV.lss rfl rfl) rfl (fun _ => rfl) (by omega) ?_
    | refine EL.fF (FV.leq rfl rfl) rfl (fun _ => rfl) (by omega) ?_
    | refine EL.fF (FV.gtr rfl rfl) rfl (fun _ => rfl) (by omega) ?_
    | refine EL.fF (FV.geq rfl rfl) rfl (fun _ => rfl) (by omega) ?_
    | refine EL.fF (FV.eql rfl rfl) rfl (fun _ => rfl) (by omega) ?_
    | refine EL.fF (FV.neq rfl rfl) rfl (fun _ => rfl) (by omega) ?_
    | refine EL.f (FV.rem rfl rfl (by decide)) rfl rfl ?_
    | refine EL.f (FV.idx0 rfl rfl rfl rfl (by omega) (by omega)) rfl rfl ?_
    | refine EL.f (FV.idx1 rfl rfl rfl rfl (by omega) (by omega)) rfl rfl ?_
    | refine EL.f (FV.load1 rfl rfl rfl (by assumption)) rfl rfl ?_)
  refine EL.h (Hv.call (toInts A0 c0 xs0 u3 (h0.ext W3) hn0) rfl) rfl (fun _ => rfl) ?_
  rintro _ u4 ⟨x0, rfl, xb0, xt0, e4⟩
  have W4 := W3.trans e4
  have S4 := (Ext.refl u3).trans e4
  have xl0 := At.lt xt0
  repeat' (first
    | refine EW.seq ?_
    | refine EL.f (FV.move rfl) rfl rfl ?_
    | refine EL.f (FV.assign rfl) rfl rfl ?_
    | refine EL.nil ?_
    | refine EW.region ?_
    | refine EW.block ?_
    | refine EW.skip ?_
    | refine EW.exit ?_
    | refine EW.ret ?_
    | refine EW.condT rfl ?_
    | refine EW.condF rfl ?_
    | refine EL.f (FV.addI rfl rfl (by omega)) rfl rfl ?_
    | refine EL.f (FV.subI rfl rfl (by omega)) rfl rfl ?_
    | refine EL.f (FV.remI rfl rfl (by decide) (by omega)) rfl rfl ?_
    | refine EL.f (FV.quoI rfl rfl (by decide) (by omega)) rfl rfl ?_
    | refine EL.f (FV.extract rfl rfl) rfl rfl ?_
    | refine EL.f (FV.len rfl rfl) rfl rfl ?_
    | refine EL.f (FV.lenS rfl rfl) rfl rfl ?_
    | refine EL.f (FV.not rfl) rfl rfl ?_
    | refine EL.skip rfl rfl ?_
    | refine EL.f (FV.pickT rfl rfl) rfl rfl ?_
    | refine EL.f (FV.pickF rfl rfl) rfl rfl ?_
    | refine EL.fT (FV.lss rfl rfl) rfl (fun _ => rfl) (by omega) ?_
    | refine EL.fT (FV.leq rfl rfl) rfl (fun _ => rfl) (by omega) ?_
    | refine EL.fT (FV.gtr rfl rfl) rfl (fun _ => rfl) (by omega) ?_
    | refine EL.fT (FV.geq rfl rfl) rfl (fun _ => rfl) (by omega) ?_
    | refine EL.fT (FV.eql rfl rfl) rfl (fun _ => rfl) (by omega) ?_
    | refine EL.fT (FV.neq rfl rfl) rfl (fun _ => rfl) (by omega) ?_
    | refine EL.fF (FV.lss rfl rfl) rfl (fun _ => rfl) (by omega) ?_
    | refine EL.fF (FV.leq rfl rfl) rfl (fun _ => rfl) (by omega) ?_
    | refine EL.fF (FV.gtr rfl rfl) rfl (fun _ => rfl) (by omega) ?_
    | refine EL.fF (FV.geq rfl rfl) rfl (fun _ => rfl) (by omega) ?_
    | refine EL.fF (FV.eql rfl rfl) rfl (fun _ => rfl) (by omega) ?_
    | refine EL.fF (FV.neq rfl rfl) rfl (fun _ => rfl) (by omega) ?_
    | refine EL.f (FV.rem rfl rfl (by decide)) rfl rfl ?_
    | refine EL.f (FV.idx0 rfl rfl rfl rfl (by omega) (by omega)) rfl rfl ?_
    | refine EL.f (FV.idx1 rfl rfl rfl rfl (by omega) (by omega)) rfl rfl ?_
    | refine EL.f (FV.load1 rfl rfl rfl (by assumption)) rfl rfl ?_)
  refine EL.h (Hv.call (toInts A1 c1 xs1 u4 (h1.ext W4) hn1) rfl) rfl (fun _ => rfl) ?_
  rintro _ u5 ⟨x1, rfl, xb1, xt1, e5⟩
  have W5 := W4.trans e5
  have S5 := S4.trans e5
  have xl1 := At.lt xt1
  replace xt0 := At.ext xt0 e5
  repeat' (first
    | refine EW.seq ?_
    | refine EL.f (FV.move rfl) rfl rfl ?_
    | refine EL.f (FV.assign rfl) rfl rfl ?_
    | refine EL.nil ?_
    | refine EW.region ?_
    | refine EW.block ?_
    | refine EW.skip ?_
    | refine EW.exit ?_
    | refine EW.ret ?_
    | refine EW.condT rfl ?_
    | refine EW.condF rfl ?_
    | refine EL.f (FV.addI rfl rfl (by omega)) rfl rfl ?_
    | refine EL.f (FV.subI rfl rfl (by omega)) rfl rfl ?_
    | refine EL.f (FV.remI rfl rfl (by decide) (by omega)) rfl rfl ?_
    | refine EL.f (FV.quoI rfl rfl (by decide) (by omega)) rfl rfl ?_
    | refine EL.f (FV.extract rfl rfl) rfl rfl ?_
    | refine EL.f (FV.len rfl rfl) rfl rfl ?_
    | refine EL.f (FV.lenS rfl rfl) rfl rfl ?_
    | refine EL.f (FV.not rfl) rfl rfl ?_
    | refine EL.skip rfl rfl ?_
    | refine EL.f (FV.pickT rfl rfl) rfl rfl ?_
    | refine EL.f (FV.pickF rfl rfl) rfl rfl ?_
    | refine EL.fT (FV.lss rfl rfl) rfl (fun _ => rfl) (by omega) ?_
    | refine EL.fT (FV.leq rfl rfl) rfl (fun _ => rfl) (by omega) ?_
    | refine EL.fT (FV.gtr rfl rfl) rfl (fun _ => rfl) (by omega) ?_
    | refine EL.fT (FV.geq rfl rfl) rfl (fun _ => rfl) (by omega) ?_
    | refine EL.fT (FV.eql rfl rfl) rfl (fun _ => rfl) (by omega) ?_
    | refine EL.fT (FV.neq rfl rfl) rfl (fun _ => rfl) (by omega) ?_
    | refine EL.fF (FV.lss rfl rfl) rfl (fun _ => rfl) (by omega) ?_
    | refine EL.fF (FV.leq rfl rfl) rfl (fun _ => rfl) (by omega) ?_
    | refine EL.fF (FV.gtr rfl rfl) rfl (fun _ => rfl) (by omega) ?_
    | refine EL.fF (FV.geq rfl rfl) rfl (fun _ => rfl) (by omega) ?_
    | refine EL.fF (FV.eql rfl rfl) rfl (fun _ => rfl) (by omega) ?_
    | refine EL.fF (FV.neq rfl rfl) rfl (fun _ => rfl) (by omega) ?_
    | refine EL.f (FV.rem rfl rfl (by decide)) rfl rfl ?_
    | refine EL.f (FV.idx0 rfl rfl rfl rfl (by omega) (by omega)) rfl rfl ?_
    | refine EL.f (FV.idx1 rfl rfl rfl rfl (by omega) (by omega)) rfl rfl ?_
    | refine EL.f (FV.load1 rfl rfl rfl (by assumption)) rfl rfl ?_)
  refine EL.h (Hv.call (implMulS (some ⟨x0, 0, none⟩) (some ⟨x1, 0, none⟩) _ _ xs0 xs1 u5 (At.rd xt0) (At.rd xt1) hn0 hn1) rfl) rfl (fun _ => rfl) ?_
  rintro _ u6 ⟨gv, rfl, gown, e6⟩
  have W6 := W5.trans e6
  have S6 := S5.trans e6
  replace xt0 := At.ext xt0 e6
  replace xt1 := At.ext xt1 e6
  obtain ⟨GA, gc, rfl, _⟩ := gown.form
  have xg0 : x0 < u5.heap.size := by have := xl0; have := e5.size; omega
  have xs_0 : u3.heap.size ≤ x0 := by have := xb0;  omega
  have xg1 : x1 < u5.heap.size := by have := xl1;  omega
  have xs_1 : u3.heap.size ≤ x1 := by have := xb1; have := e4.size; omega
  have ug : u3.heap.size ≤ u5.heap.size := by have := e4.size; have := e5.size; omega
  repeat' (first
    | refine EW.seq ?_
    | refine EL.f (FV.move rfl) rfl rfl ?_
    | refine EL.f (FV.assign rfl) rfl rfl ?_
    | refine EL.nil ?_
    | refine EW.region ?_
    | refine EW.block ?_
    | refine EW.skip ?_
    | refine EW.exit ?_
    | refine EW.ret ?_
    | refine EW.condT rfl ?_
    | refine EW.condF rfl ?_
    | refine EL.f (FV.addI rfl rfl (by omega)) rfl rfl ?_
    | refine EL.f (FV.subI rfl rfl (by omega)) rfl rfl ?_
    | refine EL.f (FV.remI rfl rfl (by decide) (by omega)) rfl rfl ?_
    | refine EL.f (FV.quoI rfl rfl (by decide) (by omega)) rfl rfl ?_
    | refine EL.f (FV.extract rfl rfl) rfl rfl ?_
    | refine EL.f (FV.len rfl rfl) rfl rfl ?_
    | refine EL.f (FV.lenS rfl rfl) rfl rfl ?_
    | refine EL.f (FV.not rfl) rfl rfl ?_
    | refine EL.skip rfl rfl ?_
    | refine EL.f (FV.pickT rfl rfl) rfl rfl ?_
    | refine EL.f (FV.pickF rfl rfl) rfl rfl ?_
    | refine EL.fT (FV.lss rfl rfl) rfl (fun _ => rfl) (by omega) ?_
    | refine EL.fT (FV.leq rfl rfl) rfl (fun _ => rfl) (by omega) ?_
    | refine EL.fT (FV.gtr rfl rfl) rfl (fun _ => rfl) (by omega) ?_
    | refine EL.fT (FV.geq rfl rfl) rfl (fun _ => rfl) (by omega) ?_
    | refine EL.fT (FV.eql rfl rfl) rfl (fun _ => rfl) (by omega) ?_
    | refine EL.fT (FV.neq rfl rfl) rfl (fun _ => rfl) (by omega) ?_
    | refine EL.fF (FV.lss rfl rfl) rfl (fun _ => rfl) (by omega) ?_
    | refine EL.fF (FV.leq rfl rfl) rfl (fun _ => rfl) (by omega) ?_
    | refine EL.fF (FV.gtr rfl rfl) rfl (fun _ => rfl) (by omega) ?_
    | refine EL.fF (FV.geq rfl rfl) rfl (fun _ => rfl) (by omega) ?_
    | refine EL.fF (FV.eql rfl rfl) rfl (fun _ => rfl) (by omega) ?_
    | refine EL.fF (FV.neq rfl rfl) rfl (fun _ => rfl) (by omega) ?_
    | refine EL.f (FV.rem rfl rfl (by decide)) rfl rfl ?_
    | refine EL.f (FV.idx0 rfl rfl rfl rfl (by omega) (by omega)) rfl rfl ?_
    | refine EL.f (FV.idx1 rfl rfl rfl rfl (by omega) (by omega)) rfl rfl ?_
    | refine EL.f (FV.load1 rfl rfl rfl (by assumption)) rfl rfl ?_)
  refine EL.h (Hv.call (eqSame GA SA gc sc _ u6 (OwnI.rd gown) (sr.ext S6) hr) rfl) rfl (fun _ => rfl) ?_
  rintro _ u7 ⟨rfl, e7⟩
  have W7 := W6.trans e7
  have S7 := S6.trans e7
  replace xt0 := At.ext xt0 e7
  replace xt1 := At.ext xt1 e7
  replace gown := OwnI.ext gown e7
  repeat' (first
    | refine EW.seq ?_
    | refine EL.f (FV.move rfl) rfl rfl ?_
    | refine EL.f (FV.assign rfl) rfl rfl ?_
    | refine EL.nil ?_
    | refine EW.region ?_
    | refine EW.block ?_
    | refine EW.skip ?_
    | refine EW.exit ?_
    | refine EW.ret ?_
    | refine EW.condT rfl ?_
    | refine EW.condF rfl ?_
    | refine EL.f (FV.addI rfl rfl (by omega)) rfl rfl ?_
    | refine EL.f (FV.subI rfl rfl (by omega)) rfl rfl ?_
    | refine EL.f (FV.remI rfl rfl (by decide) (by omega)) rfl rfl ?_
    | refine EL.f (FV.quoI rfl rfl (by decide) (by omega)) rfl rfl ?_
    | refine EL.f (FV.extract rfl rfl) rfl rfl ?_
    | refine EL.f (FV.len rfl rfl) rfl rfl ?_
    | refine EL.f (FV.lenS rfl rfl) rfl rfl ?_
    | refine EL.f (FV.not rfl) rfl rfl ?_
    | refine EL.skip rfl rfl ?_
    | refine EL.f (FV.pickT rfl rfl) rfl rfl ?_
    | refine EL.f (FV.pickF rfl rfl) rfl rfl ?_
    | refine EL.fT (FV.lss rfl rfl) rfl (fun _ => rfl) (by omega) ?_
    | refine EL.fT (FV.leq rfl rfl) rfl (fun _ => rfl) (by omega) ?_
    | refine EL.fT (FV.gtr rfl rfl) rfl (fun _ => rfl) (by omega) ?_
    | refine EL.fT (FV.geq rfl rfl) rfl (fun _ => rfl) (by omega) ?_
    | refine EL.fT (FV.eql rfl rfl) rfl (fun _ => rfl) (by omega) ?_
    | refine EL.fT (FV.neq rfl rfl) rfl (fun _ => rfl) (by omega) ?_
    | refine EL.fF (FV.lss rfl rfl) rfl (fun _ => rfl) (by omega) ?_
    | refine EL.fF (FV.leq rfl rfl) rfl (fun _ => rfl) (by omega) ?_
    | refine EL.fF (FV.gtr rfl rfl) rfl (fun _ => rfl) (by omega) ?_
    | refine EL.fF (FV.geq rfl rfl) rfl (fun _ => rfl) (by omega) ?_
    | refine EL.fF (FV.eql rfl rfl) rfl (fun _ => rfl) (by omega) ?_
    | refine EL.fF (FV.neq rfl rfl) rfl (fun _ => rfl) (by omega) ?_
    | refine EL.f (FV.rem rfl rfl (by decide)) rfl rfl ?_
    | refine EL.f (FV.idx0 rfl rfl rfl rfl (by omega) (by omega)) rfl rfl ?_
    | refine EL.f (FV.idx1 rfl rfl rfl rfl (by omega) (by omega)) rfl rfl ?_
    | refine EL.f (FV.load1 rfl rfl rfl (by assumption)) rfl rfl ?_)
  refine EL.h (Hv.call (toInts A0 c0 xs0 u7 (h0.ext W7) hn0) rfl) rfl (fun _ => rfl) ?_
  rintro _ u8 ⟨y0, rfl, yb0, yt0, e8⟩
  have W8 := W7.trans e8
  have S8 := S7.trans e8
  replace xt0 := At.ext xt0 e8
  replace xt1 := At.ext xt1 e8
  replace gown := OwnI.ext gown e8
  repeat' (first
    | refine EW.seq ?_
    | refine EL.f (FV.move rfl) rfl rfl ?_
    | refine EL.f (FV.assign rfl) rfl rfl ?_
    | refine EL.nil ?_
    | refine EW.region ?_
    | refine EW.block ?_
    | refine EW.skip ?_
    | refine EW.exit ?_
    | refine EW.ret ?_
    | refine EW.condT rfl ?_
    | refine EW.condF rfl ?_
    | refine EL.f (FV.addI rfl rfl (by omega)) rfl rfl ?_
    | refine EL.f (FV.subI rfl rfl (by omega)) rfl rfl ?_
    | refine EL.f (FV.remI rfl rfl (by decide) (by omega)) rfl rfl ?_
    | refine EL.f (FV.quoI rfl rfl (by decide) (by omega)) rfl rfl ?_
    | refine EL.f (FV.extract rfl rfl) rfl rfl ?_
    | refine EL.f (FV.len rfl rfl) rfl rfl ?_
    | refine EL.f (FV.lenS rfl rfl) rfl rfl ?_
    | refine EL.f (FV.not rfl) rfl rfl ?_
    | refine EL.skip rfl rfl ?_
    | refine EL.f (FV.pickT rfl rfl) rfl rfl ?_
    | refine EL.f (FV.pickF rfl rfl) rfl rfl ?_
    | refine EL.fT (FV.lss rfl rfl) rfl (fun _ => rfl) (by omega) ?_
    | refine EL.fT (FV.leq rfl rfl) rfl (fun _ => rfl) (by omega) ?_
    | refine EL.fT (FV.gtr rfl rfl) rfl (fun _ => rfl) (by omega) ?_
    | refine EL.fT (FV.geq rfl rfl) rfl (fun _ => rfl) (by omega) ?_
    | refine EL.fT (FV.eql rfl rfl) rfl (fun _ => rfl) (by omega) ?_
    | refine EL.fT (FV.neq rfl rfl) rfl (fun _ => rfl) (by omega) ?_
    | refine EL.fF (FV.lss rfl rfl) rfl (fun _ => rfl) (by omega) ?_
    | refine EL.fF (FV.leq rfl rfl) rfl (fun _ => rfl) (by omega) ?_
    | refine EL.fF (FV.gtr rfl rfl) rfl (fun _ => rfl) (by omega) ?_
    | refine EL.fF (FV.geq rfl rfl) rfl (fun _ => rfl) (by omega) ?_
    | refine EL.fF (FV.eql rfl rfl) rfl (fun _ => rfl) (by omega) ?_
    | refine EL.fF (FV.neq rfl rfl) rfl (fun _ => rfl) (by omega) ?_
    | refine EL.f (FV.rem rfl rfl (by decide)) rfl rfl ?_
    | refine EL.f (FV.idx0 rfl rfl rfl rfl (by omega) (by omega)) rfl rfl ?_
    | refine EL.f (FV.idx1 rfl rfl rfl rfl (by omega) (by omega)) rfl rfl ?_
    | refine EL.f (FV.load1 rfl rfl rfl (by assumption)) rfl rfl ?_)
  refine EL.h (Hv.call (eqSame (some ⟨x0, 0, none⟩) (some ⟨y0, 0, none⟩) _ _ xs0 u8 (At.rd xt0) (At.rd yt0) hn0) rfl) rfl (fun _ => rfl) ?_
  rintro _ u9 ⟨rfl, e9⟩
  have W9 := W8.trans e9
  have S9 := S8.trans e9
  replace xt0 := At.ext xt0 e9
  replace xt1 := At.ext xt1 e9
  replace gown := OwnI.ext gown e9
  repeat' (first
    | refine EW.seq ?_
    | refine EL.f (FV.move rfl) rfl rfl ?_
    | refine EL.f (FV.assign rfl) rfl rfl ?_
    | refine EL.nil ?_
    | refine EW.region ?_
    | refine EW.block ?_
    | refine EW.skip ?_
    | refine EW.exit ?_
    | refine EW.ret ?_
    | refine EW.condT rfl ?_
    | refine EW.condF rfl ?_
    | refine EL.f (FV.addI rfl rfl (by omega)) rfl rfl ?_
    | refine EL.f (FV.subI rfl rfl (by omega)) rfl rfl ?_
    | refine EL.f (FV.remI rfl rfl (by decide) (by omega)) rfl rfl ?_
    | refine EL.f (FV.quoI rfl rfl (by decide) (by omega)) rfl rfl ?_
    | refine EL.f (FV.extract rfl rfl) rfl rfl ?_
    | refine EL.f (FV.len rfl rfl) rfl rfl ?_
    | refine EL.f (FV.lenS rfl rfl) rfl rfl ?_
    | refine EL.f (FV.not rfl) rfl rfl ?_
    | refine EL.skip rfl rfl ?_
    | refine EL.f (FV.pickT rfl rfl) rfl rfl ?_
    | refine EL.f (FV.pickF rfl rfl) rfl rfl ?_
    | refine EL.fT (FV.lss rfl rfl) rfl (fun _ => rfl) (by omega) ?_
    | refine EL.fT (FV.leq rfl rfl) rfl (fun _ => rfl) (by omega) ?_
    | refine EL.fT (FV.gtr rfl rfl) rfl (fun _ => rfl) (by omega) ?_
    | refine EL.fT (FV.geq rfl rfl) rfl (fun _ => rfl) (by omega) ?_
    | refine EL.fT (FV.eql rfl rfl) rfl (fun _ => rfl) (by omega) ?_
    | refine EL.fT (FV.neq rfl rfl) rfl (fun _ => rfl) (by omega) ?_
    | refine EL.fF (FV.lss rfl rfl) rfl (fun _ => rfl) (by omega) ?_
    | refine EL.fF (FV.leq rfl rfl) rfl (fun _ => rfl) (by omega) ?_
    | refine EL.fF (FV.gtr rfl rfl) rfl (fun _ => rfl) (by omega) ?_
    | refine EL.fF (FV.geq rfl rfl) rfl (fun _ => rfl) (by omega) ?_
    | refine EL.fF (FV.eql rfl rfl) rfl (fun _ => rfl) (by omega) ?_
    | refine EL.fF (FV.neq rfl rfl) rfl (fun _ => rfl) (by omega) ?_
    | refine EL.f (FV.rem rfl rfl (by decide)) rfl rfl ?_
    | refine EL.f (FV.idx0 rfl rfl rfl rfl (by omega) (by omega)) rfl rfl ?_
    | refine EL.f (FV.idx1 rfl rfl rfl rfl (by omega) (by omega)) rfl rfl ?_
    | refine EL.f (FV.load1 rfl rfl rfl (by assumption)) rfl rfl ?_)
  refine EL.h (Hv.call (toInts A1 c1 xs1 u9 (h1.ext W9) hn1) rfl) rfl (fun _ => rfl) ?_
  rintro _ u10 ⟨y1, rfl, yb1, yt1, e10⟩
  have W10 := W9.trans e10
  have S10 := S9.trans e10
  replace xt0 := At.ext xt0 e10
  replace xt1 := At.ext xt1 e10
  replace gown := OwnI.ext gown e10
  repeat' (first
    | refine EW.seq ?_
    | refine EL.f (FV.move rfl) rfl rfl ?_
    | refine EL.f (FV.assign rfl) rfl rfl ?_
    | refine EL.nil ?_
    | refine EW.region ?_
    | refine EW.block ?_
    | refine EW.skip ?_
    | refine EW.exit ?_
    | refine EW.ret ?_
    | refine EW.condT rfl ?_
    | refine EW.condF rfl ?_
    | refine EL.f (FV.addI rfl rfl (by omega)) rfl rfl ?_
    | refine EL.f (FV.subI rfl rfl (by omega)) rfl rfl ?_
    | refine EL.f (FV.remI rfl rfl (by decide) (by omega)) rfl rfl ?_
    | refine EL.f (FV.quoI rfl rfl (by decide) (by omega)) rfl rfl ?_
    | refine EL.f (FV.extract rfl rfl) rfl rfl ?_
    | refine EL.f (FV.len rfl rfl) rfl rfl ?_
    | refine EL.f (FV.lenS rfl rfl) rfl rfl ?_
    | refine EL.f (FV.not rfl) rfl rfl ?_
    | refine EL.skip rfl rfl ?_
    | refine EL.f (FV.pickT rfl rfl) rfl rfl ?_
    | refine EL.f (FV.pickF rfl rfl) rfl rfl ?_
    | refine EL.fT (FV.lss rfl rfl) rfl (fun _ => rfl) (by omega) ?_
    | refine EL.fT (FV.leq rfl rfl) rfl (fun _ => rfl) (by omega) ?_
    | refine EL.fT (FV.gtr rfl rfl) rfl (fun _ => rfl) (by omega) ?_
    | refine EL.fT (FV.geq rfl rfl) rfl (fun _ => rfl) (by omega) ?_
    | refine EL.fT (FV.eql rfl rfl) rfl (fun _ => rfl) (by omega) ?_
    | refine EL.fT (FV.neq rfl rfl) rfl (fun _ => rfl) (by omega) ?_
    | refine EL.fF (FV.lss rfl rfl) rfl (fun _ => rfl) (by omega) ?_
    | refine EL.fF (FV.leq rfl rfl) rfl (fun _ => rfl) (by omega) ?_
    | refine EL.fF (FV.gtr rfl rfl) rfl (fun _ => rfl) (by omega) ?_
    | refine EL.fF (FV.geq rfl rfl) rfl (fun _ => rfl) (by omega) ?_
    | refine EL.fF (FV.eql rfl rfl) rfl (fun _ => rfl) (by omega) ?_
    | refine EL.fF (FV.neq rfl rfl) rfl (fun _ => rfl) (by omega) ?_
    | refine EL.f (FV.rem rfl rfl (by decide)) rfl rfl ?_
    | refine EL.f (FV.idx0 rfl rfl rfl rfl (by omega) (by omega)) rfl rfl ?_
    | refine EL.f (FV.idx1 rfl rfl rfl rfl (by omega) (by omega)) rfl rfl ?_
    | refine EL.f (FV.load1 rfl rfl rfl (by assumption)) rfl rfl ?_)
  refine EL.h (Hv.call (eqSame (some ⟨x1, 0, none⟩) (some ⟨y1, 0, none⟩) _ _ xs1 u10 (At.rd xt1) (At.rd yt1) hn1) rfl) rfl (fun _ => rfl) ?_
  rintro _ u11 ⟨rfl, e11⟩
  have W11 := W10.trans e11
  have S11 := S10.trans e11
  replace xt0 := At.ext xt0 e11
  replace xt1 := At.ext xt1 e11
  replace gown := OwnI.ext gown e11
  repeat' (first
    | refine EW.seq ?_
    | refine EL.f (FV.move rfl) rfl rfl ?_
    | refine EL.f (FV.assign rfl) rfl rfl ?_
    | refine EL.nil ?_
    | refine EW.region ?_
    | refine EW.block ?_
    | refine EW.skip ?_
    | refine EW.exit ?_
    | refine EW.ret ?_
    | refine EW.condT rfl ?_
    | refine EW.condF rfl ?_
    | refine EL.f (FV.addI rfl rfl (by omega)) rfl rfl ?_
    | refine EL.f (FV.subI rfl rfl (by omega)) rfl rfl ?_
    | refine EL.f (FV.remI rfl rfl (by decide) (by omega)) rfl rfl ?_
    | refine EL.f (FV.quoI rfl rfl (by decide) (by omega)) rfl rfl ?_
    | refine EL.f (FV.extract rfl rfl) rfl rfl ?_
    | refine EL.f (FV.len rfl rfl) rfl rfl ?_
    | refine EL.f (FV.lenS rfl rfl) rfl rfl ?_
    | refine EL.f (FV.not rfl) rfl rfl ?_
    | refine EL.skip rfl rfl ?_
    | refine EL.f (FV.pickT rfl rfl) rfl rfl ?_
    | refine EL.f (FV.pickF rfl rfl) rfl rfl ?_
    | refine EL.fT (FV.lss rfl rfl) rfl (fun _ => rfl) (by omega) ?_
    | refine EL.fT (FV.leq rfl rfl) rfl (fun _ => rfl) (by omega) ?_
    | refine EL.fT (FV.gtr rfl rfl) rfl (fun _ => rfl) (by omega) ?_
    | refine EL.fT (FV.geq rfl rfl) rfl (fun _ => rfl) (by omega) ?_
    | refine EL.fT (FV.eql rfl rfl) rfl (fun _ => rfl) (by omega) ?_
    | refine EL.fT (FV.neq rfl rfl) rfl (fun _ => rfl) (by omega) ?_
    | refine EL.fF (FV.lss rfl rfl) rfl (fun _ => rfl) (by omega) ?_
    | refine EL.fF (FV.leq rfl rfl) rfl (fun _ => rfl) (by omega) ?_
    | refine EL.fF (FV.gtr rfl rfl) rfl (fun _ => rfl) (by omega) ?_
    | refine EL.fF (FV.geq rfl rfl) rfl (fun _ => rfl) (by omega) ?_
    | refine EL.fF (FV.eql rfl rfl) rfl (fun _ => rfl) (by omega) ?_
    | refine EL.fF (FV.neq rfl rfl) rfl (fun _ => rfl) (by omega) ?_
    | refine EL.f (FV.rem rfl rfl (by decide)) rfl rfl ?_
    | refine EL.f (FV.idx0 rfl rfl rfl rfl (by omega) (by omega)) rfl rfl ?_
    | refine EL.f (FV.idx1 rfl rfl rfl rfl (by omega) (by omega)) rfl rfl ?_
    | refine EL.f (FV.load1 rfl rfl rfl (by assumption)) rfl rfl ?_)
  refine EL.h (Hv.call (markInts _ x0 xs0 (1) u11 (AtI.own (B := x0) xt0 (Nat.le_refl _)) hn0 (by omega)) rfl) rfl (fun _ => rfl) ?_
  rintro _ u12 ⟨rfl, _, gr0⟩
  have W12 := Ext.mark (g := x0) W11 gr0 (by have := xs_0; have := W3.size; omega)
  have S12 := Ext.mark (g := x0) S11 gr0 xs_0
  replace gown := OwnI.keep (g := x0) gown gr0 xg0
  replace xt1 := At.kept (row := some x0) xt1 gr0 (by have := xl0; have := xb1;  simp; omega)
  repeat' (first
    | refine EW.seq ?_
    | refine EL.f (FV.move rfl) rfl rfl ?_
    | refine EL.f (FV.assign rfl) rfl rfl ?_
    | refine EL.nil ?_
    | refine EW.region ?_
    | refine EW.block ?_
    | refine EW.skip ?_
    | refine EW.exit ?_
    | refine EW.ret ?_
    | refine EW.condT rfl ?_
    | refine EW.condF rfl ?_
    | refine EL.f (FV.addI rfl rfl (by omega)) rfl rfl ?_
    | refine EL.f (FV.subI rfl rfl (by omega)) rfl rfl ?_
    | refine EL.f (FV.remI rfl rfl (by decide) (by omega)) rfl rfl ?_
    | refine EL.f (FV.quoI rfl rfl (by decide) (by omega)) rfl rfl ?_
    | refine EL.f (FV.extract rfl rfl) rfl rfl ?_
    | refine EL.f (FV.len rfl rfl) rfl rfl ?_
    | refine EL.f (FV.lenS rfl rfl) rfl rfl ?_
    | refine EL.f (FV.not rfl) rfl rfl ?_
    | refine EL.skip rfl rfl ?_
    | refine EL.f (FV.pickT rfl rfl) rfl rfl ?_
    | refine EL.f (FV.pickF rfl rfl) rfl rfl ?_
    | refine EL.fT (FV.lss rfl rfl) rfl (fun _ => rfl) (by omega) ?_
    | refine EL.fT (FV.leq rfl rfl) rfl (fun _ => rfl) (by omega) ?_
    | refine EL.fT (FV.gtr rfl rfl) rfl (fun _ => rfl) (by omega) ?_
    | refine EL.fT (FV.geq rfl rfl) rfl (fun _ => rfl) (by omega) ?_
    | refine EL.fT (FV.eql rfl rfl) rfl (fun _ => rfl) (by omega) ?_
    | refine EL.fT (FV.neq rfl rfl) rfl (fun _ => rfl) (by omega) ?_
    | refine EL.fF (FV.lss rfl rfl) rfl (fun _ => rfl) (by omega) ?_
    | refine EL.fF (FV.leq rfl rfl) rfl (fun _ => rfl) (by omega) ?_
    | refine EL.fF (FV.gtr rfl rfl) rfl (fun _ => rfl) (by omega) ?_
    | refine EL.fF (FV.geq rfl rfl) rfl (fun _ => rfl) (by omega) ?_
    | refine EL.fF (FV.eql rfl rfl) rfl (fun _ => rfl) (by omega) ?_
    | refine EL.fF (FV.neq rfl rfl) rfl (fun _ => rfl) (by omega) ?_
    | refine EL.f (FV.rem rfl rfl (by decide)) rfl rfl ?_
    | refine EL.f (FV.idx0 rfl rfl rfl rfl (by omega) (by omega)) rfl rfl ?_
    | refine EL.f (FV.idx1 rfl rfl rfl rfl (by omega) (by omega)) rfl rfl ?_
    | refine EL.f (FV.load1 rfl rfl rfl (by assumption)) rfl rfl ?_)
  refine EL.h (Hv.call (markInts _ x1 xs1 (1 + xs0.length) u12 (AtI.own (B := x1) xt1 (Nat.le_refl _)) hn1 (by omega)) rfl) rfl (fun _ => rfl) ?_
  rintro _ u13 ⟨rfl, _, gr1⟩
  have W13 := Ext.mark (g := x1) W12 gr1 (by have := xs_1; have := W3.size; omega)
  have S13 := Ext.mark (g := x1) S12 gr1 xs_1
  replace gown := OwnI.keep (g := x1) gown gr1 xg1
  repeat' (first
    | refine EW.seq ?_
    | refine EL.f (FV.move rfl) rfl rfl ?_
    | refine EL.f (FV.assign rfl) rfl rfl ?_
    | refine EL.nil ?_
    | refine EW.region ?_
    | refine EW.block ?_
    | refine EW.skip ?_
    | refine EW.exit ?_
    | refine EW.ret ?_
    | refine EW.condT rfl ?_
    | refine EW.condF rfl ?_
    | refine EL.f (FV.addI rfl rfl (by omega)) rfl rfl ?_
    | refine EL.f (FV.subI rfl rfl (by omega)) rfl rfl ?_
    | refine EL.f (FV.remI rfl rfl (by decide) (by omega)) rfl rfl ?_
    | refine EL.f (FV.quoI rfl rfl (by decide) (by omega)) rfl rfl ?_
    | refine EL.f (FV.extract rfl rfl) rfl rfl ?_
    | refine EL.f (FV.len rfl rfl) rfl rfl ?_
    | refine EL.f (FV.lenS rfl rfl) rfl rfl ?_
    | refine EL.f (FV.not rfl) rfl rfl ?_
    | refine EL.skip rfl rfl ?_
    | refine EL.f (FV.pickT rfl rfl) rfl rfl ?_
    | refine EL.f (FV.pickF rfl rfl) rfl rfl ?_
    | refine EL.fT (FV.lss rfl rfl) rfl (fun _ => rfl) (by omega) ?_
    | refine EL.fT (FV.leq rfl rfl) rfl (fun _ => rfl) (by omega) ?_
    | refine EL.fT (FV.gtr rfl rfl) rfl (fun _ => rfl) (by omega) ?_
    | refine EL.fT (FV.geq rfl rfl) rfl (fun _ => rfl) (by omega) ?_
    | refine EL.fT (FV.eql rfl rfl) rfl (fun _ => rfl) (by omega) ?_
    | refine EL.fT (FV.neq rfl rfl) rfl (fun _ => rfl) (by omega) ?_
    | refine EL.fF (FV.lss rfl rfl) rfl (fun _ => rfl) (by omega) ?_
    | refine EL.fF (FV.leq rfl rfl) rfl (fun _ => rfl) (by omega) ?_
    | refine EL.fF (FV.gtr rfl rfl) rfl (fun _ => rfl) (by omega) ?_
    | refine EL.fF (FV.geq rfl rfl) rfl (fun _ => rfl) (by omega) ?_
    | refine EL.fF (FV.eql rfl rfl) rfl (fun _ => rfl) (by omega) ?_
    | refine EL.fF (FV.neq rfl rfl) rfl (fun _ => rfl) (by omega) ?_
    | refine EL.f (FV.rem rfl rfl (by decide)) rfl rfl ?_
    | refine EL.f (FV.idx0 rfl rfl rfl rfl (by omega) (by omega)) rfl rfl ?_
    | refine EL.f (FV.idx1 rfl rfl rfl rfl (by omega) (by omega)) rfl rfl ?_
    | refine EL.f (FV.load1 rfl rfl rfl (by assumption)) rfl rfl ?_)
  refine EL.h (Hv.call (eqSame GA SA gc sc _ u13 (OwnI.rd gown) (sr.ext S13) hr) rfl) rfl (fun _ => rfl) ?_
  rintro _ u14 ⟨rfl, e14⟩
  have W14 := W13.trans e14
  have S14 := S13.trans e14
  replace gown := OwnI.ext gown e14
  repeat' (first
    | refine EW.seq ?_
    | refine EL.f (FV.move rfl) rfl rfl ?_
    | refine EL.f (FV.assign rfl) rfl rfl ?_
    | refine EL.nil ?_
    | refine EW.region ?_
    | refine EW.block ?_
    | refine EW.skip ?_
    | refine EW.exit ?_
    | refine EW.ret ?_
    | refine EW.condT rfl ?_
    | refine EW.condF rfl ?_
    | refine EL.f (FV.addI rfl rfl (by omega)) rfl rfl ?_
    | refine EL.f (FV.subI rfl rfl (by omega)) rfl rfl ?_
    | refine EL.f (FV.remI rfl rfl (by decide) (by omega)) rfl rfl ?_
    | refine EL.f (FV.quoI rfl rfl (by decide) (by omega)) rfl rfl ?_
    | refine EL.f (FV.extract rfl rfl) rfl rfl ?_
    | refine EL.f (FV.len rfl rfl) rfl rfl ?_
    | refine EL.f (FV.lenS rfl rfl) rfl rfl ?_
    | refine EL.f (FV.not rfl) rfl rfl ?_
    | refine EL.skip rfl rfl ?_
    | refine EL.f (FV.pickT rfl rfl) rfl rfl ?_
    | refine EL.f (FV.pickF rfl rfl) rfl rfl ?_
    | refine EL.fT (FV.lss rfl rfl) rfl (fun _ => rfl) (by omega) ?_
    | refine EL.fT (FV.leq rfl rfl) rfl (fun _ => rfl) (by omega) ?_
    | refine EL.fT (FV.gtr rfl rfl) rfl (fun _ => rfl) (by omega) ?_
    | refine EL.fT (FV.geq rfl rfl) rfl (fun _ => rfl) (by omega) ?_
    | refine EL.fT (FV.eql rfl rfl) rfl (fun _ => rfl) (by omega) ?_
    | refine EL.fT (FV.neq rfl rfl) rfl (fun _ => rfl) (by omega) ?_
    | refine EL.fF (FV.lss rfl rfl) rfl (fun _ => rfl) (by omega) ?_
    | refine EL.fF (FV.leq rfl rfl) rfl (fun _ => rfl) (by omega) ?_
    | refine EL.fF (FV.gtr rfl rfl) rfl (fun _ => rfl) (by omega) ?_
    | refine EL.fF (FV.geq rfl rfl) rfl (fun _ => rfl) (by omega) ?_
    | refine EL.fF (FV.eql rfl rfl) rfl (fun _ => rfl) (by omega) ?_
    | refine EL.fF (FV.neq rfl rfl) rfl (fun _ => rfl) (by omega) ?_
    | refine EL.f (FV.rem rfl rfl (by decide)) rfl rfl ?_
    | refine EL.f (FV.idx0 rfl rfl rfl rfl (by omega) (by omega)) rfl rfl ?_
    | refine EL.f (FV.idx1 rfl rfl rfl rfl (by omega) (by omega)) rfl rfl ?_
    | refine EL.f (FV.load1 rfl rfl rfl (by assumption)) rfl rfl ?_)
  refine EL.h (Hv.call (markInts _ u5.heap.size _ 1 u14 gown hr (by omega)) rfl) rfl (fun _ => rfl) ?_
  rintro _ u15 ⟨rfl, gmk, grg⟩
  have W15 := Ext.markO W14 gown grg (by have := ug; have := W3.size; omega)
  have S15 := Ext.markO S14 gown grg ug
  replace gown := gmk
  repeat' (first
    | refine EW.seq ?_
    | refine EL.f (FV.move rfl) rfl rfl ?_
    | refine EL.f (FV.assign rfl) rfl rfl ?_
    | refine EL.nil ?_
    | refine EW.region ?_
    | refine EW.block ?_
    | refine EW.skip ?_
    | refine EW.exit ?_
    | refine EW.ret ?_
    | refine EW.condT rfl ?_
    | refine EW.condF rfl ?_
    | refine EL.f (FV.addI rfl rfl (by omega)) rfl rfl ?_
    | refine EL.f (FV.subI rfl rfl (by omega)) rfl rfl ?_
    | refine EL.f (FV.remI rfl rfl (by decide) (by omega)) rfl rfl ?_
    | refine EL.f (FV.quoI rfl rfl (by decide) (by omega)) rfl rfl ?_
    | refine EL.f (FV.extract rfl rfl) rfl rfl ?_
    | refine EL.f (FV.len rfl rfl) rfl rfl ?_
    | refine EL.f (FV.lenS rfl rfl) rfl rfl ?_
    | refine EL.f (FV.not rfl) rfl rfl ?_
    | refine EL.skip rfl rfl ?_
    | refine EL.f (FV.pickT rfl rfl) rfl rfl ?_
    | refine EL.f (FV.pickF rfl rfl) rfl rfl ?_
    | refine EL.fT (FV.lss rfl rfl) rfl (fun _ => rfl) (by omega) ?_
    | refine EL.fT (FV.leq rfl rfl) rfl (fun _ => rfl) (by omega) ?_
    | refine EL.fT (FV.gtr rfl rfl) rfl (fun _ => rfl) (by omega) ?_
    | refine EL.fT (FV.geq rfl rfl) rfl (fun _ => rfl) (by omega) ?_
    | refine EL.fT (FV.eql rfl rfl) rfl (fun _ => rfl) (by omega) ?_
    | refine EL.fT (FV.neq rfl rfl) rfl (fun _ => rfl) (by omega) ?_
    | refine EL.fF (FV.lss rfl rfl) rfl (fun _ => rfl) (by omega) ?_
    | refine EL.fF (FV.leq rfl rfl) rfl (fun _ => rfl) (by omega) ?_
    | refine EL.fF (FV.gtr rfl rfl) rfl (fun _ => rfl) (by omega) ?_
    | refine EL.fF (FV.geq rfl rfl) rfl (fun _ => rfl) (by omega) ?_
    | refine EL.fF (FV.eql rfl rfl) rfl (fun _ => rfl) (by omega) ?_
    | refine EL.fF (FV.neq rfl rfl) rfl (fun _ => rfl) (by omega) ?_
    | refine EL.f (FV.rem rfl rfl (by decide)) rfl rfl ?_
    | refine EL.f (FV.idx0 rfl rfl rfl rfl (by omega) (by omega)) rfl rfl ?_
    | refine EL.f (FV.idx1 rfl rfl rfl rfl (by omega) (by omega)) rfl rfl ?_
    | refine EL.f (FV.load1 rfl rfl rfl (by assumption)) rfl rfl ?_)
  refine EL.h (Hv.call (heldInts GA gc _ 1 u15 (OwnI.rd gown) hr (by omega)) rfl) rfl (fun _ => rfl) ?_
  rintro _ _ ⟨rfl, rfl⟩
  repeat' (first
    | refine EW.seq ?_
    | refine EL.f (FV.move rfl) rfl rfl ?_
    | refine EL.f (FV.assign rfl) rfl rfl ?_
    | refine EL.nil ?_
    | refine EW.region ?_
    | refine EW.block ?_
    | refine EW.skip ?_
    | refine EW.exit ?_
    | refine EW.ret ?_
    | refine EW.condT rfl ?_
    | refine EW.condF rfl ?_
    | refine EL.f (FV.addI rfl rfl (by omega)) rfl rfl ?_
    | refine EL.f (FV.subI rfl rfl (by omega)) rfl rfl ?_
    | refine EL.f (FV.remI rfl rfl (by decide) (by omega)) rfl rfl ?_
    | refine EL.f (FV.quoI rfl rfl (by decide) (by omega)) rfl rfl ?_
    | refine EL.f (FV.extract rfl rfl) rfl rfl ?_
    | refine EL.f (FV.len rfl rfl) rfl rfl ?_
    | refine EL.f (FV.lenS rfl rfl) rfl rfl ?_
    | refine EL.f (FV.not rfl) rfl rfl ?_
    | refine EL.skip rfl rfl ?_
    | refine EL.f (FV.pickT rfl rfl) rfl rfl ?_
    | refine EL.f (FV.pickF rfl rfl) rfl rfl ?_
    | refine EL.fT (FV.lss rfl rfl) rfl (fun _ => rfl) (by omega) ?_
    | refine EL.fT (FV.leq rfl rfl) rfl (fun _ => rfl) (by omega) ?_
    | refine EL.fT (FV.gtr rfl rfl) rfl (fun _ => rfl) (by omega) ?_
    | refine EL.fT (FV.geq rfl rfl) rfl (fun _ => rfl) (by omega) ?_
    | refine EL.fT (FV.eql rfl rfl) rfl (fun _ => rfl) (by omega) ?_
    | refine EL.fT (FV.neq rfl rfl) rfl (fun _ => rfl) (by omega) ?_
    | refine EL.fF (FV.lss rfl rfl) rfl (fun _ => rfl) (by omega) ?_
    | refine EL.fF (FV.leq rfl rfl) rfl (fun _ => rfl) (by omega) ?_
    | refine EL.fF (FV.gtr rfl rfl) rfl (fun _ => rfl) (by omega) ?_
    | refine EL.fF (FV.geq rfl rfl) rfl (fun _ => rfl) (by omega) ?_
    | refine EL.fF (FV.eql rfl rfl) rfl (fun _ => rfl) (by omega) ?_
    | refine EL.fF (FV.neq rfl rfl) rfl (fun _ => rfl) (by omega) ?_
    | refine EL.f (FV.rem rfl rfl (by decide)) rfl rfl ?_
    | refine EL.f (FV.idx0 rfl rfl rfl rfl (by omega) (by omega)) rfl rfl ?_
    | refine EL.f (FV.idx1 rfl rfl rfl rfl (by omega) (by omega)) rfl rfl ?_
    | refine EL.f (FV.load1 rfl rfl rfl (by assumption)) rfl rfl ?_)
  refine EL.h (Hv.call (toInts A0 c0 xs0 u15 (h0.ext W15) hn0) rfl) rfl (fun _ => rfl) ?_
  rintro _ u16 ⟨z0, rfl, zb0, zt0, e16⟩
  have W16 := W15.trans e16
  have S16 := S15.trans e16
  replace gown := OwnI.ext gown e16
  repeat' (first
    | refine EW.seq ?_
    | refine EL.f (FV.move rfl) rfl rfl ?_
    | refine EL.f (FV.assign rfl) rfl rfl ?_
    | refine EL.nil ?_
    | refine EW.region ?_
    | refine EW.block ?_
    | refine EW.skip ?_
    | refine EW.exit ?_
    | refine EW.ret ?_
    | refine EW.condT rfl ?_
    | refine EW.condF rfl ?_
    | refine EL.f (FV.addI rfl rfl (by omega)) rfl rfl ?_
    | refine EL.f (FV.subI rfl rfl (by omega)) rfl rfl ?_
    | refine EL.f (FV.remI rfl rfl (by decide) (by omega)) rfl rfl ?_
    | refine EL.f (FV.quoI rfl rfl (by decide) (by omega)) rfl rfl ?_
    | refine EL.f (FV.extract rfl rfl) rfl rfl ?_
    | refine EL.f (FV.len rfl rfl) rfl rfl ?_
    | refine EL.f (FV.lenS rfl rfl) rfl rfl ?_
    | refine EL.f (FV.not rfl) rfl rfl ?_
    | refine EL.skip rfl rfl ?_
    | refine EL.f (FV.pickT rfl rfl) rfl rfl ?_
    | refine EL.f (FV.pickF rfl rfl) rfl rfl ?_
    | refine EL.fT (FV.lss rfl rfl) rfl (fun _ => rfl) (by omega) ?_
    | refine EL.fT (FV.leq rfl rfl) rfl (fun _ => rfl) (by omega) ?_
    | refine EL.fT (FV.gtr rfl rfl) rfl (fun _ => rfl) (by omega) ?_
    | refine EL.fT (FV.geq rfl rfl) rfl (fun _ => rfl) (by omega) ?_
    | refine EL.fT (FV.eql rfl rfl) rfl (fun _ => rfl) (by omega) ?_
    | refine EL.fT (FV.neq rfl rfl) rfl (fun _ => rfl) (by omega) ?_
    | refine EL.fF (FV.lss rfl rfl) rfl (fun _ => rfl) (by omega) ?_
    | refine EL.fF (FV.leq rfl rfl) rfl (fun _ => rfl) (by omega) ?_
    | refine EL.fF (FV.gtr rfl rfl) rfl (fun _ => rfl) (by omega) ?_
    | refine EL.fF (FV.geq rfl rfl) rfl (fun _ => rfl) (by omega) ?_
    | refine EL.fF (FV.eql rfl rfl) rfl (fun _ => rfl) (by omega) ?_
    | refine EL.fF (FV.neq rfl rfl) rfl (fun _ => rfl) (by omega) ?_
    | refine EL.f (FV.rem rfl rfl (by decide)) rfl rfl ?_
    | refine EL.f (FV.idx0 rfl rfl rfl rfl (by omega) (by omega)) rfl rfl ?_
    | refine EL.f (FV.idx1 rfl rfl rfl rfl (by omega) (by omega)) rfl rfl ?_
    | refine EL.f (FV.load1 rfl rfl rfl (by assumption)) rfl rfl ?_)
  refine EL.h (Hv.call (toInts A1 c1 xs1 u16 (h1.ext W16) hn1) rfl) rfl (fun _ => rfl) ?_
  rintro _ u17 ⟨z1, rfl, zb1, zt1, e17⟩
  have W17 := W16.trans e17
  replace zt0 := At.ext zt0 e17
  have S17 := S16.trans e17
  replace gown := OwnI.ext gown e17
  repeat' (first
    | refine EW.seq ?_
    | refine EL.f (FV.move rfl) rfl rfl ?_
    | refine EL.f (FV.assign rfl) rfl rfl ?_
    | refine EL.nil ?_
    | refine EW.region ?_
    | refine EW.block ?_
    | refine EW.skip ?_
    | refine EW.exit ?_
    | refine EW.ret ?_
    | refine EW.condT rfl ?_
    | refine EW.condF rfl ?_
    | refine EL.f (FV.addI rfl rfl (by omega)) rfl rfl ?_
    | refine EL.f (FV.subI rfl rfl (by omega)) rfl rfl ?_
    | refine EL.f (FV.remI rfl rfl (by decide) (by omega)) rfl rfl ?_
    | refine EL.f (FV.quoI rfl rfl (by decide) (by omega)) rfl rfl ?_
    | refine EL.f (FV.extract rfl rfl) rfl rfl ?_
    | refine EL.f (FV.len rfl rfl) rfl rfl ?_
    | refine EL.f (FV.lenS rfl rfl) rfl rfl ?_
    | refine EL.f (FV.not rfl) rfl rfl ?_
    | refine EL.skip rfl rfl ?_
    | refine EL.f (FV.pickT rfl rfl) rfl rfl ?_
    | refine EL.f (FV.pickF rfl rfl) rfl rfl ?_
    | refine EL.fT (FV.lss rfl rfl) rfl (fun _ => rfl) (by omega) ?_
    | refine EL.fT (FV.leq rfl rfl) rfl (fun _ => rfl) (by omega) ?_
    | refine EL.fT (FV.gtr rfl rfl) rfl (fun _ => rfl) (by omega) ?_
    | refine EL.fT (FV.geq rfl rfl) rfl (fun _ => rfl) (by omega) ?_
    | refine EL.fT (FV.eql rfl rfl) rfl (fun _ => rfl) (by omega) ?_
    | refine EL.fT (FV.neq rfl rfl) rfl (fun _ => rfl) (by omega) ?_
    | refine EL.fF (FV.lss rfl rfl) rfl (fun _ => rfl) (by omega) ?_
    | refine EL.fF (FV.leq rfl rfl) rfl (fun _ => rfl) (by omega) ?_
    | refine EL.fF (FV.gtr rfl rfl) rfl (fun _ => rfl) (by omega) ?_
    | refine EL.fF (FV.geq rfl rfl) rfl (fun _ => rfl) (by omega) ?_
    | refine EL.fF (FV.eql rfl rfl) rfl (fun _ => rfl) (by omega) ?_
    | refine EL.fF (FV.neq rfl rfl) rfl (fun _ => rfl) (by omega) ?_
    | refine EL.f (FV.rem rfl rfl (by decide)) rfl rfl ?_
    | refine EL.f (FV.idx0 rfl rfl rfl rfl (by omega) (by omega)) rfl rfl ?_
    | refine EL.f (FV.idx1 rfl rfl rfl rfl (by omega) (by omega)) rfl rfl ?_
    | refine EL.f (FV.load1 rfl rfl rfl (by assumption)) rfl rfl ?_)
  refine EL.h (Hv.call (implMulS (some ⟨z0, 0, none⟩) (some ⟨z1, 0, none⟩) _ _ xs0 xs1 u17 (At.rd zt0) (At.rd zt1) hn0 hn1) rfl) rfl (fun _ => rfl) ?_
  rintro _ u18 ⟨hv, rfl, hown, e18⟩
  have W18 := W17.trans e18
  have S18 := S17.trans e18
  replace gown := OwnI.ext gown e18
  obtain ⟨HA, hc, rfl, hrd⟩ := hown.form
  repeat' (first
    | refine EW.seq ?_
    | refine EL.f (FV.move rfl) rfl rfl ?_
    | refine EL.f (FV.assign rfl) rfl rfl ?_
    | refine EL.nil ?_
    | refine EW.region ?_
    | refine EW.block ?_
    | refine EW.skip ?_
    | refine EW.exit ?_
    | refine EW.ret ?_
    | refine EW.condT rfl ?_
    | refine EW.condF rfl ?_
    | refine EL.f (FV.addI rfl rfl (by omega)) rfl rfl ?_
    | refine EL.f (FV.subI rfl rfl (by omega)) rfl rfl ?_
    | refine EL.f (FV.remI rfl rfl (by decide) (by omega)) rfl rfl ?_
    | refine EL.f (FV.quoI rfl rfl (by decide) (by omega)) rfl rfl ?_
    | refine EL.f (FV.extract rfl rfl) rfl rfl ?_
    | refine EL.f (FV.len rfl rfl) rfl rfl ?_
    | refine EL.f (FV.lenS rfl rfl) rfl rfl ?_
    | refine EL.f (FV.not rfl) rfl rfl ?_
    | refine EL.skip rfl rfl ?_
    | refine EL.f (FV.pickT rfl rfl) rfl rfl ?_
    | refine EL.f (FV.pickF rfl rfl) rfl rfl ?_
    | refine EL.fT (FV.lss rfl rfl) rfl (fun _ => rfl) (by omega) ?_
    | refine EL.fT (FV.leq rfl rfl) rfl (fun _ => rfl) (by omega) ?_
    | refine EL.fT (FV.gtr rfl rfl) rfl (fun _ => rfl) (by omega) ?_
    | refine EL.fT (FV.geq rfl rfl) rfl (fun _ => rfl) (by omega) ?_
    | refine EL.fT (FV.eql rfl rfl) rfl (fun _ => rfl) (by omega) ?_
    | refine EL.fT (FV.neq rfl rfl) rfl (fun _ => rfl) (by omega) ?_
    | refine EL.fF (FV.lss rfl rfl) rfl (fun _ => rfl) (by omega) ?_
    | refine EL.fF (FV.leq rfl rfl) rfl (fun _ => rfl) (by omega) ?_
    | refine EL.fF (FV.gtr rfl rfl) rfl (fun _ => rfl) (by omega) ?_
    | refine EL.fF (FV.geq rfl rfl) rfl (fun _ => rfl) (by omega) ?_
    | refine EL.fF (FV.eql rfl rfl) rfl (fun _ => rfl) (by omega) ?_
    | refine EL.fF (FV.neq rfl rfl) rfl (fun _ => rfl) (by omega) ?_
    | refine EL.f (FV.rem rfl rfl (by decide)) rfl rfl ?_
    | refine EL.f (FV.idx0 rfl rfl rfl rfl (by omega) (by omega)) rfl rfl ?_
    | refine EL.f (FV.idx1 rfl rfl rfl rfl (by omega) (by omega)) rfl rfl ?_
    | refine EL.f (FV.load1 rfl rfl rfl (by assumption)) rfl rfl ?_)
  refine EL.h (Hv.call (eqSame HA SA hc sc _ u18 hrd (sr.ext S18) hr) rfl) rfl (fun _ => rfl) ?_
  rintro _ u19 ⟨rfl, e19⟩
  have W19 := W18.trans e19
  have S19 := S18.trans e19
  replace gown := OwnI.ext gown e19
  repeat' (first
    | refine EW.seq ?_
    | refine EL.f (FV.move rfl) rfl rfl ?_
    | refine EL.f (FV.assign rfl) rfl rfl ?_
    | refine EL.nil ?_
    | refine EW.region ?_
    | refine EW.block ?_
    | refine EW.skip ?_
    | refine EW.exit ?_
    | refine EW.ret ?_
    | refine EW.condT rfl ?_
    | refine EW.condF rfl ?_
    | refine EL.f (FV.addI rfl rfl (by omega)) rfl rfl ?_
    | refine EL.f (FV.subI rfl rfl (by omega)) rfl rfl ?_
    | refine EL.f (FV.remI rfl rfl (by decide) (by omega)) rfl rfl ?_
    | refine EL.f (FV.quoI rfl rfl (by decide) (by omega)) rfl rfl ?_
    | refine EL.f (FV.extract rfl rfl) rfl rfl ?_
    | refine EL.f (FV.len rfl rfl) rfl rfl ?_
    | refine EL.f (FV.lenS rfl rfl) rfl rfl ?_
    | refine EL.f (FV.not rfl) rfl rfl ?_
    | refine EL.skip rfl rfl ?_
    | refine EL.f (FV.pickT rfl rfl) rfl rfl ?_
    | refine EL.f (FV.pickF rfl rfl) rfl rfl ?_
    | refine EL.fT (FV.lss rfl rfl) rfl (fun _ => rfl) (by omega) ?_
    | refine EL.fT (FV.leq rfl rfl) rfl (fun _ => rfl) (by omega) ?_
    | refine EL.fT (FV.gtr rfl rfl) rfl (fun _ => rfl) (by omega) ?_
    | refine EL.fT (FV.geq rfl rfl) rfl (fun _ => rfl) (by omega) ?_
    | refine EL.fT (FV.eql rfl rfl) rfl (fun _ => rfl) (by omega) ?_
    | refine EL.fT (FV.neq rfl rfl) rfl (fun _ => rfl) (by omega) ?_
    | refine EL.fF (FV.lss rfl rfl) rfl (fun _ => rfl) (by omega) ?_
    | refine EL.fF (FV.leq rfl rfl) rfl (fun _ => rfl) (by omega) ?_
    | refine EL.fF (FV.gtr rfl rfl) rfl (fun _ => rfl) (by omega) ?_
    | refine EL.fF (FV.geq rfl rfl) rfl (fun _ => rfl) (by omega) ?_
    | refine EL.fF (FV.eql rfl rfl) rfl (fun _ => rfl) (by omega) ?_
    | refine EL.fF (FV.neq rfl rfl) rfl (fun _ => rfl) (by omega) ?_
    | refine EL.f (FV.rem rfl rfl (by decide)) rfl rfl ?_
    | refine EL.f (FV.idx0 rfl rfl rfl rfl (by omega) (by omega)) rfl rfl ?_
    | refine EL.f (FV.idx1 rfl rfl rfl rfl (by omega) (by omega)) rfl rfl ?_
    | refine EL.f (FV.load1 rfl rfl rfl (by assumption)) rfl rfl ?_)
  refine EL.h (Hv.call (heldInts GA gc _ 1 u19 (OwnI.rd gown) hr (by omega)) rfl) rfl (fun _ => rfl) ?_
  rintro _ _ ⟨rfl, rfl⟩
  repeat' (first
    | refine EW.seq ?_
    | refine EL.f (FV.move rfl) rfl rfl ?_
    | refine EL.f (FV.assign rfl) rfl rfl ?_
    | refine EL.nil ?_
    | refine EW.region ?_
    | refine EW.block ?_
    | refine EW.skip ?_
    | refine EW.exit ?_
    | refine EW.ret ?_
    | refine EW.condT rfl ?_
    | refine EW.condF rfl ?_
    | refine EL.f (FV.addI rfl rfl (by omega)) rfl rfl ?_
    | refine EL.f (FV.subI rfl rfl (by omega)) rfl rfl ?_
    | refine EL.f (FV.remI rfl rfl (by decide) (by omega)) rfl rfl ?_
    | refine EL.f (FV.quoI rfl rfl (by decide) (by omega)) rfl rfl ?_
    | refine EL.f (FV.extract rfl rfl) rfl rfl ?_
    | refine EL.f (FV.len rfl rfl) rfl rfl ?_
    | refine EL.f (FV.lenS rfl rfl) rfl rfl ?_
    | refine EL.f (FV.not rfl) rfl rfl ?_
    | refine EL.skip rfl rfl ?_
    | refine EL.f (FV.pickT rfl rfl) rfl rfl ?_
    | refine EL.f (FV.pickF rfl rfl) rfl rfl ?_
    | refine EL.fT (FV.lss rfl rfl) rfl (fun _ => rfl) (by omega) ?_
    | refine EL.fT (FV.leq rfl rfl) rfl (fun _ => rfl) (by omega) ?_
    | refine EL.fT (FV.gtr rfl rfl) rfl (fun _ => rfl) (by omega) ?_
    | refine EL.fT (FV.geq rfl rfl) rfl (fun _ => rfl) (by omega) ?_
    | refine EL.fT (FV.eql rfl rfl) rfl (fun _ => rfl) (by omega) ?_
    | refine EL.fT (FV.neq rfl rfl) rfl (fun _ => rfl) (by omega) ?_
    | refine EL.fF (FV.lss rfl rfl) rfl (fun _ => rfl) (by omega) ?_
    | refine EL.fF (FV.leq rfl rfl) rfl (fun _ => rfl) (by omega) ?_
    | refine EL.fF (FV.gtr rfl rfl) rfl (fun _ => rfl) (by omega) ?_
    | refine EL.fF (FV.geq rfl rfl) rfl (fun _ => rfl) (by omega) ?_
    | refine EL.fF (FV.eql rfl rfl) rfl (fun _ => rfl) (by omega) ?_
    | refine EL.fF (FV.neq rfl rfl) rfl (fun _ => rfl) (by omega) ?_
    | refine EL.f (FV.rem rfl rfl (by decide)) rfl rfl ?_
    | refine EL.f (FV.idx0 rfl rfl rfl rfl (by omega) (by omega)) rfl rfl ?_
    | refine EL.f (FV.idx1 rfl rfl rfl rfl (by omega) (by omega)) rfl rfl ?_
    | refine EL.f (FV.load1 rfl rfl rfl (by assumption)) rfl rfl ?_)
  exact ⟨_, rfl, rfl, W19⟩
def DivR (xs ys : List Int) : List Int × Int := if twoC xs ys = 0 then (if ys.getD 0 0 = 0 then ([], 6) else (divL xs ys, 0)) else ([], twoC xs ys)
theorem DivR_len (xs ys : List Int) : (DivR xs ys).1.length ≤ 1048576 := by
  unfold DivR
  split
  · rename_i h; have := vld_len (twoC_zero h).1
    split
    · simp
    · simp only; rw [divL_length]; omega
  · simp
theorem implDivS (A B : Option Addr) (c d : Nat) (xs ys : List Int) (w : World) (hx : Rd w A (ints xs)) (hy : Rd w B (ints ys)) (hn : xs.length ≤ 1048576) (hm : ys.length ≤ 1048576) :
    CallsR Try.prog 51 [.slice A xs.length c, .slice B ys.length d] w (SerOut w (DivR xs ys)) := by
  refine CallsR.enter Try.func51 (by decide +kernel) rfl Try.ntmps51 rfl ?_
  unfold DivR
  by_cases h0 : twoC xs ys = 0
  · have h1 := twoC_zero h0
    have h2 := vld_len h1.1
    have h3 := vld_len h1.2.1
    obtain ⟨b, o, rfl, hc⟩ := hy.int (show 0 < ys.length by omega)
    by_cases hz : ys.getD 0 0 = 0
    · repeat' (first
        | (refine EL.h (Hv.call (implTwo A _ c d xs ys w hx hy hn hm) rfl) rfl (fun _ => rfl) ?_; rintro _ _ ⟨rfl, rfl⟩)
        | refine EW.seq ?_
        | refine EL.f (FV.move rfl) rfl rfl ?_
        | refine EL.f (FV.assign rfl) rfl rfl ?_
        | refine EL.nil ?_
        | refine EW.region ?_
        | refine EW.block ?_
        | refine EW.skip ?_
        | refine EW.exit ?_
        | refine EW.ret ?_
        | refine EW.condT rfl ?_
        | refine EW.condF rfl ?_
        | refine EL.f (FV.addI rfl rfl (by omega)) rfl rfl ?_
        | refine EL.f (FV.subI rfl rfl (by omega)) rfl rfl ?_
        | refine EL.f (FV.remI rfl rfl (by decide) (by omega)) rfl rfl ?_
        | refine EL.f (FV.quoI rfl rfl (by decide) (by omega)) rfl rfl ?_
        | refine EL.f (FV.extract rfl rfl) rfl rfl ?_
        | refine EL.f (FV.len rfl rfl) rfl rfl ?_
        | refine EL.f (FV.lenS rfl rfl) rfl rfl ?_
        | refine EL.f (FV.not rfl) rfl rfl ?_
        | refine EL.skip rfl rfl ?_
        | refine EL.f (FV.pickT rfl rfl) rfl rfl ?_
        | refine EL.f (FV.pickF rfl rfl) rfl rfl ?_
        | refine EL.fT (FV.lss rfl rfl) rfl (fun _ => rfl) (by omega) ?_
        | refine EL.fT (FV.leq rfl rfl) rfl (fun _ => rfl) (by omega) ?_
        | refine EL.fT (FV.gtr rfl rfl) rfl (fun _ => rfl) (by omega) ?_
        | refine EL.fT (FV.geq rfl rfl) rfl (fun _ => rfl) (by omega) ?_
        | refine EL.fT (FV.eql rfl rfl) rfl (fun _ => rfl) (by omega) ?_
        | refine EL.fT (FV.neq rfl rfl) rfl (fun _ => rfl) (by omega) ?_
        | refine EL.fF (FV.lss rfl rfl) rfl (fun _ => rfl) (by omega) ?_
        | refine EL.fF (FV.leq rfl rfl) rfl (fun _ => rfl) (by omega) ?_
        | refine EL.fF (FV.gtr rfl rfl) rfl (fun _ => rfl) (by omega) ?_
        | refine EL.fF (FV.geq rfl rfl) rfl (fun _ => rfl) (by omega) ?_
        | refine EL.fF (FV.eql rfl rfl) rfl (fun _ => rfl) (by omega) ?_
        | refine EL.fF (FV.neq rfl rfl) rfl (fun _ => rfl) (by omega) ?_
        | refine EL.f (FV.rem rfl rfl (by decide)) rfl rfl ?_
        | refine EL.f (FV.idx0 rfl rfl rfl rfl (by omega) (by omega)) rfl rfl ?_
        | refine EL.f (FV.idx1 rfl rfl rfl rfl (by omega) (by omega)) rfl rfl ?_
        | refine EL.f (FV.load1 rfl rfl rfl (by assumption)) rfl rfl ?_)
      rw [if_pos h0, if_pos hz]
      exact ⟨_, rfl, SerOut.nil _ _⟩
    · repeat' (first
        | (refine EL.h (Hv.call (implTwo A _ c d xs ys w hx hy hn hm) rfl) rfl (fun _ => rfl) ?_; rintro _ _ ⟨rfl, rfl⟩)
        | (refine EL.h (Hv.call (implQuotient A _ c d xs ys w hx hy (by omega) (by omega) (by omega) h2.2.2 h3.2.2) rfl) rfl (fun _ => rfl) ?_; rintro v w' ⟨ho, he⟩)
        | refine EW.seq ?_
        | refine EL.f (FV.move rfl) rfl rfl ?_
        | refine EL.f (FV.assign rfl) rfl rfl ?_
        | refine EL.nil ?_
        | refine EW.region ?_
        | refine EW.block ?_
        | refine EW.skip ?_
        | refine EW.exit ?_
        | refine EW.ret ?_
        | refine EW.condT rfl ?_
        | refine EW.condF rfl ?_
        | refine EL.f (FV.addI rfl rfl (by omega)) rfl rfl ?_
        | refine EL.f (FV.subI rfl rfl (by omega)) rfl rfl ?_
        | refine EL.f (FV.remI rfl rfl (by decide) (by omega)) rfl rfl ?_
        | refine EL.f (FV.quoI rfl rfl (by decide) (by omega)) rfl rfl ?_
        | refine EL.f (FV.extract rfl rfl) rfl rfl ?_
        | refine EL.f (FV.len rfl rfl) rfl rfl ?_
        | refine EL.f (FV.lenS rfl rfl) rfl rfl ?_
        | refine EL.f (FV.not rfl) rfl rfl ?_
        | refine EL.skip rfl rfl ?_
        | refine EL.f (FV.pickT rfl rfl) rfl rfl ?_
        | refine EL.f (FV.pickF rfl rfl) rfl rfl ?_
        | refine EL.fT (FV.lss rfl rfl) rfl (fun _ => rfl) (by omega) ?_
        | refine EL.fT (FV.leq rfl rfl) rfl (fun _ => rfl) (by omega) ?_
        | refine EL.fT (FV.gtr rfl rfl) rfl (fun _ => rfl) (by omega) ?_
        | refine EL.fT (FV.geq rfl rfl) rfl (fun _ => rfl) (by omega) ?_
        | refine EL.fT (FV.eql rfl rfl) rfl (fun _ => rfl) (by omega) ?_
        | refine EL.fT (FV.neq rfl rfl) rfl (fun _ => rfl) (by omega) ?_
        | refine EL.fF (FV.lss rfl rfl) rfl (fun _ => rfl) (by omega) ?_
        | refine EL.fF (FV.leq rfl rfl) rfl (fun _ => rfl) (by omega) ?_
        | refine EL.fF (FV.gtr rfl rfl) rfl (fun _ => rfl) (by omega) ?_
        | refine EL.fF (FV.geq rfl rfl) rfl (fun _ => rfl) (by omega) ?_
        | refine EL.fF (FV.eql rfl rfl) rfl (fun _ => rfl) (by omega) ?_
        | refine EL.fF (FV.neq rfl rfl) rfl (fun _ => rfl) (by omega) ?_
        | refine EL.f (FV.rem rfl rfl (by decide)) rfl rfl ?_
        | refine EL.f (FV.idx0 rfl rfl rfl rfl (by omega) (by omega)) rfl rfl ?_
        | refine EL.f (FV.idx1 rfl rfl rfl rfl (by omega) (by omega)) rfl rfl ?_
        | refine EL.f (FV.load1 rfl rfl rfl (by assumption)) rfl rfl ?_)
      rw [if_pos h0, if_neg hz]
      exact ⟨_, rfl, v, rfl, ho, he⟩
  · repeat' (first
      | (refine EL.h (Hv.call (implTwo A B c d xs ys w hx hy hn hm) rfl) rfl (fun _ => rfl) ?_; rintro _ _ ⟨rfl, rfl⟩)
      | refine EW.seq ?_
      | refine EL.f (FV.move rfl) rfl rfl ?_
      | refine EL.f (FV.assign rfl) rfl rfl ?_
      | refine EL.nil ?_
      | refine EW.region ?_
      | refine EW.block ?_
      | refine EW.skip ?_
      | refine EW.exit ?_
      | refine EW.ret ?_
      | refine EW.condT rfl ?_
      | refine EW.condF rfl ?_
      | refine EL.f (FV.addI rfl rfl (by omega)) rfl rfl ?_
      | refine EL.f (FV.subI rfl rfl (by omega)) rfl rfl ?_
      | refine EL.f (FV.remI rfl rfl (by decide) (by omega)) rfl rfl ?_
      | refine EL.f (FV.quoI rfl rfl (by decide) (by omega)) rfl rfl ?_
      | refine EL.f (FV.extract rfl rfl) rfl rfl ?_
      | refine EL.f (FV.len rfl rfl) rfl rfl ?_
      | refine EL.f (FV.lenS rfl rfl) rfl rfl ?_
      | refine EL.f (FV.not rfl) rfl rfl ?_
      | refine EL.skip rfl rfl ?_
      | refine EL.f (FV.pickT rfl rfl) rfl rfl ?_
      | refine EL.f (FV.pickF rfl rfl) rfl rfl ?_
      | refine EL.fT (FV.lss rfl rfl) rfl (fun _ => rfl) (by omega) ?_
      | refine EL.fT (FV.leq rfl rfl) rfl (fun _ => rfl) (by omega) ?_
      | refine EL.fT (FV.gtr rfl rfl) rfl (fun _ => rfl) (by omega) ?_
      | refine EL.fT (FV.geq rfl rfl) rfl (fun _ => rfl) (by omega) ?_
      | refine EL.fT (FV.eql rfl rfl) rfl (fun _ => rfl) (by omega) ?_
      | refine EL.fT (FV.neq rfl rfl) rfl (fun _ => rfl) (by omega) ?_
      | refine EL.fF (FV.lss rfl rfl) rfl (fun _ => rfl) (by omega) ?_
      | refine EL.fF (FV.leq rfl rfl) rfl (fun _ => rfl) (by omega) ?_
      | refine EL.fF (FV.gtr rfl rfl) rfl (fun _ => rfl) (by omega) ?_
      | refine EL.fF (FV.geq rfl rfl) rfl (fun _ => rfl) (by omega) ?_
      | refine EL.fF (FV.eql rfl rfl) rfl (fun _ => rfl) (by omega) ?_
      | refine EL.fF (FV.neq rfl rfl) rfl (fun _ => rfl) (by omega) ?_
      | refine EL.f (FV.rem rfl rfl (by decide)) rfl rfl ?_
      | refine EL.f (FV.idx0 rfl rfl rfl rfl (by omega) (by omega)) rfl rfl ?_
      | refine EL.f (FV.idx1 rfl rfl rfl rfl (by omega) (by omega)) rfl rfl ?_
      | refine EL.f (FV.load1 rfl rfl rfl (by assumption)) rfl rfl ?_)
    rw [if_neg h0]
    exact ⟨_, rfl, SerOut.nil _ _⟩
theorem specDivS (A B : Option Addr) (c d : Nat) (xs ys : List Int) (w : World) (hx : Rd w A (ints xs)) (hy : Rd w B (ints ys)) (hn : xs.length ≤ 1048576) (hm : ys.length ≤ 1048576) :
    CallsR Try.prog 50 [.slice A xs.length c, .slice B ys.length d] w (SerOut w (DivR xs ys)) := by
  refine CallsR.enter Try.func50 (by decide +kernel) rfl Try.ntmps50 rfl ?_
  unfold DivR
  by_cases h0 : twoC xs ys = 0
  · have h1 := twoC_zero h0
    have h2 := vld_len h1.1
    have h3 := vld_len h1.2.1
    obtain ⟨b, o, rfl, hc⟩ := hy.int (show 0 < ys.length by omega)
    by_cases hz : ys.getD 0 0 = 0
    · repeat' (first
        | (refine EL.h (Hv.call (specTwo A _ c d xs ys w hx hy hn hm) rfl) rfl (fun _ => rfl) ?_; rintro _ _ ⟨rfl, rfl⟩)
        | (refine EL.h (Hv.build0 rfl rfl) rfl (fun _ => rfl) ?_; rintro v w' ⟨ho, he⟩)
        | refine EW.seq ?_
        | refine EL.f (FV.move rfl) rfl rfl ?_
        | refine EL.f (FV.assign rfl) rfl rfl ?_
        | refine EL.nil ?_
        | refine EW.region ?_
        | refine EW.block ?_
        | refine EW.skip ?_
        | refine EW.exit ?_
        | refine EW.ret ?_
        | refine EW.condT rfl ?_
        | refine EW.condF rfl ?_
        | refine EL.f (FV.addI rfl rfl (by omega)) rfl rfl ?_
        | refine EL.f (FV.subI rfl rfl (by omega)) rfl rfl ?_
        | refine EL.f (FV.remI rfl rfl (by decide) (by omega)) rfl rfl ?_
        | refine EL.f (FV.quoI rfl rfl (by decide) (by omega)) rfl rfl ?_
        | refine EL.f (FV.extract rfl rfl) rfl rfl ?_
        | refine EL.f (FV.len rfl rfl) rfl rfl ?_
        | refine EL.f (FV.lenS rfl rfl) rfl rfl ?_
        | refine EL.f (FV.not rfl) rfl rfl ?_
        | refine EL.skip rfl rfl ?_
        | refine EL.f (FV.pickT rfl rfl) rfl rfl ?_
        | refine EL.f (FV.pickF rfl rfl) rfl rfl ?_
        | refine EL.fT (FV.lss rfl rfl) rfl (fun _ => rfl) (by omega) ?_
        | refine EL.fT (FV.leq rfl rfl) rfl (fun _ => rfl) (by omega) ?_
        | refine EL.fT (FV.gtr rfl rfl) rfl (fun _ => rfl) (by omega) ?_
        | refine EL.fT (FV.geq rfl rfl) rfl (fun _ => rfl) (by omega) ?_
        | refine EL.fT (FV.eql rfl rfl) rfl (fun _ => rfl) (by omega) ?_
        | refine EL.fT (FV.neq rfl rfl) rfl (fun _ => rfl) (by omega) ?_
        | refine EL.fF (FV.lss rfl rfl) rfl (fun _ => rfl) (by omega) ?_
        | refine EL.fF (FV.leq rfl rfl) rfl (fun _ => rfl) (by omega) ?_
        | refine EL.fF (FV.gtr rfl rfl) rfl (fun _ => rfl) (by omega) ?_
        | refine EL.fF (FV.geq rfl rfl) rfl (fun _ => rfl) (by omega) ?_
        | refine EL.fF (FV.eql rfl rfl) rfl (fun _ => rfl) (by omega) ?_
        | refine EL.fF (FV.neq rfl rfl) rfl (fun _ => rfl) (by omega) ?_
        | refine EL.f (FV.rem rfl rfl (by decide)) rfl rfl ?_
        | refine EL.f (FV.idx0 rfl rfl rfl rfl (by omega) (by omega)) rfl rfl ?_
        | refine EL.f (FV.idx1 rfl rfl rfl rfl (by omega) (by omega)) rfl rfl ?_
        | refine EL.f (FV.load1 rfl rfl rfl (by assumption)) rfl rfl ?_)
      rw [if_pos h0, if_pos hz]
      exact ⟨_, rfl, v, rfl, ho, he⟩
    · repeat' (first
        | (refine EL.h (Hv.call (specTwo A _ c d xs ys w hx hy hn hm) rfl) rfl (fun _ => rfl) ?_; rintro _ _ ⟨rfl, rfl⟩)
        | (refine EL.h (Hv.call (specDiv A _ c d xs ys w hx hy (by omega) (by omega) (by omega) h2.2.2) rfl) rfl (fun _ => rfl) ?_; rintro v w' ⟨ho, he⟩)
        | refine EW.seq ?_
        | refine EL.f (FV.move rfl) rfl rfl ?_
        | refine EL.f (FV.assign rfl) rfl rfl ?_
        | refine EL.nil ?_
        | refine EW.region ?_
        | refine EW.block ?_
        | refine EW.skip ?_
        | refine EW.exit ?_
        | refine EW.ret ?_
        | refine EW.condT rfl ?_
        | refine EW.condF rfl ?_
        | refine EL.f (FV.addI rfl rfl (by omega)) rfl rfl ?_
        | refine EL.f (FV.subI rfl rfl (by omega)) rfl rfl ?_
        | refine EL.f (FV.remI rfl rfl (by decide) (by omega)) rfl rfl ?_
        | refine EL.f (FV.quoI rfl rfl (by decide) (by omega)) rfl rfl ?_
        | refine EL.f (FV.extract rfl rfl) rfl rfl ?_
        | refine EL.f (FV.len rfl rfl) rfl rfl ?_
        | refine EL.f (FV.lenS rfl rfl) rfl rfl ?_
        | refine EL.f (FV.not rfl) rfl rfl ?_
        | refine EL.skip rfl rfl ?_
        | refine EL.f (FV.pickT rfl rfl) rfl rfl ?_
        | refine EL.f (FV.pickF rfl rfl) rfl rfl ?_
        | refine EL.fT (FV.lss rfl rfl) rfl (fun _ => rfl) (by omega) ?_
        | refine EL.fT (FV.leq rfl rfl) rfl (fun _ => rfl) (by omega) ?_
        | refine EL.fT (FV.gtr rfl rfl) rfl (fun _ => rfl) (by omega) ?_
        | refine EL.fT (FV.geq rfl rfl) rfl (fun _ => rfl) (by omega) ?_
        | refine EL.fT (FV.eql rfl rfl) rfl (fun _ => rfl) (by omega) ?_
        | refine EL.fT (FV.neq rfl rfl) rfl (fun _ => rfl) (by omega) ?_
        | refine EL.fF (FV.lss rfl rfl) rfl (fun _ => rfl) (by omega) ?_
        | refine EL.fF (FV.leq rfl rfl) rfl (fun _ => rfl) (by omega) ?_
        | refine EL.fF (FV.gtr rfl rfl) rfl (fun _ => rfl) (by omega) ?_
        | refine EL.fF (FV.geq rfl rfl) rfl (fun _ => rfl) (by omega) ?_
        | refine EL.fF (FV.eql rfl rfl) rfl (fun _ => rfl) (by omega) ?_
        | refine EL.fF (FV.neq rfl rfl) rfl (fun _ => rfl) (by omega) ?_
        | refine EL.f (FV.rem rfl rfl (by decide)) rfl rfl ?_
        | refine EL.f (FV.idx0 rfl rfl rfl rfl (by omega) (by omega)) rfl rfl ?_
        | refine EL.f (FV.idx1 rfl rfl rfl rfl (by omega) (by omega)) rfl rfl ?_
        | refine EL.f (FV.load1 rfl rfl rfl (by assumption)) rfl rfl ?_)
      rw [if_pos h0, if_neg hz]
      exact ⟨_, rfl, v, rfl, ho, he⟩
  · repeat' (first
      | (refine EL.h (Hv.call (specTwo A B c d xs ys w hx hy hn hm) rfl) rfl (fun _ => rfl) ?_; rintro _ _ ⟨rfl, rfl⟩)
      | (refine EL.h (Hv.build0 rfl rfl) rfl (fun _ => rfl) ?_; rintro v w' ⟨ho, he⟩)
      | refine EW.seq ?_
      | refine EL.f (FV.move rfl) rfl rfl ?_
      | refine EL.f (FV.assign rfl) rfl rfl ?_
      | refine EL.nil ?_
      | refine EW.region ?_
      | refine EW.block ?_
      | refine EW.skip ?_
      | refine EW.exit ?_
      | refine EW.ret ?_
      | refine EW.condT rfl ?_
      | refine EW.condF rfl ?_
      | refine EL.f (FV.addI rfl rfl (by omega)) rfl rfl ?_
      | refine EL.f (FV.subI rfl rfl (by omega)) rfl rfl ?_
      | refine EL.f (FV.remI rfl rfl (by decide) (by omega)) rfl rfl ?_
      | refine EL.f (FV.quoI rfl rfl (by decide) (by omega)) rfl rfl ?_
      | refine EL.f (FV.extract rfl rfl) rfl rfl ?_
      | refine EL.f (FV.len rfl rfl) rfl rfl ?_
      | refine EL.f (FV.lenS rfl rfl) rfl rfl ?_
      | refine EL.f (FV.not rfl) rfl rfl ?_
      | refine EL.skip rfl rfl ?_
      | refine EL.f (FV.pickT rfl rfl) rfl rfl ?_
      | refine EL.f (FV.pickF rfl rfl) rfl rfl ?_
      | refine EL.fT (FV.lss rfl rfl) rfl (fun _ => rfl) (by omega) ?_
      | refine EL.fT (FV.leq rfl rfl) rfl (fun _ => rfl) (by omega) ?_
      | refine EL.fT (FV.gtr rfl rfl) rfl (fun _ => rfl) (by omega) ?_
      | refine EL.fT (FV.geq rfl rfl) rfl (fun _ => rfl) (by omega) ?_
      | refine EL.fT (FV.eql rfl rfl) rfl (fun _ => rfl) (by omega) ?_
      | refine EL.fT (FV.neq rfl rfl) rfl (fun _ => rfl) (by omega) ?_
      | refine EL.fF (FV.lss rfl rfl) rfl (fun _ => rfl) (by omega) ?_
      | refine EL.fF (FV.leq rfl rfl) rfl (fun _ => rfl) (by omega) ?_
      | refine EL.fF (FV.gtr rfl rfl) rfl (fun _ => rfl) (by omega) ?_
      | refine EL.fF (FV.geq rfl rfl) rfl (fun _ => rfl) (by omega) ?_
      | refine EL.fF (FV.eql rfl rfl) rfl (fun _ => rfl) (by omega) ?_
      | refine EL.fF (FV.neq rfl rfl) rfl (fun _ => rfl) (by omega) ?_
      | refine EL.f (FV.rem rfl rfl (by decide)) rfl rfl ?_
      | refine EL.f (FV.idx0 rfl rfl rfl rfl (by omega) (by omega)) rfl rfl ?_
      | refine EL.f (FV.idx1 rfl rfl rfl rfl (by omega) (by omega)) rfl rfl ?_
      | refine EL.f (FV.load1 rfl rfl rfl (by assumption)) rfl rfl ?_)
    rw [if_neg h0]
    exact ⟨_, rfl, v, rfl, ho, he⟩
theorem lawDivSeries (A0 : Option Addr) (c0 : Nat) (xs0 : List Int) (A1 : Option Addr) (c1 : Nat) (xs1 : List Int) (w : World) (h0 : Rd w A0 (ints xs0)) (h1 : Rd w A1 (ints xs1)) : CallsR Try.prog 16 [.slice A0 xs0.length c0, .slice A1 xs1.length c1] w fun v w' => v = .bool true ∧ Ext w w' := by
  refine CallsR.enter Try.func16 (by decide +kernel) rfl Try.ntmps16 rfl ?_
  by_cases hl0 : (1048576 : Int) < xs0.length
  · repeat' (first
      | refine EW.seq ?_
      | refine EL.f (FV.move rfl) rfl rfl ?_
      | refine EL.f (FV.assign rfl) rfl rfl ?_
      | refine EL.nil ?_
      | refine EW.region ?_
      | refine EW.block ?_
      | refine EW.skip ?_
      | refine EW.exit ?_
      | refine EW.ret ?_
      | refine EW.condT rfl ?_
      | refine EW.condF rfl ?_
      | refine EL.f (FV.addI rfl rfl (by omega)) rfl rfl ?_
      | refine EL.f (FV.subI rfl rfl (by omega)) rfl rfl ?_
      | refine EL.f (FV.remI rfl rfl (by decide) (by omega)) rfl rfl ?_
      | refine EL.f (FV.quoI rfl rfl (by decide) (by omega)) rfl rfl ?_
      | refine EL.f (FV.extract rfl rfl) rfl rfl ?_
      | refine EL.f (FV.len rfl rfl) rfl rfl ?_
      | refine EL.f (FV.lenS rfl rfl) rfl rfl ?_
      | refine EL.f (FV.not rfl) rfl rfl ?_
      | refine EL.skip rfl rfl ?_
      | refine EL.f (FV.pickT rfl rfl) rfl rfl ?_
      | refine EL.f (FV.pickF rfl rfl) rfl rfl ?_
      | refine EL.fT (FV.lss rfl rfl) rfl (fun _ => rfl) (by omega) ?_
      | refine EL.fT (FV.leq rfl rfl) rfl (fun _ => rfl) (by omega) ?_
      | refine EL.fT (FV.gtr rfl rfl) rfl (fun _ => rfl) (by omega) ?_
      | refine EL.fT (FV.geq rfl rfl) rfl (fun _ => rfl) (by omega) ?_
      | refine EL.fT (FV.eql rfl rfl) rfl (fun _ => rfl) (by omega) ?_
      | refine EL.fT (FV.neq rfl rfl) rfl (fun _ => rfl) (by omega) ?_
      | refine EL.fF (FV.lss rfl rfl) rfl (fun _ => rfl) (by omega) ?_
      | refine EL.fF (FV.leq rfl rfl) rfl (fun _ => rfl) (by omega) ?_
      | refine EL.fF (FV.gtr rfl rfl) rfl (fun _ => rfl) (by omega) ?_
      | refine EL.fF (FV.geq rfl rfl) rfl (fun _ => rfl) (by omega) ?_
      | refine EL.fF (FV.eql rfl rfl) rfl (fun _ => rfl) (by omega) ?_
      | refine EL.fF (FV.neq rfl rfl) rfl (fun _ => rfl) (by omega) ?_
      | refine EL.f (FV.rem rfl rfl (by decide)) rfl rfl ?_
      | refine EL.f (FV.idx0 rfl rfl rfl rfl (by omega) (by omega)) rfl rfl ?_
      | refine EL.f (FV.idx1 rfl rfl rfl rfl (by omega) (by omega)) rfl rfl ?_
      | refine EL.f (FV.load1 rfl rfl rfl (by assumption)) rfl rfl ?_)
    exact ⟨_, rfl, rfl, Ext.refl _⟩
  by_cases hl1 : (1048576 : Int) < xs1.length
  · repeat' (first
      | refine EW.seq ?_
      | refine EL.f (FV.move rfl) rfl rfl ?_
      | refine EL.f (FV.assign rfl) rfl rfl ?_
      | refine EL.nil ?_
      | refine EW.region ?_
      | refine EW.block ?_
      | refine EW.skip ?_
      | refine EW.exit ?_
      | refine EW.ret ?_
      | refine EW.condT rfl ?_
      | refine EW.condF rfl ?_
      | refine EL.f (FV.addI rfl rfl (by omega)) rfl rfl ?_
      | refine EL.f (FV.subI rfl rfl (by omega)) rfl rfl ?_
      | refine EL.f (FV.remI rfl rfl (by decide) (by omega)) rfl rfl ?_
      | refine EL.f (FV.quoI rfl rfl (by decide) (by omega)) rfl rfl ?_
      | refine EL.f (FV.extract rfl rfl) rfl rfl ?_
      | refine EL.f (FV.len rfl rfl) rfl rfl ?_
      | refine EL.f (FV.lenS rfl rfl) rfl rfl ?_
      | refine EL.f (FV.not rfl) rfl rfl ?_
      | refine EL.skip rfl rfl ?_
      | refine EL.f (FV.pickT rfl rfl) rfl rfl ?_
      | refine EL.f (FV.pickF rfl rfl) rfl rfl ?_
      | refine EL.fT (FV.lss rfl rfl) rfl (fun _ => rfl) (by omega) ?_
      | refine EL.fT (FV.leq rfl rfl) rfl (fun _ => rfl) (by omega) ?_
      | refine EL.fT (FV.gtr rfl rfl) rfl (fun _ => rfl) (by omega) ?_
      | refine EL.fT (FV.geq rfl rfl) rfl (fun _ => rfl) (by omega) ?_
      | refine EL.fT (FV.eql rfl rfl) rfl (fun _ => rfl) (by omega) ?_
      | refine EL.fT (FV.neq rfl rfl) rfl (fun _ => rfl) (by omega) ?_
      | refine EL.fF (FV.lss rfl rfl) rfl (fun _ => rfl) (by omega) ?_
      | refine EL.fF (FV.leq rfl rfl) rfl (fun _ => rfl) (by omega) ?_
      | refine EL.fF (FV.gtr rfl rfl) rfl (fun _ => rfl) (by omega) ?_
      | refine EL.fF (FV.geq rfl rfl) rfl (fun _ => rfl) (by omega) ?_
      | refine EL.fF (FV.eql rfl rfl) rfl (fun _ => rfl) (by omega) ?_
      | refine EL.fF (FV.neq rfl rfl) rfl (fun _ => rfl) (by omega) ?_
      | refine EL.f (FV.rem rfl rfl (by decide)) rfl rfl ?_
      | refine EL.f (FV.idx0 rfl rfl rfl rfl (by omega) (by omega)) rfl rfl ?_
      | refine EL.f (FV.idx1 rfl rfl rfl rfl (by omega) (by omega)) rfl rfl ?_
      | refine EL.f (FV.load1 rfl rfl rfl (by assumption)) rfl rfl ?_)
    exact ⟨_, rfl, rfl, Ext.refl _⟩
  have hn0 : xs0.length ≤ 1048576 := by omega
  have hn1 : xs1.length ≤ 1048576 := by omega
  have hr := DivR_len xs0 xs1
  repeat' (first
    | refine EW.seq ?_
    | refine EL.f (FV.move rfl) rfl rfl ?_
    | refine EL.f (FV.assign rfl) rfl rfl ?_
    | refine EL.nil ?_
    | refine EW.region ?_
    | refine EW.block ?_
    | refine EW.skip ?_
    | refine EW.exit ?_
    | refine EW.ret ?_
    | refine EW.condT rfl ?_
    | refine EW.condF rfl ?_
    | refine EL.f (FV.addI rfl rfl (by omega)) rfl rfl ?_
    | refine EL.f (FV.subI rfl rfl (by omega)) rfl rfl ?_
    | refine EL.f (FV.remI rfl rfl (by decide) (by omega)) rfl rfl ?_
    | refine EL.f (FV.quoI rfl rfl (by decide) (by omega)) rfl rfl ?_
    | refine EL.f (FV.extract rfl rfl) rfl rfl ?_
    | refine EL.f (FV.len rfl rfl) rfl rfl ?_
    | refine EL.f (FV.lenS rfl rfl) rfl rfl ?_
    | refine EL.f (FV.not rfl) rfl rfl ?_
    | refine EL.skip rfl rfl ?_
    | refine EL.f (FV.pickT rfl rfl) rfl rfl ?_
    | refine EL.f (FV.pickF rfl rfl) rfl rfl ?_
    | refine EL.fT (FV.lss rfl rfl) rfl (fun _ => rfl) (by omega) ?_
    | refine EL.fT (FV.leq rfl rfl) rfl (fun _ => rfl) (by omega) ?_
    | refine EL.fT (FV.gtr rfl rfl) rfl (fun _ => rfl) (by omega) ?_
    | refine EL.fT (FV.geq rfl rfl) rfl (fun _ => rfl) (by omega) ?_
    | refine EL.fT (FV.eql rfl rfl) rfl (fun _ => rfl) (by omega) ?_
    | refine EL.fT (FV.neq rfl rfl) rfl (fun _ => rfl) (by omega) ?_
    | refine EL.fF (FV.lss rfl rfl) rfl (fun _ => rfl) (by omega) ?_
    | refine EL.fF (FV.leq rfl rfl) rfl (fun _ => rfl) (by omega) ?_
    | refine EL.fF (FV.gtr rfl rfl) rfl (fun _ => rfl) (by omega) ?_
    | refine EL.fF (FV.geq rfl rfl) rfl (fun _ => rfl) (by omega) ?_
    | refine EL.fF (FV.eql rfl rfl) rfl (fun _ => rfl) (by omega) ?_
    | refine EL.fF (FV.neq rfl rfl) rfl (fun _ => rfl) (by omega) ?_
    | refine EL.f (FV.rem rfl rfl (by decide)) rfl rfl ?_
    | refine EL.f (FV.idx0 rfl rfl rfl rfl (by omega) (by omega)) rfl rfl ?_
    | refine EL.f (FV.idx1 rfl rfl rfl rfl (by omega) (by omega)) rfl rfl ?_
    | refine EL.f (FV.load1 rfl rfl rfl (by assumption)) rfl rfl ?_)
  refine EL.h (Hv.call (toInts A0 c0 xs0 w (h0.ext (Ext.refl w)) hn0) rfl) rfl (fun _ => rfl) ?_
  rintro _ u1 ⟨p0, rfl, pb0, pt0, e1⟩
  have W1 := (Ext.refl w).trans e1
  repeat' (first
    | refine EW.seq ?_
    | refine EL.f (FV.move rfl) rfl rfl ?_
    | refine EL.f (FV.assign rfl) rfl rfl ?_
    | refine EL.nil ?_
    | refine EW.region ?_
    | refine EW.block ?_
    | refine EW.skip ?_
    | refine EW.exit ?_
    | refine EW.ret ?_
    | refine EW.condT rfl ?_
    | refine EW.condF rfl ?_
    | refine EL.f (FV.addI rfl rfl (by omega)) rfl rfl ?_
    | refine EL.f (FV.subI rfl rfl (by omega)) rfl rfl ?_
    | refine EL.f (FV.remI rfl rfl (by decide) (by omega)) rfl rfl ?_
    | refine EL.f (FV.quoI rfl rfl (by decide) (by omega)) rfl rfl ?_
    | refine EL.f (FV.extract rfl rfl) rfl rfl ?_
    | refine EL.f (FV.len rfl rfl) rfl rfl ?_
    | refine EL.f (FV.lenS rfl rfl) rfl rfl ?_
    | refine EL.f (FV.not rfl) rfl rfl ?_
    | refine EL.skip rfl rfl ?_
    | refine EL.f (FV.pickT rfl rfl) rfl rfl ?_
    | refine EL.f (FV.pickF rfl rfl) rfl rfl ?_
    | refine EL.fT (FV.lss rfl rfl) rfl (fun _ => rfl) (by omega) ?_
    | refine EL.fT (FV.leq rfl rfl) rfl (fun _ => rfl) (by omega) ?_
    | refine EL.fT (FV.gtr rfl rfl) rfl (fun _ => rfl) (by omega) ?_
    | refine EL.fT (FV.geq rfl rfl) rfl (fun _ => rfl) (by omega) ?_
    | refine EL.fT (FV.eql rfl rfl) rfl (fun _ => rfl) (by omega) ?_
    | refine EL.fT (FV.neq rfl rfl) rfl (fun _ => rfl) (by omega) ?_
    | refine EL.fF (FV.lss rfl rfl) rfl (fun _ => rfl) (by omega) ?_
    | refine EL.fF (FV.leq rfl rfl) rfl (fun _ => rfl) (by omega) ?_
    | refine EL.fF (FV.gtr rfl rfl) rfl (fun _ => rfl) (by omega) ?_
    | refine EL.fF (FV.geq rfl rfl) rfl (fun _ => rfl) (by omega) ?_
    | refine EL.fF (FV.eql rfl rfl) rfl (fun _ => rfl) (by omega) ?_
    | refine EL.fF (FV.neq rfl rfl) rfl (fun _ => rfl) (by omega) ?_
    | refine EL.f (FV.rem rfl rfl (by decide)) rfl rfl ?_
    | refine EL.f (FV.idx0 rfl rfl rfl rfl (by omega) (by omega)) rfl rfl ?_
    | refine EL.f (FV.idx1 rfl rfl rfl rfl (by omega) (by omega)) rfl rfl ?_
    | refine EL.f (FV.load1 rfl rfl rfl (by assumption)) rfl rfl ?_)
  refine EL.h (Hv.call (toInts A1 c1 xs1 u1 (h1.ext W1) hn1) rfl) rfl (fun _ => rfl) ?_
  rintro _ u2 ⟨p1, rfl, pb1, pt1, e2⟩
  have W2 := W1.trans e2
  replace pt0 := At.ext pt0 e2
  repeat' (first
    | refine EW.seq ?_
    | refine EL.f (FV.move rfl) rfl rfl ?_
    | refine EL.f (FV.assign rfl) rfl rfl ?_
    | refine EL.nil ?_
    | refine EW.region ?_
    | refine EW.block ?_
    | refine EW.skip ?_
    | refine EW.exit ?_
    | refine EW.ret ?_
    | refine EW.condT rfl ?_
    | refine EW.condF rfl ?_
    | refine EL.f (FV.addI rfl rfl (by omega)) rfl rfl ?_
    | refine EL.f (FV.subI rfl rfl (by omega)) rfl rfl ?_
    | refine EL.f (FV.remI rfl rfl (by decide) (by omega)) rfl rfl ?_
    | refine EL.f (FV.quoI rfl rfl (by decide) (by omega)) rfl rfl ?_
    | refine EL.f (FV.extract rfl rfl) rfl rfl ?_
    | refine EL.f (FV.len rfl rfl) rfl rfl ?_
    | refine EL.f (FV.lenS rfl rfl) rfl rfl ?_
    | refine EL.f (FV.not rfl) rfl rfl ?_
    | refine EL.skip rfl rfl ?_
    | refine EL.f (FV.pickT rfl rfl) rfl rfl ?_
    | refine EL.f (FV.pickF rfl rfl) rfl rfl ?_
    | refine EL.fT (FV.lss rfl rfl) rfl (fun _ => rfl) (by omega) ?_
    | refine EL.fT (FV.leq rfl rfl) rfl (fun _ => rfl) (by omega) ?_
    | refine EL.fT (FV.gtr rfl rfl) rfl (fun _ => rfl) (by omega) ?_
    | refine EL.fT (FV.geq rfl rfl) rfl (fun _ => rfl) (by omega) ?_
    | refine EL.fT (FV.eql rfl rfl) rfl (fun _ => rfl) (by omega) ?_
    | refine EL.fT (FV.neq rfl rfl) rfl (fun _ => rfl) (by omega) ?_
    | refine EL.fF (FV.lss rfl rfl) rfl (fun _ => rfl) (by omega) ?_
    | refine EL.fF (FV.leq rfl rfl) rfl (fun _ => rfl) (by omega) ?_
    | refine EL.fF (FV.gtr rfl rfl) rfl (fun _ => rfl) (by omega) ?_
    | refine EL.fF (FV.geq rfl rfl) rfl (fun _ => rfl) (by omega) ?_
    | refine EL.fF (FV.eql rfl rfl) rfl (fun _ => rfl) (by omega) ?_
    | refine EL.fF (FV.neq rfl rfl) rfl (fun _ => rfl) (by omega) ?_
    | refine EL.f (FV.rem rfl rfl (by decide)) rfl rfl ?_
    | refine EL.f (FV.idx0 rfl rfl rfl rfl (by omega) (by omega)) rfl rfl ?_
    | refine EL.f (FV.idx1 rfl rfl rfl rfl (by omega) (by omega)) rfl rfl ?_
    | refine EL.f (FV.load1 rfl rfl rfl (by assumption)) rfl rfl ?_)
  refine EL.h (Hv.call (specDivS (some ⟨p0, 0, none⟩) (some ⟨p1, 0, none⟩) _ _ xs0 xs1 u2 (At.rd pt0) (At.rd pt1) hn0 hn1) rfl) rfl (fun _ => rfl) ?_
  rintro _ u3 ⟨sv, rfl, sown, e3⟩
  have W3 := W2.trans e3
  obtain ⟨SA, sc, rfl, sr⟩ := sown.form
  repeat' (first
    | refine EW.seq ?_
    | refine EL.f (FV.move rfl) rfl rfl ?_
    | refine EL.f (FV.assign rfl) rfl rfl ?_
    | refine EL.nil ?_
    | refine EW.region ?_
    | refine EW.block ?_
    | refine EW.skip ?_
    | refine EW.exit ?_
    | refine EW.ret ?_
    | refine EW.condT rfl ?_
    | refine EW.condF rfl ?_
    | refine EL.f (FV.addI rfl rfl (by omega)) rfl rfl ?_
    | refine EL.f (FV.subI rfl rfl (by omega)) rfl rfl ?_
    | refine EL.f (FV.remI rfl rfl (by decide) (by omega)) rfl rfl ?_
    | refine EL.f (FV.quoI rfl rfl (by decide) (by omega)) rfl rfl ?_
    | refine EL.f (FV.extract rfl rfl) rfl rfl ?_
    | refine EL.f (FV.len rfl rfl) rfl rfl ?_
    | refine EL.f (FV.lenS rfl rfl) rfl rfl ?_
    | refine EL.f (FV.not rfl) rfl rfl ?_
    | refine EL.skip rfl rfl ?_
    | refine EL.f (FV.pickT rfl rfl) rfl rfl ?_
    | refine EL.f (FV.pickF rfl rfl) rfl rfl ?_
    | refine EL.fT (FV.lss rfl rfl) rfl (fun _ => rfl) (by omega) ?_
    | refine EL.fT (FV.leq rfl rfl) rfl (fun _ => rfl) (by omega) ?_
    | refine EL.fT (FV.gtr rfl rfl) rfl (fun _ => rfl) (by omega) ?_
    | refine EL.fT (FV.geq rfl rfl) rfl (fun _ => rfl) (by omega) ?_
    | refine EL.fT (FV.eql rfl rfl) rfl (fun _ => rfl) (by omega) ?_
    | refine EL.fT (FV.neq rfl rfl) rfl (fun _ => rfl) (by omega) ?_
    | refine EL.fF (FV.lss rfl rfl) rfl (fun _ => rfl) (by omega) ?_
    | refine EL.fF (FV.leq rfl rfl) rfl (fun _ => rfl) (by omega) ?_
    | refine EL.fF (FV.gtr rfl rfl) rfl (fun _ => rfl) (by omega) ?_
    | refine EL.fF (FV.geq rfl rfl) rfl (fun _ => rfl) (by omega) ?_
    | refine EL.fF (FV.eql rfl rfl) rfl (fun _ => rfl) (by omega) ?_
    | refine EL.fF (FV.neq rfl rfl) rfl (fun _ => rfl) (by omega) ?_
    | refine EL.f (FV.rem rfl rfl (by decide)) rfl rfl ?_
    | refine EL.f (FV.idx0 rfl rfl rfl rfl (by omega) (by omega)) rfl rfl ?_
    | refine EL.f (FV.idx1 rfl rfl rfl rfl (by omega) (by omega)) rfl rfl ?_
    | refine EL.f (FV.load1 rfl rfl rfl (by assumption)) rfl rfl ?_)
  refine EL.h (Hv.call (toInts A0 c0 xs0 u3 (h0.ext W3) hn0) rfl) rfl (fun _ => rfl) ?_
  rintro _ u4 ⟨x0, rfl, xb0, xt0, e4⟩
  have W4 := W3.trans e4
  have S4 := (Ext.refl u3).trans e4
  have xl0 := At.lt xt0
  repeat' (first
    | refine EW.seq ?_
    | refine EL.f (FV.move rfl) rfl rfl ?_
    | refine EL.f (FV.assign rfl) rfl rfl ?_
    | refine EL.nil ?_
    | refine EW.region ?_
    | refine EW.block ?_
    | refine EW.skip ?_
    | refine EW.exit ?_
    | refine EW.ret ?_
    | refine EW.condT rfl ?_
    | refine EW.condF rfl ?_
    | refine EL.f (FV.addI rfl rfl (by omega)) rfl rfl ?_
    | refine EL.f (FV.subI rfl rfl (by omega)) rfl rfl ?_
    | refine EL.f (FV.remI rfl rfl (by decide) (by omega)) rfl rfl ?_
    | refine EL.f (FV.quoI rfl rfl (by decide) (by omega)) rfl rfl ?_
    | refine EL.f (FV.extract rfl rfl) rfl rfl ?_
    | refine EL.f (FV.len rfl rfl) rfl rfl ?_
    | refine EL.f (FV.lenS rfl rfl) rfl rfl ?_
    | refine EL.f (FV.not rfl) rfl rfl ?_
    | refine EL.skip rfl rfl ?_
    | refine EL.f (FV.pickT rfl rfl) rfl rfl ?_
    | refine EL.f (FV.pickF rfl rfl) rfl rfl ?_
    | refine EL.fT (FV.lss rfl rfl) rfl (fun _ => rfl) (by omega) ?_
    | refine EL.fT (FV.leq rfl rfl) rfl (fun _ => rfl) (by omega) ?_
    | refine EL.fT (FV.gtr rfl rfl) rfl (fun _ => rfl) (by omega) ?_
    | refine EL.fT (FV.geq rfl rfl) rfl (fun _ => rfl) (by omega) ?_
    | refine EL.fT (FV.eql rfl rfl) rfl (fun _ => rfl) (by omega) ?_
    | refine EL.fT (FV.neq rfl rfl) rfl (fun _ => rfl) (by omega) ?_
    | refine EL.fF (FV.lss rfl rfl) rfl (fun _ => rfl) (by omega) ?_
    | refine EL.fF (FV.leq rfl rfl) rfl (fun _ => rfl) (by omega) ?_
    | refine EL.fF (FV.gtr rfl rfl) rfl (fun _ => rfl) (by omega) ?_
    | refine EL.fF (FV.geq rfl rfl) rfl (fun _ => rfl) (by omega) ?_
    | refine EL.fF (FV.eql rfl rfl) rfl (fun _ => rfl) (by omega) ?_
    | refine EL.fF (FV.neq rfl rfl) rfl (fun _ => rfl) (by omega) ?_
    | refine EL.f (FV.rem rfl rfl (by decide)) rfl rfl ?_
    | refine EL.f (FV.idx0 rfl rfl rfl rfl (by omega) (by omega)) rfl rfl ?_
    | refine EL.f (FV.idx1 rfl rfl rfl rfl (by omega) (by omega)) rfl rfl ?_
    | refine EL.f (FV.load1 rfl rfl rfl (by assumption)) rfl rfl ?_)
  refine EL.h (Hv.call (toInts A1 c1 xs1 u4 (h1.ext W4) hn1) rfl) rfl (fun _ => rfl) ?_
  rintro _ u5 ⟨x1, rfl, xb1, xt1, e5⟩
  have W5 := W4.trans e5
  have S5 := S4.trans e5
  have xl1 := At.lt xt1
  replace xt0 := At.ext xt0 e5
  repeat' (first
    | refine EW.seq ?_
    | refine EL.f (FV.move rfl) rfl rfl ?_
    | refine EL.f (FV.assign rfl) rfl rfl ?_
    | refine EL.nil ?_
    | refine EW.region ?_
    | refine EW.block ?_
    | refine EW.skip ?_
    | refine EW.exit ?_
    | refine EW.ret ?_
    | refine EW.condT rfl ?_
    | refine EW.condF rfl ?_
    | refine EL.f (FV.addI rfl rfl (by omega)) rfl rfl ?_
    | refine EL.f (FV.subI rfl rfl (by omega)) rfl rfl ?_
    | refine EL.f (FV.remI rfl rfl (by decide) (by omega)) rfl rfl ?_
    | refine EL.f (FV.quoI rfl rfl (by decide) (by omega)) rfl rfl ?_
    | refine EL.f (FV.extract rfl rfl) rfl rfl ?_
    | refine EL.f (FV.len rfl rfl) rfl rfl ?_
    | refine EL.f (FV.lenS rfl rfl) rfl rfl ?_
    | refine EL.f (FV.not rfl) rfl rfl ?_
    | refine EL.skip rfl rfl ?_
    | refine EL.f (FV.pickT rfl rfl) rfl rfl ?_
    | refine EL.f (FV.pickF rfl rfl) rfl rfl ?_
    | refine EL.fT (FV.lss rfl rfl) rfl (fun _ => rfl) (by omega) ?_
    | refine EL.fT (FV.leq rfl rfl) rfl (fun _ => rfl) (by omega) ?_
    | refine EL.fT (FV.gtr rfl rfl) rfl (fun _ => rfl) (by omega) ?_
    | refine EL.fT (FV.geq rfl rfl) rfl (fun _ => rfl) (by omega) ?_
    | refine EL.fT (FV.eql rfl rfl) rfl (fun _ => rfl) (by omega) ?_
    | refine EL.fT (FV.neq rfl rfl) rfl (fun _ => rfl) (by omega) ?_
    | refine EL.fF (FV.lss rfl rfl) rfl (fun _ => rfl) (by omega) ?_
    | refine EL.fF (FV.leq rfl rfl) rfl (fun _ => rfl) (by omega) ?_
    | refine EL.fF (FV.gtr rfl rfl) rfl (fun _ => rfl) (by omega) ?_
    | refine EL.fF (FV.geq rfl rfl) rfl (fun _ => rfl) (by omega) ?_
    | refine EL.fF (FV.eql rfl rfl) rfl (fun _ => rfl) (by omega) ?_
    | refine EL.fF (FV.neq rfl rfl) rfl (fun _ => rfl) (by omega) ?_
    | refine EL.f (FV.rem rfl rfl (by decide)) rfl rfl ?_
    | refine EL.f (FV.idx0 rfl rfl rfl rfl (by omega) (by omega)) rfl rfl ?_
    | refine EL.f (FV.idx1 rfl rfl rfl rfl (by omega) (by omega)) rfl rfl ?_
    | refine EL.f (FV.load1 rfl rfl rfl (by assumption)) rfl rfl ?_)
  refine EL.h (Hv.call (implDivS (some ⟨x0, 0, none⟩) (some ⟨x1, 0, none⟩) _ _ xs0 xs1 u5 (At.rd xt0) (At.rd xt1) hn0 hn1) rfl) rfl (fun _ => rfl) ?_
  rintro _ u6 ⟨gv, rfl, gown, e6⟩
  have W6 := W5.trans e6
  have S6 := S5.trans e6
  replace xt0 := At.ext xt0 e6
  replace xt1 := At.ext xt1 e6
  obtain ⟨GA, gc, rfl, _⟩ := gown.form
  have xg0 : x0 < u5.heap.size := by have := xl0; have := e5.size; omega
  have xs_0 : u3.heap.size ≤ x0 := by have := xb0;  omega
  have xg1 : x1 < u5.heap.size := by have := xl1;  omega
  have xs_1 : u3.heap.size ≤ x1 := by have := xb1; have := e4.size; omega
  have ug : u3.heap.size ≤ u5.heap.size := by have := e4.size; have := e5.size; omega
  repeat' (first
    | refine EW.seq ?_
    | refine EL.f (FV.move rfl) rfl rfl ?_
    | refine EL.f (FV.assign rfl) rfl rfl ?_
    | refine EL.nil ?_
    | refine EW.region ?_
    | refine EW.block ?_
    | refine EW.skip ?_
    | refine EW.exit ?_
    | refine EW.ret ?_
    | refine EW.condT rfl ?_
    | refine EW.condF rfl ?_
    | refine EL.f (FV.addI rfl rfl (by omega)) rfl rfl ?_
    | refine EL.f (FV.subI rfl rfl (by omega)) rfl rfl ?_
    | refine EL.f (FV.remI rfl rfl (by decide) (by omega)) rfl rfl ?_
    | refine EL.f (FV.quoI rfl rfl (by decide) (by omega)) rfl rfl ?_
    | refine EL.f (FV.extract rfl rfl) rfl rfl ?_
    | refine EL.f (FV.len rfl rfl) rfl rfl ?_
    | refine EL.f (FV.lenS rfl rfl) rfl rfl ?_
    | refine EL.f (FV.not rfl) rfl rfl ?_
    | refine EL.skip rfl rfl ?_
    | refine EL.f (FV.pickT rfl rfl) rfl rfl ?_
    | refine EL.f (FV.pickF rfl rfl) rfl rfl ?_
    | refine EL.fT (FV.lss rfl rfl) rfl (fun _ => rfl) (by omega) ?_
    | refine EL.fT (FV.leq rfl rfl) rfl (fun _ => rfl) (by omega) ?_
    | refine EL.fT (FV.gtr rfl rfl) rfl (fun _ => rfl) (by omega) ?_
    | refine EL.fT (FV.geq rfl rfl) rfl (fun _ => rfl) (by omega) ?_
    | refine EL.fT (FV.eql rfl rfl) rfl (fun _ => rfl) (by omega) ?_
    | refine EL.fT (FV.neq rfl rfl) rfl (fun _ => rfl) (by omega) ?_
    | refine EL.fF (FV.lss rfl rfl) rfl (fun _ => rfl) (by omega) ?_
    | refine EL.fF (FV.leq rfl rfl) rfl (fun _ => rfl) (by omega) ?_
    | refine EL.fF (FV.gtr rfl rfl) rfl (fun _ => rfl) (by omega) ?_
    | refine EL.fF (FV.geq rfl rfl) rfl (fun _ => rfl) (by omega) ?_
    | refine EL.fF (FV.eql rfl rfl) rfl (fun _ => rfl) (by omega) ?_
    | refine EL.fF (FV.neq rfl rfl) rfl (fun _ => rfl) (by omega) ?_
    | refine EL.f (FV.rem rfl rfl (by decide)) rfl rfl ?_
    | refine EL.f (FV.idx0 rfl rfl rfl rfl (by omega) (by omega)) rfl rfl ?_
    | refine EL.f (FV.idx1 rfl rfl rfl rfl (by omega) (by omega)) rfl rfl ?_
    | refine EL.f (FV.load1 rfl rfl rfl (by assumption)) rfl rfl ?_)
  refine EL.h (Hv.call (eqSame GA SA gc sc _ u6 (OwnI.rd gown) (sr.ext S6) hr) rfl) rfl (fun _ => rfl) ?_
  rintro _ u7 ⟨rfl, e7⟩
  have W7 := W6.trans e7
  have S7 := S6.trans e7
  replace xt0 := At.ext xt0 e7
  replace xt1 := At.ext xt1 e7
  replace gown := OwnI.ext gown e7
  repeat' (first
    | refine EW.seq ?_
    | refine EL.f (FV.move rfl) rfl rfl ?_
    | refine EL.f (FV.assign rfl) rfl rfl ?_
    | refine EL.nil ?_
    | refine EW.region ?_
    | refine EW.block ?_
    | refine EW.skip ?_
    | refine EW.exit ?_
    | refine EW.ret ?_
    | refine EW.condT rfl ?_
    | refine EW.condF rfl ?_
    | refine EL.f (FV.addI rfl rfl (by omega)) rfl rfl ?_
    | refine EL.f (FV.subI rfl rfl (by omega)) rfl rfl ?_
    | refine EL.f (FV.remI rfl rfl (by decide) (by omega)) rfl rfl ?_
    | refine EL.f (FV.quoI rfl rfl (by decide) (by omega)) rfl rfl ?_
    | refine EL.f (FV.extract rfl rfl) rfl rfl ?_
    | refine EL.f (FV.len rfl rfl) rfl rfl ?_
    | refine EL.f (FV.lenS rfl rfl) rfl rfl ?_
    | refine EL.f (FV.not rfl) rfl rfl ?_
    | refine EL.skip rfl rfl ?_
    | refine EL.f (FV.pickT rfl rfl) rfl rfl ?_
    | refine EL.f (FV.pickF rfl rfl) rfl rfl ?_
    | refine EL.fT (FV.lss rfl rfl) rfl (fun _ => rfl) (by omega) ?_
    | refine EL.fT (FV.leq rfl rfl) rfl (fun _ => rfl) (by omega) ?_
    | refine EL.fT (FV.gtr rfl rfl) rfl (fun _ => rfl) (by omega) ?_
    | refine EL.fT (FV.geq rfl rfl) rfl (fun _ => rfl) (by omega) ?_
    | refine EL.fT (FV.eql rfl rfl) rfl (fun _ => rfl) (by omega) ?_
    | refine EL.fT (FV.neq rfl rfl) rfl (fun _ => rfl) (by omega) ?_
    | refine EL.fF (FV.lss rfl rfl) rfl (fun _ => rfl) (by omega) ?_
    | refine EL.fF (FV.leq rfl rfl) rfl (fun _ => rfl) (by omega) ?_
    | refine EL.fF (FV.gtr rfl rfl) rfl (fun _ => rfl) (by omega) ?_
    | refine EL.fF (FV.geq rfl rfl) rfl (fun _ => rfl) (by omega) ?_
    | refine EL.fF (FV.eql rfl rfl) rfl (fun _ => rfl) (by omega) ?_
    | refine EL.fF (FV.neq rfl rfl) rfl (fun _ => rfl) (by omega) ?_
    | refine EL.f (FV.rem rfl rfl (by decide)) rfl rfl ?_
    | refine EL.f (FV.idx0 rfl rfl rfl rfl (by omega) (by omega)) rfl rfl ?_
    | refine EL.f (FV.idx1 rfl rfl rfl rfl (by omega) (by omega)) rfl rfl ?_
    | refine EL.f (FV.load1 rfl rfl rfl (by assumption)) rfl rfl ?_)
  refine EL.h (Hv.call (toInts A0 c0 xs0 u7 (h0.ext W7) hn0) rfl) rfl (fun _ => rfl) ?_
  rintro _ u8 ⟨y0, rfl, yb0, yt0, e8⟩
  have W8 := W7.trans e8
  have S8 := S7.trans e8
  replace xt0 := At.ext xt0 e8
  replace xt1 := At.ext xt1 e8
  replace gown := OwnI.ext gown e8
  repeat' (first
    | refine EW.seq ?_
    | refine EL.f (FV.move rfl) rfl rfl ?_
    | refine EL.f (FV.assign rfl) rfl rfl ?_
    | refine EL.nil ?_
    | refine EW.region ?_
    | refine EW.block ?_
    | refine EW.skip ?_
    | refine EW.exit ?_
    | refine EW.ret ?_
    | refine EW.condT rfl ?_
    | refine EW.condF rfl ?_
    | refine EL.f (FV.addI rfl rfl (by omega)) rfl rfl ?_
    | refine EL.f (FV.subI rfl rfl (by omega)) rfl rfl ?_
    | refine EL.f (FV.remI rfl rfl (by decide) (by omega)) rfl rfl ?_
    | refine EL.f (FV.quoI rfl rfl (by decide) (by omega)) rfl rfl ?_
    | refine EL.f (FV.extract rfl rfl) rfl rfl ?_
    | refine EL.f (FV.len rfl rfl) rfl rfl ?_
    | refine EL.f (FV.lenS rfl rfl) rfl rfl ?_
    | refine EL.f (FV.not rfl) rfl rfl ?_
    | refine EL.skip rfl rfl ?_
    | refine EL.f (FV.pickT rfl rfl) rfl rfl ?_
    | refine EL.f (FV.pickF rfl rfl) rfl rfl ?_
    | refine EL.fT (FV.lss rfl rfl) rfl (fun _ => rfl) (by omega) ?_
    | refine EL.fT (FV.leq rfl rfl) rfl (fun _ => rfl) (by omega) ?_
    | refine EL.fT (FV.gtr rfl rfl) rfl (fun _ => rfl) (by omega) ?_
    | refine EL.fT (FV.geq rfl rfl) rfl (fun _ => rfl) (by omega) ?_
    | refine EL.fT (FV.eql rfl rfl) rfl (fun _ => rfl) (by omega) ?_
    | refine EL.fT (FV.neq rfl rfl) rfl (fun _ => rfl) (by omega) ?_
    | refine EL.fF (FV.lss rfl rfl) rfl (fun _ => rfl) (by omega) ?_
    | refine EL.fF (FV.leq rfl rfl) rfl (fun _ => rfl) (by omega) ?_
    | refine EL.fF (FV.gtr rfl rfl) rfl (fun _ => rfl) (by omega) ?_
    | refine EL.fF (FV.geq rfl rfl) rfl (fun _ => rfl) (by omega) ?_
    | refine EL.fF (FV.eql rfl rfl) rfl (fun _ => rfl) (by omega) ?_
    | refine EL.fF (FV.neq rfl rfl) rfl (fun _ => rfl) (by omega) ?_
    | refine EL.f (FV.rem rfl rfl (by decide)) rfl rfl ?_
    | refine EL.f (FV.idx0 rfl rfl rfl rfl (by omega) (by omega)) rfl rfl ?_
    | refine EL.f (FV.idx1 rfl rfl rfl rfl (by omega) (by omega)) rfl rfl ?_
    | refine EL.f (FV.load1 rfl rfl rfl (by assumption)) rfl rfl ?_)
  refine EL.h (Hv.call (eqSame (some ⟨x0, 0, none⟩) (some ⟨y0, 0, none⟩) _ _ xs0 u8 (At.rd xt0) (At.rd yt0) hn0) rfl) rfl (fun _ => rfl) ?_
  rintro _ u9 ⟨rfl, e9⟩
  have W9 := W8.trans e9
  have S9 := S8.trans e9
  replace xt0 := At.ext xt0 e9
  replace xt1 := At.ext xt1 e9
  replace gown := OwnI.ext gown e9
  repeat' (first
    | refine EW.seq ?_
    | refine EL.f (FV.move rfl) rfl rfl ?_
    | refine EL.f (FV.assign rfl) rfl rfl ?_
    | refine EL.nil ?_
    | refine EW.region ?_
    | refine EW.block ?_
    | refine EW.skip ?_
    | refine EW.exit ?_
    | refine EW.ret ?_
    | refine EW.condT rfl ?_
    | refine EW.condF rfl ?_
    | refine EL.f (FV.addI rfl rfl (by omega)) rfl rfl ?_
    | refine EL.f (FV.subI rfl rfl (by omega)) rfl rfl ?_
    | refine EL.f (FV.remI rfl rfl (by decide) (by omega)) rfl rfl ?_
    | refine EL.f (FV.quoI rfl rfl (by decide) (by omega)) rfl rfl ?_
    | refine EL.f (FV.extract rfl rfl) rfl rfl ?_
    | refine EL.f (FV.len rfl rfl) rfl rfl ?_
    | refine EL.f (FV.lenS rfl rfl) rfl rfl ?_
    | refine EL.f (FV.not rfl) rfl rfl ?_
    | refine EL.skip rfl rfl ?_
    | refine EL.f (FV.pickT rfl rfl) rfl rfl ?_
    | refine EL.f (FV.pickF rfl rfl) rfl rfl ?_
    | refine EL.fT (FV.lss rfl rfl) rfl (fun _ => rfl) (by omega) ?_
    | refine EL.fT (FV.leq rfl rfl) rfl (fun _ => rfl) (by omega) ?_
    | refine EL.fT (FV.gtr rfl rfl) rfl (fun _ => rfl) (by omega) ?_
    | refine EL.fT (FV.geq rfl rfl) rfl (fun _ => rfl) (by omega) ?_
    | refine EL.fT (FV.eql rfl rfl) rfl (fun _ => rfl) (by omega) ?_
    | refine EL.fT (FV.neq rfl rfl) rfl (fun _ => rfl) (by omega) ?_
    | refine EL.fF (FV.lss rfl rfl) rfl (fun _ => rfl) (by omega) ?_
    | refine EL.fF (FV.leq rfl rfl) rfl (fun _ => rfl) (by omega) ?_
    | refine EL.fF (FV.gtr rfl rfl) rfl (fun _ => rfl) (by omega) ?_
    | refine EL.fF (FV.geq rfl rfl) rfl (fun _ => rfl) (by omega) ?_
    | refine EL.fF (FV.eql rfl rfl) rfl (fun _ => rfl) (by omega) ?_
    | refine EL.fF (FV.neq rfl rfl) rfl (fun _ => rfl) (by omega) ?_
    | refine EL.f (FV.rem rfl rfl (by decide)) rfl rfl ?_
    | refine EL.f (FV.idx0 rfl rfl rfl rfl (by omega) (by omega)) rfl rfl ?_
    | refine EL.f (FV.idx1 rfl rfl rfl rfl (by omega) (by omega)) rfl rfl ?_
    | refine EL.f (FV.load1 rfl rfl rfl (by assumption)) rfl rfl ?_)
  refine EL.h (Hv.call (toInts A1 c1 xs1 u9 (h1.ext W9) hn1) rfl) rfl (fun _ => rfl) ?_
  rintro _ u10 ⟨y1, rfl, yb1, yt1, e10⟩
  have W10 := W9.trans e10
  have S10 := S9.trans e10
  replace xt0 := At.ext xt0 e10
  replace xt1 := At.ext xt1 e10
  replace gown := OwnI.ext gown e10
  repeat' (first
    | refine EW.seq ?_
    | refine EL.f (FV.move rfl) rfl rfl ?_
    | refine EL.f (FV.assign rfl) rfl rfl ?_
    | refine EL.nil ?_
    | refine EW.region ?_
    | refine EW.block ?_
    | refine EW.skip ?_
    | refine EW.exit ?_
    | refine EW.ret ?_
    | refine EW.condT rfl ?_
    | refine EW.condF rfl ?_
    | refine EL.f (FV.addI rfl rfl (by omega)) rfl rfl ?_
    | refine EL.f (FV.subI rfl rfl (by omega)) rfl rfl ?_
    | refine EL.f (FV.remI rfl rfl (by decide) (by omega)) rfl rfl ?_
    | refine EL.f (FV.quoI rfl rfl (by decide) (by omega)) rfl rfl ?_
    | refine EL.f (FV.extract rfl rfl) rfl rfl ?_
    | refine EL.f (FV.len rfl rfl) rfl rfl ?_
    | refine EL.f (FV.lenS rfl rfl) rfl rfl ?_
    | refine EL.f (FV.not rfl) rfl rfl ?_
    | refine EL.skip rfl rfl ?_
    | refine EL.f (FV.pickT rfl rfl) rfl rfl ?_
    | refine EL.f (FV.pickF rfl rfl) rfl rfl ?_
    | refine EL.fT (FV.lss rfl rfl) rfl (fun _ => rfl) (by omega) ?_
    | refine EL.fT (FV.leq rfl rfl) rfl (fun _ => rfl) (by omega) ?_
    | refine EL.fT (FV.gtr rfl rfl) rfl (fun _ => rfl) (by omega) ?_
    | refine EL.fT (FV.geq rfl rfl) rfl (fun _ => rfl) (by omega) ?_
    | refine EL.fT (FV.eql rfl rfl) rfl (fun _ => rfl) (by omega) ?_
    | refine EL.fT (FV.neq rfl rfl) rfl (fun _ => rfl) (by omega) ?_
    | refine EL.fF (FV.lss rfl rfl) rfl (fun _ => rfl) (by omega) ?_
    | refine EL.fF (FV.leq rfl rfl) rfl (fun _ => rfl) (by omega) ?_
    | refine EL.fF (FV.gtr rfl rfl) rfl (fun _ => rfl) (by omega) ?_
    | refine EL.fF (FV.geq rfl rfl) rfl (fun _ => rfl) (by omega) ?_
    | refine EL.fF (FV.eql rfl rfl) rfl (fun _ => rfl) (by omega) ?_
    | refine EL.fF (FV.neq rfl rfl) rfl (fun _ => rfl) (by omega) ?_
    | refine EL.f (FV.rem rfl rfl (by decide)) rfl rfl ?_
    | refine EL.f (FV.idx0 rfl rfl rfl rfl (by omega) (by omega)) rfl rfl ?_
    | refine EL.f (FV.idx1 rfl rfl rfl rfl (by omega) (by omega)) rfl rfl ?_
    | refine EL.f (FV.load1 rfl rfl rfl (by assumption)) rfl rfl ?_)
  refine EL.h (Hv.call (eqSame (some ⟨x1, 0, none⟩) (some ⟨y1, 0, none⟩) _ _ xs1 u10 (At.rd xt1) (At.rd yt1) hn1) rfl) rfl (fun _ => rfl) ?_
  rintro _ u11 ⟨rfl, e11⟩
  have W11 := W10.trans e11
  have S11 := S10.trans e11
  replace xt0 := At.ext xt0 e11
  replace xt1 := At.ext xt1 e11
  replace gown := OwnI.ext gown e11
  repeat' (first
    | refine EW.seq ?_
    | refine EL.f (FV.move rfl) rfl rfl ?_
    | refine EL.f (FV.assign rfl) rfl rfl ?_
    | refine EL.nil ?_
    | refine EW.region ?_
    | refine EW.block ?_
    | refine EW.skip ?_
    | refine EW.exit ?_
    | refine EW.ret ?_
    | refine EW.condT rfl ?_
    | refine EW.condF rfl ?_
    | refine EL.f (FV.addI rfl rfl (by omega)) rfl rfl ?_
    | refine EL.f (FV.subI rfl rfl (by omega)) rfl rfl ?_
    | refine EL.f (FV.remI rfl rfl (by decide) (by omega)) rfl rfl ?_
    | refine EL.f (FV.quoI rfl rfl (by decide) (by omega)) rfl rfl ?_
    | refine EL.f (FV.extract rfl rfl) rfl rfl ?_
    | refine EL.f (FV.len rfl rfl) rfl rfl ?_
    | refine EL.f (FV.lenS rfl rfl) rfl rfl ?_
    | refine EL.f (FV.not rfl) rfl rfl ?_
    | refine EL.skip rfl rfl ?_
    | refine EL.f (FV.pickT rfl rfl) rfl rfl ?_
    | refine EL.f (FV.pickF rfl rfl) rfl rfl ?_
    | refine EL.fT (FV.lss rfl rfl) rfl (fun _ => rfl) (by omega) ?_
    | refine EL.fT (FV.leq rfl rfl) rfl (fun _ => rfl) (by omega) ?_
    | refine EL.fT (FV.gtr rfl rfl) rfl (fun _ => rfl) (by omega) ?_
    | refine EL.fT (FV.geq rfl rfl) rfl (fun _ => rfl) (by omega) ?_
    | refine EL.fT (FV.eql rfl rfl) rfl (fun _ => rfl) (by omega) ?_
    | refine EL.fT (FV.neq rfl rfl) rfl (fun _ => rfl) (by omega) ?_
    | refine EL.fF (FV.lss rfl rfl) rfl (fun _ => rfl) (by omega) ?_
    | refine EL.fF (FV.leq rfl rfl) rfl (fun _ => rfl) (by omega) ?_
    | refine EL.fF (FV.gtr rfl rfl) rfl (fun _ => rfl) (by omega) ?_
    | refine EL.fF (FV.geq rfl rfl) rfl (fun _ => rfl) (by omega) ?_
    | refine EL.fF (FV.eql rfl rfl) rfl (fun _ => rfl) (by omega) ?_
    | refine EL.fF (FV.neq rfl rfl) rfl (fun _ => rfl) (by omega) ?_
    | refine EL.f (FV.rem rfl rfl (by decide)) rfl rfl ?_
    | refine EL.f (FV.idx0 rfl rfl rfl rfl (by omega) (by omega)) rfl rfl ?_
    | refine EL.f (FV.idx1 rfl rfl rfl rfl (by omega) (by omega)) rfl rfl ?_
    | refine EL.f (FV.load1 rfl rfl rfl (by assumption)) rfl rfl ?_)
  refine EL.h (Hv.call (markInts _ x0 xs0 (1) u11 (AtI.own (B := x0) xt0 (Nat.le_refl _)) hn0 (by omega)) rfl) rfl (fun _ => rfl) ?_
  rintro _ u12 ⟨rfl, _, gr0⟩
  have W12 := Ext.mark (g := x0) W11 gr0 (by have := xs_0; have := W3.size; omega)
  have S12 := Ext.mark (g := x0) S11 gr0 xs_0
  replace gown := OwnI.keep (g := x0) gown gr0 xg0
  replace xt1 := At.kept (row := some x0) xt1 gr0 (by have := xl0; have := xb1;  simp; omega)
  repeat' (first
    | refine EW.seq ?_
    | refine EL.f (FV.move rfl) rfl rfl ?_
    | refine EL.f (FV.assign rfl) rfl rfl ?_
    | refine EL.nil ?_
    | refine EW.region ?_
    | refine EW.block ?_
    | refine EW.skip ?_
    | refine EW.exit ?_
    | refine EW.ret ?_
    | refine EW.condT rfl ?_
    | refine EW.condF rfl ?_
    | refine EL.f (FV.addI rfl rfl (by omega)) rfl rfl ?_
    | refine EL.f (FV.subI rfl rfl (by omega)) rfl rfl ?_
    | refine EL.f (FV.remI rfl rfl (by decide) (by omega)) rfl rfl ?_
    | refine EL.f (FV.quoI rfl rfl (by decide) (by omega)) rfl rfl ?_
    | refine EL.f (FV.extract rfl rfl) rfl rfl ?_
    | refine EL.f (FV.len rfl rfl) rfl rfl ?_
    | refine EL.f (FV.lenS rfl rfl) rfl rfl ?_
    | refine EL.f (FV.not rfl) rfl rfl ?_
    | refine EL.skip rfl rfl ?_
    | refine EL.f (FV.pickT rfl rfl) rfl rfl ?_
    | refine EL.f (FV.pickF rfl rfl) rfl rfl ?_
    | refine EL.fT (FV.lss rfl rfl) rfl (fun _ => rfl) (by omega) ?_
    | refine EL.fT (FV.leq rfl rfl) rfl (fun _ => rfl) (by omega) ?_
    | refine EL.fT (FV.gtr rfl rfl) rfl (fun _ => rfl) (by omega) ?_
    | refine EL.fT (FV.geq rfl rfl) rfl (fun _ => rfl) (by omega) ?_
    | refine EL.fT (FV.eql rfl rfl) rfl (fun _ => rfl) (by omega) ?_
    | refine EL.fT (FV.neq rfl rfl) rfl (fun _ => rfl) (by omega) ?_
    | refine EL.fF (FV.lss rfl rfl) rfl (fun _ => rfl) (by omega) ?_
    | refine EL.fF (FV.leq rfl rfl) rfl (fun _ => rfl) (by omega) ?_
    | refine EL.fF (FV.gtr rfl rfl) rfl (fun _ => rfl) (by omega) ?_
    | refine EL.fF (FV.geq rfl rfl) rfl (fun _ => rfl) (by omega) ?_
    | refine EL.fF (FV.eql rfl rfl) rfl (fun _ => rfl) (by omega) ?_
    | refine EL.fF (FV.neq rfl rfl) rfl (fun _ => rfl) (by omega) ?_
    | refine EL.f (FV.rem rfl rfl (by decide)) rfl rfl ?_
    | refine EL.f (FV.idx0 rfl rfl rfl rfl (by omega) (by omega)) rfl rfl ?_
    | refine EL.f (FV.idx1 rfl rfl rfl rfl (by omega) (by omega)) rfl rfl ?_
    | refine EL.f (FV.load1 rfl rfl rfl (by assumption)) rfl rfl ?_)
  refine EL.h (Hv.call (markInts _ x1 xs1 (1 + xs0.length) u12 (AtI.own (B := x1) xt1 (Nat.le_refl _)) hn1 (by omega)) rfl) rfl (fun _ => rfl) ?_
  rintro _ u13 ⟨rfl, _, gr1⟩
  have W13 := Ext.mark (g := x1) W12 gr1 (by have := xs_1; have := W3.size; omega)
  have S13 := Ext.mark (g := x1) S12 gr1 xs_1
  replace gown := OwnI.keep (g := x1) gown gr1 xg1
  repeat' (first
    | refine EW.seq ?_
    | refine EL.f (FV.move rfl) rfl rfl ?_
    | refine EL.f (FV.assign rfl) rfl rfl ?_
    | refine EL.nil ?_
    | refine EW.region ?_
    | refine EW.block ?_
    | refine EW.skip ?_
    | refine EW.exit ?_
    | refine EW.ret ?_
    | refine EW.condT rfl ?_
    | refine EW.condF rfl ?_
    | refine EL.f (FV.addI rfl rfl (by omega)) rfl rfl ?_
    | refine EL.f (FV.subI rfl rfl (by omega)) rfl rfl ?_
    | refine EL.f (FV.remI rfl rfl (by decide) (by omega)) rfl rfl ?_
    | refine EL.f (FV.quoI rfl rfl (by decide) (by omega)) rfl rfl ?_
    | refine EL.f (FV.extract rfl rfl) rfl rfl ?_
    | refine EL.f (FV.len rfl rfl) rfl rfl ?_
    | refine EL.f (FV.lenS rfl rfl) rfl rfl ?_
    | refine EL.f (FV.not rfl) rfl rfl ?_
    | refine EL.skip rfl rfl ?_
    | refine EL.f (FV.pickT rfl rfl) rfl rfl ?_
    | refine EL.f (FV.pickF rfl rfl) rfl rfl ?_
    | refine EL.fT (FV.lss rfl rfl) rfl (fun _ => rfl) (by omega) ?_
    | refine EL.fT (FV.leq rfl rfl) rfl (fun _ => rfl) (by omega) ?_
    | refine EL.fT (FV.gtr rfl rfl) rfl (fun _ => rfl) (by omega) ?_
    | refine EL.fT (FV.geq rfl rfl) rfl (fun _ => rfl) (by omega) ?_
    | refine EL.fT (FV.eql rfl rfl) rfl (fun _ => rfl) (by omega) ?_
    | refine EL.fT (FV.neq rfl rfl) rfl (fun _ => rfl) (by omega) ?_
    | refine EL.fF (FV.lss rfl rfl) rfl (fun _ => rfl) (by omega) ?_
    | refine EL.fF (FV.leq rfl rfl) rfl (fun _ => rfl) (by omega) ?_
    | refine EL.fF (FV.gtr rfl rfl) rfl (fun _ => rfl) (by omega) ?_
    | refine EL.fF (FV.geq rfl rfl) rfl (fun _ => rfl) (by omega) ?_
    | refine EL.fF (FV.eql rfl rfl) rfl (fun _ => rfl) (by omega) ?_
    | refine EL.fF (FV.neq rfl rfl) rfl (fun _ => rfl) (by omega) ?_
    | refine EL.f (FV.rem rfl rfl (by decide)) rfl rfl ?_
    | refine EL.f (FV.idx0 rfl rfl rfl rfl (by omega) (by omega)) rfl rfl ?_
    | refine EL.f (FV.idx1 rfl rfl rfl rfl (by omega) (by omega)) rfl rfl ?_
    | refine EL.f (FV.load1 rfl rfl rfl (by assumption)) rfl rfl ?_)
  refine EL.h (Hv.call (eqSame GA SA gc sc _ u13 (OwnI.rd gown) (sr.ext S13) hr) rfl) rfl (fun _ => rfl) ?_
  rintro _ u14 ⟨rfl, e14⟩
  have W14 := W13.trans e14
  have S14 := S13.trans e14
  replace gown := OwnI.ext gown e14
  repeat' (first
    | refine EW.seq ?_
    | refine EL.f (FV.move rfl) rfl rfl ?_
    | refine EL.f (FV.assign rfl) rfl rfl ?_
    | refine EL.nil ?_
    | refine EW.region ?_
    | refine EW.block ?_
    | refine EW.skip ?_
    | refine EW.exit ?_
    | refine EW.ret ?_
    | refine EW.condT rfl ?_
    | refine EW.condF rfl ?_
    | refine EL.f (FV.addI rfl rfl (by omega)) rfl rfl ?_
    | refine EL.f (FV.subI rfl rfl (by omega)) rfl rfl ?_
    | refine EL.f (FV.remI rfl rfl (by decide) (by omega)) rfl rfl ?_
    | refine EL.f (FV.quoI rfl rfl (by decide) (by omega)) rfl rfl ?_
    | refine EL.f (FV.extract rfl rfl) rfl rfl ?_
    | refine EL.f (FV.len rfl rfl) rfl rfl ?_
    | refine EL.f (FV.lenS rfl rfl) rfl rfl ?_
    | refine EL.f (FV.not rfl) rfl rfl ?_
    | refine EL.skip rfl rfl ?_
    | refine EL.f (FV.pickT rfl rfl) rfl rfl ?_
    | refine EL.f (FV.pickF rfl rfl) rfl rfl ?_
    | refine EL.fT (FV.lss rfl rfl) rfl (fun _ => rfl) (by omega) ?_
    | refine EL.fT (FV.leq rfl rfl) rfl (fun _ => rfl) (by omega) ?_
    | refine EL.fT (FV.gtr rfl rfl) rfl (fun _ => rfl) (by omega) ?_
    | refine EL.fT (FV.geq rfl rfl) rfl (fun _ => rfl) (by omega) ?_
    | refine EL.fT (FV.eql rfl rfl) rfl (fun _ => rfl) (by omega) ?_
    | refine EL.fT (FV.neq rfl rfl) rfl (fun _ => rfl) (by omega) ?_
    | refine EL.fF (FV.lss rfl rfl) rfl (fun _ => rfl) (by omega) ?_
    | refine EL.fF (FV.leq rfl rfl) rfl (fun _ => rfl) (by omega) ?_
    | refine EL.fF (FV.gtr rfl rfl) rfl (fun _ => rfl) (by omega) ?_
    | refine EL.fF (FV.geq rfl rfl) rfl (fun _ => rfl) (by omega) ?_
    | refine EL.fF (FV.eql rfl rfl) rfl (fun _ => rfl) (by omega) ?_
    | refine EL.fF (FV.neq rfl rfl) rfl (fun _ => rfl) (by omega) ?_
    | refine EL.f (FV.rem rfl rfl (by decide)) rfl rfl ?_
    | refine EL.f (FV.idx0 rfl rfl rfl rfl (by omega) (by omega)) rfl rfl ?_
    | refine EL.f (FV.idx1 rfl rfl rfl rfl (by omega) (by omega)) rfl rfl ?_
    | refine EL.f (FV.load1 rfl rfl rfl (by assumption)) rfl rfl ?_)
  refine EL.h (Hv.call (markInts _ u5.heap.size _ 1 u14 gown hr (by omega)) rfl) rfl (fun _ => rfl) ?_
  rintro _ u15 ⟨rfl, gmk, grg⟩
  have W15 := Ext.markO W14 gown grg (by have := ug; have := W3.size; omega)
  have S15 := Ext.markO S14 gown grg ug
  replace gown := gmk
  repeat' (first
    | refine EW.seq ?_
    | refine EL.f (FV.move rfl) rfl rfl ?_
    | refine EL.f (FV.assign rfl) rfl rfl ?_
    | refine EL.nil ?_
    | refine EW.region ?_
    | refine EW.block ?_
    | refine EW.skip ?_
    | refine EW.exit ?_
    | refine EW.ret ?_
    | refine EW.condT rfl ?_
    | refine EW.condF rfl ?_
    | refine EL.f (FV.addI rfl rfl (by omega)) rfl rfl ?_
    | refine EL.f (FV.subI rfl rfl (by omega)) rfl rfl ?_
    | refine EL.f (FV.remI rfl rfl (by decide) (by omega)) rfl rfl ?_
    | refine EL.f (FV.quoI rfl rfl (by decide) (by omega)) rfl rfl ?_
    | refine EL.f (FV.extract rfl rfl) rfl rfl ?_
    | refine EL.f (FV.len rfl rfl) rfl rfl ?_
    | refine EL.f (FV.lenS rfl rfl) rfl rfl ?_
    | refine EL.f (FV.not rfl) rfl rfl ?_
    | refine EL.skip rfl rfl ?_
    | refine EL.f (FV.pickT rfl rfl) rfl rfl ?_
    | refine EL.f (FV.pickF rfl rfl) rfl rfl ?_
    | refine EL.fT (FV.lss rfl rfl) rfl (fun _ => rfl) (by omega) ?_
    | refine EL.fT (FV.leq rfl rfl) rfl (fun _ => rfl) (by omega) ?_
    | refine EL.fT (FV.gtr rfl rfl) rfl (fun _ => rfl) (by omega) ?_
    | refine EL.fT (FV.geq rfl rfl) rfl (fun _ => rfl) (by omega) ?_
    | refine EL.fT (FV.eql rfl rfl) rfl (fun _ => rfl) (by omega) ?_
    | refine EL.fT (FV.neq rfl rfl) rfl (fun _ => rfl) (by omega) ?_
    | refine EL.fF (FV.lss rfl rfl) rfl (fun _ => rfl) (by omega) ?_
    | refine EL.fF (FV.leq rfl rfl) rfl (fun _ => rfl) (by omega) ?_
    | refine EL.fF (FV.gtr rfl rfl) rfl (fun _ => rfl) (by omega) ?_
    | refine EL.fF (FV.geq rfl rfl) rfl (fun _ => rfl) (by omega) ?_
    | refine EL.fF (FV.eql rfl rfl) rfl (fun _ => rfl) (by omega) ?_
    | refine EL.fF (FV.neq rfl rfl) rfl (fun _ => rfl) (by omega) ?_
    | refine EL.f (FV.rem rfl rfl (by decide)) rfl rfl ?_
    | refine EL.f (FV.idx0 rfl rfl rfl rfl (by omega) (by omega)) rfl rfl ?_
    | refine EL.f (FV.idx1 rfl rfl rfl rfl (by omega) (by omega)) rfl rfl ?_
    | refine EL.f (FV.load1 rfl rfl rfl (by assumption)) rfl rfl ?_)
  refine EL.h (Hv.call (heldInts GA gc _ 1 u15 (OwnI.rd gown) hr (by omega)) rfl) rfl (fun _ => rfl) ?_
  rintro _ _ ⟨rfl, rfl⟩
  repeat' (first
    | refine EW.seq ?_
    | refine EL.f (FV.move rfl) rfl rfl ?_
    | refine EL.f (FV.assign rfl) rfl rfl ?_
    | refine EL.nil ?_
    | refine EW.region ?_
    | refine EW.block ?_
    | refine EW.skip ?_
    | refine EW.exit ?_
    | refine EW.ret ?_
    | refine EW.condT rfl ?_
    | refine EW.condF rfl ?_
    | refine EL.f (FV.addI rfl rfl (by omega)) rfl rfl ?_
    | refine EL.f (FV.subI rfl rfl (by omega)) rfl rfl ?_
    | refine EL.f (FV.remI rfl rfl (by decide) (by omega)) rfl rfl ?_
    | refine EL.f (FV.quoI rfl rfl (by decide) (by omega)) rfl rfl ?_
    | refine EL.f (FV.extract rfl rfl) rfl rfl ?_
    | refine EL.f (FV.len rfl rfl) rfl rfl ?_
    | refine EL.f (FV.lenS rfl rfl) rfl rfl ?_
    | refine EL.f (FV.not rfl) rfl rfl ?_
    | refine EL.skip rfl rfl ?_
    | refine EL.f (FV.pickT rfl rfl) rfl rfl ?_
    | refine EL.f (FV.pickF rfl rfl) rfl rfl ?_
    | refine EL.fT (FV.lss rfl rfl) rfl (fun _ => rfl) (by omega) ?_
    | refine EL.fT (FV.leq rfl rfl) rfl (fun _ => rfl) (by omega) ?_
    | refine EL.fT (FV.gtr rfl rfl) rfl (fun _ => rfl) (by omega) ?_
    | refine EL.fT (FV.geq rfl rfl) rfl (fun _ => rfl) (by omega) ?_
    | refine EL.fT (FV.eql rfl rfl) rfl (fun _ => rfl) (by omega) ?_
    | refine EL.fT (FV.neq rfl rfl) rfl (fun _ => rfl) (by omega) ?_
    | refine EL.fF (FV.lss rfl rfl) rfl (fun _ => rfl) (by omega) ?_
    | refine EL.fF (FV.leq rfl rfl) rfl (fun _ => rfl) (by omega) ?_
    | refine EL.fF (FV.gtr rfl rfl) rfl (fun _ => rfl) (by omega) ?_
    | refine EL.fF (FV.geq rfl rfl) rfl (fun _ => rfl) (by omega) ?_
    | refine EL.fF (FV.eql rfl rfl) rfl (fun _ => rfl) (by omega) ?_
    | refine EL.fF (FV.neq rfl rfl) rfl (fun _ => rfl) (by omega) ?_
    | refine EL.f (FV.rem rfl rfl (by decide)) rfl rfl ?_
    | refine EL.f (FV.idx0 rfl rfl rfl rfl (by omega) (by omega)) rfl rfl ?_
    | refine EL.f (FV.idx1 rfl rfl rfl rfl (by omega) (by omega)) rfl rfl ?_
    | refine EL.f (FV.load1 rfl rfl rfl (by assumption)) rfl rfl ?_)
  refine EL.h (Hv.call (toInts A0 c0 xs0 u15 (h0.ext W15) hn0) rfl) rfl (fun _ => rfl) ?_
  rintro _ u16 ⟨z0, rfl, zb0, zt0, e16⟩
  have W16 := W15.trans e16
  have S16 := S15.trans e16
  replace gown := OwnI.ext gown e16
  repeat' (first
    | refine EW.seq ?_
    | refine EL.f (FV.move rfl) rfl rfl ?_
    | refine EL.f (FV.assign rfl) rfl rfl ?_
    | refine EL.nil ?_
    | refine EW.region ?_
    | refine EW.block ?_
    | refine EW.skip ?_
    | refine EW.exit ?_
    | refine EW.ret ?_
    | refine EW.condT rfl ?_
    | refine EW.condF rfl ?_
    | refine EL.f (FV.addI rfl rfl (by omega)) rfl rfl ?_
    | refine EL.f (FV.subI rfl rfl (by omega)) rfl rfl ?_
    | refine EL.f (FV.remI rfl rfl (by decide) (by omega)) rfl rfl ?_
    | refine EL.f (FV.quoI rfl rfl (by decide) (by omega)) rfl rfl ?_
    | refine EL.f (FV.extract rfl rfl) rfl rfl ?_
    | refine EL.f (FV.len rfl rfl) rfl rfl ?_
    | refine EL.f (FV.lenS rfl rfl) rfl rfl ?_
    | refine EL.f (FV.not rfl) rfl rfl ?_
    | refine EL.skip rfl rfl ?_
    | refine EL.f (FV.pickT rfl rfl) rfl rfl ?_
    | refine EL.f (FV.pickF rfl rfl) rfl rfl ?_
    | refine EL.fT (FV.lss rfl rfl) rfl (fun _ => rfl) (by omega) ?_
    | refine EL.fT (FV.leq rfl rfl) rfl (fun _ => rfl) (by omega) ?_
    | refine EL.fT (FV.gtr rfl rfl) rfl (fun _ => rfl) (by omega) ?_
    | refine EL.fT (FV.geq rfl rfl) rfl (fun _ => rfl) (by omega) ?_
    | refine EL.fT (FV.eql rfl rfl) rfl (fun _ => rfl) (by omega) ?_
    | refine EL.fT (FV.neq rfl rfl) rfl (fun _ => rfl) (by omega) ?_
    | refine EL.fF (FV.lss rfl rfl) rfl (fun _ => rfl) (by omega) ?_
    | refine EL.fF (FV.leq rfl rfl) rfl (fun _ => rfl) (by omega) ?_
    | refine EL.fF (FV.gtr rfl rfl) rfl (fun _ => rfl) (by omega) ?_
    | refine EL.fF (FV.geq rfl rfl) rfl (fun _ => rfl) (by omega) ?_
    | refine EL.fF (FV.eql rfl rfl) rfl (fun _ => rfl) (by omega) ?_
    | refine EL.fF (FV.neq rfl rfl) rfl (fun _ => rfl) (by omega) ?_
    | refine EL.f (FV.rem rfl rfl (by decide)) rfl rfl ?_
    | refine EL.f (FV.idx0 rfl rfl rfl rfl (by omega) (by omega)) rfl rfl ?_
    | refine EL.f (FV.idx1 rfl rfl rfl rfl (by omega) (by omega)) rfl rfl ?_
    | refine EL.f (FV.load1 rfl rfl rfl (by assumption)) rfl rfl ?_)
  refine EL.h (Hv.call (toInts A1 c1 xs1 u16 (h1.ext W16) hn1) rfl) rfl (fun _ => rfl) ?_
  rintro _ u17 ⟨z1, rfl, zb1, zt1, e17⟩
  have W17 := W16.trans e17
  replace zt0 := At.ext zt0 e17
  have S17 := S16.trans e17
  replace gown := OwnI.ext gown e17
  repeat' (first
    | refine EW.seq ?_
    | refine EL.f (FV.move rfl) rfl rfl ?_
    | refine EL.f (FV.assign rfl) rfl rfl ?_
    | refine EL.nil ?_
    | refine EW.region ?_
    | refine EW.block ?_
    | refine EW.skip ?_
    | refine EW.exit ?_
    | refine EW.ret ?_
    | refine EW.condT rfl ?_
    | refine EW.condF rfl ?_
    | refine EL.f (FV.addI rfl rfl (by omega)) rfl rfl ?_
    | refine EL.f (FV.subI rfl rfl (by omega)) rfl rfl ?_
    | refine EL.f (FV.remI rfl rfl (by decide) (by omega)) rfl rfl ?_
    | refine EL.f (FV.quoI rfl rfl (by decide) (by omega)) rfl rfl ?_
    | refine EL.f (FV.extract rfl rfl) rfl rfl ?_
    | refine EL.f (FV.len rfl rfl) rfl rfl ?_
    | refine EL.f (FV.lenS rfl rfl) rfl rfl ?_
    | refine EL.f (FV.not rfl) rfl rfl ?_
    | refine EL.skip rfl rfl ?_
    | refine EL.f (FV.pickT rfl rfl) rfl rfl ?_
    | refine EL.f (FV.pickF rfl rfl) rfl rfl ?_
    | refine EL.fT (FV.lss rfl rfl) rfl (fun _ => rfl) (by omega) ?_
    | refine EL.fT (FV.leq rfl rfl) rfl (fun _ => rfl) (by omega) ?_
    | refine EL.fT (FV.gtr rfl rfl) rfl (fun _ => rfl) (by omega) ?_
    | refine EL.fT (FV.geq rfl rfl) rfl (fun _ => rfl) (by omega) ?_
    | refine EL.fT (FV.eql rfl rfl) rfl (fun _ => rfl) (by omega) ?_
    | refine EL.fT (FV.neq rfl rfl) rfl (fun _ => rfl) (by omega) ?_
    | refine EL.fF (FV.lss rfl rfl) rfl (fun _ => rfl) (by omega) ?_
    | refine EL.fF (FV.leq rfl rfl) rfl (fun _ => rfl) (by omega) ?_
    | refine EL.fF (FV.gtr rfl rfl) rfl (fun _ => rfl) (by omega) ?_
    | refine EL.fF (FV.geq rfl rfl) rfl (fun _ => rfl) (by omega) ?_
    | refine EL.fF (FV.eql rfl rfl) rfl (fun _ => rfl) (by omega) ?_
    | refine EL.fF (FV.neq rfl rfl) rfl (fun _ => rfl) (by omega) ?_
    | refine EL.f (FV.rem rfl rfl (by decide)) rfl rfl ?_
    | refine EL.f (FV.idx0 rfl rfl rfl rfl (by omega) (by omega)) rfl rfl ?_
    | refine EL.f (FV.idx1 rfl rfl rfl rfl (by omega) (by omega)) rfl rfl ?_
    | refine EL.f (FV.load1 rfl rfl rfl (by assumption)) rfl rfl ?_)
  refine EL.h (Hv.call (implDivS (some ⟨z0, 0, none⟩) (some ⟨z1, 0, none⟩) _ _ xs0 xs1 u17 (At.rd zt0) (At.rd zt1) hn0 hn1) rfl) rfl (fun _ => rfl) ?_
  rintro _ u18 ⟨hv, rfl, hown, e18⟩
  have W18 := W17.trans e18
  have S18 := S17.trans e18
  replace gown := OwnI.ext gown e18
  obtain ⟨HA, hc, rfl, hrd⟩ := hown.form
  repeat' (first
    | refine EW.seq ?_
    | refine EL.f (FV.move rfl) rfl rfl ?_
    | refine EL.f (FV.assign rfl) rfl rfl ?_
    | refine EL.nil ?_
    | refine EW.region ?_
    | refine EW.block ?_
    | refine EW.skip ?_
    | refine EW.exit ?_
    | refine EW.ret ?_
    | refine EW.condT rfl ?_
    | refine EW.condF rfl ?_
    | refine EL.f (FV.addI rfl rfl (by omega)) rfl rfl ?_
    | refine EL.f (FV.subI rfl rfl (by omega)) rfl rfl ?_
    | refine EL.f (FV.remI rfl rfl (by decide) (by omega)) rfl rfl ?_
    | refine EL.f (FV.quoI rfl rfl (by decide) (by omega)) rfl rfl ?_
    | refine EL.f (FV.extract rfl rfl) rfl rfl ?_
    | refine EL.f (FV.len rfl rfl) rfl rfl ?_
    | refine EL.f (FV.lenS rfl rfl) rfl rfl ?_
    | refine EL.f (FV.not rfl) rfl rfl ?_
    | refine EL.skip rfl rfl ?_
    | refine EL.f (FV.pickT rfl rfl) rfl rfl ?_
    | refine EL.f (FV.pickF rfl rfl) rfl rfl ?_
    | refine EL.fT (FV.lss rfl rfl) rfl (fun _ => rfl) (by omega) ?_
    | refine EL.fT (FV.leq rfl rfl) rfl (fun _ => rfl) (by omega) ?_
    | refine EL.fT (FV.gtr rfl rfl) rfl (fun _ => rfl) (by omega) ?_
    | refine EL.fT (FV.geq rfl rfl) rfl (fun _ => rfl) (by omega) ?_
    | refine EL.fT (FV.eql rfl rfl) rfl (fun _ => rfl) (by omega) ?_
    | refine EL.fT (FV.neq rfl rfl) rfl (fun _ => rfl) (by omega) ?_
    | refine EL.fF (FV.lss rfl rfl) rfl (fun _ => rfl) (by omega) ?_
    | refine EL.fF (FV.leq rfl rfl) rfl (fun _ => rfl) (by omega) ?_
    | refine EL.fF (FV.gtr rfl rfl) rfl (fun _ => rfl) (by omega) ?_
    | refine EL.fF (FV.geq rfl rfl) rfl (fun _ => rfl) (by omega) ?_
    | refine EL.fF (FV.eql rfl rfl) rfl (fun _ => rfl) (by omega) ?_
    | refine EL.fF (FV.neq rfl rfl) rfl (fun _ => rfl) (by omega) ?_
    | refine EL.f (FV.rem rfl rfl (by decide)) rfl rfl ?_
    | refine EL.f (FV.idx0 rfl rfl rfl rfl (by omega) (by omega)) rfl rfl ?_
    | refine EL.f (FV.idx1 rfl rfl rfl rfl (by omega) (by omega)) rfl rfl ?_
    | refine EL.f (FV.load1 rfl rfl rfl (by assumption)) rfl rfl ?_)
  refine EL.h (Hv.call (eqSame HA SA hc sc _ u18 hrd (sr.ext S18) hr) rfl) rfl (fun _ => rfl) ?_
  rintro _ u19 ⟨rfl, e19⟩
  have W19 := W18.trans e19
  have S19 := S18.trans e19
  replace gown := OwnI.ext gown e19
  repeat' (first
    | refine EW.seq ?_
    | refine EL.f (FV.move rfl) rfl rfl ?_
    | refine EL.f (FV.assign rfl) rfl rfl ?_
    | refine EL.nil ?_
    | refine EW.region ?_
    | refine EW.block ?_
    | refine EW.skip ?_
    | refine EW.exit ?_
    | refine EW.ret ?_
    | refine EW.condT rfl ?_
    | refine EW.condF rfl ?_
    | refine EL.f (FV.addI rfl rfl (by omega)) rfl rfl ?_
    | refine EL.f (FV.subI rfl rfl (by omega)) rfl rfl ?_
    | refine EL.f (FV.remI rfl rfl (by decide) (by omega)) rfl rfl ?_
    | refine EL.f (FV.quoI rfl rfl (by decide) (by omega)) rfl rfl ?_
    | refine EL.f (FV.extract rfl rfl) rfl rfl ?_
    | refine EL.f (FV.len rfl rfl) rfl rfl ?_
    | refine EL.f (FV.lenS rfl rfl) rfl rfl ?_
    | refine EL.f (FV.not rfl) rfl rfl ?_
    | refine EL.skip rfl rfl ?_
    | refine EL.f (FV.pickT rfl rfl) rfl rfl ?_
    | refine EL.f (FV.pickF rfl rfl) rfl rfl ?_
    | refine EL.fT (FV.lss rfl rfl) rfl (fun _ => rfl) (by omega) ?_
    | refine EL.fT (FV.leq rfl rfl) rfl (fun _ => rfl) (by omega) ?_
    | refine EL.fT (FV.gtr rfl rfl) rfl (fun _ => rfl) (by omega) ?_
    | refine EL.fT (FV.geq rfl rfl) rfl (fun _ => rfl) (by omega) ?_
    | refine EL.fT (FV.eql rfl rfl) rfl (fun _ => rfl) (by omega) ?_
    | refine EL.fT (FV.neq rfl rfl) rfl (fun _ => rfl) (by omega) ?_
    | refine EL.fF (FV.lss rfl rfl) rfl (fun _ => rfl) (by omega) ?_
    | refine EL.fF (FV.leq rfl rfl) rfl (fun _ => rfl) (by omega) ?_
    | refine EL.fF (FV.gtr rfl rfl) rfl (fun _ => rfl) (by omega) ?_
    | refine EL.fF (FV.geq rfl rfl) rfl (fun _ => rfl) (by omega) ?_
    | refine EL.fF (FV.eql rfl rfl) rfl (fun _ => rfl) (by omega) ?_
    | refine EL.fF (FV.neq rfl rfl) rfl (fun _ => rfl) (by omega) ?_
    | refine EL.f (FV.rem rfl rfl (by decide)) rfl rfl ?_
    | refine EL.f (FV.idx0 rfl rfl rfl rfl (by omega) (by omega)) rfl rfl ?_
    | refine EL.f (FV.idx1 rfl rfl rfl rfl (by omega) (by omega)) rfl rfl ?_
    | refine EL.f (FV.load1 rfl rfl rfl (by assumption)) rfl rfl ?_)
  refine EL.h (Hv.call (heldInts GA gc _ 1 u19 (OwnI.rd gown) hr (by omega)) rfl) rfl (fun _ => rfl) ?_
  rintro _ _ ⟨rfl, rfl⟩
  repeat' (first
    | refine EW.seq ?_
    | refine EL.f (FV.move rfl) rfl rfl ?_
    | refine EL.f (FV.assign rfl) rfl rfl ?_
    | refine EL.nil ?_
    | refine EW.region ?_
    | refine EW.block ?_
    | refine EW.skip ?_
    | refine EW.exit ?_
    | refine EW.ret ?_
    | refine EW.condT rfl ?_
    | refine EW.condF rfl ?_
    | refine EL.f (FV.addI rfl rfl (by omega)) rfl rfl ?_
    | refine EL.f (FV.subI rfl rfl (by omega)) rfl rfl ?_
    | refine EL.f (FV.remI rfl rfl (by decide) (by omega)) rfl rfl ?_
    | refine EL.f (FV.quoI rfl rfl (by decide) (by omega)) rfl rfl ?_
    | refine EL.f (FV.extract rfl rfl) rfl rfl ?_
    | refine EL.f (FV.len rfl rfl) rfl rfl ?_
    | refine EL.f (FV.lenS rfl rfl) rfl rfl ?_
    | refine EL.f (FV.not rfl) rfl rfl ?_
    | refine EL.skip rfl rfl ?_
    | refine EL.f (FV.pickT rfl rfl) rfl rfl ?_
    | refine EL.f (FV.pickF rfl rfl) rfl rfl ?_
    | refine EL.fT (FV.lss rfl rfl) rfl (fun _ => rfl) (by omega) ?_
    | refine EL.fT (FV.leq rfl rfl) rfl (fun _ => rfl) (by omega) ?_
    | refine EL.fT (FV.gtr rfl rfl) rfl (fun _ => rfl) (by omega) ?_
    | refine EL.fT (FV.geq rfl rfl) rfl (fun _ => rfl) (by omega) ?_
    | refine EL.fT (FV.eql rfl rfl) rfl (fun _ => rfl) (by omega) ?_
    | refine EL.fT (FV.neq rfl rfl) rfl (fun _ => rfl) (by omega) ?_
    | refine EL.fF (FV.lss rfl rfl) rfl (fun _ => rfl) (by omega) ?_
    | refine EL.fF (FV.leq rfl rfl) rfl (fun _ => rfl) (by omega) ?_
    | refine EL.fF (FV.gtr rfl rfl) rfl (fun _ => rfl) (by omega) ?_
    | refine EL.fF (FV.geq rfl rfl) rfl (fun _ => rfl) (by omega) ?_
    | refine EL.fF (FV.eql rfl rfl) rfl (fun _ => rfl) (by omega) ?_
    | refine EL.fF (FV.neq rfl rfl) rfl (fun _ => rfl) (by omega) ?_
    | refine EL.f (FV.rem rfl rfl (by decide)) rfl rfl ?_
    | refine EL.f (FV.idx0 rfl rfl rfl rfl (by omega) (by omega)) rfl rfl ?_
    | refine EL.f (FV.idx1 rfl rfl rfl rfl (by omega) (by omega)) rfl rfl ?_
    | refine EL.f (FV.load1 rfl rfl rfl (by assumption)) rfl rfl ?_)
  exact ⟨_, rfl, rfl, W19⟩
end Eng
end Go.Proofs.Ytlhfcmcocbiafaa
