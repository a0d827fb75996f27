/- Values, derivatives, integrals, logarithms of series: contracts and laws. Conditions: as each says. -/
import Derived.Test.YtlhfcmcocbiafaaSer3
namespace Go.Proofs.Ytlhfcmcocbiafaa
open Go Go.RowKit
namespace Eng

/-! a value at a point -/
def hv (xs : List Int) (t : Int) : Nat → Int
  | 0 => 0
  | j + 1 => (hv xs t j * (t % 1000003) + xs.getD (xs.length - 1 - j) 0) % 1000003
theorem hv_bounds (xs : List Int) (t : Int) (j : Nat) : 0 ≤ hv xs t j ∧ hv xs t j < 1000003 := by
  cases j with
  | zero => simp [hv]
  | succ j => simp only [hv]; omega
theorem hv_step (v t x : Int) : (v * t % 1000003 + x) % 1000003 = (v * (t % 1000003) + x) % 1000003 := by
  have : v * (t % 1000003) % 1000003 = v * t % 1000003 := by rw [Int.mul_emod, Int.emod_emod, ← Int.mul_emod]
  omega
def valR (xs : List Int) (t : Int) : Value := if vld xs = true then .tuple #[.int .i64 (hv xs t xs.length), .int .i64 0] else .tuple #[.int .i64 0, .int .i64 1]
theorem specValue (A : Option Addr) (c : Nat) (xs : List Int) (t : Int) (w : World) (hx : Rd w A (ints xs)) (hn : xs.length ≤ 1000) :
    CallsR Try.prog 63 [.slice A xs.length c, .int .i64 t] w fun v w' => v = .int .i64 (hv xs t xs.length) ∧ Ext w w' := by
  refine CallsR.enter Try.func63 (by decide +kernel) rfl Try.ntmps63 rfl ?_
  repeat' (first
    | refine EW.seq ?_
    | refine EL.f (FV.move rfl) rfl rfl ?_
    | refine EL.f (FV.assign rfl) rfl rfl ?_
    | refine EL.nil ?_
    | refine EW.region ?_
    | refine EW.block ?_
    | refine EW.skip ?_
    | refine EW.exit ?_
    | refine EW.ret ?_
    | refine EW.condT rfl ?_
    | refine EW.condF rfl ?_
    | refine EL.f (FV.addI rfl rfl (by omega)) rfl rfl ?_
    | refine EL.f (FV.subI rfl rfl (by omega)) rfl rfl ?_
    | refine EL.f (FV.remI rfl rfl (by decide) (by omega)) rfl rfl ?_
    | refine EL.f (FV.quoI rfl rfl (by decide) (by omega)) rfl rfl ?_
    | refine EL.f (FV.extract rfl rfl) rfl rfl ?_
    | refine EL.f (FV.len rfl rfl) rfl rfl ?_
    | refine EL.f (FV.lenS rfl rfl) rfl rfl ?_
    | refine EL.f (FV.not rfl) rfl rfl ?_
    | refine EL.skip rfl rfl ?_
    | refine EL.f (FV.pickT rfl rfl) rfl rfl ?_
    | refine EL.f (FV.pickF rfl rfl) rfl rfl ?_
    | refine EL.fT (FV.lss rfl rfl) rfl (fun _ => rfl) (by omega) ?_
    | refine EL.fT (FV.leq rfl rfl) rfl (fun _ => rfl) (by omega) ?_
    | refine EL.fT (FV.gtr rfl rfl) rfl (fun _ => rfl) (by omega) ?_
    | refine EL.fT (FV.geq rfl rfl) rfl (fun _ => rfl) (by omega) ?_
    | refine EL.fT (FV.eql rfl rfl) rfl (fun _ => rfl) (by omega) ?_
    | refine EL.fT (FV.neq rfl rfl) rfl (fun _ => rfl) (by omega) ?_
    | refine EL.fF (FV.lss rfl rfl) rfl (fun _ => rfl) (by omega) ?_
    | refine EL.fF (FV.leq rfl rfl) rfl (fun _ => rfl) (by omega) ?_
    | refine EL.fF (FV.gtr rfl rfl) rfl (fun _ => rfl) (by omega) ?_
    | refine EL.fF (FV.geq rfl rfl) rfl (fun _ => rfl) (by omega) ?_
    | refine EL.fF (FV.eql rfl rfl) rfl (fun _ => rfl) (by omega) ?_
    | refine EL.fF (FV.neq rfl rfl) rfl (fun _ => rfl) (by omega) ?_
    | refine EL.f (FV.rem rfl rfl (by decide)) rfl rfl ?_
    | refine EL.f (FV.idx0 rfl rfl rfl rfl (by omega) (by omega)) rfl rfl ?_
    | refine EL.f (FV.idx1 rfl rfl rfl rfl (by omega) (by omega)) rfl rfl ?_
    | refine EL.f (FV.load1 rfl rfl rfl (by assumption)) rfl rfl ?_)
  refine EW.loop (fun j wr => j ≤ xs.length ∧ Ext w wr) (fun j => [(0, .slice A xs.length c), (1, .int .i64 t), (5, .int .i64 (hv xs t j)), (6, .int .i64 ((xs.length : Int) - 1 - j))]) (fun j => xs.length - j) 0 ⟨Nat.zero_le _, Ext.refl _⟩ ⟨rfl, rfl, rfl, by simp [get], trivial⟩ ?_
  rintro j wr ⟨hj, he⟩
  by_cases hlt : j < xs.length
  · obtain ⟨b, o, rfl, hc⟩ := hx.int (show xs.length - 1 - j < xs.length by omega)
    have hc' := he.cell hc
    rw [show xs.length - 1 - j = ((xs.length : Int) - 1 - j).toNat from by omega] at hc'
    repeat' (first
      | refine EW.seq ?_
      | refine EL.f (FV.move rfl) rfl rfl ?_
      | refine EL.f (FV.assign rfl) rfl rfl ?_
      | refine EL.nil ?_
      | refine EW.region ?_
      | refine EW.block ?_
      | refine EW.skip ?_
      | refine EW.exit ?_
      | refine EW.ret ?_
      | refine EW.condT rfl ?_
      | refine EW.condF rfl ?_
      | refine EL.f (FV.addI rfl rfl (by omega)) rfl rfl ?_
      | refine EL.f (FV.subI rfl rfl (by omega)) rfl rfl ?_
      | refine EL.f (FV.remI rfl rfl (by decide) (by omega)) rfl rfl ?_
      | refine EL.f (FV.quoI rfl rfl (by decide) (by omega)) rfl rfl ?_
      | refine EL.f (FV.extract rfl rfl) rfl rfl ?_
      | refine EL.f (FV.len rfl rfl) rfl rfl ?_
      | refine EL.f (FV.lenS rfl rfl) rfl rfl ?_
      | refine EL.f (FV.not rfl) rfl rfl ?_
      | refine EL.skip rfl rfl ?_
      | refine EL.f (FV.pickT rfl rfl) rfl rfl ?_
      | refine EL.f (FV.pickF rfl rfl) rfl rfl ?_
      | refine EL.fT (FV.lss rfl rfl) rfl (fun _ => rfl) (by omega) ?_
      | refine EL.fT (FV.leq rfl rfl) rfl (fun _ => rfl) (by omega) ?_
      | refine EL.fT (FV.gtr rfl rfl) rfl (fun _ => rfl) (by omega) ?_
      | refine EL.fT (FV.geq rfl rfl) rfl (fun _ => rfl) (by omega) ?_
      | refine EL.fT (FV.eql rfl rfl) rfl (fun _ => rfl) (by omega) ?_
      | refine EL.fT (FV.neq rfl rfl) rfl (fun _ => rfl) (by omega) ?_
      | refine EL.fF (FV.lss rfl rfl) rfl (fun _ => rfl) (by omega) ?_
      | refine EL.fF (FV.leq rfl rfl) rfl (fun _ => rfl) (by omega) ?_
      | refine EL.fF (FV.gtr rfl rfl) rfl (fun _ => rfl) (by omega) ?_
      | refine EL.fF (FV.geq rfl rfl) rfl (fun _ => rfl) (by omega) ?_
      | refine EL.fF (FV.eql rfl rfl) rfl (fun _ => rfl) (by omega) ?_
      | refine EL.fF (FV.neq rfl rfl) rfl (fun _ => rfl) (by omega) ?_
      | refine EL.f (FV.rem rfl rfl (by decide)) rfl rfl ?_
      | refine EL.f (FV.idx0 rfl rfl rfl rfl (by omega) (by omega)) rfl rfl ?_
      | refine EL.f (FV.idx1 rfl rfl rfl rfl (by omega) (by omega)) rfl rfl ?_
      | refine EL.f (FV.load1 rfl rfl rfl (by assumption)) rfl rfl ?_)
    refine EW.draw (fun w' => w' = wr.drew) [(0, true), (1, true), (3, true), (4, true), (5, true), (6, true), (2, false), (7, false), (8, true)] mixed (by decide +kernel) rfl ?_
    repeat' (first
      | refine EP.f rfl (FV.load rfl rfl rfl (fun _ h' => atDrew h' hc')) rfl rfl ?_
      | (refine EP.h rfl rfl (Hv.call (specTimes _ _ _) rfl) rfl (fun _ => rfl) ?_; rintro _ _ ⟨rfl, rfl⟩; refine ⟨rfl, ?_⟩)
      | (refine EP.h rfl rfl (Hv.call (specPlus _ _ _) rfl) rfl (fun _ => rfl) ?_; rintro _ _ ⟨rfl, rfl⟩; refine ⟨rfl, ?_⟩)
      | refine EP.nil ?_
      | refine EP.f rfl (FV.move rfl) rfl rfl ?_
      | refine EP.f rfl (FV.assign rfl) rfl rfl ?_
      | refine EP.f rfl (FV.addI rfl rfl (by omega)) rfl rfl ?_
      | refine EP.f rfl (FV.subI rfl rfl (by omega)) rfl rfl ?_
      | refine EP.f rfl (FV.remI rfl rfl (by decide) (by omega)) rfl rfl ?_
      | refine EP.f rfl (FV.extract rfl rfl) rfl rfl ?_
      | refine EP.f rfl (FV.len rfl rfl) rfl rfl ?_
      | refine EP.f rfl (FV.idx0 rfl rfl rfl rfl (by omega) (by omega)) rfl rfl ?_
      | refine EP.f rfl (FV.idx1 rfl rfl rfl rfl (by omega) (by omega)) rfl rfl ?_
      | refine EP.f rfl (FV.not rfl) rfl rfl ?_)
    repeat' (first
      | refine EW.seq ?_
      | refine EL.f (FV.move rfl) rfl rfl ?_
      | refine EL.f (FV.assign rfl) rfl rfl ?_
      | refine EL.nil ?_
      | refine EW.region ?_
      | refine EW.block ?_
      | refine EW.skip ?_
      | refine EW.exit ?_
      | refine EW.ret ?_
      | refine EW.condT rfl ?_
      | refine EW.condF rfl ?_
      | refine EL.f (FV.addI rfl rfl (by omega)) rfl rfl ?_
      | refine EL.f (FV.subI rfl rfl (by omega)) rfl rfl ?_
      | refine EL.f (FV.remI rfl rfl (by decide) (by omega)) rfl rfl ?_
      | refine EL.f (FV.quoI rfl rfl (by decide) (by omega)) rfl rfl ?_
      | refine EL.f (FV.extract rfl rfl) rfl rfl ?_
      | refine EL.f (FV.len rfl rfl) rfl rfl ?_
      | refine EL.f (FV.lenS rfl rfl) rfl rfl ?_
      | refine EL.f (FV.not rfl) rfl rfl ?_
      | refine EL.skip rfl rfl ?_
      | refine EL.f (FV.pickT rfl rfl) rfl rfl ?_
      | refine EL.f (FV.pickF rfl rfl) rfl rfl ?_
      | refine EL.fT (FV.lss rfl rfl) rfl (fun _ => rfl) (by omega) ?_
      | refine EL.fT (FV.leq rfl rfl) rfl (fun _ => rfl) (by omega) ?_
      | refine EL.fT (FV.gtr rfl rfl) rfl (fun _ => rfl) (by omega) ?_
      | refine EL.fT (FV.geq rfl rfl) rfl (fun _ => rfl) (by omega) ?_
      | refine EL.fT (FV.eql rfl rfl) rfl (fun _ => rfl) (by omega) ?_
      | refine EL.fT (FV.neq rfl rfl) rfl (fun _ => rfl) (by omega) ?_
      | refine EL.fF (FV.lss rfl rfl) rfl (fun _ => rfl) (by omega) ?_
      | refine EL.fF (FV.leq rfl rfl) rfl (fun _ => rfl) (by omega) ?_
      | refine EL.fF (FV.gtr rfl rfl) rfl (fun _ => rfl) (by omega) ?_
      | refine EL.fF (FV.geq rfl rfl) rfl (fun _ => rfl) (by omega) ?_
      | refine EL.fF (FV.eql rfl rfl) rfl (fun _ => rfl) (by omega) ?_
      | refine EL.fF (FV.neq rfl rfl) rfl (fun _ => rfl) (by omega) ?_
      | refine EL.f (FV.rem rfl rfl (by decide)) rfl rfl ?_
      | refine EL.f (FV.idx0 rfl rfl rfl rfl (by omega) (by omega)) rfl rfl ?_
      | refine EL.f (FV.idx1 rfl rfl rfl rfl (by omega) (by omega)) rfl rfl ?_
      | refine EL.f (FV.load1 rfl rfl rfl (by assumption)) rfl rfl ?_)
    refine ⟨j + 1, ⟨rfl, rfl, ?_, ?_, trivial⟩, ⟨by omega, he.trans (Ext.drew _)⟩, by omega⟩
    · show some _ = some _
      rw [hv_step, show ((xs.length : Int) - 1 - j).toNat = xs.length - 1 - j from by omega]
      rfl
    · show some _ = some _
      congr 2
      omega
  · obtain rfl : j = xs.length := by omega
    repeat' (first
      | refine EW.seq ?_
      | refine EL.f (FV.move rfl) rfl rfl ?_
      | refine EL.f (FV.assign rfl) rfl rfl ?_
      | refine EL.nil ?_
      | refine EW.region ?_
      | refine EW.block ?_
      | refine EW.skip ?_
      | refine EW.exit ?_
      | refine EW.ret ?_
      | refine EW.condT rfl ?_
      | refine EW.condF rfl ?_
      | refine EL.f (FV.addI rfl rfl (by omega)) rfl rfl ?_
      | refine EL.f (FV.subI rfl rfl (by omega)) rfl rfl ?_
      | refine EL.f (FV.remI rfl rfl (by decide) (by omega)) rfl rfl ?_
      | refine EL.f (FV.quoI rfl rfl (by decide) (by omega)) rfl rfl ?_
      | refine EL.f (FV.extract rfl rfl) rfl rfl ?_
      | refine EL.f (FV.len rfl rfl) rfl rfl ?_
      | refine EL.f (FV.lenS rfl rfl) rfl rfl ?_
      | refine EL.f (FV.not rfl) rfl rfl ?_
      | refine EL.skip rfl rfl ?_
      | refine EL.f (FV.pickT rfl rfl) rfl rfl ?_
      | refine EL.f (FV.pickF rfl rfl) rfl rfl ?_
      | refine EL.fT (FV.lss rfl rfl) rfl (fun _ => rfl) (by omega) ?_
      | refine EL.fT (FV.leq rfl rfl) rfl (fun _ => rfl) (by omega) ?_
      | refine EL.fT (FV.gtr rfl rfl) rfl (fun _ => rfl) (by omega) ?_
      | refine EL.fT (FV.geq rfl rfl) rfl (fun _ => rfl) (by omega) ?_
      | refine EL.fT (FV.eql rfl rfl) rfl (fun _ => rfl) (by omega) ?_
      | refine EL.fT (FV.neq rfl rfl) rfl (fun _ => rfl) (by omega) ?_
      | refine EL.fF (FV.lss rfl rfl) rfl (fun _ => rfl) (by omega) ?_
      | refine EL.fF (FV.leq rfl rfl) rfl (fun _ => rfl) (by omega) ?_
      | refine EL.fF (FV.gtr rfl rfl) rfl (fun _ => rfl) (by omega) ?_
      | refine EL.fF (FV.geq rfl rfl) rfl (fun _ => rfl) (by omega) ?_
      | refine EL.fF (FV.eql rfl rfl) rfl (fun _ => rfl) (by omega) ?_
      | refine EL.fF (FV.neq rfl rfl) rfl (fun _ => rfl) (by omega) ?_
      | refine EL.f (FV.rem rfl rfl (by decide)) rfl rfl ?_
      | refine EL.f (FV.idx0 rfl rfl rfl rfl (by omega) (by omega)) rfl rfl ?_
      | refine EL.f (FV.idx1 rfl rfl rfl rfl (by omega) (by omega)) rfl rfl ?_
      | refine EL.f (FV.load1 rfl rfl rfl (by assumption)) rfl rfl ?_)
    exact ⟨_, rfl, rfl, he⟩
theorem specValueAt (A : Option Addr) (c : Nat) (xs : List Int) (t : Int) (w : World) (hx : Rd w A (ints xs)) (hn : xs.length ≤ 1048576) :
    CallsR Try.prog 34 [.slice A xs.length c, .int .i64 t] w fun v w' => v = valR xs t ∧ Ext w w' := by
  refine CallsR.enter Try.func34 (by decide +kernel) rfl Try.ntmps34 rfl ?_
  have cx := specOk A c xs w hx (by omega)
  unfold valR
  cases vx : vld xs
  · rw [vx] at cx
    repeat' (first
      | (refine EL.h (Hv.call cx rfl) rfl (fun _ => rfl) ?_; rintro _ _ ⟨rfl, rfl⟩)
      | refine EW.seq ?_
      | refine EL.f (FV.move rfl) rfl rfl ?_
      | refine EL.f (FV.assign rfl) rfl rfl ?_
      | refine EL.nil ?_
      | refine EW.region ?_
      | refine EW.block ?_
      | refine EW.skip ?_
      | refine EW.exit ?_
      | refine EW.ret ?_
      | refine EW.condT rfl ?_
      | refine EW.condF rfl ?_
      | refine EL.f (FV.addI rfl rfl (by omega)) rfl rfl ?_
      | refine EL.f (FV.subI rfl rfl (by omega)) rfl rfl ?_
      | refine EL.f (FV.remI rfl rfl (by decide) (by omega)) rfl rfl ?_
      | refine EL.f (FV.quoI rfl rfl (by decide) (by omega)) rfl rfl ?_
      | refine EL.f (FV.extract rfl rfl) rfl rfl ?_
      | refine EL.f (FV.len rfl rfl) rfl rfl ?_
      | refine EL.f (FV.lenS rfl rfl) rfl rfl ?_
      | refine EL.f (FV.not rfl) rfl rfl ?_
      | refine EL.skip rfl rfl ?_
      | refine EL.f (FV.pickT rfl rfl) rfl rfl ?_
      | refine EL.f (FV.pickF rfl rfl) rfl rfl ?_
      | refine EL.fT (FV.lss rfl rfl) rfl (fun _ => rfl) (by omega) ?_
      | refine EL.fT (FV.leq rfl rfl) rfl (fun _ => rfl) (by omega) ?_
      | refine EL.fT (FV.gtr rfl rfl) rfl (fun _ => rfl) (by omega) ?_
      | refine EL.fT (FV.geq rfl rfl) rfl (fun _ => rfl) (by omega) ?_
      | refine EL.fT (FV.eql rfl rfl) rfl (fun _ => rfl) (by omega) ?_
      | refine EL.fT (FV.neq rfl rfl) rfl (fun _ => rfl) (by omega) ?_
      | refine EL.fF (FV.lss rfl rfl) rfl (fun _ => rfl) (by omega) ?_
      | refine EL.fF (FV.leq rfl rfl) rfl (fun _ => rfl) (by omega) ?_
      | refine EL.fF (FV.gtr rfl rfl) rfl (fun _ => rfl) (by omega) ?_
      | refine EL.fF (FV.geq rfl rfl) rfl (fun _ => rfl) (by omega) ?_
      | refine EL.fF (FV.eql rfl rfl) rfl (fun _ => rfl) (by omega) ?_
      | refine EL.fF (FV.neq rfl rfl) rfl (fun _ => rfl) (by omega) ?_
      | refine EL.f (FV.rem rfl rfl (by decide)) rfl rfl ?_
      | refine EL.f (FV.idx0 rfl rfl rfl rfl (by omega) (by omega)) rfl rfl ?_
      | refine EL.f (FV.idx1 rfl rfl rfl rfl (by omega) (by omega)) rfl rfl ?_
      | refine EL.f (FV.load1 rfl rfl rfl (by assumption)) rfl rfl ?_)
    exact ⟨_, rfl, rfl, Ext.refl _⟩
  · rw [vx] at cx
    have hl := vld_len vx
    repeat' (first
      | (refine EL.h (Hv.call cx rfl) rfl (fun _ => rfl) ?_; rintro _ _ ⟨rfl, rfl⟩)
      | (refine EL.h (Hv.call (specValue A c xs t w hx (by omega)) rfl) rfl (fun _ => rfl) ?_; rintro _ _ ⟨rfl, he⟩)
      | refine EW.seq ?_
      | refine EL.f (FV.move rfl) rfl rfl ?_
      | refine EL.f (FV.assign rfl) rfl rfl ?_
      | refine EL.nil ?_
      | refine EW.region ?_
      | refine EW.block ?_
      | refine EW.skip ?_
      | refine EW.exit ?_
      | refine EW.ret ?_
      | refine EW.condT rfl ?_
      | refine EW.condF rfl ?_
      | refine EL.f (FV.addI rfl rfl (by omega)) rfl rfl ?_
      | refine EL.f (FV.subI rfl rfl (by omega)) rfl rfl ?_
      | refine EL.f (FV.remI rfl rfl (by decide) (by omega)) rfl rfl ?_
      | refine EL.f (FV.quoI rfl rfl (by decide) (by omega)) rfl rfl ?_
      | refine EL.f (FV.extract rfl rfl) rfl rfl ?_
      | refine EL.f (FV.len rfl rfl) rfl rfl ?_
      | refine EL.f (FV.lenS rfl rfl) rfl rfl ?_
      | refine EL.f (FV.not rfl) rfl rfl ?_
      | refine EL.skip rfl rfl ?_
      | refine EL.f (FV.pickT rfl rfl) rfl rfl ?_
      | refine EL.f (FV.pickF rfl rfl) rfl rfl ?_
      | refine EL.fT (FV.lss rfl rfl) rfl (fun _ => rfl) (by omega) ?_
      | refine EL.fT (FV.leq rfl rfl) rfl (fun _ => rfl) (by omega) ?_
      | refine EL.fT (FV.gtr rfl rfl) rfl (fun _ => rfl) (by omega) ?_
      | refine EL.fT (FV.geq rfl rfl) rfl (fun _ => rfl) (by omega) ?_
      | refine EL.fT (FV.eql rfl rfl) rfl (fun _ => rfl) (by omega) ?_
      | refine EL.fT (FV.neq rfl rfl) rfl (fun _ => rfl) (by omega) ?_
      | refine EL.fF (FV.lss rfl rfl) rfl (fun _ => rfl) (by omega) ?_
      | refine EL.fF (FV.leq rfl rfl) rfl (fun _ => rfl) (by omega) ?_
      | refine EL.fF (FV.gtr rfl rfl) rfl (fun _ => rfl) (by omega) ?_
      | refine EL.fF (FV.geq rfl rfl) rfl (fun _ => rfl) (by omega) ?_
      | refine EL.fF (FV.eql rfl rfl) rfl (fun _ => rfl) (by omega) ?_
      | refine EL.fF (FV.neq rfl rfl) rfl (fun _ => rfl) (by omega) ?_
      | refine EL.f (FV.rem rfl rfl (by decide)) rfl rfl ?_
      | refine EL.f (FV.idx0 rfl rfl rfl rfl (by omega) (by omega)) rfl rfl ?_
      | refine EL.f (FV.idx1 rfl rfl rfl rfl (by omega) (by omega)) rfl rfl ?_
      | refine EL.f (FV.load1 rfl rfl rfl (by assumption)) rfl rfl ?_)
    exact ⟨_, rfl, rfl, he⟩
theorem implValueAt (A : Option Addr) (c : Nat) (xs : List Int) (t : Int) (w : World) (hx : Rd w A (ints xs)) (hn : xs.length ≤ 1048576) :
    CallsR Try.prog 35 [.slice A xs.length c, .int .i64 t] w fun v w' => v = valR xs t ∧ Ext w w' := by
  refine CallsR.enter Try.func35 (by decide +kernel) rfl Try.ntmps35 rfl ?_
  have cx := implValid A c xs w hx (by omega)
  unfold valR
  cases vx : vld xs
  · rw [vx] at cx
    repeat' (first
      | (refine EL.h (Hv.call cx rfl) rfl (fun _ => rfl) ?_; rintro _ _ ⟨rfl, rfl⟩)
      | refine EW.seq ?_
      | refine EL.f (FV.move rfl) rfl rfl ?_
      | refine EL.f (FV.assign rfl) rfl rfl ?_
      | refine EL.nil ?_
      | refine EW.region ?_
      | refine EW.block ?_
      | refine EW.skip ?_
      | refine EW.exit ?_
      | refine EW.ret ?_
      | refine EW.condT rfl ?_
      | refine EW.condF rfl ?_
      | refine EL.f (FV.addI rfl rfl (by omega)) rfl rfl ?_
      | refine EL.f (FV.subI rfl rfl (by omega)) rfl rfl ?_
      | refine EL.f (FV.remI rfl rfl (by decide) (by omega)) rfl rfl ?_
      | refine EL.f (FV.quoI rfl rfl (by decide) (by omega)) rfl rfl ?_
      | refine EL.f (FV.extract rfl rfl) rfl rfl ?_
      | refine EL.f (FV.len rfl rfl) rfl rfl ?_
      | refine EL.f (FV.lenS rfl rfl) rfl rfl ?_
      | refine EL.f (FV.not rfl) rfl rfl ?_
      | refine EL.skip rfl rfl ?_
      | refine EL.f (FV.pickT rfl rfl) rfl rfl ?_
      | refine EL.f (FV.pickF rfl rfl) rfl rfl ?_
      | refine EL.fT (FV.lss rfl rfl) rfl (fun _ => rfl) (by omega) ?_
      | refine EL.fT (FV.leq rfl rfl) rfl (fun _ => rfl) (by omega) ?_
      | refine EL.fT (FV.gtr rfl rfl) rfl (fun _ => rfl) (by omega) ?_
      | refine EL.fT (FV.geq rfl rfl) rfl (fun _ => rfl) (by omega) ?_
      | refine EL.fT (FV.eql rfl rfl) rfl (fun _ => rfl) (by omega) ?_
      | refine EL.fT (FV.neq rfl rfl) rfl (fun _ => rfl) (by omega) ?_
      | refine EL.fF (FV.lss rfl rfl) rfl (fun _ => rfl) (by omega) ?_
      | refine EL.fF (FV.leq rfl rfl) rfl (fun _ => rfl) (by omega) ?_
      | refine EL.fF (FV.gtr rfl rfl) rfl (fun _ => rfl) (by omega) ?_
      | refine EL.fF (FV.geq rfl rfl) rfl (fun _ => rfl) (by omega) ?_
      | refine EL.fF (FV.eql rfl rfl) rfl (fun _ => rfl) (by omega) ?_
      | refine EL.fF (FV.neq rfl rfl) rfl (fun _ => rfl) (by omega) ?_
      | refine EL.f (FV.rem rfl rfl (by decide)) rfl rfl ?_
      | refine EL.f (FV.idx0 rfl rfl rfl rfl (by omega) (by omega)) rfl rfl ?_
      | refine EL.f (FV.idx1 rfl rfl rfl rfl (by omega) (by omega)) rfl rfl ?_
      | refine EL.f (FV.load1 rfl rfl rfl (by assumption)) rfl rfl ?_)
    exact ⟨_, rfl, rfl, Ext.refl _⟩
  · rw [vx] at cx
    have hl := vld_len vx
    repeat' (first
      | (refine EL.h (Hv.call cx rfl) rfl (fun _ => rfl) ?_; rintro _ _ ⟨rfl, rfl⟩)
      | refine EW.seq ?_
      | refine EL.f (FV.move rfl) rfl rfl ?_
      | refine EL.f (FV.assign rfl) rfl rfl ?_
      | refine EL.nil ?_
      | refine EW.region ?_
      | refine EW.block ?_
      | refine EW.skip ?_
      | refine EW.exit ?_
      | refine EW.ret ?_
      | refine EW.condT rfl ?_
      | refine EW.condF rfl ?_
      | refine EL.f (FV.addI rfl rfl (by omega)) rfl rfl ?_
      | refine EL.f (FV.subI rfl rfl (by omega)) rfl rfl ?_
      | refine EL.f (FV.remI rfl rfl (by decide) (by omega)) rfl rfl ?_
      | refine EL.f (FV.quoI rfl rfl (by decide) (by omega)) rfl rfl ?_
      | refine EL.f (FV.extract rfl rfl) rfl rfl ?_
      | refine EL.f (FV.len rfl rfl) rfl rfl ?_
      | refine EL.f (FV.lenS rfl rfl) rfl rfl ?_
      | refine EL.f (FV.not rfl) rfl rfl ?_
      | refine EL.skip rfl rfl ?_
      | refine EL.f (FV.pickT rfl rfl) rfl rfl ?_
      | refine EL.f (FV.pickF rfl rfl) rfl rfl ?_
      | refine EL.fT (FV.lss rfl rfl) rfl (fun _ => rfl) (by omega) ?_
      | refine EL.fT (FV.leq rfl rfl) rfl (fun _ => rfl) (by omega) ?_
      | refine EL.fT (FV.gtr rfl rfl) rfl (fun _ => rfl) (by omega) ?_
      | refine EL.fT (FV.geq rfl rfl) rfl (fun _ => rfl) (by omega) ?_
      | refine EL.fT (FV.eql rfl rfl) rfl (fun _ => rfl) (by omega) ?_
      | refine EL.fT (FV.neq rfl rfl) rfl (fun _ => rfl) (by omega) ?_
      | refine EL.fF (FV.lss rfl rfl) rfl (fun _ => rfl) (by omega) ?_
      | refine EL.fF (FV.leq rfl rfl) rfl (fun _ => rfl) (by omega) ?_
      | refine EL.fF (FV.gtr rfl rfl) rfl (fun _ => rfl) (by omega) ?_
      | refine EL.fF (FV.geq rfl rfl) rfl (fun _ => rfl) (by omega) ?_
      | refine EL.fF (FV.eql rfl rfl) rfl (fun _ => rfl) (by omega) ?_
      | refine EL.fF (FV.neq rfl rfl) rfl (fun _ => rfl) (by omega) ?_
      | refine EL.f (FV.rem rfl rfl (by decide)) rfl rfl ?_
      | refine EL.f (FV.idx0 rfl rfl rfl rfl (by omega) (by omega)) rfl rfl ?_
      | refine EL.f (FV.idx1 rfl rfl rfl rfl (by omega) (by omega)) rfl rfl ?_
      | refine EL.f (FV.load1 rfl rfl rfl (by assumption)) rfl rfl ?_)
    refine EW.loop (fun j wr => j ≤ xs.length ∧ Ext w wr) (fun j => [(0, .slice A xs.length c), (1, .int .i64 t), (6, .int .i64 (hv xs t j)), (7, .int .i64 ((xs.length : Int) - 1 - j))]) (fun j => xs.length - j) 0 ⟨Nat.zero_le _, Ext.refl _⟩ ⟨rfl, rfl, rfl, by simp [get], trivial⟩ ?_
    rintro j wr ⟨hj, he⟩
    by_cases hlt : j < xs.length
    · obtain ⟨b, o, rfl, hc⟩ := hx.int (show xs.length - 1 - j < xs.length by omega)
      have hc' := he.cell hc
      rw [show xs.length - 1 - j = ((xs.length : Int) - 1 - j).toNat from by omega] at hc'
      have hm := mul_bounds (hv_bounds xs t j) (b := t % 1000003) (by omega)
      repeat' (first
        | refine EW.seq ?_
        | refine EL.f (FV.move rfl) rfl rfl ?_
        | refine EL.f (FV.assign rfl) rfl rfl ?_
        | refine EL.nil ?_
        | refine EW.region ?_
        | refine EW.block ?_
        | refine EW.skip ?_
        | refine EW.exit ?_
        | refine EW.ret ?_
        | refine EW.condT rfl ?_
        | refine EW.condF rfl ?_
        | refine EL.f (FV.addI rfl rfl (by omega)) rfl rfl ?_
        | refine EL.f (FV.subI rfl rfl (by omega)) rfl rfl ?_
        | refine EL.f (FV.remI rfl rfl (by decide) (by omega)) rfl rfl ?_
        | refine EL.f (FV.quoI rfl rfl (by decide) (by omega)) rfl rfl ?_
        | refine EL.f (FV.extract rfl rfl) rfl rfl ?_
        | refine EL.f (FV.len rfl rfl) rfl rfl ?_
        | refine EL.f (FV.lenS rfl rfl) rfl rfl ?_
        | refine EL.f (FV.not rfl) rfl rfl ?_
        | refine EL.skip rfl rfl ?_
        | refine EL.f (FV.pickT rfl rfl) rfl rfl ?_
        | refine EL.f (FV.pickF rfl rfl) rfl rfl ?_
        | refine EL.fT (FV.lss rfl rfl) rfl (fun _ => rfl) (by omega) ?_
        | refine EL.fT (FV.leq rfl rfl) rfl (fun _ => rfl) (by omega) ?_
        | refine EL.fT (FV.gtr rfl rfl) rfl (fun _ => rfl) (by omega) ?_
        | refine EL.fT (FV.geq rfl rfl) rfl (fun _ => rfl) (by omega) ?_
        | refine EL.fT (FV.eql rfl rfl) rfl (fun _ => rfl) (by omega) ?_
        | refine EL.fT (FV.neq rfl rfl) rfl (fun _ => rfl) (by omega) ?_
        | refine EL.fF (FV.lss rfl rfl) rfl (fun _ => rfl) (by omega) ?_
        | refine EL.fF (FV.leq rfl rfl) rfl (fun _ => rfl) (by omega) ?_
        | refine EL.fF (FV.gtr rfl rfl) rfl (fun _ => rfl) (by omega) ?_
        | refine EL.fF (FV.geq rfl rfl) rfl (fun _ => rfl) (by omega) ?_
        | refine EL.fF (FV.eql rfl rfl) rfl (fun _ => rfl) (by omega) ?_
        | refine EL.fF (FV.neq rfl rfl) rfl (fun _ => rfl) (by omega) ?_
        | refine EL.f (FV.rem rfl rfl (by decide)) rfl rfl ?_
        | refine EL.f (FV.idx0 rfl rfl rfl rfl (by omega) (by omega)) rfl rfl ?_
        | refine EL.f (FV.idx1 rfl rfl rfl rfl (by omega) (by omega)) rfl rfl ?_
        | refine EL.f (FV.load1 rfl rfl rfl (by assumption)) rfl rfl ?_)
      refine EW.draw (fun w' => w' = wr.drew) [(0, true), (1, true), (4, true), (5, true), (6, true), (7, true), (2, false), (3, true), (8, false), (9, true)] mixed (by decide +kernel) rfl ?_
      repeat' (first
        | refine EP.f rfl (FV.load rfl rfl rfl (fun _ h' => atDrew h' hc')) rfl rfl ?_
        | refine EP.f rfl (FV.mulI rfl rfl (by omega)) rfl rfl ?_
        | (refine EP.h rfl rfl (Hv.call (implResidue _ _) rfl) rfl (fun _ => rfl) ?_; rintro _ _ ⟨rfl, rfl⟩; refine ⟨rfl, ?_⟩)
        | (refine EP.h rfl rfl (Hv.call (implPlus _ _ _) rfl) rfl (fun _ => rfl) ?_; rintro _ _ ⟨rfl, rfl⟩; refine ⟨rfl, ?_⟩)
        | refine EP.nil ?_
        | refine EP.f rfl (FV.move rfl) rfl rfl ?_
        | refine EP.f rfl (FV.assign rfl) rfl rfl ?_
        | refine EP.f rfl (FV.addI rfl rfl (by omega)) rfl rfl ?_
        | refine EP.f rfl (FV.subI rfl rfl (by omega)) rfl rfl ?_
        | refine EP.f rfl (FV.remI rfl rfl (by decide) (by omega)) rfl rfl ?_
        | refine EP.f rfl (FV.extract rfl rfl) rfl rfl ?_
        | refine EP.f rfl (FV.len rfl rfl) rfl rfl ?_
        | refine EP.f rfl (FV.idx0 rfl rfl rfl rfl (by omega) (by omega)) rfl rfl ?_
        | refine EP.f rfl (FV.idx1 rfl rfl rfl rfl (by omega) (by omega)) rfl rfl ?_
        | refine EP.f rfl (FV.not rfl) rfl rfl ?_)
      repeat' (first
        | refine EW.seq ?_
        | refine EL.f (FV.move rfl) rfl rfl ?_
        | refine EL.f (FV.assign rfl) rfl rfl ?_
        | refine EL.nil ?_
        | refine EW.region ?_
        | refine EW.block ?_
        | refine EW.skip ?_
        | refine EW.exit ?_
        | refine EW.ret ?_
        | refine EW.condT rfl ?_
        | refine EW.condF rfl ?_
        | refine EL.f (FV.addI rfl rfl (by omega)) rfl rfl ?_
        | refine EL.f (FV.subI rfl rfl (by omega)) rfl rfl ?_
        | refine EL.f (FV.remI rfl rfl (by decide) (by omega)) rfl rfl ?_
        | refine EL.f (FV.quoI rfl rfl (by decide) (by omega)) rfl rfl ?_
        | refine EL.f (FV.extract rfl rfl) rfl rfl ?_
        | refine EL.f (FV.len rfl rfl) rfl rfl ?_
        | refine EL.f (FV.lenS rfl rfl) rfl rfl ?_
        | refine EL.f (FV.not rfl) rfl rfl ?_
        | refine EL.skip rfl rfl ?_
        | refine EL.f (FV.pickT rfl rfl) rfl rfl ?_
        | refine EL.f (FV.pickF rfl rfl) rfl rfl ?_
        | refine EL.fT (FV.lss rfl rfl) rfl (fun _ => rfl) (by omega) ?_
        | refine EL.fT (FV.leq rfl rfl) rfl (fun _ => rfl) (by omega) ?_
        | refine EL.fT (FV.gtr rfl rfl) rfl (fun _ => rfl) (by omega) ?_
        | refine EL.fT (FV.geq rfl rfl) rfl (fun _ => rfl) (by omega) ?_
        | refine EL.fT (FV.eql rfl rfl) rfl (fun _ => rfl) (by omega) ?_
        | refine EL.fT (FV.neq rfl rfl) rfl (fun _ => rfl) (by omega) ?_
        | refine EL.fF (FV.lss rfl rfl) rfl (fun _ => rfl) (by omega) ?_
        | refine EL.fF (FV.leq rfl rfl) rfl (fun _ => rfl) (by omega) ?_
        | refine EL.fF (FV.gtr rfl rfl) rfl (fun _ => rfl) (by omega) ?_
        | refine EL.fF (FV.geq rfl rfl) rfl (fun _ => rfl) (by omega) ?_
        | refine EL.fF (FV.eql rfl rfl) rfl (fun _ => rfl) (by omega) ?_
        | refine EL.fF (FV.neq rfl rfl) rfl (fun _ => rfl) (by omega) ?_
        | refine EL.f (FV.rem rfl rfl (by decide)) rfl rfl ?_
        | refine EL.f (FV.idx0 rfl rfl rfl rfl (by omega) (by omega)) rfl rfl ?_
        | refine EL.f (FV.idx1 rfl rfl rfl rfl (by omega) (by omega)) rfl rfl ?_
        | refine EL.f (FV.load1 rfl rfl rfl (by assumption)) rfl rfl ?_)
      refine ⟨j + 1, ⟨rfl, rfl, ?_, ?_, trivial⟩, ⟨by omega, he.trans (Ext.drew _)⟩, by omega⟩
      · show some _ = some _
        rw [show ((xs.length : Int) - 1 - j).toNat = xs.length - 1 - j from by omega]
        rfl
      · show some _ = some _
        congr 2
        omega
    · obtain rfl : j = xs.length := by omega
      repeat' (first
        | refine EW.seq ?_
        | refine EL.f (FV.move rfl) rfl rfl ?_
        | refine EL.f (FV.assign rfl) rfl rfl ?_
        | refine EL.nil ?_
        | refine EW.region ?_
        | refine EW.block ?_
        | refine EW.skip ?_
        | refine EW.exit ?_
        | refine EW.ret ?_
        | refine EW.condT rfl ?_
        | refine EW.condF rfl ?_
        | refine EL.f (FV.addI rfl rfl (by omega)) rfl rfl ?_
        | refine EL.f (FV.subI rfl rfl (by omega)) rfl rfl ?_
        | refine EL.f (FV.remI rfl rfl (by decide) (by omega)) rfl rfl ?_
        | refine EL.f (FV.quoI rfl rfl (by decide) (by omega)) rfl rfl ?_
        | refine EL.f (FV.extract rfl rfl) rfl rfl ?_
        | refine EL.f (FV.len rfl rfl) rfl rfl ?_
        | refine EL.f (FV.lenS rfl rfl) rfl rfl ?_
        | refine EL.f (FV.not rfl) rfl rfl ?_
        | refine EL.skip rfl rfl ?_
        | refine EL.f (FV.pickT rfl rfl) rfl rfl ?_
        | refine EL.f (FV.pickF rfl rfl) rfl rfl ?_
        | refine EL.fT (FV.lss rfl rfl) rfl (fun _ => rfl) (by omega) ?_
        | refine EL.fT (FV.leq rfl rfl) rfl (fun _ => rfl) (by omega) ?_
        | refine EL.fT (FV.gtr rfl rfl) rfl (fun _ => rfl) (by omega) ?_
        | refine EL.fT (FV.geq rfl rfl) rfl (fun _ => rfl) (by omega) ?_
        | refine EL.fT (FV.eql rfl rfl) rfl (fun _ => rfl) (by omega) ?_
        | refine EL.fT (FV.neq rfl rfl) rfl (fun _ => rfl) (by omega) ?_
        | refine EL.fF (FV.lss rfl rfl) rfl (fun _ => rfl) (by omega) ?_
        | refine EL.fF (FV.leq rfl rfl) rfl (fun _ => rfl) (by omega) ?_
        | refine EL.fF (FV.gtr rfl rfl) rfl (fun _ => rfl) (by omega) ?_
        | refine EL.fF (FV.geq rfl rfl) rfl (fun _ => rfl) (by omega) ?_
        | refine EL.fF (FV.eql rfl rfl) rfl (fun _ => rfl) (by omega) ?_
        | refine EL.fF (FV.neq rfl rfl) rfl (fun _ => rfl) (by omega) ?_
        | refine EL.f (FV.rem rfl rfl (by decide)) rfl rfl ?_
        | refine EL.f (FV.idx0 rfl rfl rfl rfl (by omega) (by omega)) rfl rfl ?_
        | refine EL.f (FV.idx1 rfl rfl rfl rfl (by omega) (by omega)) rfl rfl ?_
        | refine EL.f (FV.load1 rfl rfl rfl (by assumption)) rfl rfl ?_)
      exact ⟨_, rfl, rfl, he⟩
theorem lawValueAt (A : Option Addr) (c : Nat) (xs : List Int) (t : Int) (w : World) (hx : Rd w A (ints xs)) (_ : -9223372036854775808 ≤ t ∧ t ≤ 9223372036854775807) :
    CallsR Try.prog 9 [.slice A xs.length c, .int .i64 t] w fun v w' => v = .bool true ∧ Ext w w' := by
  refine CallsR.enter Try.func9 (by decide +kernel) rfl Try.ntmps9 rfl ?_
  by_cases hl : (1048576 : Int) < xs.length
  · repeat' (first
      | refine EW.seq ?_
      | refine EL.f (FV.move rfl) rfl rfl ?_
      | refine EL.f (FV.assign rfl) rfl rfl ?_
      | refine EL.nil ?_
      | refine EW.region ?_
      | refine EW.block ?_
      | refine EW.skip ?_
      | refine EW.exit ?_
      | refine EW.ret ?_
      | refine EW.condT rfl ?_
      | refine EW.condF rfl ?_
      | refine EL.f (FV.addI rfl rfl (by omega)) rfl rfl ?_
      | refine EL.f (FV.subI rfl rfl (by omega)) rfl rfl ?_
      | refine EL.f (FV.remI rfl rfl (by decide) (by omega)) rfl rfl ?_
      | refine EL.f (FV.quoI rfl rfl (by decide) (by omega)) rfl rfl ?_
      | refine EL.f (FV.extract rfl rfl) rfl rfl ?_
      | refine EL.f (FV.len rfl rfl) rfl rfl ?_
      | refine EL.f (FV.lenS rfl rfl) rfl rfl ?_
      | refine EL.f (FV.not rfl) rfl rfl ?_
      | refine EL.skip rfl rfl ?_
      | refine EL.f (FV.pickT rfl rfl) rfl rfl ?_
      | refine EL.f (FV.pickF rfl rfl) rfl rfl ?_
      | refine EL.fT (FV.lss rfl rfl) rfl (fun _ => rfl) (by omega) ?_
      | refine EL.fT (FV.leq rfl rfl) rfl (fun _ => rfl) (by omega) ?_
      | refine EL.fT (FV.gtr rfl rfl) rfl (fun _ => rfl) (by omega) ?_
      | refine EL.fT (FV.geq rfl rfl) rfl (fun _ => rfl) (by omega) ?_
      | refine EL.fT (FV.eql rfl rfl) rfl (fun _ => rfl) (by omega) ?_
      | refine EL.fT (FV.neq rfl rfl) rfl (fun _ => rfl) (by omega) ?_
      | refine EL.fF (FV.lss rfl rfl) rfl (fun _ => rfl) (by omega) ?_
      | refine EL.fF (FV.leq rfl rfl) rfl (fun _ => rfl) (by omega) ?_
      | refine EL.fF (FV.gtr rfl rfl) rfl (fun _ => rfl) (by omega) ?_
      | refine EL.fF (FV.geq rfl rfl) rfl (fun _ => rfl) (by omega) ?_
      | refine EL.fF (FV.eql rfl rfl) rfl (fun _ => rfl) (by omega) ?_
      | refine EL.fF (FV.neq rfl rfl) rfl (fun _ => rfl) (by omega) ?_
      | refine EL.f (FV.rem rfl rfl (by decide)) rfl rfl ?_
      | refine EL.f (FV.idx0 rfl rfl rfl rfl (by omega) (by omega)) rfl rfl ?_
      | refine EL.f (FV.idx1 rfl rfl rfl rfl (by omega) (by omega)) rfl rfl ?_
      | refine EL.f (FV.load1 rfl rfl rfl (by assumption)) rfl rfl ?_)
    exact ⟨_, rfl, rfl, Ext.refl _⟩
  have hn : xs.length ≤ 1048576 := by omega
  obtain ⟨p, q, hpq⟩ : ∃ p q : Int, valR xs t = .tuple #[.int .i64 p, .int .i64 q] := by
    unfold valR
    split
    · exact ⟨_, _, rfl⟩
    · exact ⟨_, _, rfl⟩
  have hs := fun A c w (hx : Rd w A (ints xs)) => specValueAt A c xs t w hx hn
  have hi := fun A c w (hx : Rd w A (ints xs)) => implValueAt A c xs t w hx hn
  rw [hpq] at hs hi
  repeat' (first
    | refine EW.seq ?_
    | refine EL.f (FV.move rfl) rfl rfl ?_
    | refine EL.f (FV.assign rfl) rfl rfl ?_
    | refine EL.nil ?_
    | refine EW.region ?_
    | refine EW.block ?_
    | refine EW.skip ?_
    | refine EW.exit ?_
    | refine EW.ret ?_
    | refine EW.condT rfl ?_
    | refine EW.condF rfl ?_
    | refine EL.f (FV.addI rfl rfl (by omega)) rfl rfl ?_
    | refine EL.f (FV.subI rfl rfl (by omega)) rfl rfl ?_
    | refine EL.f (FV.remI rfl rfl (by decide) (by omega)) rfl rfl ?_
    | refine EL.f (FV.quoI rfl rfl (by decide) (by omega)) rfl rfl ?_
    | refine EL.f (FV.extract rfl rfl) rfl rfl ?_
    | refine EL.f (FV.len rfl rfl) rfl rfl ?_
    | refine EL.f (FV.lenS rfl rfl) rfl rfl ?_
    | refine EL.f (FV.not rfl) rfl rfl ?_
    | refine EL.skip rfl rfl ?_
    | refine EL.f (FV.pickT rfl rfl) rfl rfl ?_
    | refine EL.f (FV.pickF rfl rfl) rfl rfl ?_
    | refine EL.fT (FV.lss rfl rfl) rfl (fun _ => rfl) (by omega) ?_
    | refine EL.fT (FV.leq rfl rfl) rfl (fun _ => rfl) (by omega) ?_
    | refine EL.fT (FV.gtr rfl rfl) rfl (fun _ => rfl) (by omega) ?_
    | refine EL.fT (FV.geq rfl rfl) rfl (fun _ => rfl) (by omega) ?_
    | refine EL.fT (FV.eql rfl rfl) rfl (fun _ => rfl) (by omega) ?_
    | refine EL.fT (FV.neq rfl rfl) rfl (fun _ => rfl) (by omega) ?_
    | refine EL.fF (FV.lss rfl rfl) rfl (fun _ => rfl) (by omega) ?_
    | refine EL.fF (FV.leq rfl rfl) rfl (fun _ => rfl) (by omega) ?_
    | refine EL.fF (FV.gtr rfl rfl) rfl (fun _ => rfl) (by omega) ?_
    | refine EL.fF (FV.geq rfl rfl) rfl (fun _ => rfl) (by omega) ?_
    | refine EL.fF (FV.eql rfl rfl) rfl (fun _ => rfl) (by omega) ?_
    | refine EL.fF (FV.neq rfl rfl) rfl (fun _ => rfl) (by omega) ?_
    | refine EL.f (FV.rem rfl rfl (by decide)) rfl rfl ?_
    | refine EL.f (FV.idx0 rfl rfl rfl rfl (by omega) (by omega)) rfl rfl ?_
    | refine EL.f (FV.idx1 rfl rfl rfl rfl (by omega) (by omega)) rfl rfl ?_
    | refine EL.f (FV.load1 rfl rfl rfl (by assumption)) rfl rfl ?_)
  refine EL.h (Hv.call (toInts A c xs w hx hn) rfl) rfl (fun _ => rfl) ?_
  rintro _ u1 ⟨p1, rfl, _, t1, e1⟩
  repeat' (first
    | refine EW.seq ?_
    | refine EL.f (FV.move rfl) rfl rfl ?_
    | refine EL.f (FV.assign rfl) rfl rfl ?_
    | refine EL.nil ?_
    | refine EW.region ?_
    | refine EW.block ?_
    | refine EW.skip ?_
    | refine EW.exit ?_
    | refine EW.ret ?_
    | refine EW.condT rfl ?_
    | refine EW.condF rfl ?_
    | refine EL.f (FV.addI rfl rfl (by omega)) rfl rfl ?_
    | refine EL.f (FV.subI rfl rfl (by omega)) rfl rfl ?_
    | refine EL.f (FV.remI rfl rfl (by decide) (by omega)) rfl rfl ?_
    | refine EL.f (FV.quoI rfl rfl (by decide) (by omega)) rfl rfl ?_
    | refine EL.f (FV.extract rfl rfl) rfl rfl ?_
    | refine EL.f (FV.len rfl rfl) rfl rfl ?_
    | refine EL.f (FV.lenS rfl rfl) rfl rfl ?_
    | refine EL.f (FV.not rfl) rfl rfl ?_
    | refine EL.skip rfl rfl ?_
    | refine EL.f (FV.pickT rfl rfl) rfl rfl ?_
    | refine EL.f (FV.pickF rfl rfl) rfl rfl ?_
    | refine EL.fT (FV.lss rfl rfl) rfl (fun _ => rfl) (by omega) ?_
    | refine EL.fT (FV.leq rfl rfl) rfl (fun _ => rfl) (by omega) ?_
    | refine EL.fT (FV.gtr rfl rfl) rfl (fun _ => rfl) (by omega) ?_
    | refine EL.fT (FV.geq rfl rfl) rfl (fun _ => rfl) (by omega) ?_
    | refine EL.fT (FV.eql rfl rfl) rfl (fun _ => rfl) (by omega) ?_
    | refine EL.fT (FV.neq rfl rfl) rfl (fun _ => rfl) (by omega) ?_
    | refine EL.fF (FV.lss rfl rfl) rfl (fun _ => rfl) (by omega) ?_
    | refine EL.fF (FV.leq rfl rfl) rfl (fun _ => rfl) (by omega) ?_
    | refine EL.fF (FV.gtr rfl rfl) rfl (fun _ => rfl) (by omega) ?_
    | refine EL.fF (FV.geq rfl rfl) rfl (fun _ => rfl) (by omega) ?_
    | refine EL.fF (FV.eql rfl rfl) rfl (fun _ => rfl) (by omega) ?_
    | refine EL.fF (FV.neq rfl rfl) rfl (fun _ => rfl) (by omega) ?_
    | refine EL.f (FV.rem rfl rfl (by decide)) rfl rfl ?_
    | refine EL.f (FV.idx0 rfl rfl rfl rfl (by omega) (by omega)) rfl rfl ?_
    | refine EL.f (FV.idx1 rfl rfl rfl rfl (by omega) (by omega)) rfl rfl ?_
    | refine EL.f (FV.load1 rfl rfl rfl (by assumption)) rfl rfl ?_)
  refine EL.h (Hv.call (hs _ _ u1 (At.rd t1)) rfl) rfl (fun _ => rfl) ?_
  rintro _ u2 ⟨rfl, e2⟩
  have W2 := e1.trans e2
  repeat' (first
    | refine EW.seq ?_
    | refine EL.f (FV.move rfl) rfl rfl ?_
    | refine EL.f (FV.assign rfl) rfl rfl ?_
    | refine EL.nil ?_
    | refine EW.region ?_
    | refine EW.block ?_
    | refine EW.skip ?_
    | refine EW.exit ?_
    | refine EW.ret ?_
    | refine EW.condT rfl ?_
    | refine EW.condF rfl ?_
    | refine EL.f (FV.addI rfl rfl (by omega)) rfl rfl ?_
    | refine EL.f (FV.subI rfl rfl (by omega)) rfl rfl ?_
    | refine EL.f (FV.remI rfl rfl (by decide) (by omega)) rfl rfl ?_
    | refine EL.f (FV.quoI rfl rfl (by decide) (by omega)) rfl rfl ?_
    | refine EL.f (FV.extract rfl rfl) rfl rfl ?_
    | refine EL.f (FV.len rfl rfl) rfl rfl ?_
    | refine EL.f (FV.lenS rfl rfl) rfl rfl ?_
    | refine EL.f (FV.not rfl) rfl rfl ?_
    | refine EL.skip rfl rfl ?_
    | refine EL.f (FV.pickT rfl rfl) rfl rfl ?_
    | refine EL.f (FV.pickF rfl rfl) rfl rfl ?_
    | refine EL.fT (FV.lss rfl rfl) rfl (fun _ => rfl) (by omega) ?_
    | refine EL.fT (FV.leq rfl rfl) rfl (fun _ => rfl) (by omega) ?_
    | refine EL.fT (FV.gtr rfl rfl) rfl (fun _ => rfl) (by omega) ?_
    | refine EL.fT (FV.geq rfl rfl) rfl (fun _ => rfl) (by omega) ?_
    | refine EL.fT (FV.eql rfl rfl) rfl (fun _ => rfl) (by omega) ?_
    | refine EL.fT (FV.neq rfl rfl) rfl (fun _ => rfl) (by omega) ?_
    | refine EL.fF (FV.lss rfl rfl) rfl (fun _ => rfl) (by omega) ?_
    | refine EL.fF (FV.leq rfl rfl) rfl (fun _ => rfl) (by omega) ?_
    | refine EL.fF (FV.gtr rfl rfl) rfl (fun _ => rfl) (by omega) ?_
    | refine EL.fF (FV.geq rfl rfl) rfl (fun _ => rfl) (by omega) ?_
    | refine EL.fF (FV.eql rfl rfl) rfl (fun _ => rfl) (by omega) ?_
    | refine EL.fF (FV.neq rfl rfl) rfl (fun _ => rfl) (by omega) ?_
    | refine EL.f (FV.rem rfl rfl (by decide)) rfl rfl ?_
    | refine EL.f (FV.idx0 rfl rfl rfl rfl (by omega) (by omega)) rfl rfl ?_
    | refine EL.f (FV.idx1 rfl rfl rfl rfl (by omega) (by omega)) rfl rfl ?_
    | refine EL.f (FV.load1 rfl rfl rfl (by assumption)) rfl rfl ?_)
  refine EL.h (Hv.call (toInts A c xs u2 (hx.ext W2) hn) rfl) rfl (fun _ => rfl) ?_
  rintro _ u3 ⟨p3, rfl, _, t3, e3⟩
  repeat' (first
    | refine EW.seq ?_
    | refine EL.f (FV.move rfl) rfl rfl ?_
    | refine EL.f (FV.assign rfl) rfl rfl ?_
    | refine EL.nil ?_
    | refine EW.region ?_
    | refine EW.block ?_
    | refine EW.skip ?_
    | refine EW.exit ?_
    | refine EW.ret ?_
    | refine EW.condT rfl ?_
    | refine EW.condF rfl ?_
    | refine EL.f (FV.addI rfl rfl (by omega)) rfl rfl ?_
    | refine EL.f (FV.subI rfl rfl (by omega)) rfl rfl ?_
    | refine EL.f (FV.remI rfl rfl (by decide) (by omega)) rfl rfl ?_
    | refine EL.f (FV.quoI rfl rfl (by decide) (by omega)) rfl rfl ?_
    | refine EL.f (FV.extract rfl rfl) rfl rfl ?_
    | refine EL.f (FV.len rfl rfl) rfl rfl ?_
    | refine EL.f (FV.lenS rfl rfl) rfl rfl ?_
    | refine EL.f (FV.not rfl) rfl rfl ?_
    | refine EL.skip rfl rfl ?_
    | refine EL.f (FV.pickT rfl rfl) rfl rfl ?_
    | refine EL.f (FV.pickF rfl rfl) rfl rfl ?_
    | refine EL.fT (FV.lss rfl rfl) rfl (fun _ => rfl) (by omega) ?_
    | refine EL.fT (FV.leq rfl rfl) rfl (fun _ => rfl) (by omega) ?_
    | refine EL.fT (FV.gtr rfl rfl) rfl (fun _ => rfl) (by omega) ?_
    | refine EL.fT (FV.geq rfl rfl) rfl (fun _ => rfl) (by omega) ?_
    | refine EL.fT (FV.eql rfl rfl) rfl (fun _ => rfl) (by omega) ?_
    | refine EL.fT (FV.neq rfl rfl) rfl (fun _ => rfl) (by omega) ?_
    | refine EL.fF (FV.lss rfl rfl) rfl (fun _ => rfl) (by omega) ?_
    | refine EL.fF (FV.leq rfl rfl) rfl (fun _ => rfl) (by omega) ?_
    | refine EL.fF (FV.gtr rfl rfl) rfl (fun _ => rfl) (by omega) ?_
    | refine EL.fF (FV.geq rfl rfl) rfl (fun _ => rfl) (by omega) ?_
    | refine EL.fF (FV.eql rfl rfl) rfl (fun _ => rfl) (by omega) ?_
    | refine EL.fF (FV.neq rfl rfl) rfl (fun _ => rfl) (by omega) ?_
    | refine EL.f (FV.rem rfl rfl (by decide)) rfl rfl ?_
    | refine EL.f (FV.idx0 rfl rfl rfl rfl (by omega) (by omega)) rfl rfl ?_
    | refine EL.f (FV.idx1 rfl rfl rfl rfl (by omega) (by omega)) rfl rfl ?_
    | refine EL.f (FV.load1 rfl rfl rfl (by assumption)) rfl rfl ?_)
  refine EL.h (Hv.call (hi _ _ u3 (At.rd t3)) rfl) rfl (fun _ => rfl) ?_
  rintro _ u4 ⟨rfl, e4⟩
  have W4 := (W2.trans e3).trans e4
  repeat' (first
    | refine EW.seq ?_
    | refine EL.f (FV.move rfl) rfl rfl ?_
    | refine EL.f (FV.assign rfl) rfl rfl ?_
    | refine EL.nil ?_
    | refine EW.region ?_
    | refine EW.block ?_
    | refine EW.skip ?_
    | refine EW.exit ?_
    | refine EW.ret ?_
    | refine EW.condT rfl ?_
    | refine EW.condF rfl ?_
    | refine EL.f (FV.addI rfl rfl (by omega)) rfl rfl ?_
    | refine EL.f (FV.subI rfl rfl (by omega)) rfl rfl ?_
    | refine EL.f (FV.remI rfl rfl (by decide) (by omega)) rfl rfl ?_
    | refine EL.f (FV.quoI rfl rfl (by decide) (by omega)) rfl rfl ?_
    | refine EL.f (FV.extract rfl rfl) rfl rfl ?_
    | refine EL.f (FV.len rfl rfl) rfl rfl ?_
    | refine EL.f (FV.lenS rfl rfl) rfl rfl ?_
    | refine EL.f (FV.not rfl) rfl rfl ?_
    | refine EL.skip rfl rfl ?_
    | refine EL.f (FV.pickT rfl rfl) rfl rfl ?_
    | refine EL.f (FV.pickF rfl rfl) rfl rfl ?_
    | refine EL.fT (FV.lss rfl rfl) rfl (fun _ => rfl) (by omega) ?_
    | refine EL.fT (FV.leq rfl rfl) rfl (fun _ => rfl) (by omega) ?_
    | refine EL.fT (FV.gtr rfl rfl) rfl (fun _ => rfl) (by omega) ?_
    | refine EL.fT (FV.geq rfl rfl) rfl (fun _ => rfl) (by omega) ?_
    | refine EL.fT (FV.eql rfl rfl) rfl (fun _ => rfl) (by omega) ?_
    | refine EL.fT (FV.neq rfl rfl) rfl (fun _ => rfl) (by omega) ?_
    | refine EL.fF (FV.lss rfl rfl) rfl (fun _ => rfl) (by omega) ?_
    | refine EL.fF (FV.leq rfl rfl) rfl (fun _ => rfl) (by omega) ?_
    | refine EL.fF (FV.gtr rfl rfl) rfl (fun _ => rfl) (by omega) ?_
    | refine EL.fF (FV.geq rfl rfl) rfl (fun _ => rfl) (by omega) ?_
    | refine EL.fF (FV.eql rfl rfl) rfl (fun _ => rfl) (by omega) ?_
    | refine EL.fF (FV.neq rfl rfl) rfl (fun _ => rfl) (by omega) ?_
    | refine EL.f (FV.rem rfl rfl (by decide)) rfl rfl ?_
    | refine EL.f (FV.idx0 rfl rfl rfl rfl (by omega) (by omega)) rfl rfl ?_
    | refine EL.f (FV.idx1 rfl rfl rfl rfl (by omega) (by omega)) rfl rfl ?_
    | refine EL.f (FV.load1 rfl rfl rfl (by assumption)) rfl rfl ?_)
  refine EL.h (Hv.call (toInts A c xs u4 (hx.ext W4) hn) rfl) rfl (fun _ => rfl) ?_
  rintro _ u5 ⟨p5, rfl, _, t5, e5⟩
  repeat' (first
    | refine EW.seq ?_
    | refine EL.f (FV.move rfl) rfl rfl ?_
    | refine EL.f (FV.assign rfl) rfl rfl ?_
    | refine EL.nil ?_
    | refine EW.region ?_
    | refine EW.block ?_
    | refine EW.skip ?_
    | refine EW.exit ?_
    | refine EW.ret ?_
    | refine EW.condT rfl ?_
    | refine EW.condF rfl ?_
    | refine EL.f (FV.addI rfl rfl (by omega)) rfl rfl ?_
    | refine EL.f (FV.subI rfl rfl (by omega)) rfl rfl ?_
    | refine EL.f (FV.remI rfl rfl (by decide) (by omega)) rfl rfl ?_
    | refine EL.f (FV.quoI rfl rfl (by decide) (by omega)) rfl rfl ?_
    | refine EL.f (FV.extract rfl rfl) rfl rfl ?_
    | refine EL.f (FV.len rfl rfl) rfl rfl ?_
    | refine EL.f (FV.lenS rfl rfl) rfl rfl ?_
    | refine EL.f (FV.not rfl) rfl rfl ?_
    | refine EL.skip rfl rfl ?_
    | refine EL.f (FV.pickT rfl rfl) rfl rfl ?_
    | refine EL.f (FV.pickF rfl rfl) rfl rfl ?_
    | refine EL.fT (FV.lss rfl rfl) rfl (fun _ => rfl) (by omega) ?_
    | refine EL.fT (FV.leq rfl rfl) rfl (fun _ => rfl) (by omega) ?_
    | refine EL.fT (FV.gtr rfl rfl) rfl (fun _ => rfl) (by omega) ?_
    | refine EL.fT (FV.geq rfl rfl) rfl (fun _ => rfl) (by omega) ?_
    | refine EL.fT (FV.eql rfl rfl) rfl (fun _ => rfl) (by omega) ?_
    | refine EL.fT (FV.neq rfl rfl) rfl (fun _ => rfl) (by omega) ?_
    | refine EL.fF (FV.lss rfl rfl) rfl (fun _ => rfl) (by omega) ?_
    | refine EL.fF (FV.leq rfl rfl) rfl (fun _ => rfl) (by omega) ?_
    | refine EL.fF (FV.gtr rfl rfl) rfl (fun _ => rfl) (by omega) ?_
    | refine EL.fF (FV.geq rfl rfl) rfl (fun _ => rfl) (by omega) ?_
    | refine EL.fF (FV.eql rfl rfl) rfl (fun _ => rfl) (by omega) ?_
    | refine EL.fF (FV.neq rfl rfl) rfl (fun _ => rfl) (by omega) ?_
    | refine EL.f (FV.rem rfl rfl (by decide)) rfl rfl ?_
    | refine EL.f (FV.idx0 rfl rfl rfl rfl (by omega) (by omega)) rfl rfl ?_
    | refine EL.f (FV.idx1 rfl rfl rfl rfl (by omega) (by omega)) rfl rfl ?_
    | refine EL.f (FV.load1 rfl rfl rfl (by assumption)) rfl rfl ?_)
  refine EL.h (Hv.call (eqSame _ _ _ _ xs u5 (At.rd (At.ext t3 (e4.trans e5))) (At.rd t5) hn) rfl) rfl (fun _ => rfl) ?_
  rintro _ u6 ⟨rfl, e6⟩
  repeat' (first
    | refine EW.seq ?_
    | refine EL.f (FV.move rfl) rfl rfl ?_
    | refine EL.f (FV.assign rfl) rfl rfl ?_
    | refine EL.nil ?_
    | refine EW.region ?_
    | refine EW.block ?_
    | refine EW.skip ?_
    | refine EW.exit ?_
    | refine EW.ret ?_
    | refine EW.condT rfl ?_
    | refine EW.condF rfl ?_
    | refine EL.f (FV.addI rfl rfl (by omega)) rfl rfl ?_
    | refine EL.f (FV.subI rfl rfl (by omega)) rfl rfl ?_
    | refine EL.f (FV.remI rfl rfl (by decide) (by omega)) rfl rfl ?_
    | refine EL.f (FV.quoI rfl rfl (by decide) (by omega)) rfl rfl ?_
    | refine EL.f (FV.extract rfl rfl) rfl rfl ?_
    | refine EL.f (FV.len rfl rfl) rfl rfl ?_
    | refine EL.f (FV.lenS rfl rfl) rfl rfl ?_
    | refine EL.f (FV.not rfl) rfl rfl ?_
    | refine EL.skip rfl rfl ?_
    | refine EL.f (FV.pickT rfl rfl) rfl rfl ?_
    | refine EL.f (FV.pickF rfl rfl) rfl rfl ?_
    | refine EL.fT (FV.lss rfl rfl) rfl (fun _ => rfl) (by omega) ?_
    | refine EL.fT (FV.leq rfl rfl) rfl (fun _ => rfl) (by omega) ?_
    | refine EL.fT (FV.gtr rfl rfl) rfl (fun _ => rfl) (by omega) ?_
    | refine EL.fT (FV.geq rfl rfl) rfl (fun _ => rfl) (by omega) ?_
    | refine EL.fT (FV.eql rfl rfl) rfl (fun _ => rfl) (by omega) ?_
    | refine EL.fT (FV.neq rfl rfl) rfl (fun _ => rfl) (by omega) ?_
    | refine EL.fF (FV.lss rfl rfl) rfl (fun _ => rfl) (by omega) ?_
    | refine EL.fF (FV.leq rfl rfl) rfl (fun _ => rfl) (by omega) ?_
    | refine EL.fF (FV.gtr rfl rfl) rfl (fun _ => rfl) (by omega) ?_
    | refine EL.fF (FV.geq rfl rfl) rfl (fun _ => rfl) (by omega) ?_
    | refine EL.fF (FV.eql rfl rfl) rfl (fun _ => rfl) (by omega) ?_
    | refine EL.fF (FV.neq rfl rfl) rfl (fun _ => rfl) (by omega) ?_
    | refine EL.f (FV.rem rfl rfl (by decide)) rfl rfl ?_
    | refine EL.f (FV.idx0 rfl rfl rfl rfl (by omega) (by omega)) rfl rfl ?_
    | refine EL.f (FV.idx1 rfl rfl rfl rfl (by omega) (by omega)) rfl rfl ?_
    | refine EL.f (FV.load1 rfl rfl rfl (by assumption)) rfl rfl ?_)
  exact ⟨_, rfl, rfl, (W4.trans e5).trans e6⟩

/-! validity -/
theorem specValidS (A : Option Addr) (c : Nat) (xs : List Int) (w : World) (hx : Rd w A (ints xs)) (hn : xs.length ≤ 1048576) :
    CallsR Try.prog 30 [.slice A xs.length c] w fun v w' => v = .bool (vld xs) ∧ w = w' := by
  refine CallsR.enter Try.func30 (by decide +kernel) rfl Try.ntmps30 rfl ?_
  repeat' (first
    | (refine EL.h (Hv.call (specOk A c xs w hx (by omega)) rfl) rfl (fun _ => rfl) ?_; rintro _ _ ⟨rfl, rfl⟩)
    | refine EW.seq ?_
    | refine EL.f (FV.move rfl) rfl rfl ?_
    | refine EL.f (FV.assign rfl) rfl rfl ?_
    | refine EL.nil ?_
    | refine EW.region ?_
    | refine EW.block ?_
    | refine EW.skip ?_
    | refine EW.exit ?_
    | refine EW.ret ?_
    | refine EW.condT rfl ?_
    | refine EW.condF rfl ?_
    | refine EL.f (FV.addI rfl rfl (by omega)) rfl rfl ?_
    | refine EL.f (FV.subI rfl rfl (by omega)) rfl rfl ?_
    | refine EL.f (FV.remI rfl rfl (by decide) (by omega)) rfl rfl ?_
    | refine EL.f (FV.quoI rfl rfl (by decide) (by omega)) rfl rfl ?_
    | refine EL.f (FV.extract rfl rfl) rfl rfl ?_
    | refine EL.f (FV.len rfl rfl) rfl rfl ?_
    | refine EL.f (FV.lenS rfl rfl) rfl rfl ?_
    | refine EL.f (FV.not rfl) rfl rfl ?_
    | refine EL.skip rfl rfl ?_
    | refine EL.f (FV.pickT rfl rfl) rfl rfl ?_
    | refine EL.f (FV.pickF rfl rfl) rfl rfl ?_
    | refine EL.fT (FV.lss rfl rfl) rfl (fun _ => rfl) (by omega) ?_
    | refine EL.fT (FV.leq rfl rfl) rfl (fun _ => rfl) (by omega) ?_
    | refine EL.fT (FV.gtr rfl rfl) rfl (fun _ => rfl) (by omega) ?_
    | refine EL.fT (FV.geq rfl rfl) rfl (fun _ => rfl) (by omega) ?_
    | refine EL.fT (FV.eql rfl rfl) rfl (fun _ => rfl) (by omega) ?_
    | refine EL.fT (FV.neq rfl rfl) rfl (fun _ => rfl) (by omega) ?_
    | refine EL.fF (FV.lss rfl rfl) rfl (fun _ => rfl) (by omega) ?_
    | refine EL.fF (FV.leq rfl rfl) rfl (fun _ => rfl) (by omega) ?_
    | refine EL.fF (FV.gtr rfl rfl) rfl (fun _ => rfl) (by omega) ?_
    | refine EL.fF (FV.geq rfl rfl) rfl (fun _ => rfl) (by omega) ?_
    | refine EL.fF (FV.eql rfl rfl) rfl (fun _ => rfl) (by omega) ?_
    | refine EL.fF (FV.neq rfl rfl) rfl (fun _ => rfl) (by omega) ?_
    | refine EL.f (FV.rem rfl rfl (by decide)) rfl rfl ?_
    | refine EL.f (FV.idx0 rfl rfl rfl rfl (by omega) (by omega)) rfl rfl ?_
    | refine EL.f (FV.idx1 rfl rfl rfl rfl (by omega) (by omega)) rfl rfl ?_
    | refine EL.f (FV.load1 rfl rfl rfl (by assumption)) rfl rfl ?_)
  exact ⟨_, rfl, rfl, rfl⟩
theorem lawValidSeries (A : Option Addr) (c : Nat) (xs : List Int) (w : World) (hx : Rd w A (ints xs)) :
    CallsR Try.prog 8 [.slice A xs.length c] w fun v w' => v = .bool true ∧ Ext w w' := by
  refine CallsR.enter Try.func8 (by decide +kernel) rfl Try.ntmps8 rfl ?_
  by_cases hl : (1048576 : Int) < xs.length
  · repeat' (first
      | refine EW.seq ?_
      | refine EL.f (FV.move rfl) rfl rfl ?_
      | refine EL.f (FV.assign rfl) rfl rfl ?_
      | refine EL.nil ?_
      | refine EW.region ?_
      | refine EW.block ?_
      | refine EW.skip ?_
      | refine EW.exit ?_
      | refine EW.ret ?_
      | refine EW.condT rfl ?_
      | refine EW.condF rfl ?_
      | refine EL.f (FV.addI rfl rfl (by omega)) rfl rfl ?_
      | refine EL.f (FV.subI rfl rfl (by omega)) rfl rfl ?_
      | refine EL.f (FV.remI rfl rfl (by decide) (by omega)) rfl rfl ?_
      | refine EL.f (FV.quoI rfl rfl (by decide) (by omega)) rfl rfl ?_
      | refine EL.f (FV.extract rfl rfl) rfl rfl ?_
      | refine EL.f (FV.len rfl rfl) rfl rfl ?_
      | refine EL.f (FV.lenS rfl rfl) rfl rfl ?_
      | refine EL.f (FV.not rfl) rfl rfl ?_
      | refine EL.skip rfl rfl ?_
      | refine EL.f (FV.pickT rfl rfl) rfl rfl ?_
      | refine EL.f (FV.pickF rfl rfl) rfl rfl ?_
      | refine EL.fT (FV.lss rfl rfl) rfl (fun _ => rfl) (by omega) ?_
      | refine EL.fT (FV.leq rfl rfl) rfl (fun _ => rfl) (by omega) ?_
      | refine EL.fT (FV.gtr rfl rfl) rfl (fun _ => rfl) (by omega) ?_
      | refine EL.fT (FV.geq rfl rfl) rfl (fun _ => rfl) (by omega) ?_
      | refine EL.fT (FV.eql rfl rfl) rfl (fun _ => rfl) (by omega) ?_
      | refine EL.fT (FV.neq rfl rfl) rfl (fun _ => rfl) (by omega) ?_
      | refine EL.fF (FV.lss rfl rfl) rfl (fun _ => rfl) (by omega) ?_
      | refine EL.fF (FV.leq rfl rfl) rfl (fun _ => rfl) (by omega) ?_
      | refine EL.fF (FV.gtr rfl rfl) rfl (fun _ => rfl) (by omega) ?_
      | refine EL.fF (FV.geq rfl rfl) rfl (fun _ => rfl) (by omega) ?_
      | refine EL.fF (FV.eql rfl rfl) rfl (fun _ => rfl) (by omega) ?_
      | refine EL.fF (FV.neq rfl rfl) rfl (fun _ => rfl) (by omega) ?_
      | refine EL.f (FV.rem rfl rfl (by decide)) rfl rfl ?_
      | refine EL.f (FV.idx0 rfl rfl rfl rfl (by omega) (by omega)) rfl rfl ?_
      | refine EL.f (FV.idx1 rfl rfl rfl rfl (by omega) (by omega)) rfl rfl ?_
      | refine EL.f (FV.load1 rfl rfl rfl (by assumption)) rfl rfl ?_)
    exact ⟨_, rfl, rfl, Ext.refl _⟩
  have hn : xs.length ≤ 1048576 := by omega
  repeat' (first
    | refine EW.seq ?_
    | refine EL.f (FV.move rfl) rfl rfl ?_
    | refine EL.f (FV.assign rfl) rfl rfl ?_
    | refine EL.nil ?_
    | refine EW.region ?_
    | refine EW.block ?_
    | refine EW.skip ?_
    | refine EW.exit ?_
    | refine EW.ret ?_
    | refine EW.condT rfl ?_
    | refine EW.condF rfl ?_
    | refine EL.f (FV.addI rfl rfl (by omega)) rfl rfl ?_
    | refine EL.f (FV.subI rfl rfl (by omega)) rfl rfl ?_
    | refine EL.f (FV.remI rfl rfl (by decide) (by omega)) rfl rfl ?_
    | refine EL.f (FV.quoI rfl rfl (by decide) (by omega)) rfl rfl ?_
    | refine EL.f (FV.extract rfl rfl) rfl rfl ?_
    | refine EL.f (FV.len rfl rfl) rfl rfl ?_
    | refine EL.f (FV.lenS rfl rfl) rfl rfl ?_
    | refine EL.f (FV.not rfl) rfl rfl ?_
    | refine EL.skip rfl rfl ?_
    | refine EL.f (FV.pickT rfl rfl) rfl rfl ?_
    | refine EL.f (FV.pickF rfl rfl) rfl rfl ?_
    | refine EL.fT (FV.lss rfl rfl) rfl (fun _ => rfl) (by omega) ?_
    | refine EL.fT (FV.leq rfl rfl) rfl (fun _ => rfl) (by omega) ?_
    | refine EL.fT (FV.gtr rfl rfl) rfl (fun _ => rfl) (by omega) ?_
    | refine EL.fT (FV.geq rfl rfl) rfl (fun _ => rfl) (by omega) ?_
    | refine EL.fT (FV.eql rfl rfl) rfl (fun _ => rfl) (by omega) ?_
    | refine EL.fT (FV.neq rfl rfl) rfl (fun _ => rfl) (by omega) ?_
    | refine EL.fF (FV.lss rfl rfl) rfl (fun _ => rfl) (by omega) ?_
    | refine EL.fF (FV.leq rfl rfl) rfl (fun _ => rfl) (by omega) ?_
    | refine EL.fF (FV.gtr rfl rfl) rfl (fun _ => rfl) (by omega) ?_
    | refine EL.fF (FV.geq rfl rfl) rfl (fun _ => rfl) (by omega) ?_
    | refine EL.fF (FV.eql rfl rfl) rfl (fun _ => rfl) (by omega) ?_
    | refine EL.fF (FV.neq rfl rfl) rfl (fun _ => rfl) (by omega) ?_
    | refine EL.f (FV.rem rfl rfl (by decide)) rfl rfl ?_
    | refine EL.f (FV.idx0 rfl rfl rfl rfl (by omega) (by omega)) rfl rfl ?_
    | refine EL.f (FV.idx1 rfl rfl rfl rfl (by omega) (by omega)) rfl rfl ?_
    | refine EL.f (FV.load1 rfl rfl rfl (by assumption)) rfl rfl ?_)
  refine EL.h (Hv.call (toInts A c xs w hx hn) rfl) rfl (fun _ => rfl) ?_
  rintro _ u1 ⟨p1, rfl, _, t1, e1⟩
  repeat' (first
    | refine EW.seq ?_
    | refine EL.f (FV.move rfl) rfl rfl ?_
    | refine EL.f (FV.assign rfl) rfl rfl ?_
    | refine EL.nil ?_
    | refine EW.region ?_
    | refine EW.block ?_
    | refine EW.skip ?_
    | refine EW.exit ?_
    | refine EW.ret ?_
    | refine EW.condT rfl ?_
    | refine EW.condF rfl ?_
    | refine EL.f (FV.addI rfl rfl (by omega)) rfl rfl ?_
    | refine EL.f (FV.subI rfl rfl (by omega)) rfl rfl ?_
    | refine EL.f (FV.remI rfl rfl (by decide) (by omega)) rfl rfl ?_
    | refine EL.f (FV.quoI rfl rfl (by decide) (by omega)) rfl rfl ?_
    | refine EL.f (FV.extract rfl rfl) rfl rfl ?_
    | refine EL.f (FV.len rfl rfl) rfl rfl ?_
    | refine EL.f (FV.lenS rfl rfl) rfl rfl ?_
    | refine EL.f (FV.not rfl) rfl rfl ?_
    | refine EL.skip rfl rfl ?_
    | refine EL.f (FV.pickT rfl rfl) rfl rfl ?_
    | refine EL.f (FV.pickF rfl rfl) rfl rfl ?_
    | refine EL.fT (FV.lss rfl rfl) rfl (fun _ => rfl) (by omega) ?_
    | refine EL.fT (FV.leq rfl rfl) rfl (fun _ => rfl) (by omega) ?_
    | refine EL.fT (FV.gtr rfl rfl) rfl (fun _ => rfl) (by omega) ?_
    | refine EL.fT (FV.geq rfl rfl) rfl (fun _ => rfl) (by omega) ?_
    | refine EL.fT (FV.eql rfl rfl) rfl (fun _ => rfl) (by omega) ?_
    | refine EL.fT (FV.neq rfl rfl) rfl (fun _ => rfl) (by omega) ?_
    | refine EL.fF (FV.lss rfl rfl) rfl (fun _ => rfl) (by omega) ?_
    | refine EL.fF (FV.leq rfl rfl) rfl (fun _ => rfl) (by omega) ?_
    | refine EL.fF (FV.gtr rfl rfl) rfl (fun _ => rfl) (by omega) ?_
    | refine EL.fF (FV.geq rfl rfl) rfl (fun _ => rfl) (by omega) ?_
    | refine EL.fF (FV.eql rfl rfl) rfl (fun _ => rfl) (by omega) ?_
    | refine EL.fF (FV.neq rfl rfl) rfl (fun _ => rfl) (by omega) ?_
    | refine EL.f (FV.rem rfl rfl (by decide)) rfl rfl ?_
    | refine EL.f (FV.idx0 rfl rfl rfl rfl (by omega) (by omega)) rfl rfl ?_
    | refine EL.f (FV.idx1 rfl rfl rfl rfl (by omega) (by omega)) rfl rfl ?_
    | refine EL.f (FV.load1 rfl rfl rfl (by assumption)) rfl rfl ?_)
  refine EL.h (Hv.call (specValidS _ _ xs u1 (At.rd t1) hn) rfl) rfl (fun _ => rfl) ?_
  rintro _ _ ⟨rfl, rfl⟩
  repeat' (first
    | refine EW.seq ?_
    | refine EL.f (FV.move rfl) rfl rfl ?_
    | refine EL.f (FV.assign rfl) rfl rfl ?_
    | refine EL.nil ?_
    | refine EW.region ?_
    | refine EW.block ?_
    | refine EW.skip ?_
    | refine EW.exit ?_
    | refine EW.ret ?_
    | refine EW.condT rfl ?_
    | refine EW.condF rfl ?_
    | refine EL.f (FV.addI rfl rfl (by omega)) rfl rfl ?_
    | refine EL.f (FV.subI rfl rfl (by omega)) rfl rfl ?_
    | refine EL.f (FV.remI rfl rfl (by decide) (by omega)) rfl rfl ?_
    | refine EL.f (FV.quoI rfl rfl (by decide) (by omega)) rfl rfl ?_
    | refine EL.f (FV.extract rfl rfl) rfl rfl ?_
    | refine EL.f (FV.len rfl rfl) rfl rfl ?_
    | refine EL.f (FV.lenS rfl rfl) rfl rfl ?_
    | refine EL.f (FV.not rfl) rfl rfl ?_
    | refine EL.skip rfl rfl ?_
    | refine EL.f (FV.pickT rfl rfl) rfl rfl ?_
    | refine EL.f (FV.pickF rfl rfl) rfl rfl ?_
    | refine EL.fT (FV.lss rfl rfl) rfl (fun _ => rfl) (by omega) ?_
    | refine EL.fT (FV.leq rfl rfl) rfl (fun _ => rfl) (by omega) ?_
    | refine EL.fT (FV.gtr rfl rfl) rfl (fun _ => rfl) (by omega) ?_
    | refine EL.fT (FV.geq rfl rfl) rfl (fun _ => rfl) (by omega) ?_
    | refine EL.fT (FV.eql rfl rfl) rfl (fun _ => rfl) (by omega) ?_
    | refine EL.fT (FV.neq rfl rfl) rfl (fun _ => rfl) (by omega) ?_
    | refine EL.fF (FV.lss rfl rfl) rfl (fun _ => rfl) (by omega) ?_
    | refine EL.fF (FV.leq rfl rfl) rfl (fun _ => rfl) (by omega) ?_
    | refine EL.fF (FV.gtr rfl rfl) rfl (fun _ => rfl) (by omega) ?_
    | refine EL.fF (FV.geq rfl rfl) rfl (fun _ => rfl) (by omega) ?_
    | refine EL.fF (FV.eql rfl rfl) rfl (fun _ => rfl) (by omega) ?_
    | refine EL.fF (FV.neq rfl rfl) rfl (fun _ => rfl) (by omega) ?_
    | refine EL.f (FV.rem rfl rfl (by decide)) rfl rfl ?_
    | refine EL.f (FV.idx0 rfl rfl rfl rfl (by omega) (by omega)) rfl rfl ?_
    | refine EL.f (FV.idx1 rfl rfl rfl rfl (by omega) (by omega)) rfl rfl ?_
    | refine EL.f (FV.load1 rfl rfl rfl (by assumption)) rfl rfl ?_)
  refine EL.h (Hv.call (toInts A c xs u1 (hx.ext e1) hn) rfl) rfl (fun _ => rfl) ?_
  rintro _ u3 ⟨p3, rfl, _, t3, e3⟩
  repeat' (first
    | refine EW.seq ?_
    | refine EL.f (FV.move rfl) rfl rfl ?_
    | refine EL.f (FV.assign rfl) rfl rfl ?_
    | refine EL.nil ?_
    | refine EW.region ?_
    | refine EW.block ?_
    | refine EW.skip ?_
    | refine EW.exit ?_
    | refine EW.ret ?_
    | refine EW.condT rfl ?_
    | refine EW.condF rfl ?_
    | refine EL.f (FV.addI rfl rfl (by omega)) rfl rfl ?_
    | refine EL.f (FV.subI rfl rfl (by omega)) rfl rfl ?_
    | refine EL.f (FV.remI rfl rfl (by decide) (by omega)) rfl rfl ?_
    | refine EL.f (FV.quoI rfl rfl (by decide) (by omega)) rfl rfl ?_
    | refine EL.f (FV.extract rfl rfl) rfl rfl ?_
    | refine EL.f (FV.len rfl rfl) rfl rfl ?_
    | refine EL.f (FV.lenS rfl rfl) rfl rfl ?_
    | refine EL.f (FV.not rfl) rfl rfl ?_
    | refine EL.skip rfl rfl ?_
    | refine EL.f (FV.pickT rfl rfl) rfl rfl ?_
    | refine EL.f (FV.pickF rfl rfl) rfl rfl ?_
    | refine EL.fT (FV.lss rfl rfl) rfl (fun _ => rfl) (by omega) ?_
    | refine EL.fT (FV.leq rfl rfl) rfl (fun _ => rfl) (by omega) ?_
    | refine EL.fT (FV.gtr rfl rfl) rfl (fun _ => rfl) (by omega) ?_
    | refine EL.fT (FV.geq rfl rfl) rfl (fun _ => rfl) (by omega) ?_
    | refine EL.fT (FV.eql rfl rfl) rfl (fun _ => rfl) (by omega) ?_
    | refine EL.fT (FV.neq rfl rfl) rfl (fun _ => rfl) (by omega) ?_
    | refine EL.fF (FV.lss rfl rfl) rfl (fun _ => rfl) (by omega) ?_
    | refine EL.fF (FV.leq rfl rfl) rfl (fun _ => rfl) (by omega) ?_
    | refine EL.fF (FV.gtr rfl rfl) rfl (fun _ => rfl) (by omega) ?_
    | refine EL.fF (FV.geq rfl rfl) rfl (fun _ => rfl) (by omega) ?_
    | refine EL.fF (FV.eql rfl rfl) rfl (fun _ => rfl) (by omega) ?_
    | refine EL.fF (FV.neq rfl rfl) rfl (fun _ => rfl) (by omega) ?_
    | refine EL.f (FV.rem rfl rfl (by decide)) rfl rfl ?_
    | refine EL.f (FV.idx0 rfl rfl rfl rfl (by omega) (by omega)) rfl rfl ?_
    | refine EL.f (FV.idx1 rfl rfl rfl rfl (by omega) (by omega)) rfl rfl ?_
    | refine EL.f (FV.load1 rfl rfl rfl (by assumption)) rfl rfl ?_)
  refine EL.h (Hv.call (implValid _ _ xs u3 (At.rd t3) (by omega)) rfl) rfl (fun _ => rfl) ?_
  rintro _ _ ⟨rfl, rfl⟩
  have W4 := e1.trans e3
  repeat' (first
    | refine EW.seq ?_
    | refine EL.f (FV.move rfl) rfl rfl ?_
    | refine EL.f (FV.assign rfl) rfl rfl ?_
    | refine EL.nil ?_
    | refine EW.region ?_
    | refine EW.block ?_
    | refine EW.skip ?_
    | refine EW.exit ?_
    | refine EW.ret ?_
    | refine EW.condT rfl ?_
    | refine EW.condF rfl ?_
    | refine EL.f (FV.addI rfl rfl (by omega)) rfl rfl ?_
    | refine EL.f (FV.subI rfl rfl (by omega)) rfl rfl ?_
    | refine EL.f (FV.remI rfl rfl (by decide) (by omega)) rfl rfl ?_
    | refine EL.f (FV.quoI rfl rfl (by decide) (by omega)) rfl rfl ?_
    | refine EL.f (FV.extract rfl rfl) rfl rfl ?_
    | refine EL.f (FV.len rfl rfl) rfl rfl ?_
    | refine EL.f (FV.lenS rfl rfl) rfl rfl ?_
    | refine EL.f (FV.not rfl) rfl rfl ?_
    | refine EL.skip rfl rfl ?_
    | refine EL.f (FV.pickT rfl rfl) rfl rfl ?_
    | refine EL.f (FV.pickF rfl rfl) rfl rfl ?_
    | refine EL.fT (FV.lss rfl rfl) rfl (fun _ => rfl) (by omega) ?_
    | refine EL.fT (FV.leq rfl rfl) rfl (fun _ => rfl) (by omega) ?_
    | refine EL.fT (FV.gtr rfl rfl) rfl (fun _ => rfl) (by omega) ?_
    | refine EL.fT (FV.geq rfl rfl) rfl (fun _ => rfl) (by omega) ?_
    | refine EL.fT (FV.eql rfl rfl) rfl (fun _ => rfl) (by omega) ?_
    | refine EL.fT (FV.neq rfl rfl) rfl (fun _ => rfl) (by omega) ?_
    | refine EL.fF (FV.lss rfl rfl) rfl (fun _ => rfl) (by omega) ?_
    | refine EL.fF (FV.leq rfl rfl) rfl (fun _ => rfl) (by omega) ?_
    | refine EL.fF (FV.gtr rfl rfl) rfl (fun _ => rfl) (by omega) ?_
    | refine EL.fF (FV.geq rfl rfl) rfl (fun _ => rfl) (by omega) ?_
    | refine EL.fF (FV.eql rfl rfl) rfl (fun _ => rfl) (by omega) ?_
    | refine EL.fF (FV.neq rfl rfl) rfl (fun _ => rfl) (by omega) ?_
    | refine EL.f (FV.rem rfl rfl (by decide)) rfl rfl ?_
    | refine EL.f (FV.idx0 rfl rfl rfl rfl (by omega) (by omega)) rfl rfl ?_
    | refine EL.f (FV.idx1 rfl rfl rfl rfl (by omega) (by omega)) rfl rfl ?_
    | refine EL.f (FV.load1 rfl rfl rfl (by assumption)) rfl rfl ?_)
  refine EL.f (FV.neqB rfl rfl rfl) rfl rfl ?_
  have hv : (vld xs != vld xs) = false := by simp
  rw [hv]
  repeat' (first
    | refine EW.seq ?_
    | refine EL.f (FV.move rfl) rfl rfl ?_
    | refine EL.f (FV.assign rfl) rfl rfl ?_
    | refine EL.nil ?_
    | refine EW.region ?_
    | refine EW.block ?_
    | refine EW.skip ?_
    | refine EW.exit ?_
    | refine EW.ret ?_
    | refine EW.condT rfl ?_
    | refine EW.condF rfl ?_
    | refine EL.f (FV.addI rfl rfl (by omega)) rfl rfl ?_
    | refine EL.f (FV.subI rfl rfl (by omega)) rfl rfl ?_
    | refine EL.f (FV.remI rfl rfl (by decide) (by omega)) rfl rfl ?_
    | refine EL.f (FV.quoI rfl rfl (by decide) (by omega)) rfl rfl ?_
    | refine EL.f (FV.extract rfl rfl) rfl rfl ?_
    | refine EL.f (FV.len rfl rfl) rfl rfl ?_
    | refine EL.f (FV.lenS rfl rfl) rfl rfl ?_
    | refine EL.f (FV.not rfl) rfl rfl ?_
    | refine EL.skip rfl rfl ?_
    | refine EL.f (FV.pickT rfl rfl) rfl rfl ?_
    | refine EL.f (FV.pickF rfl rfl) rfl rfl ?_
    | refine EL.fT (FV.lss rfl rfl) rfl (fun _ => rfl) (by omega) ?_
    | refine EL.fT (FV.leq rfl rfl) rfl (fun _ => rfl) (by omega) ?_
    | refine EL.fT (FV.gtr rfl rfl) rfl (fun _ => rfl) (by omega) ?_
    | refine EL.fT (FV.geq rfl rfl) rfl (fun _ => rfl) (by omega) ?_
    | refine EL.fT (FV.eql rfl rfl) rfl (fun _ => rfl) (by omega) ?_
    | refine EL.fT (FV.neq rfl rfl) rfl (fun _ => rfl) (by omega) ?_
    | refine EL.fF (FV.lss rfl rfl) rfl (fun _ => rfl) (by omega) ?_
    | refine EL.fF (FV.leq rfl rfl) rfl (fun _ => rfl) (by omega) ?_
    | refine EL.fF (FV.gtr rfl rfl) rfl (fun _ => rfl) (by omega) ?_
    | refine EL.fF (FV.geq rfl rfl) rfl (fun _ => rfl) (by omega) ?_
    | refine EL.fF (FV.eql rfl rfl) rfl (fun _ => rfl) (by omega) ?_
    | refine EL.fF (FV.neq rfl rfl) rfl (fun _ => rfl) (by omega) ?_
    | refine EL.f (FV.rem rfl rfl (by decide)) rfl rfl ?_
    | refine EL.f (FV.idx0 rfl rfl rfl rfl (by omega) (by omega)) rfl rfl ?_
    | refine EL.f (FV.idx1 rfl rfl rfl rfl (by omega) (by omega)) rfl rfl ?_
    | refine EL.f (FV.load1 rfl rfl rfl (by assumption)) rfl rfl ?_)
  refine EL.h (Hv.call (toInts A c xs u3 (hx.ext W4) hn) rfl) rfl (fun _ => rfl) ?_
  rintro _ u5 ⟨p5, rfl, _, t5, e5⟩
  repeat' (first
    | refine EW.seq ?_
    | refine EL.f (FV.move rfl) rfl rfl ?_
    | refine EL.f (FV.assign rfl) rfl rfl ?_
    | refine EL.nil ?_
    | refine EW.region ?_
    | refine EW.block ?_
    | refine EW.skip ?_
    | refine EW.exit ?_
    | refine EW.ret ?_
    | refine EW.condT rfl ?_
    | refine EW.condF rfl ?_
    | refine EL.f (FV.addI rfl rfl (by omega)) rfl rfl ?_
    | refine EL.f (FV.subI rfl rfl (by omega)) rfl rfl ?_
    | refine EL.f (FV.remI rfl rfl (by decide) (by omega)) rfl rfl ?_
    | refine EL.f (FV.quoI rfl rfl (by decide) (by omega)) rfl rfl ?_
    | refine EL.f (FV.extract rfl rfl) rfl rfl ?_
    | refine EL.f (FV.len rfl rfl) rfl rfl ?_
    | refine EL.f (FV.lenS rfl rfl) rfl rfl ?_
    | refine EL.f (FV.not rfl) rfl rfl ?_
    | refine EL.skip rfl rfl ?_
    | refine EL.f (FV.pickT rfl rfl) rfl rfl ?_
    | refine EL.f (FV.pickF rfl rfl) rfl rfl ?_
    | refine EL.fT (FV.lss rfl rfl) rfl (fun _ => rfl) (by omega) ?_
    | refine EL.fT (FV.leq rfl rfl) rfl (fun _ => rfl) (by omega) ?_
    | refine EL.fT (FV.gtr rfl rfl) rfl (fun _ => rfl) (by omega) ?_
    | refine EL.fT (FV.geq rfl rfl) rfl (fun _ => rfl) (by omega) ?_
    | refine EL.fT (FV.eql rfl rfl) rfl (fun _ => rfl) (by omega) ?_
    | refine EL.fT (FV.neq rfl rfl) rfl (fun _ => rfl) (by omega) ?_
    | refine EL.fF (FV.lss rfl rfl) rfl (fun _ => rfl) (by omega) ?_
    | refine EL.fF (FV.leq rfl rfl) rfl (fun _ => rfl) (by omega) ?_
    | refine EL.fF (FV.gtr rfl rfl) rfl (fun _ => rfl) (by omega) ?_
    | refine EL.fF (FV.geq rfl rfl) rfl (fun _ => rfl) (by omega) ?_
    | refine EL.fF (FV.eql rfl rfl) rfl (fun _ => rfl) (by omega) ?_
    | refine EL.fF (FV.neq rfl rfl) rfl (fun _ => rfl) (by omega) ?_
    | refine EL.f (FV.rem rfl rfl (by decide)) rfl rfl ?_
    | refine EL.f (FV.idx0 rfl rfl rfl rfl (by omega) (by omega)) rfl rfl ?_
    | refine EL.f (FV.idx1 rfl rfl rfl rfl (by omega) (by omega)) rfl rfl ?_
    | refine EL.f (FV.load1 rfl rfl rfl (by assumption)) rfl rfl ?_)
  refine EL.h (Hv.call (eqSame _ _ _ _ xs u5 (At.rd (At.ext t3 e5)) (At.rd t5) hn) rfl) rfl (fun _ => rfl) ?_
  rintro _ u6 ⟨rfl, e6⟩
  repeat' (first
    | refine EW.seq ?_
    | refine EL.f (FV.move rfl) rfl rfl ?_
    | refine EL.f (FV.assign rfl) rfl rfl ?_
    | refine EL.nil ?_
    | refine EW.region ?_
    | refine EW.block ?_
    | refine EW.skip ?_
    | refine EW.exit ?_
    | refine EW.ret ?_
    | refine EW.condT rfl ?_
    | refine EW.condF rfl ?_
    | refine EL.f (FV.addI rfl rfl (by omega)) rfl rfl ?_
    | refine EL.f (FV.subI rfl rfl (by omega)) rfl rfl ?_
    | refine EL.f (FV.remI rfl rfl (by decide) (by omega)) rfl rfl ?_
    | refine EL.f (FV.quoI rfl rfl (by decide) (by omega)) rfl rfl ?_
    | refine EL.f (FV.extract rfl rfl) rfl rfl ?_
    | refine EL.f (FV.len rfl rfl) rfl rfl ?_
    | refine EL.f (FV.lenS rfl rfl) rfl rfl ?_
    | refine EL.f (FV.not rfl) rfl rfl ?_
    | refine EL.skip rfl rfl ?_
    | refine EL.f (FV.pickT rfl rfl) rfl rfl ?_
    | refine EL.f (FV.pickF rfl rfl) rfl rfl ?_
    | refine EL.fT (FV.lss rfl rfl) rfl (fun _ => rfl) (by omega) ?_
    | refine EL.fT (FV.leq rfl rfl) rfl (fun _ => rfl) (by omega) ?_
    | refine EL.fT (FV.gtr rfl rfl) rfl (fun _ => rfl) (by omega) ?_
    | refine EL.fT (FV.geq rfl rfl) rfl (fun _ => rfl) (by omega) ?_
    | refine EL.fT (FV.eql rfl rfl) rfl (fun _ => rfl) (by omega) ?_
    | refine EL.fT (FV.neq rfl rfl) rfl (fun _ => rfl) (by omega) ?_
    | refine EL.fF (FV.lss rfl rfl) rfl (fun _ => rfl) (by omega) ?_
    | refine EL.fF (FV.leq rfl rfl) rfl (fun _ => rfl) (by omega) ?_
    | refine EL.fF (FV.gtr rfl rfl) rfl (fun _ => rfl) (by omega) ?_
    | refine EL.fF (FV.geq rfl rfl) rfl (fun _ => rfl) (by omega) ?_
    | refine EL.fF (FV.eql rfl rfl) rfl (fun _ => rfl) (by omega) ?_
    | refine EL.fF (FV.neq rfl rfl) rfl (fun _ => rfl) (by omega) ?_
    | refine EL.f (FV.rem rfl rfl (by decide)) rfl rfl ?_
    | refine EL.f (FV.idx0 rfl rfl rfl rfl (by omega) (by omega)) rfl rfl ?_
    | refine EL.f (FV.idx1 rfl rfl rfl rfl (by omega) (by omega)) rfl rfl ?_
    | refine EL.f (FV.load1 rfl rfl rfl (by assumption)) rfl rfl ?_)
  exact ⟨_, rfl, rfl, (W4.trans e5).trans e6⟩
end Eng
end Go.Proofs.Ytlhfcmcocbiafaa
