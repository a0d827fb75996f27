/- The law FnExactFuncNamed: its walk. Condition: what the arguments hold. -/
import Derived.Test.YtcodicokpegfmaaVj
namespace Go.Proofs.Ytcodicokpegfmaa
open Go Go.RowKit
namespace Eng
set_option linter.unusedVariables false
set_option maxHeartbeats 4000000 in
theorem lawFuncNamed (cs0 : List Value) (e0 : Pr) (s1 : ByteArray) (w : World) (h0 : PrB w 0 cs0 e0) : CallsR Try.prog 12 [.agg cs0.toArray, .string s1] w fun v w' => v = .bool true ∧ Ext w w' := by
  refine CallsR.enter Try.func12 (by decide +kernel) rfl Try.ntmps12 rfl ?_
  repeat' (first
    | refine EW.seq ?_
    | refine EW.region ?_)
  refine EL.h (Hv.boxA (sz := 1) rfl h0.len) rfl (fun _ => rfl) ?_
  rintro _ u1 ⟨g0, rfl, _, hb0, f1⟩
  have W1 := (Ext.refl w).trans f1
  by_cases ls1 : (1048576 : Int) < s1.size
  · repeat' (first
      | (show EL _ _ _ _ (_ :: _) _ _
         first
         | (show EL _ _ _ _ (⟨_, .move _, _, _, _, _⟩ :: _) _ _; refine EL.f (FV.move rfl) rfl rfl ?_)
         | (show EL _ _ _ _ (⟨_, .assign _, _, _, _, _⟩ :: _) _ _; refine EL.f (FV.assign rfl) rfl rfl ?_)
         | (show EL _ _ _ _ (⟨_, .call _, _, _, _, _⟩ :: _) _ _; refine EL.f (FV.lenS rfl rfl) rfl rfl ?_)
         | (show EL _ _ _ _ (⟨_, .binOp .gtr _ _ _ _, _, _, _, _⟩ :: _) _ _; refine EL.fT (FV.gtr rfl rfl) rfl (fun _ => rfl) (by omega) ?_))
      | refine EL.nil ?_
      | refine EW.seq ?_
      | refine EW.region ?_
      | refine EW.ret ?_
      | refine EW.condT rfl ?_)
    exact ⟨_, rfl, rfl, W1⟩
  repeat' (first
    | (show EL _ _ _ _ (_ :: _) _ _
       first
       | (show EL _ _ _ _ (⟨_, .load _ _, _, _, _, _⟩ :: _) _ _; refine EL.f (FV.loadAgg (cs := cs0) rfl rfl rfl h0.len rfl (fun _ e => e ▸ At.lies hb0)) rfl rfl ?_)
       | (show EL _ _ _ _ (⟨_, .move _, _, _, _, _⟩ :: _) _ _; refine EL.f (FV.move rfl) rfl rfl ?_)
       | (show EL _ _ _ _ (⟨_, .assign _, _, _, _, _⟩ :: _) _ _; refine EL.f (FV.assign rfl) rfl rfl ?_)
       | (show EL _ _ _ _ (⟨_, .call _, _, _, _, _⟩ :: _) _ _; refine EL.f (FV.lenS rfl rfl) rfl rfl ?_)
       | (show EL _ _ _ _ (⟨_, .binOp .gtr _ _ _ _, _, _, _, _⟩ :: _) _ _; refine EL.fF (FV.gtr rfl rfl) rfl (fun _ => rfl) (by omega) ?_))
    | refine EL.nil ?_
    | refine EW.seq ?_
    | refine EW.region ?_
    | refine EW.skip ?_
    | refine EW.condF rfl ?_)
  refine EL.h (Hv.call (szProgramC e0 cs0 u1 (1048576) (h0.ext W1) (by omega)) rfl) rfl (fun _ => rfl) ?_
  rintro _ u2 ⟨rfl, f2⟩
  have W2 := W1.trans f2
  replace hb0 := At.ext hb0 f2
  by_cases n0 : ((Pr.cnt e0 : Nat) : Int) ≤ 1048576
  rotate_left
  · rw [szV_gt n0]
    repeat' (first
      | refine EL.f (FV.move rfl) rfl rfl ?_
      | refine EL.f (FV.assign rfl) rfl rfl ?_
      | refine EL.fT (FV.lss rfl rfl) rfl (fun _ => rfl) (by omega) ?_
      | refine EL.nil ?_
      | refine EW.seq ?_
      | refine EW.region ?_
      | refine EW.ret ?_
      | refine EW.condT rfl ?_)
    exact ⟨_, rfl, rfl, W2⟩
  rw [szV_le n0]
  have fit0 : Pr.cnt e0 ≤ 1048576 := by omega
  repeat' (first
    | (show EL _ _ _ _ (_ :: _) _ _
       first
       | (show EL _ _ _ _ (⟨_, .load _ _, _, _, _, _⟩ :: _) _ _; refine EL.f (FV.loadAgg (cs := cs0) rfl rfl rfl h0.len rfl (fun _ e => e ▸ At.lies hb0)) rfl rfl ?_)
       | (show EL _ _ _ _ (⟨_, .move _, _, _, _, _⟩ :: _) _ _; refine EL.f (FV.move rfl) rfl rfl ?_)
       | (show EL _ _ _ _ (⟨_, .assign _, _, _, _, _⟩ :: _) _ _; refine EL.f (FV.assign rfl) rfl rfl ?_)
       | (show EL _ _ _ _ (⟨_, .binOp .lss _ _ _ _, _, _, _, _⟩ :: _) _ _; refine EL.fF (FV.lss rfl rfl) rfl (fun _ => rfl) (by omega) ?_))
    | refine EL.nil ?_
    | refine EW.seq ?_
    | refine EW.region ?_
    | refine EW.skip ?_
    | refine EW.condF rfl ?_)
  refine EL.h (Hv.call (toProgramC e0 fit0 cs0 u2 (h0.ext W2)) rfl) rfl (fun _ => rfl) ?_
  rintro _ u3 ⟨ds0, rfl, d0, f3⟩
  have W3 := W2.trans f3
  replace hb0 := At.ext hb0 f3
  repeat' (first
    | refine EL.f (FV.move rfl) rfl rfl ?_)
  refine EL.h (Hv.call (specNamed e0 fit0 ds0 s1 u3 (d0.lower (Nat.zero_le _))) rfl) rfl (fun _ => rfl) ?_
  rintro _ u4 ⟨rfl, f4⟩
  have W4 := W3.trans f4
  replace hb0 := At.ext hb0 f4
  repeat' (first
    | (show EL _ _ _ _ (_ :: _) _ _
       first
       | (show EL _ _ _ _ (⟨_, .load _ _, _, _, _, _⟩ :: _) _ _; refine EL.f (FV.loadAgg (cs := cs0) rfl rfl rfl h0.len rfl (fun _ e => e ▸ At.lies hb0)) rfl rfl ?_)
       | (show EL _ _ _ _ (⟨_, .move _, _, _, _, _⟩ :: _) _ _; refine EL.f (FV.move rfl) rfl rfl ?_)
       | (show EL _ _ _ _ (⟨_, .assign _, _, _, _, _⟩ :: _) _ _; refine EL.f (FV.assign rfl) rfl rfl ?_)
       | (show EL _ _ _ _ (⟨_, .extract _ _, _, _, _, _⟩ :: _) _ _; refine EL.f (FV.extract rfl rfl) rfl rfl ?_))
    | refine EL.nil ?_
    | refine EW.seq ?_
    | refine EW.region ?_)
  refine EL.h (Hv.call (toProgramC e0 fit0 cs0 u4 (h0.ext W4)) rfl) rfl (fun _ => rfl) ?_
  rintro _ u5 ⟨xs0, rfl, x0, f5⟩
  have W5 := W4.trans f5
  replace hb0 := At.ext hb0 f5
  skip
  refine EL.h (Hv.allocA rfl rfl) rfl (fun _ => rfl) ?_
  rintro _ u6 ⟨k0, rfl, nk0, ka0, f6⟩
  skip
  refine EL.h (Hv.storeAggG (vs := xs0) rfl rfl rfl x0.len x0.one ka0 (by rw [x0.len]; exact Nat.le_refl _)) rfl (fun _ => rfl) ?_
  rintro _ u7 ⟨kb0, r7⟩
  have f7 : Ext u5 u7 := Below.wr f6 r7 (by omega) (Nat.le_refl _)
  rw [setL_all (by rw [x0.len]; rfl)] at kb0
  clear ka0
  have W7 := W5.trans f7
  replace hb0 := At.ext hb0 f7
  replace x0 := PrB.ext x0 f7
  repeat' (first
    | refine EL.f (FV.loadAgg (cs := xs0) rfl rfl rfl x0.len rfl (fun _ e => e ▸ At.lies kb0)) rfl rfl ?_
    | refine EL.f (FV.move rfl) rfl rfl ?_
    | refine EL.nil ?_
    | refine EW.seq ?_
    | refine EW.region ?_)
  refine EL.h (Hv.call (implNamed e0 fit0 xs0 s1 u7 (x0.lower (Nat.zero_le _))) rfl) rfl (fun _ => rfl) ?_
  rintro _ u8 ⟨rfl, f8⟩
  have W8 := W7.trans f8
  replace hb0 := At.ext hb0 f8
  replace x0 := PrB.ext x0 f8
  replace kb0 := At.ext kb0 f8
  repeat' (first
    | (show EL _ _ _ _ (_ :: _) _ _
       first
       | (show EL _ _ _ _ (⟨_, .move _, _, _, _, _⟩ :: _) _ _; refine EL.f (FV.move rfl) rfl rfl ?_)
       | (show EL _ _ _ _ (⟨_, .assign _, _, _, _, _⟩ :: _) _ _; refine EL.f (FV.assign rfl) rfl rfl ?_)
       | (show EL _ _ _ _ (⟨_, .extract _ _, _, _, _, _⟩ :: _) _ _; refine EL.f (FV.extract rfl rfl) rfl rfl ?_)
       | (show EL _ _ _ _ (⟨_, .pick _ _ _, _, _, _, _⟩ :: _) _ _; refine EL.f (FV.pickF rfl rfl) rfl rfl ?_)
       | (show EL _ _ _ _ (⟨_, .binOp .neq _ _ _ _, _, _, _, _⟩ :: _) _ _; refine EL.fF (FV.neq rfl rfl) rfl (fun _ => rfl) (by omega) ?_))
    | refine EL.nil ?_
    | refine EW.seq ?_
    | refine EW.region ?_
    | refine EW.skip ?_
    | refine EW.condF rfl ?_)
  refine EW.draw (fun w' => Ext u8 w') [(0, true), (1, true), (2, false), (3, false), (4, true)] mixed (by decide +kernel) (Ext.drew _) ?_
  repeat' (first
    | refine EP.f rfl (FV.loadAgg (cs := cs0) rfl rfl rfl h0.len rfl (fun _ h' => Lies.ext (At.lies hb0) h')) rfl rfl ?_
    | refine EP.f rfl (FV.loadAgg (cs := xs0) rfl rfl rfl x0.len rfl (fun _ h' => Lies.ext (At.lies kb0) h')) rfl rfl ?_)
  refine EP.h rfl rfl (Hv.call (toProgramC e0 fit0 cs0 u8.drew (h0.ext (W8.trans (Ext.drew u8)))) rfl) rfl (fun _ => rfl) ?_
  rintro _ u9 ⟨ys0, rfl, y0, f9⟩
  have q0 := (Ext.drew u8).trans f9
  refine ⟨q0, ?_⟩
  refine EP.h rfl rfl (Hv.call (eqProgramC e0 fit0 xs0 ys0 u9 ((PrB.ext x0 q0).lower (Nat.zero_le _)) (y0.lower (Nat.zero_le _))) rfl) rfl (fun _ => rfl) ?_
  rintro _ u10 ⟨rfl, f10⟩
  have p0 := q0.trans f10
  refine ⟨p0, ?_⟩
  repeat' (first
    | refine EP.nil ?_
    | refine EP.f rfl (FV.not rfl) rfl rfl ?_)
  have W10 := W8.trans p0
  replace hb0 := At.ext hb0 p0
  replace x0 := PrB.ext x0 p0
  replace kb0 := At.ext kb0 p0
  repeat' (first
    | refine EL.f (FV.assign rfl) rfl rfl ?_
    | refine EL.nil ?_
    | refine EW.seq ?_
    | refine EW.region ?_
    | refine EW.skip ?_
    | refine EW.ret ?_
    | refine EW.condF rfl ?_)
  exact ⟨_, rfl, rfl, W10⟩
end Eng
end Go.Proofs.Ytcodicokpegfmaa
