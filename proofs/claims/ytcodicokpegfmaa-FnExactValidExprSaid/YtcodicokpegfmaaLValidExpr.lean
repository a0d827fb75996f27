/- The law FnExactValidExpr: its walk. Condition: what the arguments hold. -/
import Derived.Test.YtcodicokpegfmaaVt
namespace Go.Proofs.Ytcodicokpegfmaa
open Go Go.RowKit
namespace Eng
set_option linter.unusedVariables false
set_option maxHeartbeats 4000000 in
theorem lawValidExpr (cs0 : List Value) (e0 : Pr) (cs1 : List Value) (e1 : Ex) (a2 : Int) (a3 : Int) (w : World) (h0 : PrB w 0 cs0 e0) (h1 : ExB w 0 cs1 e1) (b2 : -9223372036854775808 ≤ a2 ∧ a2 ≤ 9223372036854775807) (b3 : -9223372036854775808 ≤ a3 ∧ a3 ≤ 9223372036854775807) : CallsR Try.prog 10 [.agg cs0.toArray, .agg cs1.toArray, .int .i64 a2, .int .i64 a3] w fun v w' => v = .bool true ∧ Ext w w' := by
  refine CallsR.enter Try.func10 (by decide +kernel) rfl Try.ntmps10 rfl ?_
  repeat' (first
    | refine EW.seq ?_
    | refine EW.region ?_)
  refine EL.h (Hv.boxA (sz := 1) rfl h0.len) rfl (fun _ => rfl) ?_
  rintro _ u1 ⟨g0, rfl, _, hb0, f1⟩
  have W1 := (Ext.refl w).trans f1
  skip
  refine EL.h (Hv.boxA (sz := 5) rfl h1.len) rfl (fun _ => rfl) ?_
  rintro _ u2 ⟨g1, rfl, _, hb1, f2⟩
  have W2 := W1.trans f2
  replace hb0 := At.ext hb0 f2
  repeat' (first
    | refine EL.f (FV.loadAgg (cs := cs0) rfl rfl rfl h0.len rfl (fun _ e => e ▸ At.lies hb0)) rfl rfl ?_
    | refine EL.f (FV.move rfl) rfl rfl ?_
    | refine EL.f (FV.assign rfl) rfl rfl ?_
    | refine EL.nil ?_
    | refine EW.seq ?_
    | refine EW.region ?_)
  refine EL.h (Hv.call (szProgramC e0 cs0 u2 (1048576) (h0.ext W2) (by omega)) rfl) rfl (fun _ => rfl) ?_
  rintro _ u3 ⟨rfl, f3⟩
  have W3 := W2.trans f3
  replace hb0 := At.ext hb0 f3
  replace hb1 := At.ext hb1 f3
  by_cases n0 : ((Pr.cnt e0 : Nat) : Int) ≤ 1048576
  rotate_left
  · rw [szV_gt n0]
    repeat' (first
      | refine EL.f (FV.move rfl) rfl rfl ?_
      | refine EL.f (FV.assign rfl) rfl rfl ?_
      | refine EL.fT (FV.lss rfl rfl) rfl (fun _ => rfl) (by omega) ?_
      | refine EL.nil ?_
      | refine EW.seq ?_
      | refine EW.region ?_
      | refine EW.ret ?_
      | refine EW.condT rfl ?_)
    exact ⟨_, rfl, rfl, W3⟩
  rw [szV_le n0]
  have fit0 : Pr.cnt e0 ≤ 1048576 := by omega
  repeat' (first
    | (show EL _ _ _ _ (_ :: _) _ _
       first
       | (show EL _ _ _ _ (⟨_, .load _ _, _, _, _, _⟩ :: _) _ _; refine EL.f (FV.loadAgg (cs := cs1) rfl rfl rfl h1.len rfl (fun _ e => e ▸ At.lies hb1)) rfl rfl ?_)
       | (show EL _ _ _ _ (⟨_, .move _, _, _, _, _⟩ :: _) _ _; refine EL.f (FV.move rfl) rfl rfl ?_)
       | (show EL _ _ _ _ (⟨_, .assign _, _, _, _, _⟩ :: _) _ _; refine EL.f (FV.assign rfl) rfl rfl ?_)
       | (show EL _ _ _ _ (⟨_, .binOp .lss _ _ _ _, _, _, _, _⟩ :: _) _ _; refine EL.fF (FV.lss rfl rfl) rfl (fun _ => rfl) (by omega) ?_))
    | refine EL.nil ?_
    | refine EW.seq ?_
    | refine EW.region ?_
    | refine EW.skip ?_
    | refine EW.condF rfl ?_)
  refine EL.h (Hv.call (szExprC e1 cs1 u3 (1048576 - ((Pr.cnt e0 : Nat) : Int)) (h1.ext W3) (by omega)) rfl) rfl (fun _ => rfl) ?_
  rintro _ u4 ⟨rfl, f4⟩
  have W4 := W3.trans f4
  replace hb0 := At.ext hb0 f4
  replace hb1 := At.ext hb1 f4
  by_cases n1 : ((Ex.sizeL e1.kids : Nat) : Int) ≤ 1048576 - ((Pr.cnt e0 : Nat) : Int)
  rotate_left
  · rw [szV_gt n1]
    repeat' (first
      | refine EL.f (FV.move rfl) rfl rfl ?_
      | refine EL.f (FV.assign rfl) rfl rfl ?_
      | refine EL.fT (FV.lss rfl rfl) rfl (fun _ => rfl) (by omega) ?_
      | refine EL.nil ?_
      | refine EW.seq ?_
      | refine EW.region ?_
      | refine EW.ret ?_
      | refine EW.condT rfl ?_)
    exact ⟨_, rfl, rfl, W4⟩
  rw [szV_le n1]
  have z1 := size_kids e1
  have fit1 : e1.size ≤ 1048577 := by omega
  repeat' (first
    | refine EL.f (FV.move rfl) rfl rfl ?_
    | refine EL.f (FV.assign rfl) rfl rfl ?_
    | refine EL.fF (FV.lss rfl rfl) rfl (fun _ => rfl) (by omega) ?_
    | refine EL.nil ?_
    | refine EW.seq ?_
    | refine EW.region ?_
    | refine EW.skip ?_
    | refine EW.condF rfl ?_)
  refine EW.draw (fun w' => Ext u4 w') [(0, true), (2, true), (4, true), (5, true), (1, false), (3, false), (6, false), (7, true)] mixed (by decide +kernel) (Ext.drew _) ?_
  repeat' (first
    | refine EP.f rfl (FV.loadAgg (cs := cs0) rfl rfl rfl h0.len rfl (fun _ h' => Lies.ext (At.lies hb0) h')) rfl rfl ?_
    | refine EP.f rfl (FV.loadAgg (cs := cs1) rfl rfl rfl h1.len rfl (fun _ h' => Lies.ext (At.lies hb1) h')) rfl rfl ?_
    | refine EP.f rfl (FV.move rfl) rfl rfl ?_)
  refine EP.h rfl rfl (Hv.call (toProgramC e0 fit0 cs0 u4.drew (h0.ext (W4.trans (Ext.drew u4)))) rfl) rfl (fun _ => rfl) ?_
  rintro _ u5 ⟨ds0, rfl, d0, f5⟩
  have e5_ := Ext.trans (Ext.drew u4) f5
  refine ⟨e5_, ?_⟩
  refine EP.h rfl rfl (Hv.call (toExprC e1 fit1 cs1 u5 (h1.ext (W4.trans e5_))) rfl) rfl (fun _ => rfl) ?_
  rintro _ u6 ⟨ds1, rfl, d1, f6⟩
  have e6_ := Ext.trans e5_ f6
  refine ⟨e6_, ?_⟩
  replace d0 := d0.ext f6
  refine EP.h rfl rfl (Hv.call (specValidE e0 e1 fit1 ds0 ds1 a2 a3 u6 (d0.lower (Nat.zero_le _)) (d1.lower (Nat.zero_le _))) rfl) rfl (fun _ => rfl) ?_
  rintro _ u7 ⟨rfl, f7⟩
  have e7_ := Ext.trans e6_ f7
  refine ⟨e7_, ?_⟩
  repeat' (first
    | refine EP.nil ?_
    | refine EP.f rfl (FV.assign rfl) rfl rfl ?_)
  have W7 := W4.trans e7_
  replace hb0 := At.ext hb0 e7_
  replace hb1 := At.ext hb1 e7_
  repeat' (first
    | refine EL.f (FV.loadAgg (cs := cs0) rfl rfl rfl h0.len rfl (fun _ e => e ▸ At.lies hb0)) rfl rfl ?_
    | refine EW.seq ?_
    | refine EW.region ?_)
  refine EL.h (Hv.call (toProgramC e0 fit0 cs0 u7 (h0.ext W7)) rfl) rfl (fun _ => rfl) ?_
  rintro _ u8 ⟨xs0, rfl, x0, f8⟩
  have W8 := W7.trans f8
  replace hb0 := At.ext hb0 f8
  replace hb1 := At.ext hb1 f8
  skip
  refine EL.h (Hv.allocA rfl rfl) rfl (fun _ => rfl) ?_
  rintro _ u9 ⟨k0, rfl, nk0, ka0, f9⟩
  skip
  refine EL.h (Hv.storeAggG (vs := xs0) rfl rfl rfl x0.len x0.one ka0 (by rw [x0.len]; exact Nat.le_refl _)) rfl (fun _ => rfl) ?_
  rintro _ u10 ⟨kb0, r10⟩
  have f10 : Ext u8 u10 := Below.wr f9 r10 (by omega) (Nat.le_refl _)
  rw [setL_all (by rw [x0.len]; rfl)] at kb0
  clear ka0
  have W10 := W8.trans f10
  replace hb0 := At.ext hb0 f10
  replace hb1 := At.ext hb1 f10
  replace x0 := PrB.ext x0 f10
  repeat' (first
    | refine EL.f (FV.loadAgg (cs := cs1) rfl rfl rfl h1.len rfl (fun _ e => e ▸ At.lies hb1)) rfl rfl ?_
    | refine EL.nil ?_
    | refine EW.seq ?_
    | refine EW.region ?_)
  refine EL.h (Hv.call (toExprC e1 fit1 cs1 u10 (h1.ext W10)) rfl) rfl (fun _ => rfl) ?_
  rintro _ u11 ⟨xs1, rfl, x1, f11⟩
  have W11 := W10.trans f11
  replace hb0 := At.ext hb0 f11
  replace hb1 := At.ext hb1 f11
  replace x0 := PrB.ext x0 f11
  replace kb0 := At.ext kb0 f11
  skip
  refine EL.h (Hv.allocA rfl rfl) rfl (fun _ => rfl) ?_
  rintro _ u12 ⟨k1, rfl, nk1, ka1, f12⟩
  skip
  refine EL.h (Hv.storeAggG (vs := xs1) rfl rfl rfl x1.len x1.one ka1 (by rw [x1.len]; exact Nat.le_refl _)) rfl (fun _ => rfl) ?_
  rintro _ u13 ⟨kb1, r13⟩
  have f13 : Ext u11 u13 := Below.wr f12 r13 (by omega) (Nat.le_refl _)
  rw [setL_all (by rw [x1.len]; rfl)] at kb1
  clear ka1
  have W13 := W11.trans f13
  replace hb0 := At.ext hb0 f13
  replace hb1 := At.ext hb1 f13
  replace x0 := PrB.ext x0 f13
  replace kb0 := At.ext kb0 f13
  replace x1 := ExB.ext x1 f13
  repeat' (first
    | refine EL.f (FV.loadAgg (cs := xs0) rfl rfl rfl x0.len rfl (fun _ e => e ▸ At.lies kb0)) rfl rfl ?_
    | refine EL.f (FV.loadAgg (cs := xs1) rfl rfl rfl x1.len rfl (fun _ e => e ▸ At.lies kb1)) rfl rfl ?_
    | refine EL.f (FV.move rfl) rfl rfl ?_
    | refine EL.nil ?_
    | refine EW.seq ?_
    | refine EW.region ?_)
  refine EL.h (Hv.call (implValidEV e0 e1 fit1 xs0 xs1 a2 a3 u13 (x0.lower (Nat.zero_le _)) (x1.lower (Nat.zero_le _))) rfl) rfl (fun _ => rfl) ?_
  rintro _ u14 ⟨rfl, f14⟩
  have W14 := W13.trans f14
  replace hb0 := At.ext hb0 f14
  replace hb1 := At.ext hb1 f14
  replace x0 := PrB.ext x0 f14
  replace kb0 := At.ext kb0 f14
  replace x1 := ExB.ext x1 f14
  replace kb1 := At.ext kb1 f14
  repeat' (first
    | refine EL.f (FV.neSelfB rfl rfl rfl) rfl rfl ?_
    | refine EL.f (FV.move rfl) rfl rfl ?_
    | refine EL.f (FV.assign rfl) rfl rfl ?_
    | refine EL.nil ?_
    | refine EW.seq ?_
    | refine EW.region ?_
    | refine EW.skip ?_
    | refine EW.condF rfl ?_)
  refine EW.draw (fun w' => Ext u14 w') [(0, true), (1, true), (2, false), (3, false), (4, true)] mixed (by decide +kernel) (Ext.drew _) ?_
  repeat' (first
    | refine EP.f rfl (FV.loadAgg (cs := cs0) rfl rfl rfl h0.len rfl (fun _ h' => Lies.ext (At.lies hb0) h')) rfl rfl ?_
    | refine EP.f rfl (FV.loadAgg (cs := xs0) rfl rfl rfl x0.len rfl (fun _ h' => Lies.ext (At.lies kb0) h')) rfl rfl ?_)
  refine EP.h rfl rfl (Hv.call (toProgramC e0 fit0 cs0 u14.drew (h0.ext (W14.trans (Ext.drew u14)))) rfl) rfl (fun _ => rfl) ?_
  rintro _ u15 ⟨ys0, rfl, y0, f15⟩
  have q0 := (Ext.drew u14).trans f15
  refine ⟨q0, ?_⟩
  refine EP.h rfl rfl (Hv.call (eqProgramC e0 fit0 xs0 ys0 u15 ((PrB.ext x0 q0).lower (Nat.zero_le _)) (y0.lower (Nat.zero_le _))) rfl) rfl (fun _ => rfl) ?_
  rintro _ u16 ⟨rfl, f16⟩
  have p0 := q0.trans f16
  refine ⟨p0, ?_⟩
  repeat' (first
    | refine EP.nil ?_
    | refine EP.f rfl (FV.not rfl) rfl rfl ?_)
  have W16 := W14.trans p0
  replace hb0 := At.ext hb0 p0
  replace hb1 := At.ext hb1 p0
  replace x0 := PrB.ext x0 p0
  replace kb0 := At.ext kb0 p0
  replace x1 := ExB.ext x1 p0
  replace kb1 := At.ext kb1 p0
  repeat' (first
    | refine EW.seq ?_
    | refine EW.skip ?_
    | refine EW.condF rfl ?_)
  refine EW.draw (fun w' => Ext u16 w') [(0, true), (1, true), (2, false), (3, false), (4, true)] mixed (by decide +kernel) (Ext.drew _) ?_
  repeat' (first
    | refine EP.f rfl (FV.loadAgg (cs := cs1) rfl rfl rfl h1.len rfl (fun _ h' => Lies.ext (At.lies hb1) h')) rfl rfl ?_
    | refine EP.f rfl (FV.loadAgg (cs := xs1) rfl rfl rfl x1.len rfl (fun _ h' => Lies.ext (At.lies kb1) h')) rfl rfl ?_)
  refine EP.h rfl rfl (Hv.call (toExprC e1 fit1 cs1 u16.drew (h1.ext (W16.trans (Ext.drew u16)))) rfl) rfl (fun _ => rfl) ?_
  rintro _ u17 ⟨ys1, rfl, y1, f17⟩
  have q1 := (Ext.drew u16).trans f17
  refine ⟨q1, ?_⟩
  refine EP.h rfl rfl (Hv.call (eqExprC e1 fit1 xs1 ys1 u17 ((ExB.ext x1 q1).lower (Nat.zero_le _)) (y1.lower (Nat.zero_le _))) rfl) rfl (fun _ => rfl) ?_
  rintro _ u18 ⟨rfl, f18⟩
  have p1 := q1.trans f18
  refine ⟨p1, ?_⟩
  repeat' (first
    | refine EP.nil ?_
    | refine EP.f rfl (FV.not rfl) rfl rfl ?_)
  have W18 := W16.trans p1
  replace hb0 := At.ext hb0 p1
  replace hb1 := At.ext hb1 p1
  replace x0 := PrB.ext x0 p1
  replace kb0 := At.ext kb0 p1
  replace x1 := ExB.ext x1 p1
  replace kb1 := At.ext kb1 p1
  repeat' (first
    | refine EL.f (FV.assign rfl) rfl rfl ?_
    | refine EL.nil ?_
    | refine EW.seq ?_
    | refine EW.region ?_
    | refine EW.skip ?_
    | refine EW.ret ?_
    | refine EW.condF rfl ?_)
  exact ⟨_, rfl, rfl, W18⟩
end Eng
end Go.Proofs.Ytcodicokpegfmaa
