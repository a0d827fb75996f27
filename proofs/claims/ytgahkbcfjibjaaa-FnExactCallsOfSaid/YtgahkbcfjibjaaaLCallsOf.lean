/- The law FnExactCallsOf: its walk. Condition: what the arguments hold. -/
import Derived.Test.YtgahkbcfjibjaaaPm
import Derived.Test.YtgahkbcfjibjaaaKc
namespace Go.Proofs.Ytgahkbcfjibjaaa
open Go Go.RowKit
namespace Eng
set_option linter.unusedVariables false
set_option maxHeartbeats 4000000 in
theorem lawCallsOf (cs0 : List Value) (e0 : Pr) (a1 : Int) (w : World) (h0 : PrB w 0 cs0 e0) (b1 : -9223372036854775808 ≤ a1 ∧ a1 ≤ 9223372036854775807) : CallsR Try.prog 4 [.agg cs0.toArray, .int .i64 a1] w fun v w' => v = .bool true ∧ Ext w w' := by
  refine CallsR.enter Try.func4 (by decide +kernel) rfl Try.ntmps4 rfl ?_
  repeat' (first
    | refine EW.seq ?_
    | refine EW.region ?_)
  refine EL.h (Hv.boxA (sz := 1) rfl h0.len) rfl (fun _ => rfl) ?_
  rintro _ u1 ⟨g0, rfl, _, hb0, f1⟩
  have W1 := (Ext.refl w).trans f1
  repeat' (first
    | refine EL.f (FV.loadAgg (cs := cs0) rfl rfl rfl h0.len rfl (fun _ e => e ▸ At.lies hb0)) rfl rfl ?_
    | refine EL.f (FV.move rfl) rfl rfl ?_
    | refine EL.f (FV.assign rfl) rfl rfl ?_
    | refine EL.nil ?_
    | refine EW.seq ?_
    | refine EW.region ?_)
  refine EL.h (Hv.call (szProgramC e0 cs0 u1 (1048576) (h0.ext W1) (by omega)) rfl) rfl (fun _ => rfl) ?_
  rintro _ u2 ⟨rfl, f2⟩
  have W2 := W1.trans f2
  replace hb0 := At.ext hb0 f2
  by_cases n0 : ((Pr.cnt e0 : Nat) : Int) ≤ 1048576
  rotate_left
  · rw [szV_gt n0]
    repeat' (first
      | refine EL.f (FV.move rfl) rfl rfl ?_
      | refine EL.f (FV.assign rfl) rfl rfl ?_
      | refine EL.fT (FV.lss rfl rfl) rfl (fun _ => rfl) (by omega) ?_
      | refine EL.nil ?_
      | refine EW.seq ?_
      | refine EW.region ?_
      | refine EW.ret ?_
      | refine EW.condT rfl ?_)
    exact ⟨_, rfl, rfl, W2⟩
  rw [szV_le n0]
  have fit0 : Pr.cnt e0 ≤ 1048576 := by omega
  repeat' (first
    | (show EL _ _ _ _ (_ :: _) _ _
       first
       | (show EL _ _ _ _ (⟨_, .load _ _, _, _, _, _⟩ :: _) _ _; refine EL.f (FV.loadAgg (cs := cs0) rfl rfl rfl h0.len rfl (fun _ e => e ▸ At.lies hb0)) rfl rfl ?_)
       | (show EL _ _ _ _ (⟨_, .move _, _, _, _, _⟩ :: _) _ _; refine EL.f (FV.move rfl) rfl rfl ?_)
       | (show EL _ _ _ _ (⟨_, .assign _, _, _, _, _⟩ :: _) _ _; refine EL.f (FV.assign rfl) rfl rfl ?_)
       | (show EL _ _ _ _ (⟨_, .binOp .lss _ _ _ _, _, _, _, _⟩ :: _) _ _; refine EL.fF (FV.lss rfl rfl) rfl (fun _ => rfl) (by omega) ?_))
    | refine EL.nil ?_
    | refine EW.seq ?_
    | refine EW.region ?_
    | refine EW.skip ?_
    | refine EW.condF rfl ?_)
  refine EL.h (Hv.call (toProgramC e0 fit0 cs0 u2 (h0.ext W2)) rfl) rfl (fun _ => rfl) ?_
  rintro _ u3 ⟨ds0, rfl, d0, f3⟩
  have W3 := W2.trans f3
  replace hb0 := At.ext hb0 f3
  repeat' (first
    | refine EL.f (FV.move rfl) rfl rfl ?_)
  refine EL.h (Hv.call (specCallsOf e0 fit0 ds0 a1 u3 (d0.lower (Nat.zero_le _))) rfl) rfl (fun _ => rfl) ?_
  rintro _ u4 ⟨sv, rfl, sown, f4⟩
  have W4 := W3.trans f4
  replace hb0 := At.ext hb0 f4
  obtain ⟨SA, sc, rfl, sr⟩ := sown.form
  repeat' (first
    | (show EL _ _ _ _ (_ :: _) _ _
       first
       | (show EL _ _ _ _ (⟨_, .load _ _, _, _, _, _⟩ :: _) _ _; refine EL.f (FV.loadAgg (cs := cs0) rfl rfl rfl h0.len rfl (fun _ e => e ▸ At.lies hb0)) rfl rfl ?_)
       | (show EL _ _ _ _ (⟨_, .move _, _, _, _, _⟩ :: _) _ _; refine EL.f (FV.move rfl) rfl rfl ?_)
       | (show EL _ _ _ _ (⟨_, .assign _, _, _, _, _⟩ :: _) _ _; refine EL.f (FV.assign rfl) rfl rfl ?_)
       | (show EL _ _ _ _ (⟨_, .extract _ _, _, _, _, _⟩ :: _) _ _; refine EL.f (FV.extract rfl rfl) rfl rfl ?_))
    | refine EL.nil ?_
    | refine EW.seq ?_
    | refine EW.region ?_)
  have bw0 := W4.size
  refine EL.h (Hv.call (toProgramM e0 fit0 cs0 u4 (h0.ext W4)) rfl) rfl (fun _ => rfl) ?_
  rintro _ u5 ⟨xs0, rfl, x0, f5⟩
  have W5 := W4.trans f5
  replace hb0 := At.ext hb0 f5
  have S5 := (Ext.refl u4).trans f5
  skip
  refine EL.h (Hv.allocA rfl rfl) rfl (fun _ => rfl) ?_
  rintro _ u6 ⟨k0, rfl, nk0, ka0, f6⟩
  skip
  refine EL.h (Hv.storeAggG (vs := xs0) rfl rfl rfl x0.len x0.one ka0 (by rw [x0.len]; exact Nat.le_refl _)) rfl (fun _ => rfl) ?_
  rintro _ u7 ⟨kb0, r7⟩
  have f7 : Ext u5 u7 := Below.wr f6 r7 (by omega) (Nat.le_refl _)
  rw [setL_all (by rw [x0.len]; rfl)] at kb0
  clear ka0
  have W7 := W5.trans f7
  replace hb0 := At.ext hb0 f7
  replace x0 := PrO.ext x0 f7
  have S7 := S5.trans f7
  repeat' (first
    | refine EL.f (FV.loadAgg (cs := xs0) rfl rfl rfl x0.1.len rfl (fun _ e => e ▸ At.lies kb0)) rfl rfl ?_
    | refine EL.f (FV.move rfl) rfl rfl ?_
    | refine EL.nil ?_
    | refine EW.seq ?_
    | refine EW.region ?_)
  have lg0 := At.lt hb0
  have WG := W7
  have SG := S7
  refine EL.h (Hv.call (implCallsOf e0 fit0 xs0 a1 u7 (x0.1.lower (Nat.zero_le _))) rfl) rfl (fun _ => rfl) ?_
  rintro _ u8 ⟨gv, rfl, gown, f8⟩
  have W8 := W7.trans f8
  replace hb0 := At.ext hb0 f8
  replace x0 := PrO.ext x0 f8
  replace kb0 := At.ext kb0 f8
  have S8 := S7.trans f8
  obtain ⟨GA, gc, rfl, _⟩ := gown.form
  have hr := fCalls_len e0.funcs a1
  repeat' (first
    | refine EL.f (FV.move rfl) rfl rfl ?_
    | refine EL.f (FV.assign rfl) rfl rfl ?_
    | refine EL.f (FV.extract rfl rfl) rfl rfl ?_
    | refine EL.nil ?_
    | refine EW.seq ?_
    | refine EW.region ?_)
  refine EL.h (Hv.call (eqSame GA SA gc sc _ u8 (OwnI.rd gown) (sr.ext S8) hr) rfl) rfl (fun _ => rfl) ?_
  rintro _ u9 ⟨rfl, f9⟩
  have W9 := W8.trans f9
  replace hb0 := At.ext hb0 f9
  replace x0 := PrO.ext x0 f9
  replace kb0 := At.ext kb0 f9
  replace gown := OwnI.ext gown f9
  have S9 := S8.trans f9
  repeat' (first
    | (show EL _ _ _ _ (_ :: _) _ _
       first
       | (show EL _ _ _ _ (⟨_, .move _, _, _, _, _⟩ :: _) _ _; refine EL.f (FV.move rfl) rfl rfl ?_)
       | (show EL _ _ _ _ (⟨_, .unOp .not _ _, _, _, _, _⟩ :: _) _ _; refine EL.f (FV.not rfl) rfl rfl ?_)
       | (show EL _ _ _ _ (⟨_, .pick _ _ _, _, _, _, _⟩ :: _) _ _; refine EL.f (FV.pickF rfl rfl) rfl rfl ?_)
       | (show EL _ _ _ _ (⟨_, .binOp .neq _ _ _ _, _, _, _, _⟩ :: _) _ _; refine EL.fF (FV.neq rfl rfl) rfl (fun _ => rfl) (by omega) ?_))
    | refine EL.nil ?_
    | refine EW.seq ?_
    | refine EW.skip ?_
    | refine EW.condF rfl ?_)
  refine EW.draw (fun w' => Ext u9 w') [(0, true), (1, true), (2, false), (3, false), (4, true)] mixed (by decide +kernel) (Ext.drew _) ?_
  repeat' (first
    | refine EP.f rfl (FV.loadAgg (cs := cs0) rfl rfl rfl h0.len rfl (fun _ h' => Lies.ext (At.lies hb0) h')) rfl rfl ?_
    | refine EP.f rfl (FV.loadAgg (cs := xs0) rfl rfl rfl x0.len rfl (fun _ h' => Lies.ext (At.lies kb0) h')) rfl rfl ?_)
  refine EP.h rfl rfl (Hv.call (toProgramC e0 fit0 cs0 u9.drew (h0.ext (W9.trans (Ext.drew u9)))) rfl) rfl (fun _ => rfl) ?_
  rintro _ u10 ⟨ys0, rfl, y0, f10⟩
  have q0 := (Ext.drew u9).trans f10
  refine ⟨q0, ?_⟩
  refine EP.h rfl rfl (Hv.call (eqProgramC e0 fit0 xs0 ys0 u10 ((PrB.ext x0.1 q0).lower (Nat.zero_le _)) (y0.lower (Nat.zero_le _))) rfl) rfl (fun _ => rfl) ?_
  rintro _ u11 ⟨rfl, f11⟩
  have p0 := q0.trans f11
  refine ⟨p0, ?_⟩
  repeat' (first
    | refine EP.nil ?_
    | refine EP.f rfl (FV.not rfl) rfl rfl ?_)
  have W11 := W9.trans p0
  replace hb0 := At.ext hb0 p0
  replace x0 := PrO.ext x0 p0
  replace kb0 := At.ext kb0 p0
  replace gown := OwnI.ext gown p0
  have S11 := S9.trans p0
  repeat' (first
    | refine EL.f (FV.loadAgg (cs := xs0) rfl rfl rfl x0.1.len rfl (fun _ e => e ▸ At.lies kb0)) rfl rfl ?_
    | refine EL.f (FV.move rfl) rfl rfl ?_
    | refine EL.f (FV.assign rfl) rfl rfl ?_
    | refine EL.nil ?_
    | refine EW.seq ?_
    | refine EW.region ?_
    | refine EW.skip ?_
    | refine EW.condF rfl ?_)
  refine EL.h (Hv.call (markProgramC e0 xs0 u4.heap.size 1 u11 x0.2 (by omega) (by omega)) rfl) rfl (fun _ => rfl) ?_
  rintro _ u12 ⟨⟨j12, rfl, jp12⟩, mv12⟩
  have W12 := MkP.ext W11 mv12 bw0
  have S12 := MkP.ext S11 mv12 (Nat.le_refl _)
  replace hb0 := At.mkp hb0 mv12 (by decide)
  replace gown := own_mkp gown mv12 (by decide)
  repeat' (first
    | refine EL.f (FV.move rfl) rfl rfl ?_
    | refine EL.f (FV.assign rfl) rfl rfl ?_
    | refine EL.fF (FV.lss rfl rfl) rfl (fun _ => rfl) (by omega) ?_
    | refine EL.nil ?_
    | refine EW.seq ?_
    | refine EW.region ?_)
  refine EL.h (Hv.call (eqSame GA SA gc sc _ u12 (OwnI.rd gown) (sr.ext S12) hr) rfl) rfl (fun _ => rfl) ?_
  rintro _ u13 ⟨rfl, f13⟩
  have W13 := W12.trans f13
  replace hb0 := At.ext hb0 f13
  replace gown := OwnI.ext gown f13
  have S13 := S12.trans f13
  repeat' (first
    | (show EL _ _ _ _ (_ :: _) _ _
       first
       | (show EL _ _ _ _ (⟨_, .move _, _, _, _, _⟩ :: _) _ _; refine EL.f (FV.move rfl) rfl rfl ?_)
       | (show EL _ _ _ _ (⟨_, .assign _, _, _, _, _⟩ :: _) _ _; refine EL.f (FV.assign rfl) rfl rfl ?_)
       | (show EL _ _ _ _ (⟨_, .unOp .not _ _, _, _, _, _⟩ :: _) _ _; refine EL.f (FV.not rfl) rfl rfl ?_)
       | (show EL _ _ _ _ (⟨_, .pick _ _ _, _, _, _, _⟩ :: _) _ _; refine EL.f (FV.pickF rfl rfl) rfl rfl ?_)
       | (show EL _ _ _ _ (⟨_, .binOp .neq _ _ _ _, _, _, _, _⟩ :: _) _ _; refine EL.fF (FV.neq rfl rfl) rfl (fun _ => rfl) (by omega) ?_))
    | refine EL.nil ?_
    | refine EW.seq ?_
    | refine EW.region ?_
    | refine EW.skip ?_
    | refine EW.condF rfl ?_)
  refine EL.h (Hv.call (markInts _ u7.heap.size _ 1 u13 gown hr (by omega)) rfl) rfl (fun _ => rfl) ?_
  rintro _ u14 ⟨rfl, gmk, hq14⟩
  have hm14 := Only.one hq14
  have gB := fun k => @OwnI.block _ _ _ _ gown k
  have gz := WG.size
  have W14 := Only.after W13 hm14 (by intro k hk; have := gB k hk; omega)
  have S14 := Only.after S13 hm14 (by intro k hk; have := gB k hk; have := SG.size; omega)
  replace hb0 := At.only hb0 hm14 (by intro hk; have := gB _ hk; omega)
  replace gown := gmk
  repeat' (first
    | refine EL.f (FV.move rfl) rfl rfl ?_
    | refine EL.f (FV.assign rfl) rfl rfl ?_
    | refine EL.nil ?_
    | refine EW.seq ?_
    | refine EW.region ?_)
  refine EL.h (Hv.call (heldInts GA gc _ 1 u14 (OwnI.rd gown) hr (by omega)) rfl) rfl (fun _ => rfl) ?_
  rintro _ _ ⟨rfl, rfl⟩
  repeat' (first
    | (show EL _ _ _ _ (_ :: _) _ _
       first
       | (show EL _ _ _ _ (⟨_, .load _ _, _, _, _, _⟩ :: _) _ _; refine EL.f (FV.loadAgg (cs := cs0) rfl rfl rfl h0.len rfl (fun _ e => e ▸ At.lies hb0)) rfl rfl ?_)
       | (show EL _ _ _ _ (⟨_, .move _, _, _, _, _⟩ :: _) _ _; refine EL.f (FV.move rfl) rfl rfl ?_)
       | (show EL _ _ _ _ (⟨_, .assign _, _, _, _, _⟩ :: _) _ _; refine EL.f (FV.assign rfl) rfl rfl ?_)
       | (show EL _ _ _ _ (⟨_, .binOp .lss _ _ _ _, _, _, _, _⟩ :: _) _ _; refine EL.fF (FV.lss rfl rfl) rfl (fun _ => rfl) (by omega) ?_)
       | (show EL _ _ _ _ (⟨_, .binOp .neq _ _ _ _, _, _, _, _⟩ :: _) _ _; refine EL.fF (FV.neq rfl rfl) rfl (fun _ => rfl) (by omega) ?_))
    | refine EL.nil ?_
    | refine EW.seq ?_
    | refine EW.region ?_
    | refine EW.skip ?_
    | refine EW.condF rfl ?_)
  refine EL.h (Hv.call (toProgramC e0 fit0 cs0 u14 (h0.ext W14)) rfl) rfl (fun _ => rfl) ?_
  rintro _ u15 ⟨zs0, rfl, z_0, f15⟩
  have W15 := W14.trans f15
  replace hb0 := At.ext hb0 f15
  replace gown := OwnI.ext gown f15
  have S15 := S14.trans f15
  repeat' (first
    | refine EL.f (FV.move rfl) rfl rfl ?_)
  refine EL.h (Hv.call (implCallsOf e0 fit0 zs0 a1 u15 (z_0.lower (Nat.zero_le _))) rfl) rfl (fun _ => rfl) ?_
  rintro _ u16 ⟨hv, rfl, hown, f16⟩
  have W16 := W15.trans f16
  replace hb0 := At.ext hb0 f16
  replace gown := OwnI.ext gown f16
  have S16 := S15.trans f16
  obtain ⟨HA, hc, rfl, _⟩ := hown.form
  repeat' (first
    | refine EL.f (FV.move rfl) rfl rfl ?_
    | refine EL.f (FV.assign rfl) rfl rfl ?_
    | refine EL.f (FV.extract rfl rfl) rfl rfl ?_
    | refine EL.nil ?_
    | refine EW.seq ?_
    | refine EW.region ?_)
  refine EL.h (Hv.call (eqSame HA SA hc sc _ u16 (OwnI.rd hown) (sr.ext S16) hr) rfl) rfl (fun _ => rfl) ?_
  rintro _ u17 ⟨rfl, f17⟩
  have W17 := W16.trans f17
  replace hb0 := At.ext hb0 f17
  replace gown := OwnI.ext gown f17
  replace hown := OwnI.ext hown f17
  have S17 := S16.trans f17
  repeat' (first
    | (show EL _ _ _ _ (_ :: _) _ _
       first
       | (show EL _ _ _ _ (⟨_, .move _, _, _, _, _⟩ :: _) _ _; refine EL.f (FV.move rfl) rfl rfl ?_)
       | (show EL _ _ _ _ (⟨_, .assign _, _, _, _, _⟩ :: _) _ _; refine EL.f (FV.assign rfl) rfl rfl ?_)
       | (show EL _ _ _ _ (⟨_, .unOp .not _ _, _, _, _, _⟩ :: _) _ _; refine EL.f (FV.not rfl) rfl rfl ?_)
       | (show EL _ _ _ _ (⟨_, .pick _ _ _, _, _, _, _⟩ :: _) _ _; refine EL.f (FV.pickF rfl rfl) rfl rfl ?_)
       | (show EL _ _ _ _ (⟨_, .binOp .neq _ _ _ _, _, _, _, _⟩ :: _) _ _; refine EL.fF (FV.neq rfl rfl) rfl (fun _ => rfl) (by omega) ?_))
    | refine EL.nil ?_
    | refine EW.seq ?_
    | refine EW.region ?_
    | refine EW.skip ?_
    | refine EW.condF rfl ?_)
  refine EL.h (Hv.call (heldInts GA gc _ 1 u17 (OwnI.rd gown) hr (by omega)) rfl) rfl (fun _ => rfl) ?_
  rintro _ _ ⟨rfl, rfl⟩
  repeat' (first
    | (show EL _ _ _ _ (_ :: _) _ _
       first
       | (show EL _ _ _ _ (⟨_, .move _, _, _, _, _⟩ :: _) _ _; refine EL.f (FV.move rfl) rfl rfl ?_)
       | (show EL _ _ _ _ (⟨_, .assign _, _, _, _, _⟩ :: _) _ _; refine EL.f (FV.assign rfl) rfl rfl ?_)
       | (show EL _ _ _ _ (⟨_, .binOp .lss _ _ _ _, _, _, _, _⟩ :: _) _ _; refine EL.fF (FV.lss rfl rfl) rfl (fun _ => rfl) (by omega) ?_)
       | (show EL _ _ _ _ (⟨_, .binOp .neq _ _ _ _, _, _, _, _⟩ :: _) _ _; refine EL.fF (FV.neq rfl rfl) rfl (fun _ => rfl) (by omega) ?_))
    | refine EL.nil ?_
    | refine EW.seq ?_
    | refine EW.region ?_
    | refine EW.skip ?_
    | refine EW.ret ?_
    | refine EW.condF rfl ?_)
  exact ⟨_, rfl, rfl, W17⟩
end Eng
end Go.Proofs.Ytgahkbcfjibjaaa
