/- The law InputsOf: the walk through the verifier's function. Conditions: none but the arguments' form. -/
import Derived.Test.YtgahkbcfjibjaaaMi
namespace Go.Proofs.Ytgahkbcfjibjaaa
open Go Go.RowKit
namespace Eng
set_option maxHeartbeats 16000000 in
theorem lawInputsOf (v0 : Value) (t0 : Tp) (m1 : Int) (w : World) (hv0 : TapeV w v0 t0) (mc0 : t0.code.length ≤ 9223372036854775807) (mg0 : t0.guards.length ≤ 9223372036854775807) (mo0 : t0.outs.length ≤ 9223372036854775807) (hb1 : -9223372036854775808 ≤ m1 ∧ m1 ≤ 9223372036854775807) :
    CallsR Try.prog 3 [v0, .int .i64 m1] w fun v w' => v = .bool true ∧ Ext w w' := by
  obtain ⟨P0, p0, Q0, q0, R0, r0, rfl, ra0, rb0, rc0⟩ := hv0
  have hv0 : TapeV w (.agg #[.int .i64 t0.inputs, .slice P0 t0.code.length p0, .slice Q0 t0.guards.length q0, .slice R0 t0.outs.length r0]) t0 := ⟨_, _, _, _, _, _, rfl, ra0, rb0, rc0⟩
  refine CallsR.enter Try.func3 (by decide +kernel) rfl Try.ntmps3 rfl ?_
  repeat' (first
    | refine EW.seq ?_
    | refine EW.region ?_)
  refine EL.h (Hv.boxA (sz := 4) rfl rfl) rfl (fun _ => rfl) ?_
  rintro _ u1 ⟨gb0, rfl, hg0, hb0, e1⟩
  have s1 := e1.size
  have W1 := (Ext.refl w).trans e1
  have lb0 := At.lt hb0
  repeat' (first
    | refine EL.f (FV.loadAgg (cs := [.int .i64 t0.inputs, .slice P0 t0.code.length p0, .slice Q0 t0.guards.length q0, .slice R0 t0.outs.length r0]) rfl rfl rfl rfl rfl (fun _ e => e ▸ At.lies hb0)) rfl rfl ?_
    | refine EL.f (FV.move rfl) rfl rfl ?_
    | refine EL.f (FV.assign rfl) rfl rfl ?_
    | refine EL.nil ?_
    | refine EW.seq ?_
    | refine EW.region ?_)
  refine EL.h (Hv.call (szTape _ t0 1048576 u1 (hv0.ext W1) mc0 mg0 mo0 ⟨by omega, by omega⟩) rfl) rfl (fun _ => rfl) ?_
  rintro _ u2 ⟨rfl, e2⟩
  have s2 := e2.size
  have W2 := W1.trans e2
  replace hb0 := At.ext hb0 e2
  by_cases hz0 : szT t0 1048576 < 0
  · repeat' (first
      | refine EL.f (FV.move rfl) rfl rfl ?_
      | refine EL.f (FV.assign rfl) rfl rfl ?_
      | refine EL.fT (FV.lss rfl rfl) rfl (fun _ => rfl) (by omega) ?_
      | refine EL.nil ?_
      | refine EW.seq ?_
      | refine EW.region ?_
      | refine EW.ret ?_
      | refine EW.condT rfl ?_)
    exact ⟨_, rfl, rfl, W2⟩
  have fz0 := szT_fit (t := t0) (k := 1048576) (by omega) hz0
  have fit0 := fz0.1
  have fy0 := fz0.2
  repeat' (first
    | (show EL _ _ _ _ (_ :: _) _ _
       first
       | (show EL _ _ _ _ (⟨_, .load _ _, _, _, _, _⟩ :: _) _ _; refine EL.f (FV.loadAgg (cs := [.int .i64 t0.inputs, .slice P0 t0.code.length p0, .slice Q0 t0.guards.length q0, .slice R0 t0.outs.length r0]) rfl rfl rfl rfl rfl (fun _ e => e ▸ At.lies hb0)) rfl rfl ?_)
       | (show EL _ _ _ _ (⟨_, .move _, _, _, _, _⟩ :: _) _ _; refine EL.f (FV.move rfl) rfl rfl ?_)
       | (show EL _ _ _ _ (⟨_, .assign _, _, _, _, _⟩ :: _) _ _; refine EL.f (FV.assign rfl) rfl rfl ?_)
       | (show EL _ _ _ _ (⟨_, .binOp .lss _ _ _ _, _, _, _, _⟩ :: _) _ _; refine EL.fF (FV.lss rfl rfl) rfl (fun _ => rfl) (by omega) ?_))
    | refine EL.nil ?_
    | refine EW.seq ?_
    | refine EW.region ?_
    | refine EW.skip ?_
    | refine EW.condF rfl ?_)
  refine EL.h (Hv.call (toTape _ t0 u2 (hv0.ext W2) fit0.c fit0.g fit0.o) rfl) rfl (fun _ => rfl) ?_
  rintro _ u3 ⟨pa0, pb0, pc0, rfl, po0, e3⟩
  have s3 := e3.size
  have W3 := W2.trans e3
  replace hb0 := At.ext hb0 e3
  repeat' (first
    | refine EL.f (FV.move rfl) rfl rfl ?_)
  refine EL.h (Hv.call (specInputsOfT _ t0 m1 u3 po0.tape fit0 hb1) rfl) rfl (fun _ => rfl) ?_
  rintro _ u4 ⟨sv, rfl, sown, e4⟩
  have s4 := e4.size
  have W4 := W3.trans e4
  replace hb0 := At.ext hb0 e4
  replace po0 := Own.ext po0 e4
  obtain ⟨SA, sc, rfl, sr⟩ := sown.form
  clear po0 
  repeat' (first
    | (show EL _ _ _ _ (_ :: _) _ _
       first
       | (show EL _ _ _ _ (⟨_, .load _ _, _, _, _, _⟩ :: _) _ _; refine EL.f (FV.loadAgg (cs := [.int .i64 t0.inputs, .slice P0 t0.code.length p0, .slice Q0 t0.guards.length q0, .slice R0 t0.outs.length r0]) rfl rfl rfl rfl rfl (fun _ e => e ▸ At.lies hb0)) rfl rfl ?_)
       | (show EL _ _ _ _ (⟨_, .move _, _, _, _, _⟩ :: _) _ _; refine EL.f (FV.move rfl) rfl rfl ?_)
       | (show EL _ _ _ _ (⟨_, .assign _, _, _, _, _⟩ :: _) _ _; refine EL.f (FV.assign rfl) rfl rfl ?_)
       | (show EL _ _ _ _ (⟨_, .extract _ _, _, _, _, _⟩ :: _) _ _; refine EL.f (FV.extract rfl rfl) rfl rfl ?_))
    | refine EL.nil ?_
    | refine EW.seq ?_
    | refine EW.region ?_)
  refine EL.h (Hv.call (toTape _ t0 u4 (hv0.ext W4) fit0.c fit0.g fit0.o) rfl) rfl (fun _ => rfl) ?_
  rintro _ u5 ⟨xa0, xb0, xc0, rfl, xo0, e5⟩
  have s5 := e5.size
  have W5 := W4.trans e5
  have S5 := (Ext.refl u4).trans e5
  replace hb0 := At.ext hb0 e5
  have xl0 := xo0.lo
  have xm0 := xo0.ab
  have xn0 := xo0.bc
  have xk0 := At.lt xo0.c
  skip
  refine EL.h (Hv.allocA rfl rfl) rfl (fun _ => rfl) ?_
  rintro _ u6 ⟨gx0, rfl, hgx0, hx0, e6⟩
  have s6 := e6.size
  have W6 := W5.trans e6
  have S6 := S5.trans e6
  replace hb0 := At.ext hb0 e6
  replace xo0 := Own.ext xo0 e6
  skip
  refine EL.h (Hv.storeAggG (vs := tapeC t0 xa0 xb0 xc0) rfl rfl rfl rfl (tapeC_one _ _ _ _) hx0 (Nat.le_refl _)) rfl (fun _ => rfl) ?_
  rintro _ u7 ⟨hy0, hr0⟩
  have s7 := hr0.size
  have W7 : Ext w u7 := Below.wr W6 hr0 (by omega) (Nat.le_refl _)
  have S7 : Ext u4 u7 := Below.wr S6 hr0 (by omega) (Nat.le_refl _)
  replace hb0 := At.kept hb0 hr0 (by simp; omega)
  replace xo0 := Own.keep xo0 hr0 (by omega)
  have hx0 : At u7 33 4 gx0 1 1 (tapeC t0 xa0 xb0 xc0) := hy0
  clear hy0
  have lx0 := At.lt hx0
  repeat' (first
    | refine EL.f (FV.loadAgg (cs := tapeC t0 xa0 xb0 xc0) rfl rfl rfl rfl rfl (fun _ e => e ▸ At.lies hx0)) rfl rfl ?_
    | refine EL.f (FV.move rfl) rfl rfl ?_
    | refine EL.nil ?_
    | refine EW.seq ?_
    | refine EW.region ?_)
  refine EL.h (Hv.call (implInputsOfT _ t0 m1 u7 xo0.tape fit0 hb1) rfl) rfl (fun _ => rfl) ?_
  rintro _ u8 ⟨gv, rfl, gown, e8⟩
  have s8 := e8.size
  have W8 := W7.trans e8
  have S8 := S7.trans e8
  replace hb0 := At.ext hb0 e8
  replace xo0 := Own.ext xo0 e8
  replace hx0 := At.ext hx0 e8
  obtain ⟨GA, gc, rfl, _⟩ := gown.form
  have hr := fInputsOf_len t0 m1
  repeat' (first
    | refine EL.f (FV.move rfl) rfl rfl ?_
    | refine EL.f (FV.assign rfl) rfl rfl ?_
    | refine EL.f (FV.extract rfl rfl) rfl rfl ?_
    | refine EL.nil ?_
    | refine EW.seq ?_
    | refine EW.region ?_)
  refine EL.h (Hv.call (eqSame GA SA gc sc _ u8 (OwnI.rd gown) (sr.ext S8) hr) rfl) rfl (fun _ => rfl) ?_
  rintro _ u9 ⟨rfl, e9⟩
  have s9 := e9.size
  have W9 := W8.trans e9
  have S9 := S8.trans e9
  replace hb0 := At.ext hb0 e9
  replace xo0 := Own.ext xo0 e9
  replace hx0 := At.ext hx0 e9
  replace gown := OwnI.ext gown e9
  repeat' (first
    | (show EL _ _ _ _ (_ :: _) _ _
       first
       | (show EL _ _ _ _ (⟨_, .move _, _, _, _, _⟩ :: _) _ _; refine EL.f (FV.move rfl) rfl rfl ?_)
       | (show EL _ _ _ _ (⟨_, .unOp .not _ _, _, _, _, _⟩ :: _) _ _; refine EL.f (FV.not rfl) rfl rfl ?_)
       | (show EL _ _ _ _ (⟨_, .pick _ _ _, _, _, _, _⟩ :: _) _ _; refine EL.f (FV.pickF rfl rfl) rfl rfl ?_)
       | (show EL _ _ _ _ (⟨_, .binOp .neq _ _ _ _, _, _, _, _⟩ :: _) _ _; refine EL.fF (FV.neq rfl rfl) rfl (fun _ => rfl) (by omega) ?_))
    | refine EL.nil ?_
    | refine EW.seq ?_
    | refine EW.skip ?_
    | refine EW.condF rfl ?_)
  refine EW.draw (fun w' => Ext u9 w') [(0, true), (1, true), (2, false), (3, false), (4, true)] mixed (by decide +kernel) (Ext.drew _) ?_
  repeat' (first
    | refine EP.f rfl (FV.loadAgg (cs := [.int .i64 t0.inputs, .slice P0 t0.code.length p0, .slice Q0 t0.guards.length q0, .slice R0 t0.outs.length r0]) rfl rfl rfl rfl rfl (fun _ h' => (At.lies hb0).ext h')) rfl rfl ?_
    | refine EP.f rfl (FV.loadAgg (cs := tapeC t0 xa0 xb0 xc0) rfl rfl rfl rfl rfl (fun _ h' => (At.lies hx0).ext h')) rfl rfl ?_)
  have e10 := Ext.drew u9
  have s10 := e10.size
  have W10 := W9.trans e10
  have S10 := S9.trans e10
  replace hb0 := At.ext hb0 e10
  replace xo0 := Own.ext xo0 e10
  replace hx0 := At.ext hx0 e10
  replace gown := OwnI.ext gown e10
  refine EP.h rfl rfl (Hv.call (toTape _ t0 u9.drew (hv0.ext W10) fit0.c fit0.g fit0.o) rfl) rfl (fun _ => rfl) ?_
  rintro _ u11 ⟨ya0, yb0, yc0, rfl, yo0, e11⟩
  have s11 := e11.size
  have W11 := W10.trans e11
  have S11 := S10.trans e11
  replace hb0 := At.ext hb0 e11
  replace xo0 := Own.ext xo0 e11
  replace hx0 := At.ext hx0 e11
  replace gown := OwnI.ext gown e11
  refine ⟨e10.trans e11, ?_⟩
  refine EP.h rfl rfl (Hv.call (eqTapeSame _ _ t0 u11 xo0.tape yo0.tape fit0.c fit0.g fit0.o) rfl) rfl (fun _ => rfl) ?_
  rintro _ u12 ⟨rfl, e12⟩
  have s12 := e12.size
  have W12 := W11.trans e12
  have S12 := S11.trans e12
  replace hb0 := At.ext hb0 e12
  replace xo0 := Own.ext xo0 e12
  replace hx0 := At.ext hx0 e12
  replace gown := OwnI.ext gown e12
  refine ⟨(e10.trans e11).trans e12, ?_⟩
  repeat' (first
    | refine EP.nil ?_
    | refine EP.f rfl (FV.not rfl) rfl rfl ?_)
  repeat' (first
    | refine EL.f (FV.loadAgg (cs := tapeC t0 xa0 xb0 xc0) rfl rfl rfl rfl rfl (fun _ e => e ▸ At.lies hx0)) rfl rfl ?_
    | refine EL.f (FV.move rfl) rfl rfl ?_
    | refine EL.f (FV.assign rfl) rfl rfl ?_
    | refine EL.nil ?_
    | refine EW.seq ?_
    | refine EW.region ?_
    | refine EW.skip ?_
    | refine EW.condF rfl ?_)
  refine EL.h (Hv.call (markTape _ t0 (1) xa0 u12 ⟨_, _, _, rfl, At.own xo0.a (Nat.le_refl _), At.own xo0.b (by omega), At.own xo0.c (by omega)⟩ fit0 (by omega)) rfl) rfl (fun _ => rfl) ?_
  rintro _ u13 ⟨rfl, _, hm13⟩
  replace hm13 : Only [some xa0, some xb0, some xc0] _ _ := hm13
  have fs0 := fit0.c
  have ft0 := fit0.g
  have fu0 := fit0.o
  have s13 := hm13.size
  have W13 := Only.after W12 hm13 (by intro k hk; simp at hk; omega)
  have S13 := Only.after S12 hm13 (by intro k hk; simp at hk; omega)
  replace hb0 := At.only hb0 hm13 (by simp; omega)
  replace hx0 := At.only hx0 hm13 (by simp; omega)
  replace gown := OwnI.only gown hm13 (by intro k hk; simp at hk; omega)
  repeat' (first
    | refine EL.f (FV.move rfl) rfl rfl ?_
    | refine EL.f (FV.assign rfl) rfl rfl ?_
    | refine EL.fF (FV.lss rfl rfl) rfl (fun _ => rfl) (by omega) ?_
    | refine EL.nil ?_
    | refine EW.seq ?_
    | refine EW.region ?_)
  refine EL.h (Hv.call (eqSame GA SA gc sc _ u13 (OwnI.rd gown) (sr.ext S13) hr) rfl) rfl (fun _ => rfl) ?_
  rintro _ u14 ⟨rfl, e14⟩
  have s14 := e14.size
  have W14 := W13.trans e14
  have S14 := S13.trans e14
  replace hb0 := At.ext hb0 e14
  replace hx0 := At.ext hx0 e14
  replace gown := OwnI.ext gown e14
  repeat' (first
    | (show EL _ _ _ _ (_ :: _) _ _
       first
       | (show EL _ _ _ _ (⟨_, .move _, _, _, _, _⟩ :: _) _ _; refine EL.f (FV.move rfl) rfl rfl ?_)
       | (show EL _ _ _ _ (⟨_, .assign _, _, _, _, _⟩ :: _) _ _; refine EL.f (FV.assign rfl) rfl rfl ?_)
       | (show EL _ _ _ _ (⟨_, .unOp .not _ _, _, _, _, _⟩ :: _) _ _; refine EL.f (FV.not rfl) rfl rfl ?_)
       | (show EL _ _ _ _ (⟨_, .pick _ _ _, _, _, _, _⟩ :: _) _ _; refine EL.f (FV.pickF rfl rfl) rfl rfl ?_)
       | (show EL _ _ _ _ (⟨_, .binOp .neq _ _ _ _, _, _, _, _⟩ :: _) _ _; refine EL.fF (FV.neq rfl rfl) rfl (fun _ => rfl) (by omega) ?_))
    | refine EL.nil ?_
    | refine EW.seq ?_
    | refine EW.region ?_
    | refine EW.skip ?_
    | refine EW.condF rfl ?_)
  refine EL.h (Hv.call (markInts _ u7.heap.size _ 1 u14 gown hr (by omega)) rfl) rfl (fun _ => rfl) ?_
  rintro _ u15 ⟨rfl, gmk, hq15⟩
  have hm15 := Only.one hq15
  have gB := fun k => @OwnI.block _ _ _ _ gown k
  have s15 := hm15.size
  have W15 := Only.after W14 hm15 (by intro k hk; have := gB k hk; omega)
  have S15 := Only.after S14 hm15 (by intro k hk; have := gB k hk; omega)
  replace hb0 := At.only hb0 hm15 (by intro hk; have := gB _ hk; omega)
  replace gown := gmk
  repeat' (first
    | refine EL.f (FV.move rfl) rfl rfl ?_
    | refine EL.f (FV.assign rfl) rfl rfl ?_
    | refine EL.nil ?_
    | refine EW.seq ?_
    | refine EW.region ?_)
  refine EL.h (Hv.call (heldInts GA gc _ 1 u15 (OwnI.rd gown) hr (by omega)) rfl) rfl (fun _ => rfl) ?_
  rintro _ _ ⟨rfl, rfl⟩
  repeat' (first
    | (show EL _ _ _ _ (_ :: _) _ _
       first
       | (show EL _ _ _ _ (⟨_, .load _ _, _, _, _, _⟩ :: _) _ _; refine EL.f (FV.loadAgg (cs := [.int .i64 t0.inputs, .slice P0 t0.code.length p0, .slice Q0 t0.guards.length q0, .slice R0 t0.outs.length r0]) rfl rfl rfl rfl rfl (fun _ e => e ▸ At.lies hb0)) rfl rfl ?_)
       | (show EL _ _ _ _ (⟨_, .move _, _, _, _, _⟩ :: _) _ _; refine EL.f (FV.move rfl) rfl rfl ?_)
       | (show EL _ _ _ _ (⟨_, .assign _, _, _, _, _⟩ :: _) _ _; refine EL.f (FV.assign rfl) rfl rfl ?_)
       | (show EL _ _ _ _ (⟨_, .binOp .lss _ _ _ _, _, _, _, _⟩ :: _) _ _; refine EL.fF (FV.lss rfl rfl) rfl (fun _ => rfl) (by omega) ?_)
       | (show EL _ _ _ _ (⟨_, .binOp .neq _ _ _ _, _, _, _, _⟩ :: _) _ _; refine EL.fF (FV.neq rfl rfl) rfl (fun _ => rfl) (by omega) ?_))
    | refine EL.nil ?_
    | refine EW.seq ?_
    | refine EW.region ?_
    | refine EW.skip ?_
    | refine EW.condF rfl ?_)
  refine EL.h (Hv.call (toTape _ t0 u15 (hv0.ext W15) fit0.c fit0.g fit0.o) rfl) rfl (fun _ => rfl) ?_
  rintro _ u16 ⟨za0, zb0, zc0, rfl, zo0, e16⟩
  have s16 := e16.size
  have W16 := W15.trans e16
  have S16 := S15.trans e16
  replace hb0 := At.ext hb0 e16
  replace gown := OwnI.ext gown e16
  repeat' (first
    | refine EL.f (FV.move rfl) rfl rfl ?_)
  refine EL.h (Hv.call (implInputsOfT _ t0 m1 u16 zo0.tape fit0 hb1) rfl) rfl (fun _ => rfl) ?_
  rintro _ u17 ⟨hv, rfl, hown, e17⟩
  have s17 := e17.size
  have W17 := W16.trans e17
  have S17 := S16.trans e17
  replace hb0 := At.ext hb0 e17
  replace gown := OwnI.ext gown e17
  replace zo0 := Own.ext zo0 e17
  obtain ⟨HA, hc, rfl, _⟩ := hown.form
  repeat' (first
    | refine EL.f (FV.move rfl) rfl rfl ?_
    | refine EL.f (FV.assign rfl) rfl rfl ?_
    | refine EL.f (FV.extract rfl rfl) rfl rfl ?_
    | refine EL.nil ?_
    | refine EW.seq ?_
    | refine EW.region ?_)
  refine EL.h (Hv.call (eqSame HA SA hc sc _ u17 (OwnI.rd hown) (sr.ext S17) hr) rfl) rfl (fun _ => rfl) ?_
  rintro _ u18 ⟨rfl, e18⟩
  have s18 := e18.size
  have W18 := W17.trans e18
  have S18 := S17.trans e18
  replace hb0 := At.ext hb0 e18
  replace gown := OwnI.ext gown e18
  replace zo0 := Own.ext zo0 e18
  replace hown := OwnI.ext hown e18
  repeat' (first
    | (show EL _ _ _ _ (_ :: _) _ _
       first
       | (show EL _ _ _ _ (⟨_, .move _, _, _, _, _⟩ :: _) _ _; refine EL.f (FV.move rfl) rfl rfl ?_)
       | (show EL _ _ _ _ (⟨_, .assign _, _, _, _, _⟩ :: _) _ _; refine EL.f (FV.assign rfl) rfl rfl ?_)
       | (show EL _ _ _ _ (⟨_, .unOp .not _ _, _, _, _, _⟩ :: _) _ _; refine EL.f (FV.not rfl) rfl rfl ?_)
       | (show EL _ _ _ _ (⟨_, .pick _ _ _, _, _, _, _⟩ :: _) _ _; refine EL.f (FV.pickF rfl rfl) rfl rfl ?_)
       | (show EL _ _ _ _ (⟨_, .binOp .neq _ _ _ _, _, _, _, _⟩ :: _) _ _; refine EL.fF (FV.neq rfl rfl) rfl (fun _ => rfl) (by omega) ?_))
    | refine EL.nil ?_
    | refine EW.seq ?_
    | refine EW.region ?_
    | refine EW.skip ?_
    | refine EW.condF rfl ?_)
  refine EL.h (Hv.call (heldInts GA gc _ 1 u18 (OwnI.rd gown) hr (by omega)) rfl) rfl (fun _ => rfl) ?_
  rintro _ _ ⟨rfl, rfl⟩
  repeat' (first
    | (show EL _ _ _ _ (_ :: _) _ _
       first
       | (show EL _ _ _ _ (⟨_, .move _, _, _, _, _⟩ :: _) _ _; refine EL.f (FV.move rfl) rfl rfl ?_)
       | (show EL _ _ _ _ (⟨_, .assign _, _, _, _, _⟩ :: _) _ _; refine EL.f (FV.assign rfl) rfl rfl ?_)
       | (show EL _ _ _ _ (⟨_, .binOp .lss _ _ _ _, _, _, _, _⟩ :: _) _ _; refine EL.fF (FV.lss rfl rfl) rfl (fun _ => rfl) (by omega) ?_)
       | (show EL _ _ _ _ (⟨_, .binOp .neq _ _ _ _, _, _, _, _⟩ :: _) _ _; refine EL.fF (FV.neq rfl rfl) rfl (fun _ => rfl) (by omega) ?_))
    | refine EL.nil ?_
    | refine EW.seq ?_
    | refine EW.region ?_
    | refine EW.skip ?_
    | refine EW.ret ?_
    | refine EW.condF rfl ?_)
  exact ⟨_, rfl, rfl, W18⟩
end Eng
end Go.Proofs.Ytgahkbcfjibjaaa
