/- The law TapeHessian: the walk through the verifier's function. Conditions: none but the arguments' form. -/
import Derived.Test.YtfkohgfcchhlpaaTk
namespace Go.Proofs.Ytfkohgfcchhlpaa
open Go Go.RowKit
namespace Eng
set_option maxHeartbeats 16000000 in
theorem lawTapeHessian (v0 : Value) (t0 : Tp) (A1 : Option Addr) (c1 : Nat) (xs1 : List Int) (A2 : Option Addr) (c2 : Nat) (xs2 : List Int) (A3 : Option Addr) (c3 : Nat) (xs3 : List Int) (w : World) (hv0 : TapeV w v0 t0) (mc0 : t0.code.length ≤ 9223372036854775807) (mg0 : t0.guards.length ≤ 9223372036854775807) (mo0 : t0.outs.length ≤ 9223372036854775807) (h1 : Rd w A1 (ints xs1)) (h2 : Rd w A2 (ints xs2)) (h3 : Rd w A3 (ints xs3)) :
    CallsR Try.prog 16 [v0, .slice A1 xs1.length c1, .slice A2 xs2.length c2, .slice A3 xs3.length c3] w fun v w' => v = .bool true ∧ Ext w w' := by
  obtain ⟨P0, p0, Q0, q0, R0, r0, rfl, ra0, rb0, rc0⟩ := hv0
  have hv0 : TapeV w (.agg #[.int .i64 t0.inputs, .slice P0 t0.code.length p0, .slice Q0 t0.guards.length q0, .slice R0 t0.outs.length r0]) t0 := ⟨_, _, _, _, _, _, rfl, ra0, rb0, rc0⟩
  refine CallsR.enter Try.func16 (by decide +kernel) rfl Try.ntmps16 rfl ?_
  repeat' (first
    | refine EW.seq ?_
    | refine EW.region ?_)
  refine EL.h (Hv.boxA (sz := 4) rfl rfl) rfl (fun _ => rfl) ?_
  rintro _ u1 ⟨gb0, rfl, hg0, hb0, e1⟩
  have s1 := e1.size
  have W1 := (Ext.refl w).trans e1
  have lb0 := At.lt hb0
  by_cases hl1 : (1048576 : Int) < xs1.length
  · repeat' (first
      | (show EL _ _ _ _ (_ :: _) _ _
         first
         | (show EL _ _ _ _ (⟨_, .move _, _, _, _, _⟩ :: _) _ _; refine EL.f (FV.move rfl) rfl rfl ?_)
         | (show EL _ _ _ _ (⟨_, .assign _, _, _, _, _⟩ :: _) _ _; refine EL.f (FV.assign rfl) rfl rfl ?_)
         | (show EL _ _ _ _ (⟨_, .call _, _, _, _, _⟩ :: _) _ _; refine EL.f (FV.len rfl rfl) rfl rfl ?_)
         | (show EL _ _ _ _ (⟨_, .binOp .gtr _ _ _ _, _, _, _, _⟩ :: _) _ _; refine EL.fT (FV.gtr rfl rfl) rfl (fun _ => rfl) (by omega) ?_))
      | refine EL.nil ?_
      | refine EW.seq ?_
      | refine EW.region ?_
      | refine EW.ret ?_
      | refine EW.condT rfl ?_)
    exact ⟨_, rfl, rfl, W1⟩
  have hn1 : xs1.length ≤ 1048576 := by omega
  by_cases hl2 : (1048576 : Int) < xs2.length
  · repeat' (first
      | (show EL _ _ _ _ (_ :: _) _ _
         first
         | (show EL _ _ _ _ (⟨_, .move _, _, _, _, _⟩ :: _) _ _; refine EL.f (FV.move rfl) rfl rfl ?_)
         | (show EL _ _ _ _ (⟨_, .assign _, _, _, _, _⟩ :: _) _ _; refine EL.f (FV.assign rfl) rfl rfl ?_)
         | (show EL _ _ _ _ (⟨_, .call _, _, _, _, _⟩ :: _) _ _; refine EL.f (FV.len rfl rfl) rfl rfl ?_)
         | (show EL _ _ _ _ (⟨_, .binOp .gtr _ _ _ _, _, _, _, _⟩ :: _) _ _; first | refine EL.fT (FV.gtr rfl rfl) rfl (fun _ => rfl) (by omega) ?_ | refine EL.fF (FV.gtr rfl rfl) rfl (fun _ => rfl) (by omega) ?_))
      | refine EL.nil ?_
      | refine EW.seq ?_
      | refine EW.region ?_
      | refine EW.skip ?_
      | refine EW.ret ?_
      | refine EW.condT rfl ?_
      | refine EW.condF rfl ?_)
    exact ⟨_, rfl, rfl, W1⟩
  have hn2 : xs2.length ≤ 1048576 := by omega
  by_cases hl3 : (1048576 : Int) < xs3.length
  · repeat' (first
      | (show EL _ _ _ _ (_ :: _) _ _
         first
         | (show EL _ _ _ _ (⟨_, .move _, _, _, _, _⟩ :: _) _ _; refine EL.f (FV.move rfl) rfl rfl ?_)
         | (show EL _ _ _ _ (⟨_, .assign _, _, _, _, _⟩ :: _) _ _; refine EL.f (FV.assign rfl) rfl rfl ?_)
         | (show EL _ _ _ _ (⟨_, .call _, _, _, _, _⟩ :: _) _ _; refine EL.f (FV.len rfl rfl) rfl rfl ?_)
         | (show EL _ _ _ _ (⟨_, .binOp .gtr _ _ _ _, _, _, _, _⟩ :: _) _ _; first | refine EL.fT (FV.gtr rfl rfl) rfl (fun _ => rfl) (by omega) ?_ | refine EL.fF (FV.gtr rfl rfl) rfl (fun _ => rfl) (by omega) ?_))
      | refine EL.nil ?_
      | refine EW.seq ?_
      | refine EW.region ?_
      | refine EW.skip ?_
      | refine EW.ret ?_
      | refine EW.condT rfl ?_
      | refine EW.condF rfl ?_)
    exact ⟨_, rfl, rfl, W1⟩
  have hn3 : xs3.length ≤ 1048576 := by omega
  repeat' (first
    | (show EL _ _ _ _ (_ :: _) _ _
       first
       | (show EL _ _ _ _ (⟨_, .load _ _, _, _, _, _⟩ :: _) _ _; refine EL.f (FV.loadAgg (cs := [.int .i64 t0.inputs, .slice P0 t0.code.length p0, .slice Q0 t0.guards.length q0, .slice R0 t0.outs.length r0]) rfl rfl rfl rfl rfl (fun _ e => e ▸ At.lies hb0)) rfl rfl ?_)
       | (show EL _ _ _ _ (⟨_, .move _, _, _, _, _⟩ :: _) _ _; refine EL.f (FV.move rfl) rfl rfl ?_)
       | (show EL _ _ _ _ (⟨_, .assign _, _, _, _, _⟩ :: _) _ _; refine EL.f (FV.assign rfl) rfl rfl ?_)
       | (show EL _ _ _ _ (⟨_, .call _, _, _, _, _⟩ :: _) _ _; refine EL.f (FV.len rfl rfl) rfl rfl ?_)
       | (show EL _ _ _ _ (⟨_, .binOp .gtr _ _ _ _, _, _, _, _⟩ :: _) _ _; refine EL.fF (FV.gtr rfl rfl) rfl (fun _ => rfl) (by omega) ?_))
    | refine EL.nil ?_
    | refine EW.seq ?_
    | refine EW.region ?_
    | refine EW.skip ?_
    | refine EW.condF rfl ?_)
  refine EL.h (Hv.call (szTape _ t0 1048576 u1 (hv0.ext W1) mc0 mg0 mo0 ⟨by omega, by omega⟩) rfl) rfl (fun _ => rfl) ?_
  rintro _ u2 ⟨rfl, e2⟩
  have s2 := e2.size
  have W2 := W1.trans e2
  replace hb0 := At.ext hb0 e2
  by_cases hz0 : szT t0 1048576 < 0
  · repeat' (first
      | refine EL.f (FV.move rfl) rfl rfl ?_
      | refine EL.f (FV.assign rfl) rfl rfl ?_
      | refine EL.fT (FV.lss rfl rfl) rfl (fun _ => rfl) (by omega) ?_
      | refine EL.nil ?_
      | refine EW.seq ?_
      | refine EW.region ?_
      | refine EW.ret ?_
      | refine EW.condT rfl ?_)
    exact ⟨_, rfl, rfl, W2⟩
  have fz0 := szT_fit (t := t0) (k := 1048576) (by omega) hz0
  have fit0 := fz0.1
  have fy0 := fz0.2
  repeat' (first
    | (show EL _ _ _ _ (_ :: _) _ _
       first
       | (show EL _ _ _ _ (⟨_, .load _ _, _, _, _, _⟩ :: _) _ _; refine EL.f (FV.loadAgg (cs := [.int .i64 t0.inputs, .slice P0 t0.code.length p0, .slice Q0 t0.guards.length q0, .slice R0 t0.outs.length r0]) rfl rfl rfl rfl rfl (fun _ e => e ▸ At.lies hb0)) rfl rfl ?_)
       | (show EL _ _ _ _ (⟨_, .move _, _, _, _, _⟩ :: _) _ _; refine EL.f (FV.move rfl) rfl rfl ?_)
       | (show EL _ _ _ _ (⟨_, .assign _, _, _, _, _⟩ :: _) _ _; refine EL.f (FV.assign rfl) rfl rfl ?_)
       | (show EL _ _ _ _ (⟨_, .binOp .lss _ _ _ _, _, _, _, _⟩ :: _) _ _; refine EL.fF (FV.lss rfl rfl) rfl (fun _ => rfl) (by omega) ?_))
    | refine EL.nil ?_
    | refine EW.seq ?_
    | refine EW.region ?_
    | refine EW.skip ?_
    | refine EW.condF rfl ?_)
  refine EL.h (Hv.call (toTape _ t0 u2 (hv0.ext W2) fit0.c fit0.g fit0.o) rfl) rfl (fun _ => rfl) ?_
  rintro _ u3 ⟨pa0, pb0, pc0, rfl, po0, e3⟩
  have s3 := e3.size
  have W3 := W2.trans e3
  replace hb0 := At.ext hb0 e3
  repeat' (first
    | refine EL.f (FV.move rfl) rfl rfl ?_)
  refine EL.h (Hv.call (toInts A1 c1 xs1 u3 (h1.ext W3) hn1) rfl) rfl (fun _ => rfl) ?_
  rintro _ u4 ⟨p1, rfl, pB1, pt1, e4⟩
  have s4 := e4.size
  have W4 := W3.trans e4
  replace hb0 := At.ext hb0 e4
  replace po0 := Own.ext po0 e4
  repeat' (first
    | refine EL.f (FV.move rfl) rfl rfl ?_)
  refine EL.h (Hv.call (toInts A2 c2 xs2 u4 (h2.ext W4) hn2) rfl) rfl (fun _ => rfl) ?_
  rintro _ u5 ⟨p2, rfl, pB2, pt2, e5⟩
  have s5 := e5.size
  have W5 := W4.trans e5
  replace hb0 := At.ext hb0 e5
  replace po0 := Own.ext po0 e5
  replace pt1 := At.ext pt1 e5
  repeat' (first
    | refine EL.f (FV.move rfl) rfl rfl ?_)
  refine EL.h (Hv.call (toInts A3 c3 xs3 u5 (h3.ext W5) hn3) rfl) rfl (fun _ => rfl) ?_
  rintro _ u6 ⟨p3, rfl, pB3, pt3, e6⟩
  have s6 := e6.size
  have W6 := W5.trans e6
  replace hb0 := At.ext hb0 e6
  replace po0 := Own.ext po0 e6
  replace pt1 := At.ext pt1 e6
  replace pt2 := At.ext pt2 e6
  skip
  refine EL.h (Hv.call (specTapeHessianT _ t0 (some ⟨p1, 0, none⟩) _ xs1 (some ⟨p2, 0, none⟩) _ xs2 (some ⟨p3, 0, none⟩) _ xs3 u6 po0.tape fit0 (At.rd pt1) hn1 (At.rd pt2) hn2 (At.rd pt3) hn3) rfl) rfl (fun _ => rfl) ?_
  rintro _ u7 ⟨sv, rfl, sown, e7⟩
  have s7 := e7.size
  have W7 := W6.trans e7
  replace hb0 := At.ext hb0 e7
  replace po0 := Own.ext po0 e7
  replace pt1 := At.ext pt1 e7
  replace pt2 := At.ext pt2 e7
  replace pt3 := At.ext pt3 e7
  obtain ⟨SA, sc, rfl, sr⟩ := sown.form
  clear po0 pt1 pt2 pt3
  repeat' (first
    | (show EL _ _ _ _ (_ :: _) _ _
       first
       | (show EL _ _ _ _ (⟨_, .load _ _, _, _, _, _⟩ :: _) _ _; refine EL.f (FV.loadAgg (cs := [.int .i64 t0.inputs, .slice P0 t0.code.length p0, .slice Q0 t0.guards.length q0, .slice R0 t0.outs.length r0]) rfl rfl rfl rfl rfl (fun _ e => e ▸ At.lies hb0)) rfl rfl ?_)
       | (show EL _ _ _ _ (⟨_, .move _, _, _, _, _⟩ :: _) _ _; refine EL.f (FV.move rfl) rfl rfl ?_)
       | (show EL _ _ _ _ (⟨_, .assign _, _, _, _, _⟩ :: _) _ _; refine EL.f (FV.assign rfl) rfl rfl ?_)
       | (show EL _ _ _ _ (⟨_, .extract _ _, _, _, _, _⟩ :: _) _ _; refine EL.f (FV.extract rfl rfl) rfl rfl ?_))
    | refine EL.nil ?_
    | refine EW.seq ?_
    | refine EW.region ?_)
  refine EL.h (Hv.call (toTape _ t0 u7 (hv0.ext W7) fit0.c fit0.g fit0.o) rfl) rfl (fun _ => rfl) ?_
  rintro _ u8 ⟨xa0, xb0, xc0, rfl, xo0, e8⟩
  have s8 := e8.size
  have W8 := W7.trans e8
  have S8 := (Ext.refl u7).trans e8
  replace hb0 := At.ext hb0 e8
  have xl0 := xo0.lo
  have xm0 := xo0.ab
  have xn0 := xo0.bc
  have xk0 := At.lt xo0.c
  skip
  refine EL.h (Hv.allocA rfl rfl) rfl (fun _ => rfl) ?_
  rintro _ u9 ⟨gx0, rfl, hgx0, hx0, e9⟩
  have s9 := e9.size
  have W9 := W8.trans e9
  have S9 := S8.trans e9
  replace hb0 := At.ext hb0 e9
  replace xo0 := Own.ext xo0 e9
  skip
  refine EL.h (Hv.storeAggG (vs := tapeC t0 xa0 xb0 xc0) rfl rfl rfl rfl (tapeC_one _ _ _ _) hx0 (Nat.le_refl _)) rfl (fun _ => rfl) ?_
  rintro _ u10 ⟨hy0, hr0⟩
  have s10 := hr0.size
  have W10 : Ext w u10 := Below.wr W9 hr0 (by omega) (Nat.le_refl _)
  have S10 : Ext u7 u10 := Below.wr S9 hr0 (by omega) (Nat.le_refl _)
  replace hb0 := At.kept hb0 hr0 (by simp; omega)
  replace xo0 := Own.keep xo0 hr0 (by omega)
  have hx0 : At u10 32 4 gx0 1 1 (tapeC t0 xa0 xb0 xc0) := hy0
  clear hy0
  have lx0 := At.lt hx0
  repeat' (first
    | refine EL.f (FV.move rfl) rfl rfl ?_
    | refine EL.nil ?_
    | refine EW.seq ?_
    | refine EW.region ?_)
  refine EL.h (Hv.call (toInts A1 c1 xs1 u10 (h1.ext W10) hn1) rfl) rfl (fun _ => rfl) ?_
  rintro _ u11 ⟨x1, rfl, xB1, xt1, e11⟩
  have s11 := e11.size
  have W11 := W10.trans e11
  have S11 := S10.trans e11
  replace hb0 := At.ext hb0 e11
  replace xo0 := Own.ext xo0 e11
  replace hx0 := At.ext hx0 e11
  have xl1 := At.lt xt1
  repeat' (first
    | refine EL.f (FV.move rfl) rfl rfl ?_
    | refine EL.f (FV.assign rfl) rfl rfl ?_
    | refine EL.nil ?_
    | refine EW.seq ?_
    | refine EW.region ?_)
  refine EL.h (Hv.call (toInts A2 c2 xs2 u11 (h2.ext W11) hn2) rfl) rfl (fun _ => rfl) ?_
  rintro _ u12 ⟨x2, rfl, xB2, xt2, e12⟩
  have s12 := e12.size
  have W12 := W11.trans e12
  have S12 := S11.trans e12
  replace hb0 := At.ext hb0 e12
  replace xo0 := Own.ext xo0 e12
  replace hx0 := At.ext hx0 e12
  replace xt1 := At.ext xt1 e12
  have xl2 := At.lt xt2
  repeat' (first
    | refine EL.f (FV.move rfl) rfl rfl ?_
    | refine EL.f (FV.assign rfl) rfl rfl ?_
    | refine EL.nil ?_
    | refine EW.seq ?_
    | refine EW.region ?_)
  refine EL.h (Hv.call (toInts A3 c3 xs3 u12 (h3.ext W12) hn3) rfl) rfl (fun _ => rfl) ?_
  rintro _ u13 ⟨x3, rfl, xB3, xt3, e13⟩
  have s13 := e13.size
  have W13 := W12.trans e13
  have S13 := S12.trans e13
  replace hb0 := At.ext hb0 e13
  replace xo0 := Own.ext xo0 e13
  replace hx0 := At.ext hx0 e13
  replace xt1 := At.ext xt1 e13
  replace xt2 := At.ext xt2 e13
  have xl3 := At.lt xt3
  repeat' (first
    | refine EL.f (FV.loadAgg (cs := tapeC t0 xa0 xb0 xc0) rfl rfl rfl rfl rfl (fun _ e => e ▸ At.lies hx0)) rfl rfl ?_
    | refine EL.f (FV.move rfl) rfl rfl ?_
    | refine EL.f (FV.assign rfl) rfl rfl ?_
    | refine EL.nil ?_
    | refine EW.seq ?_
    | refine EW.region ?_)
  refine EL.h (Hv.call (implTapeHessianT _ t0 (some ⟨x1, 0, none⟩) _ xs1 (some ⟨x2, 0, none⟩) _ xs2 (some ⟨x3, 0, none⟩) _ xs3 u13 xo0.tape fit0 (At.rd xt1) hn1 (At.rd xt2) hn2 (At.rd xt3) hn3) rfl) rfl (fun _ => rfl) ?_
  rintro _ u14 ⟨gv, rfl, gown, e14⟩
  have s14 := e14.size
  have W14 := W13.trans e14
  have S14 := S13.trans e14
  replace hb0 := At.ext hb0 e14
  replace xo0 := Own.ext xo0 e14
  replace hx0 := At.ext hx0 e14
  replace xt1 := At.ext xt1 e14
  replace xt2 := At.ext xt2 e14
  replace xt3 := At.ext xt3 e14
  obtain ⟨GA, gc, rfl, _⟩ := gown.form
  have hr := fHessian_len t0 xs1 xs2 xs3
  repeat' (first
    | refine EL.f (FV.move rfl) rfl rfl ?_
    | refine EL.f (FV.assign rfl) rfl rfl ?_
    | refine EL.f (FV.extract rfl rfl) rfl rfl ?_
    | refine EL.nil ?_
    | refine EW.seq ?_
    | refine EW.region ?_)
  refine EL.h (Hv.call (eqSame GA SA gc sc _ u14 (OwnI.rd gown) (sr.ext S14) hr) rfl) rfl (fun _ => rfl) ?_
  rintro _ u15 ⟨rfl, e15⟩
  have s15 := e15.size
  have W15 := W14.trans e15
  have S15 := S14.trans e15
  replace hb0 := At.ext hb0 e15
  replace xo0 := Own.ext xo0 e15
  replace hx0 := At.ext hx0 e15
  replace xt1 := At.ext xt1 e15
  replace xt2 := At.ext xt2 e15
  replace xt3 := At.ext xt3 e15
  replace gown := OwnI.ext gown e15
  repeat' (first
    | (show EL _ _ _ _ (_ :: _) _ _
       first
       | (show EL _ _ _ _ (⟨_, .move _, _, _, _, _⟩ :: _) _ _; refine EL.f (FV.move rfl) rfl rfl ?_)
       | (show EL _ _ _ _ (⟨_, .unOp .not _ _, _, _, _, _⟩ :: _) _ _; refine EL.f (FV.not rfl) rfl rfl ?_)
       | (show EL _ _ _ _ (⟨_, .pick _ _ _, _, _, _, _⟩ :: _) _ _; refine EL.f (FV.pickF rfl rfl) rfl rfl ?_)
       | (show EL _ _ _ _ (⟨_, .binOp .neq _ _ _ _, _, _, _, _⟩ :: _) _ _; refine EL.fF (FV.neq rfl rfl) rfl (fun _ => rfl) (by omega) ?_))
    | refine EL.nil ?_
    | refine EW.seq ?_
    | refine EW.skip ?_
    | refine EW.condF rfl ?_)
  refine EW.draw (fun w' => Ext u15 w') [(0, true), (1, true), (2, false), (3, false), (4, true)] mixed (by decide +kernel) (Ext.drew _) ?_
  repeat' (first
    | refine EP.f rfl (FV.loadAgg (cs := [.int .i64 t0.inputs, .slice P0 t0.code.length p0, .slice Q0 t0.guards.length q0, .slice R0 t0.outs.length r0]) rfl rfl rfl rfl rfl (fun _ h' => (At.lies hb0).ext h')) rfl rfl ?_
    | refine EP.f rfl (FV.loadAgg (cs := tapeC t0 xa0 xb0 xc0) rfl rfl rfl rfl rfl (fun _ h' => (At.lies hx0).ext h')) rfl rfl ?_)
  have e16 := Ext.drew u15
  have s16 := e16.size
  have W16 := W15.trans e16
  have S16 := S15.trans e16
  replace hb0 := At.ext hb0 e16
  replace xo0 := Own.ext xo0 e16
  replace hx0 := At.ext hx0 e16
  replace xt1 := At.ext xt1 e16
  replace xt2 := At.ext xt2 e16
  replace xt3 := At.ext xt3 e16
  replace gown := OwnI.ext gown e16
  refine EP.h rfl rfl (Hv.call (toTape _ t0 u15.drew (hv0.ext W16) fit0.c fit0.g fit0.o) rfl) rfl (fun _ => rfl) ?_
  rintro _ u17 ⟨ya0, yb0, yc0, rfl, yo0, e17⟩
  have s17 := e17.size
  have W17 := W16.trans e17
  have S17 := S16.trans e17
  replace hb0 := At.ext hb0 e17
  replace xo0 := Own.ext xo0 e17
  replace hx0 := At.ext hx0 e17
  replace xt1 := At.ext xt1 e17
  replace xt2 := At.ext xt2 e17
  replace xt3 := At.ext xt3 e17
  replace gown := OwnI.ext gown e17
  refine ⟨e16.trans e17, ?_⟩
  refine EP.h rfl rfl (Hv.call (eqTapeSame _ _ t0 u17 xo0.tape yo0.tape fit0.c fit0.g fit0.o) rfl) rfl (fun _ => rfl) ?_
  rintro _ u18 ⟨rfl, e18⟩
  have s18 := e18.size
  have W18 := W17.trans e18
  have S18 := S17.trans e18
  replace hb0 := At.ext hb0 e18
  replace xo0 := Own.ext xo0 e18
  replace hx0 := At.ext hx0 e18
  replace xt1 := At.ext xt1 e18
  replace xt2 := At.ext xt2 e18
  replace xt3 := At.ext xt3 e18
  replace gown := OwnI.ext gown e18
  refine ⟨(e16.trans e17).trans e18, ?_⟩
  repeat' (first
    | refine EP.nil ?_
    | refine EP.f rfl (FV.not rfl) rfl rfl ?_)
  repeat' (first
    | refine EL.f (FV.move rfl) rfl rfl ?_
    | refine EW.seq ?_
    | refine EW.region ?_
    | refine EW.skip ?_
    | refine EW.condF rfl ?_)
  refine EL.h (Hv.call (toInts A1 c1 xs1 u18 (h1.ext W18) hn1) rfl) rfl (fun _ => rfl) ?_
  rintro _ u19 ⟨y1, rfl, yb1, yt1, e19⟩
  have s19 := e19.size
  have W19 := W18.trans e19
  have S19 := S18.trans e19
  replace hb0 := At.ext hb0 e19
  replace xo0 := Own.ext xo0 e19
  replace hx0 := At.ext hx0 e19
  replace xt1 := At.ext xt1 e19
  replace xt2 := At.ext xt2 e19
  replace xt3 := At.ext xt3 e19
  replace gown := OwnI.ext gown e19
  skip
  refine EL.h (Hv.call (eqSame (some ⟨x1, 0, none⟩) (some ⟨y1, 0, none⟩) _ _ xs1 u19 (At.rd xt1) (At.rd yt1) hn1) rfl) rfl (fun _ => rfl) ?_
  rintro _ u20 ⟨rfl, e20⟩
  have s20 := e20.size
  have W20 := W19.trans e20
  have S20 := S19.trans e20
  replace hb0 := At.ext hb0 e20
  replace xo0 := Own.ext xo0 e20
  replace hx0 := At.ext hx0 e20
  replace xt1 := At.ext xt1 e20
  replace xt2 := At.ext xt2 e20
  replace xt3 := At.ext xt3 e20
  replace gown := OwnI.ext gown e20
  repeat' (first
    | refine EL.f (FV.move rfl) rfl rfl ?_
    | refine EL.f (FV.not rfl) rfl rfl ?_
    | refine EL.nil ?_
    | refine EW.seq ?_
    | refine EW.region ?_
    | refine EW.skip ?_
    | refine EW.condF rfl ?_)
  refine EL.h (Hv.call (toInts A2 c2 xs2 u20 (h2.ext W20) hn2) rfl) rfl (fun _ => rfl) ?_
  rintro _ u21 ⟨y2, rfl, yb2, yt2, e21⟩
  have s21 := e21.size
  have W21 := W20.trans e21
  have S21 := S20.trans e21
  replace hb0 := At.ext hb0 e21
  replace xo0 := Own.ext xo0 e21
  replace hx0 := At.ext hx0 e21
  replace xt1 := At.ext xt1 e21
  replace xt2 := At.ext xt2 e21
  replace xt3 := At.ext xt3 e21
  replace gown := OwnI.ext gown e21
  skip
  refine EL.h (Hv.call (eqSame (some ⟨x2, 0, none⟩) (some ⟨y2, 0, none⟩) _ _ xs2 u21 (At.rd xt2) (At.rd yt2) hn2) rfl) rfl (fun _ => rfl) ?_
  rintro _ u22 ⟨rfl, e22⟩
  have s22 := e22.size
  have W22 := W21.trans e22
  have S22 := S21.trans e22
  replace hb0 := At.ext hb0 e22
  replace xo0 := Own.ext xo0 e22
  replace hx0 := At.ext hx0 e22
  replace xt1 := At.ext xt1 e22
  replace xt2 := At.ext xt2 e22
  replace xt3 := At.ext xt3 e22
  replace gown := OwnI.ext gown e22
  repeat' (first
    | refine EL.f (FV.move rfl) rfl rfl ?_
    | refine EL.f (FV.not rfl) rfl rfl ?_
    | refine EL.nil ?_
    | refine EW.seq ?_
    | refine EW.region ?_
    | refine EW.skip ?_
    | refine EW.condF rfl ?_)
  refine EL.h (Hv.call (toInts A3 c3 xs3 u22 (h3.ext W22) hn3) rfl) rfl (fun _ => rfl) ?_
  rintro _ u23 ⟨y3, rfl, yb3, yt3, e23⟩
  have s23 := e23.size
  have W23 := W22.trans e23
  have S23 := S22.trans e23
  replace hb0 := At.ext hb0 e23
  replace xo0 := Own.ext xo0 e23
  replace hx0 := At.ext hx0 e23
  replace xt1 := At.ext xt1 e23
  replace xt2 := At.ext xt2 e23
  replace xt3 := At.ext xt3 e23
  replace gown := OwnI.ext gown e23
  skip
  refine EL.h (Hv.call (eqSame (some ⟨x3, 0, none⟩) (some ⟨y3, 0, none⟩) _ _ xs3 u23 (At.rd xt3) (At.rd yt3) hn3) rfl) rfl (fun _ => rfl) ?_
  rintro _ u24 ⟨rfl, e24⟩
  have s24 := e24.size
  have W24 := W23.trans e24
  have S24 := S23.trans e24
  replace hb0 := At.ext hb0 e24
  replace xo0 := Own.ext xo0 e24
  replace hx0 := At.ext hx0 e24
  replace xt1 := At.ext xt1 e24
  replace xt2 := At.ext xt2 e24
  replace xt3 := At.ext xt3 e24
  replace gown := OwnI.ext gown e24
  repeat' (first
    | (show EL _ _ _ _ (_ :: _) _ _
       first
       | (show EL _ _ _ _ (⟨_, .load _ _, _, _, _, _⟩ :: _) _ _; refine EL.f (FV.loadAgg (cs := tapeC t0 xa0 xb0 xc0) rfl rfl rfl rfl rfl (fun _ e => e ▸ At.lies hx0)) rfl rfl ?_)
       | (show EL _ _ _ _ (⟨_, .move _, _, _, _, _⟩ :: _) _ _; refine EL.f (FV.move rfl) rfl rfl ?_)
       | (show EL _ _ _ _ (⟨_, .assign _, _, _, _, _⟩ :: _) _ _; refine EL.f (FV.assign rfl) rfl rfl ?_)
       | (show EL _ _ _ _ (⟨_, .unOp .not _ _, _, _, _, _⟩ :: _) _ _; refine EL.f (FV.not rfl) rfl rfl ?_))
    | refine EL.nil ?_
    | refine EW.seq ?_
    | refine EW.region ?_
    | refine EW.skip ?_
    | refine EW.condF rfl ?_)
  refine EL.h (Hv.call (markTape _ t0 (1) xa0 u24 ⟨_, _, _, rfl, At.own xo0.a (Nat.le_refl _), At.own xo0.b (by omega), At.own xo0.c (by omega)⟩ fit0 (by omega)) rfl) rfl (fun _ => rfl) ?_
  rintro _ u25 ⟨rfl, _, hm25⟩
  replace hm25 : Only [some xa0, some xb0, some xc0] _ _ := hm25
  have fs0 := fit0.c
  have ft0 := fit0.g
  have fu0 := fit0.o
  have s25 := hm25.size
  have W25 := Only.after W24 hm25 (by intro k hk; simp at hk; omega)
  have S25 := Only.after S24 hm25 (by intro k hk; simp at hk; omega)
  replace hb0 := At.only hb0 hm25 (by simp; omega)
  replace hx0 := At.only hx0 hm25 (by simp; omega)
  replace xt1 := At.only xt1 hm25 (by simp; omega)
  replace xt2 := At.only xt2 hm25 (by simp; omega)
  replace xt3 := At.only xt3 hm25 (by simp; omega)
  replace gown := OwnI.only gown hm25 (by intro k hk; simp at hk; omega)
  repeat' (first
    | refine EL.f (FV.move rfl) rfl rfl ?_
    | refine EL.f (FV.assign rfl) rfl rfl ?_
    | refine EL.nil ?_
    | refine EW.seq ?_
    | refine EW.region ?_)
  refine EL.h (Hv.call (markInts _ x1 xs1 (1 + 4 * t0.code.length + 2 * t0.guards.length + t0.outs.length) u25 (AtI.own (B := x1) xt1 (Nat.le_refl _)) hn1 (by omega)) rfl) rfl (fun _ => rfl) ?_
  rintro _ u26 ⟨rfl, _, hq26⟩
  have hm26 : Only [some x1] _ _ := Only.one hq26
  have s26 := hm26.size
  have W26 := Only.after W25 hm26 (by intro k hk; simp at hk; omega)
  have S26 := Only.after S25 hm26 (by intro k hk; simp at hk; omega)
  replace hb0 := At.only hb0 hm26 (by simp; omega)
  replace hx0 := At.only hx0 hm26 (by simp; omega)
  replace xt2 := At.only xt2 hm26 (by simp; omega)
  replace xt3 := At.only xt3 hm26 (by simp; omega)
  replace gown := OwnI.only gown hm26 (by intro k hk; simp at hk; omega)
  repeat' (first
    | refine EL.f (FV.move rfl) rfl rfl ?_
    | refine EL.f (FV.assign rfl) rfl rfl ?_
    | refine EL.nil ?_
    | refine EW.seq ?_
    | refine EW.region ?_)
  refine EL.h (Hv.call (markInts _ x2 xs2 (1 + 4 * t0.code.length + 2 * t0.guards.length + t0.outs.length + xs1.length) u26 (AtI.own (B := x2) xt2 (Nat.le_refl _)) hn2 (by omega)) rfl) rfl (fun _ => rfl) ?_
  rintro _ u27 ⟨rfl, _, hq27⟩
  have hm27 : Only [some x2] _ _ := Only.one hq27
  have s27 := hm27.size
  have W27 := Only.after W26 hm27 (by intro k hk; simp at hk; omega)
  have S27 := Only.after S26 hm27 (by intro k hk; simp at hk; omega)
  replace hb0 := At.only hb0 hm27 (by simp; omega)
  replace hx0 := At.only hx0 hm27 (by simp; omega)
  replace xt3 := At.only xt3 hm27 (by simp; omega)
  replace gown := OwnI.only gown hm27 (by intro k hk; simp at hk; omega)
  repeat' (first
    | refine EL.f (FV.move rfl) rfl rfl ?_
    | refine EL.f (FV.assign rfl) rfl rfl ?_
    | refine EL.nil ?_
    | refine EW.seq ?_
    | refine EW.region ?_)
  refine EL.h (Hv.call (markInts _ x3 xs3 (1 + 4 * t0.code.length + 2 * t0.guards.length + t0.outs.length + xs1.length + xs2.length) u27 (AtI.own (B := x3) xt3 (Nat.le_refl _)) hn3 (by omega)) rfl) rfl (fun _ => rfl) ?_
  rintro _ u28 ⟨rfl, _, hq28⟩
  have hm28 : Only [some x3] _ _ := Only.one hq28
  have s28 := hm28.size
  have W28 := Only.after W27 hm28 (by intro k hk; simp at hk; omega)
  have S28 := Only.after S27 hm28 (by intro k hk; simp at hk; omega)
  replace hb0 := At.only hb0 hm28 (by simp; omega)
  replace hx0 := At.only hx0 hm28 (by simp; omega)
  replace gown := OwnI.only gown hm28 (by intro k hk; simp at hk; omega)
  repeat' (first
    | refine EL.f (FV.move rfl) rfl rfl ?_
    | refine EL.f (FV.assign rfl) rfl rfl ?_
    | refine EL.fF (FV.lss rfl rfl) rfl (fun _ => rfl) (by omega) ?_
    | refine EL.nil ?_
    | refine EW.seq ?_
    | refine EW.region ?_)
  refine EL.h (Hv.call (eqSame GA SA gc sc _ u28 (OwnI.rd gown) (sr.ext S28) hr) rfl) rfl (fun _ => rfl) ?_
  rintro _ u29 ⟨rfl, e29⟩
  have s29 := e29.size
  have W29 := W28.trans e29
  have S29 := S28.trans e29
  replace hb0 := At.ext hb0 e29
  replace hx0 := At.ext hx0 e29
  replace gown := OwnI.ext gown e29
  repeat' (first
    | (show EL _ _ _ _ (_ :: _) _ _
       first
       | (show EL _ _ _ _ (⟨_, .move _, _, _, _, _⟩ :: _) _ _; refine EL.f (FV.move rfl) rfl rfl ?_)
       | (show EL _ _ _ _ (⟨_, .assign _, _, _, _, _⟩ :: _) _ _; refine EL.f (FV.assign rfl) rfl rfl ?_)
       | (show EL _ _ _ _ (⟨_, .unOp .not _ _, _, _, _, _⟩ :: _) _ _; refine EL.f (FV.not rfl) rfl rfl ?_)
       | (show EL _ _ _ _ (⟨_, .pick _ _ _, _, _, _, _⟩ :: _) _ _; refine EL.f (FV.pickF rfl rfl) rfl rfl ?_)
       | (show EL _ _ _ _ (⟨_, .binOp .neq _ _ _ _, _, _, _, _⟩ :: _) _ _; refine EL.fF (FV.neq rfl rfl) rfl (fun _ => rfl) (by omega) ?_))
    | refine EL.nil ?_
    | refine EW.seq ?_
    | refine EW.region ?_
    | refine EW.skip ?_
    | refine EW.condF rfl ?_)
  refine EL.h (Hv.call (markInts _ u13.heap.size _ 1 u29 gown hr (by omega)) rfl) rfl (fun _ => rfl) ?_
  rintro _ u30 ⟨rfl, gmk, hq30⟩
  have hm30 := Only.one hq30
  have gB := fun k => @OwnI.block _ _ _ _ gown k
  have s30 := hm30.size
  have W30 := Only.after W29 hm30 (by intro k hk; have := gB k hk; omega)
  have S30 := Only.after S29 hm30 (by intro k hk; have := gB k hk; omega)
  replace hb0 := At.only hb0 hm30 (by intro hk; have := gB _ hk; omega)
  replace gown := gmk
  repeat' (first
    | refine EL.f (FV.move rfl) rfl rfl ?_
    | refine EL.f (FV.assign rfl) rfl rfl ?_
    | refine EL.nil ?_
    | refine EW.seq ?_
    | refine EW.region ?_)
  refine EL.h (Hv.call (heldInts GA gc _ 1 u30 (OwnI.rd gown) hr (by omega)) rfl) rfl (fun _ => rfl) ?_
  rintro _ _ ⟨rfl, rfl⟩
  repeat' (first
    | (show EL _ _ _ _ (_ :: _) _ _
       first
       | (show EL _ _ _ _ (⟨_, .load _ _, _, _, _, _⟩ :: _) _ _; refine EL.f (FV.loadAgg (cs := [.int .i64 t0.inputs, .slice P0 t0.code.length p0, .slice Q0 t0.guards.length q0, .slice R0 t0.outs.length r0]) rfl rfl rfl rfl rfl (fun _ e => e ▸ At.lies hb0)) rfl rfl ?_)
       | (show EL _ _ _ _ (⟨_, .move _, _, _, _, _⟩ :: _) _ _; refine EL.f (FV.move rfl) rfl rfl ?_)
       | (show EL _ _ _ _ (⟨_, .assign _, _, _, _, _⟩ :: _) _ _; refine EL.f (FV.assign rfl) rfl rfl ?_)
       | (show EL _ _ _ _ (⟨_, .binOp .lss _ _ _ _, _, _, _, _⟩ :: _) _ _; refine EL.fF (FV.lss rfl rfl) rfl (fun _ => rfl) (by omega) ?_)
       | (show EL _ _ _ _ (⟨_, .binOp .neq _ _ _ _, _, _, _, _⟩ :: _) _ _; refine EL.fF (FV.neq rfl rfl) rfl (fun _ => rfl) (by omega) ?_))
    | refine EL.nil ?_
    | refine EW.seq ?_
    | refine EW.region ?_
    | refine EW.skip ?_
    | refine EW.condF rfl ?_)
  refine EL.h (Hv.call (toTape _ t0 u30 (hv0.ext W30) fit0.c fit0.g fit0.o) rfl) rfl (fun _ => rfl) ?_
  rintro _ u31 ⟨za0, zb0, zc0, rfl, zo0, e31⟩
  have s31 := e31.size
  have W31 := W30.trans e31
  have S31 := S30.trans e31
  replace hb0 := At.ext hb0 e31
  replace gown := OwnI.ext gown e31
  repeat' (first
    | refine EL.f (FV.move rfl) rfl rfl ?_)
  refine EL.h (Hv.call (toInts A1 c1 xs1 u31 (h1.ext W31) hn1) rfl) rfl (fun _ => rfl) ?_
  rintro _ u32 ⟨z1, rfl, zB1, zt1, e32⟩
  have s32 := e32.size
  have W32 := W31.trans e32
  have S32 := S31.trans e32
  replace hb0 := At.ext hb0 e32
  replace gown := OwnI.ext gown e32
  replace zo0 := Own.ext zo0 e32
  repeat' (first
    | refine EL.f (FV.move rfl) rfl rfl ?_)
  refine EL.h (Hv.call (toInts A2 c2 xs2 u32 (h2.ext W32) hn2) rfl) rfl (fun _ => rfl) ?_
  rintro _ u33 ⟨z2, rfl, zB2, zt2, e33⟩
  have s33 := e33.size
  have W33 := W32.trans e33
  have S33 := S32.trans e33
  replace hb0 := At.ext hb0 e33
  replace gown := OwnI.ext gown e33
  replace zo0 := Own.ext zo0 e33
  replace zt1 := At.ext zt1 e33
  repeat' (first
    | refine EL.f (FV.move rfl) rfl rfl ?_)
  refine EL.h (Hv.call (toInts A3 c3 xs3 u33 (h3.ext W33) hn3) rfl) rfl (fun _ => rfl) ?_
  rintro _ u34 ⟨z3, rfl, zB3, zt3, e34⟩
  have s34 := e34.size
  have W34 := W33.trans e34
  have S34 := S33.trans e34
  replace hb0 := At.ext hb0 e34
  replace gown := OwnI.ext gown e34
  replace zo0 := Own.ext zo0 e34
  replace zt1 := At.ext zt1 e34
  replace zt2 := At.ext zt2 e34
  skip
  refine EL.h (Hv.call (implTapeHessianT _ t0 (some ⟨z1, 0, none⟩) _ xs1 (some ⟨z2, 0, none⟩) _ xs2 (some ⟨z3, 0, none⟩) _ xs3 u34 zo0.tape fit0 (At.rd zt1) hn1 (At.rd zt2) hn2 (At.rd zt3) hn3) rfl) rfl (fun _ => rfl) ?_
  rintro _ u35 ⟨hv, rfl, hown, e35⟩
  have s35 := e35.size
  have W35 := W34.trans e35
  have S35 := S34.trans e35
  replace hb0 := At.ext hb0 e35
  replace gown := OwnI.ext gown e35
  replace zo0 := Own.ext zo0 e35
  replace zt1 := At.ext zt1 e35
  replace zt2 := At.ext zt2 e35
  replace zt3 := At.ext zt3 e35
  obtain ⟨HA, hc, rfl, _⟩ := hown.form
  repeat' (first
    | refine EL.f (FV.move rfl) rfl rfl ?_
    | refine EL.f (FV.assign rfl) rfl rfl ?_
    | refine EL.f (FV.extract rfl rfl) rfl rfl ?_
    | refine EL.nil ?_
    | refine EW.seq ?_
    | refine EW.region ?_)
  refine EL.h (Hv.call (eqSame HA SA hc sc _ u35 (OwnI.rd hown) (sr.ext S35) hr) rfl) rfl (fun _ => rfl) ?_
  rintro _ u36 ⟨rfl, e36⟩
  have s36 := e36.size
  have W36 := W35.trans e36
  have S36 := S35.trans e36
  replace hb0 := At.ext hb0 e36
  replace gown := OwnI.ext gown e36
  replace zo0 := Own.ext zo0 e36
  replace zt1 := At.ext zt1 e36
  replace zt2 := At.ext zt2 e36
  replace zt3 := At.ext zt3 e36
  replace hown := OwnI.ext hown e36
  repeat' (first
    | (show EL _ _ _ _ (_ :: _) _ _
       first
       | (show EL _ _ _ _ (⟨_, .move _, _, _, _, _⟩ :: _) _ _; refine EL.f (FV.move rfl) rfl rfl ?_)
       | (show EL _ _ _ _ (⟨_, .assign _, _, _, _, _⟩ :: _) _ _; refine EL.f (FV.assign rfl) rfl rfl ?_)
       | (show EL _ _ _ _ (⟨_, .unOp .not _ _, _, _, _, _⟩ :: _) _ _; refine EL.f (FV.not rfl) rfl rfl ?_)
       | (show EL _ _ _ _ (⟨_, .pick _ _ _, _, _, _, _⟩ :: _) _ _; refine EL.f (FV.pickF rfl rfl) rfl rfl ?_)
       | (show EL _ _ _ _ (⟨_, .binOp .neq _ _ _ _, _, _, _, _⟩ :: _) _ _; refine EL.fF (FV.neq rfl rfl) rfl (fun _ => rfl) (by omega) ?_))
    | refine EL.nil ?_
    | refine EW.seq ?_
    | refine EW.region ?_
    | refine EW.skip ?_
    | refine EW.condF rfl ?_)
  refine EL.h (Hv.call (heldInts GA gc _ 1 u36 (OwnI.rd gown) hr (by omega)) rfl) rfl (fun _ => rfl) ?_
  rintro _ _ ⟨rfl, rfl⟩
  repeat' (first
    | (show EL _ _ _ _ (_ :: _) _ _
       first
       | (show EL _ _ _ _ (⟨_, .move _, _, _, _, _⟩ :: _) _ _; refine EL.f (FV.move rfl) rfl rfl ?_)
       | (show EL _ _ _ _ (⟨_, .assign _, _, _, _, _⟩ :: _) _ _; refine EL.f (FV.assign rfl) rfl rfl ?_)
       | (show EL _ _ _ _ (⟨_, .binOp .lss _ _ _ _, _, _, _, _⟩ :: _) _ _; refine EL.fF (FV.lss rfl rfl) rfl (fun _ => rfl) (by omega) ?_)
       | (show EL _ _ _ _ (⟨_, .binOp .neq _ _ _ _, _, _, _, _⟩ :: _) _ _; refine EL.fF (FV.neq rfl rfl) rfl (fun _ => rfl) (by omega) ?_))
    | refine EL.nil ?_
    | refine EW.seq ?_
    | refine EW.region ?_
    | refine EW.skip ?_
    | refine EW.ret ?_
    | refine EW.condF rfl ?_)
  exact ⟨_, rfl, rfl, W36⟩
end Eng
end Go.Proofs.Ytfkohgfcchhlpaa
