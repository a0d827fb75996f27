/- The law RunTape: the walk through the verifier's function. Conditions: none but the arguments' form. -/
import Derived.Test.YtfkohgfcchhlpaaTd
namespace Go.Proofs.Ytfkohgfcchhlpaa
open Go Go.RowKit
namespace Eng
set_option maxHeartbeats 16000000 in
theorem lawRunTape (v0 : Value) (t0 : Tp) (A1 : Option Addr) (c1 : Nat) (xs1 : List Int) (w : World) (hv0 : TapeV w v0 t0) (mc0 : t0.code.length ≤ 9223372036854775807) (mg0 : t0.guards.length ≤ 9223372036854775807) (mo0 : t0.outs.length ≤ 9223372036854775807) (h1 : Rd w A1 (ints xs1)) :
    CallsR Try.prog 12 [v0, .slice A1 xs1.length c1] w fun v w' => v = .bool true ∧ Ext w w' := by
  obtain ⟨P0, p0, Q0, q0, R0, r0, rfl, ra0, rb0, rc0⟩ := hv0
  have hv0 : TapeV w (.agg #[.int .i64 t0.inputs, .slice P0 t0.code.length p0, .slice Q0 t0.guards.length q0, .slice R0 t0.outs.length r0]) t0 := ⟨_, _, _, _, _, _, rfl, ra0, rb0, rc0⟩
  refine CallsR.enter Try.func12 (by decide +kernel) rfl Try.ntmps12 rfl ?_
  repeat' (first
    | refine EW.seq ?_
    | refine EW.region ?_)
  refine EL.h (Hv.boxA (sz := 4) rfl rfl) rfl (fun _ => rfl) ?_
  rintro _ u1 ⟨gb0, rfl, hg0, hb0, e1⟩
  have s1 := e1.size
  have W1 := (Ext.refl w).trans e1
  have lb0 := At.lt hb0
  by_cases hl1 : (1048576 : Int) < xs1.length
  · repeat' (first
      | (show EL _ _ _ _ (_ :: _) _ _
         first
         | (show EL _ _ _ _ (⟨_, .move _, _, _, _, _⟩ :: _) _ _; refine EL.f (FV.move rfl) rfl rfl ?_)
         | (show EL _ _ _ _ (⟨_, .assign _, _, _, _, _⟩ :: _) _ _; refine EL.f (FV.assign rfl) rfl rfl ?_)
         | (show EL _ _ _ _ (⟨_, .call _, _, _, _, _⟩ :: _) _ _; refine EL.f (FV.len rfl rfl) rfl rfl ?_)
         | (show EL _ _ _ _ (⟨_, .binOp .gtr _ _ _ _, _, _, _, _⟩ :: _) _ _; refine EL.fT (FV.gtr rfl rfl) rfl (fun _ => rfl) (by omega) ?_))
      | refine EL.nil ?_
      | refine EW.seq ?_
      | refine EW.region ?_
      | refine EW.ret ?_
      | refine EW.condT rfl ?_)
    exact ⟨_, rfl, rfl, W1⟩
  have hn1 : xs1.length ≤ 1048576 := by omega
  repeat' (first
    | (show EL _ _ _ _ (_ :: _) _ _
       first
       | (show EL _ _ _ _ (⟨_, .load _ _, _, _, _, _⟩ :: _) _ _; refine EL.f (FV.loadAgg (cs := [.int .i64 t0.inputs, .slice P0 t0.code.length p0, .slice Q0 t0.guards.length q0, .slice R0 t0.outs.length r0]) rfl rfl rfl rfl rfl (fun _ e => e ▸ At.lies hb0)) rfl rfl ?_)
       | (show EL _ _ _ _ (⟨_, .move _, _, _, _, _⟩ :: _) _ _; refine EL.f (FV.move rfl) rfl rfl ?_)
       | (show EL _ _ _ _ (⟨_, .assign _, _, _, _, _⟩ :: _) _ _; refine EL.f (FV.assign rfl) rfl rfl ?_)
       | (show EL _ _ _ _ (⟨_, .call _, _, _, _, _⟩ :: _) _ _; refine EL.f (FV.len rfl rfl) rfl rfl ?_)
       | (show EL _ _ _ _ (⟨_, .binOp .gtr _ _ _ _, _, _, _, _⟩ :: _) _ _; refine EL.fF (FV.gtr rfl rfl) rfl (fun _ => rfl) (by omega) ?_))
    | refine EL.nil ?_
    | refine EW.seq ?_
    | refine EW.region ?_
    | refine EW.skip ?_
    | refine EW.condF rfl ?_)
  refine EL.h (Hv.call (szTape _ t0 1048576 u1 (hv0.ext W1) mc0 mg0 mo0 ⟨by omega, by omega⟩) rfl) rfl (fun _ => rfl) ?_
  rintro _ u2 ⟨rfl, e2⟩
  have s2 := e2.size
  have W2 := W1.trans e2
  replace hb0 := At.ext hb0 e2
  by_cases hz0 : szT t0 1048576 < 0
  · repeat' (first
      | refine EL.f (FV.move rfl) rfl rfl ?_
      | refine EL.f (FV.assign rfl) rfl rfl ?_
      | refine EL.fT (FV.lss rfl rfl) rfl (fun _ => rfl) (by omega) ?_
      | refine EL.nil ?_
      | refine EW.seq ?_
      | refine EW.region ?_
      | refine EW.ret ?_
      | refine EW.condT rfl ?_)
    exact ⟨_, rfl, rfl, W2⟩
  have fz0 := szT_fit (t := t0) (k := 1048576) (by omega) hz0
  have fit0 := fz0.1
  have fy0 := fz0.2
  repeat' (first
    | (show EL _ _ _ _ (_ :: _) _ _
       first
       | (show EL _ _ _ _ (⟨_, .load _ _, _, _, _, _⟩ :: _) _ _; refine EL.f (FV.loadAgg (cs := [.int .i64 t0.inputs, .slice P0 t0.code.length p0, .slice Q0 t0.guards.length q0, .slice R0 t0.outs.length r0]) rfl rfl rfl rfl rfl (fun _ e => e ▸ At.lies hb0)) rfl rfl ?_)
       | (show EL _ _ _ _ (⟨_, .move _, _, _, _, _⟩ :: _) _ _; refine EL.f (FV.move rfl) rfl rfl ?_)
       | (show EL _ _ _ _ (⟨_, .assign _, _, _, _, _⟩ :: _) _ _; refine EL.f (FV.assign rfl) rfl rfl ?_)
       | (show EL _ _ _ _ (⟨_, .binOp .lss _ _ _ _, _, _, _, _⟩ :: _) _ _; refine EL.fF (FV.lss rfl rfl) rfl (fun _ => rfl) (by omega) ?_))
    | refine EL.nil ?_
    | refine EW.seq ?_
    | refine EW.region ?_
    | refine EW.skip ?_
    | refine EW.condF rfl ?_)
  refine EL.h (Hv.call (toTape _ t0 u2 (hv0.ext W2) fit0.c fit0.g fit0.o) rfl) rfl (fun _ => rfl) ?_
  rintro _ u3 ⟨pa0, pb0, pc0, rfl, po0, e3⟩
  have s3 := e3.size
  have W3 := W2.trans e3
  replace hb0 := At.ext hb0 e3
  repeat' (first
    | refine EL.f (FV.move rfl) rfl rfl ?_)
  refine EL.h (Hv.call (toInts A1 c1 xs1 u3 (h1.ext W3) hn1) rfl) rfl (fun _ => rfl) ?_
  rintro _ u4 ⟨p1, rfl, pB1, pt1, e4⟩
  have s4 := e4.size
  have W4 := W3.trans e4
  replace hb0 := At.ext hb0 e4
  replace po0 := Own.ext po0 e4
  skip
  refine EL.h (Hv.call (specRunTapeT _ t0 (some ⟨p1, 0, none⟩) _ xs1 u4 po0.tape fit0 (At.rd pt1) hn1) rfl) rfl (fun _ => rfl) ?_
  rintro _ u5 ⟨sv, rfl, sown, e5⟩
  have s5 := e5.size
  have W5 := W4.trans e5
  replace hb0 := At.ext hb0 e5
  replace po0 := Own.ext po0 e5
  replace pt1 := At.ext pt1 e5
  obtain ⟨SA, sc, rfl, sr⟩ := sown.form
  clear po0 pt1
  repeat' (first
    | (show EL _ _ _ _ (_ :: _) _ _
       first
       | (show EL _ _ _ _ (⟨_, .load _ _, _, _, _, _⟩ :: _) _ _; refine EL.f (FV.loadAgg (cs := [.int .i64 t0.inputs, .slice P0 t0.code.length p0, .slice Q0 t0.guards.length q0, .slice R0 t0.outs.length r0]) rfl rfl rfl rfl rfl (fun _ e => e ▸ At.lies hb0)) rfl rfl ?_)
       | (show EL _ _ _ _ (⟨_, .move _, _, _, _, _⟩ :: _) _ _; refine EL.f (FV.move rfl) rfl rfl ?_)
       | (show EL _ _ _ _ (⟨_, .assign _, _, _, _, _⟩ :: _) _ _; refine EL.f (FV.assign rfl) rfl rfl ?_)
       | (show EL _ _ _ _ (⟨_, .extract _ _, _, _, _, _⟩ :: _) _ _; refine EL.f (FV.extract rfl rfl) rfl rfl ?_))
    | refine EL.nil ?_
    | refine EW.seq ?_
    | refine EW.region ?_)
  refine EL.h (Hv.call (toTape _ t0 u5 (hv0.ext W5) fit0.c fit0.g fit0.o) rfl) rfl (fun _ => rfl) ?_
  rintro _ u6 ⟨xa0, xb0, xc0, rfl, xo0, e6⟩
  have s6 := e6.size
  have W6 := W5.trans e6
  have S6 := (Ext.refl u5).trans e6
  replace hb0 := At.ext hb0 e6
  have xl0 := xo0.lo
  have xm0 := xo0.ab
  have xn0 := xo0.bc
  have xk0 := At.lt xo0.c
  skip
  refine EL.h (Hv.allocA rfl rfl) rfl (fun _ => rfl) ?_
  rintro _ u7 ⟨gx0, rfl, hgx0, hx0, e7⟩
  have s7 := e7.size
  have W7 := W6.trans e7
  have S7 := S6.trans e7
  replace hb0 := At.ext hb0 e7
  replace xo0 := Own.ext xo0 e7
  skip
  refine EL.h (Hv.storeAggG (vs := tapeC t0 xa0 xb0 xc0) rfl rfl rfl rfl (tapeC_one _ _ _ _) hx0 (Nat.le_refl _)) rfl (fun _ => rfl) ?_
  rintro _ u8 ⟨hy0, hr0⟩
  have s8 := hr0.size
  have W8 : Ext w u8 := Below.wr W7 hr0 (by omega) (Nat.le_refl _)
  have S8 : Ext u5 u8 := Below.wr S7 hr0 (by omega) (Nat.le_refl _)
  replace hb0 := At.kept hb0 hr0 (by simp; omega)
  replace xo0 := Own.keep xo0 hr0 (by omega)
  have hx0 : At u8 32 4 gx0 1 1 (tapeC t0 xa0 xb0 xc0) := hy0
  clear hy0
  have lx0 := At.lt hx0
  repeat' (first
    | refine EL.f (FV.move rfl) rfl rfl ?_
    | refine EL.nil ?_
    | refine EW.seq ?_
    | refine EW.region ?_)
  refine EL.h (Hv.call (toInts A1 c1 xs1 u8 (h1.ext W8) hn1) rfl) rfl (fun _ => rfl) ?_
  rintro _ u9 ⟨x1, rfl, xB1, xt1, e9⟩
  have s9 := e9.size
  have W9 := W8.trans e9
  have S9 := S8.trans e9
  replace hb0 := At.ext hb0 e9
  replace xo0 := Own.ext xo0 e9
  replace hx0 := At.ext hx0 e9
  have xl1 := At.lt xt1
  repeat' (first
    | refine EL.f (FV.loadAgg (cs := tapeC t0 xa0 xb0 xc0) rfl rfl rfl rfl rfl (fun _ e => e ▸ At.lies hx0)) rfl rfl ?_
    | refine EL.f (FV.move rfl) rfl rfl ?_
    | refine EL.f (FV.assign rfl) rfl rfl ?_
    | refine EL.nil ?_
    | refine EW.seq ?_
    | refine EW.region ?_)
  refine EL.h (Hv.call (implRunTapeT _ t0 (some ⟨x1, 0, none⟩) _ xs1 u9 xo0.tape fit0 (At.rd xt1) hn1) rfl) rfl (fun _ => rfl) ?_
  rintro _ u10 ⟨gv, rfl, gown, e10⟩
  have s10 := e10.size
  have W10 := W9.trans e10
  have S10 := S9.trans e10
  replace hb0 := At.ext hb0 e10
  replace xo0 := Own.ext xo0 e10
  replace hx0 := At.ext hx0 e10
  replace xt1 := At.ext xt1 e10
  obtain ⟨GA, gc, rfl, _⟩ := gown.form
  have hr := fRunTape_len t0 xs1
  repeat' (first
    | refine EL.f (FV.move rfl) rfl rfl ?_
    | refine EL.f (FV.assign rfl) rfl rfl ?_
    | refine EL.f (FV.extract rfl rfl) rfl rfl ?_
    | refine EL.nil ?_
    | refine EW.seq ?_
    | refine EW.region ?_)
  refine EL.h (Hv.call (eqSame GA SA gc sc _ u10 (OwnI.rd gown) (sr.ext S10) hr) rfl) rfl (fun _ => rfl) ?_
  rintro _ u11 ⟨rfl, e11⟩
  have s11 := e11.size
  have W11 := W10.trans e11
  have S11 := S10.trans e11
  replace hb0 := At.ext hb0 e11
  replace xo0 := Own.ext xo0 e11
  replace hx0 := At.ext hx0 e11
  replace xt1 := At.ext xt1 e11
  replace gown := OwnI.ext gown e11
  repeat' (first
    | (show EL _ _ _ _ (_ :: _) _ _
       first
       | (show EL _ _ _ _ (⟨_, .move _, _, _, _, _⟩ :: _) _ _; refine EL.f (FV.move rfl) rfl rfl ?_)
       | (show EL _ _ _ _ (⟨_, .unOp .not _ _, _, _, _, _⟩ :: _) _ _; refine EL.f (FV.not rfl) rfl rfl ?_)
       | (show EL _ _ _ _ (⟨_, .pick _ _ _, _, _, _, _⟩ :: _) _ _; refine EL.f (FV.pickF rfl rfl) rfl rfl ?_)
       | (show EL _ _ _ _ (⟨_, .binOp .neq _ _ _ _, _, _, _, _⟩ :: _) _ _; refine EL.fF (FV.neq rfl rfl) rfl (fun _ => rfl) (by omega) ?_))
    | refine EL.nil ?_
    | refine EW.seq ?_
    | refine EW.skip ?_
    | refine EW.condF rfl ?_)
  refine EW.draw (fun w' => Ext u11 w') [(0, true), (1, true), (2, false), (3, false), (4, true)] mixed (by decide +kernel) (Ext.drew _) ?_
  repeat' (first
    | refine EP.f rfl (FV.loadAgg (cs := [.int .i64 t0.inputs, .slice P0 t0.code.length p0, .slice Q0 t0.guards.length q0, .slice R0 t0.outs.length r0]) rfl rfl rfl rfl rfl (fun _ h' => (At.lies hb0).ext h')) rfl rfl ?_
    | refine EP.f rfl (FV.loadAgg (cs := tapeC t0 xa0 xb0 xc0) rfl rfl rfl rfl rfl (fun _ h' => (At.lies hx0).ext h')) rfl rfl ?_)
  have e12 := Ext.drew u11
  have s12 := e12.size
  have W12 := W11.trans e12
  have S12 := S11.trans e12
  replace hb0 := At.ext hb0 e12
  replace xo0 := Own.ext xo0 e12
  replace hx0 := At.ext hx0 e12
  replace xt1 := At.ext xt1 e12
  replace gown := OwnI.ext gown e12
  refine EP.h rfl rfl (Hv.call (toTape _ t0 u11.drew (hv0.ext W12) fit0.c fit0.g fit0.o) rfl) rfl (fun _ => rfl) ?_
  rintro _ u13 ⟨ya0, yb0, yc0, rfl, yo0, e13⟩
  have s13 := e13.size
  have W13 := W12.trans e13
  have S13 := S12.trans e13
  replace hb0 := At.ext hb0 e13
  replace xo0 := Own.ext xo0 e13
  replace hx0 := At.ext hx0 e13
  replace xt1 := At.ext xt1 e13
  replace gown := OwnI.ext gown e13
  refine ⟨e12.trans e13, ?_⟩
  refine EP.h rfl rfl (Hv.call (eqTapeSame _ _ t0 u13 xo0.tape yo0.tape fit0.c fit0.g fit0.o) rfl) rfl (fun _ => rfl) ?_
  rintro _ u14 ⟨rfl, e14⟩
  have s14 := e14.size
  have W14 := W13.trans e14
  have S14 := S13.trans e14
  replace hb0 := At.ext hb0 e14
  replace xo0 := Own.ext xo0 e14
  replace hx0 := At.ext hx0 e14
  replace xt1 := At.ext xt1 e14
  replace gown := OwnI.ext gown e14
  refine ⟨(e12.trans e13).trans e14, ?_⟩
  repeat' (first
    | refine EP.nil ?_
    | refine EP.f rfl (FV.not rfl) rfl rfl ?_)
  repeat' (first
    | refine EL.f (FV.move rfl) rfl rfl ?_
    | refine EW.seq ?_
    | refine EW.region ?_
    | refine EW.skip ?_
    | refine EW.condF rfl ?_)
  refine EL.h (Hv.call (toInts A1 c1 xs1 u14 (h1.ext W14) hn1) rfl) rfl (fun _ => rfl) ?_
  rintro _ u15 ⟨y1, rfl, yb1, yt1, e15⟩
  have s15 := e15.size
  have W15 := W14.trans e15
  have S15 := S14.trans e15
  replace hb0 := At.ext hb0 e15
  replace xo0 := Own.ext xo0 e15
  replace hx0 := At.ext hx0 e15
  replace xt1 := At.ext xt1 e15
  replace gown := OwnI.ext gown e15
  skip
  refine EL.h (Hv.call (eqSame (some ⟨x1, 0, none⟩) (some ⟨y1, 0, none⟩) _ _ xs1 u15 (At.rd xt1) (At.rd yt1) hn1) rfl) rfl (fun _ => rfl) ?_
  rintro _ u16 ⟨rfl, e16⟩
  have s16 := e16.size
  have W16 := W15.trans e16
  have S16 := S15.trans e16
  replace hb0 := At.ext hb0 e16
  replace xo0 := Own.ext xo0 e16
  replace hx0 := At.ext hx0 e16
  replace xt1 := At.ext xt1 e16
  replace gown := OwnI.ext gown e16
  repeat' (first
    | (show EL _ _ _ _ (_ :: _) _ _
       first
       | (show EL _ _ _ _ (⟨_, .load _ _, _, _, _, _⟩ :: _) _ _; refine EL.f (FV.loadAgg (cs := tapeC t0 xa0 xb0 xc0) rfl rfl rfl rfl rfl (fun _ e => e ▸ At.lies hx0)) rfl rfl ?_)
       | (show EL _ _ _ _ (⟨_, .move _, _, _, _, _⟩ :: _) _ _; refine EL.f (FV.move rfl) rfl rfl ?_)
       | (show EL _ _ _ _ (⟨_, .assign _, _, _, _, _⟩ :: _) _ _; refine EL.f (FV.assign rfl) rfl rfl ?_)
       | (show EL _ _ _ _ (⟨_, .unOp .not _ _, _, _, _, _⟩ :: _) _ _; refine EL.f (FV.not rfl) rfl rfl ?_))
    | refine EL.nil ?_
    | refine EW.seq ?_
    | refine EW.region ?_
    | refine EW.skip ?_
    | refine EW.condF rfl ?_)
  refine EL.h (Hv.call (markTape _ t0 (1) xa0 u16 ⟨_, _, _, rfl, At.own xo0.a (Nat.le_refl _), At.own xo0.b (by omega), At.own xo0.c (by omega)⟩ fit0 (by omega)) rfl) rfl (fun _ => rfl) ?_
  rintro _ u17 ⟨rfl, _, hm17⟩
  replace hm17 : Only [some xa0, some xb0, some xc0] _ _ := hm17
  have fs0 := fit0.c
  have ft0 := fit0.g
  have fu0 := fit0.o
  have s17 := hm17.size
  have W17 := Only.after W16 hm17 (by intro k hk; simp at hk; omega)
  have S17 := Only.after S16 hm17 (by intro k hk; simp at hk; omega)
  replace hb0 := At.only hb0 hm17 (by simp; omega)
  replace hx0 := At.only hx0 hm17 (by simp; omega)
  replace xt1 := At.only xt1 hm17 (by simp; omega)
  replace gown := OwnI.only gown hm17 (by intro k hk; simp at hk; omega)
  repeat' (first
    | refine EL.f (FV.move rfl) rfl rfl ?_
    | refine EL.f (FV.assign rfl) rfl rfl ?_
    | refine EL.nil ?_
    | refine EW.seq ?_
    | refine EW.region ?_)
  refine EL.h (Hv.call (markInts _ x1 xs1 (1 + 4 * t0.code.length + 2 * t0.guards.length + t0.outs.length) u17 (AtI.own (B := x1) xt1 (Nat.le_refl _)) hn1 (by omega)) rfl) rfl (fun _ => rfl) ?_
  rintro _ u18 ⟨rfl, _, hq18⟩
  have hm18 : Only [some x1] _ _ := Only.one hq18
  have s18 := hm18.size
  have W18 := Only.after W17 hm18 (by intro k hk; simp at hk; omega)
  have S18 := Only.after S17 hm18 (by intro k hk; simp at hk; omega)
  replace hb0 := At.only hb0 hm18 (by simp; omega)
  replace hx0 := At.only hx0 hm18 (by simp; omega)
  replace gown := OwnI.only gown hm18 (by intro k hk; simp at hk; omega)
  repeat' (first
    | refine EL.f (FV.move rfl) rfl rfl ?_
    | refine EL.f (FV.assign rfl) rfl rfl ?_
    | refine EL.fF (FV.lss rfl rfl) rfl (fun _ => rfl) (by omega) ?_
    | refine EL.nil ?_
    | refine EW.seq ?_
    | refine EW.region ?_)
  refine EL.h (Hv.call (eqSame GA SA gc sc _ u18 (OwnI.rd gown) (sr.ext S18) hr) rfl) rfl (fun _ => rfl) ?_
  rintro _ u19 ⟨rfl, e19⟩
  have s19 := e19.size
  have W19 := W18.trans e19
  have S19 := S18.trans e19
  replace hb0 := At.ext hb0 e19
  replace hx0 := At.ext hx0 e19
  replace gown := OwnI.ext gown e19
  repeat' (first
    | (show EL _ _ _ _ (_ :: _) _ _
       first
       | (show EL _ _ _ _ (⟨_, .move _, _, _, _, _⟩ :: _) _ _; refine EL.f (FV.move rfl) rfl rfl ?_)
       | (show EL _ _ _ _ (⟨_, .assign _, _, _, _, _⟩ :: _) _ _; refine EL.f (FV.assign rfl) rfl rfl ?_)
       | (show EL _ _ _ _ (⟨_, .unOp .not _ _, _, _, _, _⟩ :: _) _ _; refine EL.f (FV.not rfl) rfl rfl ?_)
       | (show EL _ _ _ _ (⟨_, .pick _ _ _, _, _, _, _⟩ :: _) _ _; refine EL.f (FV.pickF rfl rfl) rfl rfl ?_)
       | (show EL _ _ _ _ (⟨_, .binOp .neq _ _ _ _, _, _, _, _⟩ :: _) _ _; refine EL.fF (FV.neq rfl rfl) rfl (fun _ => rfl) (by omega) ?_))
    | refine EL.nil ?_
    | refine EW.seq ?_
    | refine EW.region ?_
    | refine EW.skip ?_
    | refine EW.condF rfl ?_)
  refine EL.h (Hv.call (markInts _ u9.heap.size _ 1 u19 gown hr (by omega)) rfl) rfl (fun _ => rfl) ?_
  rintro _ u20 ⟨rfl, gmk, hq20⟩
  have hm20 := Only.one hq20
  have gB := fun k => @OwnI.block _ _ _ _ gown k
  have s20 := hm20.size
  have W20 := Only.after W19 hm20 (by intro k hk; have := gB k hk; omega)
  have S20 := Only.after S19 hm20 (by intro k hk; have := gB k hk; omega)
  replace hb0 := At.only hb0 hm20 (by intro hk; have := gB _ hk; omega)
  replace gown := gmk
  repeat' (first
    | refine EL.f (FV.move rfl) rfl rfl ?_
    | refine EL.f (FV.assign rfl) rfl rfl ?_
    | refine EL.nil ?_
    | refine EW.seq ?_
    | refine EW.region ?_)
  refine EL.h (Hv.call (heldInts GA gc _ 1 u20 (OwnI.rd gown) hr (by omega)) rfl) rfl (fun _ => rfl) ?_
  rintro _ _ ⟨rfl, rfl⟩
  repeat' (first
    | (show EL _ _ _ _ (_ :: _) _ _
       first
       | (show EL _ _ _ _ (⟨_, .load _ _, _, _, _, _⟩ :: _) _ _; refine EL.f (FV.loadAgg (cs := [.int .i64 t0.inputs, .slice P0 t0.code.length p0, .slice Q0 t0.guards.length q0, .slice R0 t0.outs.length r0]) rfl rfl rfl rfl rfl (fun _ e => e ▸ At.lies hb0)) rfl rfl ?_)
       | (show EL _ _ _ _ (⟨_, .move _, _, _, _, _⟩ :: _) _ _; refine EL.f (FV.move rfl) rfl rfl ?_)
       | (show EL _ _ _ _ (⟨_, .assign _, _, _, _, _⟩ :: _) _ _; refine EL.f (FV.assign rfl) rfl rfl ?_)
       | (show EL _ _ _ _ (⟨_, .binOp .lss _ _ _ _, _, _, _, _⟩ :: _) _ _; refine EL.fF (FV.lss rfl rfl) rfl (fun _ => rfl) (by omega) ?_)
       | (show EL _ _ _ _ (⟨_, .binOp .neq _ _ _ _, _, _, _, _⟩ :: _) _ _; refine EL.fF (FV.neq rfl rfl) rfl (fun _ => rfl) (by omega) ?_))
    | refine EL.nil ?_
    | refine EW.seq ?_
    | refine EW.region ?_
    | refine EW.skip ?_
    | refine EW.condF rfl ?_)
  refine EL.h (Hv.call (toTape _ t0 u20 (hv0.ext W20) fit0.c fit0.g fit0.o) rfl) rfl (fun _ => rfl) ?_
  rintro _ u21 ⟨za0, zb0, zc0, rfl, zo0, e21⟩
  have s21 := e21.size
  have W21 := W20.trans e21
  have S21 := S20.trans e21
  replace hb0 := At.ext hb0 e21
  replace gown := OwnI.ext gown e21
  repeat' (first
    | refine EL.f (FV.move rfl) rfl rfl ?_)
  refine EL.h (Hv.call (toInts A1 c1 xs1 u21 (h1.ext W21) hn1) rfl) rfl (fun _ => rfl) ?_
  rintro _ u22 ⟨z1, rfl, zB1, zt1, e22⟩
  have s22 := e22.size
  have W22 := W21.trans e22
  have S22 := S21.trans e22
  replace hb0 := At.ext hb0 e22
  replace gown := OwnI.ext gown e22
  replace zo0 := Own.ext zo0 e22
  skip
  refine EL.h (Hv.call (implRunTapeT _ t0 (some ⟨z1, 0, none⟩) _ xs1 u22 zo0.tape fit0 (At.rd zt1) hn1) rfl) rfl (fun _ => rfl) ?_
  rintro _ u23 ⟨hv, rfl, hown, e23⟩
  have s23 := e23.size
  have W23 := W22.trans e23
  have S23 := S22.trans e23
  replace hb0 := At.ext hb0 e23
  replace gown := OwnI.ext gown e23
  replace zo0 := Own.ext zo0 e23
  replace zt1 := At.ext zt1 e23
  obtain ⟨HA, hc, rfl, _⟩ := hown.form
  repeat' (first
    | refine EL.f (FV.move rfl) rfl rfl ?_
    | refine EL.f (FV.assign rfl) rfl rfl ?_
    | refine EL.f (FV.extract rfl rfl) rfl rfl ?_
    | refine EL.nil ?_
    | refine EW.seq ?_
    | refine EW.region ?_)
  refine EL.h (Hv.call (eqSame HA SA hc sc _ u23 (OwnI.rd hown) (sr.ext S23) hr) rfl) rfl (fun _ => rfl) ?_
  rintro _ u24 ⟨rfl, e24⟩
  have s24 := e24.size
  have W24 := W23.trans e24
  have S24 := S23.trans e24
  replace hb0 := At.ext hb0 e24
  replace gown := OwnI.ext gown e24
  replace zo0 := Own.ext zo0 e24
  replace zt1 := At.ext zt1 e24
  replace hown := OwnI.ext hown e24
  repeat' (first
    | (show EL _ _ _ _ (_ :: _) _ _
       first
       | (show EL _ _ _ _ (⟨_, .move _, _, _, _, _⟩ :: _) _ _; refine EL.f (FV.move rfl) rfl rfl ?_)
       | (show EL _ _ _ _ (⟨_, .assign _, _, _, _, _⟩ :: _) _ _; refine EL.f (FV.assign rfl) rfl rfl ?_)
       | (show EL _ _ _ _ (⟨_, .unOp .not _ _, _, _, _, _⟩ :: _) _ _; refine EL.f (FV.not rfl) rfl rfl ?_)
       | (show EL _ _ _ _ (⟨_, .pick _ _ _, _, _, _, _⟩ :: _) _ _; refine EL.f (FV.pickF rfl rfl) rfl rfl ?_)
       | (show EL _ _ _ _ (⟨_, .binOp .neq _ _ _ _, _, _, _, _⟩ :: _) _ _; refine EL.fF (FV.neq rfl rfl) rfl (fun _ => rfl) (by omega) ?_))
    | refine EL.nil ?_
    | refine EW.seq ?_
    | refine EW.region ?_
    | refine EW.skip ?_
    | refine EW.condF rfl ?_)
  refine EL.h (Hv.call (heldInts GA gc _ 1 u24 (OwnI.rd gown) hr (by omega)) rfl) rfl (fun _ => rfl) ?_
  rintro _ _ ⟨rfl, rfl⟩
  repeat' (first
    | (show EL _ _ _ _ (_ :: _) _ _
       first
       | (show EL _ _ _ _ (⟨_, .move _, _, _, _, _⟩ :: _) _ _; refine EL.f (FV.move rfl) rfl rfl ?_)
       | (show EL _ _ _ _ (⟨_, .assign _, _, _, _, _⟩ :: _) _ _; refine EL.f (FV.assign rfl) rfl rfl ?_)
       | (show EL _ _ _ _ (⟨_, .binOp .lss _ _ _ _, _, _, _, _⟩ :: _) _ _; refine EL.fF (FV.lss rfl rfl) rfl (fun _ => rfl) (by omega) ?_)
       | (show EL _ _ _ _ (⟨_, .binOp .neq _ _ _ _, _, _, _, _⟩ :: _) _ _; refine EL.fF (FV.neq rfl rfl) rfl (fun _ => rfl) (by omega) ?_))
    | refine EL.nil ?_
    | refine EW.seq ?_
    | refine EW.region ?_
    | refine EW.skip ?_
    | refine EW.ret ?_
    | refine EW.condF rfl ?_)
  exact ⟨_, rfl, rfl, W24⟩
end Eng
end Go.Proofs.Ytfkohgfcchhlpaa
