/- The law TapeSeries: the walk through the verifier's function. Conditions: none but the arguments' form. -/
import Derived.Test.YtfkohgfcchhlpaaSsb
namespace Go.Proofs.Ytfkohgfcchhlpaa
open Go Go.RowKit
namespace Eng
set_option maxHeartbeats 16000000 in
theorem lawTapeSeries (v0 : Value) (t0 : Tp) (A1 : Option Addr) (c1 : Nat) (xss1 : List (List Int)) (w : World) (hv0 : TapeV w v0 t0) (mc0 : t0.code.length ≤ 9223372036854775807) (mg0 : t0.guards.length ≤ 9223372036854775807) (mo0 : t0.outs.length ≤ 9223372036854775807) (h1 : Rows w A1 xss1) (hm1 : xss1.length ≤ 9223372036854775807) (hq1 : ∀ i, i < xss1.length → (xss1.getD i []).length ≤ 9223372036854775807) :
    CallsR Try.prog 13 [v0, .slice A1 xss1.length c1] w fun v w' => v = .bool true ∧ Ext w w' := by
  obtain ⟨P0, p0, Q0, q0, R0, r0, rfl, ra0, rb0, rc0⟩ := hv0
  have hv0 : TapeV w (.agg #[.int .i64 t0.inputs, .slice P0 t0.code.length p0, .slice Q0 t0.guards.length q0, .slice R0 t0.outs.length r0]) t0 := ⟨_, _, _, _, _, _, rfl, ra0, rb0, rc0⟩
  refine CallsR.enter Try.func13 (by decide +kernel) rfl Try.ntmps13 rfl ?_
  repeat' (first
    | refine EW.seq ?_
    | refine EW.region ?_)
  refine EL.h (Hv.boxA (sz := 4) rfl rfl) rfl (fun _ => rfl) ?_
  rintro _ u1 ⟨gb0, rfl, hg0, hb0, e1⟩
  have s1 := e1.size
  have W1 := (Ext.refl w).trans e1
  have lb0 := At.lt hb0
  repeat' (first
    | refine EL.f (FV.loadAgg (cs := [.int .i64 t0.inputs, .slice P0 t0.code.length p0, .slice Q0 t0.guards.length q0, .slice R0 t0.outs.length r0]) rfl rfl rfl rfl rfl (fun _ e => e ▸ At.lies hb0)) rfl rfl ?_
    | refine EL.f (FV.move rfl) rfl rfl ?_
    | refine EL.f (FV.assign rfl) rfl rfl ?_
    | refine EL.nil ?_
    | refine EW.seq ?_
    | refine EW.region ?_)
  refine EL.h (Hv.call (szTape _ t0 1048576 u1 (hv0.ext W1) mc0 mg0 mo0 ⟨by omega, by omega⟩) rfl) rfl (fun _ => rfl) ?_
  rintro _ u2 ⟨rfl, e2⟩
  have s2 := e2.size
  have W2 := W1.trans e2
  replace hb0 := At.ext hb0 e2
  by_cases hz0 : szT t0 1048576 < 0
  · repeat' (first
      | refine EL.f (FV.move rfl) rfl rfl ?_
      | refine EL.f (FV.assign rfl) rfl rfl ?_
      | refine EL.fT (FV.lss rfl rfl) rfl (fun _ => rfl) (by omega) ?_
      | refine EL.nil ?_
      | refine EW.seq ?_
      | refine EW.region ?_
      | refine EW.ret ?_
      | refine EW.condT rfl ?_)
    exact ⟨_, rfl, rfl, W2⟩
  have fz0 := szT_fit (t := t0) (k := 1048576) (by omega) hz0
  have fit0 := fz0.1
  have fy0 := fz0.2
  repeat' (first
    | refine EL.f (FV.move rfl) rfl rfl ?_
    | refine EL.f (FV.assign rfl) rfl rfl ?_
    | refine EL.fF (FV.lss rfl rfl) rfl (fun _ => rfl) (by omega) ?_
    | refine EL.nil ?_
    | refine EW.seq ?_
    | refine EW.region ?_
    | refine EW.skip ?_
    | refine EW.condF rfl ?_)
  refine EL.h (Hv.call (szSS xss1 A1 c1 (szT t0 1048576) u2 (h1.ext W2) hm1 hq1 ⟨by omega, by omega⟩) rfl) rfl (fun _ => rfl) ?_
  rintro _ u3 ⟨⟨z1, rfl, hz1⟩, e3⟩
  have s3 := e3.size
  have W3 := W2.trans e3
  replace hb0 := At.ext hb0 e3
  by_cases hf1 : ((xss1.length + tot xss1 : Nat) : Int) ≤ (szT t0 1048576)
  rotate_left
  · rw [if_neg hf1] at hz1
    repeat' (first
      | refine EL.f (FV.move rfl) rfl rfl ?_
      | refine EL.f (FV.assign rfl) rfl rfl ?_
      | refine EL.fT (FV.lss rfl rfl) rfl (fun _ => rfl) (by omega) ?_
      | refine EL.nil ?_
      | refine EW.seq ?_
      | refine EW.region ?_
      | refine EW.ret ?_
      | refine EW.condT rfl ?_)
    exact ⟨_, rfl, rfl, W3⟩
  rw [if_pos hf1] at hz1
  have hn1 : xss1.length ≤ 1048576 := by omega
  have ht1 : tot xss1 ≤ 1048576 := by omega
  repeat' (first
    | (show EL _ _ _ _ (_ :: _) _ _
       first
       | (show EL _ _ _ _ (⟨_, .load _ _, _, _, _, _⟩ :: _) _ _; refine EL.f (FV.loadAgg (cs := [.int .i64 t0.inputs, .slice P0 t0.code.length p0, .slice Q0 t0.guards.length q0, .slice R0 t0.outs.length r0]) rfl rfl rfl rfl rfl (fun _ e => e ▸ At.lies hb0)) rfl rfl ?_)
       | (show EL _ _ _ _ (⟨_, .move _, _, _, _, _⟩ :: _) _ _; refine EL.f (FV.move rfl) rfl rfl ?_)
       | (show EL _ _ _ _ (⟨_, .assign _, _, _, _, _⟩ :: _) _ _; refine EL.f (FV.assign rfl) rfl rfl ?_)
       | (show EL _ _ _ _ (⟨_, .binOp .lss _ _ _ _, _, _, _, _⟩ :: _) _ _; refine EL.fF (FV.lss rfl rfl) rfl (fun _ => rfl) (by omega) ?_))
    | refine EL.nil ?_
    | refine EW.seq ?_
    | refine EW.region ?_
    | refine EW.skip ?_
    | refine EW.condF rfl ?_)
  refine EL.h (Hv.call (toTape _ t0 u3 (hv0.ext W3) fit0.c fit0.g fit0.o) rfl) rfl (fun _ => rfl) ?_
  rintro _ u4 ⟨pa0, pb0, pc0, rfl, po0, e4⟩
  have s4 := e4.size
  have W4 := W3.trans e4
  replace hb0 := At.ext hb0 e4
  repeat' (first
    | refine EL.f (FV.move rfl) rfl rfl ?_)
  refine EL.h (Hv.call (toSS xss1 A1 c1 u4 (h1.ext W4) hn1 ht1) rfl) rfl (fun _ => rfl) ?_
  rintro _ u5 ⟨pvs1, p1, rfl, po1, e5⟩
  have s5 := e5.size
  have W5 := W4.trans e5
  replace hb0 := At.ext hb0 e5
  replace po0 := Own.ext po0 e5
  skip
  refine EL.h (Hv.call (specTapeSeriesT _ t0 (some ⟨p1, 0, none⟩) _ xss1 u5 po0.tape fit0 po1.rdRows hn1 ht1) rfl) rfl (fun _ => rfl) ?_
  rintro _ u6 ⟨sv, svs, rfl, sown, e6⟩
  have s6 := e6.size
  have W6 := W5.trans e6
  replace hb0 := At.ext hb0 e6
  replace po0 := Own.ext po0 e6
  replace po1 := OutW.ext po1 e6
  obtain ⟨SA, sc, rfl, sr⟩ := sown.rows
  clear po0  po1
  repeat' (first
    | (show EL _ _ _ _ (_ :: _) _ _
       first
       | (show EL _ _ _ _ (⟨_, .load _ _, _, _, _, _⟩ :: _) _ _; refine EL.f (FV.loadAgg (cs := [.int .i64 t0.inputs, .slice P0 t0.code.length p0, .slice Q0 t0.guards.length q0, .slice R0 t0.outs.length r0]) rfl rfl rfl rfl rfl (fun _ e => e ▸ At.lies hb0)) rfl rfl ?_)
       | (show EL _ _ _ _ (⟨_, .move _, _, _, _, _⟩ :: _) _ _; refine EL.f (FV.move rfl) rfl rfl ?_)
       | (show EL _ _ _ _ (⟨_, .assign _, _, _, _, _⟩ :: _) _ _; refine EL.f (FV.assign rfl) rfl rfl ?_)
       | (show EL _ _ _ _ (⟨_, .extract _ _, _, _, _, _⟩ :: _) _ _; refine EL.f (FV.extract rfl rfl) rfl rfl ?_))
    | refine EL.nil ?_
    | refine EW.seq ?_
    | refine EW.region ?_)
  refine EL.h (Hv.call (toTape _ t0 u6 (hv0.ext W6) fit0.c fit0.g fit0.o) rfl) rfl (fun _ => rfl) ?_
  rintro _ u7 ⟨xa0, xb0, xc0, rfl, xo0, e7⟩
  have s7 := e7.size
  have W7 := W6.trans e7
  have S7 := (Ext.refl u6).trans e7
  replace hb0 := At.ext hb0 e7
  have xl0 := xo0.lo
  have xm0 := xo0.ab
  have xn0 := xo0.bc
  have xk0 := At.lt xo0.c
  skip
  refine EL.h (Hv.allocA rfl rfl) rfl (fun _ => rfl) ?_
  rintro _ u8 ⟨gx0, rfl, hgx0, hx0, e8⟩
  have s8 := e8.size
  have W8 := W7.trans e8
  have S8 := S7.trans e8
  replace hb0 := At.ext hb0 e8
  replace xo0 := Own.ext xo0 e8
  skip
  refine EL.h (Hv.storeAggG (vs := tapeC t0 xa0 xb0 xc0) rfl rfl rfl rfl (tapeC_one _ _ _ _) hx0 (Nat.le_refl _)) rfl (fun _ => rfl) ?_
  rintro _ u9 ⟨hy0, hr0⟩
  have s9 := hr0.size
  have W9 : Ext w u9 := Below.wr W8 hr0 (by omega) (Nat.le_refl _)
  have S9 : Ext u6 u9 := Below.wr S8 hr0 (by omega) (Nat.le_refl _)
  replace hb0 := At.kept hb0 hr0 (by simp; omega)
  replace xo0 := Own.keep xo0 hr0 (by omega)
  have hx0 : At u9 32 4 gx0 1 1 (tapeC t0 xa0 xb0 xc0) := hy0
  clear hy0
  have lx0 := At.lt hx0
  repeat' (first
    | refine EL.f (FV.move rfl) rfl rfl ?_
    | refine EL.nil ?_
    | refine EW.seq ?_
    | refine EW.region ?_)
  refine EL.h (Hv.call (toSS xss1 A1 c1 u9 (h1.ext W9) hn1 ht1) rfl) rfl (fun _ => rfl) ?_
  rintro _ u10 ⟨xvs1, x1, rfl, xo1, e10⟩
  have s10 := e10.size
  have W10 := W9.trans e10
  have S10 := S9.trans e10
  replace hb0 := At.ext hb0 e10
  replace xo0 := Own.ext xo0 e10
  replace hx0 := At.ext hx0 e10
  have xblk1 := fun j => @OutW.blocks _ _ _ _ _ xo1 j
  repeat' (first
    | refine EL.f (FV.loadAgg (cs := tapeC t0 xa0 xb0 xc0) rfl rfl rfl rfl rfl (fun _ e => e ▸ At.lies hx0)) rfl rfl ?_
    | refine EL.f (FV.move rfl) rfl rfl ?_
    | refine EL.f (FV.assign rfl) rfl rfl ?_
    | refine EL.nil ?_
    | refine EW.seq ?_
    | refine EW.region ?_)
  refine EL.h (Hv.call (implTapeSeriesT _ t0 (some ⟨x1, 0, none⟩) _ xss1 u10 xo0.tape fit0 xo1.rdRows hn1 ht1) rfl) rfl (fun _ => rfl) ?_
  rintro _ u11 ⟨gv, gvs, rfl, gown, e11⟩
  have s11 := e11.size
  have W11 := W10.trans e11
  have S11 := S10.trans e11
  replace hb0 := At.ext hb0 e11
  replace xo0 := Own.ext xo0 e11
  replace hx0 := At.ext hx0 e11
  replace xo1 := OutW.ext xo1 e11
  obtain ⟨GA, gc, rfl, _⟩ := gown.rows
  have hr := fTapeSeries_len t0 xss1
  repeat' (first
    | refine EL.f (FV.move rfl) rfl rfl ?_
    | refine EL.f (FV.assign rfl) rfl rfl ?_
    | refine EL.f (FV.extract rfl rfl) rfl rfl ?_
    | refine EL.nil ?_
    | refine EW.seq ?_
    | refine EW.region ?_)
  refine EL.h (Hv.call (eqSS _ GA SA gc sc u11 gown.rdRows (sr.ext S11) hr.1 hr.2) rfl) rfl (fun _ => rfl) ?_
  rintro _ u12 ⟨rfl, e12⟩
  have s12 := e12.size
  have W12 := W11.trans e12
  have S12 := S11.trans e12
  replace hb0 := At.ext hb0 e12
  replace xo0 := Own.ext xo0 e12
  replace hx0 := At.ext hx0 e12
  replace xo1 := OutW.ext xo1 e12
  replace gown := OutW.ext gown e12
  repeat' (first
    | (show EL _ _ _ _ (_ :: _) _ _
       first
       | (show EL _ _ _ _ (⟨_, .move _, _, _, _, _⟩ :: _) _ _; refine EL.f (FV.move rfl) rfl rfl ?_)
       | (show EL _ _ _ _ (⟨_, .unOp .not _ _, _, _, _, _⟩ :: _) _ _; refine EL.f (FV.not rfl) rfl rfl ?_)
       | (show EL _ _ _ _ (⟨_, .pick _ _ _, _, _, _, _⟩ :: _) _ _; refine EL.f (FV.pickF rfl rfl) rfl rfl ?_)
       | (show EL _ _ _ _ (⟨_, .binOp .neq _ _ _ _, _, _, _, _⟩ :: _) _ _; refine EL.fF (FV.neq rfl rfl) rfl (fun _ => rfl) (by omega) ?_))
    | refine EL.nil ?_
    | refine EW.seq ?_
    | refine EW.skip ?_
    | refine EW.condF rfl ?_)
  refine EW.draw (fun w' => Ext u12 w') [(0, true), (1, true), (2, false), (3, false), (4, true)] mixed (by decide +kernel) (Ext.drew _) ?_
  repeat' (first
    | refine EP.f rfl (FV.loadAgg (cs := [.int .i64 t0.inputs, .slice P0 t0.code.length p0, .slice Q0 t0.guards.length q0, .slice R0 t0.outs.length r0]) rfl rfl rfl rfl rfl (fun _ h' => (At.lies hb0).ext h')) rfl rfl ?_
    | refine EP.f rfl (FV.loadAgg (cs := tapeC t0 xa0 xb0 xc0) rfl rfl rfl rfl rfl (fun _ h' => (At.lies hx0).ext h')) rfl rfl ?_)
  have e13 := Ext.drew u12
  have s13 := e13.size
  have W13 := W12.trans e13
  have S13 := S12.trans e13
  replace hb0 := At.ext hb0 e13
  replace xo0 := Own.ext xo0 e13
  replace hx0 := At.ext hx0 e13
  replace xo1 := OutW.ext xo1 e13
  replace gown := OutW.ext gown e13
  refine EP.h rfl rfl (Hv.call (toTape _ t0 u12.drew (hv0.ext W13) fit0.c fit0.g fit0.o) rfl) rfl (fun _ => rfl) ?_
  rintro _ u14 ⟨ya0, yb0, yc0, rfl, yo0, e14⟩
  have s14 := e14.size
  have W14 := W13.trans e14
  have S14 := S13.trans e14
  replace hb0 := At.ext hb0 e14
  replace xo0 := Own.ext xo0 e14
  replace hx0 := At.ext hx0 e14
  replace xo1 := OutW.ext xo1 e14
  replace gown := OutW.ext gown e14
  refine ⟨e13.trans e14, ?_⟩
  refine EP.h rfl rfl (Hv.call (eqTapeSame _ _ t0 u14 xo0.tape yo0.tape fit0.c fit0.g fit0.o) rfl) rfl (fun _ => rfl) ?_
  rintro _ u15 ⟨rfl, e15⟩
  have s15 := e15.size
  have W15 := W14.trans e15
  have S15 := S14.trans e15
  replace hb0 := At.ext hb0 e15
  replace xo0 := Own.ext xo0 e15
  replace hx0 := At.ext hx0 e15
  replace xo1 := OutW.ext xo1 e15
  replace gown := OutW.ext gown e15
  refine ⟨(e13.trans e14).trans e15, ?_⟩
  repeat' (first
    | refine EP.nil ?_
    | refine EP.f rfl (FV.not rfl) rfl rfl ?_)
  repeat' (first
    | refine EL.f (FV.move rfl) rfl rfl ?_
    | refine EW.seq ?_
    | refine EW.region ?_
    | refine EW.skip ?_
    | refine EW.condF rfl ?_)
  refine EL.h (Hv.call (toSS xss1 A1 c1 u15 (h1.ext W15) hn1 ht1) rfl) rfl (fun _ => rfl) ?_
  rintro _ u16 ⟨yvs1, y1, rfl, yo1, e16⟩
  have s16 := e16.size
  have W16 := W15.trans e16
  have S16 := S15.trans e16
  replace hb0 := At.ext hb0 e16
  replace xo0 := Own.ext xo0 e16
  replace hx0 := At.ext hx0 e16
  replace xo1 := OutW.ext xo1 e16
  replace gown := OutW.ext gown e16
  skip
  refine EL.h (Hv.call (eqSS xss1 (some ⟨x1, 0, none⟩) (some ⟨y1, 0, none⟩) _ _ u16 xo1.rdRows (yo1.ext (Ext.refl _)).rdRows hn1 ht1) rfl) rfl (fun _ => rfl) ?_
  rintro _ u17 ⟨rfl, e17⟩
  have s17 := e17.size
  have W17 := W16.trans e17
  have S17 := S16.trans e17
  replace hb0 := At.ext hb0 e17
  replace xo0 := Own.ext xo0 e17
  replace hx0 := At.ext hx0 e17
  replace xo1 := OutW.ext xo1 e17
  replace gown := OutW.ext gown e17
  repeat' (first
    | (show EL _ _ _ _ (_ :: _) _ _
       first
       | (show EL _ _ _ _ (⟨_, .load _ _, _, _, _, _⟩ :: _) _ _; refine EL.f (FV.loadAgg (cs := tapeC t0 xa0 xb0 xc0) rfl rfl rfl rfl rfl (fun _ e => e ▸ At.lies hx0)) rfl rfl ?_)
       | (show EL _ _ _ _ (⟨_, .move _, _, _, _, _⟩ :: _) _ _; refine EL.f (FV.move rfl) rfl rfl ?_)
       | (show EL _ _ _ _ (⟨_, .assign _, _, _, _, _⟩ :: _) _ _; refine EL.f (FV.assign rfl) rfl rfl ?_)
       | (show EL _ _ _ _ (⟨_, .unOp .not _ _, _, _, _, _⟩ :: _) _ _; refine EL.f (FV.not rfl) rfl rfl ?_))
    | refine EL.nil ?_
    | refine EW.seq ?_
    | refine EW.region ?_
    | refine EW.skip ?_
    | refine EW.condF rfl ?_)
  refine EL.h (Hv.call (markTape _ t0 (1) xa0 u17 ⟨_, _, _, rfl, At.own xo0.a (Nat.le_refl _), At.own xo0.b (by omega), At.own xo0.c (by omega)⟩ fit0 (by omega)) rfl) rfl (fun _ => rfl) ?_
  rintro _ u18 ⟨rfl, _, hm18⟩
  replace hm18 : Only [some xa0, some xb0, some xc0] _ _ := hm18
  have fs0 := fit0.c
  have ft0 := fit0.g
  have fu0 := fit0.o
  have s18 := hm18.size
  have W18 := Only.after W17 hm18 (by intro k hk; simp at hk; omega)
  have S18 := Only.after S17 hm18 (by intro k hk; simp at hk; omega)
  replace hb0 := At.only hb0 hm18 (by simp; omega)
  replace hx0 := At.only hx0 hm18 (by simp; omega)
  replace xo1 := OutW.only xo1 hm18 (by intro k hk; simp at hk; omega)
  replace gown := OutW.only gown hm18 (by intro k hk; simp at hk; omega)
  repeat' (first
    | refine EL.f (FV.move rfl) rfl rfl ?_
    | refine EL.f (FV.assign rfl) rfl rfl ?_
    | refine EL.nil ?_
    | refine EW.seq ?_
    | refine EW.region ?_)
  refine EL.h (Hv.call (markSS _ xvs1 u9.heap.size xss1 (1 + 4 * t0.code.length + 2 * t0.guards.length + t0.outs.length) u18 xo1 hn1 ht1 (by omega)) rfl) rfl (fun _ => rfl) ?_
  rintro _ u19 ⟨rfl, _, hm19⟩
  have s19 := hm19.size
  have W19 := Only.after W18 hm19 (by intro k hk; have := xblk1 k hk; omega)
  have S19 := Only.after S18 hm19 (by intro k hk; have := xblk1 k hk; omega)
  replace hb0 := At.only hb0 hm19 (by intro hk; have := xblk1 _ hk; omega)
  replace hx0 := At.only hx0 hm19 (by intro hk; have := xblk1 _ hk; omega)
  replace gown := OutW.only gown hm19 (by intro k hk; have := xblk1 k hk; omega)
  repeat' (first
    | refine EL.f (FV.move rfl) rfl rfl ?_
    | refine EL.f (FV.assign rfl) rfl rfl ?_
    | refine EL.fF (FV.lss rfl rfl) rfl (fun _ => rfl) (by omega) ?_
    | refine EL.nil ?_
    | refine EW.seq ?_
    | refine EW.region ?_)
  refine EL.h (Hv.call (eqSS _ GA SA gc sc u19 gown.rdRows (sr.ext S19) hr.1 hr.2) rfl) rfl (fun _ => rfl) ?_
  rintro _ u20 ⟨rfl, e20⟩
  have s20 := e20.size
  have W20 := W19.trans e20
  have S20 := S19.trans e20
  replace hb0 := At.ext hb0 e20
  replace hx0 := At.ext hx0 e20
  replace gown := OutW.ext gown e20
  repeat' (first
    | (show EL _ _ _ _ (_ :: _) _ _
       first
       | (show EL _ _ _ _ (⟨_, .move _, _, _, _, _⟩ :: _) _ _; refine EL.f (FV.move rfl) rfl rfl ?_)
       | (show EL _ _ _ _ (⟨_, .assign _, _, _, _, _⟩ :: _) _ _; refine EL.f (FV.assign rfl) rfl rfl ?_)
       | (show EL _ _ _ _ (⟨_, .unOp .not _ _, _, _, _, _⟩ :: _) _ _; refine EL.f (FV.not rfl) rfl rfl ?_)
       | (show EL _ _ _ _ (⟨_, .pick _ _ _, _, _, _, _⟩ :: _) _ _; refine EL.f (FV.pickF rfl rfl) rfl rfl ?_)
       | (show EL _ _ _ _ (⟨_, .binOp .neq _ _ _ _, _, _, _, _⟩ :: _) _ _; refine EL.fF (FV.neq rfl rfl) rfl (fun _ => rfl) (by omega) ?_))
    | refine EL.nil ?_
    | refine EW.seq ?_
    | refine EW.region ?_
    | refine EW.skip ?_
    | refine EW.condF rfl ?_)
  have gblk := fun j => @OutW.blocks _ _ _ _ _ gown j
  refine EL.h (Hv.call (markSS _ gvs u10.heap.size _ 1 u20 gown hr.1 hr.2 (by omega)) rfl) rfl (fun _ => rfl) ?_
  rintro _ u21 ⟨rfl, gmk, hm21⟩
  have s21 := hm21.size
  have W21 := Only.after W20 hm21 (by intro k hk; have := gblk k hk; omega)
  have S21 := Only.after S20 hm21 (by intro k hk; have := gblk k hk; omega)
  replace hb0 := At.only hb0 hm21 (by intro hk; have := gblk _ hk; omega)
  replace gown := gmk
  repeat' (first
    | refine EL.f (FV.move rfl) rfl rfl ?_
    | refine EL.f (FV.assign rfl) rfl rfl ?_
    | refine EL.nil ?_
    | refine EW.seq ?_
    | refine EW.region ?_)
  refine EL.h (Hv.call (heldSS _ GA gc 1 u21 gown.rdRows hr.1 hr.2 (by omega)) rfl) rfl (fun _ => rfl) ?_
  rintro _ _ ⟨rfl, rfl⟩
  repeat' (first
    | (show EL _ _ _ _ (_ :: _) _ _
       first
       | (show EL _ _ _ _ (⟨_, .load _ _, _, _, _, _⟩ :: _) _ _; refine EL.f (FV.loadAgg (cs := [.int .i64 t0.inputs, .slice P0 t0.code.length p0, .slice Q0 t0.guards.length q0, .slice R0 t0.outs.length r0]) rfl rfl rfl rfl rfl (fun _ e => e ▸ At.lies hb0)) rfl rfl ?_)
       | (show EL _ _ _ _ (⟨_, .move _, _, _, _, _⟩ :: _) _ _; refine EL.f (FV.move rfl) rfl rfl ?_)
       | (show EL _ _ _ _ (⟨_, .assign _, _, _, _, _⟩ :: _) _ _; refine EL.f (FV.assign rfl) rfl rfl ?_)
       | (show EL _ _ _ _ (⟨_, .binOp .lss _ _ _ _, _, _, _, _⟩ :: _) _ _; refine EL.fF (FV.lss rfl rfl) rfl (fun _ => rfl) (by omega) ?_)
       | (show EL _ _ _ _ (⟨_, .binOp .neq _ _ _ _, _, _, _, _⟩ :: _) _ _; refine EL.fF (FV.neq rfl rfl) rfl (fun _ => rfl) (by omega) ?_))
    | refine EL.nil ?_
    | refine EW.seq ?_
    | refine EW.region ?_
    | refine EW.skip ?_
    | refine EW.condF rfl ?_)
  refine EL.h (Hv.call (toTape _ t0 u21 (hv0.ext W21) fit0.c fit0.g fit0.o) rfl) rfl (fun _ => rfl) ?_
  rintro _ u22 ⟨za0, zb0, zc0, rfl, zo0, e22⟩
  have s22 := e22.size
  have W22 := W21.trans e22
  have S22 := S21.trans e22
  replace hb0 := At.ext hb0 e22
  replace gown := OutW.ext gown e22
  repeat' (first
    | refine EL.f (FV.move rfl) rfl rfl ?_)
  refine EL.h (Hv.call (toSS xss1 A1 c1 u22 (h1.ext W22) hn1 ht1) rfl) rfl (fun _ => rfl) ?_
  rintro _ u23 ⟨zvs1, z1, rfl, zo1, e23⟩
  have s23 := e23.size
  have W23 := W22.trans e23
  have S23 := S22.trans e23
  replace hb0 := At.ext hb0 e23
  replace gown := OutW.ext gown e23
  replace zo0 := Own.ext zo0 e23
  skip
  refine EL.h (Hv.call (implTapeSeriesT _ t0 (some ⟨z1, 0, none⟩) _ xss1 u23 zo0.tape fit0 zo1.rdRows hn1 ht1) rfl) rfl (fun _ => rfl) ?_
  rintro _ u24 ⟨hv, hvs, rfl, hown, e24⟩
  have s24 := e24.size
  have W24 := W23.trans e24
  have S24 := S23.trans e24
  replace hb0 := At.ext hb0 e24
  replace gown := OutW.ext gown e24
  replace zo0 := Own.ext zo0 e24
  replace zo1 := OutW.ext zo1 e24
  obtain ⟨HA, hc, rfl, _⟩ := hown.rows
  repeat' (first
    | refine EL.f (FV.move rfl) rfl rfl ?_
    | refine EL.f (FV.assign rfl) rfl rfl ?_
    | refine EL.f (FV.extract rfl rfl) rfl rfl ?_
    | refine EL.nil ?_
    | refine EW.seq ?_
    | refine EW.region ?_)
  refine EL.h (Hv.call (eqSS _ HA SA hc sc u24 hown.rdRows (sr.ext S24) hr.1 hr.2) rfl) rfl (fun _ => rfl) ?_
  rintro _ u25 ⟨rfl, e25⟩
  have s25 := e25.size
  have W25 := W24.trans e25
  have S25 := S24.trans e25
  replace hb0 := At.ext hb0 e25
  replace gown := OutW.ext gown e25
  replace zo0 := Own.ext zo0 e25
  replace zo1 := OutW.ext zo1 e25
  replace hown := OutW.ext hown e25
  repeat' (first
    | (show EL _ _ _ _ (_ :: _) _ _
       first
       | (show EL _ _ _ _ (⟨_, .move _, _, _, _, _⟩ :: _) _ _; refine EL.f (FV.move rfl) rfl rfl ?_)
       | (show EL _ _ _ _ (⟨_, .assign _, _, _, _, _⟩ :: _) _ _; refine EL.f (FV.assign rfl) rfl rfl ?_)
       | (show EL _ _ _ _ (⟨_, .unOp .not _ _, _, _, _, _⟩ :: _) _ _; refine EL.f (FV.not rfl) rfl rfl ?_)
       | (show EL _ _ _ _ (⟨_, .pick _ _ _, _, _, _, _⟩ :: _) _ _; refine EL.f (FV.pickF rfl rfl) rfl rfl ?_)
       | (show EL _ _ _ _ (⟨_, .binOp .neq _ _ _ _, _, _, _, _⟩ :: _) _ _; refine EL.fF (FV.neq rfl rfl) rfl (fun _ => rfl) (by omega) ?_))
    | refine EL.nil ?_
    | refine EW.seq ?_
    | refine EW.region ?_
    | refine EW.skip ?_
    | refine EW.condF rfl ?_)
  refine EL.h (Hv.call (heldSS _ GA gc 1 u25 gown.rdRows hr.1 hr.2 (by omega)) rfl) rfl (fun _ => rfl) ?_
  rintro _ _ ⟨rfl, rfl⟩
  repeat' (first
    | (show EL _ _ _ _ (_ :: _) _ _
       first
       | (show EL _ _ _ _ (⟨_, .move _, _, _, _, _⟩ :: _) _ _; refine EL.f (FV.move rfl) rfl rfl ?_)
       | (show EL _ _ _ _ (⟨_, .assign _, _, _, _, _⟩ :: _) _ _; refine EL.f (FV.assign rfl) rfl rfl ?_)
       | (show EL _ _ _ _ (⟨_, .binOp .lss _ _ _ _, _, _, _, _⟩ :: _) _ _; refine EL.fF (FV.lss rfl rfl) rfl (fun _ => rfl) (by omega) ?_)
       | (show EL _ _ _ _ (⟨_, .binOp .neq _ _ _ _, _, _, _, _⟩ :: _) _ _; refine EL.fF (FV.neq rfl rfl) rfl (fun _ => rfl) (by omega) ?_))
    | refine EL.nil ?_
    | refine EW.seq ?_
    | refine EW.region ?_
    | refine EW.skip ?_
    | refine EW.ret ?_
    | refine EW.condF rfl ?_)
  exact ⟨_, rfl, rfl, W25⟩
end Eng
end Go.Proofs.Ytfkohgfcchhlpaa
