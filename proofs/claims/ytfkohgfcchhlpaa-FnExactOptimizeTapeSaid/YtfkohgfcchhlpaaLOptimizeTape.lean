/- The law OptimizeTape: the walk through the verifier's function. Conditions: none but the argument's form. -/
import Derived.Test.YtfkohgfcchhlpaaTop
namespace Go.Proofs.Ytfkohgfcchhlpaa
open Go Go.RowKit
namespace Eng
set_option maxHeartbeats 16000000 in
theorem lawOptimizeTape (v0 : Value) (t0 : Tp) (w : World) (hv0 : TapeV w v0 t0) (mc0 : t0.code.length ≤ 9223372036854775807) (mg0 : t0.guards.length ≤ 9223372036854775807) (mo0 : t0.outs.length ≤ 9223372036854775807) :
    CallsR Try.prog 15 [v0] w fun v w' => v = .bool true ∧ Ext w w' := by
  obtain ⟨P0, p0, Q0, q0, R0, r0, rfl, ra0, rb0, rc0⟩ := hv0
  have hv0 : TapeV w (.agg #[.int .i64 t0.inputs, .slice P0 t0.code.length p0, .slice Q0 t0.guards.length q0, .slice R0 t0.outs.length r0]) t0 := ⟨_, _, _, _, _, _, rfl, ra0, rb0, rc0⟩
  refine CallsR.enter Try.func15 (by decide +kernel) rfl Try.ntmps15 rfl ?_
  repeat' (first
    | refine EW.seq ?_
    | refine EW.region ?_)
  refine EL.h (Hv.boxA (sz := 4) rfl rfl) rfl (fun _ => rfl) ?_
  rintro _ u1 ⟨gb0, rfl, hg0, hb0, e1⟩
  have s1 := e1.size
  have W1 := (Ext.refl w).trans e1
  have lb0 := At.lt hb0
  repeat' (first
    | refine EL.f (FV.loadAgg (cs := [.int .i64 t0.inputs, .slice P0 t0.code.length p0, .slice Q0 t0.guards.length q0, .slice R0 t0.outs.length r0]) rfl rfl rfl rfl rfl (fun _ e => e ▸ At.lies hb0)) rfl rfl ?_
    | refine EL.f (FV.move rfl) rfl rfl ?_
    | refine EL.f (FV.assign rfl) rfl rfl ?_
    | refine EL.nil ?_
    | refine EW.seq ?_
    | refine EW.region ?_)
  refine EL.h (Hv.call (szTape _ t0 1048576 u1 (hv0.ext W1) mc0 mg0 mo0 ⟨by omega, by omega⟩) rfl) rfl (fun _ => rfl) ?_
  rintro _ u2 ⟨rfl, e2⟩
  have s2 := e2.size
  have W2 := W1.trans e2
  replace hb0 := At.ext hb0 e2
  by_cases hz0 : szT t0 1048576 < 0
  · repeat' (first
      | refine EL.f (FV.move rfl) rfl rfl ?_
      | refine EL.f (FV.assign rfl) rfl rfl ?_
      | refine EL.fT (FV.lss rfl rfl) rfl (fun _ => rfl) (by omega) ?_
      | refine EL.nil ?_
      | refine EW.seq ?_
      | refine EW.region ?_
      | refine EW.ret ?_
      | refine EW.condT rfl ?_)
    exact ⟨_, rfl, rfl, W2⟩
  have fit0 := (szT_fit (t := t0) (k := 1048576) (by omega) hz0).1
  have fr := fOptimizeTape_fit t0 fit0
  repeat' (first
    | (show EL _ _ _ _ (_ :: _) _ _
       first
       | (show EL _ _ _ _ (⟨_, .load _ _, _, _, _, _⟩ :: _) _ _; refine EL.f (FV.loadAgg (cs := [.int .i64 t0.inputs, .slice P0 t0.code.length p0, .slice Q0 t0.guards.length q0, .slice R0 t0.outs.length r0]) rfl rfl rfl rfl rfl (fun _ e => e ▸ At.lies hb0)) rfl rfl ?_)
       | (show EL _ _ _ _ (⟨_, .move _, _, _, _, _⟩ :: _) _ _; refine EL.f (FV.move rfl) rfl rfl ?_)
       | (show EL _ _ _ _ (⟨_, .assign _, _, _, _, _⟩ :: _) _ _; refine EL.f (FV.assign rfl) rfl rfl ?_)
       | (show EL _ _ _ _ (⟨_, .binOp .lss _ _ _ _, _, _, _, _⟩ :: _) _ _; refine EL.fF (FV.lss rfl rfl) rfl (fun _ => rfl) (by omega) ?_))
    | refine EL.nil ?_
    | refine EW.seq ?_
    | refine EW.region ?_
    | refine EW.skip ?_
    | refine EW.condF rfl ?_)
  refine EL.h (Hv.call (toTape _ t0 u2 (hv0.ext W2) fit0.c fit0.g fit0.o) rfl) rfl (fun _ => rfl) ?_
  rintro _ u3 ⟨pa, pb, pc, rfl, po, e3⟩
  have s3 := e3.size
  have W3 := W2.trans e3
  replace hb0 := At.ext hb0 e3
  have po_ := po
  skip
  refine EL.h (Hv.call (specOptimizeTapeT _ t0 u3 (Own.tape po) fit0) rfl) rfl (fun _ => rfl) ?_
  rintro _ u4 ⟨sv, rfl, sown, e4⟩
  have s4 := e4.size
  have W4 := W3.trans e4
  replace hb0 := At.ext hb0 e4
  have sL := fun k => @OwnT.block _ _ _ _ sown k
  have sforms := OwnT.ones sown
  have stp := OwnT.cells sown
  obtain ⟨s1, s2, s3, hvs⟩ := stp
  have sone := sforms _ _ _ hvs
  subst hvs
  clear sforms
  repeat' (first
    | refine EL.f (FV.move rfl) rfl rfl ?_
    | refine EL.f (FV.extract rfl rfl) rfl rfl ?_)
  refine EL.h (Hv.allocA rfl rfl) rfl (fun _ => rfl) ?_
  rintro _ u5 ⟨gs, rfl, hgs, hxs, e5⟩
  have s5 := e5.size
  have W5 := W4.trans e5
  replace hb0 := At.ext hb0 e5
  replace sown := OwnT.ext sown e5
  skip
  refine EL.h (Hv.storeAggG (vs := [.int .i64 (fOptimizeTape t0).1.inputs, s1, s2, s3]) rfl rfl rfl rfl (fun v hv => by simp only [List.mem_cons, List.not_mem_nil, or_false] at hv; rcases hv with rfl | rfl | rfl | rfl; rfl; exact sone.1; exact sone.2.1; exact sone.2.2) hxs (Nat.le_refl _)) rfl (fun _ => rfl) ?_
  rintro _ u6 ⟨hys, hrs⟩
  have s6 := hrs.size
  have W6 : Ext w u6 := Below.wr W5 hrs (by omega) (Nat.le_refl _)
  replace hb0 := At.kept hb0 hrs (by simp; omega)
  replace sown := OwnT.far sown hrs (by intro k hk; have := sL k hk; omega)
  have hws : At u6 32 4 gs 1 1 [.int .i64 (fOptimizeTape t0).1.inputs, s1, s2, s3] := hys
  have lws := At.lt hws
  clear hxs hys
  have st := OwnT.tape sown
  repeat' (first
    | refine EL.f (FV.loadAgg (cs := [.int .i64 t0.inputs, .slice P0 t0.code.length p0, .slice Q0 t0.guards.length q0, .slice R0 t0.outs.length r0]) rfl rfl rfl rfl rfl (fun _ e => e ▸ At.lies hb0)) rfl rfl ?_
    | refine EL.f (FV.assign rfl) rfl rfl ?_
    | refine EL.nil ?_
    | refine EW.seq ?_
    | refine EW.region ?_)
  refine EL.h (Hv.call (toTape _ t0 u6 (hv0.ext W6) fit0.c fit0.g fit0.o) rfl) rfl (fun _ => rfl) ?_
  rintro _ u7 ⟨xa, xb, xc, rfl, xo, e7⟩
  have s7 := e7.size
  have W7 := W6.trans e7
  have S7 := (Ext.refl u6).trans e7
  replace hb0 := At.ext hb0 e7
  replace hws := At.ext hws e7
  have xl := xo.lo
  have xm := xo.ab
  have xn := xo.bc
  have xk := At.lt xo.c
  skip
  refine EL.h (Hv.allocA rfl rfl) rfl (fun _ => rfl) ?_
  rintro _ u8 ⟨gx, rfl, hgx, hx, e8⟩
  have s8 := e8.size
  have W8 := W7.trans e8
  have S8 := S7.trans e8
  replace hb0 := At.ext hb0 e8
  replace hws := At.ext hws e8
  replace xo := Own.ext xo e8
  skip
  refine EL.h (Hv.storeAggG (vs := tapeC t0 xa xb xc) rfl rfl rfl rfl (tapeC_one _ _ _ _) hx (Nat.le_refl _)) rfl (fun _ => rfl) ?_
  rintro _ u9 ⟨hy, hr⟩
  have s9 := hr.size
  have W9 : Ext w u9 := Below.wr W8 hr (by omega) (Nat.le_refl _)
  have S9 : Ext u6 u9 := Below.wr S8 hr (by omega) (Nat.le_refl _)
  replace hb0 := At.kept hb0 hr (by simp; omega)
  replace hws := At.kept hws hr (by simp; omega)
  replace xo := Own.keep xo hr (by omega)
  have hwx : At u9 32 4 gx 1 1 (tapeC t0 xa xb xc) := hy
  have lwx := At.lt hwx
  clear hx hy
  repeat' (first
    | refine EL.f (FV.loadAgg (cs := tapeC t0 xa xb xc) rfl rfl rfl rfl rfl (fun _ e => e ▸ At.lies hwx)) rfl rfl ?_
    | refine EL.nil ?_
    | refine EW.seq ?_
    | refine EW.region ?_)
  refine EL.h (Hv.call (implOptimizeTapeT _ t0 u9 (Own.tape xo) fit0) rfl) rfl (fun _ => rfl) ?_
  rintro _ u10 ⟨gv, rfl, gown, e10⟩
  have s10 := e10.size
  have W10 := W9.trans e10
  have S10 := S9.trans e10
  replace hb0 := At.ext hb0 e10
  replace hws := At.ext hws e10
  replace xo := Own.ext xo e10
  replace hwx := At.ext hwx e10
  have gL := fun k => @OwnT.block _ _ _ _ gown k
  have gforms := OwnT.ones gown
  have gtp := OwnT.cells gown
  obtain ⟨g1, g2, g3, hvg⟩ := gtp
  have gone := gforms _ _ _ hvg
  subst hvg
  clear gforms
  repeat' (first
    | refine EL.f (FV.move rfl) rfl rfl ?_
    | refine EL.f (FV.extract rfl rfl) rfl rfl ?_)
  refine EL.h (Hv.allocA rfl rfl) rfl (fun _ => rfl) ?_
  rintro _ u11 ⟨gg, rfl, hgg, hxg, e11⟩
  have s11 := e11.size
  have W11 := W10.trans e11
  have S11 := S10.trans e11
  replace hb0 := At.ext hb0 e11
  replace hws := At.ext hws e11
  replace xo := Own.ext xo e11
  replace hwx := At.ext hwx e11
  replace gown := OwnT.ext gown e11
  skip
  refine EL.h (Hv.storeAggG (vs := [.int .i64 (fOptimizeTape t0).1.inputs, g1, g2, g3]) rfl rfl rfl rfl (fun v hv => by simp only [List.mem_cons, List.not_mem_nil, or_false] at hv; rcases hv with rfl | rfl | rfl | rfl; rfl; exact gone.1; exact gone.2.1; exact gone.2.2) hxg (Nat.le_refl _)) rfl (fun _ => rfl) ?_
  rintro _ u12 ⟨hyg, hrg⟩
  have s12 := hrg.size
  have W12 : Ext w u12 := Below.wr W11 hrg (by omega) (Nat.le_refl _)
  have S12 : Ext u6 u12 := Below.wr S11 hrg (by omega) (Nat.le_refl _)
  replace hb0 := At.kept hb0 hrg (by simp; omega)
  replace hws := At.kept hws hrg (by simp; omega)
  replace xo := Own.keep xo hrg (by omega)
  replace hwx := At.kept hwx hrg (by simp; omega)
  replace gown := OwnT.far gown hrg (by intro k hk; have := gL k hk; omega)
  have hwg : At u12 32 4 gg 1 1 [.int .i64 (fOptimizeTape t0).1.inputs, g1, g2, g3] := hyg
  have lwg := At.lt hwg
  clear hxg hyg
  repeat' (first
    | refine EL.f (FV.loadAgg (cs := [.int .i64 (fOptimizeTape t0).1.inputs, s1, s2, s3]) rfl rfl rfl rfl rfl (fun _ e => e ▸ At.lies hws)) rfl rfl ?_
    | refine EL.f (FV.loadAgg (cs := [.int .i64 (fOptimizeTape t0).1.inputs, g1, g2, g3]) rfl rfl rfl rfl rfl (fun _ e => e ▸ At.lies hwg)) rfl rfl ?_
    | refine EL.f (FV.assign rfl) rfl rfl ?_
    | refine EL.nil ?_
    | refine EW.seq ?_
    | refine EW.region ?_)
  refine EL.h (Hv.call (eqTapeSame _ _ (fOptimizeTape t0).1 u12 gown.tape (st.ext S12) fr.c fr.g fr.o) rfl) rfl (fun _ => rfl) ?_
  rintro _ u13 ⟨rfl, e13⟩
  have s13 := e13.size
  have W13 := W12.trans e13
  have S13 := S12.trans e13
  replace hb0 := At.ext hb0 e13
  replace hws := At.ext hws e13
  replace xo := Own.ext xo e13
  replace hwx := At.ext hwx e13
  replace gown := OwnT.ext gown e13
  replace hwg := At.ext hwg e13
  repeat' (first
    | (show EL _ _ _ _ (_ :: _) _ _
       first
       | (show EL _ _ _ _ (⟨_, .move _, _, _, _, _⟩ :: _) _ _; refine EL.f (FV.move rfl) rfl rfl ?_)
       | (show EL _ _ _ _ (⟨_, .unOp .not _ _, _, _, _, _⟩ :: _) _ _; refine EL.f (FV.not rfl) rfl rfl ?_)
       | (show EL _ _ _ _ (⟨_, .pick _ _ _, _, _, _, _⟩ :: _) _ _; refine EL.f (FV.pickF rfl rfl) rfl rfl ?_)
       | (show EL _ _ _ _ (⟨_, .binOp .neq _ _ _ _, _, _, _, _⟩ :: _) _ _; refine EL.fF (FV.neq rfl rfl) rfl (fun _ => rfl) (by omega) ?_))
    | refine EL.nil ?_
    | refine EW.seq ?_
    | refine EW.skip ?_
    | refine EW.condF rfl ?_)
  refine EW.draw (fun w' => Ext u13 w') [(0, true), (1, true), (2, false), (3, false), (4, true)] mixed (by decide +kernel) (Ext.drew _) ?_
  repeat' (first
    | refine EP.f rfl (FV.loadAgg (cs := [.int .i64 t0.inputs, .slice P0 t0.code.length p0, .slice Q0 t0.guards.length q0, .slice R0 t0.outs.length r0]) rfl rfl rfl rfl rfl (fun _ h' => (At.lies hb0).ext h')) rfl rfl ?_
    | refine EP.f rfl (FV.loadAgg (cs := tapeC t0 xa xb xc) rfl rfl rfl rfl rfl (fun _ h' => (At.lies hwx).ext h')) rfl rfl ?_)
  have e14 := Ext.drew u13
  have s14 := e14.size
  have W14 := W13.trans e14
  have S14 := S13.trans e14
  replace hb0 := At.ext hb0 e14
  replace hws := At.ext hws e14
  replace xo := Own.ext xo e14
  replace hwx := At.ext hwx e14
  replace gown := OwnT.ext gown e14
  replace hwg := At.ext hwg e14
  refine EP.h rfl rfl (Hv.call (toTape _ t0 u13.drew (hv0.ext W14) fit0.c fit0.g fit0.o) rfl) rfl (fun _ => rfl) ?_
  rintro _ u15 ⟨ya, yb, yc, rfl, yo, e15⟩
  have s15 := e15.size
  have W15 := W14.trans e15
  have S15 := S14.trans e15
  replace hb0 := At.ext hb0 e15
  replace hws := At.ext hws e15
  replace xo := Own.ext xo e15
  replace hwx := At.ext hwx e15
  replace gown := OwnT.ext gown e15
  replace hwg := At.ext hwg e15
  refine ⟨e14.trans e15, ?_⟩
  refine EP.h rfl rfl (Hv.call (eqTapeSame _ _ t0 u15 xo.tape yo.tape fit0.c fit0.g fit0.o) rfl) rfl (fun _ => rfl) ?_
  rintro _ u16 ⟨rfl, e16⟩
  have s16 := e16.size
  have W16 := W15.trans e16
  have S16 := S15.trans e16
  replace hb0 := At.ext hb0 e16
  replace hws := At.ext hws e16
  replace xo := Own.ext xo e16
  replace hwx := At.ext hwx e16
  replace gown := OwnT.ext gown e16
  replace hwg := At.ext hwg e16
  refine ⟨(e14.trans e15).trans e16, ?_⟩
  repeat' (first
    | refine EP.nil ?_
    | refine EP.f rfl (FV.not rfl) rfl rfl ?_)
  repeat' (first
    | refine EL.f (FV.loadAgg (cs := tapeC t0 xa xb xc) rfl rfl rfl rfl rfl (fun _ e => e ▸ At.lies hwx)) rfl rfl ?_
    | refine EL.f (FV.move rfl) rfl rfl ?_
    | refine EL.f (FV.assign rfl) rfl rfl ?_
    | refine EL.nil ?_
    | refine EW.seq ?_
    | refine EW.region ?_
    | refine EW.skip ?_
    | refine EW.condF rfl ?_)
  refine EL.h (Hv.call (markTape _ t0 1 xa u16 ⟨_, _, _, rfl, At.own xo.a (Nat.le_refl _), At.own xo.b (by omega), At.own xo.c (by omega)⟩ fit0 (by omega)) rfl) rfl (fun _ => rfl) ?_
  rintro _ u17 ⟨rfl, _, hm17⟩
  replace hm17 : Only [some xa, some xb, some xc] _ _ := hm17
  have fs0 := fit0.c
  have ft0 := fit0.g
  have fu0 := fit0.o
  have s17 := hm17.size
  have W17 := Only.after W16 hm17 (by intro k hk; simp at hk; omega)
  have S17 := Only.after S16 hm17 (by intro k hk; simp at hk; omega)
  replace hb0 := At.only hb0 hm17 (by simp; omega)
  replace hws := At.only hws hm17 (by simp; omega)
  replace hwx := At.only hwx hm17 (by simp; omega)
  replace gown := OwnT.only gown hm17 (by intro k hk; simp at hk; omega)
  replace hwg := At.only hwg hm17 (by simp; omega)
  repeat' (first
    | (show EL _ _ _ _ (_ :: _) _ _
       first
       | (show EL _ _ _ _ (⟨_, .load _ _, _, _, _, _⟩ :: _) _ _; first | refine EL.f (FV.loadAgg (cs := [.int .i64 (fOptimizeTape t0).1.inputs, s1, s2, s3]) rfl rfl rfl rfl rfl (fun _ e => e ▸ At.lies hws)) rfl rfl ?_ | refine EL.f (FV.loadAgg (cs := [.int .i64 (fOptimizeTape t0).1.inputs, g1, g2, g3]) rfl rfl rfl rfl rfl (fun _ e => e ▸ At.lies hwg)) rfl rfl ?_)
       | (show EL _ _ _ _ (⟨_, .move _, _, _, _, _⟩ :: _) _ _; refine EL.f (FV.move rfl) rfl rfl ?_)
       | (show EL _ _ _ _ (⟨_, .assign _, _, _, _, _⟩ :: _) _ _; refine EL.f (FV.assign rfl) rfl rfl ?_)
       | (show EL _ _ _ _ (⟨_, .binOp .lss _ _ _ _, _, _, _, _⟩ :: _) _ _; refine EL.fF (FV.lss rfl rfl) rfl (fun _ => rfl) (by omega) ?_))
    | refine EL.nil ?_
    | refine EW.seq ?_
    | refine EW.region ?_)
  refine EL.h (Hv.call (eqTapeSame _ _ (fOptimizeTape t0).1 u17 gown.tape (st.ext S17) fr.c fr.g fr.o) rfl) rfl (fun _ => rfl) ?_
  rintro _ u18 ⟨rfl, e18⟩
  have s18 := e18.size
  have W18 := W17.trans e18
  have S18 := S17.trans e18
  replace hb0 := At.ext hb0 e18
  replace hws := At.ext hws e18
  replace hwx := At.ext hwx e18
  replace gown := OwnT.ext gown e18
  replace hwg := At.ext hwg e18
  have fv := fr.c
  have fw := fr.g
  have fz := fr.o
  repeat' (first
    | (show EL _ _ _ _ (_ :: _) _ _
       first
       | (show EL _ _ _ _ (⟨_, .load _ _, _, _, _, _⟩ :: _) _ _; refine EL.f (FV.loadAgg (cs := [.int .i64 (fOptimizeTape t0).1.inputs, g1, g2, g3]) rfl rfl rfl rfl rfl (fun _ e => e ▸ At.lies hwg)) rfl rfl ?_)
       | (show EL _ _ _ _ (⟨_, .move _, _, _, _, _⟩ :: _) _ _; refine EL.f (FV.move rfl) rfl rfl ?_)
       | (show EL _ _ _ _ (⟨_, .assign _, _, _, _, _⟩ :: _) _ _; refine EL.f (FV.assign rfl) rfl rfl ?_)
       | (show EL _ _ _ _ (⟨_, .unOp .not _ _, _, _, _, _⟩ :: _) _ _; refine EL.f (FV.not rfl) rfl rfl ?_)
       | (show EL _ _ _ _ (⟨_, .pick _ _ _, _, _, _, _⟩ :: _) _ _; refine EL.f (FV.pickF rfl rfl) rfl rfl ?_)
       | (show EL _ _ _ _ (⟨_, .binOp .neq _ _ _ _, _, _, _, _⟩ :: _) _ _; refine EL.fF (FV.neq rfl rfl) rfl (fun _ => rfl) (by omega) ?_))
    | refine EL.nil ?_
    | refine EW.seq ?_
    | refine EW.region ?_
    | refine EW.skip ?_
    | refine EW.condF rfl ?_)
  refine EL.h (Hv.call (markTape _ (fOptimizeTape t0).1 1 u9.heap.size u18 gown fr (by omega)) rfl) rfl (fun _ => rfl) ?_
  rintro _ u19 ⟨rfl, gmk, hm19⟩
  have s19 := hm19.size
  have W19 := Only.after W18 hm19 (by intro k hk; have := gL k hk; omega)
  have S19 := Only.after S18 hm19 (by intro k hk; have := gL k hk; omega)
  replace hb0 := At.only hb0 hm19 (by intro hk; have := gL _ hk; omega)
  replace hws := At.only hws hm19 (by intro hk; have := gL _ hk; omega)
  replace hwg := At.only hwg hm19 (by intro hk; have := gL _ hk; omega)
  replace gown := gmk
  clear gmk
  repeat' (first
    | refine EL.f (FV.loadAgg (cs := [.int .i64 (fOptimizeTape t0).1.inputs, g1, g2, g3]) rfl rfl rfl rfl rfl (fun _ e => e ▸ At.lies hwg)) rfl rfl ?_
    | refine EL.f (FV.move rfl) rfl rfl ?_
    | refine EL.f (FV.assign rfl) rfl rfl ?_
    | refine EL.nil ?_
    | refine EW.seq ?_
    | refine EW.region ?_)
  refine EL.h (Hv.call (heldTape _ (fOptimizeTape t0).1 1 u19 gown.tape fr (by omega)) rfl) rfl (fun _ => rfl) ?_
  rintro _ u20 ⟨rfl, e20⟩
  have s20 := e20.size
  have W20 := W19.trans e20
  have S20 := S19.trans e20
  replace hb0 := At.ext hb0 e20
  replace hws := At.ext hws e20
  replace gown := OwnT.ext gown e20
  replace hwg := At.ext hwg e20
  repeat' (first
    | (show EL _ _ _ _ (_ :: _) _ _
       first
       | (show EL _ _ _ _ (⟨_, .load _ _, _, _, _, _⟩ :: _) _ _; refine EL.f (FV.loadAgg (cs := [.int .i64 t0.inputs, .slice P0 t0.code.length p0, .slice Q0 t0.guards.length q0, .slice R0 t0.outs.length r0]) rfl rfl rfl rfl rfl (fun _ e => e ▸ At.lies hb0)) rfl rfl ?_)
       | (show EL _ _ _ _ (⟨_, .move _, _, _, _, _⟩ :: _) _ _; refine EL.f (FV.move rfl) rfl rfl ?_)
       | (show EL _ _ _ _ (⟨_, .assign _, _, _, _, _⟩ :: _) _ _; refine EL.f (FV.assign rfl) rfl rfl ?_)
       | (show EL _ _ _ _ (⟨_, .binOp .lss _ _ _ _, _, _, _, _⟩ :: _) _ _; refine EL.fF (FV.lss rfl rfl) rfl (fun _ => rfl) (by omega) ?_)
       | (show EL _ _ _ _ (⟨_, .binOp .neq _ _ _ _, _, _, _, _⟩ :: _) _ _; refine EL.fF (FV.neq rfl rfl) rfl (fun _ => rfl) (by omega) ?_))
    | refine EL.nil ?_
    | refine EW.seq ?_
    | refine EW.region ?_
    | refine EW.skip ?_
    | refine EW.condF rfl ?_)
  refine EL.h (Hv.call (toTape _ t0 u20 (hv0.ext W20) fit0.c fit0.g fit0.o) rfl) rfl (fun _ => rfl) ?_
  rintro _ u21 ⟨za, zb, zc, rfl, zo, e21⟩
  have s21 := e21.size
  have W21 := W20.trans e21
  have S21 := S20.trans e21
  replace hb0 := At.ext hb0 e21
  replace hws := At.ext hws e21
  replace gown := OwnT.ext gown e21
  replace hwg := At.ext hwg e21
  have zk := At.lt zo.c
  skip
  refine EL.h (Hv.call (implOptimizeTapeT _ t0 u21 (Own.tape zo) fit0) rfl) rfl (fun _ => rfl) ?_
  rintro _ u22 ⟨hv, rfl, hown, e22⟩
  have s22 := e22.size
  have W22 := W21.trans e22
  have S22 := S21.trans e22
  replace hb0 := At.ext hb0 e22
  replace hws := At.ext hws e22
  replace gown := OwnT.ext gown e22
  replace hwg := At.ext hwg e22
  replace zo := Own.ext zo e22
  have hL := fun k => @OwnT.block _ _ _ _ hown k
  have hforms := OwnT.ones hown
  have htp := OwnT.cells hown
  obtain ⟨h1, h2, h3, hvh⟩ := htp
  have hone := hforms _ _ _ hvh
  subst hvh
  clear hforms
  repeat' (first
    | refine EL.f (FV.move rfl) rfl rfl ?_
    | refine EL.f (FV.extract rfl rfl) rfl rfl ?_)
  refine EL.h (Hv.allocA rfl rfl) rfl (fun _ => rfl) ?_
  rintro _ u23 ⟨gh, rfl, hgh, hxh, e23⟩
  have s23 := e23.size
  have W23 := W22.trans e23
  have S23 := S22.trans e23
  replace hb0 := At.ext hb0 e23
  replace hws := At.ext hws e23
  replace gown := OwnT.ext gown e23
  replace hwg := At.ext hwg e23
  replace zo := Own.ext zo e23
  replace hown := OwnT.ext hown e23
  skip
  refine EL.h (Hv.storeAggG (vs := [.int .i64 (fOptimizeTape t0).1.inputs, h1, h2, h3]) rfl rfl rfl rfl (fun v hv => by simp only [List.mem_cons, List.not_mem_nil, or_false] at hv; rcases hv with rfl | rfl | rfl | rfl; rfl; exact hone.1; exact hone.2.1; exact hone.2.2) hxh (Nat.le_refl _)) rfl (fun _ => rfl) ?_
  rintro _ u24 ⟨hyh, hrh⟩
  have s24 := hrh.size
  have W24 : Ext w u24 := Below.wr W23 hrh (by omega) (Nat.le_refl _)
  have S24 : Ext u6 u24 := Below.wr S23 hrh (by omega) (Nat.le_refl _)
  replace hb0 := At.kept hb0 hrh (by simp; omega)
  replace hws := At.kept hws hrh (by simp; omega)
  replace gown := OwnT.far gown hrh (by intro k hk; have := gL k hk; omega)
  replace hwg := At.kept hwg hrh (by simp; omega)
  replace zo := Own.keep zo hrh (by omega)
  replace hown := OwnT.far hown hrh (by intro k hk; have := hL k hk; omega)
  have hwh : At u24 32 4 gh 1 1 [.int .i64 (fOptimizeTape t0).1.inputs, h1, h2, h3] := hyh
  have lwh := At.lt hwh
  clear hxh hyh
  repeat' (first
    | refine EL.f (FV.loadAgg (cs := [.int .i64 (fOptimizeTape t0).1.inputs, s1, s2, s3]) rfl rfl rfl rfl rfl (fun _ e => e ▸ At.lies hws)) rfl rfl ?_
    | refine EL.f (FV.loadAgg (cs := [.int .i64 (fOptimizeTape t0).1.inputs, h1, h2, h3]) rfl rfl rfl rfl rfl (fun _ e => e ▸ At.lies hwh)) rfl rfl ?_
    | refine EL.f (FV.assign rfl) rfl rfl ?_
    | refine EL.nil ?_
    | refine EW.seq ?_
    | refine EW.region ?_)
  refine EL.h (Hv.call (eqTapeSame _ _ (fOptimizeTape t0).1 u24 hown.tape (st.ext S24) fr.c fr.g fr.o) rfl) rfl (fun _ => rfl) ?_
  rintro _ u25 ⟨rfl, e25⟩
  have s25 := e25.size
  have W25 := W24.trans e25
  have S25 := S24.trans e25
  replace hb0 := At.ext hb0 e25
  replace hws := At.ext hws e25
  replace gown := OwnT.ext gown e25
  replace hwg := At.ext hwg e25
  replace zo := Own.ext zo e25
  replace hown := OwnT.ext hown e25
  replace hwh := At.ext hwh e25
  repeat' (first
    | (show EL _ _ _ _ (_ :: _) _ _
       first
       | (show EL _ _ _ _ (⟨_, .load _ _, _, _, _, _⟩ :: _) _ _; refine EL.f (FV.loadAgg (cs := [.int .i64 (fOptimizeTape t0).1.inputs, g1, g2, g3]) rfl rfl rfl rfl rfl (fun _ e => e ▸ At.lies hwg)) rfl rfl ?_)
       | (show EL _ _ _ _ (⟨_, .move _, _, _, _, _⟩ :: _) _ _; refine EL.f (FV.move rfl) rfl rfl ?_)
       | (show EL _ _ _ _ (⟨_, .assign _, _, _, _, _⟩ :: _) _ _; refine EL.f (FV.assign rfl) rfl rfl ?_)
       | (show EL _ _ _ _ (⟨_, .unOp .not _ _, _, _, _, _⟩ :: _) _ _; refine EL.f (FV.not rfl) rfl rfl ?_)
       | (show EL _ _ _ _ (⟨_, .pick _ _ _, _, _, _, _⟩ :: _) _ _; refine EL.f (FV.pickF rfl rfl) rfl rfl ?_)
       | (show EL _ _ _ _ (⟨_, .binOp .neq _ _ _ _, _, _, _, _⟩ :: _) _ _; refine EL.fF (FV.neq rfl rfl) rfl (fun _ => rfl) (by omega) ?_))
    | refine EL.nil ?_
    | refine EW.seq ?_
    | refine EW.region ?_
    | refine EW.skip ?_
    | refine EW.condF rfl ?_)
  refine EL.h (Hv.call (heldTape _ (fOptimizeTape t0).1 1 u25 gown.tape fr (by omega)) rfl) rfl (fun _ => rfl) ?_
  rintro _ u26 ⟨rfl, e26⟩
  have s26 := e26.size
  have W26 := W25.trans e26
  have S26 := S25.trans e26
  replace hb0 := At.ext hb0 e26
  replace hws := At.ext hws e26
  replace gown := OwnT.ext gown e26
  replace hwg := At.ext hwg e26
  replace zo := Own.ext zo e26
  replace hown := OwnT.ext hown e26
  replace hwh := At.ext hwh e26
  repeat' (first
    | (show EL _ _ _ _ (_ :: _) _ _
       first
       | (show EL _ _ _ _ (⟨_, .move _, _, _, _, _⟩ :: _) _ _; refine EL.f (FV.move rfl) rfl rfl ?_)
       | (show EL _ _ _ _ (⟨_, .assign _, _, _, _, _⟩ :: _) _ _; refine EL.f (FV.assign rfl) rfl rfl ?_)
       | (show EL _ _ _ _ (⟨_, .binOp .lss _ _ _ _, _, _, _, _⟩ :: _) _ _; refine EL.fF (FV.lss rfl rfl) rfl (fun _ => rfl) (by omega) ?_)
       | (show EL _ _ _ _ (⟨_, .binOp .neq _ _ _ _, _, _, _, _⟩ :: _) _ _; refine EL.fF (FV.neq rfl rfl) rfl (fun _ => rfl) (by omega) ?_))
    | refine EL.nil ?_
    | refine EW.seq ?_
    | refine EW.region ?_
    | refine EW.skip ?_
    | refine EW.ret ?_
    | refine EW.condF rfl ?_)
  exact ⟨_, rfl, rfl, W26⟩
end Eng
end Go.Proofs.Ytfkohgfcchhlpaa
