/- The law TapeText: the walk through the verifier's function. Conditions: none but the arguments' form. -/
import Derived.Test.YtogljflccfoaeaaDoorXt
import Derived.Test.YtogljflccfoaeaaDoorTv
namespace Go.Proofs.YtogljflccfoaeaaDoor
open Go Go.RowKit
namespace Eng
set_option maxHeartbeats 16000000 in
theorem lawTapeText (v0 : Value) (t0 : Tp) (w : World) (ht : LaidW w) (hv0 : TapeV w v0 t0) (mc0 : t0.code.length ≤ 9223372036854775807) (mg0 : t0.guards.length ≤ 9223372036854775807) (mo0 : t0.outs.length ≤ 9223372036854775807) :
    CallsR Tryd.prog 5 [v0] w fun v w' => v = .bool true ∧ Ext w w' := by
  obtain ⟨P0, p0, Q0, q0, R0, r0, rfl, ra0, rb0, rc0⟩ := hv0
  have hv0 : TapeV w (.agg #[.int .i64 t0.inputs, .slice P0 t0.code.length p0, .slice Q0 t0.guards.length q0, .slice R0 t0.outs.length r0]) t0 := ⟨_, _, _, _, _, _, rfl, ra0, rb0, rc0⟩
  refine CallsR.enter Tryd.func5 (by decide +kernel) rfl Tryd.ntmps5 rfl ?_
  repeat' (first
    | refine EW.seq ?_
    | refine EW.region ?_)
  refine EL.h (Hv.boxA (sz := 4) rfl rfl) rfl (fun _ => rfl) ?_
  rintro _ u1 ⟨gb0, rfl, hg0, hb0, e1⟩
  have s1 := e1.size
  have W1 := (Ext.refl w).trans e1
  have lb0 := At.lt hb0
  repeat' (first
    | refine EL.f (FV.loadAgg (cs := [.int .i64 t0.inputs, .slice P0 t0.code.length p0, .slice Q0 t0.guards.length q0, .slice R0 t0.outs.length r0]) rfl rfl rfl rfl rfl (fun _ e => e ▸ At.lies hb0)) rfl rfl ?_
    | refine EL.f (FV.move rfl) rfl rfl ?_
    | refine EL.f (FV.assign rfl) rfl rfl ?_
    | refine EL.nil ?_
    | refine EW.seq ?_
    | refine EW.region ?_)
  refine EL.h (Hv.call (szTape _ t0 1048576 u1 (hv0.ext W1) mc0 mg0 mo0 ⟨by omega, by omega⟩) rfl) rfl (fun _ => rfl) ?_
  rintro _ u2 ⟨rfl, e2⟩
  have s2 := e2.size
  have W2 := W1.trans e2
  replace hb0 := At.ext hb0 e2
  by_cases hz0 : szT t0 1048576 < 0
  · repeat' (first
      | refine EL.f (FV.move rfl) rfl rfl ?_
      | refine EL.f (FV.assign rfl) rfl rfl ?_
      | refine EL.fT (FV.lss rfl rfl) rfl (fun _ => rfl) (by omega) ?_
      | refine EL.nil ?_
      | refine EW.seq ?_
      | refine EW.region ?_
      | refine EW.ret ?_
      | refine EW.condT rfl ?_)
    exact ⟨_, rfl, rfl, W2⟩
  have fz0 := szT_fit (t := t0) (k := 1048576) (by omega) hz0
  have fit0 := fz0.1
  have fy0 := fz0.2
  repeat' (first
    | (show EL _ _ _ _ (_ :: _) _ _
       first
       | (show EL _ _ _ _ (⟨_, .load _ _, _, _, _, _⟩ :: _) _ _; refine EL.f (FV.loadAgg (cs := [.int .i64 t0.inputs, .slice P0 t0.code.length p0, .slice Q0 t0.guards.length q0, .slice R0 t0.outs.length r0]) rfl rfl rfl rfl rfl (fun _ e => e ▸ At.lies hb0)) rfl rfl ?_)
       | (show EL _ _ _ _ (⟨_, .move _, _, _, _, _⟩ :: _) _ _; refine EL.f (FV.move rfl) rfl rfl ?_)
       | (show EL _ _ _ _ (⟨_, .assign _, _, _, _, _⟩ :: _) _ _; refine EL.f (FV.assign rfl) rfl rfl ?_)
       | (show EL _ _ _ _ (⟨_, .binOp .lss _ _ _ _, _, _, _, _⟩ :: _) _ _; refine EL.fF (FV.lss rfl rfl) rfl (fun _ => rfl) (by omega) ?_))
    | refine EL.nil ?_
    | refine EW.seq ?_
    | refine EW.region ?_
    | refine EW.skip ?_
    | refine EW.condF rfl ?_)
  refine EL.h (Hv.call (toTape _ t0 u2 (hv0.ext W2) fit0.c fit0.g fit0.o) rfl) rfl (fun _ => rfl) ?_
  rintro _ u3 ⟨pa0, pb0, pc0, rfl, po0, e3⟩
  have s3 := e3.size
  have W3 := W2.trans e3
  replace hb0 := At.ext hb0 e3
  skip
  refine EL.h (Hv.call (specTapeText _ t0 u3 po0.tape fit0) rfl) rfl (fun _ => rfl) ?_
  rintro _ u4 ⟨rfl, e4⟩
  have s4 := e4.size
  have W4 := W3.trans e4
  replace hb0 := At.ext hb0 e4
  replace po0 := Own.ext po0 e4
  clear po0 
  repeat' (first
    | refine EL.f (FV.loadAgg (cs := [.int .i64 t0.inputs, .slice P0 t0.code.length p0, .slice Q0 t0.guards.length q0, .slice R0 t0.outs.length r0]) rfl rfl rfl rfl rfl (fun _ e => e ▸ At.lies hb0)) rfl rfl ?_
    | refine EL.f (FV.assign rfl) rfl rfl ?_
    | refine EL.nil ?_
    | refine EW.seq ?_
    | refine EW.region ?_)
  refine EL.h (Hv.call (toTape _ t0 u4 (hv0.ext W4) fit0.c fit0.g fit0.o) rfl) rfl (fun _ => rfl) ?_
  rintro _ u5 ⟨xa0, xb0, xc0, rfl, xo0, e5⟩
  have s5 := e5.size
  have W5 := W4.trans e5
  have S5 := (Ext.refl u4).trans e5
  replace hb0 := At.ext hb0 e5
  have xl0 := xo0.lo
  have xm0 := xo0.ab
  have xn0 := xo0.bc
  have xk0 := At.lt xo0.c
  skip
  refine EL.h (Hv.allocA rfl rfl) rfl (fun _ => rfl) ?_
  rintro _ u6 ⟨gx0, rfl, hgx0, hx0, e6⟩
  have s6 := e6.size
  have W6 := W5.trans e6
  have S6 := S5.trans e6
  replace hb0 := At.ext hb0 e6
  replace xo0 := Own.ext xo0 e6
  skip
  refine EL.h (Hv.storeAggG (vs := tapeC t0 xa0 xb0 xc0) rfl rfl rfl rfl (tapeC_one _ _ _ _) hx0 (Nat.le_refl _)) rfl (fun _ => rfl) ?_
  rintro _ u7 ⟨hy0, hr0⟩
  have s7 := hr0.size
  have W7 : Ext w u7 := Below.wr W6 hr0 (by omega) (Nat.le_refl _)
  have S7 : Ext u4 u7 := Below.wr S6 hr0 (by omega) (Nat.le_refl _)
  replace hb0 := At.kept hb0 hr0 (by simp; omega)
  replace xo0 := Own.keep xo0 hr0 (by omega)
  have hx0 : At u7 40 4 gx0 1 1 (tapeC t0 xa0 xb0 xc0) := hy0
  clear hy0
  have lx0 := At.lt hx0
  repeat' (first
    | refine EL.f (FV.loadAgg (cs := tapeC t0 xa0 xb0 xc0) rfl rfl rfl rfl rfl (fun _ e => e ▸ At.lies hx0)) rfl rfl ?_
    | refine EL.nil ?_
    | refine EW.seq ?_
    | refine EW.region ?_)
  refine EL.h (Hv.call (implTapeText _ t0 u7 xo0.tape fit0 (TabW.ext ht W7)) rfl) rfl (fun _ => rfl) ?_
  rintro _ u8 ⟨rfl, e8⟩
  have s8 := e8.size
  have W8 := W7.trans e8
  have S8 := S7.trans e8
  replace hb0 := At.ext hb0 e8
  replace xo0 := Own.ext xo0 e8
  replace hx0 := At.ext hx0 e8
  repeat' (first
    | refine EL.f (FV.neSelfS rfl rfl) rfl rfl ?_
    | refine EL.f (FV.move rfl) rfl rfl ?_
    | refine EL.f (FV.assign rfl) rfl rfl ?_
    | refine EL.nil ?_
    | refine EW.seq ?_
    | refine EW.region ?_
    | refine EW.skip ?_
    | refine EW.condF rfl ?_)
  refine EW.draw (fun w' => Ext u8 w') [(0, true), (1, true), (2, false), (3, false), (4, true)] mixed (by decide +kernel) (Ext.drew _) ?_
  repeat' (first
    | refine EP.f rfl (FV.loadAgg (cs := [.int .i64 t0.inputs, .slice P0 t0.code.length p0, .slice Q0 t0.guards.length q0, .slice R0 t0.outs.length r0]) rfl rfl rfl rfl rfl (fun _ h' => (At.lies hb0).ext h')) rfl rfl ?_
    | refine EP.f rfl (FV.loadAgg (cs := tapeC t0 xa0 xb0 xc0) rfl rfl rfl rfl rfl (fun _ h' => (At.lies hx0).ext h')) rfl rfl ?_)
  have e9 := Ext.drew u8
  have s9 := e9.size
  have W9 := W8.trans e9
  have S9 := S8.trans e9
  replace hb0 := At.ext hb0 e9
  replace xo0 := Own.ext xo0 e9
  replace hx0 := At.ext hx0 e9
  refine EP.h rfl rfl (Hv.call (toTape _ t0 u8.drew (hv0.ext W9) fit0.c fit0.g fit0.o) rfl) rfl (fun _ => rfl) ?_
  rintro _ u10 ⟨ya0, yb0, yc0, rfl, yo0, e10⟩
  have s10 := e10.size
  have W10 := W9.trans e10
  have S10 := S9.trans e10
  replace hb0 := At.ext hb0 e10
  replace xo0 := Own.ext xo0 e10
  replace hx0 := At.ext hx0 e10
  refine ⟨e9.trans e10, ?_⟩
  refine EP.h rfl rfl (Hv.call (eqTapeSame _ _ t0 u10 xo0.tape yo0.tape fit0.c fit0.g fit0.o) rfl) rfl (fun _ => rfl) ?_
  rintro _ u11 ⟨rfl, e11⟩
  have s11 := e11.size
  have W11 := W10.trans e11
  have S11 := S10.trans e11
  replace hb0 := At.ext hb0 e11
  replace xo0 := Own.ext xo0 e11
  replace hx0 := At.ext hx0 e11
  refine ⟨(e9.trans e10).trans e11, ?_⟩
  repeat' (first
    | refine EP.nil ?_
    | refine EP.f rfl (FV.not rfl) rfl rfl ?_)
  repeat' (first
    | refine EL.f (FV.assign rfl) rfl rfl ?_
    | refine EL.nil ?_
    | refine EW.seq ?_
    | refine EW.region ?_
    | refine EW.skip ?_
    | refine EW.ret ?_
    | refine EW.condF rfl ?_)
  exact ⟨_, rfl, rfl, W11⟩
end Eng
end Go.Proofs.YtogljflccfoaeaaDoor
