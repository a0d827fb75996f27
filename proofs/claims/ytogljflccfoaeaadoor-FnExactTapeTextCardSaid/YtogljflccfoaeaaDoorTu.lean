/- The verifier's comparison of tapes, where both are alike. Conditions: the lengths. -/
import Derived.Test.YtogljflccfoaeaaDoorTs
namespace Go.Proofs.YtogljflccfoaeaaDoor
open Go Go.RowKit
namespace Eng
theorem eqInstrSame (x : Ins) (w : World) : CallsR Tryd.prog 59 [.agg (insV x).toArray, .agg (insV x).toArray] w fun v w' => v = .bool true ∧ Ext w w' := by
  refine CallsR.enter Tryd.func59 (by decide +kernel) rfl Tryd.ntmps59 rfl ?_
  repeat' (first
    | refine EW.seq ?_
    | refine EW.region ?_)
  refine EL.h (Hv.boxA (sz := 4) rfl rfl) rfl (fun _ => rfl) ?_
  rintro _ w1 ⟨g1, rfl, hg1, hb, he1⟩
  skip
  refine EL.h (Hv.boxA (sz := 4) rfl rfl) rfl (fun _ => rfl) ?_
  rintro _ w2 ⟨g2, rfl, hg2, hc, he2⟩
  replace hb := At.ext hb he2
  repeat' (first
    | (show EL _ _ _ _ (_ :: _) _ _
       first
       | (show EL _ _ _ _ (⟨_, .fieldAddr _ _ _, _, _, _, _⟩ :: _) _ _; refine EL.f (FV.fieldAddr rfl rfl rfl rfl rfl) rfl rfl ?_)
       | (show EL _ _ _ _ (⟨_, .load _ _, _, _, _, _⟩ :: _) _ _; first | refine EL.f (FV.load1 rfl rfl rfl (At.cell hb rfl)) rfl rfl ?_ | refine EL.f (FV.load1 rfl rfl rfl (At.cell hc rfl)) rfl rfl ?_)
       | (show EL _ _ _ _ (⟨_, .assign _, _, _, _, _⟩ :: _) _ _; refine EL.f (FV.assign rfl) rfl rfl ?_)
       | (show EL _ _ _ _ (⟨_, .binOp .neq _ _ _ _, _, _, _, _⟩ :: _) _ _; refine EL.fF (FV.neq rfl rfl) rfl (fun _ => rfl) (by omega) ?_))
    | refine EL.nil ?_
    | refine EW.seq ?_
    | refine EW.region ?_
    | refine EW.skip ?_
    | refine EW.ret ?_
    | refine EW.condF rfl ?_)
  exact ⟨_, rfl, rfl, he1.trans he2⟩
theorem eqGuardSame (x : Gd) (w : World) : CallsR Tryd.prog 60 [.agg (gdV x).toArray, .agg (gdV x).toArray] w fun v w' => v = .bool true ∧ Ext w w' := by
  refine CallsR.enter Tryd.func60 (by decide +kernel) rfl Tryd.ntmps60 rfl ?_
  obtain ⟨r, z⟩ := x
  cases z
  · repeat' (first
      | refine EW.seq ?_
      | refine EW.region ?_)
    refine EL.h (Hv.boxA (sz := 2) rfl rfl) rfl (fun _ => rfl) ?_
    rintro _ w1 ⟨g1, rfl, hg1, hb, he1⟩
    skip
    refine EL.h (Hv.boxA (sz := 2) rfl rfl) rfl (fun _ => rfl) ?_
    rintro _ w2 ⟨g2, rfl, hg2, hc, he2⟩
    replace hb := At.ext hb he2
    repeat' (first
      | (show EL _ _ _ _ (_ :: _) _ _
         first
         | (show EL _ _ _ _ (⟨_, .fieldAddr _ _ _, _, _, _, _⟩ :: _) _ _; refine EL.f (FV.fieldAddr rfl rfl rfl rfl rfl) rfl rfl ?_)
         | (show EL _ _ _ _ (⟨_, .load _ _, _, _, _, _⟩ :: _) _ _; first | refine EL.f (FV.load1 rfl rfl rfl (At.cell hb rfl)) rfl rfl ?_ | refine EL.f (FV.load1 rfl rfl rfl (At.cell hc rfl)) rfl rfl ?_)
         | (show EL _ _ _ _ (⟨_, .binOp .neq _ _ _ _, _, _, _, _⟩ :: _) _ _; first | refine EL.f (FV.neqB rfl rfl rfl) rfl rfl ?_ | refine EL.fF (FV.neq rfl rfl) rfl (fun _ => rfl) (by omega) ?_)
         | (show EL _ _ _ _ (⟨_, .assign _, _, _, _, _⟩ :: _) _ _; refine EL.f (FV.assign rfl) rfl rfl ?_))
      | refine EL.nil ?_
      | refine EW.seq ?_
      | refine EW.region ?_
      | refine EW.skip ?_
      | refine EW.ret ?_
      | refine EW.condF rfl ?_)
    exact ⟨_, rfl, rfl, he1.trans he2⟩
  · repeat' (first
      | refine EW.seq ?_
      | refine EW.region ?_)
    refine EL.h (Hv.boxA (sz := 2) rfl rfl) rfl (fun _ => rfl) ?_
    rintro _ w1 ⟨g1, rfl, hg1, hb, he1⟩
    skip
    refine EL.h (Hv.boxA (sz := 2) rfl rfl) rfl (fun _ => rfl) ?_
    rintro _ w2 ⟨g2, rfl, hg2, hc, he2⟩
    replace hb := At.ext hb he2
    repeat' (first
      | (show EL _ _ _ _ (_ :: _) _ _
         first
         | (show EL _ _ _ _ (⟨_, .fieldAddr _ _ _, _, _, _, _⟩ :: _) _ _; refine EL.f (FV.fieldAddr rfl rfl rfl rfl rfl) rfl rfl ?_)
         | (show EL _ _ _ _ (⟨_, .load _ _, _, _, _, _⟩ :: _) _ _; first | refine EL.f (FV.load1 rfl rfl rfl (At.cell hb rfl)) rfl rfl ?_ | refine EL.f (FV.load1 rfl rfl rfl (At.cell hc rfl)) rfl rfl ?_)
         | (show EL _ _ _ _ (⟨_, .binOp .neq _ _ _ _, _, _, _, _⟩ :: _) _ _; first | refine EL.f (FV.neqB rfl rfl rfl) rfl rfl ?_ | refine EL.fF (FV.neq rfl rfl) rfl (fun _ => rfl) (by omega) ?_)
         | (show EL _ _ _ _ (⟨_, .assign _, _, _, _, _⟩ :: _) _ _; refine EL.f (FV.assign rfl) rfl rfl ?_))
      | refine EL.nil ?_
      | refine EW.seq ?_
      | refine EW.region ?_
      | refine EW.skip ?_
      | refine EW.ret ?_
      | refine EW.condF rfl ?_)
    exact ⟨_, rfl, rfl, he1.trans he2⟩
theorem eqInstrSSame (A B : Option Addr) (c e : Nat) (xs : List Ins) (w : World) (hx : Rd w A (insL xs)) (hy : Rd w B (insL xs)) (hn : xs.length ≤ 1048576) :
    CallsR Tryd.prog 38 [.slice A xs.length c, .slice B xs.length e] w fun v w' => v = .bool true ∧ Ext w w' := by
  refine CallsR.enter Tryd.func38 (by decide +kernel) rfl Tryd.ntmps38 rfl ?_
  repeat' (first
    | (show EL _ _ _ _ (_ :: _) _ _
       first
       | (show EL _ _ _ _ (⟨_, .move _, _, _, _, _⟩ :: _) _ _; refine EL.f (FV.move rfl) rfl rfl ?_)
       | (show EL _ _ _ _ (⟨_, .assign _, _, _, _, _⟩ :: _) _ _; refine EL.f (FV.assign rfl) rfl rfl ?_)
       | (show EL _ _ _ _ (⟨_, .call _, _, _, _, _⟩ :: _) _ _; refine EL.f (FV.len rfl rfl) rfl rfl ?_)
       | (show EL _ _ _ _ (⟨_, .binOp .neq _ _ _ _, _, _, _, _⟩ :: _) _ _; refine EL.fF (FV.neq rfl rfl) rfl (fun _ => rfl) (by omega) ?_))
    | refine EL.nil ?_
    | refine EW.seq ?_
    | refine EW.region ?_
    | refine EW.block ?_
    | refine EW.skip ?_
    | refine EW.condF rfl ?_)
  refine EW.loop (fun k wr => k ≤ xs.length ∧ Ext w wr) (fun k => [(0, .slice A xs.length c), (1, .slice B xs.length e), (5, .int .i64 k)]) (fun k => xs.length - k) 0 ⟨Nat.zero_le _, Ext.refl w⟩ ⟨rfl, rfl, rfl, trivial⟩ ?_
  rintro k wr ⟨hk, he⟩
  by_cases hlt : k < xs.length
  · obtain ⟨b, o, rfl, hc⟩ := Rd.elem insV_length (by decide) dIns (hx.ext he) hlt
    obtain ⟨b2, o2, rfl, hd⟩ := Rd.elem insV_length (by decide) dIns (hy.ext he) hlt
    repeat' (first
      | refine EL.f (FV.move rfl) rfl rfl ?_
      | refine EL.f (FV.len rfl rfl) rfl rfl ?_
      | refine EL.fT (FV.lss rfl rfl) rfl (fun _ => rfl) (by omega) ?_
      | refine EL.nil ?_
      | refine EW.seq ?_
      | refine EW.region ?_
      | refine EW.block ?_
      | refine EW.skip ?_
      | refine EW.condT rfl ?_)
    refine EW.draw (fun w' => Ext wr w') (pl 0 8 ++ [(8, false), (9, true)]) mixed (by decide +kernel) (Ext.drew _) ?_
    repeat' (first
      | refine EP.f rfl (FV.idx rfl rfl rfl rfl (by omega) (by omega)) rfl rfl ?_
      | refine EP.f rfl (FV.loadAgg (cs := insV (xs.getD k dIns)) rfl rfl rfl rfl rfl (fun _ h' => hc.ext h')) rfl rfl ?_
      | refine EP.f rfl (FV.loadAgg (cs := insV (xs.getD k dIns)) rfl rfl rfl rfl rfl (fun _ h' => hd.ext h')) rfl rfl ?_
      | refine EP.f rfl (FV.move rfl) rfl rfl ?_)
    refine EP.h rfl rfl (Hv.call (eqInstrSame _ _) rfl) rfl (fun _ => rfl) ?_
    rintro _ w2 ⟨rfl, he2⟩
    refine ⟨(Ext.drew _).trans he2, ?_⟩
    repeat' (first
      | refine EP.nil ?_
      | refine EP.f rfl (FV.not rfl) rfl rfl ?_)
    repeat' (first
      | refine EL.f (FV.move rfl) rfl rfl ?_
      | refine EL.f (FV.assign rfl) rfl rfl ?_
      | refine EL.f (FV.addI rfl rfl (by omega)) rfl rfl ?_
      | refine EL.nil ?_
      | refine EW.region ?_
      | refine EW.skip ?_
      | refine EW.condF rfl ?_)
    exact ⟨k + 1, ⟨rfl, rfl, rfl, trivial⟩, ⟨by omega, he.trans ((Ext.drew _).trans he2)⟩, by omega⟩
  · obtain rfl : k = xs.length := by omega
    repeat' (first
      | (show EL _ _ _ _ (_ :: _) _ _
         first
         | (show EL _ _ _ _ (⟨_, .move _, _, _, _, _⟩ :: _) _ _; refine EL.f (FV.move rfl) rfl rfl ?_)
         | (show EL _ _ _ _ (⟨_, .assign _, _, _, _, _⟩ :: _) _ _; refine EL.f (FV.assign rfl) rfl rfl ?_)
         | (show EL _ _ _ _ (⟨_, .call _, _, _, _, _⟩ :: _) _ _; refine EL.f (FV.len rfl rfl) rfl rfl ?_)
         | (show EL _ _ _ _ (⟨_, .binOp .lss _ _ _ _, _, _, _, _⟩ :: _) _ _; refine EL.fF (FV.lss rfl rfl) rfl (fun _ => rfl) (by omega) ?_))
      | refine EL.nil ?_
      | refine EW.seq ?_
      | refine EW.region ?_
      | refine EW.exit ?_
      | refine EW.ret ?_
      | refine EW.condF rfl ?_)
    exact ⟨_, rfl, rfl, he⟩
theorem eqGuardSSame (A B : Option Addr) (c e : Nat) (xs : List Gd) (w : World) (hx : Rd w A (gdL xs)) (hy : Rd w B (gdL xs)) (hn : xs.length ≤ 1048576) :
    CallsR Tryd.prog 39 [.slice A xs.length c, .slice B xs.length e] w fun v w' => v = .bool true ∧ Ext w w' := by
  refine CallsR.enter Tryd.func39 (by decide +kernel) rfl Tryd.ntmps39 rfl ?_
  repeat' (first
    | (show EL _ _ _ _ (_ :: _) _ _
       first
       | (show EL _ _ _ _ (⟨_, .move _, _, _, _, _⟩ :: _) _ _; refine EL.f (FV.move rfl) rfl rfl ?_)
       | (show EL _ _ _ _ (⟨_, .assign _, _, _, _, _⟩ :: _) _ _; refine EL.f (FV.assign rfl) rfl rfl ?_)
       | (show EL _ _ _ _ (⟨_, .call _, _, _, _, _⟩ :: _) _ _; refine EL.f (FV.len rfl rfl) rfl rfl ?_)
       | (show EL _ _ _ _ (⟨_, .binOp .neq _ _ _ _, _, _, _, _⟩ :: _) _ _; refine EL.fF (FV.neq rfl rfl) rfl (fun _ => rfl) (by omega) ?_))
    | refine EL.nil ?_
    | refine EW.seq ?_
    | refine EW.region ?_
    | refine EW.block ?_
    | refine EW.skip ?_
    | refine EW.condF rfl ?_)
  refine EW.loop (fun k wr => k ≤ xs.length ∧ Ext w wr) (fun k => [(0, .slice A xs.length c), (1, .slice B xs.length e), (5, .int .i64 k)]) (fun k => xs.length - k) 0 ⟨Nat.zero_le _, Ext.refl w⟩ ⟨rfl, rfl, rfl, trivial⟩ ?_
  rintro k wr ⟨hk, he⟩
  by_cases hlt : k < xs.length
  · obtain ⟨b, o, rfl, hc⟩ := Rd.elem gdV_length (by decide) dGd (hx.ext he) hlt
    obtain ⟨b2, o2, rfl, hd⟩ := Rd.elem gdV_length (by decide) dGd (hy.ext he) hlt
    repeat' (first
      | refine EL.f (FV.move rfl) rfl rfl ?_
      | refine EL.f (FV.len rfl rfl) rfl rfl ?_
      | refine EL.fT (FV.lss rfl rfl) rfl (fun _ => rfl) (by omega) ?_
      | refine EL.nil ?_
      | refine EW.seq ?_
      | refine EW.region ?_
      | refine EW.block ?_
      | refine EW.skip ?_
      | refine EW.condT rfl ?_)
    refine EW.draw (fun w' => Ext wr w') (pl 0 8 ++ [(8, false), (9, true)]) mixed (by decide +kernel) (Ext.drew _) ?_
    repeat' (first
      | refine EP.f rfl (FV.idx rfl rfl rfl rfl (by omega) (by omega)) rfl rfl ?_
      | refine EP.f rfl (FV.loadAgg (cs := gdV (xs.getD k dGd)) rfl rfl rfl rfl rfl (fun _ h' => hc.ext h')) rfl rfl ?_
      | refine EP.f rfl (FV.loadAgg (cs := gdV (xs.getD k dGd)) rfl rfl rfl rfl rfl (fun _ h' => hd.ext h')) rfl rfl ?_
      | refine EP.f rfl (FV.move rfl) rfl rfl ?_)
    refine EP.h rfl rfl (Hv.call (eqGuardSame _ _) rfl) rfl (fun _ => rfl) ?_
    rintro _ w2 ⟨rfl, he2⟩
    refine ⟨(Ext.drew _).trans he2, ?_⟩
    repeat' (first
      | refine EP.nil ?_
      | refine EP.f rfl (FV.not rfl) rfl rfl ?_)
    repeat' (first
      | refine EL.f (FV.move rfl) rfl rfl ?_
      | refine EL.f (FV.assign rfl) rfl rfl ?_
      | refine EL.f (FV.addI rfl rfl (by omega)) rfl rfl ?_
      | refine EL.nil ?_
      | refine EW.region ?_
      | refine EW.skip ?_
      | refine EW.condF rfl ?_)
    exact ⟨k + 1, ⟨rfl, rfl, rfl, trivial⟩, ⟨by omega, he.trans ((Ext.drew _).trans he2)⟩, by omega⟩
  · obtain rfl : k = xs.length := by omega
    repeat' (first
      | (show EL _ _ _ _ (_ :: _) _ _
         first
         | (show EL _ _ _ _ (⟨_, .move _, _, _, _, _⟩ :: _) _ _; refine EL.f (FV.move rfl) rfl rfl ?_)
         | (show EL _ _ _ _ (⟨_, .assign _, _, _, _, _⟩ :: _) _ _; refine EL.f (FV.assign rfl) rfl rfl ?_)
         | (show EL _ _ _ _ (⟨_, .call _, _, _, _, _⟩ :: _) _ _; refine EL.f (FV.len rfl rfl) rfl rfl ?_)
         | (show EL _ _ _ _ (⟨_, .binOp .lss _ _ _ _, _, _, _, _⟩ :: _) _ _; refine EL.fF (FV.lss rfl rfl) rfl (fun _ => rfl) (by omega) ?_))
      | refine EL.nil ?_
      | refine EW.seq ?_
      | refine EW.region ?_
      | refine EW.exit ?_
      | refine EW.ret ?_
      | refine EW.condF rfl ?_)
    exact ⟨_, rfl, rfl, he⟩
theorem eqTapeSame (v u : Value) (t : Tp) (w : World) (h : TapeV w v t) (h' : TapeV w u t) (n1 : t.code.length ≤ 1048576) (n2 : t.guards.length ≤ 1048576) (n3 : t.outs.length ≤ 1048576) :
    CallsR Tryd.prog 18 [v, u] w fun r w' => r = .bool true ∧ Ext w w' := by
  obtain ⟨A, c, B, d, C, e, rfl, r1, r2, r3⟩ := h
  obtain ⟨A', c', B', d', C', e', rfl, q1, q2, q3⟩ := h'
  refine CallsR.enter Tryd.func18 (by decide +kernel) rfl Tryd.ntmps18 rfl ?_
  repeat' (first
    | refine EW.seq ?_
    | refine EW.region ?_)
  refine EL.h (Hv.boxA (sz := 4) rfl rfl) rfl (fun _ => rfl) ?_
  rintro _ w1 ⟨g1, rfl, hg1, hb, he1⟩
  skip
  refine EL.h (Hv.boxA (sz := 4) rfl rfl) rfl (fun _ => rfl) ?_
  rintro _ w2 ⟨g2, rfl, hg2, hc, he2⟩
  replace hb := At.ext hb he2
  have hw2 := he1.trans he2
  repeat' (first
    | (show EL _ _ _ _ (_ :: _) _ _
       first
       | (show EL _ _ _ _ (⟨_, .fieldAddr _ _ _, _, _, _, _⟩ :: _) _ _; refine EL.f (FV.fieldAddr rfl rfl rfl rfl rfl) rfl rfl ?_)
       | (show EL _ _ _ _ (⟨_, .load _ _, _, _, _, _⟩ :: _) _ _; first | refine EL.f (FV.load1 rfl rfl rfl (At.cell hb rfl)) rfl rfl ?_ | refine EL.f (FV.load1 rfl rfl rfl (At.cell hc rfl)) rfl rfl ?_)
       | (show EL _ _ _ _ (⟨_, .assign _, _, _, _, _⟩ :: _) _ _; refine EL.f (FV.assign rfl) rfl rfl ?_)
       | (show EL _ _ _ _ (⟨_, .binOp .neq _ _ _ _, _, _, _, _⟩ :: _) _ _; refine EL.fF (FV.neq rfl rfl) rfl (fun _ => rfl) (by omega) ?_))
    | refine EL.nil ?_
    | refine EW.seq ?_
    | refine EW.region ?_
    | refine EW.skip ?_
    | refine EW.condF rfl ?_)
  refine EL.h (Hv.call (eqInstrSSame _ _ _ _ _ w2 (r1.ext hw2) (q1.ext hw2) n1) rfl) rfl (fun _ => rfl) ?_
  rintro _ w3 ⟨rfl, he3⟩
  replace hb := At.ext hb he3
  replace hc := At.ext hc he3
  have hw3 := hw2.trans he3
  repeat' (first
    | refine EL.f (FV.fieldAddr rfl rfl rfl rfl rfl) rfl rfl ?_
    | refine EL.f (FV.load1 rfl rfl rfl (At.cell hb rfl)) rfl rfl ?_
    | refine EL.f (FV.load1 rfl rfl rfl (At.cell hc rfl)) rfl rfl ?_
    | refine EL.f (FV.not rfl) rfl rfl ?_
    | refine EL.nil ?_
    | refine EW.seq ?_
    | refine EW.region ?_
    | refine EW.skip ?_
    | refine EW.condF rfl ?_)
  refine EL.h (Hv.call (eqGuardSSame _ _ _ _ _ w3 (r2.ext hw3) (q2.ext hw3) n2) rfl) rfl (fun _ => rfl) ?_
  rintro _ w4 ⟨rfl, he4⟩
  replace hb := At.ext hb he4
  replace hc := At.ext hc he4
  have hw4 := hw3.trans he4
  repeat' (first
    | refine EL.f (FV.fieldAddr rfl rfl rfl rfl rfl) rfl rfl ?_
    | refine EL.f (FV.load1 rfl rfl rfl (At.cell hb rfl)) rfl rfl ?_
    | refine EL.f (FV.load1 rfl rfl rfl (At.cell hc rfl)) rfl rfl ?_
    | refine EL.f (FV.not rfl) rfl rfl ?_
    | refine EL.nil ?_
    | refine EW.seq ?_
    | refine EW.region ?_
    | refine EW.skip ?_
    | refine EW.condF rfl ?_)
  refine EL.h (Hv.call (eqSame _ _ _ _ _ w4 (r3.ext hw4) (q3.ext hw4) n3) rfl) rfl (fun _ => rfl) ?_
  rintro _ w5 ⟨rfl, he5⟩
  replace hb := At.ext hb he5
  replace hc := At.ext hc he5
  have hw5 := hw4.trans he5
  repeat' (first
    | refine EL.f (FV.assign rfl) rfl rfl ?_
    | refine EL.f (FV.not rfl) rfl rfl ?_
    | refine EL.nil ?_
    | refine EW.seq ?_
    | refine EW.region ?_
    | refine EW.skip ?_
    | refine EW.ret ?_
    | refine EW.condF rfl ?_)
  exact ⟨_, rfl, rfl, hw5⟩
end Eng
end Go.Proofs.YtogljflccfoaeaaDoor
