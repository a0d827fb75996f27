/- TapeText: the contracts of both sides. Conditions: the lengths. -/
import Derived.Test.YtogljflccfoaeaaDoorXtp
namespace Go.Proofs.YtogljflccfoaeaaDoor
open Go Go.RowKit
namespace Eng
theorem implWords (w : World) : CallsR Tryd.prog 35 [] w fun v w' => ∃ g, v = .slice (some ⟨g, 0, none⟩) 7 7 ∧ Lies w' g 0 wordsI ∧ Ext w w' := by
  refine CallsR.enter Tryd.func35 (by decide +kernel) rfl Tryd.ntmps35 rfl ?_
  repeat' (first
    | refine EL.f (FV.assign rfl) rfl rfl ?_
    | refine EL.nil ?_
    | refine EW.seq ?_
    | refine EW.region ?_)
  refine EL.h (Hv.buildL (vs := wordsI) rfl rfl rfl (by intro v hv; simp only [wordsI, List.mem_cons, List.not_mem_nil, or_false] at hv; rcases hv with rfl | rfl | rfl | rfl | rfl | rfl | rfl <;> rfl) rfl (by decide) (by decide)) rfl (fun _ => rfl) ?_
  rintro _ w1 ⟨rfl, rfl⟩
  repeat' (first
    | refine EL.f (FV.assign rfl) rfl rfl ?_
    | refine EL.nil ?_
    | refine EW.ret ?_)
  exact ⟨_, rfl, _, rfl, fun j v hj => by rw [Nat.zero_add]; exact cell_alloc hj, Ext.alloc _ _⟩
theorem specWords (w : World) : CallsR Tryd.prog 67 [] w fun v w' => ∃ g, v = .slice (some ⟨g, 0, none⟩) 8 8 ∧ Lies w' g 0 (Value.string ⟨#[]⟩ :: wordsI) ∧ Ext w w' := by
  refine CallsR.enter Tryd.func67 (by decide +kernel) rfl Tryd.ntmps67 rfl ?_
  repeat' (first
    | refine EL.f (FV.assign rfl) rfl rfl ?_
    | refine EL.nil ?_
    | refine EW.seq ?_
    | refine EW.region ?_)
  refine EL.h (Hv.buildL (vs := Value.string ⟨#[]⟩ :: wordsI) rfl rfl rfl (by intro v hv; simp only [wordsI, List.mem_cons, List.not_mem_nil, or_false] at hv; rcases hv with rfl | rfl | rfl | rfl | rfl | rfl | rfl | rfl <;> rfl) rfl (by decide) (by decide)) rfl (fun _ => rfl) ?_
  rintro _ w1 ⟨rfl, rfl⟩
  repeat' (first
    | refine EL.f (FV.assign rfl) rfl rfl ?_
    | refine EL.nil ?_
    | refine EW.ret ?_)
  exact ⟨_, rfl, _, rfl, fun j v hj => by rw [Nat.zero_add]; exact cell_alloc hj, Ext.alloc _ _⟩
theorem implNum (x : Int) (h : 0 ≤ x ∧ x ≤ 10000000) (w : World) (ht : TabW w) : CallsR Tryd.prog 34 [.int .i64 x] w fun v w' => v = .string (str (dI x)) ∧ Ext w w' := implDecimalI x (by omega) w ht
theorem specNum (x : Int) (h : 0 ≤ x ∧ x ≤ 10000000) (w : World) : CallsR Tryd.prog 46 [.int .i64 x] w fun v w' => v = .string (str (dI x)) ∧ Ext w w' := specDecimalI x (by omega) w
/-! the reference -/
set_option maxHeartbeats 4000000 in
theorem specLine (x : Ins) (hx : FitI x) (w : World) : CallsR Tryd.prog 51 [.agg (insV x).toArray] w fun v w' => v = .string (str (lineI x)) ∧ Ext w w' := by
  have ha := dI_length hx.a
  have hb := dI_length hx.b
  have hn := dI_length hx.num
  have ho := hx.op
  have hw := wordO_length x.op
  have hat := wordsS_at ho
  refine CallsR.enter Tryd.func51 (by decide +kernel) rfl Tryd.ntmps51 rfl ?_
  repeat' (first
    | refine EW.seq ?_
    | refine EW.region ?_)
  refine EL.h (Hv.boxA (sz := 4) rfl rfl) rfl (fun _ => rfl) ?_
  rintro _ w1 ⟨g1, rfl, hg1, h1, he1⟩
  repeat' (first
    | refine EL.f (FV.assign rfl) rfl rfl ?_
    | refine EL.nil ?_
    | refine EW.seq ?_)
  refine EW.draw (fun w' => Ext w1 w') ([(1, true), (2, true), (0, false), (3, true), (4, false), (5, true), (6, true)]) mixed (by decide +kernel) (Ext.drew _) ?_
  repeat' (first
    | refine EP.f rfl (FV.fieldAddr rfl rfl rfl rfl rfl) rfl rfl ?_
    | refine EP.f rfl (FV.load rfl rfl rfl (fun w' h' => At.cell (At.ext h1 h') rfl)) rfl rfl ?_)
  refine EP.h rfl rfl (Hv.call (specWords _) rfl) rfl (fun _ => rfl) ?_
  rintro _ w2 ⟨g2, rfl, hL2, he2⟩
  have E2 := (Ext.drew w1).trans he2
  refine ⟨E2, ?_⟩
  have hc := hL2 _ _ hat
  rw [Nat.zero_add] at hc
  repeat' (first
    | refine EP.f rfl (FV.idx0 rfl rfl rfl rfl (by omega) (by omega)) rfl rfl ?_)
  refine EP.h rfl rfl (FV.load1 rfl rfl rfl hc).hv rfl (fun _ => rfl) ?_
  rintro _ w2 ⟨rfl, rfl⟩
  refine ⟨E2, ?_⟩
  repeat' (first
    | (refine EP.f rfl (FV.catS (m := [32]) rfl rfl rfl rfl (by simp only [List.length_append, List.length_cons, List.length_nil]; omega)) rfl rfl ?_)
    | refine EP.nil ?_
    | refine EP.f rfl (FV.assign rfl) rfl rfl ?_)
  replace h1 := At.ext h1 E2
  have W2 := he1.trans E2
  by_cases hnum : x.op = 1 ∨ x.op = 2
  · rcases hnum with q | q
    · repeat' (first
        | (show EL _ _ _ _ (_ :: _) _ _
           first
           | (show EL _ _ _ _ (⟨_, .fieldAddr _ _ _, _, _, _, _⟩ :: _) _ _; refine EL.f (FV.fieldAddr rfl rfl rfl rfl rfl) rfl rfl ?_)
           | (show EL _ _ _ _ (⟨_, .load _ _, _, _, _, _⟩ :: _) _ _; refine EL.f (FV.load1 rfl rfl rfl (At.cell h1 rfl)) rfl rfl ?_)
           | (show EL _ _ _ _ (⟨_, .move _, _, _, _, _⟩ :: _) _ _; refine EL.f (FV.move rfl) rfl rfl ?_)
           | (show EL _ _ _ _ (⟨_, .assign _, _, _, _, _⟩ :: _) _ _; refine EL.f (FV.assign rfl) rfl rfl ?_)
           | (show EL _ _ _ _ (⟨_, .binOp .eql _ _ _ _, _, _, _, _⟩ :: _) _ _; refine EL.fT (FV.eql rfl rfl) rfl (fun _ => rfl) (by omega) ?_))
        | refine EL.nil ?_
        | refine EW.seq ?_
        | refine EW.region ?_
        | refine EW.block ?_
        | refine EW.skip ?_
        | refine EW.condT rfl ?_)
      refine EL.h (Hv.call (specNum x.num hx.num w2) rfl) rfl (fun _ => rfl) ?_
      rintro _ w3 ⟨rfl, he3⟩
      repeat' (first
        | refine EL.f (FV.assign rfl) rfl rfl ?_
        | refine EL.nil ?_
        | (refine EL.f (FV.catS rfl rfl rfl rfl (by simp only [List.length_append, List.length_cons, List.length_nil]; omega)) rfl rfl ?_)
        | refine EW.ret ?_)
      exact ⟨_, rfl, by rw [lineI, tail_num (by omega)], W2.trans he3⟩
    · have q1 : ¬ x.op = 1 := by omega
      repeat' (first
        | (show EL _ _ _ _ (_ :: _) _ _
           first
           | (show EL _ _ _ _ (⟨_, .fieldAddr _ _ _, _, _, _, _⟩ :: _) _ _; refine EL.f (FV.fieldAddr rfl rfl rfl rfl rfl) rfl rfl ?_)
           | (show EL _ _ _ _ (⟨_, .load _ _, _, _, _, _⟩ :: _) _ _; refine EL.f (FV.load1 rfl rfl rfl (At.cell h1 rfl)) rfl rfl ?_)
           | (show EL _ _ _ _ (⟨_, .move _, _, _, _, _⟩ :: _) _ _; refine EL.f (FV.move rfl) rfl rfl ?_)
           | (show EL _ _ _ _ (⟨_, .assign _, _, _, _, _⟩ :: _) _ _; refine EL.f (FV.assign rfl) rfl rfl ?_)
           | (show EL _ _ _ _ (⟨_, .binOp .eql _ _ _ _, _, _, _, _⟩ :: _) _ _; first | refine EL.fT (FV.eql rfl rfl) rfl (fun _ => rfl) (by omega) ?_ | refine EL.fF (FV.eql rfl rfl) rfl (fun _ => rfl) (by omega) ?_))
        | refine EL.nil ?_
        | refine EW.seq ?_
        | refine EW.region ?_
        | refine EW.block ?_
        | refine EW.condT rfl ?_
        | refine EW.condF rfl ?_)
      refine EL.h (Hv.call (specNum x.num hx.num w2) rfl) rfl (fun _ => rfl) ?_
      rintro _ w3 ⟨rfl, he3⟩
      repeat' (first
        | refine EL.f (FV.assign rfl) rfl rfl ?_
        | refine EL.nil ?_
        | (refine EL.f (FV.catS rfl rfl rfl rfl (by simp only [List.length_append, List.length_cons, List.length_nil]; omega)) rfl rfl ?_)
        | refine EW.ret ?_)
      exact ⟨_, rfl, by rw [lineI, tail_num (by omega)], W2.trans he3⟩
  have q1 : ¬ x.op = 1 := by omega
  have q2 : ¬ x.op = 2 := by omega
  by_cases q7 : x.op = 7
  · repeat' (first
      | (show EL _ _ _ _ (_ :: _) _ _
         first
         | (show EL _ _ _ _ (⟨_, .fieldAddr _ _ _, _, _, _, _⟩ :: _) _ _; refine EL.f (FV.fieldAddr rfl rfl rfl rfl rfl) rfl rfl ?_)
         | (show EL _ _ _ _ (⟨_, .load _ _, _, _, _, _⟩ :: _) _ _; refine EL.f (FV.load1 rfl rfl rfl (At.cell h1 rfl)) rfl rfl ?_)
         | (show EL _ _ _ _ (⟨_, .move _, _, _, _, _⟩ :: _) _ _; refine EL.f (FV.move rfl) rfl rfl ?_)
         | (show EL _ _ _ _ (⟨_, .assign _, _, _, _, _⟩ :: _) _ _; refine EL.f (FV.assign rfl) rfl rfl ?_)
         | (show EL _ _ _ _ (⟨_, .binOp .eql _ _ _ _, _, _, _, _⟩ :: _) _ _; first | refine EL.fT (FV.eql rfl rfl) rfl (fun _ => rfl) (by omega) ?_ | refine EL.fF (FV.eql rfl rfl) rfl (fun _ => rfl) (by omega) ?_))
      | refine EL.nil ?_
      | refine EW.seq ?_
      | refine EW.region ?_
      | refine EW.block ?_
      | refine EW.condT rfl ?_
      | refine EW.condF rfl ?_)
    refine EL.h (Hv.call (specNum x.a hx.a w2) rfl) rfl (fun _ => rfl) ?_
    rintro _ w3 ⟨rfl, he3⟩
    repeat' (first
      | refine EL.f (FV.assign rfl) rfl rfl ?_
      | refine EL.nil ?_
      | (refine EL.f (FV.catS rfl rfl rfl rfl (by simp only [List.length_append, List.length_cons, List.length_nil]; omega)) rfl rfl ?_)
      | refine EW.ret ?_)
    exact ⟨_, rfl, by rw [lineI, tail_neg q7], W2.trans he3⟩
  · repeat' (first
      | (show EL _ _ _ _ (_ :: _) _ _
         first
         | (show EL _ _ _ _ (⟨_, .fieldAddr _ _ _, _, _, _, _⟩ :: _) _ _; refine EL.f (FV.fieldAddr rfl rfl rfl rfl rfl) rfl rfl ?_)
         | (show EL _ _ _ _ (⟨_, .load _ _, _, _, _, _⟩ :: _) _ _; refine EL.f (FV.load1 rfl rfl rfl (At.cell h1 rfl)) rfl rfl ?_)
         | (show EL _ _ _ _ (⟨_, .assign _, _, _, _, _⟩ :: _) _ _; refine EL.f (FV.assign rfl) rfl rfl ?_)
         | (show EL _ _ _ _ (⟨_, .binOp .eql _ _ _ _, _, _, _, _⟩ :: _) _ _; refine EL.fF (FV.eql rfl rfl) rfl (fun _ => rfl) (by omega) ?_))
      | refine EL.nil ?_
      | refine EW.seq ?_
      | refine EW.region ?_
      | refine EW.block ?_
      | refine EW.skip ?_
      | refine EW.condF rfl ?_)
    refine EW.draw (fun w' => Ext w2 w') ([(0, true), (1, true), (2, true), (6, true), (7, true), (3, false), (4, true), (5, true), (8, false), (9, true), (10, true)]) mixed (by decide +kernel) (Ext.drew _) ?_
    repeat' (first
      | refine EP.f rfl (FV.fieldAddr rfl rfl rfl rfl rfl) rfl rfl ?_
      | refine EP.f rfl (FV.load rfl rfl rfl (fun w' h' => At.cell (At.ext h1 h') rfl)) rfl rfl ?_
      | refine EP.f rfl (FV.move rfl) rfl rfl ?_)
    refine EP.h rfl rfl (Hv.call (specNum x.a hx.a _) rfl) rfl (fun _ => rfl) ?_
    rintro _ w3 ⟨rfl, he3⟩
    have E3 := (Ext.drew w2).trans he3
    refine ⟨E3, ?_⟩
    repeat' (first
      | (refine EP.f rfl (FV.catS (m := [32]) rfl rfl rfl rfl (by simp only [List.length_append, List.length_cons, List.length_nil]; omega)) rfl rfl ?_)
      | (refine EP.f rfl (FV.catS rfl rfl rfl rfl (by simp only [List.length_append, List.length_cons, List.length_nil]; omega)) rfl rfl ?_))
    refine EP.h rfl rfl (Hv.call (specNum x.b hx.b _) rfl) rfl (fun _ => rfl) ?_
    rintro _ w4 ⟨rfl, he4⟩
    have E4 := E3.trans he4
    refine ⟨E4, ?_⟩
    repeat' (first
      | (refine EP.f rfl (FV.catS rfl rfl rfl rfl (by simp only [List.length_append, List.length_cons, List.length_nil]; omega)) rfl rfl ?_)
      | refine EP.nil ?_
      | refine EP.f rfl (FV.assign rfl) rfl rfl ?_)
    repeat' (first
      | refine EW.ret ?_)
    exact ⟨_, rfl, by rw [lineI, tail_two (by omega) q7]; simp only [List.append_assoc], W2.trans E4⟩
set_option maxHeartbeats 8000000 in
theorem specTextT (b o : Nat) (t : Tp) (w : World) (h : TapeP w b o t) (hf : Fit t) (ok : okT t = true) :
    CallsR Tryd.prog 29 [.pointer (some ⟨b, o, none⟩)] w fun r w' => r = .string (str (textT t)) ∧ Ext w w' := by
  obtain ⟨P, p, Q, q, R, r, hb, r1, r2, r3⟩ := h
  obtain ⟨hin, hcl, hgl, hol, _⟩ := okT_iff.1 ok
  have hins := ok_ins ok
  have hgds := ok_gds ok
  have houts := ok_outs ok
  have hpi := preI_length ok
  have hpg := preG_length ok
  have hd0 := dI_length (x := t.inputs) (by omega)
  have l0 := hb 0 _ rfl
  have l1 := hb 1 _ rfl
  have l2 := hb 2 _ rfl
  have l3 := hb 3 _ rfl
  refine CallsR.enter Tryd.func29 (by decide +kernel) rfl Tryd.ntmps29 rfl ?_
  repeat' (first
    | (show EL _ _ _ _ (_ :: _) _ _
       first
       | (show EL _ _ _ _ (⟨_, .nilCheck _, _, _, _, _⟩ :: _) _ _; refine EL.f (FV.nilChk rfl) rfl rfl ?_)
       | (show EL _ _ _ _ (⟨_, .fieldAddr _ _ _, _, _, _, _⟩ :: _) _ _; refine EL.f (FV.fieldAddr rfl rfl rfl rfl rfl) rfl rfl ?_)
       | (show EL _ _ _ _ (⟨_, .load _ _, _, _, _, _⟩ :: _) _ _; refine EL.f (FV.load1 rfl rfl rfl (l0)) rfl rfl ?_)
       | (show EL _ _ _ _ (⟨_, .move _, _, _, _, _⟩ :: _) _ _; refine EL.f (FV.move rfl) rfl rfl ?_)
       | (show EL _ _ _ _ (⟨_, .assign _, _, _, _, _⟩ :: _) _ _; refine EL.f (FV.assign rfl) rfl rfl ?_))
    | refine EL.nil ?_
    | refine EW.seq ?_
    | refine EW.region ?_)
  refine EL.h (Hv.call (specNum t.inputs (by omega) w) rfl) rfl (fun _ => rfl) ?_
  rintro _ w1 ⟨rfl, he1⟩
  repeat' (first
    | (refine EL.f (FV.catS (l := [116, 97, 112, 101, 32]) rfl rfl rfl rfl (by simp only [List.length_append, List.length_cons, List.length_nil]; omega)) rfl rfl ?_)
    | (refine EL.f (FV.catS (m := [10]) rfl rfl rfl rfl (by simp only [List.length_append, List.length_cons, List.length_nil]; omega)) rfl rfl ?_))
  refine EL.h (Hv.toBytes rfl rfl (by simp only [List.length_append, List.length_cons, List.length_nil]; omega)) rfl (fun _ => rfl) ?_
  rintro s2 w2 ⟨hb2, he2⟩
  have hw2 := he1.trans he2
  have hb2' : BufW w.heap.size w2 s2 (preI t 0) := by
    rw [preI_zero]
    obtain ⟨g, cap, cur, fz, k1, k2, k3⟩ := hb2
    exact ⟨g, cap, cur, fz, k1, Nat.le_trans he1.size k2, k3⟩
  repeat' (first
    | refine EL.f (FV.assign rfl) rfl rfl ?_
    | refine EL.nil ?_
    | refine EW.seq ?_
    | refine EW.region ?_
    | refine EW.block ?_)
  refine EW.loop (X := Nat × Value) (fun y wr => y.1 ≤ t.code.length ∧ BufW w.heap.size wr y.2 (preI t y.1) ∧ Ext w wr) (fun y => [(0, .pointer (some ⟨b, o, none⟩)), (3, y.2), (4, .int .i64 y.1)]) (fun y => t.code.length - y.1) (0, s2) ⟨Nat.zero_le _, hb2', hw2⟩ ⟨rfl, rfl, rfl, trivial⟩ ?_
  clear hb2 hb2' hw2 he2 he1
  rintro ⟨i, s⟩ wr ⟨hi, hbf, hE⟩
  dsimp only at *
  have c1 := hE.cell l1
  by_cases hlt : i < t.code.length
  · obtain ⟨bP, oP, rfl, hp⟩ := Rd.elem insV_length (by decide) dIns (r1.ext hE) hlt
    have hli := lineI_length (hins i hlt)
    have hpi1 := hpi i
    repeat' (first
      | (show EL _ _ _ _ (_ :: _) _ _
         first
         | (show EL _ _ _ _ (⟨_, .nilCheck _, _, _, _, _⟩ :: _) _ _; refine EL.f (FV.nilChk rfl) rfl rfl ?_)
         | (show EL _ _ _ _ (⟨_, .fieldAddr _ _ _, _, _, _, _⟩ :: _) _ _; refine EL.f (FV.fieldAddr rfl rfl rfl rfl rfl) rfl rfl ?_)
         | (show EL _ _ _ _ (⟨_, .load _ _, _, _, _, _⟩ :: _) _ _; first | refine EL.f (FV.load1 rfl rfl rfl (c1)) rfl rfl ?_ | refine EL.f (FV.loadAgg (cs := insV (t.code.getD i dIns)) rfl rfl rfl rfl rfl (fun _ e => e ▸ hp)) rfl rfl ?_)
         | (show EL _ _ _ _ (⟨_, .indexAddr _ _ _, _, _, _, _⟩ :: _) _ _; refine EL.f (FV.idx rfl rfl rfl rfl (by omega) (by omega)) rfl rfl ?_)
         | (show EL _ _ _ _ (⟨_, .move _, _, _, _, _⟩ :: _) _ _; refine EL.f (FV.move rfl) rfl rfl ?_)
         | (show EL _ _ _ _ (⟨_, .call _, _, _, _, _⟩ :: _) _ _; refine EL.f (FV.len rfl rfl) rfl rfl ?_)
         | (show EL _ _ _ _ (⟨_, .binOp .lss _ _ _ _, _, _, _, _⟩ :: _) _ _; refine EL.fT (FV.lss rfl rfl) rfl (fun _ => rfl) (by omega) ?_))
      | refine EL.nil ?_
      | refine EW.seq ?_
      | refine EW.region ?_
      | refine EW.block ?_
      | refine EW.skip ?_
      | refine EW.condT rfl ?_)
    refine EL.h (Hv.call (specLine _ (hins i hlt) wr) rfl) rfl (fun _ => rfl) ?_
    rintro _ a1 ⟨rfl, ea1⟩
    skip
    refine EL.h (Hv.appStr rfl rfl rfl (hbf.ext ea1) (hE.trans ea1).size (by omega)) rfl (fun _ => rfl) ?_
    rintro s3 a2 ⟨hb3, eb3⟩
    have E3 : Ext w a2 := Below.trans (hE.trans ea1) eb3
    repeat' (first
      | refine EL.f (FV.move rfl) rfl rfl ?_
      | refine EL.f (FV.assign rfl) rfl rfl ?_
      | refine EL.nil ?_
      | refine EW.region ?_)
    refine EL.h (Hv.build1S rfl rfl rfl rfl) rfl (fun _ => rfl) ?_
    rintro _ a3 ⟨g3, rfl, hat3, hg3, ea3⟩
    skip
    refine EL.h (Hv.appByte (b := 10) rfl rfl (At.cell hat3 rfl) (hb3.ext ea3) (E3.trans ea3).size (by rw [List.length_append]; omega)) rfl (fun _ => rfl) ?_
    rintro s4 a4 ⟨hb4, eb4⟩
    have E4 : Ext w a4 := Below.trans (E3.trans ea3) eb4
    repeat' (first
      | refine EL.f (FV.move rfl) rfl rfl ?_
      | refine EL.f (FV.assign rfl) rfl rfl ?_
      | refine EL.f (FV.addI rfl rfl (by omega)) rfl rfl ?_
      | refine EL.nil ?_
      | refine EW.region ?_)
    exact ⟨(i + 1, s4), ⟨rfl, rfl, rfl, trivial⟩, ⟨by dsimp only; omega, by dsimp only; rw [preI_next hlt]; exact hb4, E4⟩, by dsimp only; omega⟩
  obtain rfl : i = t.code.length := by omega
  rw [← preG_zero] at hbf
  repeat' (first
    | (show EL _ _ _ _ (_ :: _) _ _
       first
       | (show EL _ _ _ _ (⟨_, .nilCheck _, _, _, _, _⟩ :: _) _ _; refine EL.f (FV.nilChk rfl) rfl rfl ?_)
       | (show EL _ _ _ _ (⟨_, .fieldAddr _ _ _, _, _, _, _⟩ :: _) _ _; refine EL.f (FV.fieldAddr rfl rfl rfl rfl rfl) rfl rfl ?_)
       | (show EL _ _ _ _ (⟨_, .load _ _, _, _, _, _⟩ :: _) _ _; refine EL.f (FV.load1 rfl rfl rfl (c1)) rfl rfl ?_)
       | (show EL _ _ _ _ (⟨_, .move _, _, _, _, _⟩ :: _) _ _; refine EL.f (FV.move rfl) rfl rfl ?_)
       | (show EL _ _ _ _ (⟨_, .assign _, _, _, _, _⟩ :: _) _ _; refine EL.f (FV.assign rfl) rfl rfl ?_)
       | (show EL _ _ _ _ (⟨_, .call _, _, _, _, _⟩ :: _) _ _; refine EL.f (FV.len rfl rfl) rfl rfl ?_)
       | (show EL _ _ _ _ (⟨_, .binOp .lss _ _ _ _, _, _, _, _⟩ :: _) _ _; refine EL.fF (FV.lss rfl rfl) rfl (fun _ => rfl) (by omega) ?_))
    | refine EL.nil ?_
    | refine EW.seq ?_
    | refine EW.region ?_
    | refine EW.block ?_
    | refine EW.exit ?_
    | refine EW.condF rfl ?_)
  refine EW.loop (X := Nat × Value) (fun y wr => y.1 ≤ t.guards.length ∧ BufW w.heap.size wr y.2 (preG t y.1) ∧ Ext w wr) (fun y => [(0, .pointer (some ⟨b, o, none⟩)), (3, y.2), (5, .int .i64 y.1)]) (fun y => t.guards.length - y.1) (0, s) ⟨Nat.zero_le _, hbf, hE⟩ ⟨rfl, rfl, rfl, trivial⟩ ?_
  clear hi hlt hbf hE c1
  rintro ⟨j, s⟩ wr ⟨hj, hbf, hE⟩
  dsimp only at *
  have c2 := hE.cell l2
  have hpg1 := hpg j
  by_cases hlt : j < t.guards.length
  · obtain ⟨bQ, oQ, rfl, hp⟩ := Rd.elem gdV_length (by decide) dGd (r2.ext hE) hlt
    have g0 := hp 0 _ rfl
    have hrg := hgds j hlt
    have hdr := dI_length hrg
    have hlg := lineG_length hrg
    cases hz : (t.guards.getD j dGd).zero
    · have g1 : wr.cell? ⟨bQ, oQ + j * 2 + 1, none⟩ = some (.bool false) := by rw [← hz]; exact hp 1 _ rfl
      have hlz : lineG (t.guards.getD j dGd) = [111, 116, 104, 101, 114, 32] ++ dI (t.guards.getD j dGd).reg ++ [10] := by rw [lineG, hz]; rfl
      repeat' (first
        | (show EL _ _ _ _ (_ :: _) _ _
           first
           | (show EL _ _ _ _ (⟨_, .nilCheck _, _, _, _, _⟩ :: _) _ _; refine EL.f (FV.nilChk rfl) rfl rfl ?_)
           | (show EL _ _ _ _ (⟨_, .fieldAddr _ _ _, _, _, _, _⟩ :: _) _ _; refine EL.f (FV.fieldAddr rfl rfl rfl rfl rfl) rfl rfl ?_)
           | (show EL _ _ _ _ (⟨_, .load _ _, _, _, _, _⟩ :: _) _ _; first | refine EL.f (FV.load1 rfl rfl rfl (c2)) rfl rfl ?_ | refine EL.f (FV.load1 rfl rfl rfl (g0)) rfl rfl ?_ | refine EL.f (FV.load1 rfl rfl rfl (g1)) rfl rfl ?_)
           | (show EL _ _ _ _ (⟨_, .indexAddr _ _ _, _, _, _, _⟩ :: _) _ _; refine EL.f (FV.idx rfl rfl rfl rfl (by omega) (by omega)) rfl rfl ?_)
           | (show EL _ _ _ _ (⟨_, .move _, _, _, _, _⟩ :: _) _ _; refine EL.f (FV.move rfl) rfl rfl ?_)
           | (show EL _ _ _ _ (⟨_, .assign _, _, _, _, _⟩ :: _) _ _; refine EL.f (FV.assign rfl) rfl rfl ?_)
           | (show EL _ _ _ _ (⟨_, .call _, _, _, _, _⟩ :: _) _ _; refine EL.f (FV.len rfl rfl) rfl rfl ?_)
           | (show EL _ _ _ _ (⟨_, .binOp .lss _ _ _ _, _, _, _, _⟩ :: _) _ _; refine EL.fT (FV.lss rfl rfl) rfl (fun _ => rfl) (by omega) ?_))
        | refine EL.nil ?_
        | refine EW.seq ?_
        | refine EW.region ?_
        | refine EW.block ?_
        | refine EW.skip ?_
        | refine EW.condT rfl ?_
        | refine EW.condF rfl ?_)
      refine EL.h (Hv.call (specNum _ hrg wr) rfl) rfl (fun _ => rfl) ?_
      rintro _ a1 ⟨rfl, ea1⟩
      repeat' (first
        | (refine EL.f (FV.catS (l := [111, 116, 104, 101, 114, 32]) rfl rfl rfl rfl (by simp only [List.length_append, List.length_cons, List.length_nil]; omega)) rfl rfl ?_)
        | (refine EL.f (FV.catS (m := [10]) rfl rfl rfl rfl (by simp only [List.length_append, List.length_cons, List.length_nil]; omega)) rfl rfl ?_))
      refine EL.h (Hv.appStr (m := [111, 116, 104, 101, 114, 32] ++ dI (t.guards.getD j dGd).reg ++ [10]) rfl rfl rfl (hbf.ext ea1) (hE.trans ea1).size (by rw [← hlz]; omega)) rfl (fun _ => rfl) ?_
      rintro s3 a2 ⟨hb3, eb3⟩
      have E3 : Ext w a2 := Below.trans (hE.trans ea1) eb3
      repeat' (first
        | refine EL.f (FV.move rfl) rfl rfl ?_
        | refine EL.f (FV.assign rfl) rfl rfl ?_
        | refine EL.f (FV.addI rfl rfl (by omega)) rfl rfl ?_
        | refine EL.nil ?_
        | refine EW.region ?_)
      exact ⟨(j + 1, s3), ⟨rfl, rfl, rfl, trivial⟩, ⟨by dsimp only; omega, by dsimp only; rw [preG_next hlt, hlz]; exact hb3, E3⟩, by dsimp only; omega⟩
    · have g1 : wr.cell? ⟨bQ, oQ + j * 2 + 1, none⟩ = some (.bool true) := by rw [← hz]; exact hp 1 _ rfl
      have hlz : lineG (t.guards.getD j dGd) = [122, 101, 114, 111, 32] ++ dI (t.guards.getD j dGd).reg ++ [10] := by rw [lineG, hz]; rfl
      repeat' (first
        | (show EL _ _ _ _ (_ :: _) _ _
           first
           | (show EL _ _ _ _ (⟨_, .nilCheck _, _, _, _, _⟩ :: _) _ _; refine EL.f (FV.nilChk rfl) rfl rfl ?_)
           | (show EL _ _ _ _ (⟨_, .fieldAddr _ _ _, _, _, _, _⟩ :: _) _ _; refine EL.f (FV.fieldAddr rfl rfl rfl rfl rfl) rfl rfl ?_)
           | (show EL _ _ _ _ (⟨_, .load _ _, _, _, _, _⟩ :: _) _ _; first | refine EL.f (FV.load1 rfl rfl rfl (c2)) rfl rfl ?_ | refine EL.f (FV.load1 rfl rfl rfl (g0)) rfl rfl ?_ | refine EL.f (FV.load1 rfl rfl rfl (g1)) rfl rfl ?_)
           | (show EL _ _ _ _ (⟨_, .indexAddr _ _ _, _, _, _, _⟩ :: _) _ _; refine EL.f (FV.idx rfl rfl rfl rfl (by omega) (by omega)) rfl rfl ?_)
           | (show EL _ _ _ _ (⟨_, .move _, _, _, _, _⟩ :: _) _ _; refine EL.f (FV.move rfl) rfl rfl ?_)
           | (show EL _ _ _ _ (⟨_, .assign _, _, _, _, _⟩ :: _) _ _; refine EL.f (FV.assign rfl) rfl rfl ?_)
           | (show EL _ _ _ _ (⟨_, .call _, _, _, _, _⟩ :: _) _ _; refine EL.f (FV.len rfl rfl) rfl rfl ?_)
           | (show EL _ _ _ _ (⟨_, .binOp .lss _ _ _ _, _, _, _, _⟩ :: _) _ _; refine EL.fT (FV.lss rfl rfl) rfl (fun _ => rfl) (by omega) ?_))
        | refine EL.nil ?_
        | refine EW.seq ?_
        | refine EW.region ?_
        | refine EW.block ?_
        | refine EW.skip ?_
        | refine EW.condT rfl ?_)
      refine EL.h (Hv.call (specNum _ hrg wr) rfl) rfl (fun _ => rfl) ?_
      rintro _ a1 ⟨rfl, ea1⟩
      repeat' (first
        | (refine EL.f (FV.catS (l := [122, 101, 114, 111, 32]) rfl rfl rfl rfl (by simp only [List.length_append, List.length_cons, List.length_nil]; omega)) rfl rfl ?_)
        | (refine EL.f (FV.catS (m := [10]) rfl rfl rfl rfl (by simp only [List.length_append, List.length_cons, List.length_nil]; omega)) rfl rfl ?_))
      refine EL.h (Hv.appStr (m := [122, 101, 114, 111, 32] ++ dI (t.guards.getD j dGd).reg ++ [10]) rfl rfl rfl (hbf.ext ea1) (hE.trans ea1).size (by rw [← hlz]; omega)) rfl (fun _ => rfl) ?_
      rintro s3 a2 ⟨hb3, eb3⟩
      have E3 : Ext w a2 := Below.trans (hE.trans ea1) eb3
      repeat' (first
        | refine EL.f (FV.move rfl) rfl rfl ?_
        | refine EL.f (FV.assign rfl) rfl rfl ?_
        | refine EL.f (FV.addI rfl rfl (by omega)) rfl rfl ?_
        | refine EL.nil ?_
        | refine EW.region ?_)
      exact ⟨(j + 1, s3), ⟨rfl, rfl, rfl, trivial⟩, ⟨by dsimp only; omega, by dsimp only; rw [preG_next hlt, hlz]; exact hb3, E3⟩, by dsimp only; omega⟩
  obtain rfl : j = t.guards.length := by omega
  have hjl := joinS_le (xs := t.outs) (sep := [32]) houts
  simp only [List.length_cons, List.length_nil] at hjl
  repeat' (first
    | (show EL _ _ _ _ (_ :: _) _ _
       first
       | (show EL _ _ _ _ (⟨_, .nilCheck _, _, _, _, _⟩ :: _) _ _; refine EL.f (FV.nilChk rfl) rfl rfl ?_)
       | (show EL _ _ _ _ (⟨_, .fieldAddr _ _ _, _, _, _, _⟩ :: _) _ _; refine EL.f (FV.fieldAddr rfl rfl rfl rfl rfl) rfl rfl ?_)
       | (show EL _ _ _ _ (⟨_, .load _ _, _, _, _, _⟩ :: _) _ _; refine EL.f (FV.load1 rfl rfl rfl (c2)) rfl rfl ?_)
       | (show EL _ _ _ _ (⟨_, .move _, _, _, _, _⟩ :: _) _ _; refine EL.f (FV.move rfl) rfl rfl ?_)
       | (show EL _ _ _ _ (⟨_, .call _, _, _, _, _⟩ :: _) _ _; refine EL.f (FV.len rfl rfl) rfl rfl ?_)
       | (show EL _ _ _ _ (⟨_, .binOp .lss _ _ _ _, _, _, _, _⟩ :: _) _ _; refine EL.fF (FV.lss rfl rfl) rfl (fun _ => rfl) (by omega) ?_))
    | refine EL.nil ?_
    | refine EW.seq ?_
    | refine EW.region ?_
    | refine EW.exit ?_
    | refine EW.condF rfl ?_)
  refine EL.h (Hv.appStr (m := [111, 117, 116, 32]) rfl rfl rfl hbf hE.size (by simp only [List.length_cons, List.length_nil]; omega)) rfl (fun _ => rfl) ?_
  rintro s3 a1 ⟨hb3, eb3⟩
  have E3 : Ext w a1 := Below.trans hE eb3
  have c3 := E3.cell l3
  repeat' (first
    | (show EL _ _ _ _ (_ :: _) _ _
       first
       | (show EL _ _ _ _ (⟨_, .nilCheck _, _, _, _, _⟩ :: _) _ _; refine EL.f (FV.nilChk rfl) rfl rfl ?_)
       | (show EL _ _ _ _ (⟨_, .fieldAddr _ _ _, _, _, _, _⟩ :: _) _ _; refine EL.f (FV.fieldAddr rfl rfl rfl rfl rfl) rfl rfl ?_)
       | (show EL _ _ _ _ (⟨_, .load _ _, _, _, _, _⟩ :: _) _ _; refine EL.f (FV.load1 rfl rfl rfl (c3)) rfl rfl ?_)
       | (show EL _ _ _ _ (⟨_, .move _, _, _, _, _⟩ :: _) _ _; refine EL.f (FV.move rfl) rfl rfl ?_)
       | (show EL _ _ _ _ (⟨_, .assign _, _, _, _, _⟩ :: _) _ _; refine EL.f (FV.assign rfl) rfl rfl ?_))
    | refine EL.nil ?_
    | refine EW.seq ?_
    | refine EW.region ?_)
  refine EL.h (Hv.call (specList _ _ t.outs a1 (r3.ext E3) (by omega) houts) rfl) rfl (fun _ => rfl) ?_
  rintro _ a2 ⟨rfl, ea2⟩
  skip
  refine EL.h (Hv.appStr rfl rfl rfl (hb3.ext ea2) (E3.trans ea2).size (by simp only [List.length_append, List.length_cons, List.length_nil]; omega)) rfl (fun _ => rfl) ?_
  rintro s4 a3 ⟨hb4, eb4⟩
  have E4 : Ext w a3 := Below.trans (E3.trans ea2) eb4
  repeat' (first
    | refine EL.f (FV.move rfl) rfl rfl ?_
    | refine EL.f (FV.assign rfl) rfl rfl ?_
    | refine EL.nil ?_
    | refine EW.seq ?_
    | refine EW.region ?_)
  refine EL.h (Hv.build1S rfl rfl rfl rfl) rfl (fun _ => rfl) ?_
  rintro _ a4 ⟨g4, rfl, hat4, hg4, ea4⟩
  skip
  refine EL.h (Hv.appByte (b := 10) rfl rfl (At.cell hat4 rfl) (hb4.ext ea4) (E4.trans ea4).size (by simp only [List.length_append, List.length_cons, List.length_nil]; omega)) rfl (fun _ => rfl) ?_
  rintro s5 a5 ⟨hb5, eb5⟩
  have E5 : Ext w a5 := Below.trans (E4.trans ea4) eb5
  repeat' (first
    | refine EL.f (FV.assign rfl) rfl rfl ?_
    | refine EL.nil ?_
    | refine EL.f (FV.ofBytes rfl (fun w' e => e ▸ hb5) ⟨_, rfl⟩) rfl rfl ?_
    | refine EW.ret ?_)
  exact ⟨_, rfl, rfl, E5⟩
theorem specTapeText (v : Value) (t : Tp) (w : World) (h : TapeV w v t) (hf : Fit t) : CallsR Tryd.prog 15 [v] w fun r w' => r = .string (textO t) ∧ Ext w w' := by
  obtain ⟨P, p, Q, q, R, r, rfl, r1, r2, r3⟩ := h
  refine CallsR.enter Tryd.func15 (by decide +kernel) rfl Tryd.ntmps15 rfl ?_
  repeat' (first
    | refine EW.seq ?_
    | refine EW.region ?_)
  refine EL.h (Hv.boxA (sz := 4) rfl rfl) rfl (fun _ => rfl) ?_
  rintro _ w1 ⟨g1, rfl, hg1, hb, he1⟩
  have hP : TapeP w1 g1 0 t := ⟨P, p, Q, q, R, r, At.lies hb, r1.ext he1, r2.ext he1, r3.ext he1⟩
  repeat' (first
    | refine EL.f (FV.assign rfl) rfl rfl ?_
    | refine EL.nil ?_
    | refine EW.seq ?_
    | refine EW.region ?_)
  refine EL.h (Hv.call (specOkT g1 0 t w1 hP hf) rfl) rfl (fun _ => rfl) ?_
  rintro _ w2 ⟨rfl, he2⟩
  have hw2 := he1.trans he2
  cases ok : okT t
  · repeat' (first
      | refine EL.f (FV.assign rfl) rfl rfl ?_
      | refine EL.f (FV.not rfl) rfl rfl ?_
      | refine EL.nil ?_
      | refine EW.seq ?_
      | refine EW.region ?_
      | refine EW.ret ?_
      | refine EW.condT rfl ?_)
    exact ⟨_, rfl, by rw [textO, if_neg (by rw [ok]; decide)]; rfl, hw2⟩
  · repeat' (first
      | refine EL.f (FV.not rfl) rfl rfl ?_
      | refine EL.nil ?_
      | refine EW.seq ?_
      | refine EW.region ?_
      | refine EW.skip ?_
      | refine EW.condF rfl ?_)
    refine EL.h (Hv.call (specTextT g1 0 t w2 (hP.ext he2) hf ok) rfl) rfl (fun _ => rfl) ?_
    rintro _ w3 ⟨rfl, he3⟩
    repeat' (first
      | refine EL.f (FV.assign rfl) rfl rfl ?_
      | refine EL.nil ?_
      | refine EW.ret ?_)
    exact ⟨_, rfl, by rw [textO, if_pos ok], hw2.trans he3⟩
/-! the program -/
set_option maxHeartbeats 16000000 in
theorem implTapeText (v : Value) (t : Tp) (w : World) (h : TapeV w v t) (hf : Fit t) (ht : TabW w) : CallsR Tryd.prog 17 [v] w fun r w' => r = .string (textO t) ∧ Ext w w' := by
  have hv := h
  obtain ⟨P, p, Q, q, R, r, rfl, r1, r2, r3⟩ := h
  refine CallsR.enter Tryd.func17 (by decide +kernel) rfl Tryd.ntmps17 rfl ?_
  repeat' (first
    | refine EW.seq ?_
    | refine EW.region ?_)
  refine EL.h (Hv.boxA (sz := 4) rfl rfl) rfl (fun _ => rfl) ?_
  rintro _ w1 ⟨g1, rfl, hg1, hb, he1⟩
  repeat' (first
    | refine EL.f (FV.loadAgg (cs := [.int .i64 t.inputs, .slice P t.code.length p, .slice Q t.guards.length q, .slice R t.outs.length r]) rfl rfl rfl rfl rfl (fun _ e => e ▸ At.lies hb)) rfl rfl ?_
    | refine EL.f (FV.assign rfl) rfl rfl ?_
    | refine EL.nil ?_
    | refine EW.seq ?_
    | refine EW.region ?_)
  refine EL.h (Hv.call (implValidTape _ t w1 (hv.ext he1) hf) rfl) rfl (fun _ => rfl) ?_
  rintro _ w2 ⟨rfl, he2⟩
  have hw2 := he1.trans he2
  replace hb := At.ext hb he2
  cases ok : okT t
  · repeat' (first
      | refine EL.f (FV.assign rfl) rfl rfl ?_
      | refine EL.f (FV.not rfl) rfl rfl ?_
      | refine EL.nil ?_
      | refine EW.seq ?_
      | refine EW.region ?_
      | refine EW.ret ?_
      | refine EW.condT rfl ?_)
    exact ⟨_, rfl, by rw [textO, if_neg (by rw [ok]; decide)]; rfl, hw2⟩
  rw [textO, if_pos ok]
  obtain ⟨hin, hcl, hgl, hol, _⟩ := okT_iff.1 ok
  have hins := ok_ins ok
  have hgds := ok_gds ok
  have houts := ok_outs ok
  have hpi := preI_length ok
  have hpg := preG_length ok
  have hd0 := dI_length (x := t.inputs) (by omega)
  have l1 : w2.cell? ⟨g1, 1, none⟩ = _ := At.cell hb rfl
  have l2 : w2.cell? ⟨g1, 2, none⟩ = _ := At.cell hb rfl
  have l3 : w2.cell? ⟨g1, 3, none⟩ = _ := At.cell hb rfl
  have lg1 := At.lt hb
  repeat' (first
    | refine EL.f (FV.not rfl) rfl rfl ?_
    | refine EL.nil ?_
    | refine EL.f FV.buildSB rfl rfl ?_
    | refine EW.seq ?_
    | refine EW.region ?_
    | refine EW.skip ?_
    | refine EW.condF rfl ?_)
  refine EL.h (Hv.boxSB rfl) rfl (fun _ => rfl) ?_
  rintro _ w3 ⟨b, rfl, hbb, hbl, he3⟩
  have hB := he3.size
  generalize hBB : w2.heap.size = B at *
  have E3 := he3
  replace hb := At.ext hb he3
  repeat' (first
    | (show EL _ _ _ _ (_ :: _) _ _
       first
       | (show EL _ _ _ _ (⟨_, .fieldAddr _ _ _, _, _, _, _⟩ :: _) _ _; refine EL.f (FV.fieldAddr rfl rfl rfl rfl rfl) rfl rfl ?_)
       | (show EL _ _ _ _ (⟨_, .load _ _, _, _, _, _⟩ :: _) _ _; refine EL.f (FV.load1 rfl rfl rfl (At.cell hb rfl)) rfl rfl ?_)
       | (show EL _ _ _ _ (⟨_, .move _, _, _, _, _⟩ :: _) _ _; refine EL.f (FV.move rfl) rfl rfl ?_)
       | (show EL _ _ _ _ (⟨_, .assign _, _, _, _, _⟩ :: _) _ _; refine EL.f (FV.assign rfl) rfl rfl ?_))
    | refine EL.nil ?_
    | refine EW.seq ?_
    | refine EW.region ?_)
  refine EL.h (Hv.call (implNum t.inputs (by omega) w3 (TabW.ext ht (hw2.trans he3))) rfl) rfl (fun _ => rfl) ?_
  rintro _ w4 ⟨rfl, he4⟩
  have E4 := E3.trans he4
  repeat' (first
    | (refine EL.f (FV.catS (l := [116, 97, 112, 101, 32]) rfl rfl rfl rfl (by simp only [List.length_append, List.length_cons, List.length_nil]; omega)) rfl rfl ?_)
    | (refine EL.f (FV.catS (m := [10]) rfl rfl rfl rfl (by simp only [List.length_append, List.length_cons, List.length_nil]; omega)) rfl rfl ?_))
  refine EL.h (Hv.call (bwString B b [] _ w4 (hbl.ext he4) (by simp only [List.length_append, List.length_cons, List.length_nil]; omega) (by have := E4.size; omega)) rfl) rfl (fun _ => rfl) ?_
  rintro _ w5 ⟨rfl, hbl5, hbe5, hok5⟩
  have E5 : Ext w2 w5 := Below.trans E4 (hBB ▸ hbe5)
  replace hbl5 : BldW B b (preI t 0) w5 := by rw [preI_zero]; exact hbl5
  replace l1 := E5.cell l1
  repeat' (first
    | (show EL _ _ _ _ (_ :: _) _ _
       first
       | (show EL _ _ _ _ (⟨_, .fieldAddr _ _ _, _, _, _, _⟩ :: _) _ _; refine EL.f (FV.fieldAddr rfl rfl rfl rfl rfl) rfl rfl ?_)
       | (show EL _ _ _ _ (⟨_, .load _ _, _, _, _, _⟩ :: _) _ _; refine EL.f (FV.load1 rfl rfl rfl (l1)) rfl rfl ?_)
       | (show EL _ _ _ _ (⟨_, .move _, _, _, _, _⟩ :: _) _ _; refine EL.f (FV.move rfl) rfl rfl ?_)
       | (show EL _ _ _ _ (⟨_, .call _, _, _, _, _⟩ :: _) _ _; refine EL.f (FV.len rfl rfl) rfl rfl ?_))
    | refine EL.nil ?_
    | refine EW.seq ?_
    | refine EW.region ?_
    | refine EW.block ?_)
  refine EW.loop (X := Nat) (fun i wr => i ≤ t.code.length ∧ BldW B b (preI t i) wr ∧ Ext w2 wr) (fun i => [(1, .pointer (some ⟨g1, 0, none⟩)), (3, .pointer (some ⟨b, 0, none⟩)), (22, .slice P t.code.length p), (23, .int .i64 t.code.length), (24, .int .i64 i)]) (fun i => t.code.length - i) 0 ⟨Nat.zero_le _, hbl5, E5⟩ ⟨rfl, rfl, rfl, rfl, rfl, trivial⟩ ?_
  clear hbl5 hbe5 hok5 l1 hbl hb
  rintro i wr ⟨hi, hbl, hE⟩
  have hWr := hw2.trans hE
  by_cases hlt : i < t.code.length
  · obtain ⟨bP, oP, rfl, hp⟩ := Rd.elem insV_length (by decide) dIns (r1.ext hWr) hlt
    have hx := hins i hlt
    have ho := hx.op
    have hat := wordsI_at ho
    have hda := dI_length hx.a
    have hdb := dI_length hx.b
    have hdn := dI_length hx.num
    have hwl := wordO_length (t.code.getD i dIns).op
    have hpi1 := hpi i
    have hnx := preI_next hlt
    generalize t.code.getD i dIns = x at *
    repeat' (first
      | refine EL.f (FV.idx rfl rfl rfl rfl (by omega) (by omega)) rfl rfl ?_
      | refine EL.f (FV.loadAgg (cs := insV x) rfl rfl rfl rfl rfl (fun _ e => e ▸ hp)) rfl rfl ?_
      | refine EL.fT (FV.lss rfl rfl) rfl (fun _ => rfl) (by omega) ?_
      | refine EL.nil ?_
      | refine EW.seq ?_
      | refine EW.region ?_
      | refine EW.block ?_
      | refine EW.skip ?_
      | refine EW.condT rfl ?_)
    refine EL.h (Hv.allocA rfl rfl) rfl (fun _ => rfl) ?_
    rintro _ u1 ⟨g5, rfl, hg5, h5, eu1⟩
    skip
    refine EL.h (Hv.storeAggG (vs := insV x) rfl rfl rfl rfl (insV_one _) h5 (Nat.le_refl _)) rfl (fun _ => rfl) ?_
    rintro _ u2 ⟨h6, hr6⟩
    replace h6 : At u2 66 4 g5 1 1 (insV x) := h6
    have hu2 : Ext wr u2 := Below.wr eu1 hr6 (by omega) (Nat.le_refl _)
    have F2 := hE.trans hu2
    have hgb : g5 ≠ b := by have := hbl.lt; omega
    have hTu : TabW u2 := TabW.ext ht (hWr.trans hu2)
    repeat' (first
      | refine EL.nil ?_
      | refine EW.seq ?_)
    refine EW.draw (fun w' => Ext w2 w' ∧ Oth b u2 w') ([(0, true), (2, true), (3, true), (4, true), (1, false), (5, true), (6, false), (7, true), (8, false)]) mixed (by decide +kernel) ⟨F2.trans (Ext.drew _), Oth.of (Ext.drew _)⟩ ?_
    repeat' (first
      | refine EP.f rfl (FV.fieldAddr rfl rfl rfl rfl rfl) rfl rfl ?_
      | refine EP.f rfl (FV.load rfl rfl rfl (fun w' h' => At.cell (At.oth h6 h'.2 hgb (by decide)) rfl)) rfl rfl ?_
      | refine EP.f rfl (FV.move rfl) rfl rfl ?_
      | refine EP.f rfl (FV.subI rfl rfl (by omega)) rfl rfl ?_)
    refine EP.h rfl rfl (Hv.call (implWords _) rfl) rfl (fun _ => rfl) ?_
    rintro _ u3 ⟨gw, rfl, hLw, eu3⟩
    have e23 := (Ext.drew u2).trans eu3
    have F3 := F2.trans e23
    have O3 : Oth b u2 u3 := Oth.of e23
    refine ⟨⟨F3, O3⟩, ?_⟩
    have hcw := hLw _ _ hat
    rw [Nat.zero_add] at hcw
    repeat' (first
      | refine EP.f rfl (FV.idx0 rfl rfl rfl rfl (by omega) (by omega)) rfl rfl ?_)
    refine EP.h rfl rfl (FV.load1 rfl rfl rfl hcw).hv rfl (fun _ => rfl) ?_
    rintro _ u3 ⟨rfl, rfl⟩
    refine ⟨⟨F3, O3⟩, ?_⟩
    repeat' (first
      | (refine EP.f rfl (FV.catS (m := [32]) rfl rfl rfl rfl (by simp only [List.length_append, List.length_cons, List.length_nil]; omega)) rfl rfl ?_))
    refine EP.h rfl rfl (Hv.call (bwString B b (preI t i) _ u3 (hbl.ext (hu2.trans e23)) (by simp only [List.length_append, List.length_cons, List.length_nil]; omega) (by have := F3.size; omega)) rfl) rfl (fun _ => rfl) ?_
    rintro _ u4 ⟨rfl, hbl4, hbe4, hok4⟩
    have F4 : Ext w2 u4 := Below.trans F3 (hBB ▸ hbe4)
    have O4 := O3.trans hok4
    refine ⟨⟨F4, O4⟩, ?_⟩
    repeat' (first
      | refine EP.nil ?_)
    have h6b := At.oth h6 O4 hgb (by decide)
    have hT4 : TabW u4 := TabW.ext ht (hw2.trans F4)
    have done : ∀ (w' : World), BldW B b (preI t i ++ (wordO x.op ++ [32]) ++ tailI x ++ [10]) w' → BldW B b (preI t i ++ lineI x ++ [10]) w' := fun w' q => by
      rw [lineI]
      simpa only [List.append_assoc] using q
    by_cases hnum : x.op = 1 ∨ x.op = 2
    · have htl := tail_num hnum
      rcases hnum with q1 | q2
      · repeat' (first
          | (show EL _ _ _ _ (_ :: _) _ _
             first
             | (show EL _ _ _ _ (⟨_, .fieldAddr _ _ _, _, _, _, _⟩ :: _) _ _; refine EL.f (FV.fieldAddr rfl rfl rfl rfl rfl) rfl rfl ?_)
             | (show EL _ _ _ _ (⟨_, .load _ _, _, _, _, _⟩ :: _) _ _; refine EL.f (FV.load1 rfl rfl rfl (At.cell h6b rfl)) rfl rfl ?_)
             | (show EL _ _ _ _ (⟨_, .move _, _, _, _, _⟩ :: _) _ _; refine EL.f (FV.move rfl) rfl rfl ?_)
             | (show EL _ _ _ _ (⟨_, .assign _, _, _, _, _⟩ :: _) _ _; refine EL.f (FV.assign rfl) rfl rfl ?_)
             | (show EL _ _ _ _ (⟨_, .binOp .eql _ _ _ _, _, _, _, _⟩ :: _) _ _; refine EL.fT (FV.eql rfl rfl) rfl (fun _ => rfl) (by omega) ?_))
          | refine EL.nil ?_
          | refine EW.seq ?_
          | refine EW.region ?_
          | refine EW.block ?_
          | refine EW.skip ?_
          | refine EW.condT rfl ?_)
        refine EL.h (Hv.call (implNum x.num hx.num u4 hT4) rfl) rfl (fun _ => rfl) ?_
        rintro _ u6 ⟨rfl, eu6⟩
        skip
        refine EL.h (Hv.call (bwString B b _ (dI x.num) u6 (hbl4.ext eu6) (by simp only [List.length_append, List.length_cons, List.length_nil]; omega) (by have := F4.size; have := eu6.size; omega)) rfl) rfl (fun _ => rfl) ?_
        rintro _ u7 ⟨rfl, hbl7, hbe7, hok7⟩
        have F7 : Ext w2 u7 := Below.trans (F4.trans eu6) (hBB ▸ hbe7)
        repeat' (first
          | refine EL.f (FV.move rfl) rfl rfl ?_
          | refine EL.nil ?_
          | refine EW.region ?_)
        refine EL.h (Hv.call (bwByte B b _ 10 u7 hbl7 (by simp only [List.length_append, List.length_cons, List.length_nil]; omega) (by have := F7.size; omega)) rfl) rfl (fun _ => rfl) ?_
        rintro _ u8 ⟨rfl, hbl8, hbe8, hok8⟩
        have F8 : Ext w2 u8 := Below.trans F7 (hBB ▸ hbe8)
        repeat' (first
          | refine EL.f (FV.move rfl) rfl rfl ?_
          | refine EL.f (FV.addI rfl rfl (by omega)) rfl rfl ?_
          | refine EL.nil ?_
          | refine EW.region ?_)
        exact ⟨i + 1, ⟨rfl, rfl, rfl, rfl, rfl, trivial⟩, ⟨by omega, by rw [hnx]; exact done _ (by rw [htl]; exact hbl8), F8⟩, by omega⟩
      · have q1 : ¬ x.op = 1 := by omega
        repeat' (first
          | (show EL _ _ _ _ (_ :: _) _ _
             first
             | (show EL _ _ _ _ (⟨_, .fieldAddr _ _ _, _, _, _, _⟩ :: _) _ _; refine EL.f (FV.fieldAddr rfl rfl rfl rfl rfl) rfl rfl ?_)
             | (show EL _ _ _ _ (⟨_, .load _ _, _, _, _, _⟩ :: _) _ _; refine EL.f (FV.load1 rfl rfl rfl (At.cell h6b rfl)) rfl rfl ?_)
             | (show EL _ _ _ _ (⟨_, .move _, _, _, _, _⟩ :: _) _ _; refine EL.f (FV.move rfl) rfl rfl ?_)
             | (show EL _ _ _ _ (⟨_, .assign _, _, _, _, _⟩ :: _) _ _; refine EL.f (FV.assign rfl) rfl rfl ?_)
             | (show EL _ _ _ _ (⟨_, .binOp .eql _ _ _ _, _, _, _, _⟩ :: _) _ _; first | refine EL.fT (FV.eql rfl rfl) rfl (fun _ => rfl) (by omega) ?_ | refine EL.fF (FV.eql rfl rfl) rfl (fun _ => rfl) (by omega) ?_))
          | refine EL.nil ?_
          | refine EW.seq ?_
          | refine EW.region ?_
          | refine EW.block ?_
          | refine EW.condT rfl ?_
          | refine EW.condF rfl ?_)
        refine EL.h (Hv.call (implNum x.num hx.num u4 hT4) rfl) rfl (fun _ => rfl) ?_
        rintro _ u6 ⟨rfl, eu6⟩
        skip
        refine EL.h (Hv.call (bwString B b _ (dI x.num) u6 (hbl4.ext eu6) (by simp only [List.length_append, List.length_cons, List.length_nil]; omega) (by have := F4.size; have := eu6.size; omega)) rfl) rfl (fun _ => rfl) ?_
        rintro _ u7 ⟨rfl, hbl7, hbe7, hok7⟩
        have F7 : Ext w2 u7 := Below.trans (F4.trans eu6) (hBB ▸ hbe7)
        repeat' (first
          | refine EL.f (FV.move rfl) rfl rfl ?_
          | refine EL.nil ?_
          | refine EW.region ?_)
        refine EL.h (Hv.call (bwByte B b _ 10 u7 hbl7 (by simp only [List.length_append, List.length_cons, List.length_nil]; omega) (by have := F7.size; omega)) rfl) rfl (fun _ => rfl) ?_
        rintro _ u8 ⟨rfl, hbl8, hbe8, hok8⟩
        have F8 : Ext w2 u8 := Below.trans F7 (hBB ▸ hbe8)
        repeat' (first
          | refine EL.f (FV.move rfl) rfl rfl ?_
          | refine EL.f (FV.addI rfl rfl (by omega)) rfl rfl ?_
          | refine EL.nil ?_
          | refine EW.region ?_)
        exact ⟨i + 1, ⟨rfl, rfl, rfl, rfl, rfl, trivial⟩, ⟨by omega, by rw [hnx]; exact done _ (by rw [htl]; exact hbl8), F8⟩, by omega⟩
    have q1 : ¬ x.op = 1 := by omega
    have q2 : ¬ x.op = 2 := by omega
    by_cases q7 : x.op = 7
    · have htl := tail_neg q7
      repeat' (first
        | (show EL _ _ _ _ (_ :: _) _ _
           first
           | (show EL _ _ _ _ (⟨_, .fieldAddr _ _ _, _, _, _, _⟩ :: _) _ _; refine EL.f (FV.fieldAddr rfl rfl rfl rfl rfl) rfl rfl ?_)
           | (show EL _ _ _ _ (⟨_, .load _ _, _, _, _, _⟩ :: _) _ _; refine EL.f (FV.load1 rfl rfl rfl (At.cell h6b rfl)) rfl rfl ?_)
           | (show EL _ _ _ _ (⟨_, .move _, _, _, _, _⟩ :: _) _ _; refine EL.f (FV.move rfl) rfl rfl ?_)
           | (show EL _ _ _ _ (⟨_, .assign _, _, _, _, _⟩ :: _) _ _; refine EL.f (FV.assign rfl) rfl rfl ?_)
           | (show EL _ _ _ _ (⟨_, .binOp .eql _ _ _ _, _, _, _, _⟩ :: _) _ _; first | refine EL.fT (FV.eql rfl rfl) rfl (fun _ => rfl) (by omega) ?_ | refine EL.fF (FV.eql rfl rfl) rfl (fun _ => rfl) (by omega) ?_))
        | refine EL.nil ?_
        | refine EW.seq ?_
        | refine EW.region ?_
        | refine EW.block ?_
        | refine EW.condT rfl ?_
        | refine EW.condF rfl ?_)
      refine EL.h (Hv.call (implNum x.a hx.a u4 hT4) rfl) rfl (fun _ => rfl) ?_
      rintro _ u6 ⟨rfl, eu6⟩
      skip
      refine EL.h (Hv.call (bwString B b _ (dI x.a) u6 (hbl4.ext eu6) (by simp only [List.length_append, List.length_cons, List.length_nil]; omega) (by have := F4.size; have := eu6.size; omega)) rfl) rfl (fun _ => rfl) ?_
      rintro _ u7 ⟨rfl, hbl7, hbe7, hok7⟩
      have F7 : Ext w2 u7 := Below.trans (F4.trans eu6) (hBB ▸ hbe7)
      repeat' (first
        | refine EL.f (FV.move rfl) rfl rfl ?_
        | refine EL.nil ?_
        | refine EW.region ?_)
      refine EL.h (Hv.call (bwByte B b _ 10 u7 hbl7 (by simp only [List.length_append, List.length_cons, List.length_nil]; omega) (by have := F7.size; omega)) rfl) rfl (fun _ => rfl) ?_
      rintro _ u8 ⟨rfl, hbl8, hbe8, hok8⟩
      have F8 : Ext w2 u8 := Below.trans F7 (hBB ▸ hbe8)
      repeat' (first
        | refine EL.f (FV.move rfl) rfl rfl ?_
        | refine EL.f (FV.addI rfl rfl (by omega)) rfl rfl ?_
        | refine EL.nil ?_
        | refine EW.region ?_)
      exact ⟨i + 1, ⟨rfl, rfl, rfl, rfl, rfl, trivial⟩, ⟨by omega, by rw [hnx]; exact done _ (by rw [htl]; exact hbl8), F8⟩, by omega⟩
    · have htl := tail_two hnum q7
      repeat' (first
        | (show EL _ _ _ _ (_ :: _) _ _
           first
           | (show EL _ _ _ _ (⟨_, .fieldAddr _ _ _, _, _, _, _⟩ :: _) _ _; refine EL.f (FV.fieldAddr rfl rfl rfl rfl rfl) rfl rfl ?_)
           | (show EL _ _ _ _ (⟨_, .load _ _, _, _, _, _⟩ :: _) _ _; refine EL.f (FV.load1 rfl rfl rfl (At.cell h6b rfl)) rfl rfl ?_)
           | (show EL _ _ _ _ (⟨_, .assign _, _, _, _, _⟩ :: _) _ _; refine EL.f (FV.assign rfl) rfl rfl ?_)
           | (show EL _ _ _ _ (⟨_, .binOp .eql _ _ _ _, _, _, _, _⟩ :: _) _ _; refine EL.fF (FV.eql rfl rfl) rfl (fun _ => rfl) (by omega) ?_))
        | refine EL.nil ?_
        | refine EW.seq ?_
        | refine EW.region ?_
        | refine EW.block ?_
        | refine EW.condF rfl ?_)
      refine EW.draw (fun w' => Ext u4 w' ∨ Ext w2 w' ∧ Oth b u4 w') ([(0, true), (1, true), (2, true), (5, true), (6, true), (3, false), (4, true), (7, false), (8, true), (9, false)]) mixed (by decide +kernel) (.inl (Ext.drew _)) ?_
      repeat' (first
        | refine EP.f rfl (FV.fieldAddr rfl rfl rfl rfl rfl) rfl rfl ?_
        | refine EP.f rfl (FV.load rfl rfl rfl (fun w' h' => At.cell (h'.elim (fun q => At.ext h6b q) fun q => At.oth h6b q.2 hgb (by decide)) rfl)) rfl rfl ?_
        | refine EP.f rfl (FV.move rfl) rfl rfl ?_)
      refine EP.h rfl rfl (Hv.call (implNum x.a hx.a _ (TabW.ext hT4 (Ext.drew _))) rfl) rfl (fun _ => rfl) ?_
      rintro _ u5 ⟨rfl, eu5⟩
      have e45 := (Ext.drew u4).trans eu5
      refine ⟨.inl e45, ?_⟩
      repeat' (first
        | (refine EP.f rfl (FV.catS (m := [32]) rfl rfl rfl rfl (by simp only [List.length_append, List.length_cons, List.length_nil]; omega)) rfl rfl ?_))
      refine EP.h rfl rfl (Hv.call (implNum x.b hx.b _ (TabW.ext hT4 e45)) rfl) rfl (fun _ => rfl) ?_
      rintro _ u6 ⟨rfl, eu6⟩
      have e46 := e45.trans eu6
      refine ⟨.inl e46, ?_⟩
      repeat' (first
        | (refine EP.f rfl (FV.catS rfl rfl rfl rfl (by simp only [List.length_append, List.length_cons, List.length_nil]; omega)) rfl rfl ?_))
      refine EP.h rfl rfl (Hv.call (bwString B b _ (dI x.a ++ [32] ++ dI x.b) u6 (hbl4.ext e46) (by simp only [List.length_append, List.length_cons, List.length_nil]; omega) (by have := F4.size; have := e46.size; omega)) rfl) rfl (fun _ => rfl) ?_
      rintro _ u7 ⟨rfl, hbl7, hbe7, hok7⟩
      have F7 : Ext w2 u7 := Below.trans (F4.trans e46) (hBB ▸ hbe7)
      refine ⟨.inr ⟨F7, (Oth.of e46).trans hok7⟩, ?_⟩
      repeat' (first
        | refine EP.nil ?_)
      repeat' (first
        | refine EL.f (FV.move rfl) rfl rfl ?_
        | refine EW.region ?_)
      refine EL.h (Hv.call (bwByte B b _ 10 u7 hbl7 (by simp only [List.length_append, List.length_cons, List.length_nil]; omega) (by have := F7.size; omega)) rfl) rfl (fun _ => rfl) ?_
      rintro _ u8 ⟨rfl, hbl8, hbe8, hok8⟩
      have F8 : Ext w2 u8 := Below.trans F7 (hBB ▸ hbe8)
      repeat' (first
        | refine EL.f (FV.move rfl) rfl rfl ?_
        | refine EL.f (FV.addI rfl rfl (by omega)) rfl rfl ?_
        | refine EL.nil ?_
        | refine EW.region ?_)
      exact ⟨i + 1, ⟨rfl, rfl, rfl, rfl, rfl, trivial⟩, ⟨by omega, by rw [hnx]; exact done _ (by rw [htl]; exact hbl8), F8⟩, by omega⟩
  obtain rfl : i = t.code.length := by omega
  rw [← preG_zero] at hbl
  replace l2 := hE.cell l2
  repeat' (first
    | (show EL _ _ _ _ (_ :: _) _ _
       first
       | (show EL _ _ _ _ (⟨_, .fieldAddr _ _ _, _, _, _, _⟩ :: _) _ _; refine EL.f (FV.fieldAddr rfl rfl rfl rfl rfl) rfl rfl ?_)
       | (show EL _ _ _ _ (⟨_, .load _ _, _, _, _, _⟩ :: _) _ _; refine EL.f (FV.load1 rfl rfl rfl (l2)) rfl rfl ?_)
       | (show EL _ _ _ _ (⟨_, .move _, _, _, _, _⟩ :: _) _ _; refine EL.f (FV.move rfl) rfl rfl ?_)
       | (show EL _ _ _ _ (⟨_, .call _, _, _, _, _⟩ :: _) _ _; refine EL.f (FV.len rfl rfl) rfl rfl ?_)
       | (show EL _ _ _ _ (⟨_, .binOp .lss _ _ _ _, _, _, _, _⟩ :: _) _ _; refine EL.fF (FV.lss rfl rfl) rfl (fun _ => rfl) (by omega) ?_))
    | refine EL.nil ?_
    | refine EW.seq ?_
    | refine EW.region ?_
    | refine EW.block ?_
    | refine EW.exit ?_
    | refine EW.condF rfl ?_)
  refine EW.loop (X := Nat) (fun j wr => j ≤ t.guards.length ∧ BldW B b (preG t j) wr ∧ Ext w2 wr) (fun j => [(1, .pointer (some ⟨g1, 0, none⟩)), (3, .pointer (some ⟨b, 0, none⟩)), (68, .slice Q t.guards.length q), (69, .int .i64 t.guards.length), (70, .int .i64 j)]) (fun j => t.guards.length - j) 0 ⟨Nat.zero_le _, hbl, hE⟩ ⟨rfl, rfl, rfl, rfl, rfl, trivial⟩ ?_
  clear hi hlt hbl hE l2 hWr
  rintro j wr ⟨hj, hbl, hE⟩
  have hWr := hw2.trans hE
  have hpg1 := hpg j
  by_cases hlt : j < t.guards.length
  · obtain ⟨bQ, oQ, rfl, hp⟩ := Rd.elem gdV_length (by decide) dGd (r2.ext hWr) hlt
    have hrg := hgds j hlt
    have hdr := dI_length hrg
    have hlg := lineG_length hrg
    have hnx := preG_next hlt
    generalize t.guards.getD j dGd = x at *
    obtain ⟨rg, zr⟩ := x
    dsimp only at hrg hdr
    repeat' (first
      | refine EL.f (FV.idx rfl rfl rfl rfl (by omega) (by omega)) rfl rfl ?_
      | refine EL.f (FV.loadAgg (cs := gdV ⟨rg, zr⟩) rfl rfl rfl rfl rfl (fun _ e => e ▸ hp)) rfl rfl ?_
      | refine EL.fT (FV.lss rfl rfl) rfl (fun _ => rfl) (by omega) ?_
      | refine EL.nil ?_
      | refine EW.seq ?_
      | refine EW.region ?_
      | refine EW.block ?_
      | refine EW.skip ?_
      | refine EW.condT rfl ?_)
    refine EL.h (Hv.allocA rfl rfl) rfl (fun _ => rfl) ?_
    rintro _ u1 ⟨g5, rfl, hg5, h5, eu1⟩
    skip
    refine EL.h (Hv.storeAggG (vs := gdV ⟨rg, zr⟩) rfl rfl rfl rfl (gdV_one _) h5 (Nat.le_refl _)) rfl (fun _ => rfl) ?_
    rintro _ u2 ⟨h6, hr6⟩
    have hu2 : Ext wr u2 := Below.wr eu1 hr6 (by omega) (Nat.le_refl _)
    have F2 := hE.trans hu2
    cases zr
    · replace h6 : At u2 71 2 g5 1 1 [.int .i64 rg, .bool false] := h6
      repeat' (first
        | (show EL _ _ _ _ (_ :: _) _ _
           first
           | (show EL _ _ _ _ (⟨_, .fieldAddr _ _ _, _, _, _, _⟩ :: _) _ _; refine EL.f (FV.fieldAddr rfl rfl rfl rfl rfl) rfl rfl ?_)
           | (show EL _ _ _ _ (⟨_, .load _ _, _, _, _, _⟩ :: _) _ _; refine EL.f (FV.load1 rfl rfl rfl (At.cell h6 rfl)) rfl rfl ?_)
           | (show EL _ _ _ _ (⟨_, .move _, _, _, _, _⟩ :: _) _ _; refine EL.f (FV.move rfl) rfl rfl ?_)
           | (show EL _ _ _ _ (⟨_, .assign _, _, _, _, _⟩ :: _) _ _; refine EL.f (FV.assign rfl) rfl rfl ?_))
        | refine EL.nil ?_
        | refine EW.seq ?_
        | refine EW.region ?_
        | refine EW.skip ?_
        | refine EW.condF rfl ?_)
      refine EL.h (Hv.call (implNum rg hrg u2 (TabW.ext ht (hw2.trans F2))) rfl) rfl (fun _ => rfl) ?_
      rintro _ u3 ⟨rfl, eu3⟩
      repeat' (first
        | (refine EL.f (FV.catS (l := [111, 116, 104, 101, 114, 32]) rfl rfl rfl rfl (by simp only [List.length_append, List.length_cons, List.length_nil]; omega)) rfl rfl ?_)
        | (refine EL.f (FV.catS (m := [10]) rfl rfl rfl rfl (by simp only [List.length_append, List.length_cons, List.length_nil]; omega)) rfl rfl ?_))
      refine EL.h (Hv.call (bwString B b (preG t j) ([111, 116, 104, 101, 114, 32] ++ dI rg ++ [10]) u3 (hbl.ext (hu2.trans eu3)) (by simp only [List.length_append, List.length_cons, List.length_nil]; omega) (by have := F2.size; have := eu3.size; omega)) rfl) rfl (fun _ => rfl) ?_
      rintro _ u4 ⟨rfl, hbl4, hbe4, hok4⟩
      have F4 : Ext w2 u4 := Below.trans (F2.trans eu3) (hBB ▸ hbe4)
      repeat' (first
        | refine EL.f (FV.move rfl) rfl rfl ?_
        | refine EL.f (FV.addI rfl rfl (by omega)) rfl rfl ?_
        | refine EL.nil ?_
        | refine EW.region ?_)
      exact ⟨j + 1, ⟨rfl, rfl, rfl, rfl, rfl, trivial⟩, ⟨by omega, by rw [hnx]; exact hbl4, F4⟩, by omega⟩
    · replace h6 : At u2 71 2 g5 1 1 [.int .i64 rg, .bool true] := h6
      repeat' (first
        | (show EL _ _ _ _ (_ :: _) _ _
           first
           | (show EL _ _ _ _ (⟨_, .fieldAddr _ _ _, _, _, _, _⟩ :: _) _ _; refine EL.f (FV.fieldAddr rfl rfl rfl rfl rfl) rfl rfl ?_)
           | (show EL _ _ _ _ (⟨_, .load _ _, _, _, _, _⟩ :: _) _ _; refine EL.f (FV.load1 rfl rfl rfl (At.cell h6 rfl)) rfl rfl ?_)
           | (show EL _ _ _ _ (⟨_, .move _, _, _, _, _⟩ :: _) _ _; refine EL.f (FV.move rfl) rfl rfl ?_)
           | (show EL _ _ _ _ (⟨_, .assign _, _, _, _, _⟩ :: _) _ _; refine EL.f (FV.assign rfl) rfl rfl ?_))
        | refine EL.nil ?_
        | refine EW.seq ?_
        | refine EW.region ?_
        | refine EW.condT rfl ?_)
      refine EL.h (Hv.call (implNum rg hrg u2 (TabW.ext ht (hw2.trans F2))) rfl) rfl (fun _ => rfl) ?_
      rintro _ u3 ⟨rfl, eu3⟩
      repeat' (first
        | (refine EL.f (FV.catS (l := [122, 101, 114, 111, 32]) rfl rfl rfl rfl (by simp only [List.length_append, List.length_cons, List.length_nil]; omega)) rfl rfl ?_)
        | (refine EL.f (FV.catS (m := [10]) rfl rfl rfl rfl (by simp only [List.length_append, List.length_cons, List.length_nil]; omega)) rfl rfl ?_))
      refine EL.h (Hv.call (bwString B b (preG t j) ([122, 101, 114, 111, 32] ++ dI rg ++ [10]) u3 (hbl.ext (hu2.trans eu3)) (by simp only [List.length_append, List.length_cons, List.length_nil]; omega) (by have := F2.size; have := eu3.size; omega)) rfl) rfl (fun _ => rfl) ?_
      rintro _ u4 ⟨rfl, hbl4, hbe4, hok4⟩
      have F4 : Ext w2 u4 := Below.trans (F2.trans eu3) (hBB ▸ hbe4)
      repeat' (first
        | refine EL.f (FV.move rfl) rfl rfl ?_
        | refine EL.f (FV.addI rfl rfl (by omega)) rfl rfl ?_
        | refine EL.nil ?_
        | refine EW.region ?_)
      exact ⟨j + 1, ⟨rfl, rfl, rfl, rfl, rfl, trivial⟩, ⟨by omega, by rw [hnx]; exact hbl4, F4⟩, by omega⟩
  obtain rfl : j = t.guards.length := by omega
  have hjl := joinS_le (xs := t.outs) (sep := [32]) houts
  simp only [List.length_cons, List.length_nil] at hjl
  repeat' (first
    | refine EL.fF (FV.lss rfl rfl) rfl (fun _ => rfl) (by omega) ?_
    | refine EL.nil ?_
    | refine EW.seq ?_
    | refine EW.region ?_
    | refine EW.exit ?_
    | refine EW.condF rfl ?_)
  refine EW.draw (fun w' => Ext w2 w') ([(0, true), (3, true), (4, true), (1, false), (2, true), (5, false), (6, true), (7, true), (8, true)]) mixed (by decide +kernel) (hE.trans (Ext.drew _)) ?_
  repeat' (first
    | refine EP.f rfl (FV.fieldAddr rfl rfl rfl rfl rfl) rfl rfl ?_
    | refine EP.f rfl (FV.load rfl rfl rfl (fun w' h' => h'.cell l3)) rfl rfl ?_
    | refine EP.f rfl (FV.move rfl) rfl rfl ?_)
  refine EP.h rfl rfl (Hv.call (bString B b (preG t t.guards.length) _ (hbl.ext (Ext.drew _)) (by have := hE.size; have := (Ext.drew wr).size; omega)) rfl) rfl (fun _ => rfl) ?_
  rintro _ u1 ⟨rfl, hbe1⟩
  have F1 : Ext w2 u1 := Below.trans (hE.trans (Ext.drew wr)) (hBB ▸ hbe1)
  refine ⟨F1, ?_⟩
  repeat' (first
    | (refine EP.f rfl (FV.catS (m := [111, 117, 116, 32]) rfl rfl rfl rfl (by simp only [List.length_append, List.length_cons, List.length_nil]; omega)) rfl rfl ?_))
  refine EP.h rfl rfl (Hv.call (implJoined R r t.outs [32] u1 (r3.ext (hw2.trans F1)) (by omega) houts (by decide) (TabW.ext ht (hw2.trans F1))) rfl) rfl (fun _ => rfl) ?_
  rintro _ u2 ⟨rfl, eu2⟩
  have F2 := F1.trans eu2
  refine ⟨F2, ?_⟩
  repeat' (first
    | (refine EP.f rfl (FV.catS (m := [10]) rfl rfl rfl rfl (by simp only [List.length_append, List.length_cons, List.length_nil]; omega)) rfl rfl ?_)
    | (refine EP.f rfl (FV.catS rfl rfl rfl rfl (by simp only [List.length_append, List.length_cons, List.length_nil]; omega)) rfl rfl ?_)
    | refine EP.nil ?_
    | refine EP.f rfl (FV.assign rfl) rfl rfl ?_)
  repeat' (first
    | refine EW.ret ?_)
  exact ⟨_, rfl, rfl, hw2.trans F2⟩
end Eng
end Go.Proofs.YtogljflccfoaeaaDoor
