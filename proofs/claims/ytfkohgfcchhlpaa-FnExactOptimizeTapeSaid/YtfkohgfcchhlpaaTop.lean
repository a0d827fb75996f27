/- OptimizeTape in the program and in the reference. Conditions: the lengths. -/
import Derived.Test.YtfkohgfcchhlpaaTso
import Derived.Test.YtfkohgfcchhlpaaTsx
import Derived.Test.YtfkohgfcchhlpaaTts
namespace Go.Proofs.Ytfkohgfcchhlpaa
open Go Go.RowKit
namespace Eng
/-- A tape of one's own in cells of one's own. -/
theorem OwnT.inCells {B g : Nat} {w : World} {a b c : Value} {t : Tp} (h1 : w.ownsRow B 65 4 a t.code.length (insL t.code)) (h2 : w.ownsRow B 67 2 b t.guards.length (gdL t.guards)) (h3 : OwnI B w c t.outs) (hat : At w 32 4 g 1 1 [.int .i64 t.inputs, a, b, c]) : TapeP w g 0 t := by
  obtain ⟨A, p, rfl, r1⟩ := own_form h1
  obtain ⟨B', q, rfl, r2⟩ := own_form h2
  obtain ⟨C, r, rfl, r3⟩ := OwnI.form h3
  exact ⟨A, p, B', q, C, r, At.lies hat, r1, r2, r3⟩
set_option maxHeartbeats 4000000 in
theorem implOptimized (v : Value) (t : Tp) (w : World) (h : TapeV w v t) (hf : Fit t) (ok : okT t = true) :
    CallsR Try.prog 113 [v] w fun r w' => OwnT w.heap.size w' r (trimT (shareT (foldT t))) ∧ Ext w w' := by
  have hv := h
  obtain ⟨P, p, Q, q, R, r, rfl, r1, r2, r3⟩ := h
  refine CallsR.enterC Try.func113 (by decide +kernel) rfl Try.ntmps113 rfl rfl rfl rfl rfl ?_
  repeat' (first
    | refine EW.seq ?_
    | refine EW.region ?_)
  refine EL.h (Hv.boxA (sz := 4) rfl rfl) rfl (fun _ => rfl) ?_
  rintro _ w1 ⟨g1, rfl, hg1, hb, he1⟩
  skip
  refine EL.h (Hv.allocA rfl rfl) rfl (fun _ => rfl) ?_
  rintro _ w2 ⟨g2, rfl, hg2, h2, he2⟩
  have s1 := he1.size
  have hw2 := he1.trans he2
  replace hb := At.ext hb he2
  repeat' (first
    | refine EL.f (FV.loadAgg (cs := [.int .i64 t.inputs, .slice P t.code.length p, .slice Q t.guards.length q, .slice R t.outs.length r]) rfl rfl rfl rfl rfl (fun _ e => e ▸ At.lies hb)) rfl rfl ?_
    | refine EL.nil ?_
    | refine EW.seq ?_
    | refine EW.region ?_)
  refine EL.h (Hv.call (implFolded _ t w2 (hv.ext hw2) hf ok) rfl) rfl (fun _ => rfl) ?_
  rintro v3 w3 ⟨hown3, he3⟩
  replace hown3 : OwnT w2.heap.size w3 v3 (foldT t) := hown3
  skip
  refine EL.h (Hv.call (implShared v3 (foldT t) w3 (OwnT.tape hown3) (foldT_fit hf) (foldT_ok ok)) rfl) rfl (fun _ => rfl) ?_
  rintro v4 w4 ⟨hown4, he4⟩
  skip
  refine EL.h (Hv.call (implTrimmed v4 (shareT (foldT t)) w4 (OwnT.tape hown4) (shareT_fit (foldT_fit hf)) (shareT_ok (foldT_ok ok))) rfl) rfl (fun _ => rfl) ?_
  rintro _ w5 ⟨hown5, he5⟩
  replace hown5 : OwnT w4.heap.size w5 _ (trimT (shareT (foldT t))) := hown5
  have e25 := (he3.trans he4).trans he5
  replace h2 := At.ext h2 e25
  have hw5 := hw2.trans e25
  have z4 : w.heap.size ≤ w4.heap.size := (hw2.trans (he3.trans he4)).size
  obtain ⟨a, b, c, rfl, o51, o52, o53⟩ := hown5
  skip
  refine EL.h (Hv.storeAggG (vs := [.int .i64 (trimT (shareT (foldT t))).inputs, a, b, c]) rfl rfl rfl rfl (fun v hv => by simp only [List.mem_cons, List.not_mem_nil, or_false] at hv; rcases hv with rfl | rfl | rfl | rfl; rfl; exact own_one o51 |>.1; exact own_one o52 |>.1; exact own_one o53 |>.1) h2 (Nat.le_refl _)) rfl (fun _ => rfl) ?_
  rintro _ w6 ⟨h6, hr6⟩
  repeat' (first
    | refine EL.nil ?_
    | refine EW.ret ?_)
  exact ⟨g2, 0, [.int .i64 (trimT (shareT (foldT t))).inputs, a, b, c], rfl, rfl, At.lies h6, OwnT.lower (OwnT.box ⟨a, b, c, rfl, o51, o52, o53⟩ h2 hr6) z4, Below.wr hw5 hr6 (by omega) (Nat.le_refl _)⟩

theorem implOptimizeTapeT (v : Value) (t : Tp) (w : World) (h : TapeV w v t) (hf : Fit t) : CallsR Try.prog 57 [v] w (TapOut w (fOptimizeTape t)) := by
  have hv := h
  obtain ⟨P, p, Q, q, R, r, rfl, r1, r2, r3⟩ := h
  refine CallsR.enterCT Try.func57 (by decide +kernel) rfl Try.ntmps57 rfl rfl rfl rfl rfl ?_
  repeat' (first
    | refine EW.seq ?_
    | refine EW.region ?_)
  refine EL.h (Hv.boxA (sz := 4) rfl rfl) rfl (fun _ => rfl) ?_
  rintro _ w1 ⟨g1, rfl, hg1, hb, he1⟩
  skip
  refine EL.h (Hv.allocA rfl rfl) rfl (fun _ => rfl) ?_
  rintro _ w2 ⟨g2, rfl, hg2, h2, he2⟩
  have s1 := he1.size
  have hw2 := he1.trans he2
  replace hb := At.ext hb he2
  repeat' (first
    | refine EL.f (FV.loadAgg (cs := [.int .i64 t.inputs, .slice P t.code.length p, .slice Q t.guards.length q, .slice R t.outs.length r]) rfl rfl rfl rfl rfl (fun _ e => e ▸ At.lies hb)) rfl rfl ?_
    | refine EL.f (FV.assign rfl) rfl rfl ?_
    | refine EL.nil ?_
    | refine EW.seq ?_
    | refine EW.region ?_)
  refine EL.h (Hv.call (implShorter _ t _ (fun t => trimT (shareT (foldT t))) w2 (hv.ext hw2) hf (fun ok v' w' hv' => implOptimized v' t w' hv' hf ok)) rfl) rfl (fun _ => rfl) ?_
  rintro _ w3 ⟨tv, rfl, hown, he3⟩
  replace h2 := At.ext h2 he3
  replace hown : OwnT w2.heap.size w3 tv (fOptimizeTape t).1 := hown
  have ones := OwnT.ones hown
  obtain ⟨a, b, c, e⟩ := OwnT.cells hown
  have one := ones _ _ _ e
  subst e
  repeat' (first
    | refine EL.f (FV.extract rfl rfl) rfl rfl ?_)
  refine EL.h (Hv.storeAggG (vs := [.int .i64 (fOptimizeTape t).1.inputs, a, b, c]) rfl rfl rfl rfl (fun v hv => by simp only [List.mem_cons, List.not_mem_nil, or_false] at hv; rcases hv with rfl | rfl | rfl | rfl; rfl; exact one.1; exact one.2.1; exact one.2.2) h2 (Nat.le_refl _)) rfl (fun _ => rfl) ?_
  rintro _ w5 ⟨h5, hr5⟩
  repeat' (first
    | refine EL.f (FV.assign rfl) rfl rfl ?_
    | refine EL.nil ?_
    | refine EW.ret ?_)
  exact ⟨g2, 0, [.int .i64 (fOptimizeTape t).1.inputs, a, b, c], _, rfl, rfl, At.lies h5, rfl, _, rfl, OwnT.lower (OwnT.box hown h2 hr5) hw2.size, Below.wr (hw2.trans he3) hr5 (by omega) (Nat.le_refl _)⟩
theorem specOptimizeTapeT (v : Value) (t : Tp) (w : World) (h : TapeV w v t) (hf : Fit t) : CallsR Try.prog 56 [v] w (TapOut w (fOptimizeTape t)) := by
  obtain ⟨P, p, Q, q, R, r, rfl, r1, r2, r3⟩ := h
  refine CallsR.enterCT Try.func56 (by decide +kernel) rfl Try.ntmps56 rfl rfl rfl rfl rfl ?_
  repeat' (first
    | refine EW.seq ?_
    | refine EW.region ?_)
  refine EL.h (Hv.boxA (sz := 4) rfl rfl) rfl (fun _ => rfl) ?_
  rintro _ w1 ⟨g1, rfl, hg1, hb, he1⟩
  have tp1 : TapeP w1 g1 0 t := ⟨P, p, Q, q, R, r, At.lies hb, r1.ext he1, r2.ext he1, r3.ext he1⟩
  skip
  refine EL.h (Hv.allocA rfl rfl) rfl (fun _ => rfl) ?_
  rintro _ w2 ⟨g2, rfl, hg2, h2, he2⟩
  have s1 := he1.size
  repeat' (first
    | refine EL.f (FV.assign rfl) rfl rfl ?_
    | refine EL.nil ?_
    | refine EW.seq ?_
    | refine EW.region ?_)
  refine EL.h (Hv.call (specOkT g1 0 t w2 (tp1.ext he2) hf) rfl) rfl (fun _ => rfl) ?_
  rintro _ w3 ⟨rfl, he3⟩
  have hw3 := (he1.trans he2).trans he3
  replace h2 := At.ext h2 he3
  unfold fOptimizeTape
  cases ok : okT t
  · repeat' (first
      | refine EL.f (FV.not rfl) rfl rfl ?_
      | refine EL.nil ?_
      | refine EL.f FV.buildT0 rfl rfl ?_
      | refine EW.seq ?_
      | refine EW.region ?_
      | refine EW.condT rfl ?_)
    refine EL.h (Hv.storeAggG (vs := [.int .i64 0, .slice none 0 0, .slice none 0 0, .slice none 0 0]) rfl rfl rfl rfl (fun v hv => by simp only [List.mem_cons, List.not_mem_nil, or_false] at hv; rcases hv with rfl | rfl | rfl | rfl <;> rfl) h2 (Nat.le_refl _)) rfl (fun _ => rfl) ?_
    rintro _ w4 ⟨h4, hr4⟩
    repeat' (first
      | refine EL.f (FV.assign rfl) rfl rfl ?_
      | refine EL.nil ?_
      | refine EW.ret ?_)
    exact ⟨g2, 0, [.int .i64 0, .slice none 0 0, .slice none 0 0, .slice none 0 0], _, rfl, rfl, At.lies h4, rfl, _, rfl, OwnT.empty _ _, Below.wr hw3 hr4 (by omega) (Nat.le_refl _)⟩
  · rw [if_pos rfl]
    repeat' (first
      | refine EL.f (FV.not rfl) rfl rfl ?_
      | refine EL.nil ?_
      | refine EW.seq ?_
      | refine EW.region ?_
      | refine EW.skip ?_
      | refine EW.condF rfl ?_)
    refine EL.h (Hv.call (specFold g1 0 t w3 ((tp1.ext he2).ext he3) hf ok) rfl) rfl (fun _ => rfl) ?_
    rintro _ v4 ⟨⟨a4, b4, d4, rfl, o41, o42, o43⟩, c4⟩
    skip
    refine EL.h (Hv.allocA rfl rfl) rfl (fun _ => rfl) ?_
    rintro _ v41 ⟨g4, rfl, hg4, k40, c41⟩
    skip
    refine EL.h (Hv.storeAggG (vs := [.int .i64 (foldT t).inputs, a4, b4, d4]) rfl rfl rfl rfl (fun v hv => by simp only [List.mem_cons, List.not_mem_nil, or_false] at hv; rcases hv with rfl | rfl | rfl | rfl; rfl; exact own_one o41 |>.1; exact own_one o42 |>.1; exact own_one o43 |>.1) k40 (Nat.le_refl _)) rfl (fun _ => rfl) ?_
    rintro _ v42 ⟨k41, c42⟩
    have e42 : Ext v4 v42 := Below.wr c41 c42 (by omega) (Nat.le_refl _)
    have k4 : At v42 32 4 g4 1 1 [.int .i64 (foldT t).inputs, a4, b4, d4] := k41
    have p4 := OwnT.inCells (t := foldT t) (own_ext o41 e42) (own_ext o42 e42) (OwnI.ext o43 e42) k4
    repeat' (first
      | refine EL.nil ?_
      | refine EW.seq ?_
      | refine EW.region ?_)
    refine EL.h (Hv.call (specShare g4 0 (foldT t) v42 p4 (foldT_fit hf) (foldT_ok ok)) rfl) rfl (fun _ => rfl) ?_
    rintro _ v5 ⟨⟨a5, b5, d5, rfl, o51, o52, o53⟩, c5⟩
    skip
    refine EL.h (Hv.allocA rfl rfl) rfl (fun _ => rfl) ?_
    rintro _ v51 ⟨g5, rfl, hg5, k50, c51⟩
    skip
    refine EL.h (Hv.storeAggG (vs := [.int .i64 (shareT (foldT t)).inputs, a5, b5, d5]) rfl rfl rfl rfl (fun v hv => by simp only [List.mem_cons, List.not_mem_nil, or_false] at hv; rcases hv with rfl | rfl | rfl | rfl; rfl; exact own_one o51 |>.1; exact own_one o52 |>.1; exact own_one o53 |>.1) k50 (Nat.le_refl _)) rfl (fun _ => rfl) ?_
    rintro _ v52 ⟨k51, c52⟩
    have e52 : Ext v5 v52 := Below.wr c51 c52 (by omega) (Nat.le_refl _)
    have k5 : At v52 32 4 g5 1 1 [.int .i64 (shareT (foldT t)).inputs, a5, b5, d5] := k51
    have p5 := OwnT.inCells (t := shareT (foldT t)) (own_ext o51 e52) (own_ext o52 e52) (OwnI.ext o53 e52) k5
    repeat' (first
      | refine EL.nil ?_
      | refine EW.seq ?_
      | refine EW.region ?_)
    refine EL.h (Hv.call (specTrim g5 0 (shareT (foldT t)) v52 p5 (shareT_fit (foldT_fit hf)) (shareT_ok (foldT_ok ok))) rfl) rfl (fun _ => rfl) ?_
    rintro _ v6 ⟨⟨a6, b6, d6, rfl, o61, o62, o63⟩, c6⟩
    have e36 := (((c4.trans e42).trans c5).trans e52).trans c6
    have zv : w.heap.size ≤ v52.heap.size := (hw3.trans (((c4.trans e42).trans c5).trans e52)).size
    replace h2 := At.ext h2 e36
    skip
    refine EL.h (Hv.storeAggG (vs := [.int .i64 (trimT (shareT (foldT t))).inputs, a6, b6, d6]) rfl rfl rfl rfl (fun v hv => by simp only [List.mem_cons, List.not_mem_nil, or_false] at hv; rcases hv with rfl | rfl | rfl | rfl; rfl; exact own_one o61 |>.1; exact own_one o62 |>.1; exact own_one o63 |>.1) h2 (Nat.le_refl _)) rfl (fun _ => rfl) ?_
    rintro _ v7 ⟨h5, hr5⟩
    repeat' (first
      | refine EL.f (FV.assign rfl) rfl rfl ?_
      | refine EL.nil ?_
      | refine EW.ret ?_)
    exact ⟨g2, 0, [.int .i64 (trimT (shareT (foldT t))).inputs, a6, b6, d6], _, rfl, rfl, At.lies h5, rfl, _, rfl, OwnT.lower (OwnT.box ⟨a6, b6, d6, rfl, o61, o62, o63⟩ h2 hr5) zv, Below.wr (hw3.trans e36) hr5 (by omega) (Nat.le_refl _)⟩
end Eng
end Go.Proofs.Ytfkohgfcchhlpaa
