/- ShareTape in the program. Conditions: the lengths. -/
import Derived.Test.YtfkohgfcchhlpaaTsm
namespace Go.Proofs.Ytfkohgfcchhlpaa
open Go Go.RowKit
namespace Eng
theorem ordI_swap {x : Ins} (o : x.op = 3 ∨ x.op = 5) (h : x.b < x.a) : ordI x = ⟨x.op, x.b, x.a, x.num⟩ := if_pos ⟨o, h⟩
theorem ordI_keep {x : Ins} (h : ¬ ((x.op = 3 ∨ x.op = 5) ∧ x.b < x.a)) : ordI x = x := if_neg h
theorem gdL_snoc1 (xs : List Gd) (x : Gd) : gdL (xs ++ [x]) = gdL xs ++ gdV x := by simp [gdL]
set_option maxHeartbeats 16000000 in
theorem implShared (v : Value) (t : Tp) (w : World) (h : TapeV w v t) (hf : Fit t) (ok : okT t = true) :
    CallsR Try.prog 82 [v] w fun r w' => OwnT w.heap.size w' r (shareT t) ∧ Ext w w' := by
  have hv := h
  obtain ⟨P, p, Q, q, R, r, rfl, r1, r2, r3⟩ := h
  have okc := (okT_iff.1 ok).2.2.2.2.1
  have hcl := (okT_iff.1 ok).2.1
  have hgl := (okT_iff.1 ok).2.2.1
  have hgu := (okT_iff.1 ok).2.2.2.2.2.1
  have hou := (okT_iff.1 ok).2.2.2.2.2.2
  refine CallsR.enterC Try.func82 (by decide +kernel) rfl Try.ntmps82 rfl rfl rfl rfl rfl ?_
  repeat' (first
    | refine EW.seq ?_
    | refine EW.region ?_)
  refine EL.h (Hv.boxA (sz := 4) rfl rfl) rfl (fun _ => rfl) ?_
  rintro _ w1 ⟨g1, rfl, hg1, hb, he1⟩
  skip
  refine EL.h (Hv.allocA rfl rfl) rfl (fun _ => rfl) ?_
  rintro _ w2 ⟨g2, rfl, hg2, h2, he2⟩
  have l1 := At.lt hb
  have s1 := he1.size
  have s2 := he2.size
  repeat' (first
    | refine EL.nil ?_
    | refine EW.seq ?_
    | refine EW.region ?_)
  refine EL.h (Hv.build0 rfl rfl) rfl (fun _ => rfl) ?_
  rintro s3 w3 ⟨ho3, he3⟩
  skip
  refine EL.h (Hv.build0 rfl rfl) rfl (fun _ => rfl) ?_
  rintro s4 w4 ⟨ho4, he4⟩
  skip
  refine EL.h Hv.makeM rfl (fun _ => rfl) ?_
  rintro _ w5 ⟨m, rfl, hm5, hm, he5⟩
  have z3 := he3.size
  have z4 := he4.size
  have e25 := (he3.trans he4).trans he5
  have hw5 := (he1.trans he2).trans e25
  replace hb := At.ext hb (he2.trans e25)
  replace h2 := At.ext h2 e25
  have n12 : g1 ≠ g2 := by omega
  have hg2w : w.heap.size ≤ g2 := by omega
  have hmw : w.heap.size ≤ m := by omega
  repeat' (first
    | (show EL _ _ _ _ (_ :: _) _ _
       first
       | (show EL _ _ _ _ (⟨_, .fieldAddr _ _ _, _, _, _, _⟩ :: _) _ _; refine EL.f (FV.fieldAddr rfl rfl rfl rfl rfl) rfl rfl ?_)
       | (show EL _ _ _ _ (⟨_, .load _ _, _, _, _, _⟩ :: _) _ _; refine EL.f (FV.load1 rfl rfl rfl (At.cell hb rfl)) rfl rfl ?_)
       | (show EL _ _ _ _ (⟨_, .move _, _, _, _, _⟩ :: _) _ _; refine EL.f (FV.move rfl) rfl rfl ?_)
       | (show EL _ _ _ _ (⟨_, .assign _, _, _, _, _⟩ :: _) _ _; refine EL.f (FV.assign rfl) rfl rfl ?_)
       | (show EL _ _ _ _ (⟨_, .call _, _, _, _, _⟩ :: _) _ _; refine EL.f (FV.len rfl rfl) rfl rfl ?_))
    | refine EL.nil ?_
    | refine EW.seq ?_
    | refine EW.region ?_
    | refine EW.block ?_)
  refine EW.loop (X := Nat × Value × Value) (fun y wr => y.1 ≤ t.code.length ∧ wr.ownsRow w.heap.size 65 4 y.2.1 (shC t y.1).1.length (insL (shC t y.1).1) ∧ OwnI w.heap.size wr y.2.2 (shC t y.1).2 ∧ MapAt wr m (shC t y.1).1 ∧ At wr 32 4 g1 1 1 [.int .i64 t.inputs, .slice P t.code.length p, .slice Q t.guards.length q, .slice R t.outs.length r] ∧ At wr 32 4 g2 1 1 [.int .i64 0, .slice none 0 0, .slice none 0 0, .slice none 0 0] ∧ Ext w wr) (fun y => [(1, .pointer (some ⟨g1, 0, none⟩)), (2, .pointer (some ⟨g2, 0, none⟩)), (3, y.2.1), (4, y.2.2), (5, .map (some m)), (19, .slice P t.code.length p), (20, .int .i64 t.code.length), (21, .int .i64 y.1)]) (fun y => t.code.length - y.1) (0, s3, s4) ⟨Nat.zero_le _, own_lower (own_ext ho3 (he4.trans he5)) (by omega), OwnI.lower (own_ext ho4 he5) (by omega), hm, hb, h2, hw5⟩ ⟨rfl, rfl, rfl, rfl, rfl, rfl, rfl, rfl, trivial⟩ ?_
  clear hb h2 hw5 hm ho3 ho4
  rintro ⟨k, s3, s4⟩ wr ⟨hk, hs3, hs4, hm, hb, h2, he⟩
  dsimp only at *
  have hlen := shC_len t k
  by_cases hlt : k < t.code.length
  rotate_left
  · obtain rfl : k = t.code.length := by omega
    obtain ⟨A4, c4, rfl, hr4⟩ := OwnI.form hs4
    have hend := implEnded _ t s3 (shC t t.code.length).1 A4 c4 (shC t t.code.length).2 w.heap.size wr hf hs3 he.size hr4 (fun i hi => by rw [hlen.1]; exact hgu i hi) (fun i hi => by rw [hlen.1]; exact hou i hi) (hv.ext he)
    repeat' (first
      | refine EL.f (FV.loadAgg (cs := [.int .i64 t.inputs, .slice P t.code.length p, .slice Q t.guards.length q, .slice R t.outs.length r]) rfl rfl rfl rfl rfl (fun _ e => e ▸ At.lies hb)) rfl rfl ?_
      | refine EL.f (FV.move rfl) rfl rfl ?_
      | refine EL.fF (FV.lss rfl rfl) rfl (fun _ => rfl) (by omega) ?_
      | refine EL.nil ?_
      | refine EW.seq ?_
      | refine EW.region ?_
      | refine EW.exit ?_
      | refine EW.condF rfl ?_)
    refine EL.h (Hv.call hend rfl) rfl (fun _ => rfl) ?_
    rintro tv w6 ⟨⟨a, b, c, rfl, oa, ob, oc⟩, he6⟩
    have one1 := own_one oa
    have one2 := own_one ob
    have one3 := own_one oc
    have hw6 := he.trans he6
    skip
    refine EL.h (Hv.allocA rfl rfl) rfl (fun _ => rfl) ?_
    rintro _ w7 ⟨g11, rfl, hg11, h7, he7⟩
    skip
    refine EL.h (Hv.storeAggG (vs := [.int .i64 t.inputs, a, b, c]) rfl rfl rfl rfl (fun v hv => by simp only [List.mem_cons, List.not_mem_nil, or_false] at hv; rcases hv with rfl | rfl | rfl | rfl; rfl; exact one1.1; exact one2.1; exact one3.1) h7 (Nat.le_refl _)) rfl (fun _ => rfl) ?_
    rintro _ w8 ⟨h8', hr8⟩
    have e68 : Ext w6 w8 := Below.wr he7 hr8 (by omega) (Nat.le_refl _)
    have h8 : At w8 32 4 g11 1 1 [.int .i64 t.inputs, a, b, c] := h8'
    clear h8'
    have n211 : g2 ≠ g11 := by have := At.lt h2; have := he6.size; omega
    replace oa := own_ext oa e68
    replace ob := own_ext ob e68
    replace oc := OwnI.ext oc e68
    replace h2 := At.ext h2 (he6.trans e68)
    have hw8 := hw6.trans e68
    have zw6 := hw6.size
    have hg11w : w.heap.size ≤ g11 := by omega
    have zw8 := hw8.size
    clear h7 hr8 hb hm hs3 hs4 hend hr4 he6 he7 e68 hw6 he
    simp only [endT] at oa ob oc
    have hgl' := gdsTo_length t (shC t t.code.length).2 t.guards.length
    show EL _ _ _ _ _ _ _
    unfold shareT
    generalize gdsTo t (shC t t.code.length).2 t.guards.length = gs at *
    obtain ⟨A5, c5, rfl, hr5⟩ := own_form ob
    rw [hgl'] at h8
    repeat' (first
      | refine EL.nil ?_
      | refine EW.seq ?_
      | refine EW.region ?_)
    refine EL.h (Hv.build0 rfl rfl) rfl (fun _ => rfl) ?_
    rintro s12 w9 ⟨ho9, he9⟩
    have h89 := At.ext h8 he9
    rw [hgl']
    repeat' (first
      | (show EL _ _ _ _ (_ :: _) _ _
         first
         | (show EL _ _ _ _ (⟨_, .fieldAddr _ _ _, _, _, _, _⟩ :: _) _ _; refine EL.f (FV.fieldAddr rfl rfl rfl rfl rfl) rfl rfl ?_)
         | (show EL _ _ _ _ (⟨_, .load _ _, _, _, _, _⟩ :: _) _ _; refine EL.f (FV.load1 rfl rfl rfl (At.cell h89 rfl)) rfl rfl ?_)
         | (show EL _ _ _ _ (⟨_, .move _, _, _, _, _⟩ :: _) _ _; refine EL.f (FV.move rfl) rfl rfl ?_)
         | (show EL _ _ _ _ (⟨_, .assign _, _, _, _, _⟩ :: _) _ _; refine EL.f (FV.assign rfl) rfl rfl ?_)
         | (show EL _ _ _ _ (⟨_, .call _, _, _, _, _⟩ :: _) _ _; refine EL.f (FV.len rfl rfl) rfl rfl ?_))
      | refine EL.nil ?_
      | refine EW.seq ?_
      | refine EW.region ?_
      | refine EW.block ?_)
    refine EW.loop (X := Nat × Value) (fun y wt => y.1 ≤ t.guards.length ∧ wt.ownsRow w8.heap.size 67 2 y.2 (ddG gs y.1).length (gdL (ddG gs y.1)) ∧ Ext w8 wt) (fun y => [(2, .pointer (some ⟨g2, 0, none⟩)), (11, .pointer (some ⟨g11, 0, none⟩)), (12, y.2), (77, .slice A5 t.guards.length c5), (78, .int .i64 t.guards.length), (79, .int .i64 y.1)]) (fun y => t.guards.length - y.1) (0, s12) ⟨Nat.zero_le _, ho9, he9⟩ ⟨rfl, rfl, rfl, rfl, rfl, rfl, trivial⟩ ?_
    clear ho9 h89 he9
    rintro ⟨j, s12⟩ wt ⟨hj, ho12, he12⟩
    dsimp only at *
    have hdl := ddG_len gs j
    by_cases hjt : j < t.guards.length
    · obtain ⟨x1, p1, rfl, hp⟩ := Rd.elem gdV_length (by decide) dGd (hr5.ext he12) (show j < gs.length by omega)
      have hD : ddG gs (j + 1) = addN (ddG gs j) (gs.getD j dGd) := rfl
      generalize gs.getD j dGd = x at *
      generalize ddG gs j = ds at *
      repeat' (first
        | refine EL.f (FV.idx rfl rfl rfl rfl (by omega) (by omega)) rfl rfl ?_
        | refine EL.f (FV.loadAgg (cs := gdV x) rfl rfl rfl rfl rfl (fun _ e => e ▸ hp)) rfl rfl ?_
        | refine EL.fT (FV.lss rfl rfl) rfl (fun _ => rfl) (by omega) ?_
        | refine EL.nil ?_
        | refine EW.seq ?_
        | refine EW.region ?_
        | refine EW.block ?_
        | refine EW.skip ?_
        | refine EW.condT rfl ?_)
      refine EL.h (Hv.allocA rfl rfl) rfl (fun _ => rfl) ?_
      rintro _ u1 ⟨g14, rfl, hg14, h14, eu1⟩
      skip
      refine EL.h (Hv.storeAggG (vs := gdV x) rfl rfl rfl rfl (gdV_one _) h14 (Nat.le_refl _)) rfl (fun _ => rfl) ?_
      rintro _ u2 ⟨h14', hr14⟩
      have eu2 : Ext wt u2 := Below.wr eu1 hr14 (by omega) (Nat.le_refl _)
      clear h14
      have h14 : At u2 67 2 g14 1 1 (gdV x) := h14'
      clear h14'
      obtain ⟨A12, c12, rfl, hr12⟩ := own_form ho12
      repeat' (first
        | refine EL.f (FV.loadAgg (cs := gdV x) rfl rfl rfl rfl rfl (fun _ e => e ▸ At.lies h14)) rfl rfl ?_
        | refine EL.f (FV.move rfl) rfl rfl ?_
        | refine EL.nil ?_
        | refine EW.seq ?_
        | refine EW.region ?_)
      refine EL.h (Hv.call (implContainsG A12 c12 ds x u2 (hr12.ext eu2) (by omega)) rfl) rfl (fun _ => rfl) ?_
      rintro _ u3 ⟨rfl, eu3⟩
      have e13 := eu2.trans eu3
      by_cases hin : x ∈ ds
      · rw [decide_eq_true hin]
        repeat' (first
          | refine EL.f (FV.move rfl) rfl rfl ?_
          | refine EL.f (FV.addI rfl rfl (by omega)) rfl rfl ?_
          | refine EL.f (FV.not rfl) rfl rfl ?_
          | refine EL.nil ?_
          | refine EW.region ?_
          | refine EW.skip ?_
          | refine EW.condF rfl ?_)
        exact ⟨(j + 1, _), ⟨rfl, rfl, rfl, rfl, rfl, rfl, trivial⟩, ⟨by dsimp only; omega, by rw [hD, addN_in hin]; exact own_ext ho12 e13, he12.trans e13⟩, by dsimp only; omega⟩
      · rw [decide_eq_false hin]
        repeat' (first
          | refine EL.f (FV.loadAgg (cs := gdV x) rfl rfl rfl rfl rfl (fun _ e => e ▸ At.lies (At.ext h14 eu3))) rfl rfl ?_
          | refine EL.f (FV.move rfl) rfl rfl ?_
          | refine EL.f (FV.not rfl) rfl rfl ?_
          | refine EL.nil ?_
          | refine EW.region ?_
          | refine EW.condT rfl ?_)
        refine EL.h (Hv.buildGds (y := x) rfl) rfl (fun _ => rfl) ?_
        rintro _ u4 ⟨gq, rfl, hq, hgq, eu4⟩
        have e14 := e13.trans eu4
        skip
        refine EL.h (Hv.appendG (B := w8.heap.size) (us := gdV x) rfl rfl rfl rfl rfl rfl (own_ext ho12 e14) (gdV_length _) (fun j u hj => At.cell hq hj) (gdV_one _) (by omega) (by omega) (he12.trans e14).size) rfl (fun _ => rfl) ?_
        rintro v12 u5 ⟨own12, gr12, bl12, _⟩
        repeat' (first
          | refine EL.f (FV.move rfl) rfl rfl ?_
          | refine EL.f (FV.assign rfl) rfl rfl ?_
          | refine EL.f (FV.addI rfl rfl (by omega)) rfl rfl ?_
          | refine EL.nil ?_
          | refine EW.region ?_)
        exact ⟨(j + 1, v12), ⟨rfl, rfl, rfl, rfl, rfl, rfl, trivial⟩, ⟨by dsimp only; omega, by rw [hD, addN_out hin, gdL_snoc1]; simp only [List.length_append]; exact own12, Ext.after (he12.trans e14) bl12⟩, by dsimp only; omega⟩
    · obtain rfl : j = t.guards.length := by omega
      replace h8 := At.ext h8 he12
      replace h2 := At.ext h2 he12
      have one12 := own_one ho12
      have heU := hw8.trans he12
      have z12 := he12.size
      repeat' (first
        | refine EL.f (FV.fieldAddr rfl rfl rfl rfl rfl) rfl rfl ?_
        | refine EL.f (FV.move rfl) rfl rfl ?_
        | refine EL.fF (FV.lss rfl rfl) rfl (fun _ => rfl) (by omega) ?_
        | refine EL.nil ?_
        | refine EW.seq ?_
        | refine EW.region ?_
        | refine EW.exit ?_
        | refine EW.condF rfl ?_)
      refine EL.h (Hv.storeG rfl rfl rfl one12.1 one12.2 h8 rfl) rfl (fun _ => rfl) ?_
      rintro _ u1 ⟨h11, hr11⟩
      replace h11 : At u1 32 4 g11 1 1 [.int .i64 t.inputs, a, s12, c] := h11
      have oa1 := own_box (own_ext oa he12) h8 (by decide) hr11
      have oc1 := own_box (OwnI.ext oc he12) h8 (by decide) hr11
      have o12 := own_box ho12 h8 (by decide) hr11
      have h21 := At.kept h2 hr11 (by simp; exact n211)
      have heV : Ext w u1 := Below.wr heU hr11 hg11w (Nat.le_refl _)
      repeat' (first
        | refine EL.f (FV.loadAgg (cs := [.int .i64 t.inputs, a, s12, c]) rfl rfl rfl rfl rfl (fun _ e => e ▸ At.lies h11)) rfl rfl ?_
        | refine EL.nil ?_
        | refine EW.seq ?_
        | refine EW.region ?_)
      refine EL.h (Hv.storeAggG (vs := [.int .i64 t.inputs, a, s12, c]) rfl rfl rfl rfl (fun v hv => by simp only [List.mem_cons, List.not_mem_nil, or_false] at hv; rcases hv with rfl | rfl | rfl | rfl; rfl; exact one1.1; exact one12.1; exact one3.1) h21 (Nat.le_refl _)) rfl (fun _ => rfl) ?_
      rintro _ u2 ⟨h22, hr22⟩
      repeat' (first
        | refine EL.nil ?_
        | refine EW.ret ?_)
      exact ⟨g2, 0, [.int .i64 t.inputs, a, s12, c], rfl, rfl, At.lies h22, ⟨_, _, _, rfl, own_box oa1 h21 (by decide) hr22, own_lower (own_box o12 h21 (by decide) hr22) zw8, own_box oc1 h21 (by decide) hr22⟩, Below.wr heV hr22 hg2w (Nat.le_refl _)⟩

  obtain ⟨x1, p1, rfl, hp0⟩ := Rd.elem insV_length (by decide) dIns r1 hlt
  have hp := hp0.ext he
  clear hp0
  have okk := okc k hlt
  have hop := okI_op okk
  have hC : (shC t (k + 1)).1 = addN (shC t k).1 (ordI (mvI (t.code.getD k dIns) (shC t k).2)) := rfl
  have hT : (shC t (k + 1)).2 = (shC t k).2 ++ [((shC t k).1.idxOf (ordI (mvI (t.code.getD k dIns) (shC t k).2)) : Int)] := rfl
  generalize t.code.getD k dIns = x at *
  generalize (shC t k).1 = code at *
  generalize (shC t k).2 = to at *
  obtain ⟨htl, hcl'⟩ := hlen
  obtain ⟨A4, c4, rfl, hr4⟩ := OwnI.form hs4
  repeat' (first
    | refine EL.fT (FV.lss rfl rfl) rfl (fun _ => rfl) (by omega) ?_
    | refine EL.nil ?_
    | refine EW.seq ?_
    | refine EW.region ?_
    | refine EW.skip ?_
    | refine EW.condT rfl ?_)
  refine EW.block ?_
  refine EW.seq3 (fun ρ' w' => ∃ g8, Sub [(1, .pointer (some ⟨g1, 0, none⟩)), (2, .pointer (some ⟨g2, 0, none⟩)), (3, s3), (4, .slice A4 to.length c4), (5, .map (some m)), (19, .slice (some ⟨x1, p1, none⟩) t.code.length p), (20, .int .i64 t.code.length), (21, .int .i64 k), (8, .pointer (some ⟨g8, 0, none⟩))] ρ' ∧ At w' 65 4 g8 1 1 (insV (ordI (mvI x to))) ∧ w'.ownsRow w.heap.size 65 4 s3 code.length (insL code) ∧ OwnI w.heap.size w' (.slice A4 to.length c4) to ∧ MapAt w' m code ∧ At w' 32 4 g1 1 1 [.int .i64 t.inputs, .slice (some ⟨x1, p1, none⟩) t.code.length p, .slice Q t.guards.length q, .slice R t.outs.length r] ∧ At w' 32 4 g2 1 1 [.int .i64 0, .slice none 0 0, .slice none 0 0, .slice none 0 0] ∧ Ext w w' ∧ some g8 ≠ s3.ownBlock) ?_ ?_
  · repeat' (first
      | refine EL.f (FV.idx rfl rfl rfl rfl (by omega) (by omega)) rfl rfl ?_
      | refine EL.f (FV.loadAgg (cs := insV x) rfl rfl rfl rfl rfl (fun _ e => e ▸ hp)) rfl rfl ?_
      | refine EW.region ?_)
    refine EL.h (Hv.allocA rfl rfl) rfl (fun _ => rfl) ?_
    rintro _ w5 ⟨g7, rfl, hg7, h7, he5⟩
    skip
    refine EL.h (Hv.storeAggG (vs := insV x) rfl rfl rfl rfl (insV_one _) h7 (Nat.le_refl _)) rfl (fun _ => rfl) ?_
    rintro _ w6 ⟨h7', hr6⟩
    have e6 : Ext wr w6 := Below.wr he5 hr6 (by omega) (Nat.le_refl _)
    replace h7' : At w6 65 4 g7 1 1 (insV x) := h7'
    have hmv := implMoved x A4 c4 to w6 hop (hr4.ext e6) (fun h3 => by have := mv_reg okk h3; omega) (fun h3 => by have := (okI_bin okk (by omega)).2; omega)
    repeat' (first
      | refine EL.f (FV.loadAgg (cs := insV x) rfl rfl rfl rfl rfl (fun _ e => e ▸ At.lies h7')) rfl rfl ?_
      | refine EL.f (FV.move rfl) rfl rfl ?_
      | refine EL.nil ?_
      | refine EW.region ?_)
    refine EL.h (Hv.call hmv rfl) rfl (fun _ => rfl) ?_
    rintro _ w7 ⟨rfl, he7⟩
    skip
    refine EL.h (Hv.allocA rfl rfl) rfl (fun _ => rfl) ?_
    rintro _ w8 ⟨g8, rfl, hg8, h8, he8⟩
    skip
    refine EL.h (Hv.storeAggG (vs := insV (mvI x to)) rfl rfl rfl rfl (insV_one _) h8 (Nat.le_refl _)) rfl (fun _ => rfl) ?_
    rintro _ w9 ⟨h8', hr9⟩
    have e67 := e6.trans he7
    have e9 : Ext wr w9 := e67.trans (Below.wr he8 hr9 (by omega) (Nat.le_refl _))
    replace h8' : At w9 65 4 g8 1 1 (insV (mvI x to)) := h8'
    have z67 := e67.size
    have ap8 : some g8 ≠ s3.ownBlock := fun e => by have := (own_block hs3 e.symm).2; omega
    have hg8w : w.heap.size ≤ g8 := by have := he.size; omega
    replace hs3 := own_ext hs3 e9
    replace hs4 := OwnI.ext hs4 e9
    replace hm := MapAt.ext hm e9
    replace hb := At.ext hb e9
    replace h2 := At.ext h2 e9
    replace he := he.trans e9
    clear h8 h7 h7' hr9 he8 he7 e67 e9 e6 hmv hr4 hr6 he5 hC hT
    generalize mvI x to = y at *
    by_cases hc : (y.op = 3 ∨ y.op = 5) ∧ y.b < y.a
    rotate_left
    · have hk' := ordI_keep hc
      by_cases o3 : y.op = 3
      · have hba : ¬ y.b < y.a := fun q => hc ⟨.inl o3, q⟩
        repeat' (first
          | (show EL _ _ _ _ (_ :: _) _ _
             first
             | (show EL _ _ _ _ (⟨_, _, _, _, _, some _⟩ :: _) _ _; refine EL.skip rfl rfl ?_)
             | (show EL _ _ _ _ (⟨_, .fieldAddr _ _ _, _, _, _, _⟩ :: _) _ _; refine EL.f (FV.fieldAddr rfl rfl rfl rfl rfl) rfl rfl ?_)
             | (show EL _ _ _ _ (⟨_, .load _ _, _, _, _, _⟩ :: _) _ _; refine EL.f (FV.load1 rfl rfl rfl (At.cell h8' rfl)) rfl rfl ?_)
             | (show EL _ _ _ _ (⟨_, .move _, _, _, _, _⟩ :: _) _ _; refine EL.f (FV.move rfl) rfl rfl ?_)
             | (show EL _ _ _ _ (⟨_, .pick _ _ _, _, _, _, _⟩ :: _) _ _; refine EL.f (FV.pickT rfl rfl) rfl rfl ?_)
             | (show EL _ _ _ _ (⟨_, .binOp .eql _ _ _ _, _, _, _, _⟩ :: _) _ _; refine EL.fT (FV.eql rfl rfl) rfl (fun _ => rfl) (by omega) ?_)
             | (show EL _ _ _ _ (⟨_, .binOp .gtr _ _ _ _, _, _, _, _⟩ :: _) _ _; refine EL.fF (FV.gtr rfl rfl) rfl (fun _ => rfl) (by omega) ?_))
          | refine EL.nil ?_
          | refine EW.seq ?_
          | refine EW.region ?_
          | refine EW.skip ?_
          | refine EW.condF rfl ?_)
        exact ⟨g8, ⟨rfl, rfl, rfl, rfl, rfl, rfl, rfl, rfl, rfl, trivial⟩, by rw [hk']; exact h8', hs3, hs4, hm, hb, h2, he, ap8⟩
      by_cases o5 : y.op = 5
      · have hba : ¬ y.b < y.a := fun q => hc ⟨.inr o5, q⟩
        repeat' (first
          | (show EL _ _ _ _ (_ :: _) _ _
             first
             | (show EL _ _ _ _ (⟨_, .fieldAddr _ _ _, _, _, _, _⟩ :: _) _ _; refine EL.f (FV.fieldAddr rfl rfl rfl rfl rfl) rfl rfl ?_)
             | (show EL _ _ _ _ (⟨_, .load _ _, _, _, _, _⟩ :: _) _ _; refine EL.f (FV.load1 rfl rfl rfl (At.cell h8' rfl)) rfl rfl ?_)
             | (show EL _ _ _ _ (⟨_, .move _, _, _, _, _⟩ :: _) _ _; refine EL.f (FV.move rfl) rfl rfl ?_)
             | (show EL _ _ _ _ (⟨_, .pick _ _ _, _, _, _, _⟩ :: _) _ _; first | refine EL.f (FV.pickT rfl rfl) rfl rfl ?_ | refine EL.f (FV.pickF rfl rfl) rfl rfl ?_)
             | (show EL _ _ _ _ (⟨_, .binOp .eql _ _ _ _, _, _, _, _⟩ :: _) _ _; first | refine EL.fT (FV.eql rfl rfl) rfl (fun _ => rfl) (by omega) ?_ | refine EL.fF (FV.eql rfl rfl) rfl (fun _ => rfl) (by omega) ?_)
             | (show EL _ _ _ _ (⟨_, .binOp .gtr _ _ _ _, _, _, _, _⟩ :: _) _ _; refine EL.fF (FV.gtr rfl rfl) rfl (fun _ => rfl) (by omega) ?_))
          | refine EL.nil ?_
          | refine EW.seq ?_
          | refine EW.region ?_
          | refine EW.skip ?_
          | refine EW.condF rfl ?_)
        exact ⟨g8, ⟨rfl, rfl, rfl, rfl, rfl, rfl, rfl, rfl, rfl, trivial⟩, by rw [hk']; exact h8', hs3, hs4, hm, hb, h2, he, ap8⟩
      · repeat' (first
          | (show EL _ _ _ _ (_ :: _) _ _
             first
             | (show EL _ _ _ _ (⟨_, _, _, _, _, some _⟩ :: _) _ _; refine EL.skip rfl rfl ?_)
             | (show EL _ _ _ _ (⟨_, .fieldAddr _ _ _, _, _, _, _⟩ :: _) _ _; refine EL.f (FV.fieldAddr rfl rfl rfl rfl rfl) rfl rfl ?_)
             | (show EL _ _ _ _ (⟨_, .load _ _, _, _, _, _⟩ :: _) _ _; refine EL.f (FV.load1 rfl rfl rfl (At.cell h8' rfl)) rfl rfl ?_)
             | (show EL _ _ _ _ (⟨_, .move _, _, _, _, _⟩ :: _) _ _; refine EL.f (FV.move rfl) rfl rfl ?_)
             | (show EL _ _ _ _ (⟨_, .pick _ _ _, _, _, _, _⟩ :: _) _ _; refine EL.f (FV.pickF rfl rfl) rfl rfl ?_)
             | (show EL _ _ _ _ (⟨_, .binOp .eql _ _ _ _, _, _, _, _⟩ :: _) _ _; refine EL.fF (FV.eql rfl rfl) rfl (fun _ => rfl) (by omega) ?_))
          | refine EL.nil ?_
          | refine EW.seq ?_
          | refine EW.region ?_
          | refine EW.skip ?_
          | refine EW.condF rfl ?_)
        exact ⟨g8, ⟨rfl, rfl, rfl, rfl, rfl, rfl, rfl, rfl, rfl, trivial⟩, by rw [hk']; exact h8', hs3, hs4, hm, hb, h2, he, ap8⟩
    have hsw := ordI_swap hc.1 hc.2
    obtain ⟨ho, hba⟩ := hc
    by_cases o3 : y.op = 3
    · clear ho
      repeat' (first
        | (show EL _ _ _ _ (_ :: _) _ _
           first
           | (show EL _ _ _ _ (⟨_, _, _, _, _, some _⟩ :: _) _ _; refine EL.skip rfl rfl ?_)
           | (show EL _ _ _ _ (⟨_, .fieldAddr _ _ _, _, _, _, _⟩ :: _) _ _; refine EL.f (FV.fieldAddr rfl rfl rfl rfl rfl) rfl rfl ?_)
           | (show EL _ _ _ _ (⟨_, .load _ _, _, _, _, _⟩ :: _) _ _; refine EL.f (FV.load1 rfl rfl rfl (At.cell h8' rfl)) rfl rfl ?_)
           | (show EL _ _ _ _ (⟨_, .move _, _, _, _, _⟩ :: _) _ _; refine EL.f (FV.move rfl) rfl rfl ?_)
           | (show EL _ _ _ _ (⟨_, .pick _ _ _, _, _, _, _⟩ :: _) _ _; refine EL.f (FV.pickT rfl rfl) rfl rfl ?_)
           | (show EL _ _ _ _ (⟨_, .binOp .gtr _ _ _ _, _, _, _, _⟩ :: _) _ _; refine EL.fT (FV.gtr rfl rfl) rfl (fun _ => rfl) (by omega) ?_)
           | (show EL _ _ _ _ (⟨_, .binOp .eql _ _ _ _, _, _, _, _⟩ :: _) _ _; refine EL.fT (FV.eql rfl rfl) rfl (fun _ => rfl) (by omega) ?_))
        | refine EL.nil ?_
        | refine EW.seq ?_
        | refine EW.region ?_
        | refine EW.condT rfl ?_)
      refine EL.h (Hv.storeG rfl rfl rfl rfl rfl h8' rfl) rfl (fun _ => rfl) ?_
      rintro _ wA ⟨hA, hrA⟩
      repeat' (first
        | refine EL.f (FV.fieldAddr rfl rfl rfl rfl rfl) rfl rfl ?_)
      refine EL.h (Hv.storeG rfl rfl rfl rfl rfl hA rfl) rfl (fun _ => rfl) ?_
      rintro _ wB ⟨hB, hrB⟩
      have hr := grownBy_trans hrA hrB
      replace hB : At wB 65 4 g8 1 1 (insV ⟨y.op, y.b, y.a, y.num⟩) := hB
      have nb := At.ne hb h8' (by decide)
      have n2 := At.ne h2 h8' (by decide)
      have nm := MapAt.apart hm h8'
      repeat' (first
        | refine EL.nil ?_)
      exact ⟨g8, ⟨rfl, rfl, rfl, rfl, rfl, rfl, rfl, rfl, rfl, trivial⟩, by rw [hsw]; exact hB, own_far hs3 hr (.inr (fun q => ap8 q.symm)), own_box hs4 h8' (by decide) hr, MapAt.kept hm hr (by simp; exact nm), At.kept hb hr (by simp; exact nb), At.kept h2 hr (by simp; exact n2), Below.wr he hr hg8w (Nat.le_refl _), ap8⟩
    · have o5 : y.op = 5 := by omega
      clear ho
      repeat' (first
        | (show EL _ _ _ _ (_ :: _) _ _
           first
           | (show EL _ _ _ _ (⟨_, .fieldAddr _ _ _, _, _, _, _⟩ :: _) _ _; refine EL.f (FV.fieldAddr rfl rfl rfl rfl rfl) rfl rfl ?_)
           | (show EL _ _ _ _ (⟨_, .load _ _, _, _, _, _⟩ :: _) _ _; refine EL.f (FV.load1 rfl rfl rfl (At.cell h8' rfl)) rfl rfl ?_)
           | (show EL _ _ _ _ (⟨_, .move _, _, _, _, _⟩ :: _) _ _; refine EL.f (FV.move rfl) rfl rfl ?_)
           | (show EL _ _ _ _ (⟨_, .pick _ _ _, _, _, _, _⟩ :: _) _ _; first | refine EL.f (FV.pickT rfl rfl) rfl rfl ?_ | refine EL.f (FV.pickF rfl rfl) rfl rfl ?_)
           | (show EL _ _ _ _ (⟨_, .binOp .gtr _ _ _ _, _, _, _, _⟩ :: _) _ _; refine EL.fT (FV.gtr rfl rfl) rfl (fun _ => rfl) (by omega) ?_)
           | (show EL _ _ _ _ (⟨_, .binOp .eql _ _ _ _, _, _, _, _⟩ :: _) _ _; first | refine EL.fT (FV.eql rfl rfl) rfl (fun _ => rfl) (by omega) ?_ | refine EL.fF (FV.eql rfl rfl) rfl (fun _ => rfl) (by omega) ?_))
        | refine EL.nil ?_
        | refine EW.seq ?_
        | refine EW.region ?_
        | refine EW.condT rfl ?_)
      refine EL.h (Hv.storeG rfl rfl rfl rfl rfl h8' rfl) rfl (fun _ => rfl) ?_
      rintro _ wA ⟨hA, hrA⟩
      repeat' (first
        | refine EL.f (FV.fieldAddr rfl rfl rfl rfl rfl) rfl rfl ?_)
      refine EL.h (Hv.storeG rfl rfl rfl rfl rfl hA rfl) rfl (fun _ => rfl) ?_
      rintro _ wB ⟨hB, hrB⟩
      have hr := grownBy_trans hrA hrB
      replace hB : At wB 65 4 g8 1 1 (insV ⟨y.op, y.b, y.a, y.num⟩) := hB
      have nb := At.ne hb h8' (by decide)
      have n2 := At.ne h2 h8' (by decide)
      have nm := MapAt.apart hm h8'
      repeat' (first
        | refine EL.nil ?_)
      exact ⟨g8, ⟨rfl, rfl, rfl, rfl, rfl, rfl, rfl, rfl, rfl, trivial⟩, by rw [hsw]; exact hB, own_far hs3 hr (.inr (fun q => ap8 q.symm)), own_box hs4 h8' (by decide) hr, MapAt.kept hm hr (by simp; exact nm), At.kept hb hr (by simp; exact nb), At.kept h2 hr (by simp; exact n2), Below.wr he hr hg8w (Nat.le_refl _), ap8⟩
  · rintro ρ' w7 ⟨g8, hsub, h8, hs3, hs4, hm, hb, h2, he, ap8⟩
    refine EW.weaken ?_ hsub
    clear hsub
    generalize ordI (mvI x to) = y at *
    repeat' (first
      | refine EL.f (FV.loadAgg (cs := insV y) rfl rfl rfl rfl rfl (fun _ e => e ▸ At.lies h8)) rfl rfl ?_
      | refine EL.f (FV.move rfl) rfl rfl ?_
      | refine EW.seq ?_
      | refine EW.region ?_)
    refine EL.f (FV.lookM (code := code) (m := m) rfl rfl (fun _ e => e ▸ hm)) rfl rfl ?_
    by_cases hin : y ∈ code
    · rw [if_pos hin, decide_eq_true hin]
      repeat' (first
        | (show EL _ _ _ _ (_ :: _) _ _
           first
           | (show EL _ _ _ _ (⟨_, .move _, _, _, _, _⟩ :: _) _ _; refine EL.f (FV.move rfl) rfl rfl ?_)
           | (show EL _ _ _ _ (⟨_, .assign _, _, _, _, _⟩ :: _) _ _; refine EL.f (FV.assign rfl) rfl rfl ?_)
           | (show EL _ _ _ _ (⟨_, .extract _ _, _, _, _, _⟩ :: _) _ _; refine EL.f (FV.extract rfl rfl) rfl rfl ?_)
           | (show EL _ _ _ _ (⟨_, .unOp .not _ _, _, _, _, _⟩ :: _) _ _; refine EL.f (FV.not rfl) rfl rfl ?_))
        | refine EL.nil ?_
        | refine EW.seq ?_
        | refine EW.region ?_
        | refine EW.skip ?_
        | refine EW.condF rfl ?_)
      refine EL.h (Hv.build1A rfl rfl rfl rfl) rfl (fun _ => rfl) ?_
      rintro _ w8 ⟨gq, rfl, hq, hgq, he8⟩
      have hs4r := OwnI.ext hs4 he8
      skip
      refine EL.h (Hv.append1 (B := w.heap.size) rfl rfl rfl rfl rfl hs4r (At.cell hq rfl) rfl (by omega) (by omega) (he.trans he8).size) rfl (fun _ => rfl) ?_
      rintro v9 w9 ⟨own9, gr9, bl9⟩
      have on9 := Only.thenO he8 (Only.one gr9)
      repeat' (first
        | refine EL.f (FV.move rfl) rfl rfl ?_
        | refine EL.f (FV.assign rfl) rfl rfl ?_
        | refine EL.f (FV.addI rfl rfl (by omega)) rfl rfl ?_
        | refine EL.nil ?_
        | refine EW.region ?_)
      exact ⟨(k + 1, s3, v9), ⟨rfl, rfl, rfl, rfl, rfl, rfl, rfl, rfl, trivial⟩, ⟨by dsimp only; omega, by rw [hC, addN_in hin]; exact own_far (own_ext hs3 he8) gr9 (own_ne (own_ext hs3 he8) hs4r (by decide)), by rw [hT]; exact OwnI.snoc own9, by rw [hC, addN_in hin]; exact MapAt.only hm on9 (fun q => MapAt.apartO hm hs4 (List.mem_singleton.1 q)), At.only hb on9 (At.apartO hb hs4 (by decide)), At.only h2 on9 (At.apartO h2 hs4 (by decide)), Ext.after (he.trans he8) bl9⟩, by dsimp only; omega⟩
    · rw [if_neg hin, decide_eq_false hin]
      have hix : code.idxOf y = code.length := List.idxOf_eq_length hin
      obtain ⟨A3, c3, rfl, hr3⟩ := own_form hs3
      repeat' (first
        | (show EL _ _ _ _ (_ :: _) _ _
           first
           | (show EL _ _ _ _ (⟨_, .move _, _, _, _, _⟩ :: _) _ _; refine EL.f (FV.move rfl) rfl rfl ?_)
           | (show EL _ _ _ _ (⟨_, .assign _, _, _, _, _⟩ :: _) _ _; refine EL.f (FV.assign rfl) rfl rfl ?_)
           | (show EL _ _ _ _ (⟨_, .extract _ _, _, _, _, _⟩ :: _) _ _; refine EL.f (FV.extract rfl rfl) rfl rfl ?_)
           | (show EL _ _ _ _ (⟨_, .call _, _, _, _, _⟩ :: _) _ _; refine EL.f (FV.len rfl rfl) rfl rfl ?_)
           | (show EL _ _ _ _ (⟨_, .unOp .not _ _, _, _, _, _⟩ :: _) _ _; refine EL.f (FV.not rfl) rfl rfl ?_))
        | refine EL.nil ?_
        | refine EW.seq ?_
        | refine EW.region ?_
        | refine EW.condT rfl ?_)
      have apm : some m ≠ (Value.slice A3 code.length c3).ownBlock := MapAt.apartO hm hs3
      have ap8' : some g8 ∉ [(Value.slice A3 code.length c3).ownBlock, some m] := by
        intro q
        rcases List.mem_cons.1 q with q | q
        · exact ap8 q
        · exact MapAt.apart hm h8 (by simpa using (List.mem_singleton.1 q).symm)
      refine EW.draw (fun w' => Only [(Value.slice A3 code.length c3).ownBlock, some m] w7 w') (pl 0 5 ++ [(5, false), (6, false), (7, false), (8, true)]) mixed (by decide +kernel) ((Only.ext (Ext.drew _)).mono (by simp)) ?_
      repeat' (first
        | refine EP.f rfl (FV.loadAgg (cs := insV y) rfl rfl rfl rfl rfl (fun _ h' => At.lies (At.only h8 h' ap8'))) rfl rfl ?_
        | refine EP.f rfl (FV.move rfl) rfl rfl ?_)
      have ed := Ext.drew w7
      refine EP.h rfl rfl (Hv.buildIns (y := y) rfl) rfl (fun _ => rfl) ?_
      rintro _ u1 ⟨gq, rfl, hq, hgq, fe1⟩
      have e1 := ed.trans fe1
      refine ⟨(Only.ext e1).mono (by simp), ?_⟩
      refine EP.h rfl rfl (Hv.appendG (B := w.heap.size) (us := insV y) rfl rfl rfl rfl rfl rfl (own_ext hs3 e1) (insV_length _) (fun j u hj => At.cell hq hj) (insV_one _) (by omega) (by omega) (he.trans e1).size) rfl (fun _ => rfl) ?_
      rintro v3 u2 ⟨own3, gr3, bl3, _⟩
      have on2 := Only.thenO e1 (Only.one gr3)
      have hm2 := MapAt.only hm on2 (fun q => apm (List.mem_singleton.1 q))
      refine ⟨on2.mono (fun z hz => by rw [List.mem_singleton.1 hz]; simp), ?_⟩
      refine EP.h rfl rfl (Hv.putM rfl rfl rfl hm2 hin) rfl (fun _ => rfl) ?_
      rintro _ u3 ⟨hm3, gr4⟩
      have on3 : Only [(Value.slice A3 code.length c3).ownBlock, some m] w7 u3 := on2.trans (Only.one gr4)
      refine ⟨on3, ?_⟩
      repeat' (first
        | refine EP.nil ?_
        | refine EP.f rfl (FV.assign rfl) rfl rfl ?_)
      have own3' := own_far own3 gr4 (.inr (fun q => MapAt.apartO hm2 own3 q.symm))
      have he3 : Ext w u3 := Below.wr (Ext.after (he.trans e1) bl3) gr4 hmw (Nat.le_refl _)
      have ap4 : ∀ j, some j ∈ [(Value.slice A3 code.length c3).ownBlock, some m] → (Value.slice A4 to.length c4).ownBlock ≠ some j := by
        intro j q e
        rcases List.mem_cons.1 q with q | q
        · rcases own_ne hs3 hs4 (by decide) with z | z
          · rw [z] at q; cases q
          · exact z (q.symm.trans e.symm)
        · exact MapAt.apartO hm hs4 (by rw [e]; simpa using (List.mem_singleton.1 q).symm)
      have hs4' : OwnI w.heap.size u3 (.slice A4 to.length c4) to := own_only hs4 on3 ap4
      have apT : ∀ g cs, At w7 32 4 g 1 1 cs → some g ∉ [(Value.slice A3 code.length c3).ownBlock, some m] := by
        intro g cs hg q
        rcases List.mem_cons.1 q with q | q
        · exact At.apartO hg hs3 (by decide) (by simpa using q)
        · exact MapAt.apart hm hg (by simpa using (List.mem_singleton.1 q).symm)
      have hb3 := At.only hb on3 (apT _ _ hb)
      have h23 := At.only h2 on3 (apT _ _ h2)
      repeat' (first
        | refine EL.f (FV.move rfl) rfl rfl ?_
        | refine EW.region ?_)
      refine EL.h (Hv.build1A rfl rfl rfl rfl) rfl (fun _ => rfl) ?_
      rintro _ w8 ⟨gr, rfl, hq', hgq', he8⟩
      have hs4r := OwnI.ext hs4' he8
      skip
      refine EL.h (Hv.append1 (B := w.heap.size) rfl rfl rfl rfl rfl hs4r (At.cell hq' rfl) rfl (by omega) (by omega) (he3.trans he8).size) rfl (fun _ => rfl) ?_
      rintro v9 w9 ⟨own9, gr9, bl9⟩
      have on9 := Only.thenO he8 (Only.one gr9)
      repeat' (first
        | refine EL.f (FV.move rfl) rfl rfl ?_
        | refine EL.f (FV.assign rfl) rfl rfl ?_
        | refine EL.f (FV.addI rfl rfl (by omega)) rfl rfl ?_
        | refine EL.nil ?_
        | refine EW.region ?_)
      exact ⟨(k + 1, v3, v9), ⟨rfl, rfl, rfl, rfl, rfl, rfl, rfl, rfl, trivial⟩, ⟨by dsimp only; omega, by rw [hC, addN_out hin, insL_snoc1]; simp only [List.length_append]; exact own_far (own_ext own3' he8) gr9 (own_ne (own_ext own3' he8) hs4r (by decide)), by rw [hT, hix]; exact OwnI.snoc own9, by rw [hC, addN_out hin]; exact MapAt.only hm3 on9 (fun q => MapAt.apartO hm3 hs4' (List.mem_singleton.1 q)), At.only hb3 on9 (At.apartO hb3 hs4' (by decide)), At.only h23 on9 (At.apartO h23 hs4' (by decide)), Ext.after (he3.trans he8) bl9⟩, by dsimp only; omega⟩
end Eng
end Go.Proofs.Ytfkohgfcchhlpaa
