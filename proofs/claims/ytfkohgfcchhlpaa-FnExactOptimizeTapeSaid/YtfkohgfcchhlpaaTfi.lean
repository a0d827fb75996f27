/- FoldTape in the program. Conditions: the lengths. -/
import Derived.Test.YtfkohgfcchhlpaaTn
namespace Go.Proofs.Ytfkohgfcchhlpaa
open Go Go.RowKit
namespace Eng
set_option maxHeartbeats 16000000 in
theorem implFolded (v : Value) (t : Tp) (w : World) (h : TapeV w v t) (hf : Fit t) (ok : okT t = true) :
    CallsR Try.prog 88 [v] w fun r w' => OwnT w.heap.size w' r (endT t (foldC t t.code.length) (idL t.code.length)) ∧ Ext w w' := by
  have hv := h
  obtain ⟨P, p, Q, q, R, r, rfl, r1, r2, r3⟩ := h
  have okc := (okT_iff.1 ok).2.2.2.2.1
  have hcl := (okT_iff.1 ok).2.1
  have hgu := (okT_iff.1 ok).2.2.2.2.2.1
  have hou := (okT_iff.1 ok).2.2.2.2.2.2
  refine CallsR.enterC Try.func88 (by decide +kernel) rfl Try.ntmps88 rfl rfl rfl rfl rfl ?_
  repeat' (first
    | refine EW.seq ?_
    | refine EW.region ?_)
  refine EL.h (Hv.boxA (sz := 4) rfl rfl) rfl (fun _ => rfl) ?_
  rintro _ w1 ⟨g1, rfl, hg1, hb, he1⟩
  skip
  refine EL.h (Hv.allocA rfl rfl) rfl (fun _ => rfl) ?_
  rintro _ w2 ⟨g2, rfl, hg2, h2, he2⟩
  have l1 := At.lt hb
  have s1 := he1.size
  have s2 := he2.size
  repeat' (first
    | refine EL.nil ?_
    | refine EW.seq ?_
    | refine EW.region ?_)
  refine EL.h (Hv.build0 rfl rfl) rfl (fun _ => rfl) ?_
  rintro s3 w3 ⟨ho3, he3⟩
  skip
  refine EL.h (Hv.build0 rfl rfl) rfl (fun _ => rfl) ?_
  rintro s4 w4 ⟨ho4, he4⟩
  have s3z := he3.size
  have e24 := he3.trans he4
  have hw4 := (he1.trans he2).trans e24
  replace hb := At.ext hb (he2.trans e24)
  replace h2 := At.ext h2 e24
  have n12 : g1 ≠ g2 := by omega
  have hg2w : w.heap.size ≤ g2 := by omega
  repeat' (first
    | (show EL _ _ _ _ (_ :: _) _ _
       first
       | (show EL _ _ _ _ (⟨_, .fieldAddr _ _ _, _, _, _, _⟩ :: _) _ _; refine EL.f (FV.fieldAddr rfl rfl rfl rfl rfl) rfl rfl ?_)
       | (show EL _ _ _ _ (⟨_, .load _ _, _, _, _, _⟩ :: _) _ _; refine EL.f (FV.load1 rfl rfl rfl (At.cell hb rfl)) rfl rfl ?_)
       | (show EL _ _ _ _ (⟨_, .move _, _, _, _, _⟩ :: _) _ _; refine EL.f (FV.move rfl) rfl rfl ?_)
       | (show EL _ _ _ _ (⟨_, .assign _, _, _, _, _⟩ :: _) _ _; refine EL.f (FV.assign rfl) rfl rfl ?_)
       | (show EL _ _ _ _ (⟨_, .call _, _, _, _, _⟩ :: _) _ _; refine EL.f (FV.len rfl rfl) rfl rfl ?_))
    | refine EL.nil ?_
    | refine EW.seq ?_
    | refine EW.region ?_
    | refine EW.block ?_)
  refine EW.loop (X := Nat × Value × Value) (fun y wr => y.1 ≤ t.code.length ∧ wr.ownsRow w.heap.size 65 4 y.2.1 y.1 (insL (foldC t y.1)) ∧ OwnI w.heap.size wr y.2.2 (idL y.1) ∧ At wr 32 4 g1 1 1 [.int .i64 t.inputs, .slice P t.code.length p, .slice Q t.guards.length q, .slice R t.outs.length r] ∧ At wr 32 4 g2 1 1 [.int .i64 0, .slice none 0 0, .slice none 0 0, .slice none 0 0] ∧ Ext w wr) (fun y => [(1, .pointer (some ⟨g1, 0, none⟩)), (2, .pointer (some ⟨g2, 0, none⟩)), (3, y.2.1), (4, y.2.2), (12, .slice P t.code.length p), (13, .int .i64 t.code.length), (14, .int .i64 y.1)]) (fun y => t.code.length - y.1) (0, s3, s4) ⟨Nat.zero_le _, own_lower (own_ext ho3 he4) (by omega), OwnI.lower ho4 (by omega), hb, h2, hw4⟩ ⟨rfl, rfl, rfl, rfl, rfl, rfl, rfl, trivial⟩ ?_
  clear hb h2 hw4
  rintro ⟨k, s3, s4⟩ wr ⟨hk, hs3, hs4, hb, h2, he⟩
  dsimp only at *
  by_cases hlt : k < t.code.length
  rotate_left
  · obtain rfl : k = t.code.length := by omega
    have hlen4 : (idL t.code.length).length = t.code.length := mapR_length _ _
    have hlen3 := foldC_length t t.code.length
    obtain ⟨A4, c4, rfl, hr4⟩ := OwnI.form hs4
    repeat' (first
      | refine EL.f (FV.loadAgg (cs := [.int .i64 t.inputs, .slice P t.code.length p, .slice Q t.guards.length q, .slice R t.outs.length r]) rfl rfl rfl rfl rfl (fun _ e => e ▸ At.lies hb)) rfl rfl ?_
      | refine EL.f (FV.move rfl) rfl rfl ?_
      | refine EL.fF (FV.lss rfl rfl) rfl (fun _ => rfl) (by omega) ?_
      | refine EL.nil ?_
      | refine EW.seq ?_
      | refine EW.region ?_
      | refine EW.exit ?_
      | refine EW.condF rfl ?_)
    refine EL.h (Hv.call (implEnded _ t s3 (foldC t t.code.length) A4 c4 (idL t.code.length) w.heap.size wr hf (by rw [hlen3]; exact hs3) he.size hr4 (fun i hi => by rw [hlen4]; exact hgu i hi) (fun i hi => by rw [hlen4]; exact hou i hi) (hv.ext he)) rfl) rfl (fun _ => rfl) ?_
    rintro tv w6 ⟨hown, he6⟩
    have tL := fun k => @OwnT.block _ _ _ _ hown k
    have ones := OwnT.ones hown
    obtain ⟨a, b, c, e⟩ := OwnT.cells hown
    have one := ones _ _ _ e
    have ap2 := h2
    subst e
    replace h2 := At.ext h2 he6
    skip
    refine EL.h (Hv.storeAggG (vs := [.int .i64 (endT t (foldC t t.code.length) (idL t.code.length)).inputs, a, b, c]) rfl rfl rfl rfl (fun v hv => by simp only [List.mem_cons, List.not_mem_nil, or_false] at hv; rcases hv with rfl | rfl | rfl | rfl; rfl; exact one.1; exact one.2.1; exact one.2.2) h2 (Nat.le_refl _)) rfl (fun _ => rfl) ?_
    rintro _ w7 ⟨h7, hr7⟩
    repeat' (first
      | refine EL.nil ?_
      | refine EW.ret ?_)
    exact ⟨g2, 0, [.int .i64 (endT t (foldC t t.code.length) (idL t.code.length)).inputs, a, b, c], rfl, rfl, At.lies h7, OwnT.box hown h2 hr7, Below.wr (he.trans he6) hr7 hg2w (Nat.le_refl _)⟩
  obtain ⟨x1, p1, rfl, hp⟩ := Rd.elem insV_length (by decide) dIns (r1.ext he) hlt
  have okk := okc k hlt
  have hop := okI_op okk
  have hnext : foldC t (k + 1) = foldC t k ++ [foldI (foldC t k) (t.code.getD k dIns)] := rfl
  have hcll := foldC_length t k
  generalize t.code.getD k dIns = x at *
  generalize foldC t k = code at *
  repeat' (first
    | refine EL.fT (FV.lss rfl rfl) rfl (fun _ => rfl) (by omega) ?_
    | refine EL.nil ?_
    | refine EW.seq ?_
    | refine EW.region ?_
    | refine EW.skip ?_
    | refine EW.condT rfl ?_)
  refine EW.block ?_
  refine EW.seq3 (fun ρ' w' => ∃ g6 s4', Sub [(1, .pointer (some ⟨g1, 0, none⟩)), (2, .pointer (some ⟨g2, 0, none⟩)), (3, s3), (4, s4'), (12, .slice (some ⟨x1, p1, none⟩) t.code.length p), (13, .int .i64 t.code.length), (14, .int .i64 k), (6, .pointer (some ⟨g6, 0, none⟩))] ρ' ∧ At w' 65 4 g6 1 1 (insV (foldI code x)) ∧ w'.ownsRow w.heap.size 65 4 s3 k (insL code) ∧ OwnI w.heap.size w' s4' (idL (k + 1)) ∧ At w' 32 4 g1 1 1 [.int .i64 t.inputs, .slice (some ⟨x1, p1, none⟩) t.code.length p, .slice Q t.guards.length q, .slice R t.outs.length r] ∧ At w' 32 4 g2 1 1 [.int .i64 0, .slice none 0 0, .slice none 0 0, .slice none 0 0] ∧ Ext w w' ∧ some g6 ≠ s3.ownBlock) ?_ ?_
  · repeat' (first
      | refine EL.f (FV.idx rfl rfl rfl rfl (by omega) (by omega)) rfl rfl ?_
      | refine EL.f (FV.loadAgg (cs := insV x) rfl rfl rfl rfl rfl (fun _ e => hp.ext (e ▸ Ext.refl _))) rfl rfl ?_
      | refine EL.f (FV.move rfl) rfl rfl ?_
      | refine EW.region ?_)
    refine EL.h (Hv.allocA rfl rfl) rfl (fun _ => rfl) ?_
    rintro _ w5 ⟨g6, rfl, hg6, h5, he5⟩
    repeat' (first
      | refine EL.f (FV.assign rfl) rfl rfl ?_)
    refine EL.h (Hv.storeAggG (vs := insV x) rfl rfl rfl rfl (insV_one _) h5 (Nat.le_refl _)) rfl (fun _ => rfl) ?_
    rintro _ w6 ⟨h6, hr6⟩
    have ap6 : some g6 ≠ s3.ownBlock := fun e => by have := (own_block hs3 e.symm).2; omega
    have hw6 : Ext wr w6 := Below.wr he5 hr6 (by omega) (Nat.le_refl _)
    replace h6 : At w6 65 4 g6 1 1 (insV x) := h6
    replace hs3 := own_ext hs3 hw6
    replace hs4 := OwnI.ext hs4 hw6
    replace hb := At.ext hb hw6
    replace h2 := At.ext h2 hw6
    have he6 := he.trans hw6
    repeat' (first
      | refine EL.f (FV.move rfl) rfl rfl ?_
      | refine EL.nil ?_
      | refine EW.region ?_)
    refine EL.h (Hv.build1A rfl rfl rfl rfl) rfl (fun _ => rfl) ?_
    rintro _ w7 ⟨gq, rfl, hq, hgq, he7⟩
    have hs4r0 := mapR_row hs4
    have hs4r := mapR_row (OwnI.ext hs4 he7)
    have he07 := he6.trans he7
    skip
    refine EL.h (Hv.appendG (B := w.heap.size) (us := [.int .i64 k]) rfl rfl rfl rfl rfl rfl hs4r rfl (fun j u hj => At.cell hq hj) (fun u hu => by simp at hu; subst hu; rfl) (by omega) (by omega) he07.size) rfl (fun _ => rfl) ?_
    rintro s4n w8 ⟨own8, gr8, bl8, _⟩
    have on8 := Only.thenO he7 (Only.one gr8)
    replace h6 := At.only h6 on8 (At.apartO h6 hs4r0 (by decide))
    replace hb := At.only hb on8 (At.apartO hb hs4r0 (by decide))
    replace h2 := At.only h2 on8 (At.apartO h2 hs4r0 (by decide))
    replace hs3 := own_far (own_ext hs3 he7) gr8 (own_ne (own_ext hs3 he7) hs4r (by decide))
    clear hs4 hs4r hs4r0
    have hs4 : OwnI w.heap.size w8 s4n (idL (k + 1)) := mapR_push own8
    have he8 := Ext.after he07 bl8
    have hg6w : w.heap.size ≤ g6 := by have := he.size; omega
    by_cases h3 : 3 ≤ x.op
    rotate_left
    · have hfold : foldI code x = x := by unfold foldI; rw [if_neg (fun e => h3 e.1)]
      repeat' (first
        | (show EL _ _ _ _ (_ :: _) _ _
           first
           | (show EL _ _ _ _ (⟨_, _, _, _, _, some _⟩ :: _) _ _; first | refine EL.skipU rfl rfl ?_ | refine EL.skip rfl rfl ?_)
           | (show EL _ _ _ _ (⟨_, .fieldAddr _ _ _, _, _, _, _⟩ :: _) _ _; refine EL.f (FV.fieldAddr rfl rfl rfl rfl rfl) rfl rfl ?_)
           | (show EL _ _ _ _ (⟨_, .load _ _, _, _, _, _⟩ :: _) _ _; refine EL.f (FV.load1 rfl rfl rfl (At.cell h6 rfl)) rfl rfl ?_)
           | (show EL _ _ _ _ (⟨_, .move _, _, _, _, _⟩ :: _) _ _; refine EL.f (FV.move rfl) rfl rfl ?_)
           | (show EL _ _ _ _ (⟨_, .assign _, _, _, _, _⟩ :: _) _ _; refine EL.f (FV.assign rfl) rfl rfl ?_)
           | (show EL _ _ _ _ (⟨_, .pick _ _ _, _, _, _, _⟩ :: _) _ _; refine EL.f (FV.pickF rfl rfl) rfl rfl ?_)
           | (show EL _ _ _ _ (⟨_, .binOp .geq _ _ _ _, _, _, _, _⟩ :: _) _ _; refine EL.fF (FV.geq rfl rfl) rfl (fun _ => rfl) (by omega) ?_))
        | refine EL.nil ?_
        | refine EW.seq ?_
        | refine EW.region ?_
        | refine EW.skip ?_
        | refine EW.condF rfl ?_)
      exact ⟨g6, s4n, ⟨rfl, rfl, rfl, rfl, rfl, rfl, rfl, rfl, trivial⟩, by rw [hfold]; exact h6, hs3, hs4, hb, h2, he8, ap6⟩
    have oa : 0 ≤ x.a ∧ x.a < k := by
      by_cases o7 : x.op = 7
      · exact okI_neg okk o7
      · exact (okI_bin okk (by omega)).1
    obtain ⟨A3, c3, rfl, hrd3⟩ := own_form hs3
    obtain ⟨b3, o3, rfl, hA⟩ := Rd.elem insV_length (by decide) dIns hrd3 (k := x.a.toNat) (by omega)
    by_cases hA2 : (code.getD x.a.toNat dIns).op = 2
    rotate_left
    · have hfold : foldI code x = x := by unfold foldI; rw [if_neg (fun e => hA2 e.2.1)]
      repeat' (first
        | (show EL _ _ _ _ (_ :: _) _ _
           first
           | (show EL _ _ _ _ (⟨_, _, _, _, _, some _⟩ :: _) _ _; first | refine EL.skipU rfl rfl ?_ | refine EL.skip rfl rfl ?_)
           | (show EL _ _ _ _ (⟨_, .fieldAddr _ _ _, _, _, _, _⟩ :: _) _ _; refine EL.f (FV.fieldAddr rfl rfl rfl rfl rfl) rfl rfl ?_)
           | (show EL _ _ _ _ (⟨_, .indexAddr _ _ _, _, _, _, _⟩ :: _) _ _; refine EL.f (FV.idx rfl rfl rfl rfl (by omega) (by omega)) rfl rfl ?_)
           | (show EL _ _ _ _ (⟨_, .load _ _, _, _, _, _⟩ :: _) _ _; first | refine EL.f (FV.load1 rfl rfl rfl (At.cell h6 rfl)) rfl rfl ?_ | refine EL.f (FV.load1 rfl rfl rfl (hA 0 _ rfl)) rfl rfl ?_)
           | (show EL _ _ _ _ (⟨_, .move _, _, _, _, _⟩ :: _) _ _; refine EL.f (FV.move rfl) rfl rfl ?_)
           | (show EL _ _ _ _ (⟨_, .assign _, _, _, _, _⟩ :: _) _ _; refine EL.f (FV.assign rfl) rfl rfl ?_)
           | (show EL _ _ _ _ (⟨_, .pick _ _ _, _, _, _, _⟩ :: _) _ _; first | refine EL.f (FV.pickT rfl rfl) rfl rfl ?_ | refine EL.f (FV.pickF rfl rfl) rfl rfl ?_)
           | (show EL _ _ _ _ (⟨_, .binOp .geq _ _ _ _, _, _, _, _⟩ :: _) _ _; refine EL.fT (FV.geq rfl rfl) rfl (fun _ => rfl) (by omega) ?_)
           | (show EL _ _ _ _ (⟨_, .binOp .eql _ _ _ _, _, _, _, _⟩ :: _) _ _; refine EL.fF (FV.eql rfl rfl) rfl (fun _ => rfl) (by omega) ?_))
        | refine EL.nil ?_
        | refine EW.seq ?_
        | refine EW.region ?_
        | refine EW.skip ?_
        | refine EW.condF rfl ?_)
      exact ⟨g6, s4n, ⟨rfl, rfl, rfl, rfl, rfl, rfl, rfl, rfl, trivial⟩, by rw [hfold]; exact h6, hs3, hs4, hb, h2, he8, ap6⟩
    have ob : 0 ≤ x.b ∧ x.b < k := by
      by_cases o7 : x.op = 7
      · have := okI_b0 okk o7; omega
      · exact (okI_bin okk (by omega)).2
    obtain ⟨b4, o4, e34, hBq⟩ := Rd.elem insV_length (by decide) dIns hrd3 (k := x.b.toNat) (by omega)
    injection e34 with e34
    injection e34 with e34 e35 _
    subst e34 e35
    by_cases o7 : x.op = 7
    · repeat' (first
        | (show EL _ _ _ _ (_ :: _) _ _
           first
           | (show EL _ _ _ _ (⟨_, _, _, _, _, some _⟩ :: _) _ _; refine EL.skip rfl rfl ?_)
           | (show EL _ _ _ _ (⟨_, .fieldAddr _ _ _, _, _, _, _⟩ :: _) _ _; refine EL.f (FV.fieldAddr rfl rfl rfl rfl rfl) rfl rfl ?_)
           | (show EL _ _ _ _ (⟨_, .indexAddr _ _ _, _, _, _, _⟩ :: _) _ _; refine EL.f (FV.idx rfl rfl rfl rfl (by omega) (by omega)) rfl rfl ?_)
           | (show EL _ _ _ _ (⟨_, .load _ _, _, _, _, _⟩ :: _) _ _; first | refine EL.f (FV.load1 rfl rfl rfl (At.cell h6 rfl)) rfl rfl ?_ | refine EL.f (FV.load1 rfl rfl rfl (hA 0 _ rfl)) rfl rfl ?_)
           | (show EL _ _ _ _ (⟨_, .move _, _, _, _, _⟩ :: _) _ _; refine EL.f (FV.move rfl) rfl rfl ?_)
           | (show EL _ _ _ _ (⟨_, .assign _, _, _, _, _⟩ :: _) _ _; refine EL.f (FV.assign rfl) rfl rfl ?_)
           | (show EL _ _ _ _ (⟨_, .pick _ _ _, _, _, _, _⟩ :: _) _ _; refine EL.f (FV.pickT rfl rfl) rfl rfl ?_)
           | (show EL _ _ _ _ (⟨_, .binOp .geq _ _ _ _, _, _, _, _⟩ :: _) _ _; refine EL.fT (FV.geq rfl rfl) rfl (fun _ => rfl) (by omega) ?_)
           | (show EL _ _ _ _ (⟨_, .binOp .eql _ _ _ _, _, _, _, _⟩ :: _) _ _; refine EL.fT (FV.eql rfl rfl) rfl (fun _ => rfl) (by omega) ?_))
        | refine EL.nil ?_
        | refine EW.seq ?_
        | refine EW.region ?_
        | refine EW.condT rfl ?_)
      have hcan : canF code x := ⟨h3, hA2, .inl o7⟩
      have hA3 := hA 3 _ rfl
      have hB3 := hBq 3 _ rfl
      refine EW.draw (fun w' => Ext w8 w') (pl 0 13 ++ [(13, false), (14, true), (15, true), (16, true), (17, true), (18, true)]) mixed (by decide +kernel) (Ext.drew _) ?_
      repeat' (first
        | refine EP.f rfl (FV.loadAgg (cs := insV x) rfl rfl rfl rfl rfl (fun _ h2 => (At.lies h6).ext h2)) rfl rfl ?_
        | refine EP.f rfl (FV.fieldAddr rfl rfl rfl rfl rfl) rfl rfl ?_
        | refine EP.f rfl (FV.load rfl rfl rfl (fun w' h' => At.cell (At.ext h6 h') rfl)) rfl rfl ?_
        | refine EP.f rfl (FV.idx (s := 4) rfl rfl rfl rfl (by omega) (by omega)) rfl rfl ?_
        | refine EP.f rfl (FV.load rfl rfl rfl (fun w' h' => h'.cell hA3)) rfl rfl ?_
        | refine EP.f rfl (FV.load rfl rfl rfl (fun w' h' => h'.cell hB3)) rfl rfl ?_
        | refine EP.f rfl (FV.move rfl) rfl rfl ?_)
      have ed := Ext.drew w8
      refine EP.h rfl rfl (Hv.call (implOperated x (code.getD x.a.toNat dIns).num (code.getD x.b.toNat dIns).num w8.drew) rfl) rfl (fun _ => rfl) ?_
      rintro r9 w9 ⟨hr9, he9⟩
      have e9 := ed.trans he9
      refine ⟨e9, ?_⟩
      cases e : opVal x.op (code.getD x.a.toNat dIns).num (code.getD x.b.toNat dIns).num with
      | none =>
        rw [e] at hr9
        dsimp only at hr9
        subst hr9
        have hfold : foldI code x = x := by unfold foldI; rw [if_pos hcan, e]
        repeat' (first
          | refine EP.nil ?_
          | refine EP.f rfl (FV.move rfl) rfl rfl ?_
          | refine EP.f rfl (FV.assign rfl) rfl rfl ?_
          | refine EP.f rfl (FV.extract rfl rfl) rfl rfl ?_)
        repeat' (first
          | refine EL.f (FV.move rfl) rfl rfl ?_
          | refine EL.nil ?_
          | refine EW.seq ?_
          | refine EW.region ?_
          | refine EW.skip ?_
          | refine EW.condF rfl ?_)
        exact ⟨g6, s4n, ⟨rfl, rfl, rfl, rfl, rfl, rfl, rfl, rfl, trivial⟩, by rw [hfold]; exact At.ext h6 e9, own_ext hs3 e9, OwnI.ext hs4 e9, At.ext hb e9, At.ext h2 e9, he8.trans e9, ap6⟩
      | some nv =>
        rw [e] at hr9
        dsimp only at hr9
        subst hr9
        have hfold : foldI code x = ⟨2, 0, 0, nv⟩ := by unfold foldI; rw [if_pos hcan, e]
        repeat' (first
          | refine EP.nil ?_
          | refine EP.f rfl (FV.move rfl) rfl rfl ?_
          | refine EP.f rfl (FV.assign rfl) rfl rfl ?_
          | refine EP.f rfl (FV.extract rfl rfl) rfl rfl ?_)
        repeat' (first
          | refine EL.f (FV.buildI rfl rfl rfl rfl) rfl rfl ?_
          | refine EL.f (FV.move rfl) rfl rfl ?_
          | refine EL.nil ?_
          | refine EW.seq ?_
          | refine EW.region ?_
          | refine EW.condT rfl ?_)
        refine EL.h (Hv.storeAggG (vs := insV ⟨2, 0, 0, nv⟩) rfl rfl rfl rfl (insV_one _) (At.ext h6 e9) (Nat.le_refl _)) rfl (fun _ => rfl) ?_
        rintro _ w10 ⟨h10, hr10⟩
        have m1 := At.ne (At.ext hb e9) (At.ext h6 e9) (by decide)
        have m2 := At.ne (At.ext h2 e9) (At.ext h6 e9) (by decide)
        repeat' (first
          | refine EL.nil ?_)
        exact ⟨g6, s4n, ⟨rfl, rfl, rfl, rfl, rfl, rfl, rfl, rfl, trivial⟩, by rw [hfold]; exact h10, own_far (own_ext hs3 e9) hr10 (.inr (fun q => ap6 q.symm)), own_box (OwnI.ext hs4 e9) (At.ext h6 e9) (by decide) hr10, At.kept (At.ext hb e9) hr10 (by simp; exact m1), At.kept (At.ext h2 e9) hr10 (by simp; exact m2), Below.wr (he8.trans e9) hr10 hg6w (Nat.le_refl _), ap6⟩
    by_cases hB2 : (code.getD x.b.toNat dIns).op = 2
    rotate_left
    · have hfold : foldI code x = x := by unfold foldI; rw [if_neg (fun e => by rcases e.2.2 with q | q; exact o7 q; exact hB2 q)]
      repeat' (first
        | (show EL _ _ _ _ (_ :: _) _ _
           first
           | (show EL _ _ _ _ (⟨_, .fieldAddr _ _ _, _, _, _, _⟩ :: _) _ _; refine EL.f (FV.fieldAddr rfl rfl rfl rfl rfl) rfl rfl ?_)
           | (show EL _ _ _ _ (⟨_, .indexAddr _ _ _, _, _, _, _⟩ :: _) _ _; refine EL.f (FV.idx rfl rfl rfl rfl (by omega) (by omega)) rfl rfl ?_)
           | (show EL _ _ _ _ (⟨_, .load _ _, _, _, _, _⟩ :: _) _ _; first | refine EL.f (FV.load1 rfl rfl rfl (At.cell h6 rfl)) rfl rfl ?_ | refine EL.f (FV.load1 rfl rfl rfl (hA 0 _ rfl)) rfl rfl ?_ | refine EL.f (FV.load1 rfl rfl rfl (hBq 0 _ rfl)) rfl rfl ?_)
           | (show EL _ _ _ _ (⟨_, .move _, _, _, _, _⟩ :: _) _ _; refine EL.f (FV.move rfl) rfl rfl ?_)
           | (show EL _ _ _ _ (⟨_, .assign _, _, _, _, _⟩ :: _) _ _; refine EL.f (FV.assign rfl) rfl rfl ?_)
           | (show EL _ _ _ _ (⟨_, .pick _ _ _, _, _, _, _⟩ :: _) _ _; first | refine EL.f (FV.pickT rfl rfl) rfl rfl ?_ | refine EL.f (FV.pickF rfl rfl) rfl rfl ?_)
           | (show EL _ _ _ _ (⟨_, .binOp .geq _ _ _ _, _, _, _, _⟩ :: _) _ _; refine EL.fT (FV.geq rfl rfl) rfl (fun _ => rfl) (by omega) ?_)
           | (show EL _ _ _ _ (⟨_, .binOp .eql _ _ _ _, _, _, _, _⟩ :: _) _ _; first | refine EL.fT (FV.eql rfl rfl) rfl (fun _ => rfl) (by omega) ?_ | refine EL.fF (FV.eql rfl rfl) rfl (fun _ => rfl) (by omega) ?_))
        | refine EL.nil ?_
        | refine EW.seq ?_
        | refine EW.region ?_
        | refine EW.skip ?_
        | refine EW.condF rfl ?_)
      exact ⟨g6, s4n, ⟨rfl, rfl, rfl, rfl, rfl, rfl, rfl, rfl, trivial⟩, by rw [hfold]; exact h6, hs3, hs4, hb, h2, he8, ap6⟩
    repeat' (first
      | (show EL _ _ _ _ (_ :: _) _ _
         first
         | (show EL _ _ _ _ (⟨_, .fieldAddr _ _ _, _, _, _, _⟩ :: _) _ _; refine EL.f (FV.fieldAddr rfl rfl rfl rfl rfl) rfl rfl ?_)
         | (show EL _ _ _ _ (⟨_, .indexAddr _ _ _, _, _, _, _⟩ :: _) _ _; refine EL.f (FV.idx rfl rfl rfl rfl (by omega) (by omega)) rfl rfl ?_)
         | (show EL _ _ _ _ (⟨_, .load _ _, _, _, _, _⟩ :: _) _ _; first | refine EL.f (FV.load1 rfl rfl rfl (At.cell h6 rfl)) rfl rfl ?_ | refine EL.f (FV.load1 rfl rfl rfl (hA 0 _ rfl)) rfl rfl ?_ | refine EL.f (FV.load1 rfl rfl rfl (hBq 0 _ rfl)) rfl rfl ?_)
         | (show EL _ _ _ _ (⟨_, .move _, _, _, _, _⟩ :: _) _ _; refine EL.f (FV.move rfl) rfl rfl ?_)
         | (show EL _ _ _ _ (⟨_, .assign _, _, _, _, _⟩ :: _) _ _; refine EL.f (FV.assign rfl) rfl rfl ?_)
         | (show EL _ _ _ _ (⟨_, .pick _ _ _, _, _, _, _⟩ :: _) _ _; first | refine EL.f (FV.pickT rfl rfl) rfl rfl ?_ | refine EL.f (FV.pickF rfl rfl) rfl rfl ?_)
         | (show EL _ _ _ _ (⟨_, .binOp .geq _ _ _ _, _, _, _, _⟩ :: _) _ _; refine EL.fT (FV.geq rfl rfl) rfl (fun _ => rfl) (by omega) ?_)
         | (show EL _ _ _ _ (⟨_, .binOp .eql _ _ _ _, _, _, _, _⟩ :: _) _ _; first | refine EL.fT (FV.eql rfl rfl) rfl (fun _ => rfl) (by omega) ?_ | refine EL.fF (FV.eql rfl rfl) rfl (fun _ => rfl) (by omega) ?_))
      | refine EL.nil ?_
      | refine EW.seq ?_
      | refine EW.region ?_
      | refine EW.condT rfl ?_)
    have hcan : canF code x := ⟨h3, hA2, .inr hB2⟩
    have hA3 := hA 3 _ rfl
    have hB3 := hBq 3 _ rfl
    refine EW.draw (fun w' => Ext w8 w') (pl 0 13 ++ [(13, false), (14, true), (15, true), (16, true), (17, true), (18, true)]) mixed (by decide +kernel) (Ext.drew _) ?_
    repeat' (first
      | refine EP.f rfl (FV.loadAgg (cs := insV x) rfl rfl rfl rfl rfl (fun _ h2 => (At.lies h6).ext h2)) rfl rfl ?_
      | refine EP.f rfl (FV.fieldAddr rfl rfl rfl rfl rfl) rfl rfl ?_
      | refine EP.f rfl (FV.load rfl rfl rfl (fun w' h' => At.cell (At.ext h6 h') rfl)) rfl rfl ?_
      | refine EP.f rfl (FV.idx (s := 4) rfl rfl rfl rfl (by omega) (by omega)) rfl rfl ?_
      | refine EP.f rfl (FV.load rfl rfl rfl (fun w' h' => h'.cell hA3)) rfl rfl ?_
      | refine EP.f rfl (FV.load rfl rfl rfl (fun w' h' => h'.cell hB3)) rfl rfl ?_
      | refine EP.f rfl (FV.move rfl) rfl rfl ?_)
    have ed := Ext.drew w8
    refine EP.h rfl rfl (Hv.call (implOperated x (code.getD x.a.toNat dIns).num (code.getD x.b.toNat dIns).num w8.drew) rfl) rfl (fun _ => rfl) ?_
    rintro r9 w9 ⟨hr9, he9⟩
    have e9 := ed.trans he9
    refine ⟨e9, ?_⟩
    cases e : opVal x.op (code.getD x.a.toNat dIns).num (code.getD x.b.toNat dIns).num with
    | none =>
      rw [e] at hr9
      dsimp only at hr9
      subst hr9
      have hfold : foldI code x = x := by unfold foldI; rw [if_pos hcan, e]
      repeat' (first
        | refine EP.nil ?_
        | refine EP.f rfl (FV.move rfl) rfl rfl ?_
        | refine EP.f rfl (FV.assign rfl) rfl rfl ?_
        | refine EP.f rfl (FV.extract rfl rfl) rfl rfl ?_)
      repeat' (first
        | refine EL.f (FV.move rfl) rfl rfl ?_
        | refine EL.nil ?_
        | refine EW.seq ?_
        | refine EW.region ?_
        | refine EW.skip ?_
        | refine EW.condF rfl ?_)
      exact ⟨g6, s4n, ⟨rfl, rfl, rfl, rfl, rfl, rfl, rfl, rfl, trivial⟩, by rw [hfold]; exact At.ext h6 e9, own_ext hs3 e9, OwnI.ext hs4 e9, At.ext hb e9, At.ext h2 e9, he8.trans e9, ap6⟩
    | some nv =>
      rw [e] at hr9
      dsimp only at hr9
      subst hr9
      have hfold : foldI code x = ⟨2, 0, 0, nv⟩ := by unfold foldI; rw [if_pos hcan, e]
      repeat' (first
        | refine EP.nil ?_
        | refine EP.f rfl (FV.move rfl) rfl rfl ?_
        | refine EP.f rfl (FV.assign rfl) rfl rfl ?_
        | refine EP.f rfl (FV.extract rfl rfl) rfl rfl ?_)
      repeat' (first
        | refine EL.f (FV.buildI rfl rfl rfl rfl) rfl rfl ?_
        | refine EL.f (FV.move rfl) rfl rfl ?_
        | refine EL.nil ?_
        | refine EW.seq ?_
        | refine EW.region ?_
        | refine EW.condT rfl ?_)
      refine EL.h (Hv.storeAggG (vs := insV ⟨2, 0, 0, nv⟩) rfl rfl rfl rfl (insV_one _) (At.ext h6 e9) (Nat.le_refl _)) rfl (fun _ => rfl) ?_
      rintro _ w10 ⟨h10, hr10⟩
      have m1 := At.ne (At.ext hb e9) (At.ext h6 e9) (by decide)
      have m2 := At.ne (At.ext h2 e9) (At.ext h6 e9) (by decide)
      repeat' (first
        | refine EL.nil ?_)
      exact ⟨g6, s4n, ⟨rfl, rfl, rfl, rfl, rfl, rfl, rfl, rfl, trivial⟩, by rw [hfold]; exact h10, own_far (own_ext hs3 e9) hr10 (.inr (fun q => ap6 q.symm)), own_box (OwnI.ext hs4 e9) (At.ext h6 e9) (by decide) hr10, At.kept (At.ext hb e9) hr10 (by simp; exact m1), At.kept (At.ext h2 e9) hr10 (by simp; exact m2), Below.wr (he8.trans e9) hr10 hg6w (Nat.le_refl _), ap6⟩
  · rintro ρ' w7 ⟨g6, s4', hsub, h6, hs3, hs4, hb, h2, hW, ap6⟩
    refine EW.weaken ?_ hsub
    repeat' (first
      | refine EL.f (FV.loadAgg (cs := insV (foldI code x)) rfl rfl rfl rfl rfl (fun _ e => e ▸ At.lies h6)) rfl rfl ?_
      | refine EL.f (FV.move rfl) rfl rfl ?_
      | refine EW.region ?_)
    refine EL.h (Hv.buildIns (y := foldI code x) rfl) rfl (fun _ => rfl) ?_
    rintro _ w8 ⟨gq, rfl, hq, hgq, he8⟩
    have hW8 := hW.trans he8
    skip
    refine EL.h (Hv.appendG (B := w.heap.size) (us := insV (foldI code x)) rfl rfl rfl rfl rfl rfl (own_ext hs3 he8) (insV_length _) (fun j u hj => At.cell hq hj) (insV_one _) (by omega) (by omega) hW8.size) rfl (fun _ => rfl) ?_
    rintro v9 w9 ⟨own9, gr9, bl9, _⟩
    have on9 := Only.thenO he8 (Only.one gr9)
    repeat' (first
      | refine EL.f (FV.move rfl) rfl rfl ?_
      | refine EL.f (FV.assign rfl) rfl rfl ?_
      | refine EL.f (FV.addI rfl rfl (by omega)) rfl rfl ?_
      | refine EL.nil ?_
      | refine EW.region ?_)
    exact ⟨(k + 1, v9, s4'), ⟨rfl, rfl, rfl, rfl, rfl, rfl, rfl, trivial⟩, ⟨by dsimp only; omega, by rw [hnext, insL_snoc]; exact own9, own_far (OwnI.ext hs4 he8) gr9 (own_ne (OwnI.ext hs4 he8) (own_ext hs3 he8) (by decide)), At.only hb on9 (At.apartO hb hs3 (by decide)), At.only h2 on9 (At.apartO h2 hs3 (by decide)), Ext.after hW8 bl9⟩, by dsimp only; omega⟩
end Eng
end Go.Proofs.Ytfkohgfcchhlpaa
