/- FoldTape in the reference; both contracts. Conditions: the lengths. -/
import Derived.Test.YtfkohgfcchhlpaaTfi
namespace Go.Proofs.Ytfkohgfcchhlpaa
open Go Go.RowKit
namespace Eng
theorem EW.seq2 {P : Program} {n : Nat} {Q : Exit → Env → World → Prop} {ρ : Env} {w : World} {a b c : Code} (M : Env → World → Prop) (h : EW P n a (thenE (fun ρ w => EW P n b (thenE M Q) ρ w) Q) ρ w) (h2 : ∀ ρ' w', M ρ' w' → EW P n c Q ρ' w') : EW P n (.seq a (.seq b c)) Q ρ w :=
  EW.seqR h fun _ _ h => EW.seqR h h2
theorem opVal_bounds {op a b n : Int} (e : opVal op a b = some n) : 0 ≤ n ∧ n < 1000003 := by
  unfold opVal at e
  repeat' split at e
  all_goals first | cases e; done | (injection e with e; subst e; exact ⟨Int.emod_nonneg _ (by decide), Int.emod_lt_of_pos _ (by decide)⟩)
theorem opVal_none {op a b : Int} (h : 3 ≤ op ∧ op ≤ 7) (e : opVal op a b = none) : op = 6 ∧ b = 0 := by
  unfold opVal at e
  by_cases o3 : op = 3
  · rw [if_pos o3] at e; cases e
  rw [if_neg o3] at e
  by_cases o4 : op = 4
  · rw [if_pos o4] at e; cases e
  rw [if_neg o4] at e
  by_cases o5 : op = 5
  · rw [if_pos o5] at e; cases e
  rw [if_neg o5] at e
  by_cases o7 : op = 7
  · rw [if_pos o7] at e; cases e
  rw [if_neg o7] at e
  by_cases hz : b = 0
  · exact ⟨by omega, hz⟩
  · rw [if_neg hz] at e; cases e
theorem foldC_num {t : Tp} (ok : okT t = true) : ∀ k, k ≤ t.code.length → ∀ i, i < k → ((foldC t k).getD i dIns).op = 2 → 0 ≤ ((foldC t k).getD i dIns).num ∧ ((foldC t k).getD i dIns).num < 1000003 := by
  intro k
  induction k with
  | zero => intro _ i hi; omega
  | succ k ih =>
    intro hk i hi ho
    have hl := foldC_length t k
    have okk := (okT_iff.1 ok).2.2.2.2.1 k (by omega)
    by_cases hii : i < k
    · rw [foldC, getD_snoc (by omega)] at ho ⊢
      exact ih (by omega) i hii ho
    · obtain rfl : i = k := by omega
      have e1 : (foldC t (i + 1)).getD i dIns = foldI (foldC t i) (t.code.getD i dIns) := by
        rw [foldC]
        conv => lhs; rw [← hl]
        rw [hl]
        have := getD_last (xs := foldC t i) (x := foldI (foldC t i) (t.code.getD i dIns)) (d := dIns)
        rwa [hl] at this
      rw [e1] at ho ⊢
      generalize t.code.getD i dIns = x at *
      unfold foldI at ho ⊢
      by_cases hc : canF (foldC t i) x
      · rw [if_pos hc] at ho ⊢
        cases e : opVal x.op ((foldC t i).getD x.a.toNat dIns).num ((foldC t i).getD x.b.toNat dIns).num with
        | none => rw [e] at ho; have := hc.1; dsimp only at ho; omega
        | some v => exact opVal_bounds e
      · rw [if_neg hc] at ho ⊢
        have := okI_num okk ho
        unfold isNum at this
        rw [inB_iff] at this
        omega
theorem specSameL (n : Nat) (w : World) (hn : n ≤ 1000000) : CallsR Try.prog 134 [.int .i64 n] w fun v w' => OwnI w.heap.size w' v (idL n) ∧ Ext w w' := by
  refine CallsR.enter Try.func134 (by decide +kernel) rfl Try.ntmps134 rfl ?_
  repeat' (first
    | refine EL.f (FV.assign rfl) rfl rfl ?_
    | refine EL.nil ?_
    | refine EW.seq ?_
    | refine EW.region ?_)
  refine EL.h (Hv.build0 rfl rfl) rfl (fun _ => rfl) ?_
  rintro s0 w1 ⟨ho, he1⟩
  repeat' (first
    | refine EL.f (FV.assign rfl) rfl rfl ?_
    | refine EL.nil ?_
    | refine EW.seq ?_
    | refine EW.region ?_
    | refine EW.block ?_)
  refine EW.loop (X := Nat × Value) (fun y wr => y.1 ≤ n ∧ OwnI w.heap.size wr y.2 (idL y.1) ∧ Ext w wr) (fun y => [(3, y.2), (0, .int .i64 n), (4, .int .i64 y.1)]) (fun y => n - y.1) (0, s0) ⟨Nat.zero_le _, ho, he1⟩ ⟨rfl, rfl, rfl, trivial⟩ ?_
  rintro ⟨k, s⟩ wr ⟨hk, hout, he⟩
  dsimp only at *
  by_cases hlt : k < n
  · repeat' (first
      | refine EL.f (FV.move rfl) rfl rfl ?_
      | refine EL.fT (FV.lss rfl rfl) rfl (fun _ => rfl) (by omega) ?_
      | refine EL.nil ?_
      | refine EW.seq ?_
      | refine EW.region ?_
      | refine EW.block ?_
      | refine EW.skip ?_
      | refine EW.condT rfl ?_)
    refine EL.h (Hv.build1A rfl rfl rfl rfl) rfl (fun _ => rfl) ?_
    rintro _ w3 ⟨g3, rfl, h3, hg3, he3⟩
    have e03 := he.trans he3
    have hown := mapR_row (OwnI.ext hout he3)
    skip
    refine EL.h (Hv.append1 (B := w.heap.size) rfl rfl rfl rfl rfl hown (At.cell h3 rfl) rfl (by omega) (by omega) e03.size) rfl (fun _ => rfl) ?_
    rintro s9 w9 ⟨hown9, _, hbl⟩
    repeat' (first
      | refine EL.f (FV.move rfl) rfl rfl ?_
      | refine EL.f (FV.assign rfl) rfl rfl ?_
      | refine EL.f (FV.addI rfl rfl (by omega)) rfl rfl ?_
      | refine EL.nil ?_
      | refine EW.region ?_)
    exact ⟨(k + 1, s9), ⟨rfl, rfl, rfl, trivial⟩, ⟨by dsimp only; omega, mapR_push hown9, Ext.after e03 hbl⟩, by dsimp only; omega⟩
  · obtain rfl : k = n := by omega
    repeat' (first
      | refine EL.f (FV.move rfl) rfl rfl ?_
      | refine EL.f (FV.assign rfl) rfl rfl ?_
      | refine EL.fF (FV.lss rfl rfl) rfl (fun _ => rfl) (by omega) ?_
      | refine EL.nil ?_
      | refine EW.seq ?_
      | refine EW.region ?_
      | refine EW.exit ?_
      | refine EW.ret ?_
      | refine EW.condF rfl ?_)
    exact ⟨_, rfl, hout, he⟩
theorem specNeg (a : Int) (ha : 0 ≤ a ∧ a < 1000003) (w : World) : CallsR Try.prog 132 [.int .i64 a] w fun v w' => v = .int .i64 ((0 - a) % 1000003) ∧ w = w' := by
  refine CallsR.enter Try.func132 (by decide +kernel) rfl Try.ntmps132 rfl ?_
  repeat' (first
    | (show EL _ _ _ _ (_ :: _) _ _
       first
       | (show EL _ _ _ _ (⟨_, .unOp .neg _ _, _, _, _, _⟩ :: _) _ _; refine EL.f (FV.neg rfl (by omega)) rfl rfl ?_)
       | (show EL _ _ _ _ (⟨_, .call _, _, _, _, _⟩ :: _) _ _; (refine EL.h (Hv.call (specResidue _ _) rfl) rfl (fun _ => rfl) ?_; rintro _ _ ⟨rfl, rfl⟩))
       | (show EL _ _ _ _ (⟨_, .move _, _, _, _, _⟩ :: _) _ _; refine EL.f (FV.move rfl) rfl rfl ?_)
       | (show EL _ _ _ _ (⟨_, .assign _, _, _, _, _⟩ :: _) _ _; refine EL.f (FV.assign rfl) rfl rfl ?_))
    | refine EL.nil ?_
    | refine EW.seq ?_
    | refine EW.region ?_
    | refine EW.ret ?_)
  exact ⟨_, rfl, by rw [Int.zero_sub], rfl⟩
set_option maxHeartbeats 16000000 in
theorem specFold (b o : Nat) (t : Tp) (w : World) (h : TapeP w b o t) (hf : Fit t) (ok : okT t = true) :
    CallsR Try.prog 87 [.pointer (some ⟨b, o, none⟩)] w fun r w' => OwnT w.heap.size w' r (endT t (foldC t t.code.length) (idL t.code.length)) ∧ Ext w w' := by
  have htp := h
  obtain ⟨P, p, Q, q, R, r, hb0, r1, r2, r3⟩ := h
  have okc := (okT_iff.1 ok).2.2.2.2.1
  have hcl := (okT_iff.1 ok).2.1
  have hgu := (okT_iff.1 ok).2.2.2.2.2.1
  have hou := (okT_iff.1 ok).2.2.2.2.2.2
  refine CallsR.enterC Try.func87 (by decide +kernel) rfl Try.ntmps87 rfl rfl rfl rfl rfl ?_
  repeat' (first
    | refine EW.seq ?_
    | refine EW.region ?_)
  refine EL.h (Hv.allocA rfl rfl) rfl (fun _ => rfl) ?_
  rintro _ w2 ⟨g2, rfl, hg2, h2, he2⟩
  repeat' (first
    | refine EL.nil ?_
    | refine EW.seq ?_
    | refine EW.region ?_)
  refine EL.h (Hv.build0 rfl rfl) rfl (fun _ => rfl) ?_
  rintro s3 w3 ⟨ho3, he3⟩
  have hw3 := he2.trans he3
  replace h2 := At.ext h2 he3
  have hg2w : w.heap.size ≤ g2 := by omega
  repeat' (first
    | refine EL.f (FV.assign rfl) rfl rfl ?_
    | refine EL.nil ?_
    | refine EW.seq ?_
    | refine EW.region ?_
    | refine EW.block ?_)
  refine EW.loop (X := Nat × Value) (fun y wr => y.1 ≤ t.code.length ∧ wr.ownsRow w.heap.size 65 4 y.2 y.1 (insL (foldC t y.1)) ∧ At wr 32 4 g2 1 1 [.int .i64 0, .slice none 0 0, .slice none 0 0, .slice none 0 0] ∧ Ext w wr) (fun y => [(0, .pointer (some ⟨b, o, none⟩)), (2, .pointer (some ⟨g2, 0, none⟩)), (3, y.2), (4, .int .i64 y.1)]) (fun y => t.code.length - y.1) (0, s3) ⟨Nat.zero_le _, own_lower ho3 he2.size, h2, hw3⟩ ⟨rfl, rfl, rfl, rfl, trivial⟩ ?_
  clear h2 hw3
  rintro ⟨k, s3⟩ wr ⟨hk, hs3, h2, he⟩
  dsimp only at *
  have hbr := hb0.ext he
  by_cases hlt : k < t.code.length
  rotate_left
  · obtain rfl : k = t.code.length := by omega
    have hlen4 : (idL t.code.length).length = t.code.length := mapR_length _ _
    have hlen3 := foldC_length t t.code.length
    obtain ⟨A3, c3, rfl, _⟩ := own_form hs3
    repeat' (first
      | (show EL _ _ _ _ (_ :: _) _ _
         first
         | (show EL _ _ _ _ (⟨_, .nilCheck _, _, _, _, _⟩ :: _) _ _; refine EL.f (FV.nilChk rfl) rfl rfl ?_)
         | (show EL _ _ _ _ (⟨_, .fieldAddr _ _ _, _, _, _, _⟩ :: _) _ _; refine EL.f (FV.fieldAddr rfl rfl rfl rfl rfl) rfl rfl ?_)
         | (show EL _ _ _ _ (⟨_, .load _ _, _, _, _, _⟩ :: _) _ _; refine EL.f (FV.load1 rfl rfl rfl (hbr 1 _ rfl)) rfl rfl ?_)
         | (show EL _ _ _ _ (⟨_, .move _, _, _, _, _⟩ :: _) _ _; refine EL.f (FV.move rfl) rfl rfl ?_)
         | (show EL _ _ _ _ (⟨_, .call _, _, _, _, _⟩ :: _) _ _; refine EL.f (FV.len rfl rfl) rfl rfl ?_)
         | (show EL _ _ _ _ (⟨_, .binOp .lss _ _ _ _, _, _, _, _⟩ :: _) _ _; refine EL.fF (FV.lss rfl rfl) rfl (fun _ => rfl) (by omega) ?_))
      | refine EL.nil ?_
      | refine EW.seq ?_
      | refine EW.region ?_
      | refine EW.exit ?_
      | refine EW.condF rfl ?_)
    refine EL.h (Hv.call (specSameL t.code.length wr (by omega)) rfl) rfl (fun _ => rfl) ?_
    rintro s4 w5 ⟨hs4, he5⟩
    obtain ⟨A4, c4, e4, hr4⟩ := OwnI.form hs4
    rw [hlen4] at e4
    subst e4
    replace hs3 := own_ext hs3 he5
    replace h2 := At.ext h2 he5
    have he05 := he.trans he5
    have hends := specEnds b o t (.slice A3 t.code.length c3) (foldC t t.code.length) A4 c4 (idL t.code.length) w.heap.size w5 hf (by rw [hlen3]; exact hs3) he05.size hr4 (fun i hi => by rw [hlen4]; exact hgu i hi) (fun i hi => by rw [hlen4]; exact hou i hi) (htp.ext he05)
    rw [hlen4] at hends
    skip
    refine EL.h (Hv.call hends rfl) rfl (fun _ => rfl) ?_
    rintro tv w6 ⟨hown, he6⟩
    have ones := OwnT.ones hown
    obtain ⟨a, b', c, e⟩ := OwnT.cells hown
    have one := ones _ _ _ e
    subst e
    replace h2 := At.ext h2 he6
    skip
    refine EL.h (Hv.storeAggG (vs := [.int .i64 (endT t (foldC t t.code.length) (idL t.code.length)).inputs, a, b', c]) rfl rfl rfl rfl (fun v hv => by simp only [List.mem_cons, List.not_mem_nil, or_false] at hv; rcases hv with rfl | rfl | rfl | rfl; rfl; exact one.1; exact one.2.1; exact one.2.2) h2 (Nat.le_refl _)) rfl (fun _ => rfl) ?_
    rintro _ w7 ⟨h7, hr7⟩
    repeat' (first
      | refine EL.nil ?_
      | refine EW.ret ?_)
    exact ⟨g2, 0, [.int .i64 (endT t (foldC t t.code.length) (idL t.code.length)).inputs, a, b', c], rfl, rfl, At.lies h7, OwnT.box hown h2 hr7, Below.wr (he05.trans he6) hr7 hg2w (Nat.le_refl _)⟩
  obtain ⟨x1, p1, rfl, hp⟩ := Rd.elem insV_length (by decide) dIns (r1.ext he) hlt
  have okk := okc k hlt
  have hop := okI_op okk
  have hnum := foldC_num ok k hk
  have hnext : foldC t (k + 1) = foldC t k ++ [foldI (foldC t k) (t.code.getD k dIns)] := rfl
  have hcll := foldC_length t k
  generalize t.code.getD k dIns = x at *
  generalize foldC t k = code at *
  repeat' (first
    | (show EL _ _ _ _ (_ :: _) _ _
       first
       | (show EL _ _ _ _ (⟨_, .nilCheck _, _, _, _, _⟩ :: _) _ _; refine EL.f (FV.nilChk rfl) rfl rfl ?_)
       | (show EL _ _ _ _ (⟨_, .fieldAddr _ _ _, _, _, _, _⟩ :: _) _ _; refine EL.f (FV.fieldAddr rfl rfl rfl rfl rfl) rfl rfl ?_)
       | (show EL _ _ _ _ (⟨_, .load _ _, _, _, _, _⟩ :: _) _ _; refine EL.f (FV.load1 rfl rfl rfl (hbr 1 _ rfl)) rfl rfl ?_)
       | (show EL _ _ _ _ (⟨_, .move _, _, _, _, _⟩ :: _) _ _; refine EL.f (FV.move rfl) rfl rfl ?_)
       | (show EL _ _ _ _ (⟨_, .call _, _, _, _, _⟩ :: _) _ _; refine EL.f (FV.len rfl rfl) rfl rfl ?_)
       | (show EL _ _ _ _ (⟨_, .binOp .lss _ _ _ _, _, _, _, _⟩ :: _) _ _; refine EL.fT (FV.lss rfl rfl) rfl (fun _ => rfl) (by omega) ?_))
    | refine EL.nil ?_
    | refine EW.seq ?_
    | refine EW.region ?_
    | refine EW.skip ?_
    | refine EW.condT rfl ?_)
  refine EW.block ?_
  refine EW.seq2 (fun ρ' w' => ∃ g6, Sub [(0, .pointer (some ⟨b, o, none⟩)), (2, .pointer (some ⟨g2, 0, none⟩)), (3, s3), (4, .int .i64 k), (5, .pointer (some ⟨g6, 0, none⟩))] ρ' ∧ At w' 65 4 g6 1 1 (insV (foldI code x)) ∧ w'.ownsRow w.heap.size 65 4 s3 k (insL code) ∧ At w' 32 4 g2 1 1 [.int .i64 0, .slice none 0 0, .slice none 0 0, .slice none 0 0] ∧ Ext w w' ∧ some g6 ≠ s3.ownBlock) ?_ ?_
  · repeat' (first
      | (show EL _ _ _ _ (_ :: _) _ _
         first
         | (show EL _ _ _ _ (⟨_, .nilCheck _, _, _, _, _⟩ :: _) _ _; refine EL.f (FV.nilChk rfl) rfl rfl ?_)
         | (show EL _ _ _ _ (⟨_, .fieldAddr _ _ _, _, _, _, _⟩ :: _) _ _; refine EL.f (FV.fieldAddr rfl rfl rfl rfl rfl) rfl rfl ?_)
         | (show EL _ _ _ _ (⟨_, .load _ _, _, _, _, _⟩ :: _) _ _; first | refine EL.f (FV.load1 rfl rfl rfl (hbr 1 _ rfl)) rfl rfl ?_ | refine EL.f (FV.loadAgg (cs := insV x) rfl rfl rfl rfl rfl (fun _ e => hp.ext (e ▸ Ext.refl _))) rfl rfl ?_)
         | (show EL _ _ _ _ (⟨_, .indexAddr _ _ _, _, _, _, _⟩ :: _) _ _; refine EL.f (FV.idx rfl rfl rfl rfl (by omega) (by omega)) rfl rfl ?_)
         | (show EL _ _ _ _ (⟨_, .move _, _, _, _, _⟩ :: _) _ _; refine EL.f (FV.move rfl) rfl rfl ?_))
      | refine EW.region ?_)
    refine EL.h (Hv.allocA rfl rfl) rfl (fun _ => rfl) ?_
    rintro _ w5 ⟨g6, rfl, hg6, h5, he5⟩
    skip
    refine EL.h (Hv.storeAggG (vs := insV x) rfl rfl rfl rfl (insV_one _) h5 (Nat.le_refl _)) rfl (fun _ => rfl) ?_
    rintro _ w8 ⟨h6, hr6⟩
    have ap6 : some g6 ≠ s3.ownBlock := fun e => by have := (own_block hs3 e.symm).2; omega
    have hw6 : Ext wr w8 := Below.wr he5 hr6 (by omega) (Nat.le_refl _)
    replace h6 : At w8 65 4 g6 1 1 (insV x) := h6
    replace hs3 := own_ext hs3 hw6
    replace h2 := At.ext h2 hw6
    have he8 := he.trans hw6
    have hg6w : w.heap.size ≤ g6 := by have := he.size; omega
    by_cases h3 : 3 ≤ x.op
    rotate_left
    · have hfold : foldI code x = x := by unfold foldI; rw [if_neg (fun e => h3 e.1)]
      repeat' (first
        | (show EL _ _ _ _ (_ :: _) _ _
           first
           | (show EL _ _ _ _ (⟨_, _, _, _, _, some _⟩ :: _) _ _; first | refine EL.skipU rfl rfl ?_ | refine EL.skip rfl rfl ?_)
           | (show EL _ _ _ _ (⟨_, .fieldAddr _ _ _, _, _, _, _⟩ :: _) _ _; refine EL.f (FV.fieldAddr rfl rfl rfl rfl rfl) rfl rfl ?_)
           | (show EL _ _ _ _ (⟨_, .load _ _, _, _, _, _⟩ :: _) _ _; refine EL.f (FV.load1 rfl rfl rfl (At.cell h6 rfl)) rfl rfl ?_)
           | (show EL _ _ _ _ (⟨_, .move _, _, _, _, _⟩ :: _) _ _; refine EL.f (FV.move rfl) rfl rfl ?_)
           | (show EL _ _ _ _ (⟨_, .pick _ _ _, _, _, _, _⟩ :: _) _ _; refine EL.f (FV.pickF rfl rfl) rfl rfl ?_)
           | (show EL _ _ _ _ (⟨_, .binOp .gtr _ _ _ _, _, _, _, _⟩ :: _) _ _; refine EL.fF (FV.gtr rfl rfl) rfl (fun _ => rfl) (by omega) ?_))
        | refine EL.nil ?_
        | refine EW.seq ?_
        | refine EW.region ?_
        | refine EW.skip ?_
        | refine EW.condF rfl ?_)
      exact ⟨g6, ⟨rfl, rfl, rfl, rfl, rfl, trivial⟩, by rw [hfold]; exact h6, hs3, h2, he8, ap6⟩
    have oa : 0 ≤ x.a ∧ x.a < k := by
      by_cases o7 : x.op = 7
      · exact okI_neg okk o7
      · exact (okI_bin okk (by omega)).1
    obtain ⟨A3, c3, rfl, hrd3⟩ := own_form hs3
    obtain ⟨b3, o3, rfl, hA⟩ := Rd.elem insV_length (by decide) dIns hrd3 (k := x.a.toNat) (by omega)
    by_cases hA2 : (code.getD x.a.toNat dIns).op = 2
    rotate_left
    · have hfold : foldI code x = x := by unfold foldI; rw [if_neg (fun e => hA2 e.2.1)]
      repeat' (first
        | (show EL _ _ _ _ (_ :: _) _ _
           first
           | (show EL _ _ _ _ (⟨_, _, _, _, _, some _⟩ :: _) _ _; first | refine EL.skipU rfl rfl ?_ | refine EL.skip rfl rfl ?_)
           | (show EL _ _ _ _ (⟨_, .fieldAddr _ _ _, _, _, _, _⟩ :: _) _ _; refine EL.f (FV.fieldAddr rfl rfl rfl rfl rfl) rfl rfl ?_)
           | (show EL _ _ _ _ (⟨_, .indexAddr _ _ _, _, _, _, _⟩ :: _) _ _; refine EL.f (FV.idx rfl rfl rfl rfl (by omega) (by omega)) rfl rfl ?_)
           | (show EL _ _ _ _ (⟨_, .load _ _, _, _, _, _⟩ :: _) _ _; first | refine EL.f (FV.load1 rfl rfl rfl (At.cell h6 rfl)) rfl rfl ?_ | refine EL.f (FV.load1 rfl rfl rfl (hA 0 _ rfl)) rfl rfl ?_)
           | (show EL _ _ _ _ (⟨_, .move _, _, _, _, _⟩ :: _) _ _; refine EL.f (FV.move rfl) rfl rfl ?_)
           | (show EL _ _ _ _ (⟨_, .pick _ _ _, _, _, _, _⟩ :: _) _ _; first | refine EL.f (FV.pickT rfl rfl) rfl rfl ?_ | refine EL.f (FV.pickF rfl rfl) rfl rfl ?_)
           | (show EL _ _ _ _ (⟨_, .binOp .gtr _ _ _ _, _, _, _, _⟩ :: _) _ _; refine EL.fT (FV.gtr rfl rfl) rfl (fun _ => rfl) (by omega) ?_)
           | (show EL _ _ _ _ (⟨_, .binOp .eql _ _ _ _, _, _, _, _⟩ :: _) _ _; refine EL.fF (FV.eql rfl rfl) rfl (fun _ => rfl) (by omega) ?_))
        | refine EL.nil ?_
        | refine EW.seq ?_
        | refine EW.region ?_
        | refine EW.skip ?_
        | refine EW.condF rfl ?_)
      exact ⟨g6, ⟨rfl, rfl, rfl, rfl, rfl, trivial⟩, by rw [hfold]; exact h6, hs3, h2, he8, ap6⟩
    have bA := hnum x.a.toNat (by omega) hA2
    have hA3 := hA 3 _ rfl
    have m2 := At.ne h2 h6 (by decide)
    by_cases o7 : x.op = 7
    · have hcan : canF code x := ⟨h3, hA2, .inl o7⟩
      have hfold : foldI code x = ⟨2, 0, 0, (0 - (code.getD x.a.toNat dIns).num) % 1000003⟩ := by
        unfold foldI
        rw [if_pos hcan]
        have : opVal x.op (code.getD x.a.toNat dIns).num (code.getD x.b.toNat dIns).num = some ((0 - (code.getD x.a.toNat dIns).num) % 1000003) := by unfold opVal; rw [if_neg (by omega), if_neg (by omega), if_neg (by omega), if_pos o7]
        rw [this]
      repeat' (first
        | (show EL _ _ _ _ (_ :: _) _ _
           first
           | (show EL _ _ _ _ (⟨_, _, _, _, _, some _⟩ :: _) _ _; refine EL.skip rfl rfl ?_)
           | (show EL _ _ _ _ (⟨_, .fieldAddr _ _ _, _, _, _, _⟩ :: _) _ _; refine EL.f (FV.fieldAddr rfl rfl rfl rfl rfl) rfl rfl ?_)
           | (show EL _ _ _ _ (⟨_, .indexAddr _ _ _, _, _, _, _⟩ :: _) _ _; refine EL.f (FV.idx rfl rfl rfl rfl (by omega) (by omega)) rfl rfl ?_)
           | (show EL _ _ _ _ (⟨_, .load _ _, _, _, _, _⟩ :: _) _ _; first | refine EL.f (FV.load1 rfl rfl rfl (At.cell h6 rfl)) rfl rfl ?_ | refine EL.f (FV.load1 rfl rfl rfl (hA 0 _ rfl)) rfl rfl ?_ | refine EL.f (FV.load1 rfl rfl rfl hA3) rfl rfl ?_)
           | (show EL _ _ _ _ (⟨_, .call _, _, _, _, _⟩ :: _) _ _; (refine EL.h (Hv.call (specNeg _ bA _) rfl) rfl (fun _ => rfl) ?_; rintro _ _ ⟨rfl, rfl⟩))
           | (show EL _ _ _ _ (⟨_, .build _ _, _, _, _, _⟩ :: _) _ _; refine EL.f (FV.buildI rfl rfl rfl rfl) rfl rfl ?_)
           | (show EL _ _ _ _ (⟨_, .move _, _, _, _, _⟩ :: _) _ _; refine EL.f (FV.move rfl) rfl rfl ?_)
           | (show EL _ _ _ _ (⟨_, .assign _, _, _, _, _⟩ :: _) _ _; refine EL.f (FV.assign rfl) rfl rfl ?_)
           | (show EL _ _ _ _ (⟨_, .pick _ _ _, _, _, _, _⟩ :: _) _ _; refine EL.f (FV.pickT rfl rfl) rfl rfl ?_)
           | (show EL _ _ _ _ (⟨_, .binOp .gtr _ _ _ _, _, _, _, _⟩ :: _) _ _; refine EL.fT (FV.gtr rfl rfl) rfl (fun _ => rfl) (by omega) ?_)
           | (show EL _ _ _ _ (⟨_, .binOp .eql _ _ _ _, _, _, _, _⟩ :: _) _ _; refine EL.fT (FV.eql rfl rfl) rfl (fun _ => rfl) (by omega) ?_))
        | refine EL.nil ?_
        | refine EW.seq ?_
        | refine EW.region ?_
        | refine EW.block ?_
        | refine EW.condT rfl ?_)
      refine EL.h (Hv.storeAggG (vs := insV ⟨2, 0, 0, (0 - (code.getD x.a.toNat dIns).num) % 1000003⟩) rfl rfl rfl rfl (insV_one _) h6 (Nat.le_refl _)) rfl (fun _ => rfl) ?_
      rintro _ w10 ⟨h10, hr10⟩
      repeat' (first
        | refine EL.nil ?_)
      exact ⟨g6, ⟨rfl, rfl, rfl, rfl, rfl, trivial⟩, by rw [hfold]; exact h10, own_far hs3 hr10 (.inr (fun q => ap6 q.symm)), At.kept h2 hr10 (by simp; exact m2), Below.wr he8 hr10 hg6w (Nat.le_refl _), ap6⟩
    have ob := (okI_bin okk (by omega)).2
    obtain ⟨b4, o4, e34, hBq⟩ := Rd.elem insV_length (by decide) dIns hrd3 (k := x.b.toNat) (by omega)
    injection e34 with e34
    injection e34 with e34 e35 _
    subst e34 e35
    by_cases hB2 : (code.getD x.b.toNat dIns).op = 2
    rotate_left
    · have hfold : foldI code x = x := by unfold foldI; rw [if_neg (fun e => by rcases e.2.2 with q | q; exact o7 q; exact hB2 q)]
      repeat' (first
        | (show EL _ _ _ _ (_ :: _) _ _
           first
           | (show EL _ _ _ _ (⟨_, .fieldAddr _ _ _, _, _, _, _⟩ :: _) _ _; refine EL.f (FV.fieldAddr rfl rfl rfl rfl rfl) rfl rfl ?_)
           | (show EL _ _ _ _ (⟨_, .indexAddr _ _ _, _, _, _, _⟩ :: _) _ _; refine EL.f (FV.idx rfl rfl rfl rfl (by omega) (by omega)) rfl rfl ?_)
           | (show EL _ _ _ _ (⟨_, .load _ _, _, _, _, _⟩ :: _) _ _; first | refine EL.f (FV.load1 rfl rfl rfl (At.cell h6 rfl)) rfl rfl ?_ | refine EL.f (FV.load1 rfl rfl rfl (hA 0 _ rfl)) rfl rfl ?_ | refine EL.f (FV.load1 rfl rfl rfl (hBq 0 _ rfl)) rfl rfl ?_)
           | (show EL _ _ _ _ (⟨_, .move _, _, _, _, _⟩ :: _) _ _; refine EL.f (FV.move rfl) rfl rfl ?_)
           | (show EL _ _ _ _ (⟨_, .pick _ _ _, _, _, _, _⟩ :: _) _ _; first | refine EL.f (FV.pickT rfl rfl) rfl rfl ?_ | refine EL.f (FV.pickF rfl rfl) rfl rfl ?_)
           | (show EL _ _ _ _ (⟨_, .binOp .gtr _ _ _ _, _, _, _, _⟩ :: _) _ _; refine EL.fT (FV.gtr rfl rfl) rfl (fun _ => rfl) (by omega) ?_)
           | (show EL _ _ _ _ (⟨_, .binOp .eql _ _ _ _, _, _, _, _⟩ :: _) _ _; first | refine EL.fT (FV.eql rfl rfl) rfl (fun _ => rfl) (by omega) ?_ | refine EL.fF (FV.eql rfl rfl) rfl (fun _ => rfl) (by omega) ?_))
        | refine EL.nil ?_
        | refine EW.seq ?_
        | refine EW.region ?_
        | refine EW.skip ?_
        | refine EW.condF rfl ?_)
      exact ⟨g6, ⟨rfl, rfl, rfl, rfl, rfl, trivial⟩, by rw [hfold]; exact h6, hs3, h2, he8, ap6⟩
    have bB := hnum x.b.toNat (by omega) hB2
    have hB3 := hBq 3 _ rfl
    have hcan : canF code x := ⟨h3, hA2, .inr hB2⟩
    cases e : opVal x.op (code.getD x.a.toNat dIns).num (code.getD x.b.toNat dIns).num with
    | none =>
      have hz := opVal_none ⟨h3, hop.2⟩ e
      have hfold : foldI code x = x := by unfold foldI; rw [if_pos hcan, e]
      have hzb := hz.2
      have hzo := hz.1
      repeat' (first
        | (show EL _ _ _ _ (_ :: _) _ _
           first
           | (show EL _ _ _ _ (⟨_, .fieldAddr _ _ _, _, _, _, _⟩ :: _) _ _; refine EL.f (FV.fieldAddr rfl rfl rfl rfl rfl) rfl rfl ?_)
           | (show EL _ _ _ _ (⟨_, .indexAddr _ _ _, _, _, _, _⟩ :: _) _ _; refine EL.f (FV.idx rfl rfl rfl rfl (by omega) (by omega)) rfl rfl ?_)
           | (show EL _ _ _ _ (⟨_, .load _ _, _, _, _, _⟩ :: _) _ _; first | refine EL.f (FV.load1 rfl rfl rfl (At.cell h6 rfl)) rfl rfl ?_ | refine EL.f (FV.load1 rfl rfl rfl (hA 0 _ rfl)) rfl rfl ?_ | refine EL.f (FV.load1 rfl rfl rfl (hBq 0 _ rfl)) rfl rfl ?_ | refine EL.f (FV.load1 rfl rfl rfl hA3) rfl rfl ?_ | refine EL.f (FV.load1 rfl rfl rfl hB3) rfl rfl ?_)
           | (show EL _ _ _ _ (⟨_, .move _, _, _, _, _⟩ :: _) _ _; refine EL.f (FV.move rfl) rfl rfl ?_)
           | (show EL _ _ _ _ (⟨_, .assign _, _, _, _, _⟩ :: _) _ _; refine EL.f (FV.assign rfl) rfl rfl ?_)
           | (show EL _ _ _ _ (⟨_, .pick _ _ _, _, _, _, _⟩ :: _) _ _; first | refine EL.f (FV.pickT rfl rfl) rfl rfl ?_ | refine EL.f (FV.pickF rfl rfl) rfl rfl ?_)
           | (show EL _ _ _ _ (⟨_, .binOp .gtr _ _ _ _, _, _, _, _⟩ :: _) _ _; refine EL.fT (FV.gtr rfl rfl) rfl (fun _ => rfl) (by omega) ?_)
           | (show EL _ _ _ _ (⟨_, .binOp .eql _ _ _ _, _, _, _, _⟩ :: _) _ _; first | refine EL.fT (FV.eql rfl rfl) rfl (fun _ => rfl) (by omega) ?_ | refine EL.fF (FV.eql rfl rfl) rfl (fun _ => rfl) (by omega) ?_)
           | (show EL _ _ _ _ (⟨_, .binOp .neq _ _ _ _, _, _, _, _⟩ :: _) _ _; refine EL.fF (FV.neq rfl rfl) rfl (fun _ => rfl) (by omega) ?_))
        | refine EL.nil ?_
        | refine EW.seq ?_
        | refine EW.region ?_
        | refine EW.block ?_
        | refine EW.skip ?_
        | refine EW.condT rfl ?_
        | refine EW.condF rfl ?_)
      exact ⟨g6, ⟨rfl, rfl, rfl, rfl, rfl, trivial⟩, by rw [hfold]; exact h6, hs3, h2, he8, ap6⟩
    | some nv =>
      have hfold : foldI code x = ⟨2, 0, 0, nv⟩ := by unfold foldI; rw [if_pos hcan, e]
      have hnz : x.op ≠ 6 ∨ (code.getD x.b.toNat dIns).num ≠ 0 := by
        by_cases o6 : x.op = 6
        · right
          intro hz
          unfold opVal at e
          rw [if_neg (by omega), if_neg (by omega), if_neg (by omega), if_neg o7, if_pos hz] at e
          cases e
        · exact .inl o6
      by_cases o6 : x.op = 6
      · have hz : (code.getD x.b.toNat dIns).num ≠ 0 := by rcases hnz with q | q; exact absurd o6 q; exact q
        repeat' (first
          | (show EL _ _ _ _ (_ :: _) _ _
             first
             | (show EL _ _ _ _ (⟨_, .fieldAddr _ _ _, _, _, _, _⟩ :: _) _ _; refine EL.f (FV.fieldAddr rfl rfl rfl rfl rfl) rfl rfl ?_)
             | (show EL _ _ _ _ (⟨_, .indexAddr _ _ _, _, _, _, _⟩ :: _) _ _; refine EL.f (FV.idx rfl rfl rfl rfl (by omega) (by omega)) rfl rfl ?_)
             | (show EL _ _ _ _ (⟨_, .load _ _, _, _, _, _⟩ :: _) _ _; first | refine EL.f (FV.load1 rfl rfl rfl (At.cell h6 rfl)) rfl rfl ?_ | refine EL.f (FV.load1 rfl rfl rfl (hA 0 _ rfl)) rfl rfl ?_ | refine EL.f (FV.load1 rfl rfl rfl (hBq 0 _ rfl)) rfl rfl ?_ | refine EL.f (FV.load1 rfl rfl rfl hA3) rfl rfl ?_ | refine EL.f (FV.load1 rfl rfl rfl hB3) rfl rfl ?_)
             | (show EL _ _ _ _ (⟨_, .move _, _, _, _, _⟩ :: _) _ _; refine EL.f (FV.move rfl) rfl rfl ?_)
             | (show EL _ _ _ _ (⟨_, .assign _, _, _, _, _⟩ :: _) _ _; refine EL.f (FV.assign rfl) rfl rfl ?_)
             | (show EL _ _ _ _ (⟨_, .pick _ _ _, _, _, _, _⟩ :: _) _ _; first | refine EL.f (FV.pickT rfl rfl) rfl rfl ?_ | refine EL.f (FV.pickF rfl rfl) rfl rfl ?_)
             | (show EL _ _ _ _ (⟨_, .binOp .gtr _ _ _ _, _, _, _, _⟩ :: _) _ _; refine EL.fT (FV.gtr rfl rfl) rfl (fun _ => rfl) (by omega) ?_)
             | (show EL _ _ _ _ (⟨_, .binOp .eql _ _ _ _, _, _, _, _⟩ :: _) _ _; first | refine EL.fT (FV.eql rfl rfl) rfl (fun _ => rfl) (by omega) ?_ | refine EL.fF (FV.eql rfl rfl) rfl (fun _ => rfl) (by omega) ?_)
             | (show EL _ _ _ _ (⟨_, .binOp .neq _ _ _ _, _, _, _, _⟩ :: _) _ _; first | refine EL.fT (FV.neq rfl rfl) rfl (fun _ => rfl) (by omega) ?_ | refine EL.fF (FV.neq rfl rfl) rfl (fun _ => rfl) (by omega) ?_))
          | refine EL.nil ?_
          | refine EW.seq ?_
          | refine EW.region ?_
          | refine EW.block ?_
          | refine EW.condT rfl ?_
          | refine EW.condF rfl ?_)
        refine EW.draw (fun w' => Ext w8 w') (pl 0 9 ++ [(9, false), (10, true), (11, false)]) mixed (by decide +kernel) (Ext.drew _) ?_
        repeat' (first
          | refine EP.f rfl (FV.fieldAddr rfl rfl rfl rfl rfl) rfl rfl ?_
          | refine EP.f rfl (FV.load rfl rfl rfl (fun w' h' => At.cell (At.ext h6 h') rfl)) rfl rfl ?_
          | refine EP.f rfl (FV.idx (s := 4) rfl rfl rfl rfl (by omega) (by omega)) rfl rfl ?_
          | refine EP.f rfl (FV.load rfl rfl rfl (fun w' h' => h'.cell hB3)) rfl rfl ?_
          | refine EP.f rfl (FV.move rfl) rfl rfl ?_)
        have ed := Ext.drew w8
        refine EP.h rfl rfl (Hv.call (specValue x.op (code.getD x.a.toNat dIns).num (code.getD x.b.toNat dIns).num nv w8.drew bA bB o7 e) rfl) rfl (fun _ => rfl) ?_
        rintro _ _ ⟨rfl, rfl⟩
        refine ⟨ed, ?_⟩
        repeat' (first
          | refine EP.f rfl (FV.buildI rfl rfl rfl rfl) rfl rfl ?_)
        refine EP.last rfl rfl (by decide +kernel) (Hv.storeAggG (vs := insV ⟨2, 0, 0, nv⟩) rfl rfl rfl rfl (insV_one _) (At.ext h6 ed) (Nat.le_refl _)) rfl (fun _ => rfl) ?_
        rintro _ w10 ⟨h10, hr10⟩
        skip
        exact ⟨g6, ⟨rfl, rfl, rfl, rfl, rfl, trivial⟩, by rw [hfold]; exact h10, own_far (own_ext hs3 ed) hr10 (.inr (fun q => ap6 q.symm)), At.kept (At.ext h2 ed) hr10 (by simp; exact m2), Below.wr (he8.trans ed) hr10 hg6w (Nat.le_refl _), ap6⟩
      · repeat' (first
          | (show EL _ _ _ _ (_ :: _) _ _
             first
             | (show EL _ _ _ _ (⟨_, _, _, _, _, some _⟩ :: _) _ _; refine EL.skip rfl rfl ?_)
             | (show EL _ _ _ _ (⟨_, .fieldAddr _ _ _, _, _, _, _⟩ :: _) _ _; refine EL.f (FV.fieldAddr rfl rfl rfl rfl rfl) rfl rfl ?_)
             | (show EL _ _ _ _ (⟨_, .indexAddr _ _ _, _, _, _, _⟩ :: _) _ _; refine EL.f (FV.idx rfl rfl rfl rfl (by omega) (by omega)) rfl rfl ?_)
             | (show EL _ _ _ _ (⟨_, .load _ _, _, _, _, _⟩ :: _) _ _; first | refine EL.f (FV.load1 rfl rfl rfl (At.cell h6 rfl)) rfl rfl ?_ | refine EL.f (FV.load1 rfl rfl rfl (hA 0 _ rfl)) rfl rfl ?_ | refine EL.f (FV.load1 rfl rfl rfl (hBq 0 _ rfl)) rfl rfl ?_ | refine EL.f (FV.load1 rfl rfl rfl hA3) rfl rfl ?_)
             | (show EL _ _ _ _ (⟨_, .move _, _, _, _, _⟩ :: _) _ _; refine EL.f (FV.move rfl) rfl rfl ?_)
             | (show EL _ _ _ _ (⟨_, .assign _, _, _, _, _⟩ :: _) _ _; refine EL.f (FV.assign rfl) rfl rfl ?_)
             | (show EL _ _ _ _ (⟨_, .pick _ _ _, _, _, _, _⟩ :: _) _ _; first | refine EL.f (FV.pickT rfl rfl) rfl rfl ?_ | refine EL.f (FV.pickF rfl rfl) rfl rfl ?_)
             | (show EL _ _ _ _ (⟨_, .binOp .gtr _ _ _ _, _, _, _, _⟩ :: _) _ _; refine EL.fT (FV.gtr rfl rfl) rfl (fun _ => rfl) (by omega) ?_)
             | (show EL _ _ _ _ (⟨_, .binOp .eql _ _ _ _, _, _, _, _⟩ :: _) _ _; first | refine EL.fT (FV.eql rfl rfl) rfl (fun _ => rfl) (by omega) ?_ | refine EL.fF (FV.eql rfl rfl) rfl (fun _ => rfl) (by omega) ?_)
             | (show EL _ _ _ _ (⟨_, .binOp .neq _ _ _ _, _, _, _, _⟩ :: _) _ _; refine EL.fT (FV.neq rfl rfl) rfl (fun _ => rfl) (by omega) ?_))
          | refine EL.nil ?_
          | refine EW.seq ?_
          | refine EW.region ?_
          | refine EW.block ?_
          | refine EW.condT rfl ?_
          | refine EW.condF rfl ?_)
        refine EW.draw (fun w' => Ext w8 w') (pl 0 9 ++ [(9, false), (10, true), (11, false)]) mixed (by decide +kernel) (Ext.drew _) ?_
        repeat' (first
          | refine EP.f rfl (FV.fieldAddr rfl rfl rfl rfl rfl) rfl rfl ?_
          | refine EP.f rfl (FV.load rfl rfl rfl (fun w' h' => At.cell (At.ext h6 h') rfl)) rfl rfl ?_
          | refine EP.f rfl (FV.idx (s := 4) rfl rfl rfl rfl (by omega) (by omega)) rfl rfl ?_
          | refine EP.f rfl (FV.load rfl rfl rfl (fun w' h' => h'.cell hB3)) rfl rfl ?_
          | refine EP.f rfl (FV.move rfl) rfl rfl ?_)
        have ed := Ext.drew w8
        refine EP.h rfl rfl (Hv.call (specValue x.op (code.getD x.a.toNat dIns).num (code.getD x.b.toNat dIns).num nv w8.drew bA bB o7 e) rfl) rfl (fun _ => rfl) ?_
        rintro _ _ ⟨rfl, rfl⟩
        refine ⟨ed, ?_⟩
        repeat' (first
          | refine EP.f rfl (FV.buildI rfl rfl rfl rfl) rfl rfl ?_)
        refine EP.last rfl rfl (by decide +kernel) (Hv.storeAggG (vs := insV ⟨2, 0, 0, nv⟩) rfl rfl rfl rfl (insV_one _) (At.ext h6 ed) (Nat.le_refl _)) rfl (fun _ => rfl) ?_
        rintro _ w10 ⟨h10, hr10⟩
        skip
        exact ⟨g6, ⟨rfl, rfl, rfl, rfl, rfl, trivial⟩, by rw [hfold]; exact h10, own_far (own_ext hs3 ed) hr10 (.inr (fun q => ap6 q.symm)), At.kept (At.ext h2 ed) hr10 (by simp; exact m2), Below.wr (he8.trans ed) hr10 hg6w (Nat.le_refl _), ap6⟩
  · rintro ρ' w7 ⟨g6, hsub, h6, hs3, h2, hW, ap6⟩
    refine EW.weaken ?_ hsub
    repeat' (first
      | refine EL.f (FV.loadAgg (cs := insV (foldI code x)) rfl rfl rfl rfl rfl (fun _ e => e ▸ At.lies h6)) rfl rfl ?_
      | refine EL.f (FV.move rfl) rfl rfl ?_
      | refine EW.region ?_)
    refine EL.h (Hv.buildIns (y := foldI code x) rfl) rfl (fun _ => rfl) ?_
    rintro _ w8 ⟨gq, rfl, hq, hgq, he8⟩
    have hW8 := hW.trans he8
    skip
    refine EL.h (Hv.appendG (B := w.heap.size) (us := insV (foldI code x)) rfl rfl rfl rfl rfl rfl (own_ext hs3 he8) (insV_length _) (fun j u hj => At.cell hq hj) (insV_one _) (by omega) (by omega) hW8.size) rfl (fun _ => rfl) ?_
    rintro v9 w9 ⟨own9, gr9, bl9, _⟩
    have on9 := Only.thenO he8 (Only.one gr9)
    repeat' (first
      | refine EL.f (FV.move rfl) rfl rfl ?_
      | refine EL.f (FV.assign rfl) rfl rfl ?_
      | refine EL.f (FV.addI rfl rfl (by omega)) rfl rfl ?_
      | refine EL.nil ?_
      | refine EW.region ?_)
    exact ⟨(k + 1, v9), ⟨rfl, rfl, rfl, rfl, trivial⟩, ⟨by dsimp only; omega, by rw [hnext, insL_snoc]; exact own9, At.only h2 on9 (At.apartO h2 hs3 (by decide)), Ext.after hW8 bl9⟩, by dsimp only; omega⟩
theorem implFoldTapeT (v : Value) (t : Tp) (w : World) (h : TapeV w v t) (hf : Fit t) : CallsR Try.prog 37 [v] w (TapOut w (fFoldTape t)) := by
  have hv := h
  obtain ⟨P, p, Q, q, R, r, rfl, r1, r2, r3⟩ := h
  refine CallsR.enterCT Try.func37 (by decide +kernel) rfl Try.ntmps37 rfl rfl rfl rfl rfl ?_
  repeat' (first
    | refine EW.seq ?_
    | refine EW.region ?_)
  refine EL.h (Hv.boxA (sz := 4) rfl rfl) rfl (fun _ => rfl) ?_
  rintro _ w1 ⟨g1, rfl, hg1, hb, he1⟩
  skip
  refine EL.h (Hv.allocA rfl rfl) rfl (fun _ => rfl) ?_
  rintro _ w2 ⟨g2, rfl, hg2, h2, he2⟩
  have s1 := he1.size
  have hw2 := he1.trans he2
  replace hb := At.ext hb he2
  repeat' (first
    | refine EL.f (FV.loadAgg (cs := [.int .i64 t.inputs, .slice P t.code.length p, .slice Q t.guards.length q, .slice R t.outs.length r]) rfl rfl rfl rfl rfl (fun _ e => e ▸ At.lies hb)) rfl rfl ?_
    | refine EL.f (FV.assign rfl) rfl rfl ?_
    | refine EL.nil ?_
    | refine EW.seq ?_
    | refine EW.region ?_)
  refine EL.h (Hv.call (implShorter _ t _ (fun t => endT t (foldC t t.code.length) (idL t.code.length)) w2 (hv.ext hw2) hf (fun ok v' w' hv' => implFolded v' t w' hv' hf ok)) rfl) rfl (fun _ => rfl) ?_
  rintro _ w3 ⟨tv, rfl, hown, he3⟩
  replace h2 := At.ext h2 he3
  replace hown : OwnT w2.heap.size w3 tv (fFoldTape t).1 := hown
  have ones := OwnT.ones hown
  obtain ⟨a, b, c, e⟩ := OwnT.cells hown
  have one := ones _ _ _ e
  subst e
  repeat' (first
    | refine EL.f (FV.extract rfl rfl) rfl rfl ?_)
  refine EL.h (Hv.storeAggG (vs := [.int .i64 (fFoldTape t).1.inputs, a, b, c]) rfl rfl rfl rfl (fun v hv => by simp only [List.mem_cons, List.not_mem_nil, or_false] at hv; rcases hv with rfl | rfl | rfl | rfl; rfl; exact one.1; exact one.2.1; exact one.2.2) h2 (Nat.le_refl _)) rfl (fun _ => rfl) ?_
  rintro _ w5 ⟨h5, hr5⟩
  repeat' (first
    | refine EL.f (FV.assign rfl) rfl rfl ?_
    | refine EL.nil ?_
    | refine EW.ret ?_)
  exact ⟨g2, 0, [.int .i64 (fFoldTape t).1.inputs, a, b, c], _, rfl, rfl, At.lies h5, rfl, _, rfl, OwnT.lower (OwnT.box hown h2 hr5) hw2.size, Below.wr (hw2.trans he3) hr5 (by omega) (Nat.le_refl _)⟩
theorem specFoldTapeT (v : Value) (t : Tp) (w : World) (h : TapeV w v t) (hf : Fit t) : CallsR Try.prog 36 [v] w (TapOut w (fFoldTape t)) := by
  obtain ⟨P, p, Q, q, R, r, rfl, r1, r2, r3⟩ := h
  refine CallsR.enterCT Try.func36 (by decide +kernel) rfl Try.ntmps36 rfl rfl rfl rfl rfl ?_
  repeat' (first
    | refine EW.seq ?_
    | refine EW.region ?_)
  refine EL.h (Hv.boxA (sz := 4) rfl rfl) rfl (fun _ => rfl) ?_
  rintro _ w1 ⟨g1, rfl, hg1, hb, he1⟩
  have tp1 : TapeP w1 g1 0 t := ⟨P, p, Q, q, R, r, At.lies hb, r1.ext he1, r2.ext he1, r3.ext he1⟩
  skip
  refine EL.h (Hv.allocA rfl rfl) rfl (fun _ => rfl) ?_
  rintro _ w2 ⟨g2, rfl, hg2, h2, he2⟩
  have s1 := he1.size
  repeat' (first
    | refine EL.f (FV.assign rfl) rfl rfl ?_
    | refine EL.nil ?_
    | refine EW.seq ?_
    | refine EW.region ?_)
  refine EL.h (Hv.call (specOkT g1 0 t w2 (tp1.ext he2) hf) rfl) rfl (fun _ => rfl) ?_
  rintro _ w3 ⟨rfl, he3⟩
  have hw3 := (he1.trans he2).trans he3
  replace h2 := At.ext h2 he3
  unfold fFoldTape
  cases ok : okT t
  · repeat' (first
      | refine EL.f (FV.not rfl) rfl rfl ?_
      | refine EL.nil ?_
      | refine EL.f FV.buildT0 rfl rfl ?_
      | refine EW.seq ?_
      | refine EW.region ?_
      | refine EW.condT rfl ?_)
    refine EL.h (Hv.storeAggG (vs := [.int .i64 0, .slice none 0 0, .slice none 0 0, .slice none 0 0]) rfl rfl rfl rfl (fun v hv => by simp only [List.mem_cons, List.not_mem_nil, or_false] at hv; rcases hv with rfl | rfl | rfl | rfl <;> rfl) h2 (Nat.le_refl _)) rfl (fun _ => rfl) ?_
    rintro _ w4 ⟨h4, hr4⟩
    repeat' (first
      | refine EL.f (FV.assign rfl) rfl rfl ?_
      | refine EL.nil ?_
      | refine EW.ret ?_)
    exact ⟨g2, 0, [.int .i64 0, .slice none 0 0, .slice none 0 0, .slice none 0 0], _, rfl, rfl, At.lies h4, rfl, _, rfl, OwnT.empty _ _, Below.wr hw3 hr4 (by omega) (Nat.le_refl _)⟩
  · rw [if_pos rfl]
    repeat' (first
      | refine EL.f (FV.not rfl) rfl rfl ?_
      | refine EL.nil ?_
      | refine EW.seq ?_
      | refine EW.region ?_
      | refine EW.skip ?_
      | refine EW.condF rfl ?_)
    refine EL.h (Hv.call (specFold g1 0 t w3 ((tp1.ext he2).ext he3) hf ok) rfl) rfl (fun _ => rfl) ?_
    rintro tv w4 ⟨hown, he4⟩
    have ones := OwnT.ones hown
    obtain ⟨a, b, c, e⟩ := OwnT.cells hown
    have one := ones _ _ _ e
    subst e
    replace h2 := At.ext h2 he4
    skip
    refine EL.h (Hv.storeAggG (vs := [.int .i64 (endT t (foldC t t.code.length) (idL t.code.length)).inputs, a, b, c]) rfl rfl rfl rfl (fun v hv => by simp only [List.mem_cons, List.not_mem_nil, or_false] at hv; rcases hv with rfl | rfl | rfl | rfl; rfl; exact one.1; exact one.2.1; exact one.2.2) h2 (Nat.le_refl _)) rfl (fun _ => rfl) ?_
    rintro _ w5 ⟨h5, hr5⟩
    repeat' (first
      | refine EL.f (FV.assign rfl) rfl rfl ?_
      | refine EL.nil ?_
      | refine EW.ret ?_)
    exact ⟨g2, 0, [.int .i64 (endT t (foldC t t.code.length) (idL t.code.length)).inputs, a, b, c], _, rfl, rfl, At.lies h5, rfl, _, rfl, OwnT.lower (OwnT.box hown h2 hr5) hw3.size, Below.wr (hw3.trans he4) hr5 (by omega) (Nat.le_refl _)⟩
end Eng
end Go.Proofs.Ytfkohgfcchhlpaa
