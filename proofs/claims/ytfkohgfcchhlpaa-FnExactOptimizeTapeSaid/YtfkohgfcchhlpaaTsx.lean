/- ShareTape in the reference; the contracts of both. Conditions: the lengths. -/
import Derived.Test.YtfkohgfcchhlpaaTsw
namespace Go.Proofs.Ytfkohgfcchhlpaa
open Go Go.RowKit
namespace Eng

/-- An assertion ahead of the last of three. -/
theorem EW.seq2 {P : Program} {n : Nat} {Q : Exit → Env → World → Prop} {ρ : Env} {w : World} {a b c : Code} (M : Env → World → Prop) (h : EW P n a (thenE (fun ρ w => EW P n b (thenE M Q) ρ w) Q) ρ w) (h2 : ∀ ρ' w', M ρ' w' → EW P n c Q ρ' w') : EW P n (.seq a (.seq b c)) Q ρ w :=
  EW.seqR h fun _ _ h => EW.seqR h h2
theorem mem_take_succ {gs : List Gd} {x : Gd} {i : Nat} (h : i < gs.length) : decide (x ∈ gs.take (i + 1)) = (decide (x ∈ gs.take i) || decide (gs.getD i dGd = x)) := by
  have e : gs.take (i + 1) = gs.take i ++ [gs.getD i dGd] := by
    rw [List.take_succ_eq_append_getElem h]
    simp [h]
  rw [e]
  by_cases h1 : x ∈ gs.take i
  · simp [h1]
  · by_cases h2 : gs.getD i dGd = x
    · rw [h2]; simp
    · have h3 : ¬ x = gs.getD i dGd := fun q => h2 q.symm
      rw [decide_eq_false h1, decide_eq_false h2, decide_eq_false (by rw [List.mem_append, not_or]; exact ⟨h1, by simpa using h3⟩)]
      rfl
theorem shC_pad (t : Tp) : padT (shC t t.code.length).2 t.code.length = (shC t t.code.length).2 := by
  have := (shC_len t t.code.length).1
  unfold padT
  rw [this, Nat.sub_self]
  simp
set_option maxHeartbeats 16000000 in
theorem specShare (b o : Nat) (t : Tp) (w : World) (h : TapeP w b o t) (hf : Fit t) (ok : okT t = true) :
    CallsR Try.prog 80 [.pointer (some ⟨b, o, none⟩)] w fun r w' => OwnT w.heap.size w' r (shareT t) ∧ Ext w w' := by
  have htp := h
  obtain ⟨P, p, Q, q, R, r, hb0, r1, r2, r3⟩ := h
  have okc := (okT_iff.1 ok).2.2.2.2.1
  have hcl := (okT_iff.1 ok).2.1
  have hgl := (okT_iff.1 ok).2.2.1
  have hgu := (okT_iff.1 ok).2.2.2.2.2.1
  have hou := (okT_iff.1 ok).2.2.2.2.2.2
  refine CallsR.enterC Try.func80 (by decide +kernel) rfl Try.ntmps80 rfl rfl rfl rfl rfl ?_
  repeat' (first
    | refine EW.seq ?_
    | refine EW.region ?_)
  refine EL.h (Hv.allocA rfl rfl) rfl (fun _ => rfl) ?_
  rintro _ w2 ⟨g2, rfl, hg2, h2, he2⟩
  have l2 := At.lt h2
  have s2 := he2.size
  repeat' (first
    | (show EL _ _ _ _ (_ :: _) _ _
       first
       | (show EL _ _ _ _ (⟨_, .nilCheck _, _, _, _, _⟩ :: _) _ _; refine EL.f (FV.nilChk rfl) rfl rfl ?_)
       | (show EL _ _ _ _ (⟨_, .fieldAddr _ _ _, _, _, _, _⟩ :: _) _ _; refine EL.f (FV.fieldAddr rfl rfl rfl rfl rfl) rfl rfl ?_)
       | (show EL _ _ _ _ (⟨_, .load _ _, _, _, _, _⟩ :: _) _ _; refine EL.f (FV.load1 rfl rfl rfl ((hb0.ext he2) 1 _ rfl)) rfl rfl ?_)
       | (show EL _ _ _ _ (⟨_, .move _, _, _, _, _⟩ :: _) _ _; refine EL.f (FV.move rfl) rfl rfl ?_)
       | (show EL _ _ _ _ (⟨_, .call _, _, _, _, _⟩ :: _) _ _; refine EL.f (FV.len rfl rfl) rfl rfl ?_))
    | refine EL.nil ?_
    | refine EW.seq ?_
    | refine EW.region ?_)
  refine EL.h (Hv.make (kl := .i64) rfl rfl rfl rfl (by omega) (by omega)) rfl (fun _ => rfl) ?_
  rintro _ w3 ⟨g3, rfl, hg3, h3, he3⟩
  rw [madeInts] at h3
  repeat' (first
    | refine EL.f (FV.assign rfl) rfl rfl ?_
    | refine EL.nil ?_
    | refine EW.seq ?_
    | refine EW.region ?_)
  refine EL.h (Hv.build0 rfl rfl) rfl (fun _ => rfl) ?_
  rintro s4 w4 ⟨ho4, he4⟩
  have z3 := he3.size
  have e24 := he3.trans he4
  have hw4 := he2.trans e24
  replace h2 := At.ext h2 e24
  replace h3 := At.ext h3 he4
  have hg2w : w.heap.size ≤ g2 := by omega
  have hg3w : w.heap.size ≤ g3 := by omega
  have n23 : g2 ≠ g3 := by omega
  repeat' (first
    | refine EL.f (FV.assign rfl) rfl rfl ?_
    | refine EL.nil ?_
    | refine EW.seq ?_
    | refine EW.region ?_
    | refine EW.block ?_)
  refine EW.loop (X := Nat × Value) (fun y wr => y.1 ≤ t.code.length ∧ wr.ownsRow w.heap.size 65 4 y.2 (shC t y.1).1.length (insL (shC t y.1).1) ∧ At wr 2 1 g3 t.code.length t.code.length (ints (padT (shC t y.1).2 t.code.length)) ∧ At wr 32 4 g2 1 1 [.int .i64 0, .slice none 0 0, .slice none 0 0, .slice none 0 0] ∧ Ext w wr) (fun y => [(0, .pointer (some ⟨b, o, none⟩)), (2, .pointer (some ⟨g2, 0, none⟩)), (3, .slice (some ⟨g3, 0, none⟩) t.code.length t.code.length), (4, y.2), (5, .int .i64 y.1)]) (fun y => t.code.length - y.1) (0, s4) ⟨Nat.zero_le _, own_lower ho4 (by omega), by rw [show (shC t 0).2 = [] from rfl, padT_nil]; exact h3, h2, hw4⟩ ⟨rfl, rfl, rfl, rfl, rfl, trivial⟩ ?_
  clear h2 h3 hw4 ho4
  rintro ⟨k, s4⟩ wr ⟨hk, hs4, h3, h2, he⟩
  dsimp only at *
  have hbr := hb0.ext he
  have hlen := shC_len t k
  by_cases hlt : k < t.code.length
  rotate_left
  · obtain rfl : k = t.code.length := by omega
    rw [shC_pad] at h3
    have hend := specEnds b o t s4 (shC t t.code.length).1 (some ⟨g3, 0, none⟩) t.code.length (shC t t.code.length).2 w.heap.size wr hf hs4 he.size (At.rd h3) (fun i hi => by rw [hlen.1]; exact hgu i hi) (fun i hi => by rw [hlen.1]; exact hou i hi) (htp.ext he)
    rw [hlen.1] at hend
    repeat' (first
      | (show EL _ _ _ _ (_ :: _) _ _
         first
         | (show EL _ _ _ _ (⟨_, .nilCheck _, _, _, _, _⟩ :: _) _ _; refine EL.f (FV.nilChk rfl) rfl rfl ?_)
         | (show EL _ _ _ _ (⟨_, .fieldAddr _ _ _, _, _, _, _⟩ :: _) _ _; refine EL.f (FV.fieldAddr rfl rfl rfl rfl rfl) rfl rfl ?_)
         | (show EL _ _ _ _ (⟨_, .load _ _, _, _, _, _⟩ :: _) _ _; refine EL.f (FV.load1 rfl rfl rfl (hbr 1 _ rfl)) rfl rfl ?_)
         | (show EL _ _ _ _ (⟨_, .move _, _, _, _, _⟩ :: _) _ _; refine EL.f (FV.move rfl) rfl rfl ?_)
         | (show EL _ _ _ _ (⟨_, .call _, _, _, _, _⟩ :: _) _ _; refine EL.f (FV.len rfl rfl) rfl rfl ?_)
         | (show EL _ _ _ _ (⟨_, .binOp .lss _ _ _ _, _, _, _, _⟩ :: _) _ _; refine EL.fF (FV.lss rfl rfl) rfl (fun _ => rfl) (by omega) ?_))
      | refine EL.nil ?_
      | refine EW.seq ?_
      | refine EW.region ?_
      | refine EW.exit ?_
      | refine EW.condF rfl ?_)
    refine EL.h (Hv.call hend rfl) rfl (fun _ => rfl) ?_
    rintro tv w6 ⟨⟨va, vb, vc, rfl, oa, ob, oc⟩, he6⟩
    have one1 := own_one oa
    have one2 := own_one ob
    have one3 := own_one oc
    have hw6 := he.trans he6
    skip
    refine EL.h (Hv.allocA rfl rfl) rfl (fun _ => rfl) ?_
    rintro _ w7 ⟨g9, rfl, hg9, h7, he7⟩
    skip
    refine EL.h (Hv.storeAggG (vs := [.int .i64 t.inputs, va, vb, vc]) rfl rfl rfl rfl (fun v hv => by simp only [List.mem_cons, List.not_mem_nil, or_false] at hv; rcases hv with rfl | rfl | rfl | rfl; rfl; exact one1.1; exact one2.1; exact one3.1) h7 (Nat.le_refl _)) rfl (fun _ => rfl) ?_
    rintro _ w8 ⟨h8', hr8⟩
    have e68 : Ext w6 w8 := Below.wr he7 hr8 (by omega) (Nat.le_refl _)
    have h8 : At w8 32 4 g9 1 1 [.int .i64 t.inputs, va, vb, vc] := h8'
    clear h8'
    have n29 : g2 ≠ g9 := by have := At.lt h2; have := he6.size; omega
    replace oa := own_ext oa e68
    replace ob := own_ext ob e68
    replace oc := OwnI.ext oc e68
    replace h2 := At.ext h2 (he6.trans e68)
    have hw8 := hw6.trans e68
    have zw6 := hw6.size
    have hg9w : w.heap.size ≤ g9 := by omega
    have zw8 := hw8.size
    clear h7 hr8 hs4 hend he6 he7 e68 hw6 he hbr h3
    simp only [endT] at oa ob oc
    have hgl' := gdsTo_length t (shC t t.code.length).2 t.guards.length
    show EL _ _ _ _ _ _ _
    unfold shareT
    generalize gdsTo t (shC t t.code.length).2 t.guards.length = gs at *
    obtain ⟨A5, c5, rfl, hr5⟩ := own_form ob
    rw [hgl'] at h8
    repeat' (first
      | refine EL.nil ?_
      | refine EW.seq ?_
      | refine EW.region ?_)
    refine EL.h (Hv.build0 rfl rfl) rfl (fun _ => rfl) ?_
    rintro s10 w9 ⟨ho9, he9⟩
    repeat' (first
      | refine EL.f (FV.assign rfl) rfl rfl ?_
      | refine EL.nil ?_
      | refine EW.seq ?_
      | refine EW.region ?_
      | refine EW.block ?_)
    refine EW.loop (X := Nat × Value) (fun y wt => y.1 ≤ t.guards.length ∧ wt.ownsRow w8.heap.size 67 2 y.2 (ddG gs y.1).length (gdL (ddG gs y.1)) ∧ Ext w8 wt) (fun y => [(2, .pointer (some ⟨g2, 0, none⟩)), (9, .pointer (some ⟨g9, 0, none⟩)), (10, y.2), (11, .int .i64 y.1)]) (fun y => t.guards.length - y.1) (0, s10) ⟨Nat.zero_le _, ho9, he9⟩ ⟨rfl, rfl, rfl, rfl, trivial⟩ ?_
    clear ho9 he9
    rintro ⟨j, s10⟩ wt ⟨hj, ho10, he10⟩
    dsimp only at *
    have hdl := ddG_len gs j
    have h8t := At.ext h8 he10
    by_cases hjt : j < t.guards.length
    · obtain ⟨x1, p1, rfl, hp0⟩ := Rd.elem gdV_length (by decide) dGd hr5 (show j < gs.length by omega)
      have hD : ddG gs (j + 1) = addN (ddG gs j) (gs.getD j dGd) := rfl
      generalize gs.getD j dGd = x at *
      generalize ddG gs j = ds at *
      obtain ⟨A10, c10, rfl, hr10⟩ := own_form ho10
      repeat' (first
        | (show EL _ _ _ _ (_ :: _) _ _
           first
           | (show EL _ _ _ _ (⟨_, .fieldAddr _ _ _, _, _, _, _⟩ :: _) _ _; refine EL.f (FV.fieldAddr rfl rfl rfl rfl rfl) rfl rfl ?_)
           | (show EL _ _ _ _ (⟨_, .load _ _, _, _, _, _⟩ :: _) _ _; refine EL.f (FV.load1 rfl rfl rfl (At.cell h8t rfl)) rfl rfl ?_)
           | (show EL _ _ _ _ (⟨_, .move _, _, _, _, _⟩ :: _) _ _; refine EL.f (FV.move rfl) rfl rfl ?_)
           | (show EL _ _ _ _ (⟨_, .assign _, _, _, _, _⟩ :: _) _ _; refine EL.f (FV.assign rfl) rfl rfl ?_)
           | (show EL _ _ _ _ (⟨_, .call _, _, _, _, _⟩ :: _) _ _; refine EL.f (FV.len rfl rfl) rfl rfl ?_)
           | (show EL _ _ _ _ (⟨_, .binOp .lss _ _ _ _, _, _, _, _⟩ :: _) _ _; refine EL.fT (FV.lss rfl rfl) rfl (fun _ => rfl) (by omega) ?_))
        | refine EL.nil ?_
        | refine EW.seq ?_
        | refine EW.region ?_
        | refine EW.block ?_
        | refine EW.skip ?_
        | refine EW.condT rfl ?_)
      refine EW.loop (X := Nat) (fun i wi => i ≤ ds.length ∧ Ext wt wi) (fun i => [(2, .pointer (some ⟨g2, 0, none⟩)), (9, .pointer (some ⟨g9, 0, none⟩)), (10, .slice A10 ds.length c10), (11, .int .i64 j), (12, .bool (decide (x ∈ ds.take i))), (13, .int .i64 i)]) (fun i => ds.length - i) 0 ⟨Nat.zero_le _, Ext.refl _⟩ ⟨rfl, rfl, rfl, rfl, by rw [List.take_zero]; rfl, rfl, trivial⟩ ?_
      rintro i wi ⟨hi, hei⟩
      by_cases hil : i < ds.length
      · have hnx := mem_take_succ (x := x) hil
        obtain ⟨xd, pd, e10, hpd⟩ := Rd.elem gdV_length (by decide) dGd (hr10.ext hei) hil
        subst e10
        have h8i := At.ext h8t hei
        have hpi := hp0.ext (he10.trans hei)
        cases hth : decide (x ∈ ds.take i)
        · rw [hth, Bool.false_or] at hnx
          repeat' (first
            | refine EL.f (FV.move rfl) rfl rfl ?_
            | refine EL.f (FV.len rfl rfl) rfl rfl ?_
            | refine EL.fT (FV.lss rfl rfl) rfl (fun _ => rfl) (by omega) ?_
            | refine EL.nil ?_
            | refine EW.seq ?_
            | refine EW.region ?_
            | refine EW.block ?_
            | refine EW.skip ?_
            | refine EW.condT rfl ?_)
          refine EW.draw (fun w' => Ext wi w') (pl 0 14) mixed (by decide +kernel) (Ext.drew _) ?_
          repeat' (first
            | refine EP.f rfl (FV.fieldAddr rfl rfl rfl rfl rfl) rfl rfl ?_
            | refine EP.f rfl (FV.load rfl rfl rfl (fun w' h' => At.cell (At.ext h8i h') rfl)) rfl rfl ?_
            | refine EP.f rfl (FV.idx (s := 2) rfl rfl rfl rfl (by omega) (by omega)) rfl rfl ?_
            | refine EP.f rfl (FV.loadAgg (cs := gdV (ds.getD i dGd)) rfl rfl rfl rfl rfl (fun _ h' => hpd.ext h')) rfl rfl ?_
            | refine EP.f rfl (FV.loadAgg (cs := gdV x) rfl rfl rfl rfl rfl (fun _ h' => hpi.ext h')) rfl rfl ?_
            | refine EP.f rfl (FV.eqlGd rfl rfl) rfl rfl ?_
            | refine EP.f rfl (FV.pickF rfl rfl) rfl rfl ?_
            | refine EP.nil ?_
            | refine EP.f rfl (FV.move rfl) rfl rfl ?_
            | refine EP.f rfl (FV.assign rfl) rfl rfl ?_)
          rw [← hnx]
          repeat' (first
            | refine EL.f (FV.move rfl) rfl rfl ?_
            | refine EL.f (FV.assign rfl) rfl rfl ?_
            | refine EL.f (FV.addI rfl rfl (by omega)) rfl rfl ?_
            | refine EL.nil ?_
            | refine EW.region ?_)
          exact ⟨i + 1, ⟨rfl, rfl, rfl, rfl, rfl, rfl, trivial⟩, ⟨by omega, hei.trans (Ext.drew wi)⟩, by omega⟩
        · rw [hth, Bool.true_or] at hnx
          repeat' (first
            | refine EL.f (FV.move rfl) rfl rfl ?_
            | refine EL.f (FV.len rfl rfl) rfl rfl ?_
            | refine EL.fT (FV.lss rfl rfl) rfl (fun _ => rfl) (by omega) ?_
            | refine EL.nil ?_
            | refine EW.seq ?_
            | refine EW.region ?_
            | refine EW.block ?_
            | refine EW.skip ?_
            | refine EW.condT rfl ?_)
          refine EW.draw (fun w' => Ext wi w') (pl 0 14) mixed (by decide +kernel) (Ext.drew _) ?_
          repeat' (first
            | refine EP.skip rfl rfl rfl ?_
            | refine EP.f rfl (FV.pickT rfl rfl) rfl rfl ?_
            | refine EP.nil ?_
            | refine EP.f rfl (FV.move rfl) rfl rfl ?_
            | refine EP.f rfl (FV.assign rfl) rfl rfl ?_)
          repeat' (first
            | refine EL.f (FV.move rfl) rfl rfl ?_
            | refine EL.f (FV.assign rfl) rfl rfl ?_
            | refine EL.f (FV.addI rfl rfl (by omega)) rfl rfl ?_
            | refine EL.nil ?_
            | refine EW.region ?_)
          exact ⟨i + 1, ⟨rfl, rfl, rfl, rfl, by rw [hnx]; rfl, rfl, trivial⟩, ⟨by omega, hei.trans (Ext.drew wi)⟩, by omega⟩
      obtain rfl : i = ds.length := by omega
      rw [List.take_length]
      have h8i := At.ext h8t hei
      have hpi := hp0.ext (he10.trans hei)
      by_cases hin : x ∈ ds
      · rw [decide_eq_true hin]
        repeat' (first
          | (show EL _ _ _ _ (_ :: _) _ _
             first
             | (show EL _ _ _ _ (⟨_, .move _, _, _, _, _⟩ :: _) _ _; refine EL.f (FV.move rfl) rfl rfl ?_)
             | (show EL _ _ _ _ (⟨_, .assign _, _, _, _, _⟩ :: _) _ _; refine EL.f (FV.assign rfl) rfl rfl ?_)
             | (show EL _ _ _ _ (⟨_, .binOp .add _ _ _ _, _, _, _, _⟩ :: _) _ _; refine EL.f (FV.addI rfl rfl (by omega)) rfl rfl ?_)
             | (show EL _ _ _ _ (⟨_, .call _, _, _, _, _⟩ :: _) _ _; refine EL.f (FV.len rfl rfl) rfl rfl ?_)
             | (show EL _ _ _ _ (⟨_, .unOp .not _ _, _, _, _, _⟩ :: _) _ _; refine EL.f (FV.not rfl) rfl rfl ?_)
             | (show EL _ _ _ _ (⟨_, .binOp .lss _ _ _ _, _, _, _, _⟩ :: _) _ _; refine EL.fF (FV.lss rfl rfl) rfl (fun _ => rfl) (by omega) ?_))
          | refine EL.nil ?_
          | refine EW.seq ?_
          | refine EW.region ?_
          | refine EW.skip ?_
          | refine EW.exit ?_
          | refine EW.condF rfl ?_)
        exact ⟨(j + 1, _), ⟨rfl, rfl, rfl, rfl, trivial⟩, ⟨by dsimp only; omega, by rw [hD, addN_in hin]; exact own_ext ho10 hei, he10.trans hei⟩, by dsimp only; omega⟩
      · rw [decide_eq_false hin]
        repeat' (first
          | (show EL _ _ _ _ (_ :: _) _ _
             first
             | (show EL _ _ _ _ (⟨_, .fieldAddr _ _ _, _, _, _, _⟩ :: _) _ _; refine EL.f (FV.fieldAddr rfl rfl rfl rfl rfl) rfl rfl ?_)
             | (show EL _ _ _ _ (⟨_, .indexAddr _ _ _, _, _, _, _⟩ :: _) _ _; refine EL.f (FV.idx rfl rfl rfl rfl (by omega) (by omega)) rfl rfl ?_)
             | (show EL _ _ _ _ (⟨_, .load _ _, _, _, _, _⟩ :: _) _ _; first | refine EL.f (FV.load1 rfl rfl rfl (At.cell h8i rfl)) rfl rfl ?_ | refine EL.f (FV.loadAgg (cs := gdV x) rfl rfl rfl rfl rfl (fun _ e => e ▸ hpi)) rfl rfl ?_)
             | (show EL _ _ _ _ (⟨_, .move _, _, _, _, _⟩ :: _) _ _; refine EL.f (FV.move rfl) rfl rfl ?_)
             | (show EL _ _ _ _ (⟨_, .call _, _, _, _, _⟩ :: _) _ _; refine EL.f (FV.len rfl rfl) rfl rfl ?_)
             | (show EL _ _ _ _ (⟨_, .unOp .not _ _, _, _, _, _⟩ :: _) _ _; refine EL.f (FV.not rfl) rfl rfl ?_)
             | (show EL _ _ _ _ (⟨_, .binOp .lss _ _ _ _, _, _, _, _⟩ :: _) _ _; refine EL.fF (FV.lss rfl rfl) rfl (fun _ => rfl) (by omega) ?_))
          | refine EL.nil ?_
          | refine EW.seq ?_
          | refine EW.region ?_
          | refine EW.exit ?_
          | refine EW.condT rfl ?_
          | refine EW.condF rfl ?_)
        refine EL.h (Hv.buildGds (y := x) rfl) rfl (fun _ => rfl) ?_
        rintro _ u4 ⟨gq, rfl, hq, hgq, eu4⟩
        have e14 := hei.trans eu4
        skip
        refine EL.h (Hv.appendG (B := w8.heap.size) (us := gdV x) rfl rfl rfl rfl rfl rfl (own_ext ho10 e14) (gdV_length _) (fun j u hj => At.cell hq hj) (gdV_one _) (by omega) (by omega) (he10.trans e14).size) rfl (fun _ => rfl) ?_
        rintro v12 u5 ⟨own12, gr12, bl12, _⟩
        repeat' (first
          | refine EL.f (FV.move rfl) rfl rfl ?_
          | refine EL.f (FV.assign rfl) rfl rfl ?_
          | refine EL.f (FV.addI rfl rfl (by omega)) rfl rfl ?_
          | refine EL.nil ?_
          | refine EW.region ?_)
        exact ⟨(j + 1, v12), ⟨rfl, rfl, rfl, rfl, trivial⟩, ⟨by dsimp only; omega, by rw [hD, addN_out hin, gdL_snoc1]; simp only [List.length_append]; exact own12, Ext.after (he10.trans e14) bl12⟩, by dsimp only; omega⟩
    · obtain rfl : j = t.guards.length := by omega
      replace h2 := At.ext h2 he10
      have one12 := own_one ho10
      have heU := hw8.trans he10
      have z12 := he10.size
      repeat' (first
        | (show EL _ _ _ _ (_ :: _) _ _
           first
           | (show EL _ _ _ _ (⟨_, .fieldAddr _ _ _, _, _, _, _⟩ :: _) _ _; refine EL.f (FV.fieldAddr rfl rfl rfl rfl rfl) rfl rfl ?_)
           | (show EL _ _ _ _ (⟨_, .load _ _, _, _, _, _⟩ :: _) _ _; refine EL.f (FV.load1 rfl rfl rfl (At.cell h8t rfl)) rfl rfl ?_)
           | (show EL _ _ _ _ (⟨_, .move _, _, _, _, _⟩ :: _) _ _; refine EL.f (FV.move rfl) rfl rfl ?_)
           | (show EL _ _ _ _ (⟨_, .call _, _, _, _, _⟩ :: _) _ _; refine EL.f (FV.len rfl rfl) rfl rfl ?_)
           | (show EL _ _ _ _ (⟨_, .binOp .lss _ _ _ _, _, _, _, _⟩ :: _) _ _; refine EL.fF (FV.lss rfl rfl) rfl (fun _ => rfl) (by omega) ?_))
        | refine EL.nil ?_
        | refine EW.seq ?_
        | refine EW.region ?_
        | refine EW.exit ?_
        | refine EW.condF rfl ?_)
      refine EL.h (Hv.storeG rfl rfl rfl one12.1 one12.2 h8t rfl) rfl (fun _ => rfl) ?_
      rintro _ u1 ⟨h11, hr11⟩
      replace h11 : At u1 32 4 g9 1 1 [.int .i64 t.inputs, va, s10, vc] := h11
      have oa1 := own_box (own_ext oa he10) h8t (by decide) hr11
      have oc1 := own_box (OwnI.ext oc he10) h8t (by decide) hr11
      have o12 := own_box ho10 h8t (by decide) hr11
      have h21 := At.kept h2 hr11 (by simp; exact n29)
      have heV : Ext w u1 := Below.wr heU hr11 hg9w (Nat.le_refl _)
      repeat' (first
        | refine EL.f (FV.loadAgg (cs := [.int .i64 t.inputs, va, s10, vc]) rfl rfl rfl rfl rfl (fun _ e => e ▸ At.lies h11)) rfl rfl ?_
        | refine EL.nil ?_
        | refine EW.seq ?_
        | refine EW.region ?_)
      refine EL.h (Hv.storeAggG (vs := [.int .i64 t.inputs, va, s10, vc]) rfl rfl rfl rfl (fun v hv => by simp only [List.mem_cons, List.not_mem_nil, or_false] at hv; rcases hv with rfl | rfl | rfl | rfl; rfl; exact one1.1; exact one12.1; exact one3.1) h21 (Nat.le_refl _)) rfl (fun _ => rfl) ?_
      rintro _ u2 ⟨h22, hr22⟩
      repeat' (first
        | refine EL.nil ?_
        | refine EW.ret ?_)
      exact ⟨g2, 0, [.int .i64 t.inputs, va, s10, vc], rfl, rfl, At.lies h22, ⟨_, _, _, rfl, own_box oa1 h21 (by decide) hr22, own_lower (own_box o12 h21 (by decide) hr22) zw8, own_box oc1 h21 (by decide) hr22⟩, Below.wr heV hr22 hg2w (Nat.le_refl _)⟩

  obtain ⟨x1, p1, rfl, hp0⟩ := Rd.elem insV_length (by decide) dIns r1 hlt
  have hp := hp0.ext he
  clear hp0
  have okk := okc k hlt
  have hop := okI_op okk
  have hC : (shC t (k + 1)).1 = addN (shC t k).1 (ordI (mvI (t.code.getD k dIns) (shC t k).2)) := rfl
  have hT : (shC t (k + 1)).2 = (shC t k).2 ++ [((shC t k).1.idxOf (ordI (mvI (t.code.getD k dIns) (shC t k).2)) : Int)] := rfl
  have hmp := mvI_pad (n := t.code.length) okk hlen.1
  have hst := fun v => padT_set (to := (shC t k).2) (n := t.code.length) v (by omega)
  generalize t.code.getD k dIns = x at *
  generalize (shC t k).1 = code at *
  generalize (shC t k).2 = to at *
  obtain ⟨htl, hcl'⟩ := hlen
  have hpl := padT_length (to := to) (n := t.code.length) (by omega)
  repeat' (first
    | (show EL _ _ _ _ (_ :: _) _ _
       first
       | (show EL _ _ _ _ (⟨_, .nilCheck _, _, _, _, _⟩ :: _) _ _; refine EL.f (FV.nilChk rfl) rfl rfl ?_)
       | (show EL _ _ _ _ (⟨_, .fieldAddr _ _ _, _, _, _, _⟩ :: _) _ _; refine EL.f (FV.fieldAddr rfl rfl rfl rfl rfl) rfl rfl ?_)
       | (show EL _ _ _ _ (⟨_, .load _ _, _, _, _, _⟩ :: _) _ _; refine EL.f (FV.load1 rfl rfl rfl (hbr 1 _ rfl)) rfl rfl ?_)
       | (show EL _ _ _ _ (⟨_, .move _, _, _, _, _⟩ :: _) _ _; refine EL.f (FV.move rfl) rfl rfl ?_)
       | (show EL _ _ _ _ (⟨_, .call _, _, _, _, _⟩ :: _) _ _; refine EL.f (FV.len rfl rfl) rfl rfl ?_)
       | (show EL _ _ _ _ (⟨_, .binOp .lss _ _ _ _, _, _, _, _⟩ :: _) _ _; refine EL.fT (FV.lss rfl rfl) rfl (fun _ => rfl) (by omega) ?_))
    | refine EL.nil ?_
    | refine EW.seq ?_
    | refine EW.region ?_
    | refine EW.skip ?_
    | refine EW.condT rfl ?_)
  refine EW.block ?_
  refine EW.seq2 (fun ρ' w' => ∃ g6, Sub [(0, .pointer (some ⟨b, o, none⟩)), (2, .pointer (some ⟨g2, 0, none⟩)), (3, .slice (some ⟨g3, 0, none⟩) t.code.length t.code.length), (4, s4), (5, .int .i64 k), (6, .pointer (some ⟨g6, 0, none⟩))] ρ' ∧ At w' 65 4 g6 1 1 (insV (ordI (mvI x to))) ∧ w'.ownsRow w.heap.size 65 4 s4 code.length (insL code) ∧ At w' 2 1 g3 t.code.length t.code.length (ints (padT to t.code.length)) ∧ At w' 32 4 g2 1 1 [.int .i64 0, .slice none 0 0, .slice none 0 0, .slice none 0 0] ∧ Ext w w' ∧ some g6 ≠ s4.ownBlock) ?_ ?_
  · have hmv := specMoved x (some ⟨g3, 0, none⟩) t.code.length (padT to t.code.length) wr hop (At.rd h3) (fun h3 => by have := mv_reg okk h3; omega) (fun h3 => by have := (okI_bin okk (by omega)).2; omega)
    rw [hpl, hmp] at hmv
    repeat' (first
      | (show EL _ _ _ _ (_ :: _) _ _
         first
         | (show EL _ _ _ _ (⟨_, .nilCheck _, _, _, _, _⟩ :: _) _ _; refine EL.f (FV.nilChk rfl) rfl rfl ?_)
         | (show EL _ _ _ _ (⟨_, .fieldAddr _ _ _, _, _, _, _⟩ :: _) _ _; refine EL.f (FV.fieldAddr rfl rfl rfl rfl rfl) rfl rfl ?_)
         | (show EL _ _ _ _ (⟨_, .load _ _, _, _, _, _⟩ :: _) _ _; first | refine EL.f (FV.load1 rfl rfl rfl (hbr 1 _ rfl)) rfl rfl ?_ | refine EL.f (FV.loadAgg (cs := insV x) rfl rfl rfl rfl rfl (fun _ e => e ▸ hp)) rfl rfl ?_)
         | (show EL _ _ _ _ (⟨_, .indexAddr _ _ _, _, _, _, _⟩ :: _) _ _; refine EL.f (FV.idx rfl rfl rfl rfl (by omega) (by omega)) rfl rfl ?_)
         | (show EL _ _ _ _ (⟨_, .move _, _, _, _, _⟩ :: _) _ _; refine EL.f (FV.move rfl) rfl rfl ?_))
      | refine EW.region ?_)
    refine EL.h (Hv.call hmv rfl) rfl (fun _ => rfl) ?_
    rintro _ w7 ⟨rfl, he7⟩
    skip
    refine EL.h (Hv.allocA rfl rfl) rfl (fun _ => rfl) ?_
    rintro _ w8 ⟨g6, rfl, hg6, h8, he8⟩
    skip
    refine EL.h (Hv.storeAggG (vs := insV (mvI x to)) rfl rfl rfl rfl (insV_one _) h8 (Nat.le_refl _)) rfl (fun _ => rfl) ?_
    rintro _ w9 ⟨h8', hr9⟩
    have z7 := he7.size
    have e9 : Ext wr w9 := he7.trans (Below.wr he8 hr9 (by omega) (Nat.le_refl _))
    replace h8' : At w9 65 4 g6 1 1 (insV (mvI x to)) := h8'
    have ap6 : some g6 ≠ s4.ownBlock := fun e => by have := (own_block hs4 e.symm).2; omega
    have hg6w : w.heap.size ≤ g6 := by have := he.size; omega
    replace hs4 := own_ext hs4 e9
    replace h3 := At.ext h3 e9
    replace h2 := At.ext h2 e9
    replace he := he.trans e9
    clear h8 hr9 he8 he7 e9 hmv hC hT hmp hst
    generalize mvI x to = y at *
    by_cases hc : (y.op = 3 ∨ y.op = 5) ∧ y.b < y.a
    rotate_left
    · have hk' := ordI_keep hc
      by_cases o3 : y.op = 3
      · have hba : ¬ y.b < y.a := fun q => hc ⟨.inl o3, q⟩
        repeat' (first
          | (show EL _ _ _ _ (_ :: _) _ _
             first
             | (show EL _ _ _ _ (⟨_, _, _, _, _, some _⟩ :: _) _ _; refine EL.skip rfl rfl ?_)
             | (show EL _ _ _ _ (⟨_, .fieldAddr _ _ _, _, _, _, _⟩ :: _) _ _; refine EL.f (FV.fieldAddr rfl rfl rfl rfl rfl) rfl rfl ?_)
             | (show EL _ _ _ _ (⟨_, .load _ _, _, _, _, _⟩ :: _) _ _; refine EL.f (FV.load1 rfl rfl rfl (At.cell h8' rfl)) rfl rfl ?_)
             | (show EL _ _ _ _ (⟨_, .move _, _, _, _, _⟩ :: _) _ _; refine EL.f (FV.move rfl) rfl rfl ?_)
             | (show EL _ _ _ _ (⟨_, .pick _ _ _, _, _, _, _⟩ :: _) _ _; refine EL.f (FV.pickT rfl rfl) rfl rfl ?_)
             | (show EL _ _ _ _ (⟨_, .binOp .eql _ _ _ _, _, _, _, _⟩ :: _) _ _; refine EL.fT (FV.eql rfl rfl) rfl (fun _ => rfl) (by omega) ?_)
             | (show EL _ _ _ _ (⟨_, .binOp .gtr _ _ _ _, _, _, _, _⟩ :: _) _ _; refine EL.fF (FV.gtr rfl rfl) rfl (fun _ => rfl) (by omega) ?_))
          | refine EL.nil ?_
          | refine EW.seq ?_
          | refine EW.region ?_
          | refine EW.skip ?_
          | refine EW.condF rfl ?_)
        exact ⟨g6, ⟨rfl, rfl, rfl, rfl, rfl, rfl, trivial⟩, by rw [hk']; exact h8', hs4, h3, h2, he, ap6⟩
      by_cases o5 : y.op = 5
      · have hba : ¬ y.b < y.a := fun q => hc ⟨.inr o5, q⟩
        repeat' (first
          | (show EL _ _ _ _ (_ :: _) _ _
             first
             | (show EL _ _ _ _ (⟨_, .fieldAddr _ _ _, _, _, _, _⟩ :: _) _ _; refine EL.f (FV.fieldAddr rfl rfl rfl rfl rfl) rfl rfl ?_)
             | (show EL _ _ _ _ (⟨_, .load _ _, _, _, _, _⟩ :: _) _ _; refine EL.f (FV.load1 rfl rfl rfl (At.cell h8' rfl)) rfl rfl ?_)
             | (show EL _ _ _ _ (⟨_, .move _, _, _, _, _⟩ :: _) _ _; refine EL.f (FV.move rfl) rfl rfl ?_)
             | (show EL _ _ _ _ (⟨_, .pick _ _ _, _, _, _, _⟩ :: _) _ _; first | refine EL.f (FV.pickT rfl rfl) rfl rfl ?_ | refine EL.f (FV.pickF rfl rfl) rfl rfl ?_)
             | (show EL _ _ _ _ (⟨_, .binOp .eql _ _ _ _, _, _, _, _⟩ :: _) _ _; first | refine EL.fT (FV.eql rfl rfl) rfl (fun _ => rfl) (by omega) ?_ | refine EL.fF (FV.eql rfl rfl) rfl (fun _ => rfl) (by omega) ?_)
             | (show EL _ _ _ _ (⟨_, .binOp .gtr _ _ _ _, _, _, _, _⟩ :: _) _ _; refine EL.fF (FV.gtr rfl rfl) rfl (fun _ => rfl) (by omega) ?_))
          | refine EL.nil ?_
          | refine EW.seq ?_
          | refine EW.region ?_
          | refine EW.skip ?_
          | refine EW.condF rfl ?_)
        exact ⟨g6, ⟨rfl, rfl, rfl, rfl, rfl, rfl, trivial⟩, by rw [hk']; exact h8', hs4, h3, h2, he, ap6⟩
      · repeat' (first
          | (show EL _ _ _ _ (_ :: _) _ _
             first
             | (show EL _ _ _ _ (⟨_, _, _, _, _, some _⟩ :: _) _ _; refine EL.skip rfl rfl ?_)
             | (show EL _ _ _ _ (⟨_, .fieldAddr _ _ _, _, _, _, _⟩ :: _) _ _; refine EL.f (FV.fieldAddr rfl rfl rfl rfl rfl) rfl rfl ?_)
             | (show EL _ _ _ _ (⟨_, .load _ _, _, _, _, _⟩ :: _) _ _; refine EL.f (FV.load1 rfl rfl rfl (At.cell h8' rfl)) rfl rfl ?_)
             | (show EL _ _ _ _ (⟨_, .move _, _, _, _, _⟩ :: _) _ _; refine EL.f (FV.move rfl) rfl rfl ?_)
             | (show EL _ _ _ _ (⟨_, .pick _ _ _, _, _, _, _⟩ :: _) _ _; refine EL.f (FV.pickF rfl rfl) rfl rfl ?_)
             | (show EL _ _ _ _ (⟨_, .binOp .eql _ _ _ _, _, _, _, _⟩ :: _) _ _; refine EL.fF (FV.eql rfl rfl) rfl (fun _ => rfl) (by omega) ?_))
          | refine EL.nil ?_
          | refine EW.seq ?_
          | refine EW.region ?_
          | refine EW.skip ?_
          | refine EW.condF rfl ?_)
        exact ⟨g6, ⟨rfl, rfl, rfl, rfl, rfl, rfl, trivial⟩, by rw [hk']; exact h8', hs4, h3, h2, he, ap6⟩
    have hsw := ordI_swap hc.1 hc.2
    obtain ⟨ho, hba⟩ := hc
    by_cases o3 : y.op = 3
    · clear ho
      repeat' (first
        | (show EL _ _ _ _ (_ :: _) _ _
           first
           | (show EL _ _ _ _ (⟨_, _, _, _, _, some _⟩ :: _) _ _; refine EL.skip rfl rfl ?_)
           | (show EL _ _ _ _ (⟨_, .fieldAddr _ _ _, _, _, _, _⟩ :: _) _ _; refine EL.f (FV.fieldAddr rfl rfl rfl rfl rfl) rfl rfl ?_)
           | (show EL _ _ _ _ (⟨_, .load _ _, _, _, _, _⟩ :: _) _ _; refine EL.f (FV.load1 rfl rfl rfl (At.cell h8' rfl)) rfl rfl ?_)
           | (show EL _ _ _ _ (⟨_, .move _, _, _, _, _⟩ :: _) _ _; refine EL.f (FV.move rfl) rfl rfl ?_)
           | (show EL _ _ _ _ (⟨_, .assign _, _, _, _, _⟩ :: _) _ _; refine EL.f (FV.assign rfl) rfl rfl ?_)
           | (show EL _ _ _ _ (⟨_, .pick _ _ _, _, _, _, _⟩ :: _) _ _; refine EL.f (FV.pickT rfl rfl) rfl rfl ?_)
           | (show EL _ _ _ _ (⟨_, .binOp .gtr _ _ _ _, _, _, _, _⟩ :: _) _ _; refine EL.fT (FV.gtr rfl rfl) rfl (fun _ => rfl) (by omega) ?_)
           | (show EL _ _ _ _ (⟨_, .binOp .eql _ _ _ _, _, _, _, _⟩ :: _) _ _; refine EL.fT (FV.eql rfl rfl) rfl (fun _ => rfl) (by omega) ?_))
        | refine EL.nil ?_
        | refine EW.seq ?_
        | refine EW.region ?_
        | refine EW.condT rfl ?_)
      refine EL.h (Hv.storeG rfl rfl rfl rfl rfl h8' rfl) rfl (fun _ => rfl) ?_
      rintro _ wA ⟨hA, hrA⟩
      repeat' (first
        | refine EL.f (FV.fieldAddr rfl rfl rfl rfl rfl) rfl rfl ?_
        | refine EL.f (FV.move rfl) rfl rfl ?_
        | refine EL.nil ?_
        | refine EW.region ?_)
      refine EL.h (Hv.storeG rfl rfl rfl rfl rfl hA rfl) rfl (fun _ => rfl) ?_
      rintro _ wB ⟨hB, hrB⟩
      have hr := grownBy_trans hrA hrB
      replace hB : At wB 65 4 g6 1 1 (insV ⟨y.op, y.b, y.a, y.num⟩) := hB
      have n2 := At.ne h2 h8' (by decide)
      have n3 := At.ne h3 h8' (by decide)
      repeat' (first
        | refine EL.nil ?_)
      exact ⟨g6, ⟨rfl, rfl, rfl, rfl, rfl, rfl, trivial⟩, by rw [hsw]; exact hB, own_far hs4 hr (.inr (fun q => ap6 q.symm)), At.kept h3 hr (by simp; exact n3), At.kept h2 hr (by simp; exact n2), Below.wr he hr hg6w (Nat.le_refl _), ap6⟩
    · have o5 : y.op = 5 := by omega
      clear ho
      repeat' (first
        | (show EL _ _ _ _ (_ :: _) _ _
           first
           | (show EL _ _ _ _ (⟨_, .fieldAddr _ _ _, _, _, _, _⟩ :: _) _ _; refine EL.f (FV.fieldAddr rfl rfl rfl rfl rfl) rfl rfl ?_)
           | (show EL _ _ _ _ (⟨_, .load _ _, _, _, _, _⟩ :: _) _ _; refine EL.f (FV.load1 rfl rfl rfl (At.cell h8' rfl)) rfl rfl ?_)
           | (show EL _ _ _ _ (⟨_, .move _, _, _, _, _⟩ :: _) _ _; refine EL.f (FV.move rfl) rfl rfl ?_)
           | (show EL _ _ _ _ (⟨_, .assign _, _, _, _, _⟩ :: _) _ _; refine EL.f (FV.assign rfl) rfl rfl ?_)
           | (show EL _ _ _ _ (⟨_, .pick _ _ _, _, _, _, _⟩ :: _) _ _; first | refine EL.f (FV.pickT rfl rfl) rfl rfl ?_ | refine EL.f (FV.pickF rfl rfl) rfl rfl ?_)
           | (show EL _ _ _ _ (⟨_, .binOp .gtr _ _ _ _, _, _, _, _⟩ :: _) _ _; refine EL.fT (FV.gtr rfl rfl) rfl (fun _ => rfl) (by omega) ?_)
           | (show EL _ _ _ _ (⟨_, .binOp .eql _ _ _ _, _, _, _, _⟩ :: _) _ _; first | refine EL.fT (FV.eql rfl rfl) rfl (fun _ => rfl) (by omega) ?_ | refine EL.fF (FV.eql rfl rfl) rfl (fun _ => rfl) (by omega) ?_))
        | refine EL.nil ?_
        | refine EW.seq ?_
        | refine EW.region ?_
        | refine EW.condT rfl ?_)
      refine EL.h (Hv.storeG rfl rfl rfl rfl rfl h8' rfl) rfl (fun _ => rfl) ?_
      rintro _ wA ⟨hA, hrA⟩
      repeat' (first
        | refine EL.f (FV.fieldAddr rfl rfl rfl rfl rfl) rfl rfl ?_
        | refine EL.f (FV.move rfl) rfl rfl ?_
        | refine EL.nil ?_
        | refine EW.region ?_)
      refine EL.h (Hv.storeG rfl rfl rfl rfl rfl hA rfl) rfl (fun _ => rfl) ?_
      rintro _ wB ⟨hB, hrB⟩
      have hr := grownBy_trans hrA hrB
      replace hB : At wB 65 4 g6 1 1 (insV ⟨y.op, y.b, y.a, y.num⟩) := hB
      have n2 := At.ne h2 h8' (by decide)
      have n3 := At.ne h3 h8' (by decide)
      repeat' (first
        | refine EL.nil ?_)
      exact ⟨g6, ⟨rfl, rfl, rfl, rfl, rfl, rfl, trivial⟩, by rw [hsw]; exact hB, own_far hs4 hr (.inr (fun q => ap6 q.symm)), At.kept h3 hr (by simp; exact n3), At.kept h2 hr (by simp; exact n2), Below.wr he hr hg6w (Nat.le_refl _), ap6⟩
  · rintro ρ' w7 ⟨g6, hsub, h6, hs4, h3, h2, he, ap6⟩
    refine EW.weaken ?_ hsub
    clear hsub hmp
    generalize ordI (mvI x to) = y at *
    obtain ⟨A3, c3, rfl, hr3⟩ := own_form hs4
    repeat' (first
      | refine EL.f (FV.loadAgg (cs := insV y) rfl rfl rfl rfl rfl (fun _ e => e ▸ At.lies h6)) rfl rfl ?_
      | refine EL.f (FV.move rfl) rfl rfl ?_
      | refine EW.seq ?_
      | refine EW.region ?_)
    refine EL.h (Hv.call (specFind A3 c3 code y w7 hr3 (by omega)) rfl) rfl (fun _ => rfl) ?_
    rintro _ w8 ⟨rfl, he8⟩
    replace hs4 := own_ext hs4 he8
    replace h3 := At.ext h3 he8
    replace h2 := At.ext h2 he8
    replace h6 := At.ext h6 he8
    replace he := he.trans he8
    have n2 := At.ne h2 h3 (by decide)
    by_cases hin : y ∈ code
    · rw [show placeZ code y = (code.idxOf y : Int) from if_pos hin]
      repeat' (first
        | (show EL _ _ _ _ (_ :: _) _ _
           first
           | (show EL _ _ _ _ (⟨_, .move _, _, _, _, _⟩ :: _) _ _; refine EL.f (FV.move rfl) rfl rfl ?_)
           | (show EL _ _ _ _ (⟨_, .assign _, _, _, _, _⟩ :: _) _ _; refine EL.f (FV.assign rfl) rfl rfl ?_)
           | (show EL _ _ _ _ (⟨_, .binOp .lss _ _ _ _, _, _, _, _⟩ :: _) _ _; refine EL.fF (FV.lss rfl rfl) rfl (fun _ => rfl) (by omega) ?_)
           | (show EL _ _ _ _ (⟨_, .indexAddr _ _ _, _, _, _, _⟩ :: _) _ _; refine EL.f (FV.idx0 rfl rfl rfl rfl (by omega) (by omega)) rfl rfl ?_))
        | refine EL.nil ?_
        | refine EW.seq ?_
        | refine EW.region ?_
        | refine EW.skip ?_
        | refine EW.condF rfl ?_)
      refine EL.h (Hv.storeG rfl rfl rfl rfl rfl h3 (ints_get (by omega))) rfl (fun _ => rfl) ?_
      rintro _ w9 ⟨h9, hr9⟩
      replace h9 : At w9 2 1 g3 t.code.length t.code.length (ints (padT (to ++ [(code.idxOf y : Int)]) t.code.length)) := by rw [← hst, ints_set, htl]; exact h9
      repeat' (first
        | refine EL.f (FV.move rfl) rfl rfl ?_
        | refine EL.f (FV.assign rfl) rfl rfl ?_
        | refine EL.f (FV.addI rfl rfl (by omega)) rfl rfl ?_
        | refine EL.nil ?_
        | refine EW.region ?_)
      exact ⟨(k + 1, _), ⟨rfl, rfl, rfl, rfl, rfl, trivial⟩, ⟨by dsimp only; omega, by rw [hC, addN_in hin]; exact own_box hs4 h3 (by decide) hr9, by rw [hT]; exact h9, At.kept h2 hr9 (by simp; exact n2), Below.wr he hr9 hg3w (Nat.le_refl _)⟩, by dsimp only; omega⟩
    · rw [show placeZ code y = -1 from if_neg hin]
      have hix : code.idxOf y = code.length := List.idxOf_eq_length hin
      repeat' (first
        | (show EL _ _ _ _ (_ :: _) _ _
           first
           | (show EL _ _ _ _ (⟨_, .load _ _, _, _, _, _⟩ :: _) _ _; refine EL.f (FV.loadAgg (cs := insV y) rfl rfl rfl rfl rfl (fun _ e => e ▸ At.lies h6)) rfl rfl ?_)
           | (show EL _ _ _ _ (⟨_, .move _, _, _, _, _⟩ :: _) _ _; refine EL.f (FV.move rfl) rfl rfl ?_)
           | (show EL _ _ _ _ (⟨_, .assign _, _, _, _, _⟩ :: _) _ _; refine EL.f (FV.assign rfl) rfl rfl ?_)
           | (show EL _ _ _ _ (⟨_, .call _, _, _, _, _⟩ :: _) _ _; refine EL.f (FV.len rfl rfl) rfl rfl ?_)
           | (show EL _ _ _ _ (⟨_, .binOp .lss _ _ _ _, _, _, _, _⟩ :: _) _ _; refine EL.fT (FV.lss rfl rfl) rfl (fun _ => rfl) (by omega) ?_))
        | refine EL.nil ?_
        | refine EW.seq ?_
        | refine EW.region ?_
        | refine EW.condT rfl ?_)
      refine EL.h (Hv.buildIns (y := y) rfl) rfl (fun _ => rfl) ?_
      rintro _ w9 ⟨gq, rfl, hq, hgq, he9⟩
      have he9' := he.trans he9
      skip
      refine EL.h (Hv.appendG (B := w.heap.size) (us := insV y) rfl rfl rfl rfl rfl rfl (own_ext hs4 he9) (insV_length _) (fun j u hj => At.cell hq hj) (insV_one _) (by omega) (by omega) he9'.size) rfl (fun _ => rfl) ?_
      rintro v10 w10 ⟨own10, gr10, bl10, _⟩
      have on10 := Only.thenO he9 (Only.one gr10)
      have h310 := At.only h3 on10 (At.apartO h3 hs4 (by decide))
      have h210 := At.only h2 on10 (At.apartO h2 hs4 (by decide))
      have he10 := Ext.after he9' bl10
      repeat' (first
        | refine EL.f (FV.move rfl) rfl rfl ?_
        | refine EL.f (FV.assign rfl) rfl rfl ?_
        | refine EL.f (FV.idx0 rfl rfl rfl rfl (by omega) (by omega)) rfl rfl ?_
        | refine EL.nil ?_
        | refine EW.region ?_)
      refine EL.h (Hv.storeG rfl rfl rfl rfl rfl h310 (ints_get (by omega))) rfl (fun _ => rfl) ?_
      rintro _ w11 ⟨h11, hr11⟩
      replace h11 : At w11 2 1 g3 t.code.length t.code.length (ints (padT (to ++ [(code.length : Int)]) t.code.length)) := by rw [← hst, ints_set, htl]; exact h11
      repeat' (first
        | refine EL.f (FV.move rfl) rfl rfl ?_
        | refine EL.f (FV.assign rfl) rfl rfl ?_
        | refine EL.f (FV.addI rfl rfl (by omega)) rfl rfl ?_
        | refine EL.nil ?_
        | refine EW.region ?_)
      exact ⟨(k + 1, v10), ⟨rfl, rfl, rfl, rfl, rfl, trivial⟩, ⟨by dsimp only; omega, by rw [hC, addN_out hin, insL_snoc1]; simp only [List.length_append]; exact own_box own10 h310 (by decide) hr11, by rw [hT, hix]; exact h11, At.kept h210 hr11 (by simp; exact n2), Below.wr he10 hr11 hg3w (Nat.le_refl _)⟩, by dsimp only; omega⟩
theorem implShareTapeT (v : Value) (t : Tp) (w : World) (h : TapeV w v t) (hf : Fit t) : CallsR Try.prog 32 [v] w (TapOut w (fShareTape t)) := by
  have hv := h
  obtain ⟨P, p, Q, q, R, r, rfl, r1, r2, r3⟩ := h
  refine CallsR.enterCT Try.func32 (by decide +kernel) rfl Try.ntmps32 rfl rfl rfl rfl rfl ?_
  repeat' (first
    | refine EW.seq ?_
    | refine EW.region ?_)
  refine EL.h (Hv.boxA (sz := 4) rfl rfl) rfl (fun _ => rfl) ?_
  rintro _ w1 ⟨g1, rfl, hg1, hb, he1⟩
  skip
  refine EL.h (Hv.allocA rfl rfl) rfl (fun _ => rfl) ?_
  rintro _ w2 ⟨g2, rfl, hg2, h2, he2⟩
  have s1 := he1.size
  have hw2 := he1.trans he2
  replace hb := At.ext hb he2
  repeat' (first
    | refine EL.f (FV.loadAgg (cs := [.int .i64 t.inputs, .slice P t.code.length p, .slice Q t.guards.length q, .slice R t.outs.length r]) rfl rfl rfl rfl rfl (fun _ e => e ▸ At.lies hb)) rfl rfl ?_
    | refine EL.f (FV.assign rfl) rfl rfl ?_
    | refine EL.nil ?_
    | refine EW.seq ?_
    | refine EW.region ?_)
  refine EL.h (Hv.call (implShorter _ t _ (fun t => shareT t) w2 (hv.ext hw2) hf (fun ok v' w' hv' => implShared v' t w' hv' hf ok)) rfl) rfl (fun _ => rfl) ?_
  rintro _ w3 ⟨tv, rfl, hown, he3⟩
  replace h2 := At.ext h2 he3
  replace hown : OwnT w2.heap.size w3 tv (fShareTape t).1 := hown
  have ones := OwnT.ones hown
  obtain ⟨a, b, c, e⟩ := OwnT.cells hown
  have one := ones _ _ _ e
  subst e
  repeat' (first
    | refine EL.f (FV.extract rfl rfl) rfl rfl ?_)
  refine EL.h (Hv.storeAggG (vs := [.int .i64 (fShareTape t).1.inputs, a, b, c]) rfl rfl rfl rfl (fun v hv => by simp only [List.mem_cons, List.not_mem_nil, or_false] at hv; rcases hv with rfl | rfl | rfl | rfl; rfl; exact one.1; exact one.2.1; exact one.2.2) h2 (Nat.le_refl _)) rfl (fun _ => rfl) ?_
  rintro _ w5 ⟨h5, hr5⟩
  repeat' (first
    | refine EL.f (FV.assign rfl) rfl rfl ?_
    | refine EL.nil ?_
    | refine EW.ret ?_)
  exact ⟨g2, 0, [.int .i64 (fShareTape t).1.inputs, a, b, c], _, rfl, rfl, At.lies h5, rfl, _, rfl, OwnT.lower (OwnT.box hown h2 hr5) hw2.size, Below.wr (hw2.trans he3) hr5 (by omega) (Nat.le_refl _)⟩
theorem specShareTapeT (v : Value) (t : Tp) (w : World) (h : TapeV w v t) (hf : Fit t) : CallsR Try.prog 31 [v] w (TapOut w (fShareTape t)) := by
  obtain ⟨P, p, Q, q, R, r, rfl, r1, r2, r3⟩ := h
  refine CallsR.enterCT Try.func31 (by decide +kernel) rfl Try.ntmps31 rfl rfl rfl rfl rfl ?_
  repeat' (first
    | refine EW.seq ?_
    | refine EW.region ?_)
  refine EL.h (Hv.boxA (sz := 4) rfl rfl) rfl (fun _ => rfl) ?_
  rintro _ w1 ⟨g1, rfl, hg1, hb, he1⟩
  have tp1 : TapeP w1 g1 0 t := ⟨P, p, Q, q, R, r, At.lies hb, r1.ext he1, r2.ext he1, r3.ext he1⟩
  skip
  refine EL.h (Hv.allocA rfl rfl) rfl (fun _ => rfl) ?_
  rintro _ w2 ⟨g2, rfl, hg2, h2, he2⟩
  have s1 := he1.size
  repeat' (first
    | refine EL.f (FV.assign rfl) rfl rfl ?_
    | refine EL.nil ?_
    | refine EW.seq ?_
    | refine EW.region ?_)
  refine EL.h (Hv.call (specOkT g1 0 t w2 (tp1.ext he2) hf) rfl) rfl (fun _ => rfl) ?_
  rintro _ w3 ⟨rfl, he3⟩
  have hw3 := (he1.trans he2).trans he3
  replace h2 := At.ext h2 he3
  unfold fShareTape
  cases ok : okT t
  · repeat' (first
      | refine EL.f (FV.not rfl) rfl rfl ?_
      | refine EL.nil ?_
      | refine EL.f FV.buildT0 rfl rfl ?_
      | refine EW.seq ?_
      | refine EW.region ?_
      | refine EW.condT rfl ?_)
    refine EL.h (Hv.storeAggG (vs := [.int .i64 0, .slice none 0 0, .slice none 0 0, .slice none 0 0]) rfl rfl rfl rfl (fun v hv => by simp only [List.mem_cons, List.not_mem_nil, or_false] at hv; rcases hv with rfl | rfl | rfl | rfl <;> rfl) h2 (Nat.le_refl _)) rfl (fun _ => rfl) ?_
    rintro _ w4 ⟨h4, hr4⟩
    repeat' (first
      | refine EL.f (FV.assign rfl) rfl rfl ?_
      | refine EL.nil ?_
      | refine EW.ret ?_)
    exact ⟨g2, 0, [.int .i64 0, .slice none 0 0, .slice none 0 0, .slice none 0 0], _, rfl, rfl, At.lies h4, rfl, _, rfl, OwnT.empty _ _, Below.wr hw3 hr4 (by omega) (Nat.le_refl _)⟩
  · rw [if_pos rfl]
    repeat' (first
      | refine EL.f (FV.not rfl) rfl rfl ?_
      | refine EL.nil ?_
      | refine EW.seq ?_
      | refine EW.region ?_
      | refine EW.skip ?_
      | refine EW.condF rfl ?_)
    refine EL.h (Hv.call (specShare g1 0 t w3 ((tp1.ext he2).ext he3) hf ok) rfl) rfl (fun _ => rfl) ?_
    rintro tv w4 ⟨hown, he4⟩
    have ones := OwnT.ones hown
    obtain ⟨a, b, c, e⟩ := OwnT.cells hown
    have one := ones _ _ _ e
    subst e
    replace h2 := At.ext h2 he4
    skip
    refine EL.h (Hv.storeAggG (vs := [.int .i64 (shareT t).inputs, a, b, c]) rfl rfl rfl rfl (fun v hv => by simp only [List.mem_cons, List.not_mem_nil, or_false] at hv; rcases hv with rfl | rfl | rfl | rfl; rfl; exact one.1; exact one.2.1; exact one.2.2) h2 (Nat.le_refl _)) rfl (fun _ => rfl) ?_
    rintro _ w5 ⟨h5, hr5⟩
    repeat' (first
      | refine EL.f (FV.assign rfl) rfl rfl ?_
      | refine EL.nil ?_
      | refine EW.ret ?_)
    exact ⟨g2, 0, [.int .i64 (shareT t).inputs, a, b, c], _, rfl, rfl, At.lies h5, rfl, _, rfl, OwnT.lower (OwnT.box hown h2 hr5) hw3.size, Below.wr (hw3.trans he4) hr5 (by omega) (Nat.le_refl _)⟩
end Eng
end Go.Proofs.Ytfkohgfcchhlpaa
