/- TrimTape in the program. Conditions: the lengths. -/
import Derived.Test.YtfkohgfcchhlpaaTn
import Derived.Test.YtfkohgfcchhlpaaTtr
namespace Go.Proofs.Ytfkohgfcchhlpaa
open Go Go.RowKit
namespace Eng
theorem OwnI.snoc {B : Nat} {w : World} {v : Value} {xs : List Int} {x : Int} (h : w.ownsRow B 2 1 v (xs.length + 1) (ints xs ++ [.int .i64 x])) : OwnI B w v (xs ++ [x]) := by
  unfold OwnI
  rw [ints_append, List.length_append]
  exact h
theorem gregs_length (t : Tp) : (gregs t).length = t.guards.length := by simp [gregs]
theorem gregs_get (t : Tp) (i : Nat) : (gregs t).getD i 0 = (t.guards.getD i dGd).reg := by
  unfold gregs
  rw [List.getD_eq_getElem?_getD, List.getD_eq_getElem?_getD, List.getElem?_map]
  cases t.guards[i]? <;> rfl
theorem take_snoc (xs : List Int) {k : Nat} (h : k < xs.length) : xs.take (k + 1) = xs.take k ++ [xs.getD k 0] := by
  rw [List.take_succ_eq_append_getElem h]
  simp [h]
theorem ends_reg {t : Tp} (ok : okT t = true) (i : Nat) (hi : i < (t.outs ++ gregs t).length) : 0 ≤ (t.outs ++ gregs t).getD i 0 ∧ (t.outs ++ gregs t).getD i 0 < t.code.length := by
  have hgu := (okT_iff.1 ok).2.2.2.2.2.1
  have hou := (okT_iff.1 ok).2.2.2.2.2.2
  rw [List.length_append, gregs_length] at hi
  rw [List.getD_eq_getElem?_getD]
  by_cases hlt : i < t.outs.length
  · rw [List.getElem?_append_left hlt, ← List.getD_eq_getElem?_getD]
    exact hou i hlt
  · rw [List.getElem?_append_right (by omega), ← List.getD_eq_getElem?_getD, gregs_get]
    exact hgu _ (by omega)
theorem mv_reg {t : Tp} {k : Nat} {x : Ins} (ok : okI t.inputs x k = true) (h3 : 3 ≤ x.op) : 0 ≤ x.a ∧ x.a < k := by
  by_cases o7 : x.op = 7
  · exact okI_neg ok o7
  · exact (okI_bin ok (by have := okI_op ok; omega)).1
theorem insL_snoc1 (xs : List Ins) (x : Ins) : insL (xs ++ [x]) = insL xs ++ insV x := by simp [insL]
set_option maxHeartbeats 16000000 in
theorem implTrimmed (v : Value) (t : Tp) (w : World) (h : TapeV w v t) (hf : Fit t) (ok : okT t = true) :
    CallsR Try.prog 86 [v] w fun r w' => OwnT w.heap.size w' r (endT t (trimR t).1 (trimR t).2) ∧ Ext w w' := by
  have hv := h
  obtain ⟨P, p, Q, q, R, r, rfl, r1, r2, r3⟩ := h
  have okc := (okT_iff.1 ok).2.2.2.2.1
  have hcl := (okT_iff.1 ok).2.1
  have hgl := (okT_iff.1 ok).2.2.1
  have hol := (okT_iff.1 ok).2.2.2.1
  have hgu := (okT_iff.1 ok).2.2.2.2.2.1
  have hou := (okT_iff.1 ok).2.2.2.2.2.2
  refine CallsR.enterC Try.func86 (by decide +kernel) rfl Try.ntmps86 rfl rfl rfl rfl rfl ?_
  repeat' (first
    | refine EW.seq ?_
    | refine EW.region ?_)
  refine EL.h (Hv.boxA (sz := 4) rfl rfl) rfl (fun _ => rfl) ?_
  rintro _ w1 ⟨g1, rfl, hg1, hb, he1⟩
  skip
  refine EL.h (Hv.allocA rfl rfl) rfl (fun _ => rfl) ?_
  rintro _ w2 ⟨g2, rfl, hg2, h2, he2⟩
  have l1 := At.lt hb
  have s1 := he1.size
  have s2 := he2.size
  have hw2 := he1.trans he2
  replace hb := At.ext hb he2
  have n12 : g1 ≠ g2 := by omega
  have hg2w : w.heap.size ≤ g2 := by omega
  obtain ⟨bo, oo, rfl, hco⟩ := r3.all (by rw [ints_length]; omega)
  repeat' (first
    | refine EL.f (FV.fieldAddr rfl rfl rfl rfl rfl) rfl rfl ?_
    | refine EL.f (FV.load1 rfl rfl rfl (At.cell hb rfl)) rfl rfl ?_
    | refine EL.nil ?_
    | refine EW.seq ?_
    | refine EW.region ?_)
  refine EL.h (Hv.call (implClone bo oo r t.outs w2 (r3.ext hw2) (by omega) (by omega)) rfl) rfl (fun _ => rfl) ?_
  rintro v3 w3 ⟨ho3, he3⟩
  replace hb := At.ext hb he3
  replace h2 := At.ext h2 he3
  have hw3 := hw2.trans he3
  repeat' (first
    | (show EL _ _ _ _ (_ :: _) _ _
       first
       | (show EL _ _ _ _ (⟨_, .fieldAddr _ _ _, _, _, _, _⟩ :: _) _ _; refine EL.f (FV.fieldAddr rfl rfl rfl rfl rfl) rfl rfl ?_)
       | (show EL _ _ _ _ (⟨_, .load _ _, _, _, _, _⟩ :: _) _ _; refine EL.f (FV.load1 rfl rfl rfl (At.cell hb rfl)) rfl rfl ?_)
       | (show EL _ _ _ _ (⟨_, .move _, _, _, _, _⟩ :: _) _ _; refine EL.f (FV.move rfl) rfl rfl ?_)
       | (show EL _ _ _ _ (⟨_, .assign _, _, _, _, _⟩ :: _) _ _; refine EL.f (FV.assign rfl) rfl rfl ?_)
       | (show EL _ _ _ _ (⟨_, .call _, _, _, _, _⟩ :: _) _ _; refine EL.f (FV.len rfl rfl) rfl rfl ?_))
    | refine EL.nil ?_
    | refine EW.seq ?_
    | refine EW.region ?_
    | refine EW.block ?_)
  refine EW.loop (X := Nat × Value) (fun y wr => y.1 ≤ t.guards.length ∧ OwnI w.heap.size wr y.2 (t.outs ++ (gregs t).take y.1) ∧ At wr 32 4 g1 1 1 [.int .i64 t.inputs, .slice P t.code.length p, .slice Q t.guards.length q, .slice (some ⟨bo, oo, none⟩) t.outs.length r] ∧ At wr 32 4 g2 1 1 [.int .i64 0, .slice none 0 0, .slice none 0 0, .slice none 0 0] ∧ Ext w wr) (fun y => [(1, .pointer (some ⟨g1, 0, none⟩)), (2, .pointer (some ⟨g2, 0, none⟩)), (3, y.2), (14, .slice Q t.guards.length q), (15, .int .i64 t.guards.length), (16, .int .i64 y.1)]) (fun y => t.guards.length - y.1) (0, v3) ⟨Nat.zero_le _, by rw [List.take_zero, List.append_nil]; exact OwnI.lower ho3 (by omega), hb, h2, hw3⟩ ⟨rfl, rfl, rfl, rfl, rfl, rfl, trivial⟩ ?_
  clear hb h2 hw3 ho3
  rintro ⟨k, s3⟩ wr ⟨hk, hs3, hb, h2, he⟩
  dsimp only at *
  by_cases hlt : k < t.guards.length
  · obtain ⟨x1, p1, rfl, hp⟩ := Rd.elem gdV_length (by decide) dGd (r2.ext he) hlt
    have hel : (t.outs ++ (gregs t).take k).length = t.outs.length + k := by rw [List.length_append, List.length_take, gregs_length]; omega
    repeat' (first
      | refine EL.f (FV.idx rfl rfl rfl rfl (by omega) (by omega)) rfl rfl ?_
      | refine EL.f (FV.loadAgg (cs := gdV (t.guards.getD k dGd)) rfl rfl rfl rfl rfl (fun _ e => hp.ext (e ▸ Ext.refl _))) rfl rfl ?_
      | refine EL.fT (FV.lss rfl rfl) rfl (fun _ => rfl) (by omega) ?_
      | refine EL.nil ?_
      | refine EW.seq ?_
      | refine EW.region ?_
      | refine EW.block ?_
      | refine EW.skip ?_
      | refine EW.condT rfl ?_)
    refine EL.h (Hv.allocA rfl rfl) rfl (fun _ => rfl) ?_
    rintro _ w5 ⟨g5, rfl, hg5, h5, he5⟩
    skip
    refine EL.h (Hv.storeAggG (vs := gdV (t.guards.getD k dGd)) rfl rfl rfl rfl (gdV_one _) h5 (Nat.le_refl _)) rfl (fun _ => rfl) ?_
    rintro _ w6 ⟨h5', hr6⟩
    have hw6 : Ext wr w6 := Below.wr he5 hr6 (by omega) (Nat.le_refl _)
    have h5 : At w6 67 2 g5 1 1 (gdV (t.guards.getD k dGd)) := h5'
    clear h5'
    repeat' (first
      | refine EL.f (FV.fieldAddr rfl rfl rfl rfl rfl) rfl rfl ?_
      | refine EL.f (FV.load1 rfl rfl rfl (At.cell h5 rfl)) rfl rfl ?_
      | refine EL.f (FV.move rfl) rfl rfl ?_
      | refine EL.nil ?_
      | refine EW.region ?_)
    refine EL.h (Hv.build1A rfl rfl rfl rfl) rfl (fun _ => rfl) ?_
    rintro _ w7 ⟨g7, rfl, h7, hg7, he7⟩
    have hw7 := hw6.trans he7
    have he07 := he.trans hw7
    replace hs3 := OwnI.ext hs3 hw7
    replace hb := At.ext hb hw7
    replace h2 := At.ext h2 hw7
    skip
    refine EL.h (Hv.append1 (B := w.heap.size) rfl rfl rfl rfl rfl hs3 (At.cell h7 rfl) rfl (by omega) (by omega) he07.size) rfl (fun _ => rfl) ?_
    rintro v9 w9 ⟨own9, gr9, bl9⟩
    have on9 := Only.one gr9
    repeat' (first
      | refine EL.f (FV.move rfl) rfl rfl ?_
      | refine EL.f (FV.assign rfl) rfl rfl ?_
      | refine EL.f (FV.addI rfl rfl (by omega)) rfl rfl ?_
      | refine EL.nil ?_
      | refine EW.region ?_)
    exact ⟨(k + 1, v9), ⟨rfl, rfl, rfl, rfl, rfl, rfl, trivial⟩, ⟨by dsimp only; omega, by rw [take_snoc _ (by rw [gregs_length]; exact hlt), gregs_get, ← List.append_assoc]; exact OwnI.snoc own9, At.only hb on9 (At.apartO hb hs3 (by decide)), At.only h2 on9 (At.apartO h2 hs3 (by decide)), Ext.after he07 bl9⟩, by dsimp only; omega⟩
  obtain rfl : k = t.guards.length := by omega
  rw [show (gregs t).take t.guards.length = gregs t from by rw [← gregs_length t, List.take_length]] at hs3
  have hlen : (t.outs ++ gregs t).length ≤ 1048576 := by rw [List.length_append, gregs_length]; omega
  have hend := ends_reg ok
  have hsw := need0_swap t
  generalize t.outs ++ gregs t = ends at *
  repeat' (first
    | refine EL.fF (FV.lss rfl rfl) rfl (fun _ => rfl) (by omega) ?_
    | refine EL.nil ?_
    | refine EW.seq ?_
    | refine EW.region ?_
    | refine EW.exit ?_
    | refine EW.condF rfl ?_)
  refine EW.viaM (fun ρ' w' => ∃ s6 g7, Sub [(1, .pointer (some ⟨g1, 0, none⟩)), (2, .pointer (some ⟨g2, 0, none⟩)), (3, s3), (6, s6), (7, .slice (some ⟨g7, 0, none⟩) t.code.length t.code.length)] ρ' ∧ w'.ownsRow w.heap.size 65 4 s6 0 [] ∧ At w' 2 1 g7 t.code.length t.code.length (ints (List.replicate t.code.length 0)) ∧ w.heap.size ≤ g7 ∧ Ext wr w') ?_ ?_
  · have ed := Ext.drew wr
    have edz := ed.size
    have hez := he.size
    refine EW.drawX (fun w' => Ext wr w') mixed (by decide +kernel) (Ext.drew _) ?_
    refine EX.f 1 (by decide +kernel) rfl (FV.fieldAddr rfl rfl rfl rfl rfl) rfl rfl ?_
    refine EX.f 2 (by decide +kernel) rfl (FV.load rfl rfl rfl (fun w' h' => At.cell (At.ext hb h') rfl)) rfl rfl ?_
    refine EX.f 3 (by decide +kernel) rfl (FV.len rfl rfl) rfl rfl ?_
    refine EX.fork 0 4 (by decide +kernel) rfl rfl rfl rfl (fun _ => rfl) (fun _ => rfl) ?_ ?_
    · refine (Hv.build0 rfl rfl).mono ?_
      rintro s6 u1 ⟨ho6, e1⟩
      have e1s := e1.size
      refine ⟨ed.trans e1, ?_⟩
      refine EX.f 5 (by decide +kernel) rfl (FV.assign rfl) rfl rfl ?_
      refine EX.one 4 (by decide +kernel) rfl rfl (fun _ => rfl) ?_
      refine (Hv.make (kl := .i64) rfl rfl rfl rfl (by omega) (by omega)).mono ?_
      rintro _ u2 ⟨g7, rfl, hg7, h7, e2⟩
      rw [madeInts] at h7
      refine ⟨(ed.trans e1).trans e2, ?_⟩
      refine EX.f 6 (by decide +kernel) rfl (FV.assign rfl) rfl rfl ?_
      refine EX.nil (by decide +kernel) ?_
      exact ⟨s6, g7, ⟨rfl, rfl, rfl, rfl, rfl, trivial⟩, own_ext (own_lower ho6 (by omega)) e2, h7, by omega, (ed.trans e1).trans e2⟩
    · refine (Hv.make (kl := .i64) rfl rfl rfl rfl (by omega) (by omega)).mono ?_
      rintro _ u1 ⟨g7, rfl, hg7, h7, e1⟩
      rw [madeInts] at h7
      have e1s := e1.size
      refine ⟨ed.trans e1, ?_⟩
      refine EX.one 0 (by decide +kernel) rfl rfl (fun _ => rfl) ?_
      refine (Hv.build0 rfl rfl).mono ?_
      rintro s6 u2 ⟨ho6, e2⟩
      refine ⟨(ed.trans e1).trans e2, ?_⟩
      refine EX.f 5 (by decide +kernel) rfl (FV.assign rfl) rfl rfl ?_
      refine EX.f 6 (by decide +kernel) rfl (FV.assign rfl) rfl rfl ?_
      refine EX.nil (by decide +kernel) ?_
      exact ⟨s6, g7, ⟨rfl, rfl, rfl, rfl, rfl, trivial⟩, own_lower ho6 (by omega), At.ext h7 e2, by omega, (ed.trans e1).trans e2⟩
  rintro ρ' w6 ⟨s6, g7, hsub, hs6, h7, hg7, he6⟩
  refine EW.weaken ?_ hsub
  clear hsub
  replace hs3 := OwnI.ext hs3 he6
  replace hb := At.ext hb he6
  replace h2 := At.ext h2 he6
  replace he := he.trans he6
  obtain ⟨A3, c3, rfl, hr3⟩ := OwnI.form hs3
  repeat' (first
    | refine EL.f (FV.loadAgg (cs := [.int .i64 t.inputs, .slice P t.code.length p, .slice Q t.guards.length q, .slice (some ⟨bo, oo, none⟩) t.outs.length r]) rfl rfl rfl rfl rfl (fun _ e => e ▸ At.lies hb)) rfl rfl ?_
    | refine EL.f (FV.move rfl) rfl rfl ?_
    | refine EW.seq ?_
    | refine EW.region ?_)
  refine EL.h (Hv.call (implNeeded _ t A3 c3 ends w6 (hv.ext he) okc hcl hr3 hlen hend) rfl) rfl (fun _ => rfl) ?_
  rintro _ w7 ⟨g8, rfl, h8, hg8, he7⟩
  rw [hsw] at h8
  have hndl : (nS t (need0 t) t.code.length).length = t.code.length := by rw [nS_length, need0_length]
  show EL _ _ _ _ _ _ _
  unfold trimR
  generalize nS t (need0 t) t.code.length = nd at *
  replace hs6 := own_ext hs6 he7
  replace h7 := At.ext h7 he7
  replace hb := At.ext hb he7
  replace h2 := At.ext h2 he7
  replace he := he.trans he7
  clear hs3 hr3
  repeat' (first
    | refine EL.f (FV.move rfl) rfl rfl ?_
    | refine EL.f (FV.len rfl rfl) rfl rfl ?_
    | refine EL.nil ?_
    | refine EW.block ?_)
  refine EW.loop (X := Nat × Value) (fun y wr => y.1 ≤ t.code.length ∧ wr.ownsRow w.heap.size 65 4 y.2 (trC t nd y.1).1.length (insL (trC t nd y.1).1) ∧ At wr 2 1 g7 t.code.length t.code.length (ints (trC t nd y.1).2) ∧ At wr 4 1 g8 t.code.length t.code.length (bools nd) ∧ At wr 32 4 g1 1 1 [.int .i64 t.inputs, .slice P t.code.length p, .slice Q t.guards.length q, .slice (some ⟨bo, oo, none⟩) t.outs.length r] ∧ At wr 32 4 g2 1 1 [.int .i64 0, .slice none 0 0, .slice none 0 0, .slice none 0 0] ∧ Ext w wr) (fun y => [(1, .pointer (some ⟨g1, 0, none⟩)), (2, .pointer (some ⟨g2, 0, none⟩)), (6, y.2), (7, .slice (some ⟨g7, 0, none⟩) t.code.length t.code.length), (33, .slice (some ⟨g8, 0, none⟩) t.code.length t.code.length), (34, .int .i64 t.code.length), (35, .int .i64 y.1)]) (fun y => t.code.length - y.1) (0, s6) ⟨Nat.zero_le _, hs6, h7, h8, hb, h2, he⟩ ⟨rfl, rfl, rfl, rfl, rfl, rfl, rfl, trivial⟩ ?_
  clear hs6 h7 h8 hb h2 he he6 he7
  rintro ⟨k, s6⟩ wr ⟨hk, hs6, h7, h8, hb, h2, he⟩
  dsimp only at *
  have htl := trC_length t nd k
  by_cases hlt : k < t.code.length
  rotate_left
  · obtain rfl : k = t.code.length := by omega
    have hends := implEnded _ t s6 (trC t nd t.code.length).1 (some ⟨g7, 0, none⟩) t.code.length (trC t nd t.code.length).2 w.heap.size wr hf hs6 he.size (At.rd h7) (fun i hi => by rw [htl.1]; exact hgu i hi) (fun i hi => by rw [htl.1]; exact hou i hi) (hv.ext he)
    rw [htl.1] at hends
    repeat' (first
      | refine EL.f (FV.loadAgg (cs := [.int .i64 t.inputs, .slice P t.code.length p, .slice Q t.guards.length q, .slice (some ⟨bo, oo, none⟩) t.outs.length r]) rfl rfl rfl rfl rfl (fun _ e => e ▸ At.lies hb)) rfl rfl ?_
      | refine EL.f (FV.move rfl) rfl rfl ?_
      | refine EL.fF (FV.lss rfl rfl) rfl (fun _ => rfl) (by omega) ?_
      | refine EL.nil ?_
      | refine EW.seq ?_
      | refine EW.region ?_
      | refine EW.exit ?_
      | refine EW.condF rfl ?_)
    refine EL.h (Hv.call hends rfl) rfl (fun _ => rfl) ?_
    rintro tv w8 ⟨hown, he8⟩
    have ones := OwnT.ones hown
    obtain ⟨a, b, c, e⟩ := OwnT.cells hown
    have one := ones _ _ _ e
    subst e
    replace h2 := At.ext h2 he8
    skip
    refine EL.h (Hv.storeAggG (vs := [.int .i64 (endT t (trC t nd t.code.length).1 (trC t nd t.code.length).2).inputs, a, b, c]) rfl rfl rfl rfl (fun v hv => by simp only [List.mem_cons, List.not_mem_nil, or_false] at hv; rcases hv with rfl | rfl | rfl | rfl; rfl; exact one.1; exact one.2.1; exact one.2.2) h2 (Nat.le_refl _)) rfl (fun _ => rfl) ?_
    rintro _ w9 ⟨h9, hr9⟩
    repeat' (first
      | refine EL.nil ?_
      | refine EW.ret ?_)
    exact ⟨g2, 0, [.int .i64 (endT t (trC t nd t.code.length).1 (trC t nd t.code.length).2).inputs, a, b, c], rfl, rfl, At.lies h9, OwnT.box hown h2 hr9, Below.wr (he.trans he8) hr9 hg2w (Nat.le_refl _)⟩
  obtain ⟨x1, p1, rfl, hp⟩ := Rd.elem insV_length (by decide) dIns r1 hlt
  have okk := okc k hlt
  have hop := okI_op okk
  have hneed := At.cell h8 (bools_get (k := k) (by rw [hndl]; exact hlt))
  cases hv8 : nd.getD k false
  · rw [hv8] at hneed
    have e : trC t nd (k + 1) = trC t nd k := by rw [trC, hv8, if_neg (by decide)]
    repeat' (first
      | (show EL _ _ _ _ (_ :: _) _ _
         first
         | (show EL _ _ _ _ (⟨_, .load _ _, _, _, _, _⟩ :: _) _ _; refine EL.f (FV.load1 rfl rfl rfl hneed) rfl rfl ?_)
         | (show EL _ _ _ _ (⟨_, .move _, _, _, _, _⟩ :: _) _ _; refine EL.f (FV.move rfl) rfl rfl ?_)
         | (show EL _ _ _ _ (⟨_, .assign _, _, _, _, _⟩ :: _) _ _; refine EL.f (FV.assign rfl) rfl rfl ?_)
         | (show EL _ _ _ _ (⟨_, .binOp .add _ _ _ _, _, _, _, _⟩ :: _) _ _; refine EL.f (FV.addI rfl rfl (by omega)) rfl rfl ?_)
         | (show EL _ _ _ _ (⟨_, .binOp .lss _ _ _ _, _, _, _, _⟩ :: _) _ _; refine EL.fT (FV.lss rfl rfl) rfl (fun _ => rfl) (by omega) ?_)
         | (show EL _ _ _ _ (⟨_, .indexAddr _ _ _, _, _, _, _⟩ :: _) _ _; refine EL.f (FV.idx0 rfl rfl rfl rfl (by omega) (by omega)) rfl rfl ?_))
      | refine EL.nil ?_
      | refine EW.seq ?_
      | refine EW.region ?_
      | refine EW.block ?_
      | refine EW.skip ?_
      | refine EW.condT rfl ?_
      | refine EW.condF rfl ?_)
    exact ⟨(k + 1, s6), ⟨rfl, rfl, rfl, rfl, rfl, rfl, rfl, trivial⟩, ⟨by dsimp only; omega, by rw [e]; exact hs6, by rw [e]; exact h7, h8, hb, h2, he⟩, by dsimp only; omega⟩
  rw [hv8] at hneed
  have hnext : trC t nd (k + 1) = ((trC t nd k).1 ++ [mvI (t.code.getD k dIns) ((trC t nd k).2.set k ((trC t nd k).1.length : Int))], (trC t nd k).2.set k ((trC t nd k).1.length : Int)) := by rw [trC, hv8, if_pos rfl]
  generalize t.code.getD k dIns = x at *
  generalize (trC t nd k).1 = code at *
  generalize (trC t nd k).2 = to at *
  obtain ⟨A6, c6, rfl, hr6⟩ := own_form hs6
  repeat' (first
    | (show EL _ _ _ _ (_ :: _) _ _
       first
       | (show EL _ _ _ _ (⟨_, .load _ _, _, _, _, _⟩ :: _) _ _; refine EL.f (FV.load1 rfl rfl rfl hneed) rfl rfl ?_)
       | (show EL _ _ _ _ (⟨_, .move _, _, _, _, _⟩ :: _) _ _; refine EL.f (FV.move rfl) rfl rfl ?_)
       | (show EL _ _ _ _ (⟨_, .assign _, _, _, _, _⟩ :: _) _ _; refine EL.f (FV.assign rfl) rfl rfl ?_)
       | (show EL _ _ _ _ (⟨_, .call _, _, _, _, _⟩ :: _) _ _; refine EL.f (FV.len rfl rfl) rfl rfl ?_)
       | (show EL _ _ _ _ (⟨_, .binOp .lss _ _ _ _, _, _, _, _⟩ :: _) _ _; refine EL.fT (FV.lss rfl rfl) rfl (fun _ => rfl) (by omega) ?_)
       | (show EL _ _ _ _ (⟨_, .indexAddr _ _ _, _, _, _, _⟩ :: _) _ _; refine EL.f (FV.idx0 rfl rfl rfl rfl (by omega) (by omega)) rfl rfl ?_))
    | refine EL.nil ?_
    | refine EW.seq ?_
    | refine EW.region ?_
    | refine EW.block ?_
    | refine EW.skip ?_
    | refine EW.condT rfl ?_)
  refine EL.h (Hv.storeG rfl rfl rfl rfl rfl h7 (ints_get (by omega))) rfl (fun _ => rfl) ?_
  rintro _ w8 ⟨h7', hr8⟩
  replace h7' : At w8 2 1 g7 t.code.length t.code.length (ints (to.set k (code.length : Int))) := by rw [ints_set]; exact h7'
  have n8 := At.ne h8 h7 (by decide)
  have n1 := At.ne hb h7 (by decide)
  have n2 := At.ne h2 h7 (by decide)
  replace hs6 := own_far hs6 hr8 (own_ne hs6 (At.own h7 (Nat.le_refl _)) (by decide))
  replace h8 := At.kept h8 hr8 (by simp; exact n8)
  replace hb := At.kept hb hr8 (by simp; exact n1)
  replace h2 := At.kept h2 hr8 (by simp; exact n2)
  have hw8 : Ext w w8 := Below.wr he hr8 hg7 (Nat.le_refl _)
  clear h7
  replace hp := hp.ext hw8
  repeat' (first
    | (show EL _ _ _ _ (_ :: _) _ _
       first
       | (show EL _ _ _ _ (⟨_, .fieldAddr _ _ _, _, _, _, _⟩ :: _) _ _; refine EL.f (FV.fieldAddr rfl rfl rfl rfl rfl) rfl rfl ?_)
       | (show EL _ _ _ _ (⟨_, .load _ _, _, _, _, _⟩ :: _) _ _; first | refine EL.f (FV.load1 rfl rfl rfl (At.cell hb rfl)) rfl rfl ?_ | refine EL.f (FV.loadAgg (cs := insV x) rfl rfl rfl rfl rfl (fun _ e => e ▸ hp)) rfl rfl ?_)
       | (show EL _ _ _ _ (⟨_, .indexAddr _ _ _, _, _, _, _⟩ :: _) _ _; refine EL.f (FV.idx rfl rfl rfl rfl (by omega) (by omega)) rfl rfl ?_)
       | (show EL _ _ _ _ (⟨_, .move _, _, _, _, _⟩ :: _) _ _; refine EL.f (FV.move rfl) rfl rfl ?_))
    | refine EL.nil ?_
    | refine EW.region ?_)
  have hsl : (to.set k (code.length : Int)).length = t.code.length := by rw [List.length_set]; exact htl.1
  have hmv := implMoved x (some ⟨g7, 0, none⟩) t.code.length (to.set k (code.length : Int)) w8 hop (At.rd h7') (fun h3 => by have := mv_reg okk h3; rw [hsl]; omega) (fun h3 => by have := (okI_bin okk (by omega)).2; rw [hsl]; omega)
  rw [hsl] at hmv
  refine EL.h (Hv.call hmv rfl) rfl (fun _ => rfl) ?_
  rintro _ w9 ⟨rfl, he9⟩
  skip
  refine EL.h (Hv.buildIns (y := mvI x (to.set k (code.length : Int))) rfl) rfl (fun _ => rfl) ?_
  rintro _ w10 ⟨gq, rfl, hq, hgq, he10⟩
  have e810 := he9.trans he10
  have he010 := hw8.trans e810
  replace hs6 := own_ext hs6 e810
  skip
  refine EL.h (Hv.appendG (B := w.heap.size) (us := insV (mvI x (to.set k (code.length : Int)))) rfl rfl rfl rfl rfl rfl hs6 (insV_length _) (fun j u hj => At.cell hq hj) (insV_one _) (by omega) (by omega) he010.size) rfl (fun _ => rfl) ?_
  rintro v11 w11 ⟨own11, gr11, bl11, _⟩
  have on11 := Only.one gr11
  repeat' (first
    | refine EL.f (FV.move rfl) rfl rfl ?_
    | refine EL.f (FV.assign rfl) rfl rfl ?_
    | refine EL.f (FV.addI rfl rfl (by omega)) rfl rfl ?_
    | refine EL.nil ?_
    | refine EW.region ?_)
  exact ⟨(k + 1, v11), ⟨rfl, rfl, rfl, rfl, rfl, rfl, rfl, trivial⟩, ⟨by dsimp only; omega, by rw [hnext, insL_snoc1]; simp only [List.length_append]; exact own11, by rw [hnext]; exact At.only (At.ext h7' e810) on11 (At.apartO (At.ext h7' e810) hs6 (by decide)), At.only (At.ext h8 e810) on11 (At.apartO (At.ext h8 e810) hs6 (by decide)), At.only (At.ext hb e810) on11 (At.apartO (At.ext hb e810) hs6 (by decide)), At.only (At.ext h2 e810) on11 (At.apartO (At.ext h2 e810) hs6 (by decide)), Ext.after he010 bl11⟩, by dsimp only; omega⟩
end Eng
end Go.Proofs.Ytfkohgfcchhlpaa
