/- AdjointsOf, TapeReverse and TapeHessian: the reference's contracts. Conditions: the lengths. -/
import Derived.Test.YtfkohgfcchhlpaaTj
namespace Go.Proofs.Ytfkohgfcchhlpaa
open Go Go.RowKit
namespace Eng
set_option maxHeartbeats 8000000 in
theorem specAdjoints (b o : Nat) (t : Tp) (A : Option Addr) (c : Nat) (xs : List Int) (C : Option Addr) (c2 : Nat) (ws : List Int) (D : Option Addr) (c3 : Nat) (ds : List Int) (j : Nat) (w : World) (h : TapeP w b o t) (hf : Fit t) (hx : Rd w A (ints xs)) (hn : xs.length ≤ 1048576) (hw : Rd w C (ints ws)) (hwn : ws.length ≤ 1048576) (hd : Rd w D (ints ds)) (hdn : ds.length ≤ 1048576) (hj : j ≤ 1) :
    CallsR Try.prog 111 [.pointer (some ⟨b, o, none⟩), .slice A xs.length c, .slice C ws.length c2, .slice D ds.length c3, .int .i64 ((j + 1 : Nat) : Int)] w (SwOut w (swR t xs ws ds j)) := by
  refine CallsR.enter Try.func111 (by decide +kernel) rfl Try.ntmps111 rfl ?_
  repeat' (first
    | refine EL.f (FV.move rfl) rfl rfl ?_
    | refine EL.f (FV.assign rfl) rfl rfl ?_
    | refine EL.nil ?_
    | refine EW.seq ?_
    | refine EW.region ?_)
  refine EL.h (Hv.call (specWeighed b o t A C D c c2 c3 xs ws ds w h hf hx hn hw hwn hd hdn) rfl) rfl (fun _ => rfl) ?_
  rintro _ w3 ⟨rfl, hw3⟩
  by_cases hc : wC t xs ws ds = 0
  rotate_left
  · repeat' (first
      | (show EL _ _ _ _ (_ :: _) _ _
         first
         | (show EL _ _ _ _ (⟨_, .buildSlice _ _ _, _, _, _, _⟩ :: _) _ _; (refine EL.h (Hv.build0 rfl rfl) rfl (fun _ => rfl) ?_; rintro v9 w9 ⟨ho9, he9⟩))
         | (show EL _ _ _ _ (⟨_, .move _, _, _, _, _⟩ :: _) _ _; refine EL.f (FV.move rfl) rfl rfl ?_)
         | (show EL _ _ _ _ (⟨_, .assign _, _, _, _, _⟩ :: _) _ _; refine EL.f (FV.assign rfl) rfl rfl ?_)
         | (show EL _ _ _ _ (⟨_, .binOp .neq _ _ _ _, _, _, _, _⟩ :: _) _ _; refine EL.fT (FV.neq rfl rfl) rfl (fun _ => rfl) (by omega) ?_))
      | refine EL.nil ?_
      | refine EW.seq ?_
      | refine EW.region ?_
      | refine EW.ret ?_
      | refine EW.condT rfl ?_)
    rw [swR_code hc]
    exact ⟨_, rfl, _, rfl, fun e => absurd e hc, hw3.trans he9⟩
  obtain ⟨hr, hwl, hnw⟩ := wC_zero hc
  obtain ⟨ok, ⟨hl, hnum⟩, hld, hnd⟩ := runC_zero2 hr
  have hin := (okT_iff.1 ok).1
  have hcl := (okT_iff.1 ok).2.1
  have line : CallsR Try.prog 99 [.slice A xs.length c, .slice D ds.length c3, .int .i64 (((j + 1 : Nat) : Int) - 1)] w3 fun v w' => OutR w3.heap.size w' v (lineL xs ds j) ∧ Ext w3 w' := by
    rw [show (((j + 1 : Nat) : Int) - 1) = (j : Int) from by omega]
    exact specLine A D c c3 xs ds j w3 (hx.ext hw3) (hd.ext hw3) (by omega) (by omega) hj
  repeat' (first
    | (show EL _ _ _ _ (_ :: _) _ _
       first
       | (show EL _ _ _ _ (⟨_, .move _, _, _, _, _⟩ :: _) _ _; refine EL.f (FV.move rfl) rfl rfl ?_)
       | (show EL _ _ _ _ (⟨_, .assign _, _, _, _, _⟩ :: _) _ _; refine EL.f (FV.assign rfl) rfl rfl ?_)
       | (show EL _ _ _ _ (⟨_, .binOp .sub _ _ _ _, _, _, _, _⟩ :: _) _ _; refine EL.f (FV.subI rfl rfl (by omega)) rfl rfl ?_)
       | (show EL _ _ _ _ (⟨_, .binOp .neq _ _ _ _, _, _, _, _⟩ :: _) _ _; refine EL.fF (FV.neq rfl rfl) rfl (fun _ => rfl) (by omega) ?_))
    | refine EL.nil ?_
    | refine EW.seq ?_
    | refine EW.region ?_
    | refine EW.skip ?_
    | refine EW.condF rfl ?_)
  refine EL.h (Hv.call line rfl) rfl (fun _ => rfl) ?_
  rintro s w4 ⟨hout, he4⟩
  obtain ⟨A4, c4, rfl, hrows⟩ := hout.rows
  have hw4 := hw3.trans he4
  repeat' (first
    | refine EL.f (FV.move rfl) rfl rfl ?_)
  refine EL.h (Hv.call (specSeries b o t A4 c4 (lineL xs ds j) j w4 (h.ext hw4) hf ok hrows (by rw [lineL_length]; exact hl) (lineL_good hj hnum hnd) (by omega)) rfl) rfl (fun _ => rfl) ?_
  rintro res w5 hR
  have hw5 := hw4.trans hR.2
  unfold RegOut at hR
  cases e : regS t (lineL xs ds j) (j + 1) t.code.length with
  | none =>
    rw [e] at hR
    obtain ⟨⟨s, rfl⟩, _⟩ := hR
    rw [swR_none hc e]
    repeat' (first
      | (show EL _ _ _ _ (_ :: _) _ _
         first
         | (show EL _ _ _ _ (⟨_, .buildSlice _ _ _, _, _, _, _⟩ :: _) _ _; (refine EL.h (Hv.build0 rfl rfl) rfl (fun _ => rfl) ?_; rintro v9 w9 ⟨ho9, he9⟩))
         | (show EL _ _ _ _ (⟨_, .move _, _, _, _, _⟩ :: _) _ _; refine EL.f (FV.move rfl) rfl rfl ?_)
         | (show EL _ _ _ _ (⟨_, .assign _, _, _, _, _⟩ :: _) _ _; refine EL.f (FV.assign rfl) rfl rfl ?_)
         | (show EL _ _ _ _ (⟨_, .extract _ _, _, _, _, _⟩ :: _) _ _; refine EL.f (FV.extract rfl rfl) rfl rfl ?_)
         | (show EL _ _ _ _ (⟨_, .unOp .not _ _, _, _, _, _⟩ :: _) _ _; refine EL.f (FV.not rfl) rfl rfl ?_))
      | refine EL.nil ?_
      | refine EW.seq ?_
      | refine EW.region ?_
      | refine EW.ret ?_
      | refine EW.condT rfl ?_)
    exact ⟨_, rfl, _, rfl, fun e => by simp at e, hw5.trans he9⟩
  | some out =>
    rw [e] at hR
    obtain ⟨⟨s, rfl, ho⟩, _⟩ := hR
    obtain ⟨hol, hgo⟩ := regS_good ok (by rw [lineL_length]; exact hl) (lineL_good (j := j) hj hnum hnd) (Nat.le_refl _) e
    obtain ⟨A5, c5, rfl, hr5⟩ := ho.rows
    rw [swR_some hc e]
    repeat' (first
      | (show EL _ _ _ _ (_ :: _) _ _
         first
         | (show EL _ _ _ _ (⟨_, .move _, _, _, _, _⟩ :: _) _ _; refine EL.f (FV.move rfl) rfl rfl ?_)
         | (show EL _ _ _ _ (⟨_, .assign _, _, _, _, _⟩ :: _) _ _; refine EL.f (FV.assign rfl) rfl rfl ?_)
         | (show EL _ _ _ _ (⟨_, .extract _ _, _, _, _, _⟩ :: _) _ _; refine EL.f (FV.extract rfl rfl) rfl rfl ?_)
         | (show EL _ _ _ _ (⟨_, .unOp .not _ _, _, _, _, _⟩ :: _) _ _; refine EL.f (FV.not rfl) rfl rfl ?_))
      | refine EL.nil ?_
      | refine EW.seq ?_
      | refine EW.region ?_
      | refine EW.skip ?_
      | refine EW.condF rfl ?_)
    refine EL.h (Hv.call (specSweep b o t A5 C c5 c2 out ws j w5 (h.ext hw5) hf ok hr5 hol hgo (hw.ext hw5) hwl (by omega)) rfl) rfl (fun _ => rfl) ?_
    rintro s6 w6 ⟨ho6, he6⟩
    repeat' (first
      | refine EL.f (FV.assign rfl) rfl rfl ?_
      | refine EL.nil ?_
      | refine EW.ret ?_)
    exact ⟨_, rfl, s6, rfl, fun _ => ho6.rows, hw5.trans he6⟩
theorem inN_bound (t : Tp) (adj : List (List Int)) (j k i : Nat) : 0 ≤ (inN t adj j k).getD i 0 ∧ (inN t adj j k).getD i 0 < 1000003 := by
  induction k with
  | zero =>
    rw [inN, List.getD_eq_getElem?_getD, List.getElem?_replicate]
    split <;> simp
  | succ k ih =>
    rw [inN]
    split
    · by_cases h : (t.code.getD k dIns).num.toNat = i
      · rw [h]
        by_cases hi : i < (inN t adj j k).length
        · rw [getD_setA hi]; omega
        · rw [List.getD_eq_getElem?_getD, List.getElem?_eq_none (by rw [List.length_set]; omega)]; simp
      · rw [getD_setB h]; exact ih
    · exact ih
set_option maxHeartbeats 8000000 in
theorem specInputs (b o : Nat) (t : Tp) (A : Option Addr) (c : Nat) (adj : List (List Int)) (j : Nat) (w : World) (h : TapeP w b o t) (_hf : Fit t) (ok : okT t = true) (ha : Rows w A adj) (hal : adj.length = t.code.length) (hga : ∀ i, i < adj.length → j < (adj.getD i []).length) (hj : j ≤ 1) :
    CallsR Try.prog 114 [.pointer (some ⟨b, o, none⟩), .slice A adj.length c, .int .i64 j] w fun v w' => OwnI w.heap.size w' v (inN t adj j t.code.length) ∧ Ext w w' := by
  obtain ⟨E, d, F, d2, G, d3, hb, r1, r2, r3⟩ := h
  have okc := (okT_iff.1 ok).2.2.2.2.1
  have hin := (okT_iff.1 ok).1
  have hcl := (okT_iff.1 ok).2.1
  have hou := (okT_iff.1 ok).2.2.2
  have hn0 : 0 < t.code.length := by have := hou.2.2.2 0 (by omega); omega
  obtain ⟨n, hni⟩ : ∃ n : Nat, t.inputs = n := ⟨t.inputs.toNat, by omega⟩
  have hnn : t.inputs.toNat = n := by omega
  have h0 := hb 0 _ rfl
  rw [hni] at h0
  rw [hal]
  obtain ⟨b8, o8, rfl, hadj⟩ := ha.all (by omega)
  refine CallsR.enter Try.func114 (by decide +kernel) rfl Try.ntmps114 rfl ?_
  repeat' (first
    | (show EL _ _ _ _ (_ :: _) _ _
       first
       | (show EL _ _ _ _ (⟨_, .nilCheck _, _, _, _, _⟩ :: _) _ _; refine EL.f (FV.nilChk rfl) rfl rfl ?_)
       | (show EL _ _ _ _ (⟨_, .fieldAddr _ _ _, _, _, _, _⟩ :: _) _ _; refine EL.f (FV.fieldAddr rfl rfl rfl rfl rfl) rfl rfl ?_)
       | (show EL _ _ _ _ (⟨_, .load _ _, _, _, _, _⟩ :: _) _ _; refine EL.f (FV.load1 rfl rfl rfl h0) rfl rfl ?_)
       | (show EL _ _ _ _ (⟨_, .move _, _, _, _, _⟩ :: _) _ _; refine EL.f (FV.move rfl) rfl rfl ?_)
       | (show EL _ _ _ _ (⟨_, .assign _, _, _, _, _⟩ :: _) _ _; refine EL.f (FV.assign rfl) rfl rfl ?_))
    | refine EL.nil ?_
    | refine EW.seq ?_
    | refine EW.region ?_)
  refine EL.h (Hv.make (m := n) (kl := .i64) rfl rfl rfl rfl (by omega) (by omega)) rfl (fun _ => rfl) ?_
  rintro _ w1 ⟨g, rfl, hg, hat, he1⟩
  rw [madeInts] at hat
  repeat' (first
    | refine EL.f (FV.assign rfl) rfl rfl ?_
    | refine EL.nil ?_
    | refine EW.seq ?_
    | refine EW.region ?_
    | refine EW.block ?_)
  refine EW.loop (fun k wr => k ≤ t.code.length ∧ At wr 2 1 g n n (ints (inN t adj j k)) ∧ Ext w wr) (fun k => [(0, .pointer (some ⟨b, o, none⟩)), (1, .slice (some ⟨b8, o8, none⟩) t.code.length c), (2, .int .i64 j), (7, .slice (some ⟨g, 0, none⟩) n n), (8, .int .i64 k)]) (fun k => t.code.length - k) 0 ⟨Nat.zero_le _, by rw [inN, hnn]; exact hat, he1⟩ ⟨rfl, rfl, rfl, rfl, rfl, trivial⟩ ?_
  clear hat
  rintro k wr ⟨hk, hat, he⟩
  have hbr := hb.ext he
  by_cases hlt : k < t.code.length
  rotate_left
  · obtain rfl : k = t.code.length := by omega
    repeat' (first
      | (show EL _ _ _ _ (_ :: _) _ _
         first
         | (show EL _ _ _ _ (⟨_, .nilCheck _, _, _, _, _⟩ :: _) _ _; refine EL.f (FV.nilChk rfl) rfl rfl ?_)
         | (show EL _ _ _ _ (⟨_, .fieldAddr _ _ _, _, _, _, _⟩ :: _) _ _; refine EL.f (FV.fieldAddr rfl rfl rfl rfl rfl) rfl rfl ?_)
         | (show EL _ _ _ _ (⟨_, .load _ _, _, _, _, _⟩ :: _) _ _; refine EL.f (FV.load1 rfl rfl rfl (hbr 1 _ rfl)) rfl rfl ?_)
         | (show EL _ _ _ _ (⟨_, .move _, _, _, _, _⟩ :: _) _ _; refine EL.f (FV.move rfl) rfl rfl ?_)
         | (show EL _ _ _ _ (⟨_, .assign _, _, _, _, _⟩ :: _) _ _; refine EL.f (FV.assign rfl) rfl rfl ?_)
         | (show EL _ _ _ _ (⟨_, .call _, _, _, _, _⟩ :: _) _ _; refine EL.f (FV.len rfl rfl) rfl rfl ?_)
         | (show EL _ _ _ _ (⟨_, .binOp .lss _ _ _ _, _, _, _, _⟩ :: _) _ _; refine EL.fF (FV.lss rfl rfl) rfl (fun _ => rfl) (by omega) ?_))
      | refine EL.nil ?_
      | refine EW.seq ?_
      | refine EW.region ?_
      | refine EW.exit ?_
      | refine EW.ret ?_
      | refine EW.condF rfl ?_)
    exact ⟨_, rfl, AtI.own' (xs := inN t adj j t.code.length) (by unfold AtI; rw [inN_length, hnn]; exact hat) (by rw [inN_length, hnn]) (by omega), he⟩
  obtain ⟨x1, p1, rfl, hp⟩ := Rd.elem insV_length (by decide) dIns (r1.ext he) hlt
  have hp0 := hp 0 _ rfl
  have hp3 := hp 3 _ rfl
  have okk := okc k hlt
  have hnext : inN t adj j (k + 1) = if (t.code.getD k dIns).op = 1 then (inN t adj j k).set (t.code.getD k dIns).num.toNat (((inN t adj j k).getD (t.code.getD k dIns).num.toNat 0 + (adj.getD k []).getD j 0) % 1000003) else inN t adj j k := rfl
  have hll := inN_length t adj j k
  generalize t.code.getD k dIns = x at *
  by_cases o1 : x.op = 1
  · obtain ⟨on0, on1⟩ := okI_in okk o1
    obtain ⟨Bk, ck, hck, hrk⟩ := hadj k (by omega)
    have lk := hga k (by omega)
    obtain ⟨bk, ok2, rfl, hcj⟩ := hrk.int (k := j) lk
    have hcx := ints_get (xs := inN t adj j k) (k := x.num.toNat) (by omega)
    repeat' (first
      | (show EL _ _ _ _ (_ :: _) _ _
         first
         | (show EL _ _ _ _ (⟨_, .nilCheck _, _, _, _, _⟩ :: _) _ _; refine EL.f (FV.nilChk rfl) rfl rfl ?_)
         | (show EL _ _ _ _ (⟨_, .fieldAddr _ _ _, _, _, _, _⟩ :: _) _ _; refine EL.f (FV.fieldAddr rfl rfl rfl rfl rfl) rfl rfl ?_)
         | (show EL _ _ _ _ (⟨_, .indexAddr _ _ _, _, _, _, _⟩ :: _) _ _; refine EL.f (FV.idx rfl rfl rfl rfl (by omega) (by omega)) rfl rfl ?_)
         | (show EL _ _ _ _ (⟨_, .load _ _, _, _, _, _⟩ :: _) _ _; first | refine EL.f (FV.load1 rfl rfl rfl (hbr 1 _ rfl)) rfl rfl ?_ | refine EL.f (FV.load1 rfl rfl rfl hp0) rfl rfl ?_)
         | (show EL _ _ _ _ (⟨_, .move _, _, _, _, _⟩ :: _) _ _; refine EL.f (FV.move rfl) rfl rfl ?_)
         | (show EL _ _ _ _ (⟨_, .call _, _, _, _, _⟩ :: _) _ _; refine EL.f (FV.len rfl rfl) rfl rfl ?_)
         | (show EL _ _ _ _ (⟨_, .binOp .lss _ _ _ _, _, _, _, _⟩ :: _) _ _; refine EL.fT (FV.lss rfl rfl) rfl (fun _ => rfl) (by omega) ?_)
         | (show EL _ _ _ _ (⟨_, .binOp .eql _ _ _ _, _, _, _, _⟩ :: _) _ _; refine EL.fT (FV.eql rfl rfl) rfl (fun _ => rfl) (by omega) ?_))
      | refine EL.nil ?_
      | refine EW.seq ?_
      | refine EW.region ?_
      | refine EW.block ?_
      | refine EW.skip ?_
      | refine EW.condT rfl ?_)
    refine EW.draw (fun w' => Ext wr w') (pl 0 27 ++ [(27, false), (28, true), (29, false)]) mixed (by decide +kernel) (Ext.drew _) ?_
    repeat' (first
      | refine EP.f rfl (FV.nilChk rfl) rfl rfl ?_
      | refine EP.f rfl (FV.fieldAddr rfl rfl rfl rfl rfl) rfl rfl ?_
      | refine EP.f rfl (FV.idx (s := 4) rfl rfl rfl rfl (by omega) (by omega)) rfl rfl ?_
      | refine EP.f rfl (FV.load rfl rfl rfl (fun w' h' => (hbr.ext h') 1 _ rfl)) rfl rfl ?_
      | refine EP.f rfl (FV.load rfl rfl rfl (fun w' h' => h'.cell hp3)) rfl rfl ?_
      | refine EP.f rfl (FV.load rfl rfl rfl (fun w' h' => At.cell (At.ext hat h') hcx)) rfl rfl ?_
      | refine EP.f rfl (FV.load rfl rfl rfl (fun w' h' => (he.trans h').cell hck)) rfl rfl ?_
      | refine EP.f rfl (FV.load rfl rfl rfl (fun w' h' => (he.trans h').cell hcj)) rfl rfl ?_
      | refine EP.f rfl (FV.move rfl) rfl rfl ?_
      | refine EP.f rfl (FV.idx0 rfl rfl rfl rfl (by omega) (by omega)) rfl rfl ?_
      | refine EP.f rfl (FV.idx1 rfl rfl rfl rfl (by omega) (by omega)) rfl rfl ?_)
    have ed := Ext.drew wr
    refine EP.h rfl rfl (Hv.call (specPlus _ _ wr.drew) rfl) rfl (fun _ => rfl) ?_
    rintro _ _ ⟨rfl, rfl⟩
    refine ⟨ed, ?_⟩
    repeat' (first
      | refine EP.f rfl (FV.idx0 rfl rfl rfl rfl (by omega) (by omega)) rfl rfl ?_)
    refine EP.last rfl rfl (by decide +kernel) (Hv.storeG rfl rfl rfl rfl rfl (At.ext hat ed) hcx) rfl (fun _ => rfl) ?_
    rintro _ w4 ⟨h4, hr4⟩
    repeat' (first
      | refine EL.f (FV.move rfl) rfl rfl ?_
      | refine EL.f (FV.assign rfl) rfl rfl ?_
      | refine EL.f (FV.addI rfl rfl (by omega)) rfl rfl ?_
      | refine EL.nil ?_
      | refine EW.region ?_)
    refine ⟨k + 1, ⟨rfl, rfl, rfl, rfl, rfl, trivial⟩, ⟨by omega, ?_, Below.wr (he.trans ed) hr4 (by omega) (Nat.le_refl _)⟩, by omega⟩
    rw [hnext, if_pos o1, ints_set]
    exact h4
  · repeat' (first
      | (show EL _ _ _ _ (_ :: _) _ _
         first
         | (show EL _ _ _ _ (⟨_, .nilCheck _, _, _, _, _⟩ :: _) _ _; refine EL.f (FV.nilChk rfl) rfl rfl ?_)
         | (show EL _ _ _ _ (⟨_, .fieldAddr _ _ _, _, _, _, _⟩ :: _) _ _; refine EL.f (FV.fieldAddr rfl rfl rfl rfl rfl) rfl rfl ?_)
         | (show EL _ _ _ _ (⟨_, .indexAddr _ _ _, _, _, _, _⟩ :: _) _ _; refine EL.f (FV.idx rfl rfl rfl rfl (by omega) (by omega)) rfl rfl ?_)
         | (show EL _ _ _ _ (⟨_, .load _ _, _, _, _, _⟩ :: _) _ _; first | refine EL.f (FV.load1 rfl rfl rfl (hbr 1 _ rfl)) rfl rfl ?_ | refine EL.f (FV.load1 rfl rfl rfl hp0) rfl rfl ?_)
         | (show EL _ _ _ _ (⟨_, .move _, _, _, _, _⟩ :: _) _ _; refine EL.f (FV.move rfl) rfl rfl ?_)
         | (show EL _ _ _ _ (⟨_, .assign _, _, _, _, _⟩ :: _) _ _; refine EL.f (FV.assign rfl) rfl rfl ?_)
         | (show EL _ _ _ _ (⟨_, .binOp .add _ _ _ _, _, _, _, _⟩ :: _) _ _; refine EL.f (FV.addI rfl rfl (by omega)) rfl rfl ?_)
         | (show EL _ _ _ _ (⟨_, .call _, _, _, _, _⟩ :: _) _ _; refine EL.f (FV.len rfl rfl) rfl rfl ?_)
         | (show EL _ _ _ _ (⟨_, .binOp .lss _ _ _ _, _, _, _, _⟩ :: _) _ _; refine EL.fT (FV.lss rfl rfl) rfl (fun _ => rfl) (by omega) ?_)
         | (show EL _ _ _ _ (⟨_, .binOp .eql _ _ _ _, _, _, _, _⟩ :: _) _ _; refine EL.fF (FV.eql rfl rfl) rfl (fun _ => rfl) (by omega) ?_))
      | refine EL.nil ?_
      | refine EW.seq ?_
      | refine EW.region ?_
      | refine EW.block ?_
      | refine EW.skip ?_
      | refine EW.condT rfl ?_
      | refine EW.condF rfl ?_)
    exact ⟨k + 1, ⟨rfl, rfl, rfl, rfl, rfl, trivial⟩, ⟨by omega, by rw [hnext, if_neg o1]; exact hat, he⟩, by omega⟩
set_option maxHeartbeats 8000000 in
theorem specAdjointsOfT (v : Value) (t : Tp) (A : Option Addr) (c : Nat) (xs : List Int) (C : Option Addr) (c2 : Nat) (ws : List Int) (w : World) (h : TapeV w v t) (hf : Fit t) (hx : Rd w A (ints xs)) (hn : xs.length ≤ 1048576) (hw : Rd w C (ints ws)) (hwn : ws.length ≤ 1048576) :
    CallsR Try.prog 54 [v, .slice A xs.length c, .slice C ws.length c2] w (SerOut w (fAdjoints t xs ws)) := by
  obtain ⟨P, p, Q, q, R, r, rfl, r1, r2, r3⟩ := h
  refine CallsR.enter Try.func54 (by decide +kernel) rfl Try.ntmps54 rfl ?_
  repeat' (first
    | refine EW.seq ?_
    | refine EW.region ?_)
  refine EL.h (Hv.boxA (sz := 4) rfl rfl) rfl (fun _ => rfl) ?_
  rintro _ w1 ⟨g1, rfl, hg1, hb, he1⟩
  have tp1 : TapeP w1 g1 0 t := ⟨P, p, Q, q, R, r, At.lies hb, r1.ext he1, r2.ext he1, r3.ext he1⟩
  repeat' (first
    | refine EL.f (FV.move rfl) rfl rfl ?_
    | refine EL.f (FV.assign rfl) rfl rfl ?_
    | refine EL.nil ?_
    | refine EW.seq ?_
    | refine EW.region ?_)
  refine EL.h (Hv.call (specAdjoints g1 0 t A c xs C c2 ws A c xs 0 w1 tp1 hf (hx.ext he1) hn (hw.ext he1) hwn (hx.ext he1) hn (by omega)) rfl) rfl (fun _ => rfl) ?_
  rintro _ w2 ⟨s, rfl, ho, he2⟩
  have hw2 := he1.trans he2
  have e1 : (swR t xs ws xs 0).2 = (swR t xs ws xs 1).2 := by rw [swR_cut]
  have e2 : (swR t xs ws xs 0).1 = hds (swR t xs ws xs 1).1 := by rw [swR_cut]
  rw [e1] at ho
  rw [e2] at ho
  rw [e1]
  unfold fAdjoints
  by_cases hz : (swR t xs ws xs 1).2 = 0
  rotate_left
  · repeat' (first
      | (show EL _ _ _ _ (_ :: _) _ _
         first
         | (show EL _ _ _ _ (⟨_, .buildSlice _ _ _, _, _, _, _⟩ :: _) _ _; (refine EL.h (Hv.build0 rfl rfl) rfl (fun _ => rfl) ?_; rintro v9 w9 ⟨ho9, he9⟩))
         | (show EL _ _ _ _ (⟨_, .move _, _, _, _, _⟩ :: _) _ _; refine EL.f (FV.move rfl) rfl rfl ?_)
         | (show EL _ _ _ _ (⟨_, .assign _, _, _, _, _⟩ :: _) _ _; refine EL.f (FV.assign rfl) rfl rfl ?_)
         | (show EL _ _ _ _ (⟨_, .extract _ _, _, _, _, _⟩ :: _) _ _; refine EL.f (FV.extract rfl rfl) rfl rfl ?_)
         | (show EL _ _ _ _ (⟨_, .binOp .neq _ _ _ _, _, _, _, _⟩ :: _) _ _; refine EL.fT (FV.neq rfl rfl) rfl (fun _ => rfl) (by omega) ?_))
      | refine EL.nil ?_
      | refine EW.seq ?_
      | refine EW.region ?_
      | refine EW.ret ?_
      | refine EW.condT rfl ?_)
    rw [if_neg hz]
    exact ⟨_, rfl, v9, rfl, OwnI.lower ho9 hw2.size, hw2.trans he9⟩
  obtain ⟨ok, hl, hg⟩ := swR_zero hz
  have hcl := (okT_iff.1 ok).2.1
  obtain ⟨A2, c4, rfl, hrow⟩ := ho hz
  rw [if_pos hz]
  repeat' (first
    | (show EL _ _ _ _ (_ :: _) _ _
       first
       | (show EL _ _ _ _ (⟨_, .move _, _, _, _, _⟩ :: _) _ _; refine EL.f (FV.move rfl) rfl rfl ?_)
       | (show EL _ _ _ _ (⟨_, .assign _, _, _, _, _⟩ :: _) _ _; refine EL.f (FV.assign rfl) rfl rfl ?_)
       | (show EL _ _ _ _ (⟨_, .extract _ _, _, _, _, _⟩ :: _) _ _; refine EL.f (FV.extract rfl rfl) rfl rfl ?_)
       | (show EL _ _ _ _ (⟨_, .binOp .neq _ _ _ _, _, _, _, _⟩ :: _) _ _; refine EL.fF (FV.neq rfl rfl) rfl (fun _ => rfl) (by omega) ?_))
    | refine EL.nil ?_
    | refine EW.seq ?_
    | refine EW.region ?_
    | refine EW.skip ?_
    | refine EW.condF rfl ?_)
  have hcall := specColumn A2 c4 (hds (swR t xs ws xs 1).1) 0 w2 hrow (fun i hi => by rw [hds_length] at hi; rw [hds_get hi]; simp [hd]) (by rw [hds_length]; omega)
  have hcc : mapR (fun k => ((hds (swR t xs ws xs 1).1).getD k []).getD 0 0) (hds (swR t xs ws xs 1).1).length = colL (swR t xs ws xs 1).1 0 := col_hds _
  rw [hcc] at hcall
  refine EL.h (Hv.call hcall rfl) rfl (fun _ => rfl) ?_
  rintro v6 w6 ⟨ho6, he6⟩
  repeat' (first
    | refine EL.f (FV.assign rfl) rfl rfl ?_
    | refine EL.nil ?_
    | refine EW.ret ?_)
  exact ⟨_, rfl, v6, rfl, OwnI.lower ho6 hw2.size, hw2.trans he6⟩
set_option maxHeartbeats 8000000 in
theorem specTapeReverseT (v : Value) (t : Tp) (A : Option Addr) (c : Nat) (xs : List Int) (C : Option Addr) (c2 : Nat) (ws : List Int) (w : World) (h : TapeV w v t) (hf : Fit t) (hx : Rd w A (ints xs)) (hn : xs.length ≤ 1048576) (hw : Rd w C (ints ws)) (hwn : ws.length ≤ 1048576) :
    CallsR Try.prog 60 [v, .slice A xs.length c, .slice C ws.length c2] w (SerOut w (fReverse t xs ws)) := by
  obtain ⟨P, p, Q, q, R, r, rfl, r1, r2, r3⟩ := h
  refine CallsR.enter Try.func60 (by decide +kernel) rfl Try.ntmps60 rfl ?_
  repeat' (first
    | refine EW.seq ?_
    | refine EW.region ?_)
  refine EL.h (Hv.boxA (sz := 4) rfl rfl) rfl (fun _ => rfl) ?_
  rintro _ w1 ⟨g1, rfl, hg1, hb, he1⟩
  have tp1 : TapeP w1 g1 0 t := ⟨P, p, Q, q, R, r, At.lies hb, r1.ext he1, r2.ext he1, r3.ext he1⟩
  repeat' (first
    | refine EL.f (FV.move rfl) rfl rfl ?_
    | refine EL.f (FV.assign rfl) rfl rfl ?_
    | refine EL.nil ?_
    | refine EW.seq ?_
    | refine EW.region ?_)
  refine EL.h (Hv.call (specAdjoints g1 0 t A c xs C c2 ws A c xs 0 w1 tp1 hf (hx.ext he1) hn (hw.ext he1) hwn (hx.ext he1) hn (by omega)) rfl) rfl (fun _ => rfl) ?_
  rintro _ w2 ⟨s, rfl, ho, he2⟩
  have hw2 := he1.trans he2
  have e1 : (swR t xs ws xs 0).2 = (swR t xs ws xs 1).2 := by rw [swR_cut]
  have e2 : (swR t xs ws xs 0).1 = hds (swR t xs ws xs 1).1 := by rw [swR_cut]
  rw [e1] at ho
  rw [e2] at ho
  rw [e1]
  unfold fReverse
  by_cases hz : (swR t xs ws xs 1).2 = 0
  rotate_left
  · repeat' (first
      | (show EL _ _ _ _ (_ :: _) _ _
         first
         | (show EL _ _ _ _ (⟨_, .buildSlice _ _ _, _, _, _, _⟩ :: _) _ _; (refine EL.h (Hv.build0 rfl rfl) rfl (fun _ => rfl) ?_; rintro v9 w9 ⟨ho9, he9⟩))
         | (show EL _ _ _ _ (⟨_, .move _, _, _, _, _⟩ :: _) _ _; refine EL.f (FV.move rfl) rfl rfl ?_)
         | (show EL _ _ _ _ (⟨_, .assign _, _, _, _, _⟩ :: _) _ _; refine EL.f (FV.assign rfl) rfl rfl ?_)
         | (show EL _ _ _ _ (⟨_, .extract _ _, _, _, _, _⟩ :: _) _ _; refine EL.f (FV.extract rfl rfl) rfl rfl ?_)
         | (show EL _ _ _ _ (⟨_, .binOp .neq _ _ _ _, _, _, _, _⟩ :: _) _ _; refine EL.fT (FV.neq rfl rfl) rfl (fun _ => rfl) (by omega) ?_))
      | refine EL.nil ?_
      | refine EW.seq ?_
      | refine EW.region ?_
      | refine EW.ret ?_
      | refine EW.condT rfl ?_)
    rw [if_neg hz]
    exact ⟨_, rfl, v9, rfl, OwnI.lower ho9 hw2.size, hw2.trans he9⟩
  obtain ⟨ok, hl, hg⟩ := swR_zero hz
  have hcl := (okT_iff.1 ok).2.1
  obtain ⟨A2, c4, rfl, hrow⟩ := ho hz
  rw [if_pos hz]
  repeat' (first
    | (show EL _ _ _ _ (_ :: _) _ _
       first
       | (show EL _ _ _ _ (⟨_, .move _, _, _, _, _⟩ :: _) _ _; refine EL.f (FV.move rfl) rfl rfl ?_)
       | (show EL _ _ _ _ (⟨_, .assign _, _, _, _, _⟩ :: _) _ _; refine EL.f (FV.assign rfl) rfl rfl ?_)
       | (show EL _ _ _ _ (⟨_, .extract _ _, _, _, _, _⟩ :: _) _ _; refine EL.f (FV.extract rfl rfl) rfl rfl ?_)
       | (show EL _ _ _ _ (⟨_, .binOp .neq _ _ _ _, _, _, _, _⟩ :: _) _ _; refine EL.fF (FV.neq rfl rfl) rfl (fun _ => rfl) (by omega) ?_))
    | refine EL.nil ?_
    | refine EW.seq ?_
    | refine EW.region ?_
    | refine EW.skip ?_
    | refine EW.condF rfl ?_)
  have hcall := specInputs g1 0 t A2 c4 (hds (swR t xs ws xs 1).1) 0 w2 (tp1.ext he2) hf ok hrow (by rw [hds_length]; exact hl) (fun i hi => by rw [hds_length] at hi; rw [hds_get hi]; simp [hd]) (by omega)
  rw [inN_hds t _ hl _ (Nat.le_refl _)] at hcall
  refine EL.h (Hv.call hcall rfl) rfl (fun _ => rfl) ?_
  rintro v6 w6 ⟨ho6, he6⟩
  repeat' (first
    | refine EL.f (FV.assign rfl) rfl rfl ?_
    | refine EL.nil ?_
    | refine EW.ret ?_)
  exact ⟨_, rfl, v6, rfl, OwnI.lower ho6 hw2.size, hw2.trans he6⟩
set_option maxHeartbeats 8000000 in
theorem specTapeHessianT (v : Value) (t : Tp) (A : Option Addr) (c : Nat) (xs : List Int) (C : Option Addr) (c2 : Nat) (ws : List Int) (D : Option Addr) (c3 : Nat) (ds : List Int) (w : World) (h : TapeV w v t) (hf : Fit t) (hx : Rd w A (ints xs)) (hn : xs.length ≤ 1048576) (hw : Rd w C (ints ws)) (hwn : ws.length ≤ 1048576) (hd : Rd w D (ints ds)) (hdn : ds.length ≤ 1048576) :
    CallsR Try.prog 58 [v, .slice A xs.length c, .slice C ws.length c2, .slice D ds.length c3] w (SerOut w (fHessian t xs ws ds)) := by
  obtain ⟨P, p, Q, q, R, r, rfl, r1, r2, r3⟩ := h
  refine CallsR.enter Try.func58 (by decide +kernel) rfl Try.ntmps58 rfl ?_
  repeat' (first
    | refine EW.seq ?_
    | refine EW.region ?_)
  refine EL.h (Hv.boxA (sz := 4) rfl rfl) rfl (fun _ => rfl) ?_
  rintro _ w1 ⟨g1, rfl, hg1, hb, he1⟩
  have tp1 : TapeP w1 g1 0 t := ⟨P, p, Q, q, R, r, At.lies hb, r1.ext he1, r2.ext he1, r3.ext he1⟩
  repeat' (first
    | refine EL.f (FV.move rfl) rfl rfl ?_
    | refine EL.f (FV.assign rfl) rfl rfl ?_
    | refine EL.nil ?_
    | refine EW.seq ?_
    | refine EW.region ?_)
  refine EL.h (Hv.call (specAdjoints g1 0 t A c xs C c2 ws D c3 ds 1 w1 tp1 hf (hx.ext he1) hn (hw.ext he1) hwn (hd.ext he1) hdn (by omega)) rfl) rfl (fun _ => rfl) ?_
  rintro _ w2 ⟨s, rfl, ho, he2⟩
  have hw2 := he1.trans he2
  unfold fHessian
  by_cases hz : (swR t xs ws ds 1).2 = 0
  rotate_left
  · repeat' (first
      | (show EL _ _ _ _ (_ :: _) _ _
         first
         | (show EL _ _ _ _ (⟨_, .buildSlice _ _ _, _, _, _, _⟩ :: _) _ _; (refine EL.h (Hv.build0 rfl rfl) rfl (fun _ => rfl) ?_; rintro v9 w9 ⟨ho9, he9⟩))
         | (show EL _ _ _ _ (⟨_, .move _, _, _, _, _⟩ :: _) _ _; refine EL.f (FV.move rfl) rfl rfl ?_)
         | (show EL _ _ _ _ (⟨_, .assign _, _, _, _, _⟩ :: _) _ _; refine EL.f (FV.assign rfl) rfl rfl ?_)
         | (show EL _ _ _ _ (⟨_, .extract _ _, _, _, _, _⟩ :: _) _ _; refine EL.f (FV.extract rfl rfl) rfl rfl ?_)
         | (show EL _ _ _ _ (⟨_, .binOp .neq _ _ _ _, _, _, _, _⟩ :: _) _ _; refine EL.fT (FV.neq rfl rfl) rfl (fun _ => rfl) (by omega) ?_))
      | refine EL.nil ?_
      | refine EW.seq ?_
      | refine EW.region ?_
      | refine EW.ret ?_
      | refine EW.condT rfl ?_)
    rw [if_neg hz]
    exact ⟨_, rfl, v9, rfl, OwnI.lower ho9 hw2.size, hw2.trans he9⟩
  obtain ⟨ok, hl, hg⟩ := swR_zero hz
  have hcl := (okT_iff.1 ok).2.1
  obtain ⟨A2, c4, rfl, hrow⟩ := ho hz
  rw [if_pos hz]
  repeat' (first
    | (show EL _ _ _ _ (_ :: _) _ _
       first
       | (show EL _ _ _ _ (⟨_, .move _, _, _, _, _⟩ :: _) _ _; refine EL.f (FV.move rfl) rfl rfl ?_)
       | (show EL _ _ _ _ (⟨_, .assign _, _, _, _, _⟩ :: _) _ _; refine EL.f (FV.assign rfl) rfl rfl ?_)
       | (show EL _ _ _ _ (⟨_, .extract _ _, _, _, _, _⟩ :: _) _ _; refine EL.f (FV.extract rfl rfl) rfl rfl ?_)
       | (show EL _ _ _ _ (⟨_, .binOp .neq _ _ _ _, _, _, _, _⟩ :: _) _ _; refine EL.fF (FV.neq rfl rfl) rfl (fun _ => rfl) (by omega) ?_))
    | refine EL.nil ?_
    | refine EW.seq ?_
    | refine EW.region ?_
    | refine EW.skip ?_
    | refine EW.condF rfl ?_)
  refine EL.h (Hv.call (specInputs g1 0 t A2 c4 (swR t xs ws ds 1).1 1 w2 (tp1.ext he2) hf ok hrow hl (fun i hi => by rw [(hg i hi).1]; omega) (by omega)) rfl) rfl (fun _ => rfl) ?_
  rintro v6 w6 ⟨ho6, he6⟩
  repeat' (first
    | refine EL.f (FV.assign rfl) rfl rfl ?_
    | refine EL.nil ?_
    | refine EW.ret ?_)
  exact ⟨_, rfl, v6, rfl, OwnI.lower ho6 hw2.size, hw2.trans he6⟩
end Eng
end Go.Proofs.Ytfkohgfcchhlpaa
