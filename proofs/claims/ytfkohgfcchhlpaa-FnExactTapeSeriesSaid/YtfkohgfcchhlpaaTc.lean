/- CountOps, in the program and in the reference. Conditions: the lengths. -/
import Derived.Test.YtfkohgfcchhlpaaTy
namespace Go.Proofs.Ytfkohgfcchhlpaa
open Go Go.RowKit
namespace Eng
theorem AtI.own' {B : Nat} {w : World} {g n c : Nat} {xs : List Int} (h : AtI w g c xs) (hn : xs.length = n) (hB : B ≤ g) : OwnI B w (.slice (some ⟨g, 0, none⟩) n c) xs := by
  subst hn
  exact At.own h hB
theorem SerOut.nil' {w w' : World} {c : Int} (he : Ext w w') : SerOut w ([], c) (.tuple #[.slice none 0 0, .int .i64 c]) w' := ⟨_, rfl, ⟨rfl, .inl ⟨rfl, rfl⟩⟩, he⟩
theorem okI_op {inp k : Int} {x : Ins} (h : okI inp x k = true) : 1 ≤ x.op ∧ x.op ≤ 7 := by
  unfold okI at h
  split at h
  · omega
  · split at h
    · omega
    · split at h
      · omega
      · split at h
        · omega
        · cases h
def cntL (xs : List Ins) : Nat → List Int
  | 0 => List.replicate 7 0
  | k + 1 => (cntL xs k).set ((xs.getD k dIns).op - 1).toNat ((cntL xs k).getD ((xs.getD k dIns).op - 1).toNat 0 + 1)
theorem cntL_length (xs : List Ins) (k : Nat) : (cntL xs k).length = 7 := by
  induction k with
  | zero => rfl
  | succ k ih => rw [cntL, List.length_set, ih]
theorem cntL_le (xs : List Ins) (k j : Nat) : 0 ≤ (cntL xs k).getD j 0 ∧ (cntL xs k).getD j 0 ≤ k := by
  induction k with
  | zero =>
    rw [show cntL xs 0 = List.replicate 7 0 from rfl, List.getD_eq_getElem?_getD, List.getElem?_replicate]
    split <;> simp
  | succ k ih =>
    simp only [cntL]
    by_cases h : ((xs.getD k dIns).op - 1).toNat = j
    · rw [h]
      by_cases hj : j < (cntL xs k).length
      · rw [List.getD_eq_getElem?_getD, List.getElem?_set_self hj]
        simp only [Option.getD_some]
        omega
      · rw [List.getD_eq_getElem?_getD, List.getElem?_eq_none (by rw [List.length_set]; omega)]
        simp
        omega
    · rw [List.getD_eq_getElem?_getD, List.getElem?_set_ne h, ← List.getD_eq_getElem?_getD]
      omega
def fCountOps (t : Tp) : List Int × Int := if okT t = true then (cntL t.code t.code.length, 0) else ([], 1)
theorem fCountOps_len (t : Tp) : (fCountOps t).1.length ≤ 1048576 := by
  unfold fCountOps
  split
  · simp only; rw [cntL_length]; omega
  · simp
set_option maxHeartbeats 4000000 in
theorem implCountOpsT (v : Value) (t : Tp) (w : World) (h : TapeV w v t) (hf : Fit t) : CallsR Try.prog 26 [v] w (SerOut w (fCountOps t)) := by
  have hv := h
  obtain ⟨A, c, B, d, C, e, rfl, r1, r2, r3⟩ := h
  have n1 := hf.c
  refine CallsR.enter Try.func26 (by decide +kernel) rfl Try.ntmps26 rfl ?_
  repeat' (first
    | refine EW.seq ?_
    | refine EW.region ?_)
  refine EL.h (Hv.boxA (sz := 4) rfl rfl) rfl (fun _ => rfl) ?_
  rintro _ w1 ⟨g1, rfl, hg1, hb, he1⟩
  repeat' (first
    | refine EL.f (FV.loadAgg (cs := [.int .i64 t.inputs, .slice A t.code.length c, .slice B t.guards.length d, .slice C t.outs.length e]) rfl rfl rfl rfl rfl (fun _ e => e ▸ At.lies hb)) rfl rfl ?_
    | refine EL.f (FV.assign rfl) rfl rfl ?_
    | refine EL.nil ?_
    | refine EW.seq ?_
    | refine EW.region ?_)
  refine EL.h (Hv.call (implValidTape _ t w1 (hv.ext he1) hf) rfl) rfl (fun _ => rfl) ?_
  rintro _ w2 ⟨rfl, he2⟩
  have hw2 := he1.trans he2
  replace hb := At.ext hb he2
  unfold fCountOps
  cases ok : okT t
  · repeat' (first
      | refine EL.f (FV.assign rfl) rfl rfl ?_
      | refine EL.f (FV.not rfl) rfl rfl ?_
      | refine EL.nil ?_
      | refine EW.seq ?_
      | refine EW.region ?_
      | refine EW.ret ?_
      | refine EW.condT rfl ?_)
    exact ⟨_, rfl, SerOut.nil' hw2⟩
  rw [if_pos rfl]
  have okc := (okT_iff.1 ok).2.2.2.2.1
  repeat' (first
    | refine EL.f (FV.not rfl) rfl rfl ?_
    | refine EL.nil ?_
    | refine EW.seq ?_
    | refine EW.region ?_
    | refine EW.skip ?_
    | refine EW.condF rfl ?_)
  refine EL.h (Hv.make (m := 7) (kl := .i64) rfl rfl rfl rfl (by omega) (by omega)) rfl (fun _ => rfl) ?_
  rintro _ w3 ⟨g, rfl, hg, hat, he3⟩
  rw [madeInts] at hat
  have s1 := hw2.size
  have hw3 := hw2.trans he3
  replace hb := At.ext hb he3
  repeat' (first
    | (show EL _ _ _ _ (_ :: _) _ _
       first
       | (show EL _ _ _ _ (⟨_, .fieldAddr _ _ _, _, _, _, _⟩ :: _) _ _; refine EL.f (FV.fieldAddr rfl rfl rfl rfl rfl) rfl rfl ?_)
       | (show EL _ _ _ _ (⟨_, .load _ _, _, _, _, _⟩ :: _) _ _; refine EL.f (FV.load1 rfl rfl rfl (At.cell hb rfl)) rfl rfl ?_)
       | (show EL _ _ _ _ (⟨_, .move _, _, _, _, _⟩ :: _) _ _; refine EL.f (FV.move rfl) rfl rfl ?_)
       | (show EL _ _ _ _ (⟨_, .assign _, _, _, _, _⟩ :: _) _ _; refine EL.f (FV.assign rfl) rfl rfl ?_)
       | (show EL _ _ _ _ (⟨_, .call _, _, _, _, _⟩ :: _) _ _; refine EL.f (FV.len rfl rfl) rfl rfl ?_))
    | refine EL.nil ?_
    | refine EW.seq ?_
    | refine EW.region ?_
    | refine EW.block ?_)
  refine EW.loop (fun k wr => k ≤ t.code.length ∧ AtI wr g 7 (cntL t.code k) ∧ Ext w wr ∧ g < wr.heap.size) (fun k => [(2, .slice none 0 0), (4, .slice (some ⟨g, 0, none⟩) 7 7), (12, .slice A t.code.length c), (13, .int .i64 t.code.length), (14, .int .i64 k)]) (fun k => t.code.length - k) 0 ⟨Nat.zero_le _, hat, hw3, At.lt hat⟩ ⟨rfl, rfl, rfl, rfl, rfl, trivial⟩ ?_
  rintro k wr ⟨hk, hat, he, hgl⟩
  by_cases hlt : k < t.code.length
  · obtain ⟨x1, o1, rfl, hp⟩ := Rd.elem insV_length (by decide) dIns (r1.ext he) hlt
    have op := okI_op (okc k hlt)
    repeat' (first
      | refine EL.f (FV.idx rfl rfl rfl rfl (by omega) (by omega)) rfl rfl ?_
      | refine EL.f (FV.loadAgg (cs := insV (t.code.getD k dIns)) rfl rfl rfl rfl rfl (fun _ e => hp.ext (e ▸ Ext.refl _))) rfl rfl ?_
      | refine EL.fT (FV.lss rfl rfl) rfl (fun _ => rfl) (by omega) ?_
      | refine EL.nil ?_
      | refine EW.seq ?_
      | refine EW.region ?_
      | refine EW.block ?_
      | refine EW.skip ?_
      | refine EW.condT rfl ?_)
    refine EL.h (Hv.allocA rfl rfl) rfl (fun _ => rfl) ?_
    rintro _ w4 ⟨g4, rfl, hg4, h4, he4⟩
    skip
    refine EL.h (Hv.storeAggG (vs := insV (t.code.getD k dIns)) rfl rfl rfl rfl (insV_one _) h4 (Nat.le_refl _)) rfl (fun _ => rfl) ?_
    rintro _ w5 ⟨h5, hr5⟩
    have hw5 : Ext wr w5 := Below.wr he4 hr5 (by omega) (Nat.le_refl _)
    replace hat := At.ext hat hw5
    have hlen := cntL_length t.code k
    have hle := cntL_le t.code k ((t.code.getD k dIns).op - 1).toNat
    have hoo : ((t.code.getD k dIns).op - 1).toNat < (cntL t.code k).length := by omega
    repeat' (first
      | (show EL _ _ _ _ (_ :: _) _ _
         first
         | (show EL _ _ _ _ (⟨_, .fieldAddr _ _ _, _, _, _, _⟩ :: _) _ _; refine EL.f (FV.fieldAddr rfl rfl rfl rfl rfl) rfl rfl ?_)
         | (show EL _ _ _ _ (⟨_, .indexAddr _ _ _, _, _, _, _⟩ :: _) _ _; refine EL.f (FV.idx0 rfl rfl rfl rfl (by omega) (by omega)) rfl rfl ?_)
         | (show EL _ _ _ _ (⟨_, .load _ _, _, _, _, _⟩ :: _) _ _; first | refine EL.f (FV.load1 rfl rfl rfl (At.cell h5 rfl)) rfl rfl ?_ | refine EL.f (FV.load1 rfl rfl rfl (At.cell hat (ints_get hoo))) rfl rfl ?_)
         | (show EL _ _ _ _ (⟨_, .move _, _, _, _, _⟩ :: _) _ _; refine EL.f (FV.move rfl) rfl rfl ?_)
         | (show EL _ _ _ _ (⟨_, .binOp .add _ _ _ _, _, _, _, _⟩ :: _) _ _; refine EL.f (FV.addI rfl rfl (by omega)) rfl rfl ?_)
         | (show EL _ _ _ _ (⟨_, .binOp .sub _ _ _ _, _, _, _, _⟩ :: _) _ _; refine EL.f (FV.subI rfl rfl (by omega)) rfl rfl ?_))
      | refine EL.nil ?_
      | refine EW.region ?_)
    refine EL.h (Hv.storeG rfl rfl rfl rfl rfl hat (ints_get hoo)) rfl (fun _ => rfl) ?_
    rintro _ w6 ⟨h6, hr6⟩
    repeat' (first
      | refine EL.f (FV.move rfl) rfl rfl ?_
      | refine EL.f (FV.addI rfl rfl (by omega)) rfl rfl ?_
      | refine EL.nil ?_
      | refine EW.region ?_)
    refine ⟨k + 1, ⟨rfl, rfl, rfl, rfl, rfl, trivial⟩, ⟨by omega, ?_, Below.wr (he.trans hw5) hr6 (by omega) (Nat.le_refl _), by have := hr6.size; have := hw5.size; omega⟩, by omega⟩
    unfold AtI
    rw [cntL, List.length_set, ints_set]
    exact h6
  · obtain rfl : k = t.code.length := by omega
    repeat' (first
      | refine EL.f (FV.move rfl) rfl rfl ?_
      | refine EL.f (FV.assign rfl) rfl rfl ?_
      | refine EL.fF (FV.lss rfl rfl) rfl (fun _ => rfl) (by omega) ?_
      | refine EL.nil ?_
      | refine EW.seq ?_
      | refine EW.region ?_
      | refine EW.exit ?_
      | refine EW.ret ?_
      | refine EW.condF rfl ?_)
    exact ⟨_, rfl, _, rfl, AtI.own' hat (cntL_length _ _) (by omega), he⟩
set_option maxHeartbeats 4000000 in
theorem specCountOpsT (v : Value) (t : Tp) (w : World) (h : TapeV w v t) (hf : Fit t) : CallsR Try.prog 25 [v] w (SerOut w (fCountOps t)) := by
  obtain ⟨A, c, B, d, C, e, rfl, r1, r2, r3⟩ := h
  have n1 := hf.c
  refine CallsR.enter Try.func25 (by decide +kernel) rfl Try.ntmps25 rfl ?_
  repeat' (first
    | refine EW.seq ?_
    | refine EW.region ?_)
  refine EL.h (Hv.boxA (sz := 4) rfl rfl) rfl (fun _ => rfl) ?_
  rintro _ w1 ⟨g1, rfl, hg1, hb, he1⟩
  repeat' (first
    | refine EL.f (FV.assign rfl) rfl rfl ?_
    | refine EL.nil ?_
    | refine EW.seq ?_
    | refine EW.region ?_)
  refine EL.h (Hv.call (specOkT g1 0 t w1 ⟨A, c, B, d, C, e, At.lies hb, r1.ext he1, r2.ext he1, r3.ext he1⟩ hf) rfl) rfl (fun _ => rfl) ?_
  rintro _ w2 ⟨rfl, he2⟩
  have hw2 := he1.trans he2
  replace hb := At.ext hb he2
  unfold fCountOps
  cases ok : okT t
  · repeat' (first
      | (refine EL.h (Hv.build0 rfl rfl) rfl (fun _ => rfl) ?_; rintro v w' ⟨ho, he⟩)
      | refine EL.f (FV.assign rfl) rfl rfl ?_
      | refine EL.f (FV.not rfl) rfl rfl ?_
      | refine EL.nil ?_
      | refine EW.seq ?_
      | refine EW.region ?_
      | refine EW.ret ?_
      | refine EW.condT rfl ?_)
    exact ⟨_, rfl, v, rfl, OwnI.lower ho hw2.size, hw2.trans he⟩
  rw [if_pos rfl]
  have okc := (okT_iff.1 ok).2.2.2.2.1
  repeat' (first
    | refine EL.f (FV.not rfl) rfl rfl ?_
    | refine EL.nil ?_
    | refine EW.seq ?_
    | refine EW.region ?_
    | refine EW.skip ?_
    | refine EW.condF rfl ?_)
  refine EL.h (Hv.make (m := 7) (kl := .i64) rfl rfl rfl rfl (by omega) (by omega)) rfl (fun _ => rfl) ?_
  rintro _ w3 ⟨g, rfl, hg, hat, he3⟩
  rw [madeInts] at hat
  have s1 := hw2.size
  have hw3 := hw2.trans he3
  have lb := At.lt hb
  replace hb := At.ext hb he3
  repeat' (first
    | refine EL.f (FV.assign rfl) rfl rfl ?_
    | refine EL.nil ?_
    | refine EW.seq ?_
    | refine EW.region ?_
    | refine EW.block ?_)
  refine EW.loop (fun k wr => k ≤ t.code.length ∧ AtI wr g 7 (cntL t.code k) ∧ Ext w wr ∧ w3.grownBy wr (some g)) (fun k => [(1, .pointer (some ⟨g1, 0, none⟩)), (4, .slice (some ⟨g, 0, none⟩) 7 7), (5, .int .i64 k)]) (fun k => t.code.length - k) 0 ⟨Nat.zero_le _, hat, hw3, World.grownBy.refl _ _⟩ ⟨rfl, rfl, rfl, trivial⟩ ?_
  rintro k wr ⟨hk, hat, he, hgr⟩
  have hb0 := At.kept hb hgr (by simp; omega)
  by_cases hlt : k < t.code.length
  · obtain ⟨x1, o1, rfl, hp⟩ := Rd.elem insV_length (by decide) dIns (r1.ext he) hlt
    have hp0 := hp 0 _ rfl
    have op := okI_op (okc k hlt)
    have hlen := cntL_length t.code k
    have hle := cntL_le t.code k ((t.code.getD k dIns).op - 1).toNat
    have hoo : ((t.code.getD k dIns).op - 1).toNat < (cntL t.code k).length := by omega
    repeat' (first
      | (show EL _ _ _ _ (_ :: _) _ _
         first
         | (show EL _ _ _ _ (⟨_, .fieldAddr _ _ _, _, _, _, _⟩ :: _) _ _; refine EL.f (FV.fieldAddr rfl rfl rfl rfl rfl) rfl rfl ?_)
         | (show EL _ _ _ _ (⟨_, .indexAddr _ _ _, _, _, _, _⟩ :: _) _ _; first | refine EL.f (FV.idx0 rfl rfl rfl rfl (by omega) (by omega)) rfl rfl ?_ | refine EL.f (FV.idx rfl rfl rfl rfl (by omega) (by omega)) rfl rfl ?_)
         | (show EL _ _ _ _ (⟨_, .load _ _, _, _, _, _⟩ :: _) _ _; first | refine EL.f (FV.load1 rfl rfl rfl (At.cell hb0 rfl)) rfl rfl ?_ | refine EL.f (FV.load1 rfl rfl rfl hp0) rfl rfl ?_ | refine EL.f (FV.load1 rfl rfl rfl (At.cell hat (ints_get hoo))) rfl rfl ?_)
         | (show EL _ _ _ _ (⟨_, .move _, _, _, _, _⟩ :: _) _ _; refine EL.f (FV.move rfl) rfl rfl ?_)
         | (show EL _ _ _ _ (⟨_, .binOp .add _ _ _ _, _, _, _, _⟩ :: _) _ _; refine EL.f (FV.addI rfl rfl (by omega)) rfl rfl ?_)
         | (show EL _ _ _ _ (⟨_, .binOp .sub _ _ _ _, _, _, _, _⟩ :: _) _ _; refine EL.f (FV.subI rfl rfl (by omega)) rfl rfl ?_)
         | (show EL _ _ _ _ (⟨_, .call _, _, _, _, _⟩ :: _) _ _; refine EL.f (FV.len rfl rfl) rfl rfl ?_)
         | (show EL _ _ _ _ (⟨_, .binOp .lss _ _ _ _, _, _, _, _⟩ :: _) _ _; refine EL.fT (FV.lss rfl rfl) rfl (fun _ => rfl) (by omega) ?_))
      | refine EL.nil ?_
      | refine EW.seq ?_
      | refine EW.region ?_
      | refine EW.block ?_
      | refine EW.skip ?_
      | refine EW.condT rfl ?_)
    refine EL.h (Hv.storeG rfl rfl rfl rfl rfl hat (ints_get hoo)) rfl (fun _ => rfl) ?_
    rintro _ w6 ⟨h6, hr6⟩
    repeat' (first
      | refine EL.f (FV.move rfl) rfl rfl ?_
      | refine EL.f (FV.assign rfl) rfl rfl ?_
      | refine EL.f (FV.addI rfl rfl (by omega)) rfl rfl ?_
      | refine EL.nil ?_
      | refine EW.region ?_)
    refine ⟨k + 1, ⟨rfl, rfl, rfl, trivial⟩, ⟨by omega, ?_, Below.wr he hr6 (by omega) (Nat.le_refl _), grownBy_trans hgr hr6⟩, by omega⟩
    unfold AtI
    rw [cntL, List.length_set, ints_set]
    exact h6
  · obtain rfl : k = t.code.length := by omega
    repeat' (first
      | (show EL _ _ _ _ (_ :: _) _ _
         first
         | (show EL _ _ _ _ (⟨_, .fieldAddr _ _ _, _, _, _, _⟩ :: _) _ _; refine EL.f (FV.fieldAddr rfl rfl rfl rfl rfl) rfl rfl ?_)
         | (show EL _ _ _ _ (⟨_, .load _ _, _, _, _, _⟩ :: _) _ _; refine EL.f (FV.load1 rfl rfl rfl (At.cell hb0 rfl)) rfl rfl ?_)
         | (show EL _ _ _ _ (⟨_, .move _, _, _, _, _⟩ :: _) _ _; refine EL.f (FV.move rfl) rfl rfl ?_)
         | (show EL _ _ _ _ (⟨_, .assign _, _, _, _, _⟩ :: _) _ _; refine EL.f (FV.assign rfl) rfl rfl ?_)
         | (show EL _ _ _ _ (⟨_, .call _, _, _, _, _⟩ :: _) _ _; refine EL.f (FV.len rfl rfl) rfl rfl ?_)
         | (show EL _ _ _ _ (⟨_, .binOp .lss _ _ _ _, _, _, _, _⟩ :: _) _ _; refine EL.fF (FV.lss rfl rfl) rfl (fun _ => rfl) (by omega) ?_))
      | refine EL.nil ?_
      | refine EW.seq ?_
      | refine EW.region ?_
      | refine EW.exit ?_
      | refine EW.ret ?_
      | refine EW.condF rfl ?_)
    exact ⟨_, rfl, _, rfl, AtI.own' hat (cntL_length _ _) (by omega), he⟩
end Eng
end Go.Proofs.Ytfkohgfcchhlpaa
