/- InputsOf: the contracts of both sides. Conditions: the lengths. -/
import Derived.Test.YtgahkbcfjibjaaaTtr
import Derived.Test.YtgahkbcfjibjaaaMt
namespace Go.Proofs.Ytgahkbcfjibjaaa
open Go Go.RowKit
namespace Eng
def isIn (t : Tp) (nd : List Bool) (i : Nat) : Bool := nd.getD i false && decide ((t.code.getD i dIns).op = 1)
def insU (t : Tp) (nd : List Bool) : Nat → List Int
  | 0 => []
  | i + 1 => if isIn t nd i = true then putR (t.code.getD i dIns).num (insU t nd i) else insU t nd i
theorem insU_rising (t : Tp) (nd : List Bool) : ∀ i, Rising (insU t nd i)
  | 0 => by simp [insU, Rising]
  | i + 1 => by
    have ih := insU_rising t nd i
    rw [insU]
    split
    · exact putR_rising ih
    · exact ih
theorem insU_length (t : Tp) (nd : List Bool) : ∀ i, (insU t nd i).length ≤ i
  | 0 => by simp [insU]
  | i + 1 => by
    have ih := insU_length t nd i
    rw [insU]
    split
    · have := putR_length (n := (t.code.getD i dIns).num) (xs := insU t nd i); omega
    · omega
def needI (t : Tp) (reg : Int) : List Bool := nS t (markB (List.replicate t.code.length false) [reg]) t.code.length
def fInputsOf (t : Tp) (reg : Int) : List Int × Int := if okT t = true then (if 0 ≤ reg ∧ reg ≤ (t.code.length : Int) - 1 then (insU t (needI t reg) t.code.length, 0) else ([], 2)) else ([], 1)
theorem fInputsOf_bad {t : Tp} {reg : Int} (h : okT t = false) : fInputsOf t reg = ([], 1) := by rw [fInputsOf, if_neg (by rw [h]; decide)]
theorem fInputsOf_out {t : Tp} {reg : Int} (h : okT t = true) (h2 : ¬ (0 ≤ reg ∧ reg ≤ (t.code.length : Int) - 1)) : fInputsOf t reg = ([], 2) := by rw [fInputsOf, if_pos h, if_neg h2]
theorem fInputsOf_ok {t : Tp} {reg : Int} (h : okT t = true) (h2 : 0 ≤ reg ∧ reg ≤ (t.code.length : Int) - 1) : fInputsOf t reg = (insU t (needI t reg) t.code.length, 0) := by rw [fInputsOf, if_pos h, if_pos h2]
theorem fInputsOf_len (t : Tp) (reg : Int) : (fInputsOf t reg).1.length ≤ 1048576 := by
  cases ok : okT t
  · rw [fInputsOf_bad ok]; simp
  by_cases h : 0 ≤ reg ∧ reg ≤ (t.code.length : Int) - 1
  · rw [fInputsOf_ok ok h]
    have := insU_length t (needI t reg) t.code.length
    have := (okT_iff.1 ok).2.1
    dsimp only
    omega
  · rw [fInputsOf_out ok h]; simp
theorem needI_length (t : Tp) (reg : Int) : (needI t reg).length = t.code.length := by unfold needI; rw [nS_length, markB_length, List.length_replicate]
theorem nilOut {w w' : World} {c : Int} (he : Ext w w') : SerOut w ([], c) (.tuple #[.slice none 0 0, .int .i64 c]) w' := ⟨_, rfl, ⟨rfl, .inl ⟨rfl, rfl⟩⟩, he⟩
set_option maxHeartbeats 16000000 in
theorem implInputsOfT (v : Value) (t : Tp) (reg : Int) (w : World) (h : TapeV w v t) (hf : Fit t) (_hb : -9223372036854775808 ≤ reg ∧ reg ≤ 9223372036854775807) :
    CallsR Try.prog 9 [v, .int .i64 reg] w (SerOut w (fInputsOf t reg)) := by
  have hv := h
  obtain ⟨P, p, Q, q, R, r, rfl, r1, r2, r3⟩ := h
  refine CallsR.enter Try.func9 (by decide +kernel) rfl Try.ntmps9 rfl ?_
  repeat' (first
    | refine EW.seq ?_
    | refine EW.region ?_)
  refine EL.h (Hv.boxA (sz := 4) rfl rfl) rfl (fun _ => rfl) ?_
  rintro _ w1 ⟨g1, rfl, hg1, hb, he1⟩
  repeat' (first
    | refine EL.f (FV.loadAgg (cs := [.int .i64 t.inputs, .slice P t.code.length p, .slice Q t.guards.length q, .slice R t.outs.length r]) rfl rfl rfl rfl rfl (fun _ e => e ▸ At.lies hb)) rfl rfl ?_
    | refine EL.f (FV.assign rfl) rfl rfl ?_
    | refine EL.nil ?_
    | refine EW.seq ?_
    | refine EW.region ?_
    | refine EW.block ?_)
  refine EL.h (Hv.call (implValidTape _ t w1 (hv.ext he1) hf) rfl) rfl (fun _ => rfl) ?_
  rintro _ w2 ⟨rfl, he2⟩
  have hw2 := he1.trans he2
  replace hb := At.ext hb he2
  cases ok : okT t
  · repeat' (first
      | refine EL.f (FV.assign rfl) rfl rfl ?_
      | refine EL.f (FV.not rfl) rfl rfl ?_
      | refine EL.nil ?_
      | refine EW.seq ?_
      | refine EW.region ?_
      | refine EW.ret ?_
      | refine EW.condT rfl ?_)
    rw [fInputsOf_bad ok]
    exact ⟨_, rfl, nilOut hw2⟩
  obtain ⟨hin, hcl, _, hou, okc, _⟩ := okT_iff.1 ok
  by_cases hr : 0 ≤ reg ∧ reg ≤ (t.code.length : Int) - 1
  rotate_left
  · have i1 : inB reg 0 ((t.code.length : Int) - 1) = false := by unfold inB; exact decide_eq_false hr
    repeat' (first
      | (show EL _ _ _ _ (_ :: _) _ _
         first
         | (show EL _ _ _ _ (⟨_, .fieldAddr _ _ _, _, _, _, _⟩ :: _) _ _; refine EL.f (FV.fieldAddr rfl rfl rfl rfl rfl) rfl rfl ?_)
         | (show EL _ _ _ _ (⟨_, .load _ _, _, _, _, _⟩ :: _) _ _; refine EL.f (FV.load1 rfl rfl rfl (At.cell hb rfl)) rfl rfl ?_)
         | (show EL _ _ _ _ (⟨_, .call _, _, _, _, _⟩ :: _) _ _; first | (refine EL.h (Hv.call (implWithinR i1 _) rfl) rfl (fun _ => rfl) ?_; rintro _ _ ⟨rfl, rfl⟩) | refine EL.f (FV.len rfl rfl) rfl rfl ?_)
         | (show EL _ _ _ _ (⟨_, .move _, _, _, _, _⟩ :: _) _ _; refine EL.f (FV.move rfl) rfl rfl ?_)
         | (show EL _ _ _ _ (⟨_, .assign _, _, _, _, _⟩ :: _) _ _; refine EL.f (FV.assign rfl) rfl rfl ?_)
         | (show EL _ _ _ _ (⟨_, .binOp .sub _ _ _ _, _, _, _, _⟩ :: _) _ _; refine EL.f (FV.subI rfl rfl (by omega)) rfl rfl ?_)
         | (show EL _ _ _ _ (⟨_, .unOp .not _ _, _, _, _, _⟩ :: _) _ _; refine EL.f (FV.not rfl) rfl rfl ?_))
      | refine EL.nil ?_
      | refine EW.seq ?_
      | refine EW.region ?_
      | refine EW.ret ?_
      | refine EW.condT rfl ?_
      | refine EW.condF rfl ?_)
    rw [fInputsOf_out ok hr]
    exact ⟨_, rfl, nilOut hw2⟩
  have i1 : inB reg 0 ((t.code.length : Int) - 1) = true := inB_iff.2 hr
  rw [fInputsOf_ok ok hr]
  repeat' (first
    | (show EL _ _ _ _ (_ :: _) _ _
       first
       | (show EL _ _ _ _ (⟨_, .fieldAddr _ _ _, _, _, _, _⟩ :: _) _ _; refine EL.f (FV.fieldAddr rfl rfl rfl rfl rfl) rfl rfl ?_)
       | (show EL _ _ _ _ (⟨_, .load _ _, _, _, _, _⟩ :: _) _ _; refine EL.f (FV.load1 rfl rfl rfl (At.cell hb rfl)) rfl rfl ?_)
       | (show EL _ _ _ _ (⟨_, .call _, _, _, _, _⟩ :: _) _ _; first | (refine EL.h (Hv.call (implWithinR i1 _) rfl) rfl (fun _ => rfl) ?_; rintro _ _ ⟨rfl, rfl⟩) | refine EL.f (FV.len rfl rfl) rfl rfl ?_)
       | (show EL _ _ _ _ (⟨_, .move _, _, _, _, _⟩ :: _) _ _; refine EL.f (FV.move rfl) rfl rfl ?_)
       | (show EL _ _ _ _ (⟨_, .assign _, _, _, _, _⟩ :: _) _ _; refine EL.f (FV.assign rfl) rfl rfl ?_)
       | (show EL _ _ _ _ (⟨_, .binOp .sub _ _ _ _, _, _, _, _⟩ :: _) _ _; refine EL.f (FV.subI rfl rfl (by omega)) rfl rfl ?_)
       | (show EL _ _ _ _ (⟨_, .unOp .not _ _, _, _, _, _⟩ :: _) _ _; refine EL.f (FV.not rfl) rfl rfl ?_))
    | refine EL.nil ?_
    | refine EW.seq ?_
    | refine EW.region ?_
    | refine EW.skip ?_
    | refine EW.condF rfl ?_)
  refine EL.h Hv.makeS rfl (fun _ => rfl) ?_
  rintro _ w3 ⟨m, rfl, hm, hS0, he3⟩
  have hw3 := hw2.trans he3
  replace hb := At.ext hb he3
  repeat' (first
    | refine EL.f (FV.loadAgg (cs := [.int .i64 t.inputs, .slice P t.code.length p, .slice Q t.guards.length q, .slice R t.outs.length r]) rfl rfl rfl rfl rfl (fun _ e => e ▸ At.lies hb)) rfl rfl ?_
    | refine EL.f (FV.move rfl) rfl rfl ?_
    | refine EL.f (FV.assign rfl) rfl rfl ?_
    | refine EL.nil ?_
    | refine EW.seq ?_
    | refine EW.region ?_)
  refine EL.h (Hv.build1S rfl rfl rfl rfl) rfl (fun _ => rfl) ?_
  rintro _ w4 ⟨g4, rfl, h4, hg4, he4⟩
  have hw4 := hw3.trans he4
  skip
  refine EL.h (Hv.call (implNeeded _ t (some ⟨g4, 0, none⟩) 1 [reg] w4 (hv.ext hw4) okc hcl (At.rd h4) (by simp) (fun i hi => by simp only [List.length_singleton] at hi; obtain rfl : i = 0 := (by omega); exact ⟨hr.1, by have := hr.2; simp only [List.getD_cons_zero]; omega⟩)) rfl) rfl (fun _ => rfl) ?_
  rintro _ w5 ⟨g, rfl, hat, hgw, he5⟩
  have e35 := he4.trans he5
  have hw5 := hw3.trans e35
  replace hb := At.ext hb e35
  have hS5 := hS0.ext e35
  have hnl := needI_length t reg
  rw [show nS t (markB (List.replicate t.code.length false) [reg]) t.code.length = needI t reg from rfl] at hat
  generalize needI t reg = nd at *
  repeat' (first
    | refine EL.f (FV.move rfl) rfl rfl ?_
    | refine EL.f (FV.len rfl rfl) rfl rfl ?_
    | refine EL.nil ?_
    | refine EW.block ?_)
  refine EW.loop (X := Nat × List Int) (fun y wr => y.1 ≤ t.code.length ∧ (SetAt wr m y.2 ∧ (∀ x, x ∈ y.2 ↔ x ∈ insU t nd y.1) ∧ y.2.length ≤ y.1) ∧ Only [some m] w5 wr) (fun y => [(2, .pointer (some ⟨g1, 0, none⟩)), (6, .map (some m)), (25, .slice (some ⟨g, 0, none⟩) t.code.length t.code.length), (26, .int .i64 t.code.length), (27, .int .i64 y.1)]) (fun y => t.code.length - y.1) (0, []) ⟨Nat.zero_le _, ⟨hS5, fun x => by simp [insU], Nat.le_refl _⟩, (Only.ext (Ext.refl w5)).mono fun x hx => by cases hx⟩ ⟨rfl, rfl, rfl, rfl, rfl, trivial⟩ ?_
  rintro ⟨i, ks⟩ wr ⟨hi, ⟨hS, hmem, hkl⟩, hO⟩
  dsimp only at *
  have hmw : w2.heap.size ≤ m := by omega
  have hWr : Ext w wr := Only.after hw5 hO (by intro k hk; simp at hk; have := hw2.size; omega)
  have hbm := hS5.apart hb
  have hgm := hS5.apart hat
  have hbr := At.only hb hO (by simp; exact fun e => hbm e.symm)
  have hatr := At.only hat hO (by simp; exact fun e => hgm e.symm)
  by_cases hlt : i < t.code.length
  rotate_left
  · obtain rfl : i = t.code.length := by omega
    repeat' (first
      | refine EL.f (FV.move rfl) rfl rfl ?_
      | refine EL.fF (FV.lss rfl rfl) rfl (fun _ => rfl) (by omega) ?_
      | refine EL.nil ?_
      | refine EW.seq ?_
      | refine EW.region ?_
      | refine EW.exit ?_
      | refine EW.condF rfl ?_)
    refine EL.h (Hv.call (implAscending m ks wr hS (by omega)) rfl) rfl (fun _ => rfl) ?_
    rintro v6 w6 ⟨L, ⟨hL1, hL2, hL3⟩, hown, he6⟩
    repeat' (first
      | refine EL.f (FV.assign rfl) rfl rfl ?_
      | refine EL.nil ?_
      | refine EW.ret ?_)
    have hLe : L = insU t nd t.code.length := rising_ext hL1 (insU_rising _ _ _) fun x => (hL2 x).trans (hmem x)
    subst hLe
    exact ⟨_, rfl, _, rfl, OwnI.lower hown hWr.size, hWr.trans he6⟩
  obtain ⟨bP, oP, rfl, hp⟩ := Rd.elem insV_length (by decide) dIns (r1.ext hWr) hlt
  have c0 := hp 0 _ rfl
  have c3 := hp 3 _ rfl
  have hcb : wr.cell? ⟨g, i, none⟩ = some (.bool (nd.getD i false)) := At.cell hatr (bools_get (by omega))
  cases hq : nd.getD i false
  · rw [hq] at hcb
    repeat' (first
      | (show EL _ _ _ _ (_ :: _) _ _
         first
         | (show EL _ _ _ _ (⟨_, _, _, _, _, some _⟩ :: _) _ _; refine EL.skip rfl rfl ?_)
         | (show EL _ _ _ _ (⟨_, .load _ _, _, _, _, _⟩ :: _) _ _; refine EL.f (FV.load1 rfl rfl rfl (hcb)) rfl rfl ?_)
         | (show EL _ _ _ _ (⟨_, .indexAddr _ _ _, _, _, _, _⟩ :: _) _ _; refine EL.f (FV.idx0 rfl rfl rfl rfl (by omega) (by omega)) rfl rfl ?_)
         | (show EL _ _ _ _ (⟨_, .move _, _, _, _, _⟩ :: _) _ _; refine EL.f (FV.move rfl) rfl rfl ?_)
         | (show EL _ _ _ _ (⟨_, .assign _, _, _, _, _⟩ :: _) _ _; refine EL.f (FV.assign rfl) rfl rfl ?_)
         | (show EL _ _ _ _ (⟨_, .binOp .add _ _ _ _, _, _, _, _⟩ :: _) _ _; refine EL.f (FV.addI rfl rfl (by omega)) rfl rfl ?_)
         | (show EL _ _ _ _ (⟨_, .pick _ _ _, _, _, _, _⟩ :: _) _ _; refine EL.f (FV.pickF rfl rfl) rfl rfl ?_)
         | (show EL _ _ _ _ (⟨_, .binOp .lss _ _ _ _, _, _, _, _⟩ :: _) _ _; refine EL.fT (FV.lss rfl rfl) rfl (fun _ => rfl) (by omega) ?_))
      | refine EL.nil ?_
      | refine EW.seq ?_
      | refine EW.region ?_
      | refine EW.block ?_
      | refine EW.skip ?_
      | refine EW.condT rfl ?_
      | refine EW.condF rfl ?_)
    have hno : isIn t nd i = false := by rw [isIn, hq]; rfl
    exact ⟨(i + 1, ks), ⟨rfl, rfl, rfl, rfl, rfl, trivial⟩, ⟨by dsimp only; omega, ⟨hS, fun x => by rw [insU, hno]; exact hmem x, by dsimp only; omega⟩, hO⟩, by dsimp only; omega⟩
  rw [hq] at hcb
  by_cases ho : (t.code.getD i dIns).op = 1
  · repeat' (first
      | (show EL _ _ _ _ (_ :: _) _ _
         first
         | (show EL _ _ _ _ (⟨_, .fieldAddr _ _ _, _, _, _, _⟩ :: _) _ _; refine EL.f (FV.fieldAddr rfl rfl rfl rfl rfl) rfl rfl ?_)
         | (show EL _ _ _ _ (⟨_, .load _ _, _, _, _, _⟩ :: _) _ _; first | refine EL.f (FV.load1 rfl rfl rfl (At.cell hbr rfl)) rfl rfl ?_ | refine EL.f (FV.load1 rfl rfl rfl (hcb)) rfl rfl ?_ | refine EL.f (FV.load1 rfl rfl rfl (c0)) rfl rfl ?_ | refine EL.f (FV.load1 rfl rfl rfl (c3)) rfl rfl ?_)
         | (show EL _ _ _ _ (⟨_, .indexAddr _ _ _, _, _, _, _⟩ :: _) _ _; first | refine EL.f (FV.idx0 rfl rfl rfl rfl (by omega) (by omega)) rfl rfl ?_ | refine EL.f (FV.idx rfl rfl rfl rfl (by omega) (by omega)) rfl rfl ?_)
         | (show EL _ _ _ _ (⟨_, .move _, _, _, _, _⟩ :: _) _ _; refine EL.f (FV.move rfl) rfl rfl ?_)
         | (show EL _ _ _ _ (⟨_, .assign _, _, _, _, _⟩ :: _) _ _; refine EL.f (FV.assign rfl) rfl rfl ?_)
         | (show EL _ _ _ _ (⟨_, .pick _ _ _, _, _, _, _⟩ :: _) _ _; refine EL.f (FV.pickT rfl rfl) rfl rfl ?_)
         | (show EL _ _ _ _ (⟨_, .binOp .lss _ _ _ _, _, _, _, _⟩ :: _) _ _; refine EL.fT (FV.lss rfl rfl) rfl (fun _ => rfl) (by omega) ?_)
         | (show EL _ _ _ _ (⟨_, .binOp .eql _ _ _ _, _, _, _, _⟩ :: _) _ _; refine EL.fT (FV.eql rfl rfl) rfl (fun _ => rfl) (by omega) ?_))
      | refine EL.nil ?_
      | refine EW.seq ?_
      | refine EW.region ?_
      | refine EW.block ?_
      | refine EW.skip ?_
      | refine EW.condT rfl ?_)
    refine EL.h (Hv.putS rfl rfl rfl hS) rfl (fun _ => rfl) ?_
    rintro _ w7 ⟨hS7, hg7⟩
    repeat' (first
      | refine EL.f (FV.move rfl) rfl rfl ?_
      | refine EL.f (FV.addI rfl rfl (by omega)) rfl rfl ?_
      | refine EL.nil ?_
      | refine EW.region ?_)
    have hyes : isIn t nd i = true := by rw [isIn, hq, decide_eq_true ho]; rfl
    refine ⟨(i + 1, addS ks (t.code.getD i dIns).num), ⟨rfl, rfl, rfl, rfl, rfl, trivial⟩, ⟨by dsimp only; omega, ⟨hS7, fun x => by rw [insU, if_pos hyes, mem_putR, mem_addS, hmem], ?_⟩, (hO.trans (Only.one hg7)).mono fun x hx => by simpa using hx⟩, by dsimp only; omega⟩
    dsimp only
    unfold addS
    split
    · omega
    · rw [List.length_append, List.length_singleton]; omega
  · repeat' (first
      | (show EL _ _ _ _ (_ :: _) _ _
         first
         | (show EL _ _ _ _ (⟨_, .fieldAddr _ _ _, _, _, _, _⟩ :: _) _ _; refine EL.f (FV.fieldAddr rfl rfl rfl rfl rfl) rfl rfl ?_)
         | (show EL _ _ _ _ (⟨_, .load _ _, _, _, _, _⟩ :: _) _ _; first | refine EL.f (FV.load1 rfl rfl rfl (At.cell hbr rfl)) rfl rfl ?_ | refine EL.f (FV.load1 rfl rfl rfl (hcb)) rfl rfl ?_ | refine EL.f (FV.load1 rfl rfl rfl (c0)) rfl rfl ?_)
         | (show EL _ _ _ _ (⟨_, .indexAddr _ _ _, _, _, _, _⟩ :: _) _ _; first | refine EL.f (FV.idx0 rfl rfl rfl rfl (by omega) (by omega)) rfl rfl ?_ | refine EL.f (FV.idx rfl rfl rfl rfl (by omega) (by omega)) rfl rfl ?_)
         | (show EL _ _ _ _ (⟨_, .move _, _, _, _, _⟩ :: _) _ _; refine EL.f (FV.move rfl) rfl rfl ?_)
         | (show EL _ _ _ _ (⟨_, .assign _, _, _, _, _⟩ :: _) _ _; refine EL.f (FV.assign rfl) rfl rfl ?_)
         | (show EL _ _ _ _ (⟨_, .binOp .add _ _ _ _, _, _, _, _⟩ :: _) _ _; refine EL.f (FV.addI rfl rfl (by omega)) rfl rfl ?_)
         | (show EL _ _ _ _ (⟨_, .pick _ _ _, _, _, _, _⟩ :: _) _ _; refine EL.f (FV.pickT rfl rfl) rfl rfl ?_)
         | (show EL _ _ _ _ (⟨_, .binOp .lss _ _ _ _, _, _, _, _⟩ :: _) _ _; refine EL.fT (FV.lss rfl rfl) rfl (fun _ => rfl) (by omega) ?_)
         | (show EL _ _ _ _ (⟨_, .binOp .eql _ _ _ _, _, _, _, _⟩ :: _) _ _; refine EL.fF (FV.eql rfl rfl) rfl (fun _ => rfl) (by omega) ?_))
      | refine EL.nil ?_
      | refine EW.seq ?_
      | refine EW.region ?_
      | refine EW.block ?_
      | refine EW.skip ?_
      | refine EW.condT rfl ?_
      | refine EW.condF rfl ?_)
    have hno : isIn t nd i = false := by rw [isIn, hq, decide_eq_false ho]; rfl
    exact ⟨(i + 1, ks), ⟨rfl, rfl, rfl, rfl, rfl, trivial⟩, ⟨by dsimp only; omega, ⟨hS, fun x => by rw [insU, hno]; exact hmem x, by dsimp only; omega⟩, hO⟩, by dsimp only; omega⟩
set_option maxHeartbeats 16000000 in
theorem specInputsOfT (v : Value) (t : Tp) (reg : Int) (w : World) (h : TapeV w v t) (hf : Fit t) (_hb : -9223372036854775808 ≤ reg ∧ reg ≤ 9223372036854775807) :
    CallsR Try.prog 7 [v, .int .i64 reg] w (SerOut w (fInputsOf t reg)) := by
  have hv := h
  obtain ⟨P, p, Q, q, R, r, rfl, r1, r2, r3⟩ := h
  refine CallsR.enter Try.func7 (by decide +kernel) rfl Try.ntmps7 rfl ?_
  repeat' (first
    | refine EW.seq ?_
    | refine EW.region ?_)
  refine EL.h (Hv.boxA (sz := 4) rfl rfl) rfl (fun _ => rfl) ?_
  rintro _ w1 ⟨g1, rfl, hg1, hb, he1⟩
  have hP : TapeP w1 g1 0 t := ⟨P, p, Q, q, R, r, At.lies hb, r1.ext he1, r2.ext he1, r3.ext he1⟩
  repeat' (first
    | refine EL.f (FV.assign rfl) rfl rfl ?_
    | refine EL.nil ?_
    | refine EW.seq ?_
    | refine EW.region ?_)
  refine EL.h (Hv.call (specOkT g1 0 t w1 hP hf) rfl) rfl (fun _ => rfl) ?_
  rintro _ w2 ⟨rfl, he2⟩
  have hw2 := he1.trans he2
  replace hb := At.ext hb he2
  cases ok : okT t
  · repeat' (first
      | (refine EL.h (Hv.build0 rfl rfl) rfl (fun _ => rfl) ?_; rintro v w' ⟨ho, he⟩)
      | refine EL.f (FV.assign rfl) rfl rfl ?_
      | refine EL.f (FV.not rfl) rfl rfl ?_
      | refine EL.nil ?_
      | refine EW.seq ?_
      | refine EW.region ?_
      | refine EW.ret ?_
      | refine EW.condT rfl ?_)
    rw [fInputsOf_bad ok]
    exact ⟨_, rfl, v, rfl, OwnI.lower ho hw2.size, hw2.trans he⟩
  obtain ⟨hin, hcl, _, hou, okc, _⟩ := okT_iff.1 ok
  by_cases hr : 0 ≤ reg ∧ reg ≤ (t.code.length : Int) - 1
  rotate_left
  · have i1 : inB reg 0 ((t.code.length : Int) - 1) = false := by unfold inB; exact decide_eq_false hr
    repeat' (first
      | (show EL _ _ _ _ (_ :: _) _ _
         first
         | (show EL _ _ _ _ (⟨_, .fieldAddr _ _ _, _, _, _, _⟩ :: _) _ _; refine EL.f (FV.fieldAddr rfl rfl rfl rfl rfl) rfl rfl ?_)
         | (show EL _ _ _ _ (⟨_, .load _ _, _, _, _, _⟩ :: _) _ _; refine EL.f (FV.load1 rfl rfl rfl (At.cell hb rfl)) rfl rfl ?_)
         | (show EL _ _ _ _ (⟨_, .call _, _, _, _, _⟩ :: _) _ _; first | (refine EL.h (Hv.call (specInR i1 _) rfl) rfl (fun _ => rfl) ?_; rintro _ _ ⟨rfl, rfl⟩) | refine EL.f (FV.len rfl rfl) rfl rfl ?_)
         | (show EL _ _ _ _ (⟨_, .buildSlice _ _ _, _, _, _, _⟩ :: _) _ _; (refine EL.h (Hv.build0 rfl rfl) rfl (fun _ => rfl) ?_; rintro v w' ⟨ho, he⟩))
         | (show EL _ _ _ _ (⟨_, .move _, _, _, _, _⟩ :: _) _ _; refine EL.f (FV.move rfl) rfl rfl ?_)
         | (show EL _ _ _ _ (⟨_, .assign _, _, _, _, _⟩ :: _) _ _; refine EL.f (FV.assign rfl) rfl rfl ?_)
         | (show EL _ _ _ _ (⟨_, .binOp .sub _ _ _ _, _, _, _, _⟩ :: _) _ _; refine EL.f (FV.subI rfl rfl (by omega)) rfl rfl ?_)
         | (show EL _ _ _ _ (⟨_, .unOp .not _ _, _, _, _, _⟩ :: _) _ _; refine EL.f (FV.not rfl) rfl rfl ?_))
      | refine EL.nil ?_
      | refine EW.seq ?_
      | refine EW.region ?_
      | refine EW.skip ?_
      | refine EW.ret ?_
      | refine EW.condT rfl ?_
      | refine EW.condF rfl ?_)
    rw [fInputsOf_out ok hr]
    exact ⟨_, rfl, v, rfl, OwnI.lower ho hw2.size, hw2.trans he⟩
  have i1 : inB reg 0 ((t.code.length : Int) - 1) = true := inB_iff.2 hr
  rw [fInputsOf_ok ok hr]
  repeat' (first
    | (show EL _ _ _ _ (_ :: _) _ _
       first
       | (show EL _ _ _ _ (⟨_, .fieldAddr _ _ _, _, _, _, _⟩ :: _) _ _; refine EL.f (FV.fieldAddr rfl rfl rfl rfl rfl) rfl rfl ?_)
       | (show EL _ _ _ _ (⟨_, .load _ _, _, _, _, _⟩ :: _) _ _; refine EL.f (FV.load1 rfl rfl rfl (At.cell hb rfl)) rfl rfl ?_)
       | (show EL _ _ _ _ (⟨_, .call _, _, _, _, _⟩ :: _) _ _; first | (refine EL.h (Hv.call (specInR i1 _) rfl) rfl (fun _ => rfl) ?_; rintro _ _ ⟨rfl, rfl⟩) | refine EL.f (FV.len rfl rfl) rfl rfl ?_)
       | (show EL _ _ _ _ (⟨_, .move _, _, _, _, _⟩ :: _) _ _; refine EL.f (FV.move rfl) rfl rfl ?_)
       | (show EL _ _ _ _ (⟨_, .binOp .sub _ _ _ _, _, _, _, _⟩ :: _) _ _; refine EL.f (FV.subI rfl rfl (by omega)) rfl rfl ?_)
       | (show EL _ _ _ _ (⟨_, .unOp .not _ _, _, _, _, _⟩ :: _) _ _; refine EL.f (FV.not rfl) rfl rfl ?_))
    | refine EL.nil ?_
    | refine EW.seq ?_
    | refine EW.region ?_
    | refine EW.skip ?_
    | refine EW.condF rfl ?_)
  refine EL.h (Hv.make (kl := .i64) rfl rfl rfl rfl (by omega) (by omega)) rfl (fun _ => rfl) ?_
  rintro _ w3 ⟨g, rfl, hg, hat, he3⟩
  rw [madeBools] at hat
  have hw3 := hw2.trans he3
  have lb := At.lt hb
  replace hb := At.ext hb he3
  have ngb : g1 ≠ g := by omega
  repeat' (first
    | refine EL.f (FV.move rfl) rfl rfl ?_
    | refine EL.f (FV.assign rfl) rfl rfl ?_
    | refine EL.f (FV.idx0 rfl rfl rfl rfl (by omega) (by omega)) rfl rfl ?_
    | refine EL.nil ?_
    | refine EW.seq ?_
    | refine EW.region ?_)
  refine EL.h (Hv.storeB (u := true) rfl rfl hat (by rw [List.length_replicate]; omega)) rfl (fun _ => rfl) ?_
  rintro _ w4 ⟨hat4, hg4⟩
  have hnd0 : (List.replicate t.code.length false).set reg.toNat true = markB (List.replicate t.code.length false) [reg] := by
    simp [markB]
  have hw4 : Ext w w4 := Only.after hw3 hg4 (by intro k hk; simp at hk; have := hw2.size; omega)
  replace hb := At.only hb hg4 (by simp; exact ngb)
  rw [hnd0] at hat4
  have hml : (markB (List.replicate t.code.length false) [reg]).length = t.code.length := by rw [markB_length, List.length_replicate]
  have he24 : Ext w2 w4 := Only.after he3 hg4 (by intro k hk; simp at hk; omega)
  repeat' (first
    | refine EL.f (FV.move rfl) rfl rfl ?_
    | refine EL.nil ?_
    | refine EW.seq ?_
    | refine EW.region ?_)
  refine EL.h (Hv.call (specNeeds g1 0 t g _ w2 w4 (hP.ext he2) he24 (by omega) okc hcl hat4 hml) rfl) rfl (fun _ => rfl) ?_
  rintro _ w5 ⟨rfl, hat5, hO5⟩
  have hw5 : Ext w w5 := Only.after hw4 hO5 (by intro k hk; simp at hk; have := hw2.size; omega)
  replace hb := At.only hb hO5 (by simp; exact ngb)
  have hnl := needI_length t reg
  rw [show nS t (markB (List.replicate t.code.length false) [reg]) t.code.length = needI t reg from rfl] at hat5
  generalize needI t reg = nd at *
  repeat' (first
    | refine EL.nil ?_
    | refine EW.seq ?_
    | refine EW.region ?_)
  refine EL.h (Hv.build0 rfl rfl) rfl (fun _ => rfl) ?_
  rintro s0 w6 ⟨ho6, he6⟩
  repeat' (first
    | refine EL.f (FV.assign rfl) rfl rfl ?_
    | refine EL.nil ?_
    | refine EW.seq ?_
    | refine EW.region ?_
    | refine EW.block ?_)
  refine EW.loop (X := Nat × Value) (fun y wr => y.1 ≤ t.code.length ∧ OwnI w5.heap.size wr y.2 (insU t nd y.1) ∧ Ext w5 wr) (fun y => [(2, .pointer (some ⟨g1, 0, none⟩)), (6, .slice (some ⟨g, 0, none⟩) t.code.length t.code.length), (7, y.2), (8, .int .i64 y.1)]) (fun y => t.code.length - y.1) (0, s0) ⟨Nat.zero_le _, ho6, he6⟩ ⟨rfl, rfl, rfl, rfl, trivial⟩ ?_
  rintro ⟨i, s⟩ wr ⟨hi, hown, hE⟩
  dsimp only at *
  have hWr := hw5.trans hE
  have hbr := At.ext hb hE
  have hil := insU_length t nd i
  by_cases hlt : i < t.code.length
  rotate_left
  · obtain rfl : i = t.code.length := by omega
    repeat' (first
      | (show EL _ _ _ _ (_ :: _) _ _
         first
         | (show EL _ _ _ _ (⟨_, .fieldAddr _ _ _, _, _, _, _⟩ :: _) _ _; refine EL.f (FV.fieldAddr rfl rfl rfl rfl rfl) rfl rfl ?_)
         | (show EL _ _ _ _ (⟨_, .load _ _, _, _, _, _⟩ :: _) _ _; refine EL.f (FV.load1 rfl rfl rfl (At.cell hbr rfl)) rfl rfl ?_)
         | (show EL _ _ _ _ (⟨_, .move _, _, _, _, _⟩ :: _) _ _; refine EL.f (FV.move rfl) rfl rfl ?_)
         | (show EL _ _ _ _ (⟨_, .assign _, _, _, _, _⟩ :: _) _ _; refine EL.f (FV.assign rfl) rfl rfl ?_)
         | (show EL _ _ _ _ (⟨_, .call _, _, _, _, _⟩ :: _) _ _; refine EL.f (FV.len rfl rfl) rfl rfl ?_)
         | (show EL _ _ _ _ (⟨_, .binOp .lss _ _ _ _, _, _, _, _⟩ :: _) _ _; refine EL.fF (FV.lss rfl rfl) rfl (fun _ => rfl) (by omega) ?_))
      | refine EL.nil ?_
      | refine EW.seq ?_
      | refine EW.region ?_
      | refine EW.exit ?_
      | refine EW.ret ?_
      | refine EW.condF rfl ?_)
    exact ⟨_, rfl, _, rfl, OwnI.lower hown hw5.size, hWr⟩
  obtain ⟨bP, oP, rfl, hp⟩ := Rd.elem insV_length (by decide) dIns (r1.ext hWr) hlt
  have c0 := hp 0 _ rfl
  have c3 := hp 3 _ rfl
  have hcb : wr.cell? ⟨g, i, none⟩ = some (.bool (nd.getD i false)) := At.cell (At.ext hat5 hE) (bools_get (by omega))
  cases hq : nd.getD i false
  · rw [hq] at hcb
    repeat' (first
      | (show EL _ _ _ _ (_ :: _) _ _
         first
         | (show EL _ _ _ _ (⟨_, _, _, _, _, some _⟩ :: _) _ _; refine EL.skip rfl rfl ?_)
         | (show EL _ _ _ _ (⟨_, .fieldAddr _ _ _, _, _, _, _⟩ :: _) _ _; refine EL.f (FV.fieldAddr rfl rfl rfl rfl rfl) rfl rfl ?_)
         | (show EL _ _ _ _ (⟨_, .load _ _, _, _, _, _⟩ :: _) _ _; first | refine EL.f (FV.load1 rfl rfl rfl (At.cell hbr rfl)) rfl rfl ?_ | refine EL.f (FV.load1 rfl rfl rfl (hcb)) rfl rfl ?_)
         | (show EL _ _ _ _ (⟨_, .indexAddr _ _ _, _, _, _, _⟩ :: _) _ _; refine EL.f (FV.idx0 rfl rfl rfl rfl (by omega) (by omega)) rfl rfl ?_)
         | (show EL _ _ _ _ (⟨_, .move _, _, _, _, _⟩ :: _) _ _; refine EL.f (FV.move rfl) rfl rfl ?_)
         | (show EL _ _ _ _ (⟨_, .assign _, _, _, _, _⟩ :: _) _ _; refine EL.f (FV.assign rfl) rfl rfl ?_)
         | (show EL _ _ _ _ (⟨_, .binOp .add _ _ _ _, _, _, _, _⟩ :: _) _ _; refine EL.f (FV.addI rfl rfl (by omega)) rfl rfl ?_)
         | (show EL _ _ _ _ (⟨_, .call _, _, _, _, _⟩ :: _) _ _; refine EL.f (FV.len rfl rfl) rfl rfl ?_)
         | (show EL _ _ _ _ (⟨_, .pick _ _ _, _, _, _, _⟩ :: _) _ _; refine EL.f (FV.pickF rfl rfl) rfl rfl ?_)
         | (show EL _ _ _ _ (⟨_, .binOp .lss _ _ _ _, _, _, _, _⟩ :: _) _ _; refine EL.fT (FV.lss rfl rfl) rfl (fun _ => rfl) (by omega) ?_))
      | refine EL.nil ?_
      | refine EW.seq ?_
      | refine EW.region ?_
      | refine EW.block ?_
      | refine EW.skip ?_
      | refine EW.condT rfl ?_
      | refine EW.condF rfl ?_)
    have hno : isIn t nd i = false := by rw [isIn, hq]; rfl
    exact ⟨(i + 1, s), ⟨rfl, rfl, rfl, rfl, trivial⟩, ⟨by dsimp only; omega, by dsimp only; rw [insU, hno]; exact hown, hE⟩, by dsimp only; omega⟩
  rw [hq] at hcb
  by_cases ho : (t.code.getD i dIns).op = 1
  · obtain ⟨As, cs, rfl, hrs⟩ := hown.form
    repeat' (first
      | (show EL _ _ _ _ (_ :: _) _ _
         first
         | (show EL _ _ _ _ (⟨_, .fieldAddr _ _ _, _, _, _, _⟩ :: _) _ _; refine EL.f (FV.fieldAddr rfl rfl rfl rfl rfl) rfl rfl ?_)
         | (show EL _ _ _ _ (⟨_, .load _ _, _, _, _, _⟩ :: _) _ _; first | refine EL.f (FV.load1 rfl rfl rfl (At.cell hbr rfl)) rfl rfl ?_ | refine EL.f (FV.load1 rfl rfl rfl (hcb)) rfl rfl ?_ | refine EL.f (FV.load1 rfl rfl rfl (c0)) rfl rfl ?_ | refine EL.f (FV.load1 rfl rfl rfl (c3)) rfl rfl ?_)
         | (show EL _ _ _ _ (⟨_, .indexAddr _ _ _, _, _, _, _⟩ :: _) _ _; first | refine EL.f (FV.idx0 rfl rfl rfl rfl (by omega) (by omega)) rfl rfl ?_ | refine EL.f (FV.idx rfl rfl rfl rfl (by omega) (by omega)) rfl rfl ?_)
         | (show EL _ _ _ _ (⟨_, .move _, _, _, _, _⟩ :: _) _ _; refine EL.f (FV.move rfl) rfl rfl ?_)
         | (show EL _ _ _ _ (⟨_, .call _, _, _, _, _⟩ :: _) _ _; refine EL.f (FV.len rfl rfl) rfl rfl ?_)
         | (show EL _ _ _ _ (⟨_, .pick _ _ _, _, _, _, _⟩ :: _) _ _; refine EL.f (FV.pickT rfl rfl) rfl rfl ?_)
         | (show EL _ _ _ _ (⟨_, .binOp .lss _ _ _ _, _, _, _, _⟩ :: _) _ _; refine EL.fT (FV.lss rfl rfl) rfl (fun _ => rfl) (by omega) ?_)
         | (show EL _ _ _ _ (⟨_, .binOp .eql _ _ _ _, _, _, _, _⟩ :: _) _ _; refine EL.fT (FV.eql rfl rfl) rfl (fun _ => rfl) (by omega) ?_))
      | refine EL.nil ?_
      | refine EW.seq ?_
      | refine EW.region ?_
      | refine EW.block ?_
      | refine EW.skip ?_
      | refine EW.condT rfl ?_)
    refine EL.h (Hv.call (specPut As cs (insU t nd i) (t.code.getD i dIns).num wr hrs (by omega)) rfl) rfl (fun _ => rfl) ?_
    rintro s7 w7 ⟨ho7, he7⟩
    repeat' (first
      | refine EL.f (FV.move rfl) rfl rfl ?_
      | refine EL.f (FV.assign rfl) rfl rfl ?_
      | refine EL.f (FV.addI rfl rfl (by omega)) rfl rfl ?_
      | refine EL.nil ?_
      | refine EW.region ?_)
    have hyes : isIn t nd i = true := by rw [isIn, hq, decide_eq_true ho]; rfl
    exact ⟨(i + 1, s7), ⟨rfl, rfl, rfl, rfl, trivial⟩, ⟨by dsimp only; omega, by dsimp only; rw [insU, if_pos hyes]; exact OwnI.lower ho7 hE.size, hE.trans he7⟩, by dsimp only; omega⟩
  · repeat' (first
      | (show EL _ _ _ _ (_ :: _) _ _
         first
         | (show EL _ _ _ _ (⟨_, .fieldAddr _ _ _, _, _, _, _⟩ :: _) _ _; refine EL.f (FV.fieldAddr rfl rfl rfl rfl rfl) rfl rfl ?_)
         | (show EL _ _ _ _ (⟨_, .load _ _, _, _, _, _⟩ :: _) _ _; first | refine EL.f (FV.load1 rfl rfl rfl (At.cell hbr rfl)) rfl rfl ?_ | refine EL.f (FV.load1 rfl rfl rfl (hcb)) rfl rfl ?_ | refine EL.f (FV.load1 rfl rfl rfl (c0)) rfl rfl ?_)
         | (show EL _ _ _ _ (⟨_, .indexAddr _ _ _, _, _, _, _⟩ :: _) _ _; first | refine EL.f (FV.idx0 rfl rfl rfl rfl (by omega) (by omega)) rfl rfl ?_ | refine EL.f (FV.idx rfl rfl rfl rfl (by omega) (by omega)) rfl rfl ?_)
         | (show EL _ _ _ _ (⟨_, .move _, _, _, _, _⟩ :: _) _ _; refine EL.f (FV.move rfl) rfl rfl ?_)
         | (show EL _ _ _ _ (⟨_, .assign _, _, _, _, _⟩ :: _) _ _; refine EL.f (FV.assign rfl) rfl rfl ?_)
         | (show EL _ _ _ _ (⟨_, .binOp .add _ _ _ _, _, _, _, _⟩ :: _) _ _; refine EL.f (FV.addI rfl rfl (by omega)) rfl rfl ?_)
         | (show EL _ _ _ _ (⟨_, .call _, _, _, _, _⟩ :: _) _ _; refine EL.f (FV.len rfl rfl) rfl rfl ?_)
         | (show EL _ _ _ _ (⟨_, .pick _ _ _, _, _, _, _⟩ :: _) _ _; refine EL.f (FV.pickT rfl rfl) rfl rfl ?_)
         | (show EL _ _ _ _ (⟨_, .binOp .lss _ _ _ _, _, _, _, _⟩ :: _) _ _; refine EL.fT (FV.lss rfl rfl) rfl (fun _ => rfl) (by omega) ?_)
         | (show EL _ _ _ _ (⟨_, .binOp .eql _ _ _ _, _, _, _, _⟩ :: _) _ _; refine EL.fF (FV.eql rfl rfl) rfl (fun _ => rfl) (by omega) ?_))
      | refine EL.nil ?_
      | refine EW.seq ?_
      | refine EW.region ?_
      | refine EW.block ?_
      | refine EW.skip ?_
      | refine EW.condT rfl ?_
      | refine EW.condF rfl ?_)
    have hno : isIn t nd i = false := by rw [isIn, hq, decide_eq_false ho]; rfl
    exact ⟨(i + 1, s), ⟨rfl, rfl, rfl, rfl, trivial⟩, ⟨by dsimp only; omega, by dsimp only; rw [insU, hno]; exact hown, hE⟩, by dsimp only; omega⟩
end Eng
end Go.Proofs.Ytgahkbcfjibjaaa
