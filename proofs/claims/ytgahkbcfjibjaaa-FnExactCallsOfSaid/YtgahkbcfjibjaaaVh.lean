/- ValidProgram: what it says, and the contracts of the reference. Conditions: the number of nodes. -/
import Derived.Test.YtgahkbcfjibjaaaVt
import Derived.Test.YtgahkbcfjibjaaaPb
namespace Go.Proofs.Ytgahkbcfjibjaaa
open Go Go.RowKit
namespace Eng
def dupF (fs : List Fu) (i : Nat) (s : ByteArray) : Bool := (fs.take i).any fun g => g.name.toList == s.toList
def fOk (fs : List Fu) (i : Nat) (f : Fu) : Bool := nameOk f.name && (!dupF fs i f.name && (inB f.params 0 12 && (inB (f.outs.length : Nat) 1 12 && (f.outs.all (fun e => validE fs e f.params i) && decide (Ex.sizeL f.outs ≤ 400)))))
def validP (fs : List Fu) : Bool := decide (fs.length ≤ 16) && (List.range fs.length).all fun i => fOk fs i (fs.getD i dFu)
theorem validP_long {fs : List Fu} (h : ¬ fs.length ≤ 16) : validP fs = false := by rw [validP, decide_eq_false h, Bool.false_and]
theorem validP_at {fs : List Fu} {i : Nat} (hi : i < fs.length) (h : fOk fs i (fs.getD i dFu) = false) : validP fs = false := by
  have : ((List.range fs.length).all fun i => fOk fs i (fs.getD i dFu)) = false := by
    rw [List.all_eq_false]
    exact ⟨i, List.mem_range.2 hi, by rw [h]; simp⟩
  rw [validP, this, Bool.and_false]
theorem validP_all {fs : List Fu} (h : fs.length ≤ 16) (ha : ∀ i, i < fs.length → fOk fs i (fs.getD i dFu) = true) : validP fs = true := by
  rw [validP, decide_eq_true h, Bool.true_and, List.all_eq_true]
  intro i hi
  exact ha i (List.mem_range.1 hi)
theorem take_getD {α : Type} {d : α} {xs : List α} {i j : Nat} (h : j < i) : (xs.take i).getD j d = xs.getD j d := by
  simp [List.getD_eq_getElem?_getD, List.getElem?_take, h]
theorem dupF_none {fs : List Fu} {i : Nat} {s : ByteArray} (h : ∀ j, j < i → ((fs.getD j dFu).name.toList == s.toList) = false) : dupF fs i s = false := by
  refine any_none (d := dFu) fun j hj => ?_
  rw [List.length_take] at hj
  rw [take_getD (by omega)]
  exact h j (by omega)
theorem dupF_some {fs : List Fu} {i j : Nat} {s : ByteArray} (hj : j < i) (hi : i ≤ fs.length) (h : ((fs.getD j dFu).name.toList == s.toList) = true) : dupF fs i s = true :=
  any_some (d := dFu) (i := j) (by rw [List.length_take]; omega) (by rw [take_getD hj]; exact h)
theorem fOk_name {fs : List Fu} {i : Nat} {f : Fu} (h : nameOk f.name = false) : fOk fs i f = false := by simp [fOk, h]
theorem fOk_dup {fs : List Fu} {i : Nat} {f : Fu} (h : dupF fs i f.name = true) : fOk fs i f = false := by simp [fOk, h]
theorem fOk_par {fs : List Fu} {i : Nat} {f : Fu} (h : inB f.params 0 12 = false) : fOk fs i f = false := by simp [fOk, h]
theorem fOk_len {fs : List Fu} {i : Nat} {f : Fu} (h : inB (f.outs.length : Nat) 1 12 = false) : fOk fs i f = false := by simp [fOk, h]
theorem fOk_out {fs : List Fu} {i j : Nat} {f : Fu} (hj : j < f.outs.length) (h : validE fs (f.outs.getD j dEx) f.params i = false) : fOk fs i f = false := by
  have : (f.outs.all fun e => validE fs e f.params i) = false := by
    rw [List.all_eq_false]
    exact ⟨f.outs[j], List.getElem_mem hj, by rw [show f.outs.getD j dEx = f.outs[j] from by simp [hj]] at h; rw [h]; simp⟩
  simp [fOk, this]
theorem fOk_size {fs : List Fu} {i : Nat} {f : Fu} (h : ¬ Ex.sizeL f.outs ≤ 400) : fOk fs i f = false := by
  rw [fOk, decide_eq_false h]
  simp
theorem fOk_true {fs : List Fu} {i : Nat} {f : Fu} (h1 : nameOk f.name = true) (h2 : dupF fs i f.name = false) (h3 : inB f.params 0 12 = true) (h4 : inB (f.outs.length : Nat) 1 12 = true) (h5 : ∀ j, j < f.outs.length → validE fs (f.outs.getD j dEx) f.params i = true) (h6 : Ex.sizeL f.outs ≤ 400) : fOk fs i f = true := by
  have : (f.outs.all fun e => validE fs e f.params i) = true := by
    rw [List.all_eq_true]
    exact all_getD (d := dEx) (Q := fun e => validE fs e f.params i = true) h5
  rw [fOk, h1, h2, h3, h4, this, decide_eq_true h6]
  rfl
theorem FsB.take {w : World} {B : Nat} {A : Option Addr} {ks : List Fu} (h : FsB w B A ks) (i : Nat) : FsB w B A (ks.take i) := by
  obtain ⟨h0, cells, h1, h2⟩ := h
  refine ⟨by rw [List.length_take]; omega, cells, fun j hj => h1 j (by rw [List.length_take] at hj; omega), fun j hj => ?_⟩
  rw [List.length_take] at hj
  rw [take_getD (by omega)]
  exact h2 j (by omega)
/-- The rooms of the outs. -/
theorem out_fit {fs : List Fu} {i j : Nat} (hs : fuL fs ≤ 1048576) (hi : i < fs.length) (hj : j < (fs.getD i dFu).outs.length) : ((fs.getD i dFu).outs.getD j dEx).size ≤ 1048577 ∧ Ex.sizeL (fs.getD i dFu).outs ≤ 1048576 := by
  have h1 := fuL_kid hi
  have h2 := sizeL_kid hj
  unfold Fu.cnt at h1
  omega
set_option maxHeartbeats 16000000 in
theorem specFunc (fs : List Fu) (hs : fuL fs ≤ 1048576) (pb po i : Nat) (hlt : i < fs.length) (w : World) (hp : PrP w pb po fs) :
    CallsR Try.prog 84 [.pointer (some ⟨pb, po, none⟩), .int .i64 i] w fun v w' => v = .bool (fOk fs i (fs.getD i dFu)) ∧ Ext w w' := by
  have hp' := hp
  obtain ⟨A, cap, hP0, hfs⟩ := hp'
  have hge := hfs.1
  have p0 := hP0 0 _ rfl
  have hfit := fun j hj => out_fit (j := j) hs hlt hj
  obtain ⟨bf, of, cs, rfl, hL, hX, hc⟩ := hfs.kid hlt
  obtain ⟨B, bap, rfl, hos, hnm⟩ := hX
  have hr := hos.1
  generalize hfe : fs.getD i dFu = f at *
  refine CallsR.enter Try.func84 (by decide +kernel) rfl Try.ntmps84 rfl ?_
  have f0 := hL 0 _ rfl
  have f1 := hL 1 _ rfl
  have f2 := hL 2 _ rfl
  repeat' (first
    | (show EL _ _ _ _ (_ :: _) _ _
       first
       | (show EL _ _ _ _ (⟨_, .nilCheck _, _, _, _, _⟩ :: _) _ _; refine EL.f (FV.nilChk rfl) rfl rfl ?_)
       | (show EL _ _ _ _ (⟨_, .fieldAddr _ _ _, _, _, _, _⟩ :: _) _ _; refine EL.f (FV.fieldAddr rfl rfl rfl rfl rfl) rfl rfl ?_)
       | (show EL _ _ _ _ (⟨_, .load _ _, _, _, _, _⟩ :: _) _ _; first | refine EL.f (FV.load1 rfl rfl rfl (p0)) rfl rfl ?_ | refine EL.f (FV.load1 rfl rfl rfl (f0)) rfl rfl ?_)
       | (show EL _ _ _ _ (⟨_, .indexAddr _ _ _, _, _, _, _⟩ :: _) _ _; refine EL.f (FV.idx rfl rfl rfl rfl (by omega) (by omega)) rfl rfl ?_)
       | (show EL _ _ _ _ (⟨_, .move _, _, _, _, _⟩ :: _) _ _; refine EL.f (FV.move rfl) rfl rfl ?_)
       | (show EL _ _ _ _ (⟨_, .assign _, _, _, _, _⟩ :: _) _ _; refine EL.f (FV.assign rfl) rfl rfl ?_))
    | refine EL.nil ?_
    | refine EW.seq ?_
    | refine EW.region ?_)
  refine EL.h (Hv.call (specIsName f.name w) rfl) rfl (fun _ => rfl) ?_
  rintro _ w1 ⟨rfl, he1⟩
  cases hn : nameOk f.name
  · repeat' (first
      | (show EL _ _ _ _ (_ :: _) _ _
         first
         | (show EL _ _ _ _ (⟨_, _, _, _, _, some _⟩ :: _) _ _; refine EL.skip rfl rfl ?_)
         | (show EL _ _ _ _ (⟨_, .move _, _, _, _, _⟩ :: _) _ _; refine EL.f (FV.move rfl) rfl rfl ?_)
         | (show EL _ _ _ _ (⟨_, .assign _, _, _, _, _⟩ :: _) _ _; refine EL.f (FV.assign rfl) rfl rfl ?_)
         | (show EL _ _ _ _ (⟨_, .unOp .not _ _, _, _, _, _⟩ :: _) _ _; refine EL.f (FV.not rfl) rfl rfl ?_)
         | (show EL _ _ _ _ (⟨_, .pick _ _ _, _, _, _, _⟩ :: _) _ _; refine EL.f (FV.pickT rfl rfl) rfl rfl ?_))
      | refine EL.nil ?_
      | refine EW.seq ?_
      | refine EW.region ?_
      | refine EW.ret ?_
      | refine EW.condT rfl ?_)
    exact ⟨_, rfl, by rw [fOk_name hn], he1⟩
  by_cases q1 : 0 ≤ f.params ∧ f.params ≤ 12
  rotate_left
  · have i1 : inB f.params 0 12 = false := by unfold inB; exact decide_eq_false q1
    repeat' (first
      | (show EL _ _ _ _ (_ :: _) _ _
         first
         | (show EL _ _ _ _ (⟨_, _, _, _, _, some _⟩ :: _) _ _; refine EL.skip rfl rfl ?_)
         | (show EL _ _ _ _ (⟨_, .nilCheck _, _, _, _, _⟩ :: _) _ _; refine EL.f (FV.nilChk rfl) rfl rfl ?_)
         | (show EL _ _ _ _ (⟨_, .fieldAddr _ _ _, _, _, _, _⟩ :: _) _ _; refine EL.f (FV.fieldAddr rfl rfl rfl rfl rfl) rfl rfl ?_)
         | (show EL _ _ _ _ (⟨_, .load _ _, _, _, _, _⟩ :: _) _ _; refine EL.f (FV.load1 rfl rfl rfl (he1.cell f1)) rfl rfl ?_)
         | (show EL _ _ _ _ (⟨_, .call _, _, _, _, _⟩ :: _) _ _; (refine EL.h (Hv.call (specInR i1 _) rfl) rfl (fun _ => rfl) ?_; rintro _ _ ⟨rfl, rfl⟩))
         | (show EL _ _ _ _ (⟨_, .move _, _, _, _, _⟩ :: _) _ _; refine EL.f (FV.move rfl) rfl rfl ?_)
         | (show EL _ _ _ _ (⟨_, .assign _, _, _, _, _⟩ :: _) _ _; refine EL.f (FV.assign rfl) rfl rfl ?_)
         | (show EL _ _ _ _ (⟨_, .unOp .not _ _, _, _, _, _⟩ :: _) _ _; refine EL.f (FV.not rfl) rfl rfl ?_)
         | (show EL _ _ _ _ (⟨_, .pick _ _ _, _, _, _, _⟩ :: _) _ _; first | refine EL.f (FV.pickT rfl rfl) rfl rfl ?_ | refine EL.f (FV.pickF rfl rfl) rfl rfl ?_))
      | refine EL.nil ?_
      | refine EW.seq ?_
      | refine EW.region ?_
      | refine EW.ret ?_
      | refine EW.condT rfl ?_)
    exact ⟨_, rfl, by rw [fOk_par i1], he1⟩
  have i1 : inB f.params 0 12 = true := inB_iff.2 q1
  by_cases q2 : 1 ≤ (f.outs.length : Int) ∧ (f.outs.length : Int) ≤ 12
  rotate_left
  · have i2 : inB (f.outs.length : Nat) 1 12 = false := by unfold inB; exact decide_eq_false q2
    repeat' (first
      | (show EL _ _ _ _ (_ :: _) _ _
         first
         | (show EL _ _ _ _ (⟨_, .nilCheck _, _, _, _, _⟩ :: _) _ _; refine EL.f (FV.nilChk rfl) rfl rfl ?_)
         | (show EL _ _ _ _ (⟨_, .fieldAddr _ _ _, _, _, _, _⟩ :: _) _ _; refine EL.f (FV.fieldAddr rfl rfl rfl rfl rfl) rfl rfl ?_)
         | (show EL _ _ _ _ (⟨_, .load _ _, _, _, _, _⟩ :: _) _ _; first | refine EL.f (FV.load1 rfl rfl rfl (he1.cell f1)) rfl rfl ?_ | refine EL.f (FV.load1 rfl rfl rfl (he1.cell f2)) rfl rfl ?_)
         | (show EL _ _ _ _ (⟨_, .call _, _, _, _, _⟩ :: _) _ _; first | (refine EL.h (Hv.call (specInR i1 _) rfl) rfl (fun _ => rfl) ?_; rintro _ _ ⟨rfl, rfl⟩) | (refine EL.h (Hv.call (specInR i2 _) rfl) rfl (fun _ => rfl) ?_; rintro _ _ ⟨rfl, rfl⟩) | refine EL.f (FV.len rfl rfl) rfl rfl ?_)
         | (show EL _ _ _ _ (⟨_, .move _, _, _, _, _⟩ :: _) _ _; refine EL.f (FV.move rfl) rfl rfl ?_)
         | (show EL _ _ _ _ (⟨_, .assign _, _, _, _, _⟩ :: _) _ _; refine EL.f (FV.assign rfl) rfl rfl ?_)
         | (show EL _ _ _ _ (⟨_, .unOp .not _ _, _, _, _, _⟩ :: _) _ _; refine EL.f (FV.not rfl) rfl rfl ?_)
         | (show EL _ _ _ _ (⟨_, .pick _ _ _, _, _, _, _⟩ :: _) _ _; refine EL.f (FV.pickF rfl rfl) rfl rfl ?_))
      | refine EL.nil ?_
      | refine EW.seq ?_
      | refine EW.region ?_
      | refine EW.ret ?_
      | refine EW.condT rfl ?_)
    exact ⟨_, rfl, by rw [fOk_len i2], he1⟩
  have i2 : inB (f.outs.length : Nat) 1 12 = true := inB_iff.2 q2
  repeat' (first
    | (show EL _ _ _ _ (_ :: _) _ _
       first
       | (show EL _ _ _ _ (⟨_, .nilCheck _, _, _, _, _⟩ :: _) _ _; refine EL.f (FV.nilChk rfl) rfl rfl ?_)
       | (show EL _ _ _ _ (⟨_, .fieldAddr _ _ _, _, _, _, _⟩ :: _) _ _; refine EL.f (FV.fieldAddr rfl rfl rfl rfl rfl) rfl rfl ?_)
       | (show EL _ _ _ _ (⟨_, .load _ _, _, _, _, _⟩ :: _) _ _; first | refine EL.f (FV.load1 rfl rfl rfl (he1.cell f1)) rfl rfl ?_ | refine EL.f (FV.load1 rfl rfl rfl (he1.cell f2)) rfl rfl ?_)
       | (show EL _ _ _ _ (⟨_, .call _, _, _, _, _⟩ :: _) _ _; first | (refine EL.h (Hv.call (specInR i1 _) rfl) rfl (fun _ => rfl) ?_; rintro _ _ ⟨rfl, rfl⟩) | (refine EL.h (Hv.call (specInR i2 _) rfl) rfl (fun _ => rfl) ?_; rintro _ _ ⟨rfl, rfl⟩) | refine EL.f (FV.len rfl rfl) rfl rfl ?_)
       | (show EL _ _ _ _ (⟨_, .move _, _, _, _, _⟩ :: _) _ _; refine EL.f (FV.move rfl) rfl rfl ?_)
       | (show EL _ _ _ _ (⟨_, .assign _, _, _, _, _⟩ :: _) _ _; refine EL.f (FV.assign rfl) rfl rfl ?_)
       | (show EL _ _ _ _ (⟨_, .unOp .not _ _, _, _, _, _⟩ :: _) _ _; refine EL.f (FV.not rfl) rfl rfl ?_)
       | (show EL _ _ _ _ (⟨_, .pick _ _ _, _, _, _, _⟩ :: _) _ _; refine EL.f (FV.pickF rfl rfl) rfl rfl ?_))
    | refine EL.nil ?_
    | refine EW.seq ?_
    | refine EW.region ?_
    | refine EW.block ?_
    | refine EW.skip ?_
    | refine EW.condF rfl ?_)
  refine EW.loop (X := Nat) (fun m wr => m ≤ i ∧ (∀ j, j < m → ((fs.getD j dFu).name.toList == f.name.toList) = false) ∧ Ext w wr) (fun m => [(0, .pointer (some ⟨pb, po, none⟩)), (1, .int .i64 i), (5, .pointer (some ⟨bf, of + i * 3, none⟩)), (6, .int .i64 m)]) (fun m => i - m) 0 ⟨Nat.zero_le _, fun j hj => by omega, he1⟩ ⟨rfl, rfl, rfl, rfl, trivial⟩ ?_
  rintro m wr ⟨hi, hno, hE⟩
  by_cases hm : m < i
  · obtain ⟨bm, om, cm, em, hLm, ⟨Bm, bm', rfl, _, _⟩, _⟩ := (hfs.ext hE).kid (i := m) (by omega)
    injection em with em
    injection em with em1 em2 _
    subst em1 em2
    have m0 := hLm 0 _ rfl
    have g0 := hE.cell f0
    have gp := hE.cell p0
    have ed := Ext.drew wr
    cases hq : ((fs.getD m dFu).name.toList == f.name.toList)
    · repeat' (first
        | refine EL.f (FV.move rfl) rfl rfl ?_
        | refine EL.fT (FV.lss rfl rfl) rfl (fun _ => rfl) (by omega) ?_
        | refine EL.nil ?_
        | refine EW.seq ?_
        | refine EW.region ?_
        | refine EW.block ?_
        | refine EW.skip ?_
        | refine EW.condT rfl ?_)
      refine EW.draw (fun w' => Ext wr w') (pl 0 13) mixed (by decide +kernel) ed ?_
      repeat' (first
        | refine EP.f rfl (FV.nilChk rfl) rfl rfl ?_
        | refine EP.f rfl (FV.fieldAddr rfl rfl rfl rfl rfl) rfl rfl ?_
        | refine EP.f rfl (FV.load rfl rfl rfl (fun w' h' => h'.cell m0)) rfl rfl ?_
        | refine EP.f rfl (FV.load rfl rfl rfl (fun w' h' => h'.cell g0)) rfl rfl ?_
        | refine EP.f rfl (FV.load rfl rfl rfl (fun w' h' => h'.cell gp)) rfl rfl ?_
        | refine EP.f rfl (FV.idx (s := 3) rfl rfl rfl rfl (by omega) (by omega)) rfl rfl ?_
        | refine EP.f rfl (FV.eqlSb rfl rfl hq) rfl rfl ?_
        | refine EP.nil ?_
        | refine EP.f rfl (FV.move rfl) rfl rfl ?_)
      repeat' (first
        | refine EL.f (FV.move rfl) rfl rfl ?_
        | refine EL.f (FV.assign rfl) rfl rfl ?_
        | refine EL.f (FV.addI rfl rfl (by omega)) rfl rfl ?_
        | refine EL.nil ?_
        | refine EW.region ?_
        | refine EW.skip ?_
        | refine EW.condF rfl ?_)
      exact ⟨m + 1, ⟨rfl, rfl, rfl, rfl, trivial⟩, ⟨by omega, fun j hj => by
        by_cases e : j = m
        · subst e; exact hq
        · exact hno j (by omega), hE.trans ed⟩, by omega⟩
    · repeat' (first
        | refine EL.f (FV.move rfl) rfl rfl ?_
        | refine EL.fT (FV.lss rfl rfl) rfl (fun _ => rfl) (by omega) ?_
        | refine EL.nil ?_
        | refine EW.seq ?_
        | refine EW.region ?_
        | refine EW.block ?_
        | refine EW.skip ?_
        | refine EW.condT rfl ?_)
      refine EW.draw (fun w' => Ext wr w') (pl 0 13) mixed (by decide +kernel) ed ?_
      repeat' (first
        | refine EP.f rfl (FV.nilChk rfl) rfl rfl ?_
        | refine EP.f rfl (FV.fieldAddr rfl rfl rfl rfl rfl) rfl rfl ?_
        | refine EP.f rfl (FV.load rfl rfl rfl (fun w' h' => h'.cell m0)) rfl rfl ?_
        | refine EP.f rfl (FV.load rfl rfl rfl (fun w' h' => h'.cell g0)) rfl rfl ?_
        | refine EP.f rfl (FV.load rfl rfl rfl (fun w' h' => h'.cell gp)) rfl rfl ?_
        | refine EP.f rfl (FV.idx (s := 3) rfl rfl rfl rfl (by omega) (by omega)) rfl rfl ?_
        | refine EP.f rfl (FV.eqlSb rfl rfl hq) rfl rfl ?_
        | refine EP.nil ?_
        | refine EP.f rfl (FV.move rfl) rfl rfl ?_)
      repeat' (first
        | refine EL.f (FV.assign rfl) rfl rfl ?_
        | refine EL.nil ?_
        | refine EW.seq ?_
        | refine EW.region ?_
        | refine EW.ret ?_
        | refine EW.condT rfl ?_)
      exact ⟨_, rfl, by rw [fOk_dup (dupF_some hm (by omega) hq)], hE.trans ed⟩
  obtain rfl : m = i := by omega
  have hdup := dupF_none hno
  repeat' (first
    | refine EL.f (FV.move rfl) rfl rfl ?_
    | refine EL.f (FV.assign rfl) rfl rfl ?_
    | refine EL.fF (FV.lss rfl rfl) rfl (fun _ => rfl) (by omega) ?_
    | refine EL.nil ?_
    | refine EW.seq ?_
    | refine EW.region ?_
    | refine EW.block ?_
    | refine EW.exit ?_
    | refine EW.condF rfl ?_)
  refine EW.loop (X := Nat) (fun j w2 => j ≤ f.outs.length ∧ (∀ n, n < j → validE fs (f.outs.getD n dEx) f.params m = true) ∧ Ex.sizeL (f.outs.take j) ≤ 400 ∧ Ext w w2) (fun j => [(0, .pointer (some ⟨pb, po, none⟩)), (1, .int .i64 m), (5, .pointer (some ⟨bf, of + m * 3, none⟩)), (7, .int .i64 (400 - (Ex.sizeL (f.outs.take j) : Nat))), (8, .int .i64 j)]) (fun j => f.outs.length - j) 0 ⟨Nat.zero_le _, fun n hn => by omega, by simp [Ex.sizeL], hE⟩ ⟨rfl, rfl, rfl, by simp [Ex.sizeL]; rfl, rfl, trivial⟩ ?_
  rintro j w2 ⟨hj, hall, hsz, hE2⟩
  have g2 := hE2.cell f2
  by_cases hlj : j < f.outs.length
  rotate_left
  · obtain rfl : j = f.outs.length := by omega
    rw [List.take_length] at hsz
    repeat' (first
      | (show EL _ _ _ _ (_ :: _) _ _
         first
         | (show EL _ _ _ _ (⟨_, .nilCheck _, _, _, _, _⟩ :: _) _ _; refine EL.f (FV.nilChk rfl) rfl rfl ?_)
         | (show EL _ _ _ _ (⟨_, .fieldAddr _ _ _, _, _, _, _⟩ :: _) _ _; refine EL.f (FV.fieldAddr rfl rfl rfl rfl rfl) rfl rfl ?_)
         | (show EL _ _ _ _ (⟨_, .load _ _, _, _, _, _⟩ :: _) _ _; refine EL.f (FV.load1 rfl rfl rfl (g2)) rfl rfl ?_)
         | (show EL _ _ _ _ (⟨_, .move _, _, _, _, _⟩ :: _) _ _; refine EL.f (FV.move rfl) rfl rfl ?_)
         | (show EL _ _ _ _ (⟨_, .assign _, _, _, _, _⟩ :: _) _ _; refine EL.f (FV.assign rfl) rfl rfl ?_)
         | (show EL _ _ _ _ (⟨_, .call _, _, _, _, _⟩ :: _) _ _; refine EL.f (FV.len rfl rfl) rfl rfl ?_)
         | (show EL _ _ _ _ (⟨_, .binOp .lss _ _ _ _, _, _, _, _⟩ :: _) _ _; refine EL.fF (FV.lss rfl rfl) rfl (fun _ => rfl) (by omega) ?_))
      | refine EL.nil ?_
      | refine EW.seq ?_
      | refine EW.region ?_
      | refine EW.exit ?_
      | refine EW.ret ?_
      | refine EW.condF rfl ?_)
    exact ⟨_, rfl, by rw [fOk_true hn hdup i1 i2 hall hsz], hE2⟩
  obtain ⟨b1, o1, c1, rfl, hL1, hX1, hc1⟩ := (hos.ext hE2).kid hlj
  have hfj := hfit j hlj
  have hsp := sizeL_split f.outs (j + 1)
  have hst := sizeL_take hlj
  have hxP : ExP w2 b1 (o1 + j * 5) (f.outs.getD j dEx) := ⟨c1, hL1, hX1⟩
  repeat' (first
    | (show EL _ _ _ _ (_ :: _) _ _
       first
       | (show EL _ _ _ _ (⟨_, .nilCheck _, _, _, _, _⟩ :: _) _ _; refine EL.f (FV.nilChk rfl) rfl rfl ?_)
       | (show EL _ _ _ _ (⟨_, .fieldAddr _ _ _, _, _, _, _⟩ :: _) _ _; refine EL.f (FV.fieldAddr rfl rfl rfl rfl rfl) rfl rfl ?_)
       | (show EL _ _ _ _ (⟨_, .load _ _, _, _, _, _⟩ :: _) _ _; refine EL.f (FV.load1 rfl rfl rfl (g2)) rfl rfl ?_)
       | (show EL _ _ _ _ (⟨_, .indexAddr _ _ _, _, _, _, _⟩ :: _) _ _; refine EL.f (FV.idx rfl rfl rfl rfl (by omega) (by omega)) rfl rfl ?_)
       | (show EL _ _ _ _ (⟨_, .move _, _, _, _, _⟩ :: _) _ _; refine EL.f (FV.move rfl) rfl rfl ?_)
       | (show EL _ _ _ _ (⟨_, .call _, _, _, _, _⟩ :: _) _ _; refine EL.f (FV.len rfl rfl) rfl rfl ?_)
       | (show EL _ _ _ _ (⟨_, .binOp .lss _ _ _ _, _, _, _, _⟩ :: _) _ _; refine EL.fT (FV.lss rfl rfl) rfl (fun _ => rfl) (by omega) ?_))
    | refine EL.nil ?_
    | refine EW.seq ?_
    | refine EW.region ?_
    | refine EW.block ?_
    | refine EW.skip ?_
    | refine EW.condT rfl ?_)
  refine EL.h (Hv.call (specLeft (f.outs.getD j dEx) _ b1 (o1 + j * 5) w2 ⟨by omega, by omega⟩ hxP) rfl) rfl (fun _ => rfl) ?_
  rintro _ w3 ⟨rfl, he3⟩
  have hE3 := hE2.trans he3
  by_cases hlf : ((f.outs.getD j dEx).size : Int) ≤ 400 - (Ex.sizeL (f.outs.take j) : Nat)
  rotate_left
  · rw [szV_gt hlf]
    repeat' (first
      | refine EL.f (FV.assign rfl) rfl rfl ?_
      | refine EL.nil ?_
      | refine EW.seq ?_)
    refine EW.draw (fun w' => Ext w3 w') (pl 0 18) mixed (by decide +kernel) (Ext.drew _) ?_
    repeat' (first
      | refine EP.fT rfl (FV.lss rfl rfl) rfl (fun _ => rfl) (by omega) ?_
      | refine EP.f rfl (FV.pickT rfl rfl) rfl rfl ?_
      | refine EP.skip rfl rfl rfl ?_
      | refine EP.nil ?_
      | refine EP.f rfl (FV.move rfl) rfl rfl ?_)
    repeat' (first
      | refine EL.f (FV.assign rfl) rfl rfl ?_
      | refine EL.nil ?_
      | refine EW.seq ?_
      | refine EW.region ?_
      | refine EW.ret ?_
      | refine EW.condT rfl ?_)
    exact ⟨_, rfl, by rw [fOk_size (by omega)], hE3.trans (Ext.drew _)⟩
  rw [szV_le hlf]
  have k1 := hE3.cell f1
  have k2 := hE3.cell f2
  cases hv : validE fs (f.outs.getD j dEx) f.params m
  · repeat' (first
      | refine EL.f (FV.assign rfl) rfl rfl ?_
      | refine EL.nil ?_
      | refine EW.seq ?_)
    refine EW.draw (fun w' => Ext w3 w') (pl 0 15 ++ [(15, false)] ++ pl 16 2) mixed (by decide +kernel) (Ext.drew _) ?_
    repeat' (first
      | refine EP.fF rfl (FV.lss rfl rfl) rfl (fun _ => rfl) (by omega) ?_
      | refine EP.f rfl (FV.nilChk rfl) rfl rfl ?_
      | refine EP.f rfl (FV.fieldAddr rfl rfl rfl rfl rfl) rfl rfl ?_
      | refine EP.f rfl (FV.load rfl rfl rfl (fun w' h' => h'.cell k1)) rfl rfl ?_
      | refine EP.f rfl (FV.load rfl rfl rfl (fun w' h' => h'.cell k2)) rfl rfl ?_
      | refine EP.f rfl (FV.idx (s := 5) rfl rfl rfl rfl (by omega) (by omega)) rfl rfl ?_
      | refine EP.f rfl (FV.move rfl) rfl rfl ?_)
    have ed3 := Ext.drew w3
    refine EP.h rfl rfl (Hv.call (specExpr fs (f.outs.getD j dEx) hfj.1 pb po b1 (o1 + j * 5) f.params m w3.drew (hp.ext (hE3.trans ed3)) (hxP.ext (he3.trans ed3))) rfl) rfl (fun _ => rfl) ?_
    rintro _ w5 ⟨rfl, he5⟩
    rw [hv]
    refine ⟨ed3.trans he5, ?_⟩
    repeat' (first
      | refine EP.f rfl (FV.pickF rfl rfl) rfl rfl ?_
      | refine EP.nil ?_
      | refine EP.f rfl (FV.not rfl) rfl rfl ?_)
    repeat' (first
      | refine EL.f (FV.assign rfl) rfl rfl ?_
      | refine EL.nil ?_
      | refine EW.seq ?_
      | refine EW.region ?_
      | refine EW.ret ?_
      | refine EW.condT rfl ?_)
    exact ⟨_, rfl, by rw [fOk_out hlj hv], (hE3.trans (Ext.drew _)).trans he5⟩
  · repeat' (first
      | refine EL.f (FV.assign rfl) rfl rfl ?_
      | refine EL.nil ?_
      | refine EW.seq ?_)
    refine EW.draw (fun w' => Ext w3 w') (pl 0 15 ++ [(15, false)] ++ pl 16 2) mixed (by decide +kernel) (Ext.drew _) ?_
    repeat' (first
      | refine EP.fF rfl (FV.lss rfl rfl) rfl (fun _ => rfl) (by omega) ?_
      | refine EP.f rfl (FV.nilChk rfl) rfl rfl ?_
      | refine EP.f rfl (FV.fieldAddr rfl rfl rfl rfl rfl) rfl rfl ?_
      | refine EP.f rfl (FV.load rfl rfl rfl (fun w' h' => h'.cell k1)) rfl rfl ?_
      | refine EP.f rfl (FV.load rfl rfl rfl (fun w' h' => h'.cell k2)) rfl rfl ?_
      | refine EP.f rfl (FV.idx (s := 5) rfl rfl rfl rfl (by omega) (by omega)) rfl rfl ?_
      | refine EP.f rfl (FV.move rfl) rfl rfl ?_)
    have ed3 := Ext.drew w3
    refine EP.h rfl rfl (Hv.call (specExpr fs (f.outs.getD j dEx) hfj.1 pb po b1 (o1 + j * 5) f.params m w3.drew (hp.ext (hE3.trans ed3)) (hxP.ext (he3.trans ed3))) rfl) rfl (fun _ => rfl) ?_
    rintro _ w5 ⟨rfl, he5⟩
    rw [hv]
    refine ⟨ed3.trans he5, ?_⟩
    repeat' (first
      | refine EP.f rfl (FV.pickF rfl rfl) rfl rfl ?_
      | refine EP.nil ?_
      | refine EP.f rfl (FV.not rfl) rfl rfl ?_)
    repeat' (first
      | refine EL.f (FV.move rfl) rfl rfl ?_
      | refine EL.f (FV.assign rfl) rfl rfl ?_
      | refine EL.f (FV.addI rfl rfl (by omega)) rfl rfl ?_
      | refine EL.nil ?_
      | refine EW.region ?_
      | refine EW.skip ?_
      | refine EW.condF rfl ?_)
    exact ⟨j + 1, ⟨rfl, rfl, rfl, (show some (Value.int .i64 _) = some (Value.int .i64 _) from by congr 2; omega), rfl, trivial⟩, ⟨by omega, fun n hn => by
      by_cases e : n = j
      · subst e; exact hv
      · exact hall n (by omega), by omega, (hE3.trans (Ext.drew _)).trans he5⟩, by omega⟩
theorem specOkP (fs : List Fu) (hs : fuL fs ≤ 1048576) (pb po : Nat) (w : World) (hp : PrP w pb po fs) : CallsR Try.prog 72 [.pointer (some ⟨pb, po, none⟩)] w fun v w' => v = .bool (validP fs) ∧ Ext w w' := by
  have hp' := hp
  obtain ⟨A, cap, hP0, hfs⟩ := hp'
  have hge := hfs.1
  refine CallsR.enter Try.func72 (by decide +kernel) rfl Try.ntmps72 rfl ?_
  have p0 := hP0 0 _ rfl
  by_cases h16 : fs.length ≤ 16
  rotate_left
  · repeat' (first
      | (show EL _ _ _ _ (_ :: _) _ _
         first
         | (show EL _ _ _ _ (⟨_, .nilCheck _, _, _, _, _⟩ :: _) _ _; refine EL.f (FV.nilChk rfl) rfl rfl ?_)
         | (show EL _ _ _ _ (⟨_, .fieldAddr _ _ _, _, _, _, _⟩ :: _) _ _; refine EL.f (FV.fieldAddr rfl rfl rfl rfl rfl) rfl rfl ?_)
         | (show EL _ _ _ _ (⟨_, .load _ _, _, _, _, _⟩ :: _) _ _; refine EL.f (FV.load1 rfl rfl rfl (p0)) rfl rfl ?_)
         | (show EL _ _ _ _ (⟨_, .move _, _, _, _, _⟩ :: _) _ _; refine EL.f (FV.move rfl) rfl rfl ?_)
         | (show EL _ _ _ _ (⟨_, .assign _, _, _, _, _⟩ :: _) _ _; refine EL.f (FV.assign rfl) rfl rfl ?_)
         | (show EL _ _ _ _ (⟨_, .call _, _, _, _, _⟩ :: _) _ _; refine EL.f (FV.len rfl rfl) rfl rfl ?_)
         | (show EL _ _ _ _ (⟨_, .binOp .gtr _ _ _ _, _, _, _, _⟩ :: _) _ _; refine EL.fT (FV.gtr rfl rfl) rfl (fun _ => rfl) (by omega) ?_))
      | refine EL.nil ?_
      | refine EW.seq ?_
      | refine EW.region ?_
      | refine EW.ret ?_
      | refine EW.condT rfl ?_)
    exact ⟨_, rfl, by rw [validP_long h16], Ext.refl _⟩
  repeat' (first
    | (show EL _ _ _ _ (_ :: _) _ _
       first
       | (show EL _ _ _ _ (⟨_, .nilCheck _, _, _, _, _⟩ :: _) _ _; refine EL.f (FV.nilChk rfl) rfl rfl ?_)
       | (show EL _ _ _ _ (⟨_, .fieldAddr _ _ _, _, _, _, _⟩ :: _) _ _; refine EL.f (FV.fieldAddr rfl rfl rfl rfl rfl) rfl rfl ?_)
       | (show EL _ _ _ _ (⟨_, .load _ _, _, _, _, _⟩ :: _) _ _; refine EL.f (FV.load1 rfl rfl rfl (p0)) rfl rfl ?_)
       | (show EL _ _ _ _ (⟨_, .move _, _, _, _, _⟩ :: _) _ _; refine EL.f (FV.move rfl) rfl rfl ?_)
       | (show EL _ _ _ _ (⟨_, .assign _, _, _, _, _⟩ :: _) _ _; refine EL.f (FV.assign rfl) rfl rfl ?_)
       | (show EL _ _ _ _ (⟨_, .call _, _, _, _, _⟩ :: _) _ _; refine EL.f (FV.len rfl rfl) rfl rfl ?_)
       | (show EL _ _ _ _ (⟨_, .binOp .gtr _ _ _ _, _, _, _, _⟩ :: _) _ _; refine EL.fF (FV.gtr rfl rfl) rfl (fun _ => rfl) (by omega) ?_))
    | refine EL.nil ?_
    | refine EW.seq ?_
    | refine EW.region ?_
    | refine EW.block ?_
    | refine EW.skip ?_
    | refine EW.condF rfl ?_)
  refine EW.loop (X := Nat) (fun i wr => i ≤ fs.length ∧ (∀ j, j < i → fOk fs j (fs.getD j dFu) = true) ∧ Ext w wr) (fun i => [(0, .pointer (some ⟨pb, po, none⟩)), (3, .int .i64 i)]) (fun i => fs.length - i) 0 ⟨Nat.zero_le _, fun j hj => by omega, Ext.refl _⟩ ⟨rfl, rfl, trivial⟩ ?_
  rintro i wr ⟨hi, hall, hE⟩
  replace p0 := hE.cell p0
  by_cases hlt : i < fs.length
  rotate_left
  · obtain rfl : i = fs.length := by omega
    repeat' (first
      | (show EL _ _ _ _ (_ :: _) _ _
         first
         | (show EL _ _ _ _ (⟨_, .nilCheck _, _, _, _, _⟩ :: _) _ _; refine EL.f (FV.nilChk rfl) rfl rfl ?_)
         | (show EL _ _ _ _ (⟨_, .fieldAddr _ _ _, _, _, _, _⟩ :: _) _ _; refine EL.f (FV.fieldAddr rfl rfl rfl rfl rfl) rfl rfl ?_)
         | (show EL _ _ _ _ (⟨_, .load _ _, _, _, _, _⟩ :: _) _ _; refine EL.f (FV.load1 rfl rfl rfl (p0)) rfl rfl ?_)
         | (show EL _ _ _ _ (⟨_, .move _, _, _, _, _⟩ :: _) _ _; refine EL.f (FV.move rfl) rfl rfl ?_)
         | (show EL _ _ _ _ (⟨_, .assign _, _, _, _, _⟩ :: _) _ _; refine EL.f (FV.assign rfl) rfl rfl ?_)
         | (show EL _ _ _ _ (⟨_, .call _, _, _, _, _⟩ :: _) _ _; refine EL.f (FV.len rfl rfl) rfl rfl ?_)
         | (show EL _ _ _ _ (⟨_, .binOp .lss _ _ _ _, _, _, _, _⟩ :: _) _ _; refine EL.fF (FV.lss rfl rfl) rfl (fun _ => rfl) (by omega) ?_))
      | refine EL.nil ?_
      | refine EW.seq ?_
      | refine EW.region ?_
      | refine EW.exit ?_
      | refine EW.ret ?_
      | refine EW.condF rfl ?_)
    exact ⟨_, rfl, by rw [validP_all h16 hall], hE⟩
  have hcall := specFunc fs hs pb po i hlt wr (hp.ext hE)
  repeat' (first
    | (show EL _ _ _ _ (_ :: _) _ _
       first
       | (show EL _ _ _ _ (⟨_, .nilCheck _, _, _, _, _⟩ :: _) _ _; refine EL.f (FV.nilChk rfl) rfl rfl ?_)
       | (show EL _ _ _ _ (⟨_, .fieldAddr _ _ _, _, _, _, _⟩ :: _) _ _; refine EL.f (FV.fieldAddr rfl rfl rfl rfl rfl) rfl rfl ?_)
       | (show EL _ _ _ _ (⟨_, .load _ _, _, _, _, _⟩ :: _) _ _; refine EL.f (FV.load1 rfl rfl rfl (p0)) rfl rfl ?_)
       | (show EL _ _ _ _ (⟨_, .move _, _, _, _, _⟩ :: _) _ _; refine EL.f (FV.move rfl) rfl rfl ?_)
       | (show EL _ _ _ _ (⟨_, .call _, _, _, _, _⟩ :: _) _ _; refine EL.f (FV.len rfl rfl) rfl rfl ?_)
       | (show EL _ _ _ _ (⟨_, .binOp .lss _ _ _ _, _, _, _, _⟩ :: _) _ _; refine EL.fT (FV.lss rfl rfl) rfl (fun _ => rfl) (by omega) ?_))
    | refine EL.nil ?_
    | refine EW.seq ?_
    | refine EW.region ?_
    | refine EW.block ?_
    | refine EW.skip ?_
    | refine EW.condT rfl ?_)
  refine EL.h (Hv.call hcall rfl) rfl (fun _ => rfl) ?_
  rintro _ w1 ⟨rfl, he1⟩
  cases hv : fOk fs i (fs.getD i dFu)
  · repeat' (first
      | refine EL.f (FV.assign rfl) rfl rfl ?_
      | refine EL.f (FV.not rfl) rfl rfl ?_
      | refine EL.nil ?_
      | refine EW.seq ?_
      | refine EW.region ?_
      | refine EW.ret ?_
      | refine EW.condT rfl ?_)
    exact ⟨_, rfl, by rw [validP_at hlt hv], hE.trans he1⟩
  · repeat' (first
      | (show EL _ _ _ _ (_ :: _) _ _
         first
         | (show EL _ _ _ _ (⟨_, .move _, _, _, _, _⟩ :: _) _ _; refine EL.f (FV.move rfl) rfl rfl ?_)
         | (show EL _ _ _ _ (⟨_, .assign _, _, _, _, _⟩ :: _) _ _; refine EL.f (FV.assign rfl) rfl rfl ?_)
         | (show EL _ _ _ _ (⟨_, .binOp .add _ _ _ _, _, _, _, _⟩ :: _) _ _; refine EL.f (FV.addI rfl rfl (by omega)) rfl rfl ?_)
         | (show EL _ _ _ _ (⟨_, .unOp .not _ _, _, _, _, _⟩ :: _) _ _; refine EL.f (FV.not rfl) rfl rfl ?_))
      | refine EL.nil ?_
      | refine EW.region ?_
      | refine EW.skip ?_
      | refine EW.condF rfl ?_)
    exact ⟨i + 1, ⟨rfl, rfl, trivial⟩, ⟨by omega, fun j hj => by
      by_cases e : j = i
      · subst e; exact hv
      · exact hall j (by omega), hE.trans he1⟩, by omega⟩
end Eng
end Go.Proofs.Ytgahkbcfjibjaaa
