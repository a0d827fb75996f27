/- ValidExpr: the contracts of the reference above the node. Conditions: the number of nodes. -/
import Derived.Test.YtgahkbcfjibjaaaVg
namespace Go.Proofs.Ytgahkbcfjibjaaa
open Go Go.RowKit
namespace Eng
theorem specTree (fs : List Fu) (pb po : Nat) (funcs : Int) (hf : 0 ≤ funcs ∧ funcs ≤ fs.length) (e : Ex) : ∀ vars b o w, 0 ≤ vars → vars + (e.depth : Int) ≤ 10000000 → PrP w pb po fs → ExP w b o e →
    CallsR Try.prog 114 [.pointer (some ⟨pb, po, none⟩), .pointer (some ⟨b, o, none⟩), .int .i64 vars, .int .i64 funcs] w fun v w' => v = .bool (e.formed fs funcs vars) ∧ Ext w w' := by
  induction e using Ex.ind with
  | h k n p c ks ih =>
  intro vars b o w hv0 hv1 hp hx
  have hdk := fun i (hi : i < ks.length) => depth_kid hi
  simp only [Ex.depth] at hv1
  have cn := specNode fs pb po funcs hf k n p c ks b o vars w ⟨hv0, by omega⟩ hp hx
  obtain ⟨cs0, hL0, hX0⟩ := hx
  obtain ⟨B, bap, rfl, hks⟩ := hX0.inv
  have hr := hks.1
  rw [Ex.formed]
  refine CallsR.enter Try.func114 (by decide +kernel) rfl Try.ntmps114 rfl ?_
  cases hn : nodeOk fs funcs vars k n p c ks.length
  · rw [hn] at cn
    repeat' (first
      | refine EL.f (FV.move rfl) rfl rfl ?_
      | refine EL.f (FV.assign rfl) rfl rfl ?_
      | refine EL.nil ?_
      | refine EW.seq ?_
      | refine EW.region ?_)
    refine EL.h (Hv.call cn rfl) rfl (fun _ => rfl) ?_
    rintro _ w1 ⟨rfl, he1⟩
    repeat' (first
      | refine EL.f (FV.assign rfl) rfl rfl ?_
      | refine EL.f (FV.not rfl) rfl rfl ?_
      | refine EL.nil ?_
      | refine EW.seq ?_
      | refine EW.region ?_
      | refine EW.ret ?_
      | refine EW.condT rfl ?_)
    exact ⟨_, rfl, rfl, he1⟩
  rw [hn] at cn
  rw [Bool.true_and]
  repeat' (first
    | refine EL.f (FV.move rfl) rfl rfl ?_
    | refine EL.f (FV.assign rfl) rfl rfl ?_
    | refine EL.nil ?_
    | refine EW.seq ?_
    | refine EW.region ?_)
  refine EL.h (Hv.call cn rfl) rfl (fun _ => rfl) ?_
  rintro _ w1 ⟨rfl, he1⟩
  repeat' (first
    | refine EL.f (FV.assign rfl) rfl rfl ?_
    | refine EL.f (FV.not rfl) rfl rfl ?_
    | refine EL.nil ?_
    | refine EW.seq ?_
    | refine EW.region ?_
    | refine EW.block ?_
    | refine EW.skip ?_
    | refine EW.condF rfl ?_)
  refine EW.loop (X := Nat) (fun i wr => i ≤ ks.length ∧ (∀ j, j < i → (ks.getD j dEx).formed fs funcs (ownV k (0 + j) vars) = true) ∧ Ext w wr) (fun i => [(0, .pointer (some ⟨pb, po, none⟩)), (1, .pointer (some ⟨b, o, none⟩)), (2, .int .i64 vars), (3, .int .i64 funcs), (9, .int .i64 i)]) (fun i => ks.length - i) 0 ⟨Nat.zero_le _, fun j hj => by omega, he1⟩ ⟨rfl, rfl, rfl, rfl, rfl, trivial⟩ ?_
  rintro i wr ⟨hi, hall, hE⟩
  have l0 := (hL0.ext hE) 0 _ rfl
  have l4 := (hL0.ext hE) 4 _ rfl
  by_cases hlt : i < ks.length
  rotate_left
  · obtain rfl : i = ks.length := by omega
    repeat' (first
      | (show EL _ _ _ _ (_ :: _) _ _
         first
         | (show EL _ _ _ _ (⟨_, .nilCheck _, _, _, _, _⟩ :: _) _ _; refine EL.f (FV.nilChk rfl) rfl rfl ?_)
         | (show EL _ _ _ _ (⟨_, .fieldAddr _ _ _, _, _, _, _⟩ :: _) _ _; refine EL.f (FV.fieldAddr rfl rfl rfl rfl rfl) rfl rfl ?_)
         | (show EL _ _ _ _ (⟨_, .load _ _, _, _, _, _⟩ :: _) _ _; refine EL.f (FV.load1 rfl rfl rfl (l4)) rfl rfl ?_)
         | (show EL _ _ _ _ (⟨_, .move _, _, _, _, _⟩ :: _) _ _; refine EL.f (FV.move rfl) rfl rfl ?_)
         | (show EL _ _ _ _ (⟨_, .assign _, _, _, _, _⟩ :: _) _ _; refine EL.f (FV.assign rfl) rfl rfl ?_)
         | (show EL _ _ _ _ (⟨_, .call _, _, _, _, _⟩ :: _) _ _; refine EL.f (FV.len rfl rfl) rfl rfl ?_)
         | (show EL _ _ _ _ (⟨_, .binOp .lss _ _ _ _, _, _, _, _⟩ :: _) _ _; refine EL.fF (FV.lss rfl rfl) rfl (fun _ => rfl) (by omega) ?_))
      | refine EL.nil ?_
      | refine EW.seq ?_
      | refine EW.region ?_
      | refine EW.exit ?_
      | refine EW.ret ?_
      | refine EW.condF rfl ?_)
    exact ⟨_, rfl, by rw [formedL_true hall], hE⟩
  obtain ⟨b1, o1, cs, rfl, hL, hX, hc⟩ := (hks.ext hE).kid hlt
  have hdi := hdk i hlt
  have hob := ownV_bound k i vars
  have hcall := ih i hlt (ownV k i vars) b1 (o1 + i * 5) wr (by omega) (by omega) (hp.ext hE) ⟨cs, hL, hX⟩
  by_cases h9 : k = 9 ∧ i = 1
  · have hov : ownV k i vars = vars + 1 := if_pos h9
    rw [hov] at hcall hob
    repeat' (first
      | (show EL _ _ _ _ (_ :: _) _ _
         first
         | (show EL _ _ _ _ (⟨_, .nilCheck _, _, _, _, _⟩ :: _) _ _; refine EL.f (FV.nilChk rfl) rfl rfl ?_)
         | (show EL _ _ _ _ (⟨_, .fieldAddr _ _ _, _, _, _, _⟩ :: _) _ _; refine EL.f (FV.fieldAddr rfl rfl rfl rfl rfl) rfl rfl ?_)
         | (show EL _ _ _ _ (⟨_, .load _ _, _, _, _, _⟩ :: _) _ _; first | refine EL.f (FV.load1 rfl rfl rfl (l0)) rfl rfl ?_ | refine EL.f (FV.load1 rfl rfl rfl (l4)) rfl rfl ?_)
         | (show EL _ _ _ _ (⟨_, .indexAddr _ _ _, _, _, _, _⟩ :: _) _ _; refine EL.f (FV.idx rfl rfl rfl rfl (by omega) (by omega)) rfl rfl ?_)
         | (show EL _ _ _ _ (⟨_, .move _, _, _, _, _⟩ :: _) _ _; refine EL.f (FV.move rfl) rfl rfl ?_)
         | (show EL _ _ _ _ (⟨_, .assign _, _, _, _, _⟩ :: _) _ _; refine EL.f (FV.assign rfl) rfl rfl ?_)
         | (show EL _ _ _ _ (⟨_, .binOp .add _ _ _ _, _, _, _, _⟩ :: _) _ _; refine EL.f (FV.addI rfl rfl (by omega)) rfl rfl ?_)
         | (show EL _ _ _ _ (⟨_, .call _, _, _, _, _⟩ :: _) _ _; refine EL.f (FV.len rfl rfl) rfl rfl ?_)
         | (show EL _ _ _ _ (⟨_, .pick _ _ _, _, _, _, _⟩ :: _) _ _; refine EL.f (FV.pickT rfl rfl) rfl rfl ?_)
         | (show EL _ _ _ _ (⟨_, .binOp .lss _ _ _ _, _, _, _, _⟩ :: _) _ _; refine EL.fT (FV.lss rfl rfl) rfl (fun _ => rfl) (by omega) ?_)
         | (show EL _ _ _ _ (⟨_, .binOp .eql _ _ _ _, _, _, _, _⟩ :: _) _ _; refine EL.fT (FV.eql rfl rfl) rfl (fun _ => rfl) (by omega) ?_))
      | refine EL.nil ?_
      | refine EW.seq ?_
      | refine EW.region ?_
      | refine EW.block ?_
      | refine EW.skip ?_
      | refine EW.condT rfl ?_)
    refine EL.h (Hv.call hcall rfl) rfl (fun _ => rfl) ?_
    rintro _ u3 ⟨rfl, he7⟩
    have hE3 := hE.trans he7
    cases hfm : (ks.getD i dEx).formed fs funcs (vars + 1)
    · repeat' (first
        | refine EL.f (FV.assign rfl) rfl rfl ?_
        | refine EL.f (FV.not rfl) rfl rfl ?_
        | refine EL.nil ?_
        | refine EW.seq ?_
        | refine EW.region ?_
        | refine EW.ret ?_
        | refine EW.condT rfl ?_)
      exact ⟨_, rfl, by rw [formedL_false (i := 0) (j := i) hlt (by rw [Nat.zero_add, hov]; exact hfm)], hE3⟩
    · repeat' (first
        | (show EL _ _ _ _ (_ :: _) _ _
           first
           | (show EL _ _ _ _ (⟨_, .move _, _, _, _, _⟩ :: _) _ _; refine EL.f (FV.move rfl) rfl rfl ?_)
           | (show EL _ _ _ _ (⟨_, .assign _, _, _, _, _⟩ :: _) _ _; refine EL.f (FV.assign rfl) rfl rfl ?_)
           | (show EL _ _ _ _ (⟨_, .binOp .add _ _ _ _, _, _, _, _⟩ :: _) _ _; refine EL.f (FV.addI rfl rfl (by omega)) rfl rfl ?_)
           | (show EL _ _ _ _ (⟨_, .unOp .not _ _, _, _, _, _⟩ :: _) _ _; refine EL.f (FV.not rfl) rfl rfl ?_))
        | refine EL.nil ?_
        | refine EW.region ?_
        | refine EW.skip ?_
        | refine EW.condF rfl ?_)
      exact ⟨i + 1, ⟨rfl, rfl, rfl, rfl, rfl, trivial⟩, ⟨by omega, fun j hj => by
        by_cases e : j = i
        · subst e; rw [Nat.zero_add, hov]; exact hfm
        · exact hall j (by omega), hE3⟩, by omega⟩
  · have hov : ownV k i vars = vars := if_neg h9
    rw [hov] at hcall hob
    by_cases hk9 : k = 9
    · have hi1 : ¬ i = 1 := fun e => h9 ⟨hk9, e⟩
      repeat' (first
        | (show EL _ _ _ _ (_ :: _) _ _
           first
           | (show EL _ _ _ _ (⟨_, .nilCheck _, _, _, _, _⟩ :: _) _ _; refine EL.f (FV.nilChk rfl) rfl rfl ?_)
           | (show EL _ _ _ _ (⟨_, .fieldAddr _ _ _, _, _, _, _⟩ :: _) _ _; refine EL.f (FV.fieldAddr rfl rfl rfl rfl rfl) rfl rfl ?_)
           | (show EL _ _ _ _ (⟨_, .load _ _, _, _, _, _⟩ :: _) _ _; first | refine EL.f (FV.load1 rfl rfl rfl (l0)) rfl rfl ?_ | refine EL.f (FV.load1 rfl rfl rfl (l4)) rfl rfl ?_)
           | (show EL _ _ _ _ (⟨_, .indexAddr _ _ _, _, _, _, _⟩ :: _) _ _; refine EL.f (FV.idx rfl rfl rfl rfl (by omega) (by omega)) rfl rfl ?_)
           | (show EL _ _ _ _ (⟨_, .move _, _, _, _, _⟩ :: _) _ _; refine EL.f (FV.move rfl) rfl rfl ?_)
           | (show EL _ _ _ _ (⟨_, .assign _, _, _, _, _⟩ :: _) _ _; refine EL.f (FV.assign rfl) rfl rfl ?_)
           | (show EL _ _ _ _ (⟨_, .call _, _, _, _, _⟩ :: _) _ _; refine EL.f (FV.len rfl rfl) rfl rfl ?_)
           | (show EL _ _ _ _ (⟨_, .pick _ _ _, _, _, _, _⟩ :: _) _ _; refine EL.f (FV.pickT rfl rfl) rfl rfl ?_)
           | (show EL _ _ _ _ (⟨_, .binOp .lss _ _ _ _, _, _, _, _⟩ :: _) _ _; refine EL.fT (FV.lss rfl rfl) rfl (fun _ => rfl) (by omega) ?_)
           | (show EL _ _ _ _ (⟨_, .binOp .eql _ _ _ _, _, _, _, _⟩ :: _) _ _; first | refine EL.fT (FV.eql rfl rfl) rfl (fun _ => rfl) (by omega) ?_ | refine EL.fF (FV.eql rfl rfl) rfl (fun _ => rfl) (by omega) ?_))
        | refine EL.nil ?_
        | refine EW.seq ?_
        | refine EW.region ?_
        | refine EW.block ?_
        | refine EW.skip ?_
        | refine EW.condT rfl ?_
        | refine EW.condF rfl ?_)
      refine EL.h (Hv.call hcall rfl) rfl (fun _ => rfl) ?_
      rintro _ u3 ⟨rfl, he7⟩
      have hE3 := hE.trans he7
      cases hfm : (ks.getD i dEx).formed fs funcs (vars)
      · repeat' (first
          | refine EL.f (FV.assign rfl) rfl rfl ?_
          | refine EL.f (FV.not rfl) rfl rfl ?_
          | refine EL.nil ?_
          | refine EW.seq ?_
          | refine EW.region ?_
          | refine EW.ret ?_
          | refine EW.condT rfl ?_)
        exact ⟨_, rfl, by rw [formedL_false (i := 0) (j := i) hlt (by rw [Nat.zero_add, hov]; exact hfm)], hE3⟩
      · repeat' (first
          | (show EL _ _ _ _ (_ :: _) _ _
             first
             | (show EL _ _ _ _ (⟨_, .move _, _, _, _, _⟩ :: _) _ _; refine EL.f (FV.move rfl) rfl rfl ?_)
             | (show EL _ _ _ _ (⟨_, .assign _, _, _, _, _⟩ :: _) _ _; refine EL.f (FV.assign rfl) rfl rfl ?_)
             | (show EL _ _ _ _ (⟨_, .binOp .add _ _ _ _, _, _, _, _⟩ :: _) _ _; refine EL.f (FV.addI rfl rfl (by omega)) rfl rfl ?_)
             | (show EL _ _ _ _ (⟨_, .unOp .not _ _, _, _, _, _⟩ :: _) _ _; refine EL.f (FV.not rfl) rfl rfl ?_))
          | refine EL.nil ?_
          | refine EW.region ?_
          | refine EW.skip ?_
          | refine EW.condF rfl ?_)
        exact ⟨i + 1, ⟨rfl, rfl, rfl, rfl, rfl, trivial⟩, ⟨by omega, fun j hj => by
          by_cases e : j = i
          · subst e; rw [Nat.zero_add, hov]; exact hfm
          · exact hall j (by omega), hE3⟩, by omega⟩
    · repeat' (first
        | (show EL _ _ _ _ (_ :: _) _ _
           first
           | (show EL _ _ _ _ (⟨_, _, _, _, _, some _⟩ :: _) _ _; refine EL.skip rfl rfl ?_)
           | (show EL _ _ _ _ (⟨_, .nilCheck _, _, _, _, _⟩ :: _) _ _; refine EL.f (FV.nilChk rfl) rfl rfl ?_)
           | (show EL _ _ _ _ (⟨_, .fieldAddr _ _ _, _, _, _, _⟩ :: _) _ _; refine EL.f (FV.fieldAddr rfl rfl rfl rfl rfl) rfl rfl ?_)
           | (show EL _ _ _ _ (⟨_, .load _ _, _, _, _, _⟩ :: _) _ _; first | refine EL.f (FV.load1 rfl rfl rfl (l0)) rfl rfl ?_ | refine EL.f (FV.load1 rfl rfl rfl (l4)) rfl rfl ?_)
           | (show EL _ _ _ _ (⟨_, .indexAddr _ _ _, _, _, _, _⟩ :: _) _ _; refine EL.f (FV.idx rfl rfl rfl rfl (by omega) (by omega)) rfl rfl ?_)
           | (show EL _ _ _ _ (⟨_, .move _, _, _, _, _⟩ :: _) _ _; refine EL.f (FV.move rfl) rfl rfl ?_)
           | (show EL _ _ _ _ (⟨_, .assign _, _, _, _, _⟩ :: _) _ _; refine EL.f (FV.assign rfl) rfl rfl ?_)
           | (show EL _ _ _ _ (⟨_, .call _, _, _, _, _⟩ :: _) _ _; refine EL.f (FV.len rfl rfl) rfl rfl ?_)
           | (show EL _ _ _ _ (⟨_, .pick _ _ _, _, _, _, _⟩ :: _) _ _; refine EL.f (FV.pickF rfl rfl) rfl rfl ?_)
           | (show EL _ _ _ _ (⟨_, .binOp .lss _ _ _ _, _, _, _, _⟩ :: _) _ _; refine EL.fT (FV.lss rfl rfl) rfl (fun _ => rfl) (by omega) ?_)
           | (show EL _ _ _ _ (⟨_, .binOp .eql _ _ _ _, _, _, _, _⟩ :: _) _ _; refine EL.fF (FV.eql rfl rfl) rfl (fun _ => rfl) (by omega) ?_))
        | refine EL.nil ?_
        | refine EW.seq ?_
        | refine EW.region ?_
        | refine EW.block ?_
        | refine EW.skip ?_
        | refine EW.condT rfl ?_
        | refine EW.condF rfl ?_)
      refine EL.h (Hv.call hcall rfl) rfl (fun _ => rfl) ?_
      rintro _ u3 ⟨rfl, he7⟩
      have hE3 := hE.trans he7
      cases hfm : (ks.getD i dEx).formed fs funcs (vars)
      · repeat' (first
          | refine EL.f (FV.assign rfl) rfl rfl ?_
          | refine EL.f (FV.not rfl) rfl rfl ?_
          | refine EL.nil ?_
          | refine EW.seq ?_
          | refine EW.region ?_
          | refine EW.ret ?_
          | refine EW.condT rfl ?_)
        exact ⟨_, rfl, by rw [formedL_false (i := 0) (j := i) hlt (by rw [Nat.zero_add, hov]; exact hfm)], hE3⟩
      · repeat' (first
          | (show EL _ _ _ _ (_ :: _) _ _
             first
             | (show EL _ _ _ _ (⟨_, .move _, _, _, _, _⟩ :: _) _ _; refine EL.f (FV.move rfl) rfl rfl ?_)
             | (show EL _ _ _ _ (⟨_, .assign _, _, _, _, _⟩ :: _) _ _; refine EL.f (FV.assign rfl) rfl rfl ?_)
             | (show EL _ _ _ _ (⟨_, .binOp .add _ _ _ _, _, _, _, _⟩ :: _) _ _; refine EL.f (FV.addI rfl rfl (by omega)) rfl rfl ?_)
             | (show EL _ _ _ _ (⟨_, .unOp .not _ _, _, _, _, _⟩ :: _) _ _; refine EL.f (FV.not rfl) rfl rfl ?_))
          | refine EL.nil ?_
          | refine EW.region ?_
          | refine EW.skip ?_
          | refine EW.condF rfl ?_)
        exact ⟨i + 1, ⟨rfl, rfl, rfl, rfl, rfl, trivial⟩, ⟨by omega, fun j hj => by
          by_cases e : j = i
          · subst e; rw [Nat.zero_add, hov]; exact hfm
          · exact hall j (by omega), hE3⟩, by omega⟩
/-! what is left of a number of nodes -/
theorem specLeft (e : Ex) : ∀ (left : Int) b o w, 0 ≤ left ∧ left ≤ 1048576 → ExP w b o e → CallsR Try.prog 102 [.pointer (some ⟨b, o, none⟩), .int .i64 left] w fun v w' => v = .int .i64 (szV e.size left) ∧ Ext w w' := by
  induction e using Ex.ind with
  | h k n p c ks ih =>
  intro left b o w hl hx
  obtain ⟨cs0, hL0, hX0⟩ := hx
  obtain ⟨B, bap, rfl, hks⟩ := hX0.inv
  have hr := hks.1
  rw [Ex.size]
  refine CallsR.enter Try.func102 (by decide +kernel) rfl Try.ntmps102 rfl ?_
  repeat' (first
    | refine EL.f (FV.move rfl) rfl rfl ?_
    | refine EL.f (FV.assign rfl) rfl rfl ?_
    | refine EL.f (FV.subI rfl rfl (by omega)) rfl rfl ?_
    | refine EL.nil ?_
    | refine EW.seq ?_
    | refine EW.region ?_
    | refine EW.block ?_)
  refine EW.loop (X := Nat × Int) (fun y wr => y.1 ≤ ks.length ∧ (-1 ≤ y.2 ∧ y.2 ≤ 1048576) ∧ y.2 = szV (Ex.sizeL (ks.take y.1) + 1) left ∧ Ext w wr) (fun y => [(0, .pointer (some ⟨b, o, none⟩)), (1, .int .i64 y.2), (5, .int .i64 y.1)]) (fun y => ks.length - y.1) (0, left - 1) ⟨Nat.zero_le _, by dsimp only; omega, by simp [Ex.sizeL, szV]; omega, Ext.refl _⟩ ⟨rfl, rfl, rfl, trivial⟩ ?_
  rintro ⟨i, l⟩ wr ⟨hi, hb, he, hE⟩
  dsimp only at *
  have l4 := (hL0.ext hE) 4 _ rfl
  by_cases hlt : i < ks.length
  rotate_left
  · obtain rfl : i = ks.length := by omega
    rw [List.take_length] at he
    repeat' (first
      | (show EL _ _ _ _ (_ :: _) _ _
         first
         | (show EL _ _ _ _ (⟨_, _, _, _, _, some _⟩ :: _) _ _; refine EL.skip rfl rfl ?_)
         | (show EL _ _ _ _ (⟨_, .nilCheck _, _, _, _, _⟩ :: _) _ _; refine EL.f (FV.nilChk rfl) rfl rfl ?_)
         | (show EL _ _ _ _ (⟨_, .fieldAddr _ _ _, _, _, _, _⟩ :: _) _ _; refine EL.f (FV.fieldAddr rfl rfl rfl rfl rfl) rfl rfl ?_)
         | (show EL _ _ _ _ (⟨_, .load _ _, _, _, _, _⟩ :: _) _ _; refine EL.f (FV.load1 rfl rfl rfl (l4)) rfl rfl ?_)
         | (show EL _ _ _ _ (⟨_, .move _, _, _, _, _⟩ :: _) _ _; refine EL.f (FV.move rfl) rfl rfl ?_)
         | (show EL _ _ _ _ (⟨_, .assign _, _, _, _, _⟩ :: _) _ _; refine EL.f (FV.assign rfl) rfl rfl ?_)
         | (show EL _ _ _ _ (⟨_, .call _, _, _, _, _⟩ :: _) _ _; refine EL.f (FV.len rfl rfl) rfl rfl ?_)
         | (show EL _ _ _ _ (⟨_, .pick _ _ _, _, _, _, _⟩ :: _) _ _; refine EL.f (FV.pickF rfl rfl) rfl rfl ?_)
         | (show EL _ _ _ _ (⟨_, .binOp .lss _ _ _ _, _, _, _, _⟩ :: _) _ _; refine EL.fF (FV.lss rfl rfl) rfl (fun _ => rfl) (by omega) ?_))
      | refine EL.nil ?_
      | refine EW.seq ?_
      | refine EW.region ?_
      | refine EW.exit ?_
      | refine EW.ret ?_
      | refine EW.condF rfl ?_)
    exact ⟨_, rfl, by rw [← he], hE⟩
  have hsp := sizeL_split ks i
  by_cases h0 : 0 ≤ l
  rotate_left
  · have h1 : ¬ ((Ex.sizeL (ks.take i) + 1 : Nat) : Int) ≤ left := fun e => by rw [szV_le e] at he; omega
    have h2 : l = szV (Ex.sizeL ks + 1) left := by rw [szV_gt (by omega), he, szV_gt h1]
    repeat' (first
      | (show EL _ _ _ _ (_ :: _) _ _
         first
         | (show EL _ _ _ _ (⟨_, .nilCheck _, _, _, _, _⟩ :: _) _ _; refine EL.f (FV.nilChk rfl) rfl rfl ?_)
         | (show EL _ _ _ _ (⟨_, .fieldAddr _ _ _, _, _, _, _⟩ :: _) _ _; refine EL.f (FV.fieldAddr rfl rfl rfl rfl rfl) rfl rfl ?_)
         | (show EL _ _ _ _ (⟨_, .load _ _, _, _, _, _⟩ :: _) _ _; refine EL.f (FV.load1 rfl rfl rfl (l4)) rfl rfl ?_)
         | (show EL _ _ _ _ (⟨_, .move _, _, _, _, _⟩ :: _) _ _; refine EL.f (FV.move rfl) rfl rfl ?_)
         | (show EL _ _ _ _ (⟨_, .assign _, _, _, _, _⟩ :: _) _ _; refine EL.f (FV.assign rfl) rfl rfl ?_)
         | (show EL _ _ _ _ (⟨_, .call _, _, _, _, _⟩ :: _) _ _; refine EL.f (FV.len rfl rfl) rfl rfl ?_)
         | (show EL _ _ _ _ (⟨_, .pick _ _ _, _, _, _, _⟩ :: _) _ _; refine EL.f (FV.pickT rfl rfl) rfl rfl ?_)
         | (show EL _ _ _ _ (⟨_, .binOp .lss _ _ _ _, _, _, _, _⟩ :: _) _ _; refine EL.fT (FV.lss rfl rfl) rfl (fun _ => rfl) (by omega) ?_)
         | (show EL _ _ _ _ (⟨_, .binOp .geq _ _ _ _, _, _, _, _⟩ :: _) _ _; refine EL.fF (FV.geq rfl rfl) rfl (fun _ => rfl) (by omega) ?_))
      | refine EL.nil ?_
      | refine EW.seq ?_
      | refine EW.region ?_
      | refine EW.exit ?_
      | refine EW.ret ?_
      | refine EW.condF rfl ?_)
    exact ⟨_, rfl, by rw [← h2], hE⟩
  have h1 : ((Ex.sizeL (ks.take i) + 1 : Nat) : Int) ≤ left := by
    by_cases e : ((Ex.sizeL (ks.take i) + 1 : Nat) : Int) ≤ left
    · exact e
    · rw [szV_gt e] at he; omega
  rw [szV_le h1] at he
  obtain ⟨b1, o1, cs, rfl, hL, hX, hc⟩ := (hks.ext hE).kid hlt
  have hcall := ih i hlt l b1 (o1 + i * 5) wr ⟨h0, by omega⟩ ⟨cs, hL, hX⟩
  have hst := sizeL_take hlt
  rw [he, szV_add h1] at hcall
  rw [← he] at hcall
  repeat' (first
    | (show EL _ _ _ _ (_ :: _) _ _
       first
       | (show EL _ _ _ _ (⟨_, .nilCheck _, _, _, _, _⟩ :: _) _ _; refine EL.f (FV.nilChk rfl) rfl rfl ?_)
       | (show EL _ _ _ _ (⟨_, .fieldAddr _ _ _, _, _, _, _⟩ :: _) _ _; refine EL.f (FV.fieldAddr rfl rfl rfl rfl rfl) rfl rfl ?_)
       | (show EL _ _ _ _ (⟨_, .load _ _, _, _, _, _⟩ :: _) _ _; refine EL.f (FV.load1 rfl rfl rfl (l4)) rfl rfl ?_)
       | (show EL _ _ _ _ (⟨_, .indexAddr _ _ _, _, _, _, _⟩ :: _) _ _; refine EL.f (FV.idx rfl rfl rfl rfl (by omega) (by omega)) rfl rfl ?_)
       | (show EL _ _ _ _ (⟨_, .move _, _, _, _, _⟩ :: _) _ _; refine EL.f (FV.move rfl) rfl rfl ?_)
       | (show EL _ _ _ _ (⟨_, .call _, _, _, _, _⟩ :: _) _ _; refine EL.f (FV.len rfl rfl) rfl rfl ?_)
       | (show EL _ _ _ _ (⟨_, .pick _ _ _, _, _, _, _⟩ :: _) _ _; refine EL.f (FV.pickT rfl rfl) rfl rfl ?_)
       | (show EL _ _ _ _ (⟨_, .binOp .lss _ _ _ _, _, _, _, _⟩ :: _) _ _; refine EL.fT (FV.lss rfl rfl) rfl (fun _ => rfl) (by omega) ?_)
       | (show EL _ _ _ _ (⟨_, .binOp .geq _ _ _ _, _, _, _, _⟩ :: _) _ _; refine EL.fT (FV.geq rfl rfl) rfl (fun _ => rfl) (by omega) ?_))
    | refine EL.nil ?_
    | refine EW.seq ?_
    | refine EW.region ?_
    | refine EW.block ?_
    | refine EW.skip ?_
    | refine EW.condT rfl ?_)
  refine EL.h (Hv.call hcall rfl) rfl (fun _ => rfl) ?_
  rintro _ w1 ⟨rfl, he1⟩
  repeat' (first
    | refine EL.f (FV.move rfl) rfl rfl ?_
    | refine EL.f (FV.assign rfl) rfl rfl ?_
    | refine EL.f (FV.addI rfl rfl (by omega)) rfl rfl ?_
    | refine EL.nil ?_
    | refine EW.region ?_)
  have hq : szV (Ex.sizeL (ks.take i) + 1 + (ks.getD i dEx).size) left = szV (Ex.sizeL (ks.take (i + 1)) + 1) left := by rw [hst]; congr 1; omega
  refine ⟨(i + 1, szV (Ex.sizeL (ks.take i) + 1 + (ks.getD i dEx).size) left), ⟨rfl, rfl, rfl, trivial⟩, ⟨by dsimp only; omega, ?_, hq, hE.trans he1⟩, by dsimp only; omega⟩
  dsimp only
  unfold szV
  split <;> omega
set_option maxHeartbeats 4000000 in
theorem specExpr (fs : List Fu) (e : Ex) (hs : e.size ≤ 1048577) (pb po b o : Nat) (vars funcs : Int) (w : World) (hp : PrP w pb po fs) (hy : ExP w b o e) : CallsR Try.prog 103 [.pointer (some ⟨pb, po, none⟩), .pointer (some ⟨b, o, none⟩), .int .i64 vars, .int .i64 funcs] w fun v w' => v = .bool (validE fs e vars funcs) ∧ Ext w w' := by
  have hp' := hp
  obtain ⟨A, cap, hP0, hfs⟩ := hp'
  have hge := hfs.1
  have hdl := depth_le e
  have p0 := hP0 0 _ rfl
  rw [fit_validE]
  refine CallsR.enter Try.func103 (by decide +kernel) rfl Try.ntmps103 rfl ?_
  by_cases q1 : 0 ≤ vars ∧ vars ≤ 412
  rotate_left
  · have i1 : inB vars 0 412 = false := by unfold inB; exact decide_eq_false q1
    rw [i1]
    repeat' (first
      | (show EL _ _ _ _ (_ :: _) _ _
         first
         | (show EL _ _ _ _ (⟨_, _, _, _, _, some _⟩ :: _) _ _; refine EL.skip rfl rfl ?_)
         | (show EL _ _ _ _ (⟨_, .call _, _, _, _, _⟩ :: _) _ _; (refine EL.h (Hv.call (specVars _ _) rfl) rfl (fun _ => rfl) ?_; rintro _ _ ⟨rfl, rfl⟩; rw [i1]))
         | (show EL _ _ _ _ (⟨_, .move _, _, _, _, _⟩ :: _) _ _; refine EL.f (FV.move rfl) rfl rfl ?_)
         | (show EL _ _ _ _ (⟨_, .assign _, _, _, _, _⟩ :: _) _ _; refine EL.f (FV.assign rfl) rfl rfl ?_)
         | (show EL _ _ _ _ (⟨_, .pick _ _ _, _, _, _, _⟩ :: _) _ _; refine EL.f (FV.pickF rfl rfl) rfl rfl ?_))
      | refine EL.nil ?_
      | refine EW.seq ?_
      | refine EW.region ?_
      | refine EW.ret ?_)
    exact ⟨_, rfl, rfl, Ext.refl _⟩
  have i1 : inB vars 0 412 = true := inB_iff.2 q1
  rw [i1]
  by_cases q2 : 0 ≤ funcs ∧ funcs ≤ fs.length
  rotate_left
  · have i2 : inB funcs 0 fs.length = false := by unfold inB; exact decide_eq_false q2
    rw [i2]
    repeat' (first
      | (show EL _ _ _ _ (_ :: _) _ _
         first
         | (show EL _ _ _ _ (⟨_, _, _, _, _, some _⟩ :: _) _ _; refine EL.skip rfl rfl ?_)
         | (show EL _ _ _ _ (⟨_, .nilCheck _, _, _, _, _⟩ :: _) _ _; refine EL.f (FV.nilChk rfl) rfl rfl ?_)
         | (show EL _ _ _ _ (⟨_, .fieldAddr _ _ _, _, _, _, _⟩ :: _) _ _; refine EL.f (FV.fieldAddr rfl rfl rfl rfl rfl) rfl rfl ?_)
         | (show EL _ _ _ _ (⟨_, .load _ _, _, _, _, _⟩ :: _) _ _; refine EL.f (FV.load1 rfl rfl rfl (p0)) rfl rfl ?_)
         | (show EL _ _ _ _ (⟨_, .call _, _, _, _, _⟩ :: _) _ _; first | (refine EL.h (Hv.call (specVars _ _) rfl) rfl (fun _ => rfl) ?_; rintro _ _ ⟨rfl, rfl⟩; rw [i1]) | (refine EL.h (Hv.call (specInR i2 _) rfl) rfl (fun _ => rfl) ?_; rintro _ _ ⟨rfl, rfl⟩) | refine EL.f (FV.len rfl rfl) rfl rfl ?_)
         | (show EL _ _ _ _ (⟨_, .move _, _, _, _, _⟩ :: _) _ _; refine EL.f (FV.move rfl) rfl rfl ?_)
         | (show EL _ _ _ _ (⟨_, .assign _, _, _, _, _⟩ :: _) _ _; refine EL.f (FV.assign rfl) rfl rfl ?_)
         | (show EL _ _ _ _ (⟨_, .pick _ _ _, _, _, _, _⟩ :: _) _ _; first | refine EL.f (FV.pickT rfl rfl) rfl rfl ?_ | refine EL.f (FV.pickF rfl rfl) rfl rfl ?_))
      | refine EL.nil ?_
      | refine EW.seq ?_
      | refine EW.region ?_
      | refine EW.ret ?_)
    exact ⟨_, rfl, rfl, Ext.refl _⟩
  have i2 : inB funcs 0 fs.length = true := inB_iff.2 q2
  rw [i2]
  repeat' (first
    | (show EL _ _ _ _ (_ :: _) _ _
       first
       | (show EL _ _ _ _ (⟨_, .nilCheck _, _, _, _, _⟩ :: _) _ _; refine EL.f (FV.nilChk rfl) rfl rfl ?_)
       | (show EL _ _ _ _ (⟨_, .fieldAddr _ _ _, _, _, _, _⟩ :: _) _ _; refine EL.f (FV.fieldAddr rfl rfl rfl rfl rfl) rfl rfl ?_)
       | (show EL _ _ _ _ (⟨_, .load _ _, _, _, _, _⟩ :: _) _ _; refine EL.f (FV.load1 rfl rfl rfl (p0)) rfl rfl ?_)
       | (show EL _ _ _ _ (⟨_, .call _, _, _, _, _⟩ :: _) _ _; first | (refine EL.h (Hv.call (specVars _ _) rfl) rfl (fun _ => rfl) ?_; rintro _ _ ⟨rfl, rfl⟩; rw [i1]) | (refine EL.h (Hv.call (specInR i2 _) rfl) rfl (fun _ => rfl) ?_; rintro _ _ ⟨rfl, rfl⟩) | refine EL.f (FV.len rfl rfl) rfl rfl ?_)
       | (show EL _ _ _ _ (⟨_, .move _, _, _, _, _⟩ :: _) _ _; refine EL.f (FV.move rfl) rfl rfl ?_)
       | (show EL _ _ _ _ (⟨_, .assign _, _, _, _, _⟩ :: _) _ _; refine EL.f (FV.assign rfl) rfl rfl ?_)
       | (show EL _ _ _ _ (⟨_, .pick _ _ _, _, _, _, _⟩ :: _) _ _; refine EL.f (FV.pickT rfl rfl) rfl rfl ?_))
    | refine EL.nil ?_
    | refine EW.seq ?_
    | refine EW.region ?_)
  refine EL.h (Hv.call (specLeft e 400 b o w (by omega) hy) rfl) rfl (fun _ => rfl) ?_
  rintro _ w3 ⟨rfl, he3⟩
  by_cases q3 : e.size ≤ 400
  rotate_left
  · rw [decide_eq_false q3, szV_gt (by omega)]
    repeat' (first
      | (show EL _ _ _ _ (_ :: _) _ _
         first
         | (show EL _ _ _ _ (⟨_, _, _, _, _, some _⟩ :: _) _ _; refine EL.skip rfl rfl ?_)
         | (show EL _ _ _ _ (⟨_, .move _, _, _, _, _⟩ :: _) _ _; refine EL.f (FV.move rfl) rfl rfl ?_)
         | (show EL _ _ _ _ (⟨_, .assign _, _, _, _, _⟩ :: _) _ _; refine EL.f (FV.assign rfl) rfl rfl ?_)
         | (show EL _ _ _ _ (⟨_, .pick _ _ _, _, _, _, _⟩ :: _) _ _; first | refine EL.f (FV.pickT rfl rfl) rfl rfl ?_ | refine EL.f (FV.pickF rfl rfl) rfl rfl ?_)
         | (show EL _ _ _ _ (⟨_, .binOp .geq _ _ _ _, _, _, _, _⟩ :: _) _ _; refine EL.fF (FV.geq rfl rfl) rfl (fun _ => rfl) (by omega) ?_))
      | refine EL.nil ?_
      | refine EW.ret ?_)
    exact ⟨_, rfl, rfl, he3⟩
  rw [decide_eq_true q3, szV_le (by omega)]
  repeat' (first
    | refine EL.f (FV.move rfl) rfl rfl ?_
    | refine EL.f (FV.pickT rfl rfl) rfl rfl ?_
    | refine EL.fT (FV.geq rfl rfl) rfl (fun _ => rfl) (by omega) ?_)
  refine EL.h (Hv.call (specDepth e hs b o w3 (hy.ext he3)) rfl) rfl (fun _ => rfl) ?_
  rintro _ w4 ⟨rfl, he4⟩
  have hw4 := he3.trans he4
  by_cases q4 : e.depth ≤ 60
  rotate_left
  · rw [decide_eq_false q4]
    repeat' (first
      | (show EL _ _ _ _ (_ :: _) _ _
         first
         | (show EL _ _ _ _ (⟨_, _, _, _, _, some _⟩ :: _) _ _; refine EL.skip rfl rfl ?_)
         | (show EL _ _ _ _ (⟨_, .move _, _, _, _, _⟩ :: _) _ _; refine EL.f (FV.move rfl) rfl rfl ?_)
         | (show EL _ _ _ _ (⟨_, .assign _, _, _, _, _⟩ :: _) _ _; refine EL.f (FV.assign rfl) rfl rfl ?_)
         | (show EL _ _ _ _ (⟨_, .pick _ _ _, _, _, _, _⟩ :: _) _ _; first | refine EL.f (FV.pickT rfl rfl) rfl rfl ?_ | refine EL.f (FV.pickF rfl rfl) rfl rfl ?_)
         | (show EL _ _ _ _ (⟨_, .binOp .leq _ _ _ _, _, _, _, _⟩ :: _) _ _; refine EL.fF (FV.leq rfl rfl) rfl (fun _ => rfl) (by omega) ?_))
      | refine EL.nil ?_
      | refine EW.ret ?_)
    exact ⟨_, rfl, rfl, hw4⟩
  rw [decide_eq_true q4]
  repeat' (first
    | refine EL.f (FV.move rfl) rfl rfl ?_
    | refine EL.f (FV.pickT rfl rfl) rfl rfl ?_
    | refine EL.fT (FV.leq rfl rfl) rfl (fun _ => rfl) (by omega) ?_)
  refine EL.h (Hv.call (specTree fs pb po funcs q2 e vars b o w4 (by omega) (by omega) (hp.ext hw4) (hy.ext hw4)) rfl) rfl (fun _ => rfl) ?_
  rintro _ w5 ⟨rfl, he5⟩
  repeat' (first
    | refine EL.f (FV.assign rfl) rfl rfl ?_
    | refine EL.f (FV.pickT rfl rfl) rfl rfl ?_
    | refine EL.nil ?_
    | refine EW.ret ?_)
  exact ⟨_, rfl, rfl, hw4.trans he5⟩
theorem implValidEV (q : Pr) (e : Ex) (hs : e.size ≤ 1048577) (qs cs : List Value) (vars funcs : Int) (w : World) (hx : PrB w 0 qs q) (hy : ExB w 0 cs e) : CallsR Try.prog 88 [.agg qs.toArray, .agg cs.toArray, .int .i64 vars, .int .i64 funcs] w fun v w' => v = .bool (validE q.funcs e vars funcs) ∧ Ext w w' := by
  obtain ⟨A, cap, rfl, hfs, _⟩ := hx
  exact implValidE q.funcs e hs A cap cs vars funcs w hfs hy
end Eng
end Go.Proofs.Ytgahkbcfjibjaaa
