/- VariablesOf: the contracts of both sides. Conditions: the number of nodes. -/
import Derived.Test.YtgahkbcfjibjaaaEb
import Derived.Test.YtgahkbcfjibjaaaVfp
import Derived.Test.YtgahkbcfjibjaaaMtg
namespace Go.Proofs.Ytgahkbcfjibjaaa
open Go Go.RowKit
namespace Eng
theorem OwnI.block {w : World} {B : Nat} {v : Value} {xs : List Int} (h : OwnI B w v xs) {k : Nat} (hk : some k ∈ [v.ownBlock]) : B ≤ k ∧ k < w.heap.size := own_block h (by simpa using (List.mem_singleton.1 hk).symm)
theorem Only.bothV {a b c : World} {x : Option Nat} (h : Only [x] a b) (k : Only [x] b c) : Only [x] a c := (h.trans k).mono fun y hy => by simpa using hy
theorem Only.foreV {a b c : World} {x : Option Nat} (h : Only [x] a b) (k : Ext b c) : Only [x] a c := (h.trans (Only.ext k)).mono fun y hy => by simpa using hy
theorem Only.weakV {a b : World} {x : Option Nat} (h : Ext a b) : Only [x] a b := (Only.ext h).mono fun y hy => by cases hy
theorem Only.afterV {a b c : World} {m : Nat} (h : Ext a b) (k : Only [some m] b c) (hm : a.heap.size ≤ m) : Ext a c := Only.after h k fun j hj => by simp at hj; omega
def inBV (x a b : Int) : Bool := decide (a ≤ x ∧ x ≤ b)
theorem implWithinV (x a b : Int) (w : World) : CallsR Try.prog 38 [.int .i64 x, .int .i64 a, .int .i64 b] w fun v w' => v = .bool (inBV x a b) ∧ w = w' := by
  refine CallsR.enter Try.func38 (by decide +kernel) rfl Try.ntmps38 rfl ?_
  unfold inBV
  repeat' (first
    | (show EL _ _ _ _ (_ :: _) _ _
       first
       | (show EL _ _ _ _ (⟨_, _, _, _, _, some _⟩ :: _) _ _; refine EL.skip rfl rfl ?_)
       | (show EL _ _ _ _ (⟨_, .move _, _, _, _, _⟩ :: _) _ _; refine EL.f (FV.move rfl) rfl rfl ?_)
       | (show EL _ _ _ _ (⟨_, .assign _, _, _, _, _⟩ :: _) _ _; refine EL.f (FV.assign rfl) rfl rfl ?_)
       | (show EL _ _ _ _ (⟨_, .pick _ _ _, _, _, _, _⟩ :: _) _ _; first | refine EL.f (FV.pickT rfl rfl) rfl rfl ?_ | refine EL.f (FV.pickF rfl rfl) rfl rfl ?_)
       | (show EL _ _ _ _ (⟨_, .binOp .leq _ _ _ _, _, _, _, _⟩ :: _) _ _; refine EL.fS (FV.leq rfl rfl) rfl (fun _ => rfl) (fun _ => ?_) (fun _ => ?_))
       | (show EL _ _ _ _ (⟨_, .binOp .geq _ _ _ _, _, _, _, _⟩ :: _) _ _; refine EL.fS (FV.geq rfl rfl) rfl (fun _ => rfl) (fun _ => ?_) (fun _ => ?_)))
    | refine EL.nil ?_
    | refine EW.seq ?_
    | refine EW.region ?_
    | refine EW.ret ?_)
  all_goals first
    | exact ⟨_, rfl, by rw [decide_eq_true]; omega, rfl⟩
    | exact ⟨_, rfl, by rw [decide_eq_false]; omega, rfl⟩
theorem specInV (x a b : Int) (w : World) : CallsR Try.prog 31 [.int .i64 x, .int .i64 a, .int .i64 b] w fun v w' => v = .bool (inBV x a b) ∧ w = w' := by
  refine CallsR.enter Try.func31 (by decide +kernel) rfl Try.ntmps31 rfl ?_
  unfold inBV
  repeat' (first
    | (show EL _ _ _ _ (_ :: _) _ _
       first
       | (show EL _ _ _ _ (⟨_, _, _, _, _, some _⟩ :: _) _ _; refine EL.skip rfl rfl ?_)
       | (show EL _ _ _ _ (⟨_, .move _, _, _, _, _⟩ :: _) _ _; refine EL.f (FV.move rfl) rfl rfl ?_)
       | (show EL _ _ _ _ (⟨_, .assign _, _, _, _, _⟩ :: _) _ _; refine EL.f (FV.assign rfl) rfl rfl ?_)
       | (show EL _ _ _ _ (⟨_, .pick _ _ _, _, _, _, _⟩ :: _) _ _; first | refine EL.f (FV.pickT rfl rfl) rfl rfl ?_ | refine EL.f (FV.pickF rfl rfl) rfl rfl ?_)
       | (show EL _ _ _ _ (⟨_, .binOp .leq _ _ _ _, _, _, _, _⟩ :: _) _ _; refine EL.fS (FV.leq rfl rfl) rfl (fun _ => rfl) (fun _ => ?_) (fun _ => ?_))
       | (show EL _ _ _ _ (⟨_, .binOp .geq _ _ _ _, _, _, _, _⟩ :: _) _ _; refine EL.fS (FV.geq rfl rfl) rfl (fun _ => rfl) (fun _ => ?_) (fun _ => ?_)))
    | refine EL.nil ?_
    | refine EW.seq ?_
    | refine EW.region ?_
    | refine EW.ret ?_)
  all_goals first
    | exact ⟨_, rfl, by rw [decide_eq_true]; omega, rfl⟩
    | exact ⟨_, rfl, by rw [decide_eq_false]; omega, rfl⟩
theorem implWithinVR {x a b : Int} {r : Bool} (h : inBV x a b = r) (w : World) : CallsR Try.prog 38 [.int .i64 x, .int .i64 a, .int .i64 b] w fun v w' => v = .bool r ∧ w = w' := h ▸ implWithinV x a b w
theorem specInVR {x a b : Int} {r : Bool} (h : inBV x a b = r) (w : World) : CallsR Try.prog 31 [.int .i64 x, .int .i64 a, .int .i64 b] w fun v w' => v = .bool r ∧ w = w' := h ▸ specInV x a b w
theorem implVarsV (x : Int) (w : World) : CallsR Try.prog 57 [.int .i64 x] w fun v w' => v = .bool (inBV x 0 412) ∧ w = w' := by
  refine CallsR.enter Try.func57 (by decide +kernel) rfl Try.ntmps57 rfl ?_
  repeat' (first
    | (refine EL.h (Hv.call (implWithinV _ _ _ _) rfl) rfl (fun _ => rfl) ?_; rintro _ _ ⟨rfl, rfl⟩)
    | refine EL.f (FV.move rfl) rfl rfl ?_
    | refine EL.f (FV.assign rfl) rfl rfl ?_
    | refine EL.nil ?_
    | refine EW.seq ?_
    | refine EW.region ?_
    | refine EW.ret ?_)
  exact ⟨_, rfl, rfl, rfl⟩
theorem specVarsV (x : Int) (w : World) : CallsR Try.prog 54 [.int .i64 x] w fun v w' => v = .bool (inBV x 0 412) ∧ w = w' := by
  refine CallsR.enter Try.func54 (by decide +kernel) rfl Try.ntmps54 rfl ?_
  repeat' (first
    | (refine EL.h (Hv.call (specInV _ _ _ _) rfl) rfl (fun _ => rfl) ?_; rintro _ _ ⟨rfl, rfl⟩)
    | refine EL.f (FV.move rfl) rfl rfl ?_
    | refine EL.f (FV.assign rfl) rfl rfl ?_
    | refine EL.nil ?_
    | refine EW.seq ?_
    | refine EW.region ?_
    | refine EW.ret ?_)
  exact ⟨_, rfl, rfl, rfl⟩
def accV (k n vars : Int) (acc : List Int) : List Int := if k = 2 ∧ n < vars then putR n acc else acc
theorem accV_length (k n vars : Int) (acc : List Int) : (accV k n vars acc).length ≤ acc.length + 1 := by
  unfold accV
  split
  · exact putR_length
  · omega
theorem free_out {vars k n p c now : Int} {ks : List Ex} {acc : List Int} (h : k = 2 ∧ ¬ (0 ≤ n ∧ n ≤ now - 1)) : Ex.free vars (.node k n p c ks) now acc = (acc, false) := by rw [Ex.free, if_pos h]
theorem free_let {vars k n p c now : Int} {ks : List Ex} {acc : List Int} (h : ¬ (k = 2 ∧ ¬ (0 ≤ n ∧ n ≤ now - 1))) (h2 : k = 9 ∧ ¬ ks.length = 2) : Ex.free vars (.node k n p c ks) now acc = (accV k n vars acc, false) := by rw [Ex.free, if_neg h, if_pos h2]; rfl
theorem free_in {vars k n p c now : Int} {ks : List Ex} {acc : List Int} (h : ¬ (k = 2 ∧ ¬ (0 ≤ n ∧ n ≤ now - 1))) (h2 : ¬ (k = 9 ∧ ¬ ks.length = 2)) : Ex.free vars (.node k n p c ks) now acc = Ex.freeL vars k 0 ks now (accV k n vars acc) := by rw [Ex.free, if_neg h, if_neg h2]; rfl
theorem freeL_next {vars k now : Int} {ks : List Ex} {acc : List Int} {i : Nat} (hi : i < ks.length) (h : (Ex.freeL vars k 0 (ks.take i) now acc).2 = true) : Ex.freeL vars k 0 (ks.take (i + 1)) now acc = Ex.free vars (ks.getD i dEx) (ownV k i now) (Ex.freeL vars k 0 (ks.take i) now acc).1 := by
  rw [take_next (d := dEx) hi, freeL_snoc h, List.length_take, Nat.min_eq_left (by omega), Nat.zero_add]
theorem freeL_bad {vars k now : Int} {ks : List Ex} {acc : List Int} {i : Nat} (h : (Ex.freeL vars k 0 (ks.take i) now acc).2 = false) : Ex.freeL vars k 0 ks now acc = Ex.freeL vars k 0 (ks.take i) now acc := by
  have := freeL_fail (ys := ks.drop i) h
  rwa [List.take_append_drop] at this
set_option maxHeartbeats 16000000 in
theorem implVariables (vars : Int) (m : Nat) (w0 : World) (hm0 : w0.heap.size ≤ m) (_hv : 0 ≤ vars ∧ vars ≤ 412) (e : Ex) : ∀ now acc ks cs w, e.size ≤ 1048577 → 0 ≤ now ∧ now + (e.size : Int) ≤ 10000000 → ExB w0 0 cs e → Ext w0 w → SetAt w m ks → (∀ x, x ∈ ks ↔ x ∈ acc) → ks.length + e.size ≤ 1048577 →
    CallsR Try.prog 58 [.agg cs.toArray, .int .i64 now, .int .i64 vars, .map (some m)] w fun v w' => ∃ ks', v = .bool (e.free vars now acc).2 ∧ (SetAt w' m ks' ∧ ks'.length ≤ ks.length + e.size ∧ ((e.free vars now acc).2 = true → ∀ x, x ∈ ks' ↔ x ∈ (e.free vars now acc).1)) ∧ Only [some m] w w' := by
  induction e using Ex.ind with
  | h k n p c es ih =>
  intro now acc ks cs w hs hnow hx hE0 hS hmem hkl
  have hge := sizeL_ge es
  simp only [Ex.size] at hs hnow hkl
  obtain ⟨B, bap, rfl, hks⟩ := hx.inv
  have hr := hks.1
  refine CallsR.enter Try.func58 (by decide +kernel) rfl Try.ntmps58 rfl ?_
  repeat' (first
    | refine EW.seq ?_
    | refine EW.region ?_)
  refine EL.h (Hv.boxA (sz := 5) rfl rfl) rfl (fun _ => rfl) ?_
  rintro _ w1 ⟨g1, rfl, hg1, hb, he1⟩
  have hS1 := hS.ext he1
  have hmg := hS1.apart hb
  refine EL.f (FV.assign rfl) rfl rfl ?_
  refine EL.nil ?_
  refine EW.seqR (K := fun ρ' w' => Sub [(1, .int .i64 now), (2, .int .i64 vars), (3, .map (some m)), (4, .pointer (some ⟨g1, 0, none⟩))] ρ' ∧ (∃ ks1, (SetAt w' m ks1 ∧ ks1.length ≤ ks.length + 1 ∧ ∀ x, x ∈ ks1 ↔ x ∈ accV k n vars acc)) ∧ Only [some m] w1 w' ∧ ¬ (k = 2 ∧ ¬ (0 ≤ n ∧ n ≤ now - 1))) ?_ ?_
  · by_cases k2 : k = 2
    · by_cases hin : 0 ≤ n ∧ n ≤ now - 1
      · have i1 : inBV n 0 (now - 1) = true := decide_eq_true hin
        by_cases hlt : n < vars
        · repeat' (first
            | (show EL _ _ _ _ (_ :: _) _ _
               first
               | (show EL _ _ _ _ (⟨_, .fieldAddr _ _ _, _, _, _, _⟩ :: _) _ _; refine EL.f (FV.fieldAddr rfl rfl rfl rfl rfl) rfl rfl ?_)
               | (show EL _ _ _ _ (⟨_, .load _ _, _, _, _, _⟩ :: _) _ _; refine EL.f (FV.load1 rfl rfl rfl (At.cell hb rfl)) rfl rfl ?_)
               | (show EL _ _ _ _ (⟨_, .call _, _, _, _, _⟩ :: _) _ _; (refine EL.h (Hv.call (implWithinVR i1 _) rfl) rfl (fun _ => rfl) ?_; rintro _ _ ⟨rfl, rfl⟩))
               | (show EL _ _ _ _ (⟨_, .move _, _, _, _, _⟩ :: _) _ _; refine EL.f (FV.move rfl) rfl rfl ?_)
               | (show EL _ _ _ _ (⟨_, .binOp .sub _ _ _ _, _, _, _, _⟩ :: _) _ _; refine EL.f (FV.subI rfl rfl (by omega)) rfl rfl ?_)
               | (show EL _ _ _ _ (⟨_, .unOp .not _ _, _, _, _, _⟩ :: _) _ _; refine EL.f (FV.not rfl) rfl rfl ?_)
               | (show EL _ _ _ _ (⟨_, .binOp .lss _ _ _ _, _, _, _, _⟩ :: _) _ _; refine EL.fT (FV.lss rfl rfl) rfl (fun _ => rfl) (by omega) ?_)
               | (show EL _ _ _ _ (⟨_, .binOp .eql _ _ _ _, _, _, _, _⟩ :: _) _ _; refine EL.fT (FV.eql rfl rfl) rfl (fun _ => rfl) (by omega) ?_))
            | refine EL.nil ?_
            | refine EW.seq ?_
            | refine EW.region ?_
            | refine EW.skip ?_
            | refine EW.condT rfl ?_
            | refine EW.condF rfl ?_)
          refine EL.h (Hv.putS rfl rfl rfl hS1) rfl (fun _ => rfl) ?_
          rintro _ w2 ⟨hS2, hg2⟩
          repeat' (first
            | refine EL.nil ?_)
          refine ⟨⟨rfl, rfl, rfl, rfl, trivial⟩, ⟨_, hS2, ?_, fun x => ?_⟩, Only.one hg2, fun q => q.2 hin⟩
          · unfold addS
            split
            · omega
            · rw [List.length_append, List.length_singleton]; omega
          · rw [mem_addS, hmem, accV, if_pos ⟨k2, hlt⟩, mem_putR]
        · repeat' (first
            | (show EL _ _ _ _ (_ :: _) _ _
               first
               | (show EL _ _ _ _ (⟨_, .fieldAddr _ _ _, _, _, _, _⟩ :: _) _ _; refine EL.f (FV.fieldAddr rfl rfl rfl rfl rfl) rfl rfl ?_)
               | (show EL _ _ _ _ (⟨_, .load _ _, _, _, _, _⟩ :: _) _ _; refine EL.f (FV.load1 rfl rfl rfl (At.cell hb rfl)) rfl rfl ?_)
               | (show EL _ _ _ _ (⟨_, .call _, _, _, _, _⟩ :: _) _ _; (refine EL.h (Hv.call (implWithinVR i1 _) rfl) rfl (fun _ => rfl) ?_; rintro _ _ ⟨rfl, rfl⟩))
               | (show EL _ _ _ _ (⟨_, .move _, _, _, _, _⟩ :: _) _ _; refine EL.f (FV.move rfl) rfl rfl ?_)
               | (show EL _ _ _ _ (⟨_, .binOp .sub _ _ _ _, _, _, _, _⟩ :: _) _ _; refine EL.f (FV.subI rfl rfl (by omega)) rfl rfl ?_)
               | (show EL _ _ _ _ (⟨_, .unOp .not _ _, _, _, _, _⟩ :: _) _ _; refine EL.f (FV.not rfl) rfl rfl ?_)
               | (show EL _ _ _ _ (⟨_, .binOp .eql _ _ _ _, _, _, _, _⟩ :: _) _ _; refine EL.fT (FV.eql rfl rfl) rfl (fun _ => rfl) (by omega) ?_)
               | (show EL _ _ _ _ (⟨_, .binOp .lss _ _ _ _, _, _, _, _⟩ :: _) _ _; refine EL.fF (FV.lss rfl rfl) rfl (fun _ => rfl) (by omega) ?_))
            | refine EL.nil ?_
            | refine EW.seq ?_
            | refine EW.region ?_
            | refine EW.skip ?_
            | refine EW.condT rfl ?_
            | refine EW.condF rfl ?_)
          exact ⟨⟨rfl, rfl, rfl, rfl, trivial⟩, ⟨ks, hS1, by omega, fun x => by rw [hmem, accV, if_neg (fun q => hlt q.2)]⟩, Only.weakV (Ext.refl _), fun q => q.2 hin⟩
      · have i1 : inBV n 0 (now - 1) = false := decide_eq_false hin
        repeat' (first
          | (show EL _ _ _ _ (_ :: _) _ _
             first
             | (show EL _ _ _ _ (⟨_, .fieldAddr _ _ _, _, _, _, _⟩ :: _) _ _; refine EL.f (FV.fieldAddr rfl rfl rfl rfl rfl) rfl rfl ?_)
             | (show EL _ _ _ _ (⟨_, .load _ _, _, _, _, _⟩ :: _) _ _; refine EL.f (FV.load1 rfl rfl rfl (At.cell hb rfl)) rfl rfl ?_)
             | (show EL _ _ _ _ (⟨_, .call _, _, _, _, _⟩ :: _) _ _; (refine EL.h (Hv.call (implWithinVR i1 _) rfl) rfl (fun _ => rfl) ?_; rintro _ _ ⟨rfl, rfl⟩))
             | (show EL _ _ _ _ (⟨_, .move _, _, _, _, _⟩ :: _) _ _; refine EL.f (FV.move rfl) rfl rfl ?_)
             | (show EL _ _ _ _ (⟨_, .assign _, _, _, _, _⟩ :: _) _ _; refine EL.f (FV.assign rfl) rfl rfl ?_)
             | (show EL _ _ _ _ (⟨_, .binOp .sub _ _ _ _, _, _, _, _⟩ :: _) _ _; refine EL.f (FV.subI rfl rfl (by omega)) rfl rfl ?_)
             | (show EL _ _ _ _ (⟨_, .unOp .not _ _, _, _, _, _⟩ :: _) _ _; refine EL.f (FV.not rfl) rfl rfl ?_)
             | (show EL _ _ _ _ (⟨_, .binOp .eql _ _ _ _, _, _, _, _⟩ :: _) _ _; refine EL.fT (FV.eql rfl rfl) rfl (fun _ => rfl) (by omega) ?_))
          | refine EL.nil ?_
          | refine EW.seq ?_
          | refine EW.region ?_
          | refine EW.ret ?_
          | refine EW.condT rfl ?_)
        exact ⟨_, rfl, ks, by rw [free_out ⟨k2, hin⟩], ⟨hS1, by omega, by rw [free_out ⟨k2, hin⟩]; intro q; cases q⟩, Only.weakV he1⟩
    · repeat' (first
        | refine EL.f (FV.fieldAddr rfl rfl rfl rfl rfl) rfl rfl ?_
        | refine EL.f (FV.load1 rfl rfl rfl (At.cell hb rfl)) rfl rfl ?_
        | refine EL.fF (FV.eql rfl rfl) rfl (fun _ => rfl) (by omega) ?_
        | refine EL.nil ?_
        | refine EW.seq ?_
        | refine EW.region ?_
        | refine EW.skip ?_
        | refine EW.condF rfl ?_)
      exact ⟨⟨rfl, rfl, rfl, rfl, trivial⟩, ⟨ks, hS1, by omega, fun x => by rw [hmem, accV, if_neg (fun q => k2 q.1)]⟩, Only.weakV (Ext.refl _), fun q => k2 q.1⟩
  rintro ρ' w2 ⟨hsub, ⟨ks1, hS2, hk1, hm1⟩, hO2, hno⟩
  refine EW.weaken ?_ hsub
  have hb2 := At.only hb hO2 (by simp; exact fun e => hmg e.symm)
  have hO02 : Only [some m] w w2 := Only.bothV (Only.weakV he1) hO2
  by_cases hlet : k = 9 ∧ ¬ es.length = 2
  · obtain ⟨k9, hl2⟩ := hlet
    repeat' (first
      | (show EL _ _ _ _ (_ :: _) _ _
         first
         | (show EL _ _ _ _ (⟨_, .fieldAddr _ _ _, _, _, _, _⟩ :: _) _ _; refine EL.f (FV.fieldAddr rfl rfl rfl rfl rfl) rfl rfl ?_)
         | (show EL _ _ _ _ (⟨_, .load _ _, _, _, _, _⟩ :: _) _ _; refine EL.f (FV.load1 rfl rfl rfl (At.cell hb2 rfl)) rfl rfl ?_)
         | (show EL _ _ _ _ (⟨_, .move _, _, _, _, _⟩ :: _) _ _; refine EL.f (FV.move rfl) rfl rfl ?_)
         | (show EL _ _ _ _ (⟨_, .assign _, _, _, _, _⟩ :: _) _ _; refine EL.f (FV.assign rfl) rfl rfl ?_)
         | (show EL _ _ _ _ (⟨_, .call _, _, _, _, _⟩ :: _) _ _; refine EL.f (FV.len rfl rfl) rfl rfl ?_)
         | (show EL _ _ _ _ (⟨_, .pick _ _ _, _, _, _, _⟩ :: _) _ _; refine EL.f (FV.pickT rfl rfl) rfl rfl ?_)
         | (show EL _ _ _ _ (⟨_, .binOp .eql _ _ _ _, _, _, _, _⟩ :: _) _ _; refine EL.fT (FV.eql rfl rfl) rfl (fun _ => rfl) (by omega) ?_)
         | (show EL _ _ _ _ (⟨_, .binOp .neq _ _ _ _, _, _, _, _⟩ :: _) _ _; refine EL.fT (FV.neq rfl rfl) rfl (fun _ => rfl) (by omega) ?_))
      | refine EL.nil ?_
      | refine EW.seq ?_
      | refine EW.region ?_
      | refine EW.ret ?_
      | refine EW.condT rfl ?_)
    exact ⟨_, rfl, ks1, by rw [free_let hno ⟨k9, hl2⟩], ⟨hS2, by simp only [Ex.size]; omega, by rw [free_let hno ⟨k9, hl2⟩]; intro q; cases q⟩, hO02⟩
  rw [free_in hno hlet]
  have hsz1 : ks1.length + Ex.sizeL es ≤ 1048577 := by omega
  generalize accV k n vars acc = a1 at *


  by_cases k9 : k = 9
  · have l2 : es.length = 2 := by
      by_cases q : es.length = 2
      · exact q
      · exact absurd ⟨k9, q⟩ hlet
    repeat' (first
      | (show EL _ _ _ _ (_ :: _) _ _
         first
         | (show EL _ _ _ _ (⟨_, .fieldAddr _ _ _, _, _, _, _⟩ :: _) _ _; refine EL.f (FV.fieldAddr rfl rfl rfl rfl rfl) rfl rfl ?_)
         | (show EL _ _ _ _ (⟨_, .load _ _, _, _, _, _⟩ :: _) _ _; refine EL.f (FV.load1 rfl rfl rfl (At.cell hb2 rfl)) rfl rfl ?_)
         | (show EL _ _ _ _ (⟨_, .move _, _, _, _, _⟩ :: _) _ _; refine EL.f (FV.move rfl) rfl rfl ?_)
         | (show EL _ _ _ _ (⟨_, .call _, _, _, _, _⟩ :: _) _ _; refine EL.f (FV.len rfl rfl) rfl rfl ?_)
         | (show EL _ _ _ _ (⟨_, .pick _ _ _, _, _, _, _⟩ :: _) _ _; refine EL.f (FV.pickT rfl rfl) rfl rfl ?_)
         | (show EL _ _ _ _ (⟨_, .binOp .eql _ _ _ _, _, _, _, _⟩ :: _) _ _; refine EL.fT (FV.eql rfl rfl) rfl (fun _ => rfl) (by omega) ?_)
         | (show EL _ _ _ _ (⟨_, .binOp .neq _ _ _ _, _, _, _, _⟩ :: _) _ _; refine EL.fF (FV.neq rfl rfl) rfl (fun _ => rfl) (by omega) ?_))
      | refine EL.nil ?_
      | refine EW.seq ?_
      | refine EW.region ?_
      | refine EW.block ?_
      | refine EW.skip ?_
      | refine EW.condF rfl ?_)
    refine EW.loop (X := Nat × List Int) (fun y wr => y.1 ≤ es.length ∧ (SetAt wr m y.2 ∧ y.2.length ≤ ks1.length + Ex.sizeL (es.take y.1) ∧ ∀ x, x ∈ y.2 ↔ x ∈ (Ex.freeL vars k 0 (es.take y.1) now a1).1) ∧ (Ex.freeL vars k 0 (es.take y.1) now a1).2 = true ∧ Only [some m] w2 wr) (fun y => [(1, .int .i64 now), (2, .int .i64 vars), (3, .map (some m)), (4, .pointer (some ⟨g1, 0, none⟩)), (38, .slice B es.length bap), (39, .int .i64 es.length), (40, .int .i64 y.1)]) (fun y => es.length - y.1) (0, ks1) ⟨Nat.zero_le _, ⟨hS2, by simp [Ex.sizeL], fun x => by rw [List.take_zero, Ex.freeL]; exact hm1 x⟩, by rw [List.take_zero, Ex.freeL], Only.weakV (Ext.refl _)⟩ ⟨rfl, rfl, rfl, rfl, rfl, rfl, rfl, trivial⟩ ?_
    rintro ⟨i, kq⟩ wr ⟨hi, ⟨hSr, hkq, hmq⟩, hok, hOr⟩
    dsimp only at *
    have hOw := Only.bothV hO02 hOr
    have hEr := Only.afterV hE0 hOw hm0
    by_cases hlt : i < es.length
    rotate_left
    · obtain rfl : i = es.length := by omega
      rw [List.take_length] at hkq hmq hok
      repeat' (first
        | refine EL.f (FV.assign rfl) rfl rfl ?_
        | refine EL.fF (FV.lss rfl rfl) rfl (fun _ => rfl) (by omega) ?_
        | refine EL.nil ?_
        | refine EW.seq ?_
        | refine EW.region ?_
        | refine EW.exit ?_
        | refine EW.ret ?_
        | refine EW.condF rfl ?_)
      exact ⟨_, rfl, kq, by rw [hok], ⟨hSr, by simp only [Ex.size]; omega, fun _ => hmq⟩, hOw⟩
    obtain ⟨b, o, cs, rfl, hL, hX, hc⟩ := hks.kid hlt
    have hLr := hL.ext hEr
    have hkd := sizeL_kid hlt
    have hstp := sizeL_take hlt
    have hob := ownV_bound k i now
    have hbr := At.only hb2 hOr (by simp; exact fun e => hmg e.symm)
    repeat' (first
      | (show EL _ _ _ _ (_ :: _) _ _
         first
         | (show EL _ _ _ _ (⟨_, .indexAddr _ _ _, _, _, _, _⟩ :: _) _ _; refine EL.f (FV.idx rfl rfl rfl rfl (by omega) (by omega)) rfl rfl ?_)
         | (show EL _ _ _ _ (⟨_, .load _ _, _, _, _, _⟩ :: _) _ _; refine EL.f (FV.loadAgg (cs := cs) rfl rfl rfl hc rfl (fun _ e => e ▸ hLr)) rfl rfl ?_)
         | (show EL _ _ _ _ (⟨_, .move _, _, _, _, _⟩ :: _) _ _; refine EL.f (FV.move rfl) rfl rfl ?_)
         | (show EL _ _ _ _ (⟨_, .binOp .lss _ _ _ _, _, _, _, _⟩ :: _) _ _; refine EL.fT (FV.lss rfl rfl) rfl (fun _ => rfl) (by omega) ?_))
      | refine EL.nil ?_
      | refine EW.seq ?_
      | refine EW.region ?_
      | refine EW.block ?_
      | refine EW.skip ?_
      | refine EW.condT rfl ?_)
    refine EL.h (Hv.allocA rfl rfl) rfl (fun _ => rfl) ?_
    rintro _ u1 ⟨g5, rfl, hg5, h5, he5⟩
    repeat' (first
      | refine EL.f (FV.assign rfl) rfl rfl ?_)
    refine EL.h (Hv.storeAggG (vs := cs) rfl rfl rfl hc hX.one h5 (by rw [hc]; exact Nat.le_refl _)) rfl (fun _ => rfl) ?_
    rintro _ u2 ⟨h6, hr6⟩
    rw [setL_all (by rw [hc]; rfl)] at h6
    have hu2 : Ext wr u2 := Below.wr he5 hr6 (by omega) (Nat.le_refl _)
    have hbu := At.ext hbr hu2
    have hcall := ih i hlt (ownV k i now) _ kq cs u2 (by omega) (by omega) hX (hEr.trans hu2) (hSr.ext hu2) hmq (by omega)
    have hnx := freeL_next hlt hok
    by_cases i1 : i = 1
    · have how : ownV k i now = now + 1 := if_pos ⟨k9, i1⟩
      rw [how] at hcall hnx hob
      repeat' (first
        | (show EL _ _ _ _ (_ :: _) _ _
           first
           | (show EL _ _ _ _ (⟨_, .fieldAddr _ _ _, _, _, _, _⟩ :: _) _ _; refine EL.f (FV.fieldAddr rfl rfl rfl rfl rfl) rfl rfl ?_)
           | (show EL _ _ _ _ (⟨_, .load _ _, _, _, _, _⟩ :: _) _ _; first | refine EL.f (FV.load1 rfl rfl rfl (At.cell hbu rfl)) rfl rfl ?_ | refine EL.f (FV.loadAgg (cs := cs) rfl rfl rfl hc rfl (fun _ e => e ▸ At.lies h6)) rfl rfl ?_)
           | (show EL _ _ _ _ (⟨_, .move _, _, _, _, _⟩ :: _) _ _; refine EL.f (FV.move rfl) rfl rfl ?_)
           | (show EL _ _ _ _ (⟨_, .assign _, _, _, _, _⟩ :: _) _ _; refine EL.f (FV.assign rfl) rfl rfl ?_)
           | (show EL _ _ _ _ (⟨_, .binOp .add _ _ _ _, _, _, _, _⟩ :: _) _ _; refine EL.f (FV.addI rfl rfl (by omega)) rfl rfl ?_)
           | (show EL _ _ _ _ (⟨_, .pick _ _ _, _, _, _, _⟩ :: _) _ _; refine EL.f (FV.pickT rfl rfl) rfl rfl ?_)
           | (show EL _ _ _ _ (⟨_, .binOp .eql _ _ _ _, _, _, _, _⟩ :: _) _ _; refine EL.fT (FV.eql rfl rfl) rfl (fun _ => rfl) (by omega) ?_))
        | refine EL.nil ?_
        | refine EW.seq ?_
        | refine EW.region ?_
        | refine EW.condT rfl ?_)
      refine EL.h (Hv.call hcall rfl) rfl (fun _ => rfl) ?_
      rintro _ u3 ⟨kq2, rfl, ⟨hS3, hk3, hm3⟩, hO3⟩
      have hOe := Only.bothV hOw (Only.bothV (Only.weakV hu2) hO3)
      cases hf : (Ex.freeL vars k 0 (es.take (i + 1)) now a1).2
      · rw [← hnx, hf]
        repeat' (first
          | refine EL.f (FV.assign rfl) rfl rfl ?_
          | refine EL.f (FV.not rfl) rfl rfl ?_
          | refine EL.nil ?_
          | refine EW.seq ?_
          | refine EW.region ?_
          | refine EW.ret ?_
          | refine EW.condT rfl ?_)
        have hbad := freeL_bad hf
        exact ⟨_, rfl, kq2, by rw [hbad, hf], ⟨hS3, by simp only [Ex.size]; omega, by intro q; rw [hbad, hf] at q; cases q⟩, hOe⟩
      · rw [← hnx, hf]
        repeat' (first
          | refine EL.f (FV.move rfl) rfl rfl ?_
          | refine EL.f (FV.addI rfl rfl (by omega)) rfl rfl ?_
          | refine EL.f (FV.not rfl) rfl rfl ?_
          | refine EL.nil ?_
          | refine EW.region ?_
          | refine EW.skip ?_
          | refine EW.condF rfl ?_)
        exact ⟨(i + 1, kq2), ⟨rfl, rfl, rfl, rfl, rfl, rfl, rfl, trivial⟩, ⟨by dsimp only; omega, ⟨hS3, by dsimp only; omega, fun x => by dsimp only; rw [hnx]; exact hm3 (by rw [← hnx]; exact hf) x⟩, hf, Only.bothV hOr (Only.bothV (Only.weakV hu2) hO3)⟩, by dsimp only; omega⟩
    · have how : ownV k i now = now := if_neg fun q => i1 q.2
      rw [how] at hcall hnx hob
      repeat' (first
        | (show EL _ _ _ _ (_ :: _) _ _
           first
           | (show EL _ _ _ _ (⟨_, .fieldAddr _ _ _, _, _, _, _⟩ :: _) _ _; refine EL.f (FV.fieldAddr rfl rfl rfl rfl rfl) rfl rfl ?_)
           | (show EL _ _ _ _ (⟨_, .load _ _, _, _, _, _⟩ :: _) _ _; first | refine EL.f (FV.load1 rfl rfl rfl (At.cell hbu rfl)) rfl rfl ?_ | refine EL.f (FV.loadAgg (cs := cs) rfl rfl rfl hc rfl (fun _ e => e ▸ At.lies h6)) rfl rfl ?_)
           | (show EL _ _ _ _ (⟨_, .move _, _, _, _, _⟩ :: _) _ _; refine EL.f (FV.move rfl) rfl rfl ?_)
           | (show EL _ _ _ _ (⟨_, .assign _, _, _, _, _⟩ :: _) _ _; refine EL.f (FV.assign rfl) rfl rfl ?_)
           | (show EL _ _ _ _ (⟨_, .pick _ _ _, _, _, _, _⟩ :: _) _ _; refine EL.f (FV.pickT rfl rfl) rfl rfl ?_)
           | (show EL _ _ _ _ (⟨_, .binOp .eql _ _ _ _, _, _, _, _⟩ :: _) _ _; first | refine EL.fT (FV.eql rfl rfl) rfl (fun _ => rfl) (by omega) ?_ | refine EL.fF (FV.eql rfl rfl) rfl (fun _ => rfl) (by omega) ?_))
        | refine EL.nil ?_
        | refine EW.seq ?_
        | refine EW.region ?_
        | refine EW.skip ?_
        | refine EW.condF rfl ?_)
      refine EL.h (Hv.call hcall rfl) rfl (fun _ => rfl) ?_
      rintro _ u3 ⟨kq2, rfl, ⟨hS3, hk3, hm3⟩, hO3⟩
      have hOe := Only.bothV hOw (Only.bothV (Only.weakV hu2) hO3)
      cases hf : (Ex.freeL vars k 0 (es.take (i + 1)) now a1).2
      · rw [← hnx, hf]
        repeat' (first
          | refine EL.f (FV.assign rfl) rfl rfl ?_
          | refine EL.f (FV.not rfl) rfl rfl ?_
          | refine EL.nil ?_
          | refine EW.seq ?_
          | refine EW.region ?_
          | refine EW.ret ?_
          | refine EW.condT rfl ?_)
        have hbad := freeL_bad hf
        exact ⟨_, rfl, kq2, by rw [hbad, hf], ⟨hS3, by simp only [Ex.size]; omega, by intro q; rw [hbad, hf] at q; cases q⟩, hOe⟩
      · rw [← hnx, hf]
        repeat' (first
          | refine EL.f (FV.move rfl) rfl rfl ?_
          | refine EL.f (FV.addI rfl rfl (by omega)) rfl rfl ?_
          | refine EL.f (FV.not rfl) rfl rfl ?_
          | refine EL.nil ?_
          | refine EW.region ?_
          | refine EW.skip ?_
          | refine EW.condF rfl ?_)
        exact ⟨(i + 1, kq2), ⟨rfl, rfl, rfl, rfl, rfl, rfl, rfl, trivial⟩, ⟨by dsimp only; omega, ⟨hS3, by dsimp only; omega, fun x => by dsimp only; rw [hnx]; exact hm3 (by rw [← hnx]; exact hf) x⟩, hf, Only.bothV hOr (Only.bothV (Only.weakV hu2) hO3)⟩, by dsimp only; omega⟩
  · repeat' (first
      | (show EL _ _ _ _ (_ :: _) _ _
         first
         | (show EL _ _ _ _ (⟨_, _, _, _, _, some _⟩ :: _) _ _; refine EL.skip rfl rfl ?_)
         | (show EL _ _ _ _ (⟨_, .fieldAddr _ _ _, _, _, _, _⟩ :: _) _ _; refine EL.f (FV.fieldAddr rfl rfl rfl rfl rfl) rfl rfl ?_)
         | (show EL _ _ _ _ (⟨_, .load _ _, _, _, _, _⟩ :: _) _ _; refine EL.f (FV.load1 rfl rfl rfl (At.cell hb2 rfl)) rfl rfl ?_)
         | (show EL _ _ _ _ (⟨_, .move _, _, _, _, _⟩ :: _) _ _; refine EL.f (FV.move rfl) rfl rfl ?_)
         | (show EL _ _ _ _ (⟨_, .call _, _, _, _, _⟩ :: _) _ _; refine EL.f (FV.len rfl rfl) rfl rfl ?_)
         | (show EL _ _ _ _ (⟨_, .pick _ _ _, _, _, _, _⟩ :: _) _ _; refine EL.f (FV.pickF rfl rfl) rfl rfl ?_)
         | (show EL _ _ _ _ (⟨_, .binOp .eql _ _ _ _, _, _, _, _⟩ :: _) _ _; refine EL.fF (FV.eql rfl rfl) rfl (fun _ => rfl) (by omega) ?_))
      | refine EL.nil ?_
      | refine EW.seq ?_
      | refine EW.region ?_
      | refine EW.block ?_
      | refine EW.skip ?_
      | refine EW.condF rfl ?_)
    refine EW.loop (X := Nat × List Int) (fun y wr => y.1 ≤ es.length ∧ (SetAt wr m y.2 ∧ y.2.length ≤ ks1.length + Ex.sizeL (es.take y.1) ∧ ∀ x, x ∈ y.2 ↔ x ∈ (Ex.freeL vars k 0 (es.take y.1) now a1).1) ∧ (Ex.freeL vars k 0 (es.take y.1) now a1).2 = true ∧ Only [some m] w2 wr) (fun y => [(1, .int .i64 now), (2, .int .i64 vars), (3, .map (some m)), (4, .pointer (some ⟨g1, 0, none⟩)), (38, .slice B es.length bap), (39, .int .i64 es.length), (40, .int .i64 y.1)]) (fun y => es.length - y.1) (0, ks1) ⟨Nat.zero_le _, ⟨hS2, by simp [Ex.sizeL], fun x => by rw [List.take_zero, Ex.freeL]; exact hm1 x⟩, by rw [List.take_zero, Ex.freeL], Only.weakV (Ext.refl _)⟩ ⟨rfl, rfl, rfl, rfl, rfl, rfl, rfl, trivial⟩ ?_
    rintro ⟨i, kq⟩ wr ⟨hi, ⟨hSr, hkq, hmq⟩, hok, hOr⟩
    dsimp only at *
    have hOw := Only.bothV hO02 hOr
    have hEr := Only.afterV hE0 hOw hm0
    by_cases hlt : i < es.length
    rotate_left
    · obtain rfl : i = es.length := by omega
      rw [List.take_length] at hkq hmq hok
      repeat' (first
        | refine EL.f (FV.assign rfl) rfl rfl ?_
        | refine EL.fF (FV.lss rfl rfl) rfl (fun _ => rfl) (by omega) ?_
        | refine EL.nil ?_
        | refine EW.seq ?_
        | refine EW.region ?_
        | refine EW.exit ?_
        | refine EW.ret ?_
        | refine EW.condF rfl ?_)
      exact ⟨_, rfl, kq, by rw [hok], ⟨hSr, by simp only [Ex.size]; omega, fun _ => hmq⟩, hOw⟩
    obtain ⟨b, o, cs, rfl, hL, hX, hc⟩ := hks.kid hlt
    have hLr := hL.ext hEr
    have hkd := sizeL_kid hlt
    have hstp := sizeL_take hlt
    have hob := ownV_bound k i now
    have hbr := At.only hb2 hOr (by simp; exact fun e => hmg e.symm)
    repeat' (first
      | (show EL _ _ _ _ (_ :: _) _ _
         first
         | (show EL _ _ _ _ (⟨_, .indexAddr _ _ _, _, _, _, _⟩ :: _) _ _; refine EL.f (FV.idx rfl rfl rfl rfl (by omega) (by omega)) rfl rfl ?_)
         | (show EL _ _ _ _ (⟨_, .load _ _, _, _, _, _⟩ :: _) _ _; refine EL.f (FV.loadAgg (cs := cs) rfl rfl rfl hc rfl (fun _ e => e ▸ hLr)) rfl rfl ?_)
         | (show EL _ _ _ _ (⟨_, .move _, _, _, _, _⟩ :: _) _ _; refine EL.f (FV.move rfl) rfl rfl ?_)
         | (show EL _ _ _ _ (⟨_, .binOp .lss _ _ _ _, _, _, _, _⟩ :: _) _ _; refine EL.fT (FV.lss rfl rfl) rfl (fun _ => rfl) (by omega) ?_))
      | refine EL.nil ?_
      | refine EW.seq ?_
      | refine EW.region ?_
      | refine EW.block ?_
      | refine EW.skip ?_
      | refine EW.condT rfl ?_)
    refine EL.h (Hv.allocA rfl rfl) rfl (fun _ => rfl) ?_
    rintro _ u1 ⟨g5, rfl, hg5, h5, he5⟩
    repeat' (first
      | refine EL.f (FV.assign rfl) rfl rfl ?_)
    refine EL.h (Hv.storeAggG (vs := cs) rfl rfl rfl hc hX.one h5 (by rw [hc]; exact Nat.le_refl _)) rfl (fun _ => rfl) ?_
    rintro _ u2 ⟨h6, hr6⟩
    rw [setL_all (by rw [hc]; rfl)] at h6
    have hu2 : Ext wr u2 := Below.wr he5 hr6 (by omega) (Nat.le_refl _)
    have hbu := At.ext hbr hu2
    have hcall := ih i hlt (ownV k i now) _ kq cs u2 (by omega) (by omega) hX (hEr.trans hu2) (hSr.ext hu2) hmq (by omega)
    have hnx := freeL_next hlt hok
    have how : ownV k i now = now := if_neg fun q => k9 q.1
    rw [how] at hcall hnx hob
    repeat' (first
      | (show EL _ _ _ _ (_ :: _) _ _
         first
         | (show EL _ _ _ _ (⟨_, _, _, _, _, some _⟩ :: _) _ _; refine EL.skip rfl rfl ?_)
         | (show EL _ _ _ _ (⟨_, .fieldAddr _ _ _, _, _, _, _⟩ :: _) _ _; refine EL.f (FV.fieldAddr rfl rfl rfl rfl rfl) rfl rfl ?_)
         | (show EL _ _ _ _ (⟨_, .load _ _, _, _, _, _⟩ :: _) _ _; first | refine EL.f (FV.load1 rfl rfl rfl (At.cell hbu rfl)) rfl rfl ?_ | refine EL.f (FV.loadAgg (cs := cs) rfl rfl rfl hc rfl (fun _ e => e ▸ At.lies h6)) rfl rfl ?_)
         | (show EL _ _ _ _ (⟨_, .move _, _, _, _, _⟩ :: _) _ _; refine EL.f (FV.move rfl) rfl rfl ?_)
         | (show EL _ _ _ _ (⟨_, .assign _, _, _, _, _⟩ :: _) _ _; refine EL.f (FV.assign rfl) rfl rfl ?_)
         | (show EL _ _ _ _ (⟨_, .pick _ _ _, _, _, _, _⟩ :: _) _ _; refine EL.f (FV.pickF rfl rfl) rfl rfl ?_)
         | (show EL _ _ _ _ (⟨_, .binOp .eql _ _ _ _, _, _, _, _⟩ :: _) _ _; refine EL.fF (FV.eql rfl rfl) rfl (fun _ => rfl) (by omega) ?_))
      | refine EL.nil ?_
      | refine EW.seq ?_
      | refine EW.region ?_
      | refine EW.skip ?_
      | refine EW.condF rfl ?_)
    refine EL.h (Hv.call hcall rfl) rfl (fun _ => rfl) ?_
    rintro _ u3 ⟨kq2, rfl, ⟨hS3, hk3, hm3⟩, hO3⟩
    have hOe := Only.bothV hOw (Only.bothV (Only.weakV hu2) hO3)
    cases hf : (Ex.freeL vars k 0 (es.take (i + 1)) now a1).2
    · rw [← hnx, hf]
      repeat' (first
        | refine EL.f (FV.assign rfl) rfl rfl ?_
        | refine EL.f (FV.not rfl) rfl rfl ?_
        | refine EL.nil ?_
        | refine EW.seq ?_
        | refine EW.region ?_
        | refine EW.ret ?_
        | refine EW.condT rfl ?_)
      have hbad := freeL_bad hf
      exact ⟨_, rfl, kq2, by rw [hbad, hf], ⟨hS3, by simp only [Ex.size]; omega, by intro q; rw [hbad, hf] at q; cases q⟩, hOe⟩
    · rw [← hnx, hf]
      repeat' (first
        | refine EL.f (FV.move rfl) rfl rfl ?_
        | refine EL.f (FV.addI rfl rfl (by omega)) rfl rfl ?_
        | refine EL.f (FV.not rfl) rfl rfl ?_
        | refine EL.nil ?_
        | refine EW.region ?_
        | refine EW.skip ?_
        | refine EW.condF rfl ?_)
      exact ⟨(i + 1, kq2), ⟨rfl, rfl, rfl, rfl, rfl, rfl, rfl, trivial⟩, ⟨by dsimp only; omega, ⟨hS3, by dsimp only; omega, fun x => by dsimp only; rw [hnx]; exact hm3 (by rw [← hnx]; exact hf) x⟩, hf, Only.bothV hOr (Only.bothV (Only.weakV hu2) hO3)⟩, by dsimp only; omega⟩
set_option maxHeartbeats 16000000 in
theorem specFree (vars : Int) (go : Nat) (w0 : World) (hgo : w0.heap.size ≤ go) (_hv : 0 ≤ vars ∧ vars ≤ 412) (e : Ex) : ∀ now acc s b o w, e.size ≤ 1048577 → 0 ≤ now ∧ now + (e.size : Int) ≤ 10000000 → ExP w0 b o e → Ext w0 w → At w 24 1 go 1 1 [s] → OwnI w0.heap.size w s acc → acc.length + e.size ≤ 1048577 →
    CallsR Try.prog 55 [.pointer (some ⟨b, o, none⟩), .int .i64 vars, .int .i64 now, .pointer (some ⟨go, 0, none⟩)] w fun v w' => ∃ s', v = .bool (e.free vars now acc).2 ∧ (At w' 24 1 go 1 1 [s'] ∧ OwnI w0.heap.size w' s' (e.free vars now acc).1) ∧ Only [some go] w w' := by
  induction e using Ex.ind with
  | h k n p c es ih =>
  intro now acc s b o w hs hnow hx hE0 hat hown hal
  have hge := sizeL_ge es
  simp only [Ex.size] at hs hnow hal
  obtain ⟨cs0, hL0, hX0⟩ := hx
  obtain ⟨B, bap, rfl, hks⟩ := hX0.inv
  have hr := hks.1
  have l0 := (hL0.ext hE0) 0 _ rfl
  have l1 := (hL0.ext hE0) 1 _ rfl
  have l4 := (hL0.ext hE0) 4 _ rfl
  refine CallsR.enter Try.func55 (by decide +kernel) rfl Try.ntmps55 rfl ?_
  refine EW.seq ?_
  refine EW.region ?_
  refine EL.f (FV.assign rfl) rfl rfl ?_
  refine EL.nil ?_
  refine EW.seqR (K := fun ρ' w' => Sub [(0, .pointer (some ⟨b, o, none⟩)), (1, .int .i64 vars), (2, .int .i64 now), (3, .pointer (some ⟨go, 0, none⟩))] ρ' ∧ (∃ s1, At w' 24 1 go 1 1 [s1] ∧ OwnI w0.heap.size w' s1 (accV k n vars acc)) ∧ Only [some go] w w' ∧ ¬ (k = 2 ∧ ¬ (0 ≤ n ∧ n ≤ now - 1))) ?_ ?_
  · by_cases k2 : k = 2
    · by_cases hin : 0 ≤ n ∧ n ≤ now - 1
      · have i1 : inBV n 0 (now - 1) = true := decide_eq_true hin
        by_cases hlt : n < vars
        · repeat' (first
            | (show EL _ _ _ _ (_ :: _) _ _
               first
               | (show EL _ _ _ _ (⟨_, .nilCheck _, _, _, _, _⟩ :: _) _ _; refine EL.f (FV.nilChk rfl) rfl rfl ?_)
               | (show EL _ _ _ _ (⟨_, .fieldAddr _ _ _, _, _, _, _⟩ :: _) _ _; refine EL.f (FV.fieldAddr rfl rfl rfl rfl rfl) rfl rfl ?_)
               | (show EL _ _ _ _ (⟨_, .load _ _, _, _, _, _⟩ :: _) _ _; first | refine EL.f (FV.load1 rfl rfl rfl (l0)) rfl rfl ?_ | refine EL.f (FV.load1 rfl rfl rfl (l1)) rfl rfl ?_)
               | (show EL _ _ _ _ (⟨_, .call _, _, _, _, _⟩ :: _) _ _; (refine EL.h (Hv.call (specInVR i1 _) rfl) rfl (fun _ => rfl) ?_; rintro _ _ ⟨rfl, rfl⟩))
               | (show EL _ _ _ _ (⟨_, .move _, _, _, _, _⟩ :: _) _ _; refine EL.f (FV.move rfl) rfl rfl ?_)
               | (show EL _ _ _ _ (⟨_, .binOp .sub _ _ _ _, _, _, _, _⟩ :: _) _ _; refine EL.f (FV.subI rfl rfl (by omega)) rfl rfl ?_)
               | (show EL _ _ _ _ (⟨_, .unOp .not _ _, _, _, _, _⟩ :: _) _ _; refine EL.f (FV.not rfl) rfl rfl ?_)
               | (show EL _ _ _ _ (⟨_, .binOp .lss _ _ _ _, _, _, _, _⟩ :: _) _ _; refine EL.fT (FV.lss rfl rfl) rfl (fun _ => rfl) (by omega) ?_)
               | (show EL _ _ _ _ (⟨_, .binOp .eql _ _ _ _, _, _, _, _⟩ :: _) _ _; refine EL.fT (FV.eql rfl rfl) rfl (fun _ => rfl) (by omega) ?_))
            | refine EL.nil ?_
            | refine EW.seq ?_
            | refine EW.region ?_
            | refine EW.skip ?_
            | refine EW.condT rfl ?_
            | refine EW.condF rfl ?_)
          obtain ⟨As, cp, rfl, hrd⟩ := hown.form
          have hc : w.cell? ⟨go, 0, none⟩ = some (.slice As acc.length cp) := At.cell hat rfl
          have ed := Ext.drew w
          refine EW.draw (fun w' => Ext w w') (pl 0 8 ++ [(8, false)] ++ [(9, true)] ++ [(10, false)]) mixed (by decide +kernel) ed ?_
          repeat' (first
            | refine EP.f rfl (FV.nilChk rfl) rfl rfl ?_
            | refine EP.f rfl (FV.fieldAddr rfl rfl rfl rfl rfl) rfl rfl ?_
            | refine EP.f rfl (FV.load rfl rfl rfl (fun w' h' => h'.cell hc)) rfl rfl ?_
            | refine EP.f rfl (FV.load rfl rfl rfl (fun w' h' => h'.cell l1)) rfl rfl ?_
            | refine EP.f rfl (FV.move rfl) rfl rfl ?_)
          refine EP.h rfl rfl (Hv.call (specPut As cp acc n w.drew (hrd.ext ed) (by omega)) rfl) rfl (fun _ => rfl) ?_
          rintro s2 w2 ⟨ho2, he2⟩
          have h02 := ed.trans he2
          refine ⟨h02, ?_⟩
          repeat' (first
            | refine EP.f rfl (FV.nilChk rfl) rfl rfl ?_)
          obtain ⟨A2, c2, rfl, _⟩ := ho2.form
          refine EP.last rfl rfl (by decide +kernel) (Hv.storeG rfl rfl rfl rfl rfl (At.ext hat h02) rfl) rfl (fun _ => rfl) ?_
          rintro _ w3 ⟨hat3, hg3⟩
          have hlo : w0.heap.size ≤ w.heap.size := hE0.size
          skip
          refine ⟨⟨rfl, rfl, rfl, rfl, trivial⟩, ⟨_, hat3, ?_⟩, Only.bothV (Only.weakV h02) (Only.one hg3), fun q => q.2 hin⟩
          rw [accV, if_pos ⟨k2, hlt⟩]
          refine OwnI.lower (B := w.drew.heap.size) (own_far ho2 hg3 ?_) hlo
          rcases own_ne ho2 (At.own (At.ext hat h02) (Nat.le_refl _)) (by decide) with q | q
          · exact .inl q
          · exact .inr q
        · repeat' (first
            | (show EL _ _ _ _ (_ :: _) _ _
               first
               | (show EL _ _ _ _ (⟨_, .nilCheck _, _, _, _, _⟩ :: _) _ _; refine EL.f (FV.nilChk rfl) rfl rfl ?_)
               | (show EL _ _ _ _ (⟨_, .fieldAddr _ _ _, _, _, _, _⟩ :: _) _ _; refine EL.f (FV.fieldAddr rfl rfl rfl rfl rfl) rfl rfl ?_)
               | (show EL _ _ _ _ (⟨_, .load _ _, _, _, _, _⟩ :: _) _ _; first | refine EL.f (FV.load1 rfl rfl rfl (l0)) rfl rfl ?_ | refine EL.f (FV.load1 rfl rfl rfl (l1)) rfl rfl ?_)
               | (show EL _ _ _ _ (⟨_, .call _, _, _, _, _⟩ :: _) _ _; (refine EL.h (Hv.call (specInVR i1 _) rfl) rfl (fun _ => rfl) ?_; rintro _ _ ⟨rfl, rfl⟩))
               | (show EL _ _ _ _ (⟨_, .move _, _, _, _, _⟩ :: _) _ _; refine EL.f (FV.move rfl) rfl rfl ?_)
               | (show EL _ _ _ _ (⟨_, .binOp .sub _ _ _ _, _, _, _, _⟩ :: _) _ _; refine EL.f (FV.subI rfl rfl (by omega)) rfl rfl ?_)
               | (show EL _ _ _ _ (⟨_, .unOp .not _ _, _, _, _, _⟩ :: _) _ _; refine EL.f (FV.not rfl) rfl rfl ?_)
               | (show EL _ _ _ _ (⟨_, .binOp .eql _ _ _ _, _, _, _, _⟩ :: _) _ _; refine EL.fT (FV.eql rfl rfl) rfl (fun _ => rfl) (by omega) ?_)
               | (show EL _ _ _ _ (⟨_, .binOp .lss _ _ _ _, _, _, _, _⟩ :: _) _ _; refine EL.fF (FV.lss rfl rfl) rfl (fun _ => rfl) (by omega) ?_))
            | refine EL.nil ?_
            | refine EW.seq ?_
            | refine EW.region ?_
            | refine EW.skip ?_
            | refine EW.condT rfl ?_
            | refine EW.condF rfl ?_)
          exact ⟨⟨rfl, rfl, rfl, rfl, trivial⟩, ⟨s, hat, by rw [accV, if_neg (fun q => hlt q.2)]; exact hown⟩, Only.weakV (Ext.refl _), fun q => q.2 hin⟩
      · have i1 : inBV n 0 (now - 1) = false := decide_eq_false hin
        repeat' (first
          | (show EL _ _ _ _ (_ :: _) _ _
             first
             | (show EL _ _ _ _ (⟨_, .nilCheck _, _, _, _, _⟩ :: _) _ _; refine EL.f (FV.nilChk rfl) rfl rfl ?_)
             | (show EL _ _ _ _ (⟨_, .fieldAddr _ _ _, _, _, _, _⟩ :: _) _ _; refine EL.f (FV.fieldAddr rfl rfl rfl rfl rfl) rfl rfl ?_)
             | (show EL _ _ _ _ (⟨_, .load _ _, _, _, _, _⟩ :: _) _ _; first | refine EL.f (FV.load1 rfl rfl rfl (l0)) rfl rfl ?_ | refine EL.f (FV.load1 rfl rfl rfl (l1)) rfl rfl ?_)
             | (show EL _ _ _ _ (⟨_, .call _, _, _, _, _⟩ :: _) _ _; (refine EL.h (Hv.call (specInVR i1 _) rfl) rfl (fun _ => rfl) ?_; rintro _ _ ⟨rfl, rfl⟩))
             | (show EL _ _ _ _ (⟨_, .move _, _, _, _, _⟩ :: _) _ _; refine EL.f (FV.move rfl) rfl rfl ?_)
             | (show EL _ _ _ _ (⟨_, .assign _, _, _, _, _⟩ :: _) _ _; refine EL.f (FV.assign rfl) rfl rfl ?_)
             | (show EL _ _ _ _ (⟨_, .binOp .sub _ _ _ _, _, _, _, _⟩ :: _) _ _; refine EL.f (FV.subI rfl rfl (by omega)) rfl rfl ?_)
             | (show EL _ _ _ _ (⟨_, .unOp .not _ _, _, _, _, _⟩ :: _) _ _; refine EL.f (FV.not rfl) rfl rfl ?_)
             | (show EL _ _ _ _ (⟨_, .binOp .eql _ _ _ _, _, _, _, _⟩ :: _) _ _; refine EL.fT (FV.eql rfl rfl) rfl (fun _ => rfl) (by omega) ?_))
          | refine EL.nil ?_
          | refine EW.seq ?_
          | refine EW.region ?_
          | refine EW.ret ?_
          | refine EW.condT rfl ?_)
        exact ⟨_, rfl, s, by rw [free_out ⟨k2, hin⟩], ⟨hat, by rw [free_out ⟨k2, hin⟩]; exact hown⟩, Only.weakV (Ext.refl _)⟩
    · repeat' (first
        | (show EL _ _ _ _ (_ :: _) _ _
           first
           | (show EL _ _ _ _ (⟨_, .nilCheck _, _, _, _, _⟩ :: _) _ _; refine EL.f (FV.nilChk rfl) rfl rfl ?_)
           | (show EL _ _ _ _ (⟨_, .fieldAddr _ _ _, _, _, _, _⟩ :: _) _ _; refine EL.f (FV.fieldAddr rfl rfl rfl rfl rfl) rfl rfl ?_)
           | (show EL _ _ _ _ (⟨_, .load _ _, _, _, _, _⟩ :: _) _ _; refine EL.f (FV.load1 rfl rfl rfl (l0)) rfl rfl ?_)
           | (show EL _ _ _ _ (⟨_, .move _, _, _, _, _⟩ :: _) _ _; refine EL.f (FV.move rfl) rfl rfl ?_)
           | (show EL _ _ _ _ (⟨_, .binOp .eql _ _ _ _, _, _, _, _⟩ :: _) _ _; refine EL.fF (FV.eql rfl rfl) rfl (fun _ => rfl) (by omega) ?_))
        | refine EL.nil ?_
        | refine EW.seq ?_
        | refine EW.region ?_
        | refine EW.skip ?_
        | refine EW.condF rfl ?_)
      exact ⟨⟨rfl, rfl, rfl, rfl, trivial⟩, ⟨s, hat, by rw [accV, if_neg (fun q => k2 q.1)]; exact hown⟩, Only.weakV (Ext.refl _), fun q => k2 q.1⟩
  rintro ρ' w2 ⟨hsub, ⟨s1, hat2, hown2⟩, hO2, hno⟩
  refine EW.weaken ?_ hsub
  have hE2 := Only.afterV hE0 hO2 hgo
  have hal1 := accV_length k n vars acc
  replace l0 := (hL0.ext hE2) 0 _ rfl
  replace l4 := (hL0.ext hE2) 4 _ rfl
  by_cases hlet : k = 9 ∧ ¬ es.length = 2
  · obtain ⟨k9, hl2⟩ := hlet
    repeat' (first
      | (show EL _ _ _ _ (_ :: _) _ _
         first
         | (show EL _ _ _ _ (⟨_, .nilCheck _, _, _, _, _⟩ :: _) _ _; refine EL.f (FV.nilChk rfl) rfl rfl ?_)
         | (show EL _ _ _ _ (⟨_, .fieldAddr _ _ _, _, _, _, _⟩ :: _) _ _; refine EL.f (FV.fieldAddr rfl rfl rfl rfl rfl) rfl rfl ?_)
         | (show EL _ _ _ _ (⟨_, .load _ _, _, _, _, _⟩ :: _) _ _; first | refine EL.f (FV.load1 rfl rfl rfl (l0)) rfl rfl ?_ | refine EL.f (FV.load1 rfl rfl rfl (l4)) rfl rfl ?_)
         | (show EL _ _ _ _ (⟨_, .move _, _, _, _, _⟩ :: _) _ _; refine EL.f (FV.move rfl) rfl rfl ?_)
         | (show EL _ _ _ _ (⟨_, .assign _, _, _, _, _⟩ :: _) _ _; refine EL.f (FV.assign rfl) rfl rfl ?_)
         | (show EL _ _ _ _ (⟨_, .call _, _, _, _, _⟩ :: _) _ _; refine EL.f (FV.len rfl rfl) rfl rfl ?_)
         | (show EL _ _ _ _ (⟨_, .pick _ _ _, _, _, _, _⟩ :: _) _ _; refine EL.f (FV.pickT rfl rfl) rfl rfl ?_)
         | (show EL _ _ _ _ (⟨_, .binOp .eql _ _ _ _, _, _, _, _⟩ :: _) _ _; refine EL.fT (FV.eql rfl rfl) rfl (fun _ => rfl) (by omega) ?_)
         | (show EL _ _ _ _ (⟨_, .binOp .neq _ _ _ _, _, _, _, _⟩ :: _) _ _; refine EL.fT (FV.neq rfl rfl) rfl (fun _ => rfl) (by omega) ?_))
      | refine EL.nil ?_
      | refine EW.seq ?_
      | refine EW.region ?_
      | refine EW.ret ?_
      | refine EW.condT rfl ?_)
    exact ⟨_, rfl, s1, by rw [free_let hno ⟨k9, hl2⟩], ⟨hat2, by rw [free_let hno ⟨k9, hl2⟩]; exact hown2⟩, hO2⟩
  rw [free_in hno hlet]
  generalize accV k n vars acc = a1 at *
  by_cases k9 : k = 9
  · have l2 : es.length = 2 := by
      by_cases q : es.length = 2
      · exact q
      · exact absurd ⟨k9, q⟩ hlet
    repeat' (first
      | (show EL _ _ _ _ (_ :: _) _ _
         first
         | (show EL _ _ _ _ (⟨_, .nilCheck _, _, _, _, _⟩ :: _) _ _; refine EL.f (FV.nilChk rfl) rfl rfl ?_)
         | (show EL _ _ _ _ (⟨_, .fieldAddr _ _ _, _, _, _, _⟩ :: _) _ _; refine EL.f (FV.fieldAddr rfl rfl rfl rfl rfl) rfl rfl ?_)
         | (show EL _ _ _ _ (⟨_, .load _ _, _, _, _, _⟩ :: _) _ _; first | refine EL.f (FV.load1 rfl rfl rfl (l0)) rfl rfl ?_ | refine EL.f (FV.load1 rfl rfl rfl (l4)) rfl rfl ?_)
         | (show EL _ _ _ _ (⟨_, .move _, _, _, _, _⟩ :: _) _ _; refine EL.f (FV.move rfl) rfl rfl ?_)
         | (show EL _ _ _ _ (⟨_, .assign _, _, _, _, _⟩ :: _) _ _; refine EL.f (FV.assign rfl) rfl rfl ?_)
         | (show EL _ _ _ _ (⟨_, .call _, _, _, _, _⟩ :: _) _ _; refine EL.f (FV.len rfl rfl) rfl rfl ?_)
         | (show EL _ _ _ _ (⟨_, .pick _ _ _, _, _, _, _⟩ :: _) _ _; refine EL.f (FV.pickT rfl rfl) rfl rfl ?_)
         | (show EL _ _ _ _ (⟨_, .binOp .eql _ _ _ _, _, _, _, _⟩ :: _) _ _; refine EL.fT (FV.eql rfl rfl) rfl (fun _ => rfl) (by omega) ?_)
         | (show EL _ _ _ _ (⟨_, .binOp .neq _ _ _ _, _, _, _, _⟩ :: _) _ _; refine EL.fF (FV.neq rfl rfl) rfl (fun _ => rfl) (by omega) ?_))
      | refine EL.nil ?_
      | refine EW.seq ?_
      | refine EW.region ?_
      | refine EW.block ?_
      | refine EW.skip ?_
      | refine EW.condF rfl ?_)
    refine EW.loop (X := Nat × Value) (fun y wr => y.1 ≤ es.length ∧ (At wr 24 1 go 1 1 [y.2] ∧ OwnI w0.heap.size wr y.2 (Ex.freeL vars k 0 (es.take y.1) now a1).1) ∧ (Ex.freeL vars k 0 (es.take y.1) now a1).2 = true ∧ Only [some go] w2 wr) (fun y => [(0, .pointer (some ⟨b, o, none⟩)), (1, .int .i64 vars), (2, .int .i64 now), (3, .pointer (some ⟨go, 0, none⟩)), (9, .int .i64 y.1)]) (fun y => es.length - y.1) (0, s1) ⟨Nat.zero_le _, ⟨hat2, by rw [List.take_zero, Ex.freeL]; exact hown2⟩, by rw [List.take_zero, Ex.freeL], Only.weakV (Ext.refl _)⟩ ⟨rfl, rfl, rfl, rfl, rfl, trivial⟩ ?_
    rintro ⟨i, s⟩ wr ⟨hi, ⟨hatr, hownr⟩, hok, hOr⟩
    dsimp only at *
    have hOw := Only.bothV hO2 hOr
    have hEr := Only.afterV hE0 hOw hgo
    replace l0 := (hL0.ext hEr) 0 _ rfl
    replace l4 := (hL0.ext hEr) 4 _ rfl
    have hlen := freeL_length vars k (es.take i) 0 now a1
    by_cases hlt : i < es.length
    rotate_left
    · obtain rfl : i = es.length := by omega
      rw [List.take_length] at hownr hok
      repeat' (first
        | (show EL _ _ _ _ (_ :: _) _ _
           first
           | (show EL _ _ _ _ (⟨_, .nilCheck _, _, _, _, _⟩ :: _) _ _; refine EL.f (FV.nilChk rfl) rfl rfl ?_)
           | (show EL _ _ _ _ (⟨_, .fieldAddr _ _ _, _, _, _, _⟩ :: _) _ _; refine EL.f (FV.fieldAddr rfl rfl rfl rfl rfl) rfl rfl ?_)
           | (show EL _ _ _ _ (⟨_, .load _ _, _, _, _, _⟩ :: _) _ _; refine EL.f (FV.load1 rfl rfl rfl (l4)) rfl rfl ?_)
           | (show EL _ _ _ _ (⟨_, .move _, _, _, _, _⟩ :: _) _ _; refine EL.f (FV.move rfl) rfl rfl ?_)
           | (show EL _ _ _ _ (⟨_, .assign _, _, _, _, _⟩ :: _) _ _; refine EL.f (FV.assign rfl) rfl rfl ?_)
           | (show EL _ _ _ _ (⟨_, .call _, _, _, _, _⟩ :: _) _ _; refine EL.f (FV.len rfl rfl) rfl rfl ?_)
           | (show EL _ _ _ _ (⟨_, .binOp .lss _ _ _ _, _, _, _, _⟩ :: _) _ _; refine EL.fF (FV.lss rfl rfl) rfl (fun _ => rfl) (by omega) ?_))
        | refine EL.nil ?_
        | refine EW.seq ?_
        | refine EW.region ?_
        | refine EW.exit ?_
        | refine EW.ret ?_
        | refine EW.condF rfl ?_)
      exact ⟨_, rfl, s, by rw [hok], ⟨hatr, hownr⟩, hOw⟩
    obtain ⟨b1, o1, cs, rfl, hL, hX, hc⟩ := hks.kid hlt
    have hkd := sizeL_kid hlt
    have hstp := sizeL_take hlt
    have hob := ownV_bound k i now
    have hcall := ih i hlt (ownV k i now) _ s b1 (o1 + i * 5) wr (by omega) (by omega) ⟨cs, hL, hX⟩ hEr hatr hownr (by omega)
    have hnx := freeL_next hlt hok
    by_cases i1 : i = 1
    · have how : ownV k i now = now + 1 := if_pos ⟨k9, i1⟩
      rw [how] at hcall hnx hob
      repeat' (first
        | (show EL _ _ _ _ (_ :: _) _ _
           first
           | (show EL _ _ _ _ (⟨_, .nilCheck _, _, _, _, _⟩ :: _) _ _; refine EL.f (FV.nilChk rfl) rfl rfl ?_)
           | (show EL _ _ _ _ (⟨_, .fieldAddr _ _ _, _, _, _, _⟩ :: _) _ _; refine EL.f (FV.fieldAddr rfl rfl rfl rfl rfl) rfl rfl ?_)
           | (show EL _ _ _ _ (⟨_, .load _ _, _, _, _, _⟩ :: _) _ _; first | refine EL.f (FV.load1 rfl rfl rfl (l0)) rfl rfl ?_ | refine EL.f (FV.load1 rfl rfl rfl (l4)) rfl rfl ?_)
           | (show EL _ _ _ _ (⟨_, .indexAddr _ _ _, _, _, _, _⟩ :: _) _ _; refine EL.f (FV.idx rfl rfl rfl rfl (by omega) (by omega)) rfl rfl ?_)
           | (show EL _ _ _ _ (⟨_, .move _, _, _, _, _⟩ :: _) _ _; refine EL.f (FV.move rfl) rfl rfl ?_)
           | (show EL _ _ _ _ (⟨_, .assign _, _, _, _, _⟩ :: _) _ _; refine EL.f (FV.assign rfl) rfl rfl ?_)
           | (show EL _ _ _ _ (⟨_, .binOp .add _ _ _ _, _, _, _, _⟩ :: _) _ _; refine EL.f (FV.addI rfl rfl (by omega)) rfl rfl ?_)
           | (show EL _ _ _ _ (⟨_, .call _, _, _, _, _⟩ :: _) _ _; refine EL.f (FV.len rfl rfl) rfl rfl ?_)
           | (show EL _ _ _ _ (⟨_, .pick _ _ _, _, _, _, _⟩ :: _) _ _; refine EL.f (FV.pickT rfl rfl) rfl rfl ?_)
           | (show EL _ _ _ _ (⟨_, .binOp .lss _ _ _ _, _, _, _, _⟩ :: _) _ _; refine EL.fT (FV.lss rfl rfl) rfl (fun _ => rfl) (by omega) ?_)
           | (show EL _ _ _ _ (⟨_, .binOp .eql _ _ _ _, _, _, _, _⟩ :: _) _ _; refine EL.fT (FV.eql rfl rfl) rfl (fun _ => rfl) (by omega) ?_))
        | refine EL.nil ?_
        | refine EW.seq ?_
        | refine EW.region ?_
        | refine EW.block ?_
        | refine EW.skip ?_
        | refine EW.condT rfl ?_)
      refine EL.h (Hv.call hcall rfl) rfl (fun _ => rfl) ?_
      rintro _ u3 ⟨s3, rfl, ⟨hat3, hown3⟩, hO3⟩
      have hOe := Only.bothV hOw hO3
      cases hf : (Ex.freeL vars k 0 (es.take (i + 1)) now a1).2
      · rw [← hnx] at hown3 ⊢
        rw [hf]
        repeat' (first
          | refine EL.f (FV.assign rfl) rfl rfl ?_
          | refine EL.f (FV.not rfl) rfl rfl ?_
          | refine EL.nil ?_
          | refine EW.seq ?_
          | refine EW.region ?_
          | refine EW.ret ?_
          | refine EW.condT rfl ?_)
        have hbad := freeL_bad hf
        exact ⟨_, rfl, s3, by rw [hbad, hf], ⟨hat3, by rw [hbad]; exact hown3⟩, hOe⟩
      · rw [← hnx] at hown3 ⊢
        rw [hf]
        repeat' (first
          | (show EL _ _ _ _ (_ :: _) _ _
             first
             | (show EL _ _ _ _ (⟨_, .move _, _, _, _, _⟩ :: _) _ _; refine EL.f (FV.move rfl) rfl rfl ?_)
             | (show EL _ _ _ _ (⟨_, .assign _, _, _, _, _⟩ :: _) _ _; refine EL.f (FV.assign rfl) rfl rfl ?_)
             | (show EL _ _ _ _ (⟨_, .binOp .add _ _ _ _, _, _, _, _⟩ :: _) _ _; refine EL.f (FV.addI rfl rfl (by omega)) rfl rfl ?_)
             | (show EL _ _ _ _ (⟨_, .unOp .not _ _, _, _, _, _⟩ :: _) _ _; refine EL.f (FV.not rfl) rfl rfl ?_))
          | refine EL.nil ?_
          | refine EW.region ?_
          | refine EW.skip ?_
          | refine EW.condF rfl ?_)
        exact ⟨(i + 1, s3), ⟨rfl, rfl, rfl, rfl, rfl, trivial⟩, ⟨by dsimp only; omega, ⟨hat3, hown3⟩, hf, Only.bothV hOr hO3⟩, by dsimp only; omega⟩
    · have how : ownV k i now = now := if_neg fun q => i1 q.2
      rw [how] at hcall hnx hob
      repeat' (first
        | (show EL _ _ _ _ (_ :: _) _ _
           first
           | (show EL _ _ _ _ (⟨_, .nilCheck _, _, _, _, _⟩ :: _) _ _; refine EL.f (FV.nilChk rfl) rfl rfl ?_)
           | (show EL _ _ _ _ (⟨_, .fieldAddr _ _ _, _, _, _, _⟩ :: _) _ _; refine EL.f (FV.fieldAddr rfl rfl rfl rfl rfl) rfl rfl ?_)
           | (show EL _ _ _ _ (⟨_, .load _ _, _, _, _, _⟩ :: _) _ _; first | refine EL.f (FV.load1 rfl rfl rfl (l0)) rfl rfl ?_ | refine EL.f (FV.load1 rfl rfl rfl (l4)) rfl rfl ?_)
           | (show EL _ _ _ _ (⟨_, .indexAddr _ _ _, _, _, _, _⟩ :: _) _ _; refine EL.f (FV.idx rfl rfl rfl rfl (by omega) (by omega)) rfl rfl ?_)
           | (show EL _ _ _ _ (⟨_, .move _, _, _, _, _⟩ :: _) _ _; refine EL.f (FV.move rfl) rfl rfl ?_)
           | (show EL _ _ _ _ (⟨_, .assign _, _, _, _, _⟩ :: _) _ _; refine EL.f (FV.assign rfl) rfl rfl ?_)
           | (show EL _ _ _ _ (⟨_, .call _, _, _, _, _⟩ :: _) _ _; refine EL.f (FV.len rfl rfl) rfl rfl ?_)
           | (show EL _ _ _ _ (⟨_, .pick _ _ _, _, _, _, _⟩ :: _) _ _; refine EL.f (FV.pickT rfl rfl) rfl rfl ?_)
           | (show EL _ _ _ _ (⟨_, .binOp .lss _ _ _ _, _, _, _, _⟩ :: _) _ _; refine EL.fT (FV.lss rfl rfl) rfl (fun _ => rfl) (by omega) ?_)
           | (show EL _ _ _ _ (⟨_, .binOp .eql _ _ _ _, _, _, _, _⟩ :: _) _ _; first | refine EL.fT (FV.eql rfl rfl) rfl (fun _ => rfl) (by omega) ?_ | refine EL.fF (FV.eql rfl rfl) rfl (fun _ => rfl) (by omega) ?_))
        | refine EL.nil ?_
        | refine EW.seq ?_
        | refine EW.region ?_
        | refine EW.block ?_
        | refine EW.skip ?_
        | refine EW.condT rfl ?_
        | refine EW.condF rfl ?_)
      refine EL.h (Hv.call hcall rfl) rfl (fun _ => rfl) ?_
      rintro _ u3 ⟨s3, rfl, ⟨hat3, hown3⟩, hO3⟩
      have hOe := Only.bothV hOw hO3
      cases hf : (Ex.freeL vars k 0 (es.take (i + 1)) now a1).2
      · rw [← hnx] at hown3 ⊢
        rw [hf]
        repeat' (first
          | refine EL.f (FV.assign rfl) rfl rfl ?_
          | refine EL.f (FV.not rfl) rfl rfl ?_
          | refine EL.nil ?_
          | refine EW.seq ?_
          | refine EW.region ?_
          | refine EW.ret ?_
          | refine EW.condT rfl ?_)
        have hbad := freeL_bad hf
        exact ⟨_, rfl, s3, by rw [hbad, hf], ⟨hat3, by rw [hbad]; exact hown3⟩, hOe⟩
      · rw [← hnx] at hown3 ⊢
        rw [hf]
        repeat' (first
          | (show EL _ _ _ _ (_ :: _) _ _
             first
             | (show EL _ _ _ _ (⟨_, .move _, _, _, _, _⟩ :: _) _ _; refine EL.f (FV.move rfl) rfl rfl ?_)
             | (show EL _ _ _ _ (⟨_, .assign _, _, _, _, _⟩ :: _) _ _; refine EL.f (FV.assign rfl) rfl rfl ?_)
             | (show EL _ _ _ _ (⟨_, .binOp .add _ _ _ _, _, _, _, _⟩ :: _) _ _; refine EL.f (FV.addI rfl rfl (by omega)) rfl rfl ?_)
             | (show EL _ _ _ _ (⟨_, .unOp .not _ _, _, _, _, _⟩ :: _) _ _; refine EL.f (FV.not rfl) rfl rfl ?_))
          | refine EL.nil ?_
          | refine EW.region ?_
          | refine EW.skip ?_
          | refine EW.condF rfl ?_)
        exact ⟨(i + 1, s3), ⟨rfl, rfl, rfl, rfl, rfl, trivial⟩, ⟨by dsimp only; omega, ⟨hat3, hown3⟩, hf, Only.bothV hOr hO3⟩, by dsimp only; omega⟩
  · repeat' (first
      | (show EL _ _ _ _ (_ :: _) _ _
         first
         | (show EL _ _ _ _ (⟨_, _, _, _, _, some _⟩ :: _) _ _; refine EL.skip rfl rfl ?_)
         | (show EL _ _ _ _ (⟨_, .nilCheck _, _, _, _, _⟩ :: _) _ _; refine EL.f (FV.nilChk rfl) rfl rfl ?_)
         | (show EL _ _ _ _ (⟨_, .fieldAddr _ _ _, _, _, _, _⟩ :: _) _ _; refine EL.f (FV.fieldAddr rfl rfl rfl rfl rfl) rfl rfl ?_)
         | (show EL _ _ _ _ (⟨_, .load _ _, _, _, _, _⟩ :: _) _ _; refine EL.f (FV.load1 rfl rfl rfl (l0)) rfl rfl ?_)
         | (show EL _ _ _ _ (⟨_, .move _, _, _, _, _⟩ :: _) _ _; refine EL.f (FV.move rfl) rfl rfl ?_)
         | (show EL _ _ _ _ (⟨_, .assign _, _, _, _, _⟩ :: _) _ _; refine EL.f (FV.assign rfl) rfl rfl ?_)
         | (show EL _ _ _ _ (⟨_, .pick _ _ _, _, _, _, _⟩ :: _) _ _; refine EL.f (FV.pickF rfl rfl) rfl rfl ?_)
         | (show EL _ _ _ _ (⟨_, .binOp .eql _ _ _ _, _, _, _, _⟩ :: _) _ _; refine EL.fF (FV.eql rfl rfl) rfl (fun _ => rfl) (by omega) ?_))
      | refine EL.nil ?_
      | refine EW.seq ?_
      | refine EW.region ?_
      | refine EW.block ?_
      | refine EW.skip ?_
      | refine EW.condF rfl ?_)
    refine EW.loop (X := Nat × Value) (fun y wr => y.1 ≤ es.length ∧ (At wr 24 1 go 1 1 [y.2] ∧ OwnI w0.heap.size wr y.2 (Ex.freeL vars k 0 (es.take y.1) now a1).1) ∧ (Ex.freeL vars k 0 (es.take y.1) now a1).2 = true ∧ Only [some go] w2 wr) (fun y => [(0, .pointer (some ⟨b, o, none⟩)), (1, .int .i64 vars), (2, .int .i64 now), (3, .pointer (some ⟨go, 0, none⟩)), (9, .int .i64 y.1)]) (fun y => es.length - y.1) (0, s1) ⟨Nat.zero_le _, ⟨hat2, by rw [List.take_zero, Ex.freeL]; exact hown2⟩, by rw [List.take_zero, Ex.freeL], Only.weakV (Ext.refl _)⟩ ⟨rfl, rfl, rfl, rfl, rfl, trivial⟩ ?_
    rintro ⟨i, s⟩ wr ⟨hi, ⟨hatr, hownr⟩, hok, hOr⟩
    dsimp only at *
    have hOw := Only.bothV hO2 hOr
    have hEr := Only.afterV hE0 hOw hgo
    replace l0 := (hL0.ext hEr) 0 _ rfl
    replace l4 := (hL0.ext hEr) 4 _ rfl
    have hlen := freeL_length vars k (es.take i) 0 now a1
    by_cases hlt : i < es.length
    rotate_left
    · obtain rfl : i = es.length := by omega
      rw [List.take_length] at hownr hok
      repeat' (first
        | (show EL _ _ _ _ (_ :: _) _ _
           first
           | (show EL _ _ _ _ (⟨_, .nilCheck _, _, _, _, _⟩ :: _) _ _; refine EL.f (FV.nilChk rfl) rfl rfl ?_)
           | (show EL _ _ _ _ (⟨_, .fieldAddr _ _ _, _, _, _, _⟩ :: _) _ _; refine EL.f (FV.fieldAddr rfl rfl rfl rfl rfl) rfl rfl ?_)
           | (show EL _ _ _ _ (⟨_, .load _ _, _, _, _, _⟩ :: _) _ _; refine EL.f (FV.load1 rfl rfl rfl (l4)) rfl rfl ?_)
           | (show EL _ _ _ _ (⟨_, .move _, _, _, _, _⟩ :: _) _ _; refine EL.f (FV.move rfl) rfl rfl ?_)
           | (show EL _ _ _ _ (⟨_, .assign _, _, _, _, _⟩ :: _) _ _; refine EL.f (FV.assign rfl) rfl rfl ?_)
           | (show EL _ _ _ _ (⟨_, .call _, _, _, _, _⟩ :: _) _ _; refine EL.f (FV.len rfl rfl) rfl rfl ?_)
           | (show EL _ _ _ _ (⟨_, .binOp .lss _ _ _ _, _, _, _, _⟩ :: _) _ _; refine EL.fF (FV.lss rfl rfl) rfl (fun _ => rfl) (by omega) ?_))
        | refine EL.nil ?_
        | refine EW.seq ?_
        | refine EW.region ?_
        | refine EW.exit ?_
        | refine EW.ret ?_
        | refine EW.condF rfl ?_)
      exact ⟨_, rfl, s, by rw [hok], ⟨hatr, hownr⟩, hOw⟩
    obtain ⟨b1, o1, cs, rfl, hL, hX, hc⟩ := hks.kid hlt
    have hkd := sizeL_kid hlt
    have hstp := sizeL_take hlt
    have hob := ownV_bound k i now
    have hcall := ih i hlt (ownV k i now) _ s b1 (o1 + i * 5) wr (by omega) (by omega) ⟨cs, hL, hX⟩ hEr hatr hownr (by omega)
    have hnx := freeL_next hlt hok
    have how : ownV k i now = now := if_neg fun q => k9 q.1
    rw [how] at hcall hnx hob
    repeat' (first
      | (show EL _ _ _ _ (_ :: _) _ _
         first
         | (show EL _ _ _ _ (⟨_, _, _, _, _, some _⟩ :: _) _ _; refine EL.skip rfl rfl ?_)
         | (show EL _ _ _ _ (⟨_, .nilCheck _, _, _, _, _⟩ :: _) _ _; refine EL.f (FV.nilChk rfl) rfl rfl ?_)
         | (show EL _ _ _ _ (⟨_, .fieldAddr _ _ _, _, _, _, _⟩ :: _) _ _; refine EL.f (FV.fieldAddr rfl rfl rfl rfl rfl) rfl rfl ?_)
         | (show EL _ _ _ _ (⟨_, .load _ _, _, _, _, _⟩ :: _) _ _; first | refine EL.f (FV.load1 rfl rfl rfl (l0)) rfl rfl ?_ | refine EL.f (FV.load1 rfl rfl rfl (l4)) rfl rfl ?_)
         | (show EL _ _ _ _ (⟨_, .indexAddr _ _ _, _, _, _, _⟩ :: _) _ _; refine EL.f (FV.idx rfl rfl rfl rfl (by omega) (by omega)) rfl rfl ?_)
         | (show EL _ _ _ _ (⟨_, .move _, _, _, _, _⟩ :: _) _ _; refine EL.f (FV.move rfl) rfl rfl ?_)
         | (show EL _ _ _ _ (⟨_, .assign _, _, _, _, _⟩ :: _) _ _; refine EL.f (FV.assign rfl) rfl rfl ?_)
         | (show EL _ _ _ _ (⟨_, .call _, _, _, _, _⟩ :: _) _ _; refine EL.f (FV.len rfl rfl) rfl rfl ?_)
         | (show EL _ _ _ _ (⟨_, .pick _ _ _, _, _, _, _⟩ :: _) _ _; refine EL.f (FV.pickF rfl rfl) rfl rfl ?_)
         | (show EL _ _ _ _ (⟨_, .binOp .lss _ _ _ _, _, _, _, _⟩ :: _) _ _; refine EL.fT (FV.lss rfl rfl) rfl (fun _ => rfl) (by omega) ?_)
         | (show EL _ _ _ _ (⟨_, .binOp .eql _ _ _ _, _, _, _, _⟩ :: _) _ _; refine EL.fF (FV.eql rfl rfl) rfl (fun _ => rfl) (by omega) ?_))
      | refine EL.nil ?_
      | refine EW.seq ?_
      | refine EW.region ?_
      | refine EW.block ?_
      | refine EW.skip ?_
      | refine EW.condT rfl ?_
      | refine EW.condF rfl ?_)
    refine EL.h (Hv.call hcall rfl) rfl (fun _ => rfl) ?_
    rintro _ u3 ⟨s3, rfl, ⟨hat3, hown3⟩, hO3⟩
    have hOe := Only.bothV hOw hO3
    cases hf : (Ex.freeL vars k 0 (es.take (i + 1)) now a1).2
    · rw [← hnx] at hown3 ⊢
      rw [hf]
      repeat' (first
        | refine EL.f (FV.assign rfl) rfl rfl ?_
        | refine EL.f (FV.not rfl) rfl rfl ?_
        | refine EL.nil ?_
        | refine EW.seq ?_
        | refine EW.region ?_
        | refine EW.ret ?_
        | refine EW.condT rfl ?_)
      have hbad := freeL_bad hf
      exact ⟨_, rfl, s3, by rw [hbad, hf], ⟨hat3, by rw [hbad]; exact hown3⟩, hOe⟩
    · rw [← hnx] at hown3 ⊢
      rw [hf]
      repeat' (first
        | (show EL _ _ _ _ (_ :: _) _ _
           first
           | (show EL _ _ _ _ (⟨_, .move _, _, _, _, _⟩ :: _) _ _; refine EL.f (FV.move rfl) rfl rfl ?_)
           | (show EL _ _ _ _ (⟨_, .assign _, _, _, _, _⟩ :: _) _ _; refine EL.f (FV.assign rfl) rfl rfl ?_)
           | (show EL _ _ _ _ (⟨_, .binOp .add _ _ _ _, _, _, _, _⟩ :: _) _ _; refine EL.f (FV.addI rfl rfl (by omega)) rfl rfl ?_)
           | (show EL _ _ _ _ (⟨_, .unOp .not _ _, _, _, _, _⟩ :: _) _ _; refine EL.f (FV.not rfl) rfl rfl ?_))
        | refine EL.nil ?_
        | refine EW.region ?_
        | refine EW.skip ?_
        | refine EW.condF rfl ?_)
      exact ⟨(i + 1, s3), ⟨rfl, rfl, rfl, rfl, rfl, trivial⟩, ⟨by dsimp only; omega, ⟨hat3, hown3⟩, hf, Only.bothV hOr hO3⟩, by dsimp only; omega⟩
set_option maxHeartbeats 4000000 in
theorem implVarsOf (e : Ex) (hs : e.size ≤ 1048577) (cs : List Value) (vars : Int) (w : World) (hx : ExB w 0 cs e) (_hb : -9223372036854775808 ≤ vars ∧ vars ≤ 9223372036854775807) : CallsR Try.prog 24 [.agg cs.toArray, .int .i64 vars] w (SerOut w (fVars e vars)) := by
  refine CallsR.enter Try.func24 (by decide +kernel) rfl Try.ntmps24 rfl ?_
  repeat' (first
    | refine EW.seq ?_
    | refine EW.region ?_)
  refine EL.h (Hv.boxA (sz := 5) rfl hx.len) rfl (fun _ => rfl) ?_
  rintro _ w1 ⟨g1, rfl, hg1, hb, he1⟩
  repeat' (first
    | refine EL.f (FV.assign rfl) rfl rfl ?_
    | refine EL.nil ?_
    | refine EW.seq ?_
    | refine EW.region ?_)
  refine EL.h Hv.makeS rfl (fun _ => rfl) ?_
  rintro _ w2 ⟨m, rfl, hm, hS0, he2⟩
  have hw2 := he1.trans he2
  have hb2 := At.ext hb he2
  by_cases q1 : 0 ≤ vars ∧ vars ≤ 412
  rotate_left
  · have i1 : inBV vars 0 412 = false := decide_eq_false q1
    repeat' (first
      | (show EL _ _ _ _ (_ :: _) _ _
         first
         | (show EL _ _ _ _ (⟨_, _, _, _, _, some _⟩ :: _) _ _; refine EL.skip rfl rfl ?_)
         | (show EL _ _ _ _ (⟨_, .call _, _, _, _, _⟩ :: _) _ _; (refine EL.h (Hv.call (implVarsV _ _) rfl) rfl (fun _ => rfl) ?_; rintro _ _ ⟨rfl, rfl⟩; rw [i1]))
         | (show EL _ _ _ _ (⟨_, .move _, _, _, _, _⟩ :: _) _ _; refine EL.f (FV.move rfl) rfl rfl ?_)
         | (show EL _ _ _ _ (⟨_, .assign _, _, _, _, _⟩ :: _) _ _; refine EL.f (FV.assign rfl) rfl rfl ?_)
         | (show EL _ _ _ _ (⟨_, .unOp .not _ _, _, _, _, _⟩ :: _) _ _; refine EL.f (FV.not rfl) rfl rfl ?_)
         | (show EL _ _ _ _ (⟨_, .pick _ _ _, _, _, _, _⟩ :: _) _ _; refine EL.f (FV.pickT rfl rfl) rfl rfl ?_))
      | refine EL.nil ?_
      | refine EW.seq ?_
      | refine EW.region ?_
      | refine EW.ret ?_
      | refine EW.condT rfl ?_)
    rw [fVars_bad fun q => q1 q.1]
    exact ⟨_, rfl, _, rfl, ⟨rfl, .inl ⟨rfl, rfl⟩⟩, hw2⟩
  have i1 : inBV vars 0 412 = true := decide_eq_true q1
  repeat' (first
    | (show EL _ _ _ _ (_ :: _) _ _
       first
       | (show EL _ _ _ _ (⟨_, .call _, _, _, _, _⟩ :: _) _ _; (refine EL.h (Hv.call (implVarsV _ _) rfl) rfl (fun _ => rfl) ?_; rintro _ _ ⟨rfl, rfl⟩; rw [i1]))
       | (show EL _ _ _ _ (⟨_, .load _ _, _, _, _, _⟩ :: _) _ _; refine EL.f (FV.loadAgg (cs := cs) rfl rfl rfl hx.len rfl (fun _ e => e ▸ At.lies hb2)) rfl rfl ?_)
       | (show EL _ _ _ _ (⟨_, .move _, _, _, _, _⟩ :: _) _ _; refine EL.f (FV.move rfl) rfl rfl ?_)
       | (show EL _ _ _ _ (⟨_, .assign _, _, _, _, _⟩ :: _) _ _; refine EL.f (FV.assign rfl) rfl rfl ?_)
       | (show EL _ _ _ _ (⟨_, .unOp .not _ _, _, _, _, _⟩ :: _) _ _; refine EL.f (FV.not rfl) rfl rfl ?_))
    | refine EL.nil ?_
    | refine EW.seq ?_
    | refine EW.region ?_)
  refine EL.h (Hv.call (implVariables vars m w1 (by omega) q1 e vars [] [] cs w2 hs (by omega) (hx.ext he1) he2 hS0 (fun x => Iff.rfl) (by simp; omega)) rfl) rfl (fun _ => rfl) ?_
  rintro _ w3 ⟨ks', rfl, ⟨hS3, hkl, hmem⟩, hO3⟩
  have hw3 : Ext w w3 := Only.afterV hw2 hO3 (by have := he1.size; omega)
  cases hf : (Ex.free vars e vars []).2
  · repeat' (first
      | refine EL.f (FV.assign rfl) rfl rfl ?_
      | refine EL.f (FV.not rfl) rfl rfl ?_
      | refine EL.f (FV.pickF rfl rfl) rfl rfl ?_
      | refine EL.nil ?_
      | refine EW.seq ?_
      | refine EW.region ?_
      | refine EW.ret ?_
      | refine EW.condT rfl ?_)
    rw [fVars_bad fun q => by rw [hf] at q; exact absurd q.2 (by decide)]
    exact ⟨_, rfl, _, rfl, ⟨rfl, .inl ⟨rfl, rfl⟩⟩, hw3⟩
  · repeat' (first
      | refine EL.f (FV.move rfl) rfl rfl ?_
      | refine EL.f (FV.not rfl) rfl rfl ?_
      | refine EL.f (FV.pickF rfl rfl) rfl rfl ?_
      | refine EL.nil ?_
      | refine EW.seq ?_
      | refine EW.region ?_
      | refine EW.skip ?_
      | refine EW.condF rfl ?_)
    refine EL.h (Hv.call (implAscending m ks' w3 hS3 (by simp at hkl; omega)) rfl) rfl (fun _ => rfl) ?_
    rintro v4 w4 ⟨L, ⟨hL1, hL2, hL3⟩, ho4, he4⟩
    repeat' (first
      | refine EL.f (FV.assign rfl) rfl rfl ?_
      | refine EL.nil ?_
      | refine EW.ret ?_)
    have hLe : L = (Ex.free vars e vars []).1 := rising_ext hL1 (free_rising vars e vars [] (by simp [Rising])) fun x => (hL2 x).trans (hmem hf x)
    subst hLe
    rw [fVars_ok ⟨q1, hf⟩]
    exact ⟨_, rfl, _, rfl, OwnI.lower ho4 hw3.size, hw3.trans he4⟩
set_option maxHeartbeats 4000000 in
theorem specVarsOf (e : Ex) (hs : e.size ≤ 1048577) (cs : List Value) (vars : Int) (w : World) (hx : ExB w 0 cs e) (_hb : -9223372036854775808 ≤ vars ∧ vars ≤ 9223372036854775807) : CallsR Try.prog 22 [.agg cs.toArray, .int .i64 vars] w (SerOut w (fVars e vars)) := by
  refine CallsR.enter Try.func22 (by decide +kernel) rfl Try.ntmps22 rfl ?_
  repeat' (first
    | refine EW.seq ?_
    | refine EW.region ?_)
  refine EL.h (Hv.boxA (sz := 5) rfl hx.len) rfl (fun _ => rfl) ?_
  rintro _ w1 ⟨g1, rfl, hg1, hb, he1⟩
  repeat' (first
    | refine EL.f (FV.assign rfl) rfl rfl ?_
    | refine EL.nil ?_
    | refine EW.seq ?_
    | refine EW.region ?_)
  refine EL.h (Hv.build0 rfl rfl) rfl (fun _ => rfl) ?_
  rintro s w2 ⟨ho2, he2⟩
  skip
  refine EL.h (Hv.allocA rfl rfl) rfl (fun _ => rfl) ?_
  rintro _ w3 ⟨go, rfl, hgo, h3, he3⟩
  obtain ⟨As, cp, rfl, _⟩ := own_form ho2
  skip
  refine EL.h (Hv.storeG rfl rfl rfl rfl rfl h3 rfl) rfl (fun _ => rfl) ?_
  rintro _ w4 ⟨h4, hg4⟩
  have he14 : Ext w1 w4 := Below.wr (he2.trans he3) hg4 (by have := he2.size; omega) (Nat.le_refl _)
  have hw4 := he1.trans he14
  have ho4 : OwnI w1.heap.size w4 (.slice As 0 cp) [] := own_far (own_ext ho2 he3) hg4 (by
    rcases own_ne (own_ext ho2 he3) (At.own h3 (Nat.le_refl _)) (by decide) with q | q
    · exact .inl q
    · exact .inr q)
  have hP : ExP w1 g1 0 e := ⟨cs, At.lies hb, hx.ext he1⟩
  by_cases q1 : 0 ≤ vars ∧ vars ≤ 412
  rotate_left
  · have i1 : inBV vars 0 412 = false := decide_eq_false q1
    repeat' (first
      | (show EL _ _ _ _ (_ :: _) _ _
         first
         | (show EL _ _ _ _ (⟨_, _, _, _, _, some _⟩ :: _) _ _; refine EL.skip rfl rfl ?_)
         | (show EL _ _ _ _ (⟨_, .call _, _, _, _, _⟩ :: _) _ _; (refine EL.h (Hv.call (specVarsV _ _) rfl) rfl (fun _ => rfl) ?_; rintro _ _ ⟨rfl, rfl⟩; rw [i1]))
         | (show EL _ _ _ _ (⟨_, .buildSlice _ _ _, _, _, _, _⟩ :: _) _ _; (refine EL.h (Hv.build0 rfl rfl) rfl (fun _ => rfl) ?_; rintro v w' ⟨ho, he⟩))
         | (show EL _ _ _ _ (⟨_, .move _, _, _, _, _⟩ :: _) _ _; refine EL.f (FV.move rfl) rfl rfl ?_)
         | (show EL _ _ _ _ (⟨_, .assign _, _, _, _, _⟩ :: _) _ _; refine EL.f (FV.assign rfl) rfl rfl ?_)
         | (show EL _ _ _ _ (⟨_, .unOp .not _ _, _, _, _, _⟩ :: _) _ _; refine EL.f (FV.not rfl) rfl rfl ?_)
         | (show EL _ _ _ _ (⟨_, .pick _ _ _, _, _, _, _⟩ :: _) _ _; refine EL.f (FV.pickT rfl rfl) rfl rfl ?_))
      | refine EL.nil ?_
      | refine EW.seq ?_
      | refine EW.region ?_
      | refine EW.ret ?_
      | refine EW.condT rfl ?_)
    rw [fVars_bad fun q => q1 q.1]
    exact ⟨_, rfl, v, rfl, OwnI.lower ho hw4.size, hw4.trans he⟩
  have i1 : inBV vars 0 412 = true := decide_eq_true q1
  repeat' (first
    | (refine EL.h (Hv.call (specVarsV _ _) rfl) rfl (fun _ => rfl) ?_; rintro _ _ ⟨rfl, rfl⟩; rw [i1])
    | refine EL.f (FV.move rfl) rfl rfl ?_
    | refine EL.f (FV.not rfl) rfl rfl ?_
    | refine EL.nil ?_
    | refine EW.seq ?_
    | refine EW.region ?_)
  refine EL.h (Hv.call (specFree vars go w1 (by have := he2.size; omega) q1 e vars [] _ g1 0 w4 hs (by omega) hP he14 h4 ho4 (by simp; omega)) rfl) rfl (fun _ => rfl) ?_
  rintro _ w5 ⟨s', rfl, ⟨hat5, ho5⟩, hO5⟩
  have hw5 : Ext w w5 := Only.afterV hw4 hO5 (by have := he1.size; have := he2.size; omega)
  cases hf : (Ex.free vars e vars []).2
  · repeat' (first
      | (show EL _ _ _ _ (_ :: _) _ _
         first
         | (show EL _ _ _ _ (⟨_, .buildSlice _ _ _, _, _, _, _⟩ :: _) _ _; (refine EL.h (Hv.build0 rfl rfl) rfl (fun _ => rfl) ?_; rintro v w' ⟨ho, he⟩))
         | (show EL _ _ _ _ (⟨_, .assign _, _, _, _, _⟩ :: _) _ _; refine EL.f (FV.assign rfl) rfl rfl ?_)
         | (show EL _ _ _ _ (⟨_, .unOp .not _ _, _, _, _, _⟩ :: _) _ _; refine EL.f (FV.not rfl) rfl rfl ?_)
         | (show EL _ _ _ _ (⟨_, .pick _ _ _, _, _, _, _⟩ :: _) _ _; refine EL.f (FV.pickF rfl rfl) rfl rfl ?_))
      | refine EL.nil ?_
      | refine EW.seq ?_
      | refine EW.region ?_
      | refine EW.ret ?_
      | refine EW.condT rfl ?_)
    rw [fVars_bad fun q => by rw [hf] at q; exact absurd q.2 (by decide)]
    exact ⟨_, rfl, v, rfl, OwnI.lower ho hw5.size, hw5.trans he⟩
  · repeat' (first
      | (show EL _ _ _ _ (_ :: _) _ _
         first
         | (show EL _ _ _ _ (⟨_, .load _ _, _, _, _, _⟩ :: _) _ _; refine EL.f (FV.load1 rfl rfl rfl (At.cell hat5 rfl)) rfl rfl ?_)
         | (show EL _ _ _ _ (⟨_, .assign _, _, _, _, _⟩ :: _) _ _; refine EL.f (FV.assign rfl) rfl rfl ?_)
         | (show EL _ _ _ _ (⟨_, .unOp .not _ _, _, _, _, _⟩ :: _) _ _; refine EL.f (FV.not rfl) rfl rfl ?_)
         | (show EL _ _ _ _ (⟨_, .pick _ _ _, _, _, _, _⟩ :: _) _ _; refine EL.f (FV.pickF rfl rfl) rfl rfl ?_))
      | refine EL.nil ?_
      | refine EW.seq ?_
      | refine EW.region ?_
      | refine EW.skip ?_
      | refine EW.ret ?_
      | refine EW.condF rfl ?_)
    rw [fVars_ok ⟨q1, hf⟩]
    exact ⟨_, rfl, _, rfl, OwnI.lower ho5 he1.size, hw5⟩
end Eng
end Go.Proofs.Ytgahkbcfjibjaaa
