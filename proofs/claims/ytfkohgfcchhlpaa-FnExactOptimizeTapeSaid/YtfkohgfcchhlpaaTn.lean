/- FoldTape: contracts. Conditions: the lengths. -/
import Derived.Test.YtfkohgfcchhlpaaTm
namespace Go.Proofs.Ytfkohgfcchhlpaa
open Go Go.RowKit
namespace Eng
/-- The value of an operation; none for a quotient by 0. -/
def opVal (op a b : Int) : Option Int :=
  if op = 3 then some ((a + b) % 1000003) else if op = 4 then some ((a - b) % 1000003) else if op = 5 then some (a * b % 1000003) else if op = 7 then some ((0 - a) % 1000003) else if b = 0 then none else some (a * inv b % 1000003)
theorem implOperated (x : Ins) (a b : Int) (w : World) :
    CallsR Try.prog 135 [.agg (insV x).toArray, .int .i64 a, .int .i64 b] w fun v w' => v = (match opVal x.op a b with | some n => .tuple #[.int .i64 n, .bool true] | none => .tuple #[.int .i64 0, .bool false]) ∧ Ext w w' := by
  refine CallsR.enter Try.func135 (by decide +kernel) rfl Try.ntmps135 rfl ?_
  repeat' (first
    | refine EW.seq ?_
    | refine EW.region ?_)
  refine EL.h (Hv.boxA (sz := 4) rfl rfl) rfl (fun _ => rfl) ?_
  rintro _ w1 ⟨g1, rfl, hg1, hb, he1⟩
  unfold opVal
  by_cases o3 : x.op = 3
  · rw [if_pos o3]
    repeat' (first
      | (show EL _ _ _ _ (_ :: _) _ _
         first
         | (show EL _ _ _ _ (⟨_, .fieldAddr _ _ _, _, _, _, _⟩ :: _) _ _; refine EL.f (FV.fieldAddr rfl rfl rfl rfl rfl) rfl rfl ?_)
         | (show EL _ _ _ _ (⟨_, .load _ _, _, _, _, _⟩ :: _) _ _; refine EL.f (FV.load1 rfl rfl rfl (At.cell hb rfl)) rfl rfl ?_)
         | (show EL _ _ _ _ (⟨_, .call _, _, _, _, _⟩ :: _) _ _; (refine EL.h (Hv.call (implPlus _ _ _) rfl) rfl (fun _ => rfl) ?_; rintro _ _ ⟨rfl, rfl⟩))
         | (show EL _ _ _ _ (⟨_, .move _, _, _, _, _⟩ :: _) _ _; refine EL.f (FV.move rfl) rfl rfl ?_)
         | (show EL _ _ _ _ (⟨_, .assign _, _, _, _, _⟩ :: _) _ _; refine EL.f (FV.assign rfl) rfl rfl ?_)
         | (show EL _ _ _ _ (⟨_, .binOp .eql _ _ _ _, _, _, _, _⟩ :: _) _ _; refine EL.fT (FV.eql rfl rfl) rfl (fun _ => rfl) (by omega) ?_))
      | refine EL.nil ?_
      | refine EW.seq ?_
      | refine EW.region ?_
      | refine EW.block ?_
      | refine EW.ret ?_
      | refine EW.condT rfl ?_)
    exact ⟨_, rfl, rfl, he1⟩
  rw [if_neg o3]
  by_cases o4 : x.op = 4
  · rw [if_pos o4]
    repeat' (first
      | (show EL _ _ _ _ (_ :: _) _ _
         first
         | (show EL _ _ _ _ (⟨_, .fieldAddr _ _ _, _, _, _, _⟩ :: _) _ _; refine EL.f (FV.fieldAddr rfl rfl rfl rfl rfl) rfl rfl ?_)
         | (show EL _ _ _ _ (⟨_, .load _ _, _, _, _, _⟩ :: _) _ _; refine EL.f (FV.load1 rfl rfl rfl (At.cell hb rfl)) rfl rfl ?_)
         | (show EL _ _ _ _ (⟨_, .call _, _, _, _, _⟩ :: _) _ _; (refine EL.h (Hv.call (implMinus _ _ _) rfl) rfl (fun _ => rfl) ?_; rintro _ _ ⟨rfl, rfl⟩))
         | (show EL _ _ _ _ (⟨_, .move _, _, _, _, _⟩ :: _) _ _; refine EL.f (FV.move rfl) rfl rfl ?_)
         | (show EL _ _ _ _ (⟨_, .assign _, _, _, _, _⟩ :: _) _ _; refine EL.f (FV.assign rfl) rfl rfl ?_)
         | (show EL _ _ _ _ (⟨_, .binOp .eql _ _ _ _, _, _, _, _⟩ :: _) _ _; first | refine EL.fT (FV.eql rfl rfl) rfl (fun _ => rfl) (by omega) ?_ | refine EL.fF (FV.eql rfl rfl) rfl (fun _ => rfl) (by omega) ?_))
      | refine EL.nil ?_
      | refine EW.seq ?_
      | refine EW.region ?_
      | refine EW.block ?_
      | refine EW.ret ?_
      | refine EW.condT rfl ?_
      | refine EW.condF rfl ?_)
    exact ⟨_, rfl, rfl, he1⟩
  rw [if_neg o4]
  by_cases o5 : x.op = 5
  · rw [if_pos o5]
    repeat' (first
      | (show EL _ _ _ _ (_ :: _) _ _
         first
         | (show EL _ _ _ _ (⟨_, .fieldAddr _ _ _, _, _, _, _⟩ :: _) _ _; refine EL.f (FV.fieldAddr rfl rfl rfl rfl rfl) rfl rfl ?_)
         | (show EL _ _ _ _ (⟨_, .load _ _, _, _, _, _⟩ :: _) _ _; refine EL.f (FV.load1 rfl rfl rfl (At.cell hb rfl)) rfl rfl ?_)
         | (show EL _ _ _ _ (⟨_, .call _, _, _, _, _⟩ :: _) _ _; (refine EL.h (Hv.call (implTimes _ _ _) rfl) rfl (fun _ => rfl) ?_; rintro _ _ ⟨rfl, rfl⟩))
         | (show EL _ _ _ _ (⟨_, .move _, _, _, _, _⟩ :: _) _ _; refine EL.f (FV.move rfl) rfl rfl ?_)
         | (show EL _ _ _ _ (⟨_, .assign _, _, _, _, _⟩ :: _) _ _; refine EL.f (FV.assign rfl) rfl rfl ?_)
         | (show EL _ _ _ _ (⟨_, .binOp .eql _ _ _ _, _, _, _, _⟩ :: _) _ _; first | refine EL.fT (FV.eql rfl rfl) rfl (fun _ => rfl) (by omega) ?_ | refine EL.fF (FV.eql rfl rfl) rfl (fun _ => rfl) (by omega) ?_))
      | refine EL.nil ?_
      | refine EW.seq ?_
      | refine EW.region ?_
      | refine EW.block ?_
      | refine EW.ret ?_
      | refine EW.condT rfl ?_
      | refine EW.condF rfl ?_)
    exact ⟨_, rfl, rfl, he1⟩
  rw [if_neg o5]
  by_cases o7 : x.op = 7
  · rw [if_pos o7]
    repeat' (first
      | (show EL _ _ _ _ (_ :: _) _ _
         first
         | (show EL _ _ _ _ (⟨_, .fieldAddr _ _ _, _, _, _, _⟩ :: _) _ _; refine EL.f (FV.fieldAddr rfl rfl rfl rfl rfl) rfl rfl ?_)
         | (show EL _ _ _ _ (⟨_, .load _ _, _, _, _, _⟩ :: _) _ _; refine EL.f (FV.load1 rfl rfl rfl (At.cell hb rfl)) rfl rfl ?_)
         | (show EL _ _ _ _ (⟨_, .call _, _, _, _, _⟩ :: _) _ _; (refine EL.h (Hv.call (implMinus _ _ _) rfl) rfl (fun _ => rfl) ?_; rintro _ _ ⟨rfl, rfl⟩))
         | (show EL _ _ _ _ (⟨_, .move _, _, _, _, _⟩ :: _) _ _; refine EL.f (FV.move rfl) rfl rfl ?_)
         | (show EL _ _ _ _ (⟨_, .assign _, _, _, _, _⟩ :: _) _ _; refine EL.f (FV.assign rfl) rfl rfl ?_)
         | (show EL _ _ _ _ (⟨_, .binOp .eql _ _ _ _, _, _, _, _⟩ :: _) _ _; first | refine EL.fT (FV.eql rfl rfl) rfl (fun _ => rfl) (by omega) ?_ | refine EL.fF (FV.eql rfl rfl) rfl (fun _ => rfl) (by omega) ?_))
      | refine EL.nil ?_
      | refine EW.seq ?_
      | refine EW.region ?_
      | refine EW.block ?_
      | refine EW.ret ?_
      | refine EW.condT rfl ?_
      | refine EW.condF rfl ?_)
    exact ⟨_, rfl, rfl, he1⟩
  rw [if_neg o7]
  by_cases hz : b = 0
  · rw [if_pos hz]
    repeat' (first
      | (show EL _ _ _ _ (_ :: _) _ _
         first
         | (show EL _ _ _ _ (⟨_, .fieldAddr _ _ _, _, _, _, _⟩ :: _) _ _; refine EL.f (FV.fieldAddr rfl rfl rfl rfl rfl) rfl rfl ?_)
         | (show EL _ _ _ _ (⟨_, .load _ _, _, _, _, _⟩ :: _) _ _; refine EL.f (FV.load1 rfl rfl rfl (At.cell hb rfl)) rfl rfl ?_)
         | (show EL _ _ _ _ (⟨_, .move _, _, _, _, _⟩ :: _) _ _; refine EL.f (FV.move rfl) rfl rfl ?_)
         | (show EL _ _ _ _ (⟨_, .assign _, _, _, _, _⟩ :: _) _ _; refine EL.f (FV.assign rfl) rfl rfl ?_)
         | (show EL _ _ _ _ (⟨_, .binOp .eql _ _ _ _, _, _, _, _⟩ :: _) _ _; first | refine EL.fT (FV.eql rfl rfl) rfl (fun _ => rfl) (by omega) ?_ | refine EL.fF (FV.eql rfl rfl) rfl (fun _ => rfl) (by omega) ?_))
      | refine EL.nil ?_
      | refine EW.seq ?_
      | refine EW.region ?_
      | refine EW.block ?_
      | refine EW.skip ?_
      | refine EW.ret ?_
      | refine EW.condT rfl ?_
      | refine EW.condF rfl ?_)
    exact ⟨_, rfl, rfl, he1⟩
  · rw [if_neg hz]
    repeat' (first
      | (show EL _ _ _ _ (_ :: _) _ _
         first
         | (show EL _ _ _ _ (⟨_, .fieldAddr _ _ _, _, _, _, _⟩ :: _) _ _; refine EL.f (FV.fieldAddr rfl rfl rfl rfl rfl) rfl rfl ?_)
         | (show EL _ _ _ _ (⟨_, .load _ _, _, _, _, _⟩ :: _) _ _; refine EL.f (FV.load1 rfl rfl rfl (At.cell hb rfl)) rfl rfl ?_)
         | (show EL _ _ _ _ (⟨_, .call _, _, _, _, _⟩ :: _) _ _; first | (refine EL.h (Hv.call (implTimes _ _ _) rfl) rfl (fun _ => rfl) ?_; rintro _ _ ⟨rfl, rfl⟩) | (refine EL.h (Hv.call (implInverse0 _ _) rfl) rfl (fun _ => rfl) ?_; rintro _ _ ⟨rfl, rfl⟩))
         | (show EL _ _ _ _ (⟨_, .move _, _, _, _, _⟩ :: _) _ _; refine EL.f (FV.move rfl) rfl rfl ?_)
         | (show EL _ _ _ _ (⟨_, .assign _, _, _, _, _⟩ :: _) _ _; refine EL.f (FV.assign rfl) rfl rfl ?_)
         | (show EL _ _ _ _ (⟨_, .binOp .eql _ _ _ _, _, _, _, _⟩ :: _) _ _; refine EL.fF (FV.eql rfl rfl) rfl (fun _ => rfl) (by omega) ?_))
      | refine EL.nil ?_
      | refine EW.seq ?_
      | refine EW.region ?_
      | refine EW.block ?_
      | refine EW.skip ?_
      | refine EW.ret ?_
      | refine EW.condF rfl ?_)
    exact ⟨_, rfl, rfl, he1⟩
theorem specValue (op a b : Int) (n : Int) (w : World) (ha : 0 ≤ a ∧ a < 1000003) (hb : 0 ≤ b ∧ b < 1000003) (h7 : op ≠ 7) (e : opVal op a b = some n) :
    CallsR Try.prog 133 [.int .i64 op, .int .i64 a, .int .i64 b] w fun v w' => v = .int .i64 n ∧ w = w' := by
  refine CallsR.enter Try.func133 (by decide +kernel) rfl Try.ntmps133 rfl ?_
  unfold opVal at e
  by_cases o3 : op = 3
  · rw [if_pos o3] at e
    injection e with e
    subst e
    repeat' (first
      | (show EL _ _ _ _ (_ :: _) _ _
         first
         | (show EL _ _ _ _ (⟨_, .call _, _, _, _, _⟩ :: _) _ _; (refine EL.h (Hv.call (specPlus _ _ _) rfl) rfl (fun _ => rfl) ?_; rintro _ _ ⟨rfl, rfl⟩))
         | (show EL _ _ _ _ (⟨_, .move _, _, _, _, _⟩ :: _) _ _; refine EL.f (FV.move rfl) rfl rfl ?_)
         | (show EL _ _ _ _ (⟨_, .assign _, _, _, _, _⟩ :: _) _ _; refine EL.f (FV.assign rfl) rfl rfl ?_)
         | (show EL _ _ _ _ (⟨_, .binOp .eql _ _ _ _, _, _, _, _⟩ :: _) _ _; refine EL.fT (FV.eql rfl rfl) rfl (fun _ => rfl) (by omega) ?_))
      | refine EL.nil ?_
      | refine EW.seq ?_
      | refine EW.region ?_
      | refine EW.block ?_
      | refine EW.ret ?_
      | refine EW.condT rfl ?_)
    exact ⟨_, rfl, rfl, rfl⟩
  rw [if_neg o3] at e
  by_cases o4 : op = 4
  · rw [if_pos o4] at e
    injection e with e
    subst e
    repeat' (first
      | (show EL _ _ _ _ (_ :: _) _ _
         first
         | (show EL _ _ _ _ (⟨_, .call _, _, _, _, _⟩ :: _) _ _; (refine EL.h (Hv.call (specMinus _ _ (by omega) (by omega) _) rfl) rfl (fun _ => rfl) ?_; rintro _ _ ⟨rfl, rfl⟩))
         | (show EL _ _ _ _ (⟨_, .move _, _, _, _, _⟩ :: _) _ _; refine EL.f (FV.move rfl) rfl rfl ?_)
         | (show EL _ _ _ _ (⟨_, .assign _, _, _, _, _⟩ :: _) _ _; refine EL.f (FV.assign rfl) rfl rfl ?_)
         | (show EL _ _ _ _ (⟨_, .binOp .eql _ _ _ _, _, _, _, _⟩ :: _) _ _; first | refine EL.fT (FV.eql rfl rfl) rfl (fun _ => rfl) (by omega) ?_ | refine EL.fF (FV.eql rfl rfl) rfl (fun _ => rfl) (by omega) ?_))
      | refine EL.nil ?_
      | refine EW.seq ?_
      | refine EW.region ?_
      | refine EW.block ?_
      | refine EW.ret ?_
      | refine EW.condT rfl ?_
      | refine EW.condF rfl ?_)
    exact ⟨_, rfl, rfl, rfl⟩
  rw [if_neg o4] at e
  by_cases o5 : op = 5
  · rw [if_pos o5] at e
    injection e with e
    subst e
    repeat' (first
      | (show EL _ _ _ _ (_ :: _) _ _
         first
         | (show EL _ _ _ _ (⟨_, .call _, _, _, _, _⟩ :: _) _ _; (refine EL.h (Hv.call (specTimes _ _ _) rfl) rfl (fun _ => rfl) ?_; rintro _ _ ⟨rfl, rfl⟩))
         | (show EL _ _ _ _ (⟨_, .move _, _, _, _, _⟩ :: _) _ _; refine EL.f (FV.move rfl) rfl rfl ?_)
         | (show EL _ _ _ _ (⟨_, .assign _, _, _, _, _⟩ :: _) _ _; refine EL.f (FV.assign rfl) rfl rfl ?_)
         | (show EL _ _ _ _ (⟨_, .binOp .eql _ _ _ _, _, _, _, _⟩ :: _) _ _; first | refine EL.fT (FV.eql rfl rfl) rfl (fun _ => rfl) (by omega) ?_ | refine EL.fF (FV.eql rfl rfl) rfl (fun _ => rfl) (by omega) ?_))
      | refine EL.nil ?_
      | refine EW.seq ?_
      | refine EW.region ?_
      | refine EW.block ?_
      | refine EW.ret ?_
      | refine EW.condT rfl ?_
      | refine EW.condF rfl ?_)
    exact ⟨_, rfl, rfl, rfl⟩
  rw [if_neg o5, if_neg h7] at e
  by_cases hz : b = 0
  · rw [if_pos hz] at e
    cases e
  · rw [if_neg hz] at e
    injection e with e
    subst e
    repeat' (first
      | (show EL _ _ _ _ (_ :: _) _ _
         first
         | (show EL _ _ _ _ (⟨_, .call _, _, _, _, _⟩ :: _) _ _; first | (refine EL.h (Hv.call (specTimes _ _ _) rfl) rfl (fun _ => rfl) ?_; rintro _ _ ⟨rfl, rfl⟩) | (refine EL.h (Hv.call (specInverse0 _ _) rfl) rfl (fun _ => rfl) ?_; rintro _ _ ⟨rfl, rfl⟩))
         | (show EL _ _ _ _ (⟨_, .move _, _, _, _, _⟩ :: _) _ _; refine EL.f (FV.move rfl) rfl rfl ?_)
         | (show EL _ _ _ _ (⟨_, .assign _, _, _, _, _⟩ :: _) _ _; refine EL.f (FV.assign rfl) rfl rfl ?_)
         | (show EL _ _ _ _ (⟨_, .binOp .eql _ _ _ _, _, _, _, _⟩ :: _) _ _; refine EL.fF (FV.eql rfl rfl) rfl (fun _ => rfl) (by omega) ?_))
      | refine EL.nil ?_
      | refine EW.seq ?_
      | refine EW.region ?_
      | refine EW.block ?_
      | refine EW.skip ?_
      | refine EW.ret ?_
      | refine EW.condF rfl ?_)
    exact ⟨_, rfl, rfl, rfl⟩
/-- May it be folded behind code? -/
def canF (code : List Ins) (x : Ins) : Prop := 3 ≤ x.op ∧ (code.getD x.a.toNat dIns).op = 2 ∧ (x.op = 7 ∨ (code.getD x.b.toNat dIns).op = 2)
instance (code : List Ins) (x : Ins) : Decidable (canF code x) := inferInstanceAs (Decidable (_ ∧ _ ∧ _))
def foldI (code : List Ins) (x : Ins) : Ins := if canF code x then (match opVal x.op (code.getD x.a.toNat dIns).num (code.getD x.b.toNat dIns).num with | some v => ⟨2, 0, 0, v⟩ | none => x) else x
def foldC (t : Tp) : Nat → List Ins
  | 0 => []
  | k + 1 => foldC t k ++ [foldI (foldC t k) (t.code.getD k dIns)]
theorem foldC_length (t : Tp) (k : Nat) : (foldC t k).length = k := by
  induction k with
  | zero => rfl
  | succ k ih => simp [foldC, ih]
def idL (n : Nat) : List Int := mapR (fun i => (i : Int)) n
def fFoldTape (t : Tp) : Tp × Int := if okT t = true then (endT t (foldC t t.code.length) (idL t.code.length), 0) else (⟨0, [], [], []⟩, 1)
theorem fFoldTape_fit (t : Tp) (h : Fit t) : Fit (fFoldTape t).1 := by
  unfold fFoldTape
  split
  · exact ⟨by simp only [endT, foldC_length]; exact h.c, by simp only [endT, gdsTo_length]; exact h.g, by simp only [endT, outsTo, mapR_length]; exact h.o⟩
  · exact ⟨by simp, by simp, by simp⟩
theorem okI_b0 {inp k : Int} {x : Ins} (h : okI inp x k = true) (o : x.op = 7) : x.b = 0 := by
  unfold okI at h
  rw [if_neg (by omega), if_neg (by omega), if_neg (by omega), if_pos o] at h
  simp only [Bool.and_eq_true, decide_eq_true_eq] at h
  exact h.2.1
theorem insL_snoc (xs : List Ins) (x : Ins) : insL (xs ++ [x]) = insL xs ++ insV x := by simp [insL]
theorem EW.seqR {P : Program} {n : Nat} {Q : Exit → Env → World → Prop} {ρ : Env} {w : World} {x y : Code} {K : Env → World → Prop} (h : EW P n x (thenE K Q) ρ w) (hk : ∀ ρ' w', K ρ' w' → EW P n y Q ρ' w') : EW P n (.seq x y) Q ρ w :=
  EW.seq (EW.mono h fun e ρ' w' hq => by cases e <;> first | exact hk _ _ hq | exact hq)
/-- An assertion ahead of the last of four. -/
theorem EW.seq3 {P : Program} {n : Nat} {Q : Exit → Env → World → Prop} {ρ : Env} {w : World} {a b c d : Code} (M : Env → World → Prop) (h : EW P n a (thenE (fun ρ w => EW P n b (thenE (fun ρ w => EW P n c (thenE M Q) ρ w) Q) ρ w) Q) ρ w) (h2 : ∀ ρ' w', M ρ' w' → EW P n d Q ρ' w') : EW P n (.seq a (.seq b (.seq c d))) Q ρ w :=
  EW.seqR h fun _ _ h => EW.seqR h fun _ _ h => EW.seqR h h2
theorem OwnT.empty (B : Nat) (w : World) : OwnT B w (.agg #[.int .i64 0, .slice none 0 0, .slice none 0 0, .slice none 0 0]) ⟨0, [], [], []⟩ := ⟨_, _, _, rfl, ⟨rfl, .inl ⟨rfl, rfl⟩⟩, ⟨rfl, .inl ⟨rfl, rfl⟩⟩, OwnI.none _ _⟩
theorem OwnT.box {B g : Nat} {w w' : World} {v : Value} {t : Tp} {cs : List Value} (h : OwnT B w v t) (hat : At w 32 4 g 1 1 cs) (hr : w.grownBy w' (some g)) : OwnT B w' v t := by
  obtain ⟨s1, s2, s3, rfl, h1, h2, h3⟩ := h
  exact ⟨_, _, _, rfl, own_box h1 hat (by decide) hr, own_box h2 hat (by decide) hr, own_box h3 hat (by decide) hr⟩
theorem OwnT.lower {B B' : Nat} {w : World} {v : Value} {t : Tp} (h : OwnT B w v t) (hB : B' ≤ B) : OwnT B' w v t := by
  obtain ⟨s1, s2, s3, rfl, h1, h2, h3⟩ := h
  exact ⟨_, _, _, rfl, own_lower h1 hB, own_lower h2 hB, OwnI.lower h3 hB⟩
theorem implShorter (v : Value) (t : Tp) (f : FuncId) (g : Tp → Tp) (w : World) (h : TapeV w v t) (hf : Fit t) (how : okT t = true → ∀ v' w', TapeV w' v' t → CallsR Try.prog f [v'] w' fun r w'' => OwnT w'.heap.size w'' r (g t) ∧ Ext w' w'') :
    CallsR Try.prog 81 [v, .func (.func f) #[] #[]] w (TapOut w (if okT t = true then (g t, 0) else (⟨0, [], [], []⟩, 1))) := by
  have hv := h
  obtain ⟨P, p, Q, q, R, r, rfl, r1, r2, r3⟩ := h
  refine CallsR.enterCT Try.func81 (by decide +kernel) rfl Try.ntmps81 rfl rfl rfl rfl rfl ?_
  repeat' (first
    | refine EW.seq ?_
    | refine EW.region ?_)
  refine EL.h (Hv.boxA (sz := 4) rfl rfl) rfl (fun _ => rfl) ?_
  rintro _ w1 ⟨g1, rfl, hg1, hb, he1⟩
  skip
  refine EL.h (Hv.allocA rfl rfl) rfl (fun _ => rfl) ?_
  rintro _ w2 ⟨g2, rfl, hg2, h2, he2⟩
  have s1 := he1.size
  have hw2 := he1.trans he2
  replace hb := At.ext hb he2
  repeat' (first
    | refine EL.f (FV.loadAgg (cs := [.int .i64 t.inputs, .slice P t.code.length p, .slice Q t.guards.length q, .slice R t.outs.length r]) rfl rfl rfl rfl rfl (fun _ e => e ▸ At.lies hb)) rfl rfl ?_
    | refine EL.f (FV.assign rfl) rfl rfl ?_
    | refine EL.nil ?_
    | refine EW.seq ?_
    | refine EW.region ?_)
  refine EL.h (Hv.call (implValidTape _ t w2 (hv.ext hw2) hf) rfl) rfl (fun _ => rfl) ?_
  rintro _ w3 ⟨rfl, he3⟩
  have hw3 := hw2.trans he3
  replace hb := At.ext hb he3
  replace h2 := At.ext h2 he3
  have l2 := At.lt h2
  cases ok : okT t
  · repeat' (first
      | refine EL.f (FV.not rfl) rfl rfl ?_
      | refine EL.nil ?_
      | refine EL.f FV.buildT0 rfl rfl ?_
      | refine EW.seq ?_
      | refine EW.region ?_
      | refine EW.condT rfl ?_)
    refine EL.h (Hv.storeAggG (vs := [.int .i64 0, .slice none 0 0, .slice none 0 0, .slice none 0 0]) rfl rfl rfl rfl (fun v hv => by simp only [List.mem_cons, List.not_mem_nil, or_false] at hv; rcases hv with rfl | rfl | rfl | rfl <;> rfl) h2 (Nat.le_refl _)) rfl (fun _ => rfl) ?_
    rintro _ w4 ⟨h4, hr4⟩
    repeat' (first
      | refine EL.f (FV.assign rfl) rfl rfl ?_
      | refine EL.nil ?_
      | refine EW.ret ?_)
    exact ⟨g2, 0, [.int .i64 0, .slice none 0 0, .slice none 0 0, .slice none 0 0], _, rfl, rfl, At.lies h4, rfl, _, rfl, OwnT.empty _ _, Below.wr hw3 hr4 (by omega) (Nat.le_refl _)⟩
  · rw [if_pos rfl]
    repeat' (first
      | refine EL.f (FV.loadAgg (cs := [.int .i64 t.inputs, .slice P t.code.length p, .slice Q t.guards.length q, .slice R t.outs.length r]) rfl rfl rfl rfl rfl (fun _ e => e ▸ At.lies hb)) rfl rfl ?_
      | refine EL.f (FV.move rfl) rfl rfl ?_
      | refine EL.f (FV.not rfl) rfl rfl ?_
      | refine EL.nil ?_
      | refine EW.seq ?_
      | refine EW.region ?_
      | refine EW.skip ?_
      | refine EW.condF rfl ?_)
    refine EL.h (Hv.callF (how ok _ w3 (hv.ext hw3)) rfl rfl) rfl (fun _ => rfl) ?_
    rintro tv w4 ⟨hown, he4⟩
    have tL := fun k => @OwnT.block _ _ _ _ hown k
    have ones := OwnT.ones hown
    obtain ⟨a, b, c, e⟩ := OwnT.cells hown
    have one := ones _ _ _ e
    subst e
    replace h2 := At.ext h2 he4
    have hw4 := hw3.trans he4
    skip
    refine EL.h (Hv.storeAggG (vs := [.int .i64 (g t).inputs, a, b, c]) rfl rfl rfl rfl (fun v hv => by simp only [List.mem_cons, List.not_mem_nil, or_false] at hv; rcases hv with rfl | rfl | rfl | rfl; rfl; exact one.1; exact one.2.1; exact one.2.2) h2 (Nat.le_refl _)) rfl (fun _ => rfl) ?_
    rintro _ w5 ⟨h5, hr5⟩
    repeat' (first
      | refine EL.f (FV.assign rfl) rfl rfl ?_
      | refine EL.nil ?_
      | refine EW.ret ?_)
    exact ⟨g2, 0, [.int .i64 (g t).inputs, a, b, c], _, rfl, rfl, At.lies h5, rfl, _, rfl, OwnT.lower (OwnT.far hown hr5 (fun k hk => by have := tL k hk; omega)) hw3.size, Below.wr hw4 hr5 (by omega) (Nat.le_refl _)⟩
end Eng
end Go.Proofs.Ytfkohgfcchhlpaa
