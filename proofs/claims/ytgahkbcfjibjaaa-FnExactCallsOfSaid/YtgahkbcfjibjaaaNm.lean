/- Names: both functions. No condition but the length that a machine holds. -/
import Derived.Test.YtgahkbcfjibjaaaGn
namespace Go.Proofs.Ytgahkbcfjibjaaa
open Go Go.RowKit
namespace Eng
def byt (s : ByteArray) (i : Nat) : Int := ((s[i]?).getD 0).toNat
/-- s[i]. -/
theorem FV.idxS {P : Program} [UTab P] {n : Nat} {S : World → Prop} {ρ : Env} {dst : Option Tmp} {ty : TypeId} {pos : String} {af : Array Edge} {g : Option (Nat × Bool)} {x y : Operand} {t : TypeId} {s : ByteArray} {k : IntKind} {i : Nat} (ht : UTab.und P t = some .string) (hx : ev ρ x = some (.string s)) (hj : ev ρ y = some (.int k (i : Int))) (h1 : i < s.size) :
    FV P n S ρ ⟨dst, .index t x y, ty, pos, af, g⟩ (.int .u8 (byt s i)) :=
  ⟨fun a ha w _ => by
    have e : s[i]? = some (s[i]?.getD 0) := by rw [getElem?_pos s i h1]; rfl
    have h0 : (0 : Int) ≤ (i : Int) := by omega
    simp only [execOp, ha.eval hx, ha.eval hj, Instr.index, asIntOf, Sem.run_bind, Sem.run_pure, Result.andThen_ok, run_und ht, if_pos h0, Int.toNat_natCast]
    rw [e]
    simp [byt]⟩
def isL (c : Int) : Prop := 97 ≤ c ∧ c ≤ 122
def isLD (c : Int) : Prop := (97 ≤ c ∧ c ≤ 122) ∨ (48 ≤ c ∧ c ≤ 57)
instance (c : Int) : Decidable (isL c) := inferInstanceAs (Decidable (_ ∧ _))
instance (c : Int) : Decidable (isLD c) := inferInstanceAs (Decidable (_ ∨ _))
def nameOk (s : ByteArray) : Bool := decide ((1 ≤ s.size ∧ s.size ≤ 12) ∧ isL (byt s 0)) && (List.range s.size).all fun i => decide (isLD (byt s i))
theorem nameOk_size {s : ByteArray} (h : ¬ (1 ≤ s.size ∧ s.size ≤ 12)) : nameOk s = false := by
  unfold nameOk
  rw [decide_eq_false (fun e => h e.1), Bool.false_and]
theorem nameOk_first {s : ByteArray} (h : ¬ isL (byt s 0)) : nameOk s = false := by
  unfold nameOk
  rw [decide_eq_false (fun e => h e.2), Bool.false_and]
theorem nameOk_at {s : ByteArray} {i : Nat} (hi : i < s.size) (h : ¬ isLD (byt s i)) : nameOk s = false := by
  unfold nameOk
  have : ((List.range s.size).all fun i => decide (isLD (byt s i))) = false := by
    rw [List.all_eq_false]
    exact ⟨i, List.mem_range.2 hi, by simpa using h⟩
  rw [this, Bool.and_false]
theorem nameOk_true {s : ByteArray} (h1 : 1 ≤ s.size ∧ s.size ≤ 12) (h2 : isL (byt s 0)) (h3 : ∀ i, i < s.size → isLD (byt s i)) : nameOk s = true := by
  unfold nameOk
  rw [decide_eq_true ⟨h1, h2⟩, Bool.true_and, List.all_eq_true]
  intro i hi
  exact decide_eq_true (h3 i (List.mem_range.1 hi))
set_option maxHeartbeats 4000000 in
theorem implIsName (s : ByteArray) (w : World) (hs : s.size ≤ 9223372036854775807) : CallsR Try.prog 85 [.string s] w fun v w' => v = .bool (nameOk s) ∧ Ext w w' := by
  refine CallsR.enter Try.func85 (by decide +kernel) rfl Try.ntmps85 rfl ?_
  repeat' (first
    | (show EL _ _ _ _ (_ :: _) _ _
       first
       | (show EL _ _ _ _ (⟨_, _, _, _, _, some _⟩ :: _) _ _; refine EL.skip rfl rfl ?_)
       | (show EL _ _ _ _ (⟨_, .move _, _, _, _, _⟩ :: _) _ _; refine EL.f (FV.move rfl) rfl rfl ?_)
       | (show EL _ _ _ _ (⟨_, .assign _, _, _, _, _⟩ :: _) _ _; refine EL.f (FV.assign rfl) rfl rfl ?_)
       | (show EL _ _ _ _ (⟨_, .binOp .add _ _ _ _, _, _, _, _⟩ :: _) _ _; refine EL.f (FV.addI rfl rfl (by omega)) rfl rfl ?_)
       | (show EL _ _ _ _ (⟨_, .binOp .sub _ _ _ _, _, _, _, _⟩ :: _) _ _; refine EL.f (FV.subI rfl rfl (by omega)) rfl rfl ?_)
       | (show EL _ _ _ _ (⟨_, .binOp .rem _ _ _ _, _, _, _, _⟩ :: _) _ _; first | refine EL.f (FV.remI rfl rfl (by decide) (by omega)) rfl rfl ?_ | refine EL.f (FV.rem rfl rfl (by decide)) rfl rfl ?_)
       | (show EL _ _ _ _ (⟨_, .binOp .quo _ _ _ _, _, _, _, _⟩ :: _) _ _; refine EL.f (FV.quoI rfl rfl (by decide) (by omega)) rfl rfl ?_)
       | (show EL _ _ _ _ (⟨_, .extract _ _, _, _, _, _⟩ :: _) _ _; refine EL.f (FV.extract rfl rfl) rfl rfl ?_)
       | (show EL _ _ _ _ (⟨_, .call _, _, _, _, _⟩ :: _) _ _; first | refine EL.f (FV.len rfl rfl) rfl rfl ?_ | refine EL.f (FV.lenS rfl rfl) rfl rfl ?_)
       | (show EL _ _ _ _ (⟨_, .unOp .not _ _, _, _, _, _⟩ :: _) _ _; refine EL.f (FV.not rfl) rfl rfl ?_)
       | (show EL _ _ _ _ (⟨_, .pick _ _ _, _, _, _, _⟩ :: _) _ _; first | refine EL.f (FV.pickT rfl rfl) rfl rfl ?_ | refine EL.f (FV.pickF rfl rfl) rfl rfl ?_)
       | (show EL _ _ _ _ (⟨_, .binOp .lss _ _ _ _, _, _, _, _⟩ :: _) _ _; first | refine EL.fT (FV.lss rfl rfl) rfl (fun _ => rfl) (by omega) ?_ | refine EL.fF (FV.lss rfl rfl) rfl (fun _ => rfl) (by omega) ?_)
       | (show EL _ _ _ _ (⟨_, .binOp .leq _ _ _ _, _, _, _, _⟩ :: _) _ _; first | refine EL.fT (FV.leq rfl rfl) rfl (fun _ => rfl) (by omega) ?_ | refine EL.fF (FV.leq rfl rfl) rfl (fun _ => rfl) (by omega) ?_)
       | (show EL _ _ _ _ (⟨_, .binOp .gtr _ _ _ _, _, _, _, _⟩ :: _) _ _; first | refine EL.fT (FV.gtr rfl rfl) rfl (fun _ => rfl) (by omega) ?_ | refine EL.fF (FV.gtr rfl rfl) rfl (fun _ => rfl) (by omega) ?_)
       | (show EL _ _ _ _ (⟨_, .binOp .geq _ _ _ _, _, _, _, _⟩ :: _) _ _; first | refine EL.fT (FV.geq rfl rfl) rfl (fun _ => rfl) (by omega) ?_ | refine EL.fF (FV.geq rfl rfl) rfl (fun _ => rfl) (by omega) ?_)
       | (show EL _ _ _ _ (⟨_, .binOp .eql _ _ _ _, _, _, _, _⟩ :: _) _ _; first | refine EL.fT (FV.eql rfl rfl) rfl (fun _ => rfl) (by omega) ?_ | refine EL.fF (FV.eql rfl rfl) rfl (fun _ => rfl) (by omega) ?_)
       | (show EL _ _ _ _ (⟨_, .binOp .neq _ _ _ _, _, _, _, _⟩ :: _) _ _; first | refine EL.fT (FV.neq rfl rfl) rfl (fun _ => rfl) (by omega) ?_ | refine EL.fF (FV.neq rfl rfl) rfl (fun _ => rfl) (by omega) ?_)
       | (show EL _ _ _ _ (⟨_, .indexAddr _ _ _, _, _, _, _⟩ :: _) _ _; first | refine EL.f (FV.idx0 rfl rfl rfl rfl (by omega) (by omega)) rfl rfl ?_ | refine EL.f (FV.idx1 rfl rfl rfl rfl (by omega) (by omega)) rfl rfl ?_)
       | (show EL _ _ _ _ (⟨_, .load _ _, _, _, _, _⟩ :: _) _ _; refine EL.f (FV.load1 rfl rfl rfl (by assumption)) rfl rfl ?_))
    | refine EL.nil ?_
    | refine EW.seq ?_
    | refine EW.region ?_
    | refine EW.block ?_
    | refine EW.skip ?_
    | refine EW.exit ?_
    | refine EW.ret ?_
    | refine EW.condT rfl ?_
    | refine EW.condF rfl ?_)
  refine EW.loop (X := Nat) (fun i wr => i ≤ s.size ∧ (∀ j, j < i → isLD (byt s j) ∧ (j = 0 → isL (byt s j))) ∧ Ext w wr) (fun i => [(0, .string s), (5, .int .i64 s.size), (6, .int .i64 i)]) (fun i => s.size - i) 0 ⟨Nat.zero_le _, fun j hj => by omega, Ext.refl _⟩ ⟨rfl, rfl, rfl, trivial⟩ ?_
  rintro i wr ⟨hi, hall, hE⟩
  by_cases hlt : i < s.size
  rotate_left
  · obtain rfl : i = s.size := by omega
    by_cases h1 : 1 ≤ s.size ∧ s.size ≤ 12
    · repeat' (first
        | (show EL _ _ _ _ (_ :: _) _ _
           first
           | (show EL _ _ _ _ (⟨_, _, _, _, _, some _⟩ :: _) _ _; refine EL.skip rfl rfl ?_)
           | (show EL _ _ _ _ (⟨_, .move _, _, _, _, _⟩ :: _) _ _; refine EL.f (FV.move rfl) rfl rfl ?_)
           | (show EL _ _ _ _ (⟨_, .assign _, _, _, _, _⟩ :: _) _ _; refine EL.f (FV.assign rfl) rfl rfl ?_)
           | (show EL _ _ _ _ (⟨_, .binOp .add _ _ _ _, _, _, _, _⟩ :: _) _ _; refine EL.f (FV.addI rfl rfl (by omega)) rfl rfl ?_)
           | (show EL _ _ _ _ (⟨_, .binOp .sub _ _ _ _, _, _, _, _⟩ :: _) _ _; refine EL.f (FV.subI rfl rfl (by omega)) rfl rfl ?_)
           | (show EL _ _ _ _ (⟨_, .binOp .rem _ _ _ _, _, _, _, _⟩ :: _) _ _; first | refine EL.f (FV.remI rfl rfl (by decide) (by omega)) rfl rfl ?_ | refine EL.f (FV.rem rfl rfl (by decide)) rfl rfl ?_)
           | (show EL _ _ _ _ (⟨_, .binOp .quo _ _ _ _, _, _, _, _⟩ :: _) _ _; refine EL.f (FV.quoI rfl rfl (by decide) (by omega)) rfl rfl ?_)
           | (show EL _ _ _ _ (⟨_, .extract _ _, _, _, _, _⟩ :: _) _ _; refine EL.f (FV.extract rfl rfl) rfl rfl ?_)
           | (show EL _ _ _ _ (⟨_, .call _, _, _, _, _⟩ :: _) _ _; first | refine EL.f (FV.len rfl rfl) rfl rfl ?_ | refine EL.f (FV.lenS rfl rfl) rfl rfl ?_)
           | (show EL _ _ _ _ (⟨_, .unOp .not _ _, _, _, _, _⟩ :: _) _ _; refine EL.f (FV.not rfl) rfl rfl ?_)
           | (show EL _ _ _ _ (⟨_, .pick _ _ _, _, _, _, _⟩ :: _) _ _; first | refine EL.f (FV.pickT rfl rfl) rfl rfl ?_ | refine EL.f (FV.pickF rfl rfl) rfl rfl ?_)
           | (show EL _ _ _ _ (⟨_, .binOp .lss _ _ _ _, _, _, _, _⟩ :: _) _ _; first | refine EL.fT (FV.lss rfl rfl) rfl (fun _ => rfl) (by omega) ?_ | refine EL.fF (FV.lss rfl rfl) rfl (fun _ => rfl) (by omega) ?_)
           | (show EL _ _ _ _ (⟨_, .binOp .leq _ _ _ _, _, _, _, _⟩ :: _) _ _; first | refine EL.fT (FV.leq rfl rfl) rfl (fun _ => rfl) (by omega) ?_ | refine EL.fF (FV.leq rfl rfl) rfl (fun _ => rfl) (by omega) ?_)
           | (show EL _ _ _ _ (⟨_, .binOp .gtr _ _ _ _, _, _, _, _⟩ :: _) _ _; first | refine EL.fT (FV.gtr rfl rfl) rfl (fun _ => rfl) (by omega) ?_ | refine EL.fF (FV.gtr rfl rfl) rfl (fun _ => rfl) (by omega) ?_)
           | (show EL _ _ _ _ (⟨_, .binOp .geq _ _ _ _, _, _, _, _⟩ :: _) _ _; first | refine EL.fT (FV.geq rfl rfl) rfl (fun _ => rfl) (by omega) ?_ | refine EL.fF (FV.geq rfl rfl) rfl (fun _ => rfl) (by omega) ?_)
           | (show EL _ _ _ _ (⟨_, .binOp .eql _ _ _ _, _, _, _, _⟩ :: _) _ _; first | refine EL.fT (FV.eql rfl rfl) rfl (fun _ => rfl) (by omega) ?_ | refine EL.fF (FV.eql rfl rfl) rfl (fun _ => rfl) (by omega) ?_)
           | (show EL _ _ _ _ (⟨_, .binOp .neq _ _ _ _, _, _, _, _⟩ :: _) _ _; first | refine EL.fT (FV.neq rfl rfl) rfl (fun _ => rfl) (by omega) ?_ | refine EL.fF (FV.neq rfl rfl) rfl (fun _ => rfl) (by omega) ?_)
           | (show EL _ _ _ _ (⟨_, .indexAddr _ _ _, _, _, _, _⟩ :: _) _ _; first | refine EL.f (FV.idx0 rfl rfl rfl rfl (by omega) (by omega)) rfl rfl ?_ | refine EL.f (FV.idx1 rfl rfl rfl rfl (by omega) (by omega)) rfl rfl ?_)
           | (show EL _ _ _ _ (⟨_, .load _ _, _, _, _, _⟩ :: _) _ _; refine EL.f (FV.load1 rfl rfl rfl (by assumption)) rfl rfl ?_))
        | refine EL.nil ?_
        | refine EW.seq ?_
        | refine EW.region ?_
        | refine EW.block ?_
        | refine EW.skip ?_
        | refine EW.exit ?_
        | refine EW.ret ?_
        | refine EW.condT rfl ?_
        | refine EW.condF rfl ?_)
      exact ⟨_, rfl, by rw [nameOk_true h1 ((hall 0 (by omega)).2 rfl) (fun i hi => (hall i hi).1)], hE⟩
    · by_cases h2 : 1 ≤ s.size
      · have h3 : ¬ s.size ≤ 12 := fun e => h1 ⟨h2, e⟩
        repeat' (first
          | (show EL _ _ _ _ (_ :: _) _ _
             first
             | (show EL _ _ _ _ (⟨_, _, _, _, _, some _⟩ :: _) _ _; refine EL.skip rfl rfl ?_)
             | (show EL _ _ _ _ (⟨_, .move _, _, _, _, _⟩ :: _) _ _; refine EL.f (FV.move rfl) rfl rfl ?_)
             | (show EL _ _ _ _ (⟨_, .assign _, _, _, _, _⟩ :: _) _ _; refine EL.f (FV.assign rfl) rfl rfl ?_)
             | (show EL _ _ _ _ (⟨_, .binOp .add _ _ _ _, _, _, _, _⟩ :: _) _ _; refine EL.f (FV.addI rfl rfl (by omega)) rfl rfl ?_)
             | (show EL _ _ _ _ (⟨_, .binOp .sub _ _ _ _, _, _, _, _⟩ :: _) _ _; refine EL.f (FV.subI rfl rfl (by omega)) rfl rfl ?_)
             | (show EL _ _ _ _ (⟨_, .binOp .rem _ _ _ _, _, _, _, _⟩ :: _) _ _; first | refine EL.f (FV.remI rfl rfl (by decide) (by omega)) rfl rfl ?_ | refine EL.f (FV.rem rfl rfl (by decide)) rfl rfl ?_)
             | (show EL _ _ _ _ (⟨_, .binOp .quo _ _ _ _, _, _, _, _⟩ :: _) _ _; refine EL.f (FV.quoI rfl rfl (by decide) (by omega)) rfl rfl ?_)
             | (show EL _ _ _ _ (⟨_, .extract _ _, _, _, _, _⟩ :: _) _ _; refine EL.f (FV.extract rfl rfl) rfl rfl ?_)
             | (show EL _ _ _ _ (⟨_, .call _, _, _, _, _⟩ :: _) _ _; first | refine EL.f (FV.len rfl rfl) rfl rfl ?_ | refine EL.f (FV.lenS rfl rfl) rfl rfl ?_)
             | (show EL _ _ _ _ (⟨_, .unOp .not _ _, _, _, _, _⟩ :: _) _ _; refine EL.f (FV.not rfl) rfl rfl ?_)
             | (show EL _ _ _ _ (⟨_, .pick _ _ _, _, _, _, _⟩ :: _) _ _; first | refine EL.f (FV.pickT rfl rfl) rfl rfl ?_ | refine EL.f (FV.pickF rfl rfl) rfl rfl ?_)
             | (show EL _ _ _ _ (⟨_, .binOp .lss _ _ _ _, _, _, _, _⟩ :: _) _ _; first | refine EL.fT (FV.lss rfl rfl) rfl (fun _ => rfl) (by omega) ?_ | refine EL.fF (FV.lss rfl rfl) rfl (fun _ => rfl) (by omega) ?_)
             | (show EL _ _ _ _ (⟨_, .binOp .leq _ _ _ _, _, _, _, _⟩ :: _) _ _; first | refine EL.fT (FV.leq rfl rfl) rfl (fun _ => rfl) (by omega) ?_ | refine EL.fF (FV.leq rfl rfl) rfl (fun _ => rfl) (by omega) ?_)
             | (show EL _ _ _ _ (⟨_, .binOp .gtr _ _ _ _, _, _, _, _⟩ :: _) _ _; first | refine EL.fT (FV.gtr rfl rfl) rfl (fun _ => rfl) (by omega) ?_ | refine EL.fF (FV.gtr rfl rfl) rfl (fun _ => rfl) (by omega) ?_)
             | (show EL _ _ _ _ (⟨_, .binOp .geq _ _ _ _, _, _, _, _⟩ :: _) _ _; first | refine EL.fT (FV.geq rfl rfl) rfl (fun _ => rfl) (by omega) ?_ | refine EL.fF (FV.geq rfl rfl) rfl (fun _ => rfl) (by omega) ?_)
             | (show EL _ _ _ _ (⟨_, .binOp .eql _ _ _ _, _, _, _, _⟩ :: _) _ _; first | refine EL.fT (FV.eql rfl rfl) rfl (fun _ => rfl) (by omega) ?_ | refine EL.fF (FV.eql rfl rfl) rfl (fun _ => rfl) (by omega) ?_)
             | (show EL _ _ _ _ (⟨_, .binOp .neq _ _ _ _, _, _, _, _⟩ :: _) _ _; first | refine EL.fT (FV.neq rfl rfl) rfl (fun _ => rfl) (by omega) ?_ | refine EL.fF (FV.neq rfl rfl) rfl (fun _ => rfl) (by omega) ?_)
             | (show EL _ _ _ _ (⟨_, .indexAddr _ _ _, _, _, _, _⟩ :: _) _ _; first | refine EL.f (FV.idx0 rfl rfl rfl rfl (by omega) (by omega)) rfl rfl ?_ | refine EL.f (FV.idx1 rfl rfl rfl rfl (by omega) (by omega)) rfl rfl ?_)
             | (show EL _ _ _ _ (⟨_, .load _ _, _, _, _, _⟩ :: _) _ _; refine EL.f (FV.load1 rfl rfl rfl (by assumption)) rfl rfl ?_))
          | refine EL.nil ?_
          | refine EW.seq ?_
          | refine EW.region ?_
          | refine EW.block ?_
          | refine EW.skip ?_
          | refine EW.exit ?_
          | refine EW.ret ?_
          | refine EW.condT rfl ?_
          | refine EW.condF rfl ?_)
        exact ⟨_, rfl, by rw [nameOk_size h1], hE⟩
      · repeat' (first
          | (show EL _ _ _ _ (_ :: _) _ _
             first
             | (show EL _ _ _ _ (⟨_, _, _, _, _, some _⟩ :: _) _ _; refine EL.skip rfl rfl ?_)
             | (show EL _ _ _ _ (⟨_, .move _, _, _, _, _⟩ :: _) _ _; refine EL.f (FV.move rfl) rfl rfl ?_)
             | (show EL _ _ _ _ (⟨_, .assign _, _, _, _, _⟩ :: _) _ _; refine EL.f (FV.assign rfl) rfl rfl ?_)
             | (show EL _ _ _ _ (⟨_, .binOp .add _ _ _ _, _, _, _, _⟩ :: _) _ _; refine EL.f (FV.addI rfl rfl (by omega)) rfl rfl ?_)
             | (show EL _ _ _ _ (⟨_, .binOp .sub _ _ _ _, _, _, _, _⟩ :: _) _ _; refine EL.f (FV.subI rfl rfl (by omega)) rfl rfl ?_)
             | (show EL _ _ _ _ (⟨_, .binOp .rem _ _ _ _, _, _, _, _⟩ :: _) _ _; first | refine EL.f (FV.remI rfl rfl (by decide) (by omega)) rfl rfl ?_ | refine EL.f (FV.rem rfl rfl (by decide)) rfl rfl ?_)
             | (show EL _ _ _ _ (⟨_, .binOp .quo _ _ _ _, _, _, _, _⟩ :: _) _ _; refine EL.f (FV.quoI rfl rfl (by decide) (by omega)) rfl rfl ?_)
             | (show EL _ _ _ _ (⟨_, .extract _ _, _, _, _, _⟩ :: _) _ _; refine EL.f (FV.extract rfl rfl) rfl rfl ?_)
             | (show EL _ _ _ _ (⟨_, .call _, _, _, _, _⟩ :: _) _ _; first | refine EL.f (FV.len rfl rfl) rfl rfl ?_ | refine EL.f (FV.lenS rfl rfl) rfl rfl ?_)
             | (show EL _ _ _ _ (⟨_, .unOp .not _ _, _, _, _, _⟩ :: _) _ _; refine EL.f (FV.not rfl) rfl rfl ?_)
             | (show EL _ _ _ _ (⟨_, .pick _ _ _, _, _, _, _⟩ :: _) _ _; first | refine EL.f (FV.pickT rfl rfl) rfl rfl ?_ | refine EL.f (FV.pickF rfl rfl) rfl rfl ?_)
             | (show EL _ _ _ _ (⟨_, .binOp .lss _ _ _ _, _, _, _, _⟩ :: _) _ _; first | refine EL.fT (FV.lss rfl rfl) rfl (fun _ => rfl) (by omega) ?_ | refine EL.fF (FV.lss rfl rfl) rfl (fun _ => rfl) (by omega) ?_)
             | (show EL _ _ _ _ (⟨_, .binOp .leq _ _ _ _, _, _, _, _⟩ :: _) _ _; first | refine EL.fT (FV.leq rfl rfl) rfl (fun _ => rfl) (by omega) ?_ | refine EL.fF (FV.leq rfl rfl) rfl (fun _ => rfl) (by omega) ?_)
             | (show EL _ _ _ _ (⟨_, .binOp .gtr _ _ _ _, _, _, _, _⟩ :: _) _ _; first | refine EL.fT (FV.gtr rfl rfl) rfl (fun _ => rfl) (by omega) ?_ | refine EL.fF (FV.gtr rfl rfl) rfl (fun _ => rfl) (by omega) ?_)
             | (show EL _ _ _ _ (⟨_, .binOp .geq _ _ _ _, _, _, _, _⟩ :: _) _ _; first | refine EL.fT (FV.geq rfl rfl) rfl (fun _ => rfl) (by omega) ?_ | refine EL.fF (FV.geq rfl rfl) rfl (fun _ => rfl) (by omega) ?_)
             | (show EL _ _ _ _ (⟨_, .binOp .eql _ _ _ _, _, _, _, _⟩ :: _) _ _; first | refine EL.fT (FV.eql rfl rfl) rfl (fun _ => rfl) (by omega) ?_ | refine EL.fF (FV.eql rfl rfl) rfl (fun _ => rfl) (by omega) ?_)
             | (show EL _ _ _ _ (⟨_, .binOp .neq _ _ _ _, _, _, _, _⟩ :: _) _ _; first | refine EL.fT (FV.neq rfl rfl) rfl (fun _ => rfl) (by omega) ?_ | refine EL.fF (FV.neq rfl rfl) rfl (fun _ => rfl) (by omega) ?_)
             | (show EL _ _ _ _ (⟨_, .indexAddr _ _ _, _, _, _, _⟩ :: _) _ _; first | refine EL.f (FV.idx0 rfl rfl rfl rfl (by omega) (by omega)) rfl rfl ?_ | refine EL.f (FV.idx1 rfl rfl rfl rfl (by omega) (by omega)) rfl rfl ?_)
             | (show EL _ _ _ _ (⟨_, .load _ _, _, _, _, _⟩ :: _) _ _; refine EL.f (FV.load1 rfl rfl rfl (by assumption)) rfl rfl ?_))
          | refine EL.nil ?_
          | refine EW.seq ?_
          | refine EW.region ?_
          | refine EW.block ?_
          | refine EW.skip ?_
          | refine EW.exit ?_
          | refine EW.ret ?_
          | refine EW.condT rfl ?_
          | refine EW.condF rfl ?_)
        exact ⟨_, rfl, by rw [nameOk_size h1], hE⟩
  by_cases hL : isL (byt s i)
  · have hL' := hL
    obtain ⟨l1, l2⟩ := hL
    repeat' (first
      | (show EL _ _ _ _ (_ :: _) _ _
         first
         | (show EL _ _ _ _ (⟨_, _, _, _, _, some _⟩ :: _) _ _; first | refine EL.skipU rfl rfl ?_ | refine EL.skip rfl rfl ?_)
         | (show EL _ _ _ _ (⟨_, .index _ _ _, _, _, _, _⟩ :: _) _ _; refine EL.f (FV.idxS (i := i) rfl rfl rfl (by omega)) rfl rfl ?_)
         | (show EL _ _ _ _ (⟨_, .move _, _, _, _, _⟩ :: _) _ _; refine EL.f (FV.move rfl) rfl rfl ?_)
         | (show EL _ _ _ _ (⟨_, .assign _, _, _, _, _⟩ :: _) _ _; refine EL.f (FV.assign rfl) rfl rfl ?_)
         | (show EL _ _ _ _ (⟨_, .binOp .add _ _ _ _, _, _, _, _⟩ :: _) _ _; refine EL.f (FV.addI rfl rfl (by omega)) rfl rfl ?_)
         | (show EL _ _ _ _ (⟨_, .binOp .sub _ _ _ _, _, _, _, _⟩ :: _) _ _; refine EL.f (FV.subI rfl rfl (by omega)) rfl rfl ?_)
         | (show EL _ _ _ _ (⟨_, .binOp .rem _ _ _ _, _, _, _, _⟩ :: _) _ _; first | refine EL.f (FV.remI rfl rfl (by decide) (by omega)) rfl rfl ?_ | refine EL.f (FV.rem rfl rfl (by decide)) rfl rfl ?_)
         | (show EL _ _ _ _ (⟨_, .binOp .quo _ _ _ _, _, _, _, _⟩ :: _) _ _; refine EL.f (FV.quoI rfl rfl (by decide) (by omega)) rfl rfl ?_)
         | (show EL _ _ _ _ (⟨_, .extract _ _, _, _, _, _⟩ :: _) _ _; refine EL.f (FV.extract rfl rfl) rfl rfl ?_)
         | (show EL _ _ _ _ (⟨_, .call _, _, _, _, _⟩ :: _) _ _; first | refine EL.f (FV.len rfl rfl) rfl rfl ?_ | refine EL.f (FV.lenS rfl rfl) rfl rfl ?_)
         | (show EL _ _ _ _ (⟨_, .unOp .not _ _, _, _, _, _⟩ :: _) _ _; refine EL.f (FV.not rfl) rfl rfl ?_)
         | (show EL _ _ _ _ (⟨_, .pick _ _ _, _, _, _, _⟩ :: _) _ _; first | refine EL.f (FV.pickT rfl rfl) rfl rfl ?_ | refine EL.f (FV.pickF rfl rfl) rfl rfl ?_)
         | (show EL _ _ _ _ (⟨_, .binOp .lss _ _ _ _, _, _, _, _⟩ :: _) _ _; first | refine EL.fT (FV.lss rfl rfl) rfl (fun _ => rfl) (by omega) ?_ | refine EL.fF (FV.lss rfl rfl) rfl (fun _ => rfl) (by omega) ?_)
         | (show EL _ _ _ _ (⟨_, .binOp .leq _ _ _ _, _, _, _, _⟩ :: _) _ _; first | refine EL.fT (FV.leq rfl rfl) rfl (fun _ => rfl) (by omega) ?_ | refine EL.fF (FV.leq rfl rfl) rfl (fun _ => rfl) (by omega) ?_)
         | (show EL _ _ _ _ (⟨_, .binOp .gtr _ _ _ _, _, _, _, _⟩ :: _) _ _; first | refine EL.fT (FV.gtr rfl rfl) rfl (fun _ => rfl) (by omega) ?_ | refine EL.fF (FV.gtr rfl rfl) rfl (fun _ => rfl) (by omega) ?_)
         | (show EL _ _ _ _ (⟨_, .binOp .geq _ _ _ _, _, _, _, _⟩ :: _) _ _; first | refine EL.fT (FV.geq rfl rfl) rfl (fun _ => rfl) (by omega) ?_ | refine EL.fF (FV.geq rfl rfl) rfl (fun _ => rfl) (by omega) ?_)
         | (show EL _ _ _ _ (⟨_, .binOp .eql _ _ _ _, _, _, _, _⟩ :: _) _ _; first | refine EL.fT (FV.eql rfl rfl) rfl (fun _ => rfl) (by omega) ?_ | refine EL.fF (FV.eql rfl rfl) rfl (fun _ => rfl) (by omega) ?_)
         | (show EL _ _ _ _ (⟨_, .binOp .neq _ _ _ _, _, _, _, _⟩ :: _) _ _; first | refine EL.fT (FV.neq rfl rfl) rfl (fun _ => rfl) (by omega) ?_ | refine EL.fF (FV.neq rfl rfl) rfl (fun _ => rfl) (by omega) ?_)
         | (show EL _ _ _ _ (⟨_, .indexAddr _ _ _, _, _, _, _⟩ :: _) _ _; first | refine EL.f (FV.idx0 rfl rfl rfl rfl (by omega) (by omega)) rfl rfl ?_ | refine EL.f (FV.idx1 rfl rfl rfl rfl (by omega) (by omega)) rfl rfl ?_)
         | (show EL _ _ _ _ (⟨_, .load _ _, _, _, _, _⟩ :: _) _ _; refine EL.f (FV.load1 rfl rfl rfl (by assumption)) rfl rfl ?_))
      | refine EL.nil ?_
      | refine EW.seq ?_
      | refine EW.region ?_
      | refine EW.block ?_
      | refine EW.skip ?_
      | refine EW.exit ?_
      | refine EW.ret ?_
      | refine EW.condT rfl ?_
      | refine EW.condF rfl ?_)
    exact ⟨i + 1, ⟨rfl, rfl, rfl, trivial⟩, ⟨by omega, fun j hj => by
      by_cases e : j = i
      · subst e; exact ⟨.inl hL', fun _ => hL'⟩
      · exact hall j (by omega), hE⟩, by omega⟩
  by_cases h97 : byt s i < 97
  · by_cases i0 : i = 0
    · subst i0
      repeat' (first
        | (show EL _ _ _ _ (_ :: _) _ _
           first
           | (show EL _ _ _ _ (⟨_, _, _, _, _, some _⟩ :: _) _ _; first | refine EL.skipU rfl rfl ?_ | refine EL.skip rfl rfl ?_)
           | (show EL _ _ _ _ (⟨_, .index _ _ _, _, _, _, _⟩ :: _) _ _; refine EL.f (FV.idxS (i := 0) rfl rfl rfl (by omega)) rfl rfl ?_)
           | (show EL _ _ _ _ (⟨_, .move _, _, _, _, _⟩ :: _) _ _; refine EL.f (FV.move rfl) rfl rfl ?_)
           | (show EL _ _ _ _ (⟨_, .assign _, _, _, _, _⟩ :: _) _ _; refine EL.f (FV.assign rfl) rfl rfl ?_)
           | (show EL _ _ _ _ (⟨_, .binOp .add _ _ _ _, _, _, _, _⟩ :: _) _ _; refine EL.f (FV.addI rfl rfl (by omega)) rfl rfl ?_)
           | (show EL _ _ _ _ (⟨_, .binOp .sub _ _ _ _, _, _, _, _⟩ :: _) _ _; refine EL.f (FV.subI rfl rfl (by omega)) rfl rfl ?_)
           | (show EL _ _ _ _ (⟨_, .binOp .rem _ _ _ _, _, _, _, _⟩ :: _) _ _; first | refine EL.f (FV.remI rfl rfl (by decide) (by omega)) rfl rfl ?_ | refine EL.f (FV.rem rfl rfl (by decide)) rfl rfl ?_)
           | (show EL _ _ _ _ (⟨_, .binOp .quo _ _ _ _, _, _, _, _⟩ :: _) _ _; refine EL.f (FV.quoI rfl rfl (by decide) (by omega)) rfl rfl ?_)
           | (show EL _ _ _ _ (⟨_, .extract _ _, _, _, _, _⟩ :: _) _ _; refine EL.f (FV.extract rfl rfl) rfl rfl ?_)
           | (show EL _ _ _ _ (⟨_, .call _, _, _, _, _⟩ :: _) _ _; first | refine EL.f (FV.len rfl rfl) rfl rfl ?_ | refine EL.f (FV.lenS rfl rfl) rfl rfl ?_)
           | (show EL _ _ _ _ (⟨_, .unOp .not _ _, _, _, _, _⟩ :: _) _ _; refine EL.f (FV.not rfl) rfl rfl ?_)
           | (show EL _ _ _ _ (⟨_, .pick _ _ _, _, _, _, _⟩ :: _) _ _; first | refine EL.f (FV.pickT rfl rfl) rfl rfl ?_ | refine EL.f (FV.pickF rfl rfl) rfl rfl ?_)
           | (show EL _ _ _ _ (⟨_, .binOp .lss _ _ _ _, _, _, _, _⟩ :: _) _ _; first | refine EL.fT (FV.lss rfl rfl) rfl (fun _ => rfl) (by omega) ?_ | refine EL.fF (FV.lss rfl rfl) rfl (fun _ => rfl) (by omega) ?_)
           | (show EL _ _ _ _ (⟨_, .binOp .leq _ _ _ _, _, _, _, _⟩ :: _) _ _; first | refine EL.fT (FV.leq rfl rfl) rfl (fun _ => rfl) (by omega) ?_ | refine EL.fF (FV.leq rfl rfl) rfl (fun _ => rfl) (by omega) ?_)
           | (show EL _ _ _ _ (⟨_, .binOp .gtr _ _ _ _, _, _, _, _⟩ :: _) _ _; first | refine EL.fT (FV.gtr rfl rfl) rfl (fun _ => rfl) (by omega) ?_ | refine EL.fF (FV.gtr rfl rfl) rfl (fun _ => rfl) (by omega) ?_)
           | (show EL _ _ _ _ (⟨_, .binOp .geq _ _ _ _, _, _, _, _⟩ :: _) _ _; first | refine EL.fT (FV.geq rfl rfl) rfl (fun _ => rfl) (by omega) ?_ | refine EL.fF (FV.geq rfl rfl) rfl (fun _ => rfl) (by omega) ?_)
           | (show EL _ _ _ _ (⟨_, .binOp .eql _ _ _ _, _, _, _, _⟩ :: _) _ _; first | refine EL.fT (FV.eql rfl rfl) rfl (fun _ => rfl) (by omega) ?_ | refine EL.fF (FV.eql rfl rfl) rfl (fun _ => rfl) (by omega) ?_)
           | (show EL _ _ _ _ (⟨_, .binOp .neq _ _ _ _, _, _, _, _⟩ :: _) _ _; first | refine EL.fT (FV.neq rfl rfl) rfl (fun _ => rfl) (by omega) ?_ | refine EL.fF (FV.neq rfl rfl) rfl (fun _ => rfl) (by omega) ?_)
           | (show EL _ _ _ _ (⟨_, .indexAddr _ _ _, _, _, _, _⟩ :: _) _ _; first | refine EL.f (FV.idx0 rfl rfl rfl rfl (by omega) (by omega)) rfl rfl ?_ | refine EL.f (FV.idx1 rfl rfl rfl rfl (by omega) (by omega)) rfl rfl ?_)
           | (show EL _ _ _ _ (⟨_, .load _ _, _, _, _, _⟩ :: _) _ _; refine EL.f (FV.load1 rfl rfl rfl (by assumption)) rfl rfl ?_))
        | refine EL.nil ?_
        | refine EW.seq ?_
        | refine EW.region ?_
        | refine EW.block ?_
        | refine EW.skip ?_
        | refine EW.exit ?_
        | refine EW.ret ?_
        | refine EW.condT rfl ?_
        | refine EW.condF rfl ?_)
      exact ⟨_, rfl, by rw [nameOk_first hL], hE⟩
    · by_cases h48 : byt s i < 48
      · repeat' (first
          | (show EL _ _ _ _ (_ :: _) _ _
             first
             | (show EL _ _ _ _ (⟨_, _, _, _, _, some _⟩ :: _) _ _; first | refine EL.skipU rfl rfl ?_ | refine EL.skip rfl rfl ?_)
             | (show EL _ _ _ _ (⟨_, .index _ _ _, _, _, _, _⟩ :: _) _ _; refine EL.f (FV.idxS (i := i) rfl rfl rfl (by omega)) rfl rfl ?_)
             | (show EL _ _ _ _ (⟨_, .move _, _, _, _, _⟩ :: _) _ _; refine EL.f (FV.move rfl) rfl rfl ?_)
             | (show EL _ _ _ _ (⟨_, .assign _, _, _, _, _⟩ :: _) _ _; refine EL.f (FV.assign rfl) rfl rfl ?_)
             | (show EL _ _ _ _ (⟨_, .binOp .add _ _ _ _, _, _, _, _⟩ :: _) _ _; refine EL.f (FV.addI rfl rfl (by omega)) rfl rfl ?_)
             | (show EL _ _ _ _ (⟨_, .binOp .sub _ _ _ _, _, _, _, _⟩ :: _) _ _; refine EL.f (FV.subI rfl rfl (by omega)) rfl rfl ?_)
             | (show EL _ _ _ _ (⟨_, .binOp .rem _ _ _ _, _, _, _, _⟩ :: _) _ _; first | refine EL.f (FV.remI rfl rfl (by decide) (by omega)) rfl rfl ?_ | refine EL.f (FV.rem rfl rfl (by decide)) rfl rfl ?_)
             | (show EL _ _ _ _ (⟨_, .binOp .quo _ _ _ _, _, _, _, _⟩ :: _) _ _; refine EL.f (FV.quoI rfl rfl (by decide) (by omega)) rfl rfl ?_)
             | (show EL _ _ _ _ (⟨_, .extract _ _, _, _, _, _⟩ :: _) _ _; refine EL.f (FV.extract rfl rfl) rfl rfl ?_)
             | (show EL _ _ _ _ (⟨_, .call _, _, _, _, _⟩ :: _) _ _; first | refine EL.f (FV.len rfl rfl) rfl rfl ?_ | refine EL.f (FV.lenS rfl rfl) rfl rfl ?_)
             | (show EL _ _ _ _ (⟨_, .unOp .not _ _, _, _, _, _⟩ :: _) _ _; refine EL.f (FV.not rfl) rfl rfl ?_)
             | (show EL _ _ _ _ (⟨_, .pick _ _ _, _, _, _, _⟩ :: _) _ _; first | refine EL.f (FV.pickT rfl rfl) rfl rfl ?_ | refine EL.f (FV.pickF rfl rfl) rfl rfl ?_)
             | (show EL _ _ _ _ (⟨_, .binOp .lss _ _ _ _, _, _, _, _⟩ :: _) _ _; first | refine EL.fT (FV.lss rfl rfl) rfl (fun _ => rfl) (by omega) ?_ | refine EL.fF (FV.lss rfl rfl) rfl (fun _ => rfl) (by omega) ?_)
             | (show EL _ _ _ _ (⟨_, .binOp .leq _ _ _ _, _, _, _, _⟩ :: _) _ _; first | refine EL.fT (FV.leq rfl rfl) rfl (fun _ => rfl) (by omega) ?_ | refine EL.fF (FV.leq rfl rfl) rfl (fun _ => rfl) (by omega) ?_)
             | (show EL _ _ _ _ (⟨_, .binOp .gtr _ _ _ _, _, _, _, _⟩ :: _) _ _; first | refine EL.fT (FV.gtr rfl rfl) rfl (fun _ => rfl) (by omega) ?_ | refine EL.fF (FV.gtr rfl rfl) rfl (fun _ => rfl) (by omega) ?_)
             | (show EL _ _ _ _ (⟨_, .binOp .geq _ _ _ _, _, _, _, _⟩ :: _) _ _; first | refine EL.fT (FV.geq rfl rfl) rfl (fun _ => rfl) (by omega) ?_ | refine EL.fF (FV.geq rfl rfl) rfl (fun _ => rfl) (by omega) ?_)
             | (show EL _ _ _ _ (⟨_, .binOp .eql _ _ _ _, _, _, _, _⟩ :: _) _ _; first | refine EL.fT (FV.eql rfl rfl) rfl (fun _ => rfl) (by omega) ?_ | refine EL.fF (FV.eql rfl rfl) rfl (fun _ => rfl) (by omega) ?_)
             | (show EL _ _ _ _ (⟨_, .binOp .neq _ _ _ _, _, _, _, _⟩ :: _) _ _; first | refine EL.fT (FV.neq rfl rfl) rfl (fun _ => rfl) (by omega) ?_ | refine EL.fF (FV.neq rfl rfl) rfl (fun _ => rfl) (by omega) ?_)
             | (show EL _ _ _ _ (⟨_, .indexAddr _ _ _, _, _, _, _⟩ :: _) _ _; first | refine EL.f (FV.idx0 rfl rfl rfl rfl (by omega) (by omega)) rfl rfl ?_ | refine EL.f (FV.idx1 rfl rfl rfl rfl (by omega) (by omega)) rfl rfl ?_)
             | (show EL _ _ _ _ (⟨_, .load _ _, _, _, _, _⟩ :: _) _ _; refine EL.f (FV.load1 rfl rfl rfl (by assumption)) rfl rfl ?_))
          | refine EL.nil ?_
          | refine EW.seq ?_
          | refine EW.region ?_
          | refine EW.block ?_
          | refine EW.skip ?_
          | refine EW.exit ?_
          | refine EW.ret ?_
          | refine EW.condT rfl ?_
          | refine EW.condF rfl ?_)
        exact ⟨_, rfl, by rw [nameOk_at hlt (by unfold isLD; omega)], hE⟩
      · by_cases h57 : 57 < byt s i
        · repeat' (first
            | (show EL _ _ _ _ (_ :: _) _ _
               first
               | (show EL _ _ _ _ (⟨_, _, _, _, _, some _⟩ :: _) _ _; first | refine EL.skipU rfl rfl ?_ | refine EL.skip rfl rfl ?_)
               | (show EL _ _ _ _ (⟨_, .index _ _ _, _, _, _, _⟩ :: _) _ _; refine EL.f (FV.idxS (i := i) rfl rfl rfl (by omega)) rfl rfl ?_)
               | (show EL _ _ _ _ (⟨_, .move _, _, _, _, _⟩ :: _) _ _; refine EL.f (FV.move rfl) rfl rfl ?_)
               | (show EL _ _ _ _ (⟨_, .assign _, _, _, _, _⟩ :: _) _ _; refine EL.f (FV.assign rfl) rfl rfl ?_)
               | (show EL _ _ _ _ (⟨_, .binOp .add _ _ _ _, _, _, _, _⟩ :: _) _ _; refine EL.f (FV.addI rfl rfl (by omega)) rfl rfl ?_)
               | (show EL _ _ _ _ (⟨_, .binOp .sub _ _ _ _, _, _, _, _⟩ :: _) _ _; refine EL.f (FV.subI rfl rfl (by omega)) rfl rfl ?_)
               | (show EL _ _ _ _ (⟨_, .binOp .rem _ _ _ _, _, _, _, _⟩ :: _) _ _; first | refine EL.f (FV.remI rfl rfl (by decide) (by omega)) rfl rfl ?_ | refine EL.f (FV.rem rfl rfl (by decide)) rfl rfl ?_)
               | (show EL _ _ _ _ (⟨_, .binOp .quo _ _ _ _, _, _, _, _⟩ :: _) _ _; refine EL.f (FV.quoI rfl rfl (by decide) (by omega)) rfl rfl ?_)
               | (show EL _ _ _ _ (⟨_, .extract _ _, _, _, _, _⟩ :: _) _ _; refine EL.f (FV.extract rfl rfl) rfl rfl ?_)
               | (show EL _ _ _ _ (⟨_, .call _, _, _, _, _⟩ :: _) _ _; first | refine EL.f (FV.len rfl rfl) rfl rfl ?_ | refine EL.f (FV.lenS rfl rfl) rfl rfl ?_)
               | (show EL _ _ _ _ (⟨_, .unOp .not _ _, _, _, _, _⟩ :: _) _ _; refine EL.f (FV.not rfl) rfl rfl ?_)
               | (show EL _ _ _ _ (⟨_, .pick _ _ _, _, _, _, _⟩ :: _) _ _; first | refine EL.f (FV.pickT rfl rfl) rfl rfl ?_ | refine EL.f (FV.pickF rfl rfl) rfl rfl ?_)
               | (show EL _ _ _ _ (⟨_, .binOp .lss _ _ _ _, _, _, _, _⟩ :: _) _ _; first | refine EL.fT (FV.lss rfl rfl) rfl (fun _ => rfl) (by omega) ?_ | refine EL.fF (FV.lss rfl rfl) rfl (fun _ => rfl) (by omega) ?_)
               | (show EL _ _ _ _ (⟨_, .binOp .leq _ _ _ _, _, _, _, _⟩ :: _) _ _; first | refine EL.fT (FV.leq rfl rfl) rfl (fun _ => rfl) (by omega) ?_ | refine EL.fF (FV.leq rfl rfl) rfl (fun _ => rfl) (by omega) ?_)
               | (show EL _ _ _ _ (⟨_, .binOp .gtr _ _ _ _, _, _, _, _⟩ :: _) _ _; first | refine EL.fT (FV.gtr rfl rfl) rfl (fun _ => rfl) (by omega) ?_ | refine EL.fF (FV.gtr rfl rfl) rfl (fun _ => rfl) (by omega) ?_)
               | (show EL _ _ _ _ (⟨_, .binOp .geq _ _ _ _, _, _, _, _⟩ :: _) _ _; first | refine EL.fT (FV.geq rfl rfl) rfl (fun _ => rfl) (by omega) ?_ | refine EL.fF (FV.geq rfl rfl) rfl (fun _ => rfl) (by omega) ?_)
               | (show EL _ _ _ _ (⟨_, .binOp .eql _ _ _ _, _, _, _, _⟩ :: _) _ _; first | refine EL.fT (FV.eql rfl rfl) rfl (fun _ => rfl) (by omega) ?_ | refine EL.fF (FV.eql rfl rfl) rfl (fun _ => rfl) (by omega) ?_)
               | (show EL _ _ _ _ (⟨_, .binOp .neq _ _ _ _, _, _, _, _⟩ :: _) _ _; first | refine EL.fT (FV.neq rfl rfl) rfl (fun _ => rfl) (by omega) ?_ | refine EL.fF (FV.neq rfl rfl) rfl (fun _ => rfl) (by omega) ?_)
               | (show EL _ _ _ _ (⟨_, .indexAddr _ _ _, _, _, _, _⟩ :: _) _ _; first | refine EL.f (FV.idx0 rfl rfl rfl rfl (by omega) (by omega)) rfl rfl ?_ | refine EL.f (FV.idx1 rfl rfl rfl rfl (by omega) (by omega)) rfl rfl ?_)
               | (show EL _ _ _ _ (⟨_, .load _ _, _, _, _, _⟩ :: _) _ _; refine EL.f (FV.load1 rfl rfl rfl (by assumption)) rfl rfl ?_))
            | refine EL.nil ?_
            | refine EW.seq ?_
            | refine EW.region ?_
            | refine EW.block ?_
            | refine EW.skip ?_
            | refine EW.exit ?_
            | refine EW.ret ?_
            | refine EW.condT rfl ?_
            | refine EW.condF rfl ?_)
          exact ⟨_, rfl, by rw [nameOk_at hlt (by unfold isLD; omega)], hE⟩
        · repeat' (first
            | (show EL _ _ _ _ (_ :: _) _ _
               first
               | (show EL _ _ _ _ (⟨_, _, _, _, _, some _⟩ :: _) _ _; first | refine EL.skipU rfl rfl ?_ | refine EL.skip rfl rfl ?_)
               | (show EL _ _ _ _ (⟨_, .index _ _ _, _, _, _, _⟩ :: _) _ _; refine EL.f (FV.idxS (i := i) rfl rfl rfl (by omega)) rfl rfl ?_)
               | (show EL _ _ _ _ (⟨_, .move _, _, _, _, _⟩ :: _) _ _; refine EL.f (FV.move rfl) rfl rfl ?_)
               | (show EL _ _ _ _ (⟨_, .assign _, _, _, _, _⟩ :: _) _ _; refine EL.f (FV.assign rfl) rfl rfl ?_)
               | (show EL _ _ _ _ (⟨_, .binOp .add _ _ _ _, _, _, _, _⟩ :: _) _ _; refine EL.f (FV.addI rfl rfl (by omega)) rfl rfl ?_)
               | (show EL _ _ _ _ (⟨_, .binOp .sub _ _ _ _, _, _, _, _⟩ :: _) _ _; refine EL.f (FV.subI rfl rfl (by omega)) rfl rfl ?_)
               | (show EL _ _ _ _ (⟨_, .binOp .rem _ _ _ _, _, _, _, _⟩ :: _) _ _; first | refine EL.f (FV.remI rfl rfl (by decide) (by omega)) rfl rfl ?_ | refine EL.f (FV.rem rfl rfl (by decide)) rfl rfl ?_)
               | (show EL _ _ _ _ (⟨_, .binOp .quo _ _ _ _, _, _, _, _⟩ :: _) _ _; refine EL.f (FV.quoI rfl rfl (by decide) (by omega)) rfl rfl ?_)
               | (show EL _ _ _ _ (⟨_, .extract _ _, _, _, _, _⟩ :: _) _ _; refine EL.f (FV.extract rfl rfl) rfl rfl ?_)
               | (show EL _ _ _ _ (⟨_, .call _, _, _, _, _⟩ :: _) _ _; first | refine EL.f (FV.len rfl rfl) rfl rfl ?_ | refine EL.f (FV.lenS rfl rfl) rfl rfl ?_)
               | (show EL _ _ _ _ (⟨_, .unOp .not _ _, _, _, _, _⟩ :: _) _ _; refine EL.f (FV.not rfl) rfl rfl ?_)
               | (show EL _ _ _ _ (⟨_, .pick _ _ _, _, _, _, _⟩ :: _) _ _; first | refine EL.f (FV.pickT rfl rfl) rfl rfl ?_ | refine EL.f (FV.pickF rfl rfl) rfl rfl ?_)
               | (show EL _ _ _ _ (⟨_, .binOp .lss _ _ _ _, _, _, _, _⟩ :: _) _ _; first | refine EL.fT (FV.lss rfl rfl) rfl (fun _ => rfl) (by omega) ?_ | refine EL.fF (FV.lss rfl rfl) rfl (fun _ => rfl) (by omega) ?_)
               | (show EL _ _ _ _ (⟨_, .binOp .leq _ _ _ _, _, _, _, _⟩ :: _) _ _; first | refine EL.fT (FV.leq rfl rfl) rfl (fun _ => rfl) (by omega) ?_ | refine EL.fF (FV.leq rfl rfl) rfl (fun _ => rfl) (by omega) ?_)
               | (show EL _ _ _ _ (⟨_, .binOp .gtr _ _ _ _, _, _, _, _⟩ :: _) _ _; first | refine EL.fT (FV.gtr rfl rfl) rfl (fun _ => rfl) (by omega) ?_ | refine EL.fF (FV.gtr rfl rfl) rfl (fun _ => rfl) (by omega) ?_)
               | (show EL _ _ _ _ (⟨_, .binOp .geq _ _ _ _, _, _, _, _⟩ :: _) _ _; first | refine EL.fT (FV.geq rfl rfl) rfl (fun _ => rfl) (by omega) ?_ | refine EL.fF (FV.geq rfl rfl) rfl (fun _ => rfl) (by omega) ?_)
               | (show EL _ _ _ _ (⟨_, .binOp .eql _ _ _ _, _, _, _, _⟩ :: _) _ _; first | refine EL.fT (FV.eql rfl rfl) rfl (fun _ => rfl) (by omega) ?_ | refine EL.fF (FV.eql rfl rfl) rfl (fun _ => rfl) (by omega) ?_)
               | (show EL _ _ _ _ (⟨_, .binOp .neq _ _ _ _, _, _, _, _⟩ :: _) _ _; first | refine EL.fT (FV.neq rfl rfl) rfl (fun _ => rfl) (by omega) ?_ | refine EL.fF (FV.neq rfl rfl) rfl (fun _ => rfl) (by omega) ?_)
               | (show EL _ _ _ _ (⟨_, .indexAddr _ _ _, _, _, _, _⟩ :: _) _ _; first | refine EL.f (FV.idx0 rfl rfl rfl rfl (by omega) (by omega)) rfl rfl ?_ | refine EL.f (FV.idx1 rfl rfl rfl rfl (by omega) (by omega)) rfl rfl ?_)
               | (show EL _ _ _ _ (⟨_, .load _ _, _, _, _, _⟩ :: _) _ _; refine EL.f (FV.load1 rfl rfl rfl (by assumption)) rfl rfl ?_))
            | refine EL.nil ?_
            | refine EW.seq ?_
            | refine EW.region ?_
            | refine EW.block ?_
            | refine EW.skip ?_
            | refine EW.exit ?_
            | refine EW.ret ?_
            | refine EW.condT rfl ?_
            | refine EW.condF rfl ?_)
          exact ⟨i + 1, ⟨rfl, rfl, rfl, trivial⟩, ⟨by omega, fun j hj => by
            by_cases e : j = i
            · subst e; exact ⟨.inr (by omega), fun e => absurd e i0⟩
            · exact hall j (by omega), hE⟩, by omega⟩
  · have h122 : 122 < byt s i := by unfold isL at hL; omega
    by_cases i0 : i = 0
    · subst i0
      repeat' (first
        | (show EL _ _ _ _ (_ :: _) _ _
           first
           | (show EL _ _ _ _ (⟨_, _, _, _, _, some _⟩ :: _) _ _; first | refine EL.skipU rfl rfl ?_ | refine EL.skip rfl rfl ?_)
           | (show EL _ _ _ _ (⟨_, .index _ _ _, _, _, _, _⟩ :: _) _ _; refine EL.f (FV.idxS (i := 0) rfl rfl rfl (by omega)) rfl rfl ?_)
           | (show EL _ _ _ _ (⟨_, .move _, _, _, _, _⟩ :: _) _ _; refine EL.f (FV.move rfl) rfl rfl ?_)
           | (show EL _ _ _ _ (⟨_, .assign _, _, _, _, _⟩ :: _) _ _; refine EL.f (FV.assign rfl) rfl rfl ?_)
           | (show EL _ _ _ _ (⟨_, .binOp .add _ _ _ _, _, _, _, _⟩ :: _) _ _; refine EL.f (FV.addI rfl rfl (by omega)) rfl rfl ?_)
           | (show EL _ _ _ _ (⟨_, .binOp .sub _ _ _ _, _, _, _, _⟩ :: _) _ _; refine EL.f (FV.subI rfl rfl (by omega)) rfl rfl ?_)
           | (show EL _ _ _ _ (⟨_, .binOp .rem _ _ _ _, _, _, _, _⟩ :: _) _ _; first | refine EL.f (FV.remI rfl rfl (by decide) (by omega)) rfl rfl ?_ | refine EL.f (FV.rem rfl rfl (by decide)) rfl rfl ?_)
           | (show EL _ _ _ _ (⟨_, .binOp .quo _ _ _ _, _, _, _, _⟩ :: _) _ _; refine EL.f (FV.quoI rfl rfl (by decide) (by omega)) rfl rfl ?_)
           | (show EL _ _ _ _ (⟨_, .extract _ _, _, _, _, _⟩ :: _) _ _; refine EL.f (FV.extract rfl rfl) rfl rfl ?_)
           | (show EL _ _ _ _ (⟨_, .call _, _, _, _, _⟩ :: _) _ _; first | refine EL.f (FV.len rfl rfl) rfl rfl ?_ | refine EL.f (FV.lenS rfl rfl) rfl rfl ?_)
           | (show EL _ _ _ _ (⟨_, .unOp .not _ _, _, _, _, _⟩ :: _) _ _; refine EL.f (FV.not rfl) rfl rfl ?_)
           | (show EL _ _ _ _ (⟨_, .pick _ _ _, _, _, _, _⟩ :: _) _ _; first | refine EL.f (FV.pickT rfl rfl) rfl rfl ?_ | refine EL.f (FV.pickF rfl rfl) rfl rfl ?_)
           | (show EL _ _ _ _ (⟨_, .binOp .lss _ _ _ _, _, _, _, _⟩ :: _) _ _; first | refine EL.fT (FV.lss rfl rfl) rfl (fun _ => rfl) (by omega) ?_ | refine EL.fF (FV.lss rfl rfl) rfl (fun _ => rfl) (by omega) ?_)
           | (show EL _ _ _ _ (⟨_, .binOp .leq _ _ _ _, _, _, _, _⟩ :: _) _ _; first | refine EL.fT (FV.leq rfl rfl) rfl (fun _ => rfl) (by omega) ?_ | refine EL.fF (FV.leq rfl rfl) rfl (fun _ => rfl) (by omega) ?_)
           | (show EL _ _ _ _ (⟨_, .binOp .gtr _ _ _ _, _, _, _, _⟩ :: _) _ _; first | refine EL.fT (FV.gtr rfl rfl) rfl (fun _ => rfl) (by omega) ?_ | refine EL.fF (FV.gtr rfl rfl) rfl (fun _ => rfl) (by omega) ?_)
           | (show EL _ _ _ _ (⟨_, .binOp .geq _ _ _ _, _, _, _, _⟩ :: _) _ _; first | refine EL.fT (FV.geq rfl rfl) rfl (fun _ => rfl) (by omega) ?_ | refine EL.fF (FV.geq rfl rfl) rfl (fun _ => rfl) (by omega) ?_)
           | (show EL _ _ _ _ (⟨_, .binOp .eql _ _ _ _, _, _, _, _⟩ :: _) _ _; first | refine EL.fT (FV.eql rfl rfl) rfl (fun _ => rfl) (by omega) ?_ | refine EL.fF (FV.eql rfl rfl) rfl (fun _ => rfl) (by omega) ?_)
           | (show EL _ _ _ _ (⟨_, .binOp .neq _ _ _ _, _, _, _, _⟩ :: _) _ _; first | refine EL.fT (FV.neq rfl rfl) rfl (fun _ => rfl) (by omega) ?_ | refine EL.fF (FV.neq rfl rfl) rfl (fun _ => rfl) (by omega) ?_)
           | (show EL _ _ _ _ (⟨_, .indexAddr _ _ _, _, _, _, _⟩ :: _) _ _; first | refine EL.f (FV.idx0 rfl rfl rfl rfl (by omega) (by omega)) rfl rfl ?_ | refine EL.f (FV.idx1 rfl rfl rfl rfl (by omega) (by omega)) rfl rfl ?_)
           | (show EL _ _ _ _ (⟨_, .load _ _, _, _, _, _⟩ :: _) _ _; refine EL.f (FV.load1 rfl rfl rfl (by assumption)) rfl rfl ?_))
        | refine EL.nil ?_
        | refine EW.seq ?_
        | refine EW.region ?_
        | refine EW.block ?_
        | refine EW.skip ?_
        | refine EW.exit ?_
        | refine EW.ret ?_
        | refine EW.condT rfl ?_
        | refine EW.condF rfl ?_)
      exact ⟨_, rfl, by rw [nameOk_first hL], hE⟩
    · repeat' (first
        | (show EL _ _ _ _ (_ :: _) _ _
           first
           | (show EL _ _ _ _ (⟨_, _, _, _, _, some _⟩ :: _) _ _; first | refine EL.skipU rfl rfl ?_ | refine EL.skip rfl rfl ?_)
           | (show EL _ _ _ _ (⟨_, .index _ _ _, _, _, _, _⟩ :: _) _ _; refine EL.f (FV.idxS (i := i) rfl rfl rfl (by omega)) rfl rfl ?_)
           | (show EL _ _ _ _ (⟨_, .move _, _, _, _, _⟩ :: _) _ _; refine EL.f (FV.move rfl) rfl rfl ?_)
           | (show EL _ _ _ _ (⟨_, .assign _, _, _, _, _⟩ :: _) _ _; refine EL.f (FV.assign rfl) rfl rfl ?_)
           | (show EL _ _ _ _ (⟨_, .binOp .add _ _ _ _, _, _, _, _⟩ :: _) _ _; refine EL.f (FV.addI rfl rfl (by omega)) rfl rfl ?_)
           | (show EL _ _ _ _ (⟨_, .binOp .sub _ _ _ _, _, _, _, _⟩ :: _) _ _; refine EL.f (FV.subI rfl rfl (by omega)) rfl rfl ?_)
           | (show EL _ _ _ _ (⟨_, .binOp .rem _ _ _ _, _, _, _, _⟩ :: _) _ _; first | refine EL.f (FV.remI rfl rfl (by decide) (by omega)) rfl rfl ?_ | refine EL.f (FV.rem rfl rfl (by decide)) rfl rfl ?_)
           | (show EL _ _ _ _ (⟨_, .binOp .quo _ _ _ _, _, _, _, _⟩ :: _) _ _; refine EL.f (FV.quoI rfl rfl (by decide) (by omega)) rfl rfl ?_)
           | (show EL _ _ _ _ (⟨_, .extract _ _, _, _, _, _⟩ :: _) _ _; refine EL.f (FV.extract rfl rfl) rfl rfl ?_)
           | (show EL _ _ _ _ (⟨_, .call _, _, _, _, _⟩ :: _) _ _; first | refine EL.f (FV.len rfl rfl) rfl rfl ?_ | refine EL.f (FV.lenS rfl rfl) rfl rfl ?_)
           | (show EL _ _ _ _ (⟨_, .unOp .not _ _, _, _, _, _⟩ :: _) _ _; refine EL.f (FV.not rfl) rfl rfl ?_)
           | (show EL _ _ _ _ (⟨_, .pick _ _ _, _, _, _, _⟩ :: _) _ _; first | refine EL.f (FV.pickT rfl rfl) rfl rfl ?_ | refine EL.f (FV.pickF rfl rfl) rfl rfl ?_)
           | (show EL _ _ _ _ (⟨_, .binOp .lss _ _ _ _, _, _, _, _⟩ :: _) _ _; first | refine EL.fT (FV.lss rfl rfl) rfl (fun _ => rfl) (by omega) ?_ | refine EL.fF (FV.lss rfl rfl) rfl (fun _ => rfl) (by omega) ?_)
           | (show EL _ _ _ _ (⟨_, .binOp .leq _ _ _ _, _, _, _, _⟩ :: _) _ _; first | refine EL.fT (FV.leq rfl rfl) rfl (fun _ => rfl) (by omega) ?_ | refine EL.fF (FV.leq rfl rfl) rfl (fun _ => rfl) (by omega) ?_)
           | (show EL _ _ _ _ (⟨_, .binOp .gtr _ _ _ _, _, _, _, _⟩ :: _) _ _; first | refine EL.fT (FV.gtr rfl rfl) rfl (fun _ => rfl) (by omega) ?_ | refine EL.fF (FV.gtr rfl rfl) rfl (fun _ => rfl) (by omega) ?_)
           | (show EL _ _ _ _ (⟨_, .binOp .geq _ _ _ _, _, _, _, _⟩ :: _) _ _; first | refine EL.fT (FV.geq rfl rfl) rfl (fun _ => rfl) (by omega) ?_ | refine EL.fF (FV.geq rfl rfl) rfl (fun _ => rfl) (by omega) ?_)
           | (show EL _ _ _ _ (⟨_, .binOp .eql _ _ _ _, _, _, _, _⟩ :: _) _ _; first | refine EL.fT (FV.eql rfl rfl) rfl (fun _ => rfl) (by omega) ?_ | refine EL.fF (FV.eql rfl rfl) rfl (fun _ => rfl) (by omega) ?_)
           | (show EL _ _ _ _ (⟨_, .binOp .neq _ _ _ _, _, _, _, _⟩ :: _) _ _; first | refine EL.fT (FV.neq rfl rfl) rfl (fun _ => rfl) (by omega) ?_ | refine EL.fF (FV.neq rfl rfl) rfl (fun _ => rfl) (by omega) ?_)
           | (show EL _ _ _ _ (⟨_, .indexAddr _ _ _, _, _, _, _⟩ :: _) _ _; first | refine EL.f (FV.idx0 rfl rfl rfl rfl (by omega) (by omega)) rfl rfl ?_ | refine EL.f (FV.idx1 rfl rfl rfl rfl (by omega) (by omega)) rfl rfl ?_)
           | (show EL _ _ _ _ (⟨_, .load _ _, _, _, _, _⟩ :: _) _ _; refine EL.f (FV.load1 rfl rfl rfl (by assumption)) rfl rfl ?_))
        | refine EL.nil ?_
        | refine EW.seq ?_
        | refine EW.region ?_
        | refine EW.block ?_
        | refine EW.skip ?_
        | refine EW.exit ?_
        | refine EW.ret ?_
        | refine EW.condT rfl ?_
        | refine EW.condF rfl ?_)
      exact ⟨_, rfl, by rw [nameOk_at hlt (by unfold isLD; omega)], hE⟩
def inB (x a b : Int) : Bool := decide (a ≤ x ∧ x ≤ b)
theorem inB_iff {x a b : Int} : inB x a b = true ↔ a ≤ x ∧ x ≤ b := by simp [inB]
theorem specIn (x a b : Int) (w : World) : CallsR Try.prog 31 [.int .i64 x, .int .i64 a, .int .i64 b] w fun v w' => v = .bool (inB x a b) ∧ w = w' := by
  refine CallsR.enter Try.func31 (by decide +kernel) rfl Try.ntmps31 rfl ?_
  unfold inB
  repeat' (first
    | (show EL _ _ _ _ (_ :: _) _ _
       first
       | (show EL _ _ _ _ (⟨_, _, _, _, _, some _⟩ :: _) _ _; refine EL.skip rfl rfl ?_)
       | (show EL _ _ _ _ (⟨_, .move _, _, _, _, _⟩ :: _) _ _; refine EL.f (FV.move rfl) rfl rfl ?_)
       | (show EL _ _ _ _ (⟨_, .assign _, _, _, _, _⟩ :: _) _ _; refine EL.f (FV.assign rfl) rfl rfl ?_)
       | (show EL _ _ _ _ (⟨_, .binOp .add _ _ _ _, _, _, _, _⟩ :: _) _ _; refine EL.f (FV.addI rfl rfl (by omega)) rfl rfl ?_)
       | (show EL _ _ _ _ (⟨_, .binOp .sub _ _ _ _, _, _, _, _⟩ :: _) _ _; refine EL.f (FV.subI rfl rfl (by omega)) rfl rfl ?_)
       | (show EL _ _ _ _ (⟨_, .binOp .rem _ _ _ _, _, _, _, _⟩ :: _) _ _; first | refine EL.f (FV.remI rfl rfl (by decide) (by omega)) rfl rfl ?_ | refine EL.f (FV.rem rfl rfl (by decide)) rfl rfl ?_)
       | (show EL _ _ _ _ (⟨_, .binOp .quo _ _ _ _, _, _, _, _⟩ :: _) _ _; refine EL.f (FV.quoI rfl rfl (by decide) (by omega)) rfl rfl ?_)
       | (show EL _ _ _ _ (⟨_, .extract _ _, _, _, _, _⟩ :: _) _ _; refine EL.f (FV.extract rfl rfl) rfl rfl ?_)
       | (show EL _ _ _ _ (⟨_, .call _, _, _, _, _⟩ :: _) _ _; first | refine EL.f (FV.len rfl rfl) rfl rfl ?_ | refine EL.f (FV.lenS rfl rfl) rfl rfl ?_)
       | (show EL _ _ _ _ (⟨_, .unOp .not _ _, _, _, _, _⟩ :: _) _ _; refine EL.f (FV.not rfl) rfl rfl ?_)
       | (show EL _ _ _ _ (⟨_, .pick _ _ _, _, _, _, _⟩ :: _) _ _; first | refine EL.f (FV.pickT rfl rfl) rfl rfl ?_ | refine EL.f (FV.pickF rfl rfl) rfl rfl ?_)
       | (show EL _ _ _ _ (⟨_, .binOp .lss _ _ _ _, _, _, _, _⟩ :: _) _ _; first | refine EL.fT (FV.lss rfl rfl) rfl (fun _ => rfl) (by omega) ?_ | refine EL.fF (FV.lss rfl rfl) rfl (fun _ => rfl) (by omega) ?_ | refine EL.fS (FV.lss rfl rfl) rfl (fun _ => rfl) (fun _ => ?_) (fun _ => ?_))
       | (show EL _ _ _ _ (⟨_, .binOp .leq _ _ _ _, _, _, _, _⟩ :: _) _ _; first | refine EL.fT (FV.leq rfl rfl) rfl (fun _ => rfl) (by omega) ?_ | refine EL.fF (FV.leq rfl rfl) rfl (fun _ => rfl) (by omega) ?_ | refine EL.fS (FV.leq rfl rfl) rfl (fun _ => rfl) (fun _ => ?_) (fun _ => ?_))
       | (show EL _ _ _ _ (⟨_, .binOp .gtr _ _ _ _, _, _, _, _⟩ :: _) _ _; first | refine EL.fT (FV.gtr rfl rfl) rfl (fun _ => rfl) (by omega) ?_ | refine EL.fF (FV.gtr rfl rfl) rfl (fun _ => rfl) (by omega) ?_ | refine EL.fS (FV.gtr rfl rfl) rfl (fun _ => rfl) (fun _ => ?_) (fun _ => ?_))
       | (show EL _ _ _ _ (⟨_, .binOp .geq _ _ _ _, _, _, _, _⟩ :: _) _ _; first | refine EL.fT (FV.geq rfl rfl) rfl (fun _ => rfl) (by omega) ?_ | refine EL.fF (FV.geq rfl rfl) rfl (fun _ => rfl) (by omega) ?_ | refine EL.fS (FV.geq rfl rfl) rfl (fun _ => rfl) (fun _ => ?_) (fun _ => ?_))
       | (show EL _ _ _ _ (⟨_, .binOp .eql _ _ _ _, _, _, _, _⟩ :: _) _ _; first | refine EL.fT (FV.eql rfl rfl) rfl (fun _ => rfl) (by omega) ?_ | refine EL.fF (FV.eql rfl rfl) rfl (fun _ => rfl) (by omega) ?_ | refine EL.fS (FV.eql rfl rfl) rfl (fun _ => rfl) (fun _ => ?_) (fun _ => ?_))
       | (show EL _ _ _ _ (⟨_, .binOp .neq _ _ _ _, _, _, _, _⟩ :: _) _ _; first | refine EL.fT (FV.neq rfl rfl) rfl (fun _ => rfl) (by omega) ?_ | refine EL.fF (FV.neq rfl rfl) rfl (fun _ => rfl) (by omega) ?_ | refine EL.fS (FV.neq rfl rfl) rfl (fun _ => rfl) (fun _ => ?_) (fun _ => ?_))
       | (show EL _ _ _ _ (⟨_, .indexAddr _ _ _, _, _, _, _⟩ :: _) _ _; first | refine EL.f (FV.idx0 rfl rfl rfl rfl (by omega) (by omega)) rfl rfl ?_ | refine EL.f (FV.idx1 rfl rfl rfl rfl (by omega) (by omega)) rfl rfl ?_)
       | (show EL _ _ _ _ (⟨_, .load _ _, _, _, _, _⟩ :: _) _ _; refine EL.f (FV.load1 rfl rfl rfl (by assumption)) rfl rfl ?_))
    | refine EL.nil ?_
    | refine EW.seq ?_
    | refine EW.region ?_
    | refine EW.block ?_
    | refine EW.skip ?_
    | refine EW.exit ?_
    | refine EW.ret ?_
    | refine EW.condT rfl ?_
    | refine EW.condF rfl ?_)
  all_goals first
    | exact ⟨_, rfl, by rw [decide_eq_true]; omega, rfl⟩
    | exact ⟨_, rfl, by rw [decide_eq_false]; omega, rfl⟩
theorem specInR {x a b : Int} {r : Bool} (h : inB x a b = r) (w : World) : CallsR Try.prog 31 [.int .i64 x, .int .i64 a, .int .i64 b] w fun v w' => v = .bool r ∧ w = w' := h ▸ specIn x a b w
set_option maxHeartbeats 4000000 in
theorem specIsName (s : ByteArray) (w : World) : CallsR Try.prog 101 [.string s] w fun v w' => v = .bool (nameOk s) ∧ Ext w w' := by
  refine CallsR.enter Try.func101 (by decide +kernel) rfl Try.ntmps101 rfl ?_
  by_cases h1 : 1 ≤ s.size ∧ s.size ≤ 12
  rotate_left
  · have hin : inB (s.size : Int) 1 12 = false := by unfold inB; exact decide_eq_false (by omega)
    repeat' (first
      | (show EL _ _ _ _ (_ :: _) _ _
         first
         | (show EL _ _ _ _ (⟨_, _, _, _, _, some _⟩ :: _) _ _; first | refine EL.skipU rfl rfl ?_ | refine EL.skip rfl rfl ?_)
         | (show EL _ _ _ _ (⟨_, .call _, _, _, _, _⟩ :: _) _ _; first | (refine EL.h (Hv.call (specInR hin _) rfl) rfl (fun _ => rfl) ?_; rintro _ _ ⟨rfl, rfl⟩) | refine EL.f (FV.len rfl rfl) rfl rfl ?_ | refine EL.f (FV.lenS rfl rfl) rfl rfl ?_)
         | (show EL _ _ _ _ (⟨_, .move _, _, _, _, _⟩ :: _) _ _; refine EL.f (FV.move rfl) rfl rfl ?_)
         | (show EL _ _ _ _ (⟨_, .assign _, _, _, _, _⟩ :: _) _ _; refine EL.f (FV.assign rfl) rfl rfl ?_)
         | (show EL _ _ _ _ (⟨_, .binOp .add _ _ _ _, _, _, _, _⟩ :: _) _ _; refine EL.f (FV.addI rfl rfl (by omega)) rfl rfl ?_)
         | (show EL _ _ _ _ (⟨_, .binOp .sub _ _ _ _, _, _, _, _⟩ :: _) _ _; refine EL.f (FV.subI rfl rfl (by omega)) rfl rfl ?_)
         | (show EL _ _ _ _ (⟨_, .binOp .rem _ _ _ _, _, _, _, _⟩ :: _) _ _; first | refine EL.f (FV.remI rfl rfl (by decide) (by omega)) rfl rfl ?_ | refine EL.f (FV.rem rfl rfl (by decide)) rfl rfl ?_)
         | (show EL _ _ _ _ (⟨_, .binOp .quo _ _ _ _, _, _, _, _⟩ :: _) _ _; refine EL.f (FV.quoI rfl rfl (by decide) (by omega)) rfl rfl ?_)
         | (show EL _ _ _ _ (⟨_, .extract _ _, _, _, _, _⟩ :: _) _ _; refine EL.f (FV.extract rfl rfl) rfl rfl ?_)
         | (show EL _ _ _ _ (⟨_, .unOp .not _ _, _, _, _, _⟩ :: _) _ _; refine EL.f (FV.not rfl) rfl rfl ?_)
         | (show EL _ _ _ _ (⟨_, .pick _ _ _, _, _, _, _⟩ :: _) _ _; first | refine EL.f (FV.pickT rfl rfl) rfl rfl ?_ | refine EL.f (FV.pickF rfl rfl) rfl rfl ?_)
         | (show EL _ _ _ _ (⟨_, .binOp .lss _ _ _ _, _, _, _, _⟩ :: _) _ _; first | refine EL.fT (FV.lss rfl rfl) rfl (fun _ => rfl) (by omega) ?_ | refine EL.fF (FV.lss rfl rfl) rfl (fun _ => rfl) (by omega) ?_)
         | (show EL _ _ _ _ (⟨_, .binOp .leq _ _ _ _, _, _, _, _⟩ :: _) _ _; first | refine EL.fT (FV.leq rfl rfl) rfl (fun _ => rfl) (by omega) ?_ | refine EL.fF (FV.leq rfl rfl) rfl (fun _ => rfl) (by omega) ?_)
         | (show EL _ _ _ _ (⟨_, .binOp .gtr _ _ _ _, _, _, _, _⟩ :: _) _ _; first | refine EL.fT (FV.gtr rfl rfl) rfl (fun _ => rfl) (by omega) ?_ | refine EL.fF (FV.gtr rfl rfl) rfl (fun _ => rfl) (by omega) ?_)
         | (show EL _ _ _ _ (⟨_, .binOp .geq _ _ _ _, _, _, _, _⟩ :: _) _ _; first | refine EL.fT (FV.geq rfl rfl) rfl (fun _ => rfl) (by omega) ?_ | refine EL.fF (FV.geq rfl rfl) rfl (fun _ => rfl) (by omega) ?_)
         | (show EL _ _ _ _ (⟨_, .binOp .eql _ _ _ _, _, _, _, _⟩ :: _) _ _; first | refine EL.fT (FV.eql rfl rfl) rfl (fun _ => rfl) (by omega) ?_ | refine EL.fF (FV.eql rfl rfl) rfl (fun _ => rfl) (by omega) ?_)
         | (show EL _ _ _ _ (⟨_, .binOp .neq _ _ _ _, _, _, _, _⟩ :: _) _ _; first | refine EL.fT (FV.neq rfl rfl) rfl (fun _ => rfl) (by omega) ?_ | refine EL.fF (FV.neq rfl rfl) rfl (fun _ => rfl) (by omega) ?_)
         | (show EL _ _ _ _ (⟨_, .indexAddr _ _ _, _, _, _, _⟩ :: _) _ _; first | refine EL.f (FV.idx0 rfl rfl rfl rfl (by omega) (by omega)) rfl rfl ?_ | refine EL.f (FV.idx1 rfl rfl rfl rfl (by omega) (by omega)) rfl rfl ?_)
         | (show EL _ _ _ _ (⟨_, .load _ _, _, _, _, _⟩ :: _) _ _; refine EL.f (FV.load1 rfl rfl rfl (by assumption)) rfl rfl ?_))
      | refine EL.nil ?_
      | refine EW.seq ?_
      | refine EW.region ?_
      | refine EW.block ?_
      | refine EW.skip ?_
      | refine EW.exit ?_
      | refine EW.ret ?_
      | refine EW.condT rfl ?_
      | refine EW.condF rfl ?_)
    exact ⟨_, rfl, by rw [nameOk_size h1], Ext.refl _⟩
  have hin : inB (s.size : Int) 1 12 = true := by unfold inB; exact decide_eq_true (by omega)
  by_cases h97 : byt s 0 < 97
  · repeat' (first
      | (show EL _ _ _ _ (_ :: _) _ _
         first
         | (show EL _ _ _ _ (⟨_, _, _, _, _, some _⟩ :: _) _ _; first | refine EL.skipU rfl rfl ?_ | refine EL.skip rfl rfl ?_)
         | (show EL _ _ _ _ (⟨_, .call _, _, _, _, _⟩ :: _) _ _; first | (refine EL.h (Hv.call (specInR hin _) rfl) rfl (fun _ => rfl) ?_; rintro _ _ ⟨rfl, rfl⟩) | refine EL.f (FV.len rfl rfl) rfl rfl ?_ | refine EL.f (FV.lenS rfl rfl) rfl rfl ?_)
         | (show EL _ _ _ _ (⟨_, .index _ _ _, _, _, _, _⟩ :: _) _ _; refine EL.f (FV.idxS (i := 0) rfl rfl rfl (by omega)) rfl rfl ?_)
         | (show EL _ _ _ _ (⟨_, .move _, _, _, _, _⟩ :: _) _ _; refine EL.f (FV.move rfl) rfl rfl ?_)
         | (show EL _ _ _ _ (⟨_, .assign _, _, _, _, _⟩ :: _) _ _; refine EL.f (FV.assign rfl) rfl rfl ?_)
         | (show EL _ _ _ _ (⟨_, .binOp .add _ _ _ _, _, _, _, _⟩ :: _) _ _; refine EL.f (FV.addI rfl rfl (by omega)) rfl rfl ?_)
         | (show EL _ _ _ _ (⟨_, .binOp .sub _ _ _ _, _, _, _, _⟩ :: _) _ _; refine EL.f (FV.subI rfl rfl (by omega)) rfl rfl ?_)
         | (show EL _ _ _ _ (⟨_, .binOp .rem _ _ _ _, _, _, _, _⟩ :: _) _ _; first | refine EL.f (FV.remI rfl rfl (by decide) (by omega)) rfl rfl ?_ | refine EL.f (FV.rem rfl rfl (by decide)) rfl rfl ?_)
         | (show EL _ _ _ _ (⟨_, .binOp .quo _ _ _ _, _, _, _, _⟩ :: _) _ _; refine EL.f (FV.quoI rfl rfl (by decide) (by omega)) rfl rfl ?_)
         | (show EL _ _ _ _ (⟨_, .extract _ _, _, _, _, _⟩ :: _) _ _; refine EL.f (FV.extract rfl rfl) rfl rfl ?_)
         | (show EL _ _ _ _ (⟨_, .unOp .not _ _, _, _, _, _⟩ :: _) _ _; refine EL.f (FV.not rfl) rfl rfl ?_)
         | (show EL _ _ _ _ (⟨_, .pick _ _ _, _, _, _, _⟩ :: _) _ _; first | refine EL.f (FV.pickT rfl rfl) rfl rfl ?_ | refine EL.f (FV.pickF rfl rfl) rfl rfl ?_)
         | (show EL _ _ _ _ (⟨_, .binOp .lss _ _ _ _, _, _, _, _⟩ :: _) _ _; first | refine EL.fT (FV.lss rfl rfl) rfl (fun _ => rfl) (by omega) ?_ | refine EL.fF (FV.lss rfl rfl) rfl (fun _ => rfl) (by omega) ?_)
         | (show EL _ _ _ _ (⟨_, .binOp .leq _ _ _ _, _, _, _, _⟩ :: _) _ _; first | refine EL.fT (FV.leq rfl rfl) rfl (fun _ => rfl) (by omega) ?_ | refine EL.fF (FV.leq rfl rfl) rfl (fun _ => rfl) (by omega) ?_)
         | (show EL _ _ _ _ (⟨_, .binOp .gtr _ _ _ _, _, _, _, _⟩ :: _) _ _; first | refine EL.fT (FV.gtr rfl rfl) rfl (fun _ => rfl) (by omega) ?_ | refine EL.fF (FV.gtr rfl rfl) rfl (fun _ => rfl) (by omega) ?_)
         | (show EL _ _ _ _ (⟨_, .binOp .geq _ _ _ _, _, _, _, _⟩ :: _) _ _; first | refine EL.fT (FV.geq rfl rfl) rfl (fun _ => rfl) (by omega) ?_ | refine EL.fF (FV.geq rfl rfl) rfl (fun _ => rfl) (by omega) ?_)
         | (show EL _ _ _ _ (⟨_, .binOp .eql _ _ _ _, _, _, _, _⟩ :: _) _ _; first | refine EL.fT (FV.eql rfl rfl) rfl (fun _ => rfl) (by omega) ?_ | refine EL.fF (FV.eql rfl rfl) rfl (fun _ => rfl) (by omega) ?_)
         | (show EL _ _ _ _ (⟨_, .binOp .neq _ _ _ _, _, _, _, _⟩ :: _) _ _; first | refine EL.fT (FV.neq rfl rfl) rfl (fun _ => rfl) (by omega) ?_ | refine EL.fF (FV.neq rfl rfl) rfl (fun _ => rfl) (by omega) ?_)
         | (show EL _ _ _ _ (⟨_, .indexAddr _ _ _, _, _, _, _⟩ :: _) _ _; first | refine EL.f (FV.idx0 rfl rfl rfl rfl (by omega) (by omega)) rfl rfl ?_ | refine EL.f (FV.idx1 rfl rfl rfl rfl (by omega) (by omega)) rfl rfl ?_)
         | (show EL _ _ _ _ (⟨_, .load _ _, _, _, _, _⟩ :: _) _ _; refine EL.f (FV.load1 rfl rfl rfl (by assumption)) rfl rfl ?_))
      | refine EL.nil ?_
      | refine EW.seq ?_
      | refine EW.region ?_
      | refine EW.block ?_
      | refine EW.skip ?_
      | refine EW.exit ?_
      | refine EW.ret ?_
      | refine EW.condT rfl ?_
      | refine EW.condF rfl ?_)
    exact ⟨_, rfl, by rw [nameOk_first (by unfold isL; omega)], Ext.refl _⟩
  by_cases h122 : 122 < byt s 0
  · repeat' (first
      | (show EL _ _ _ _ (_ :: _) _ _
         first
         | (show EL _ _ _ _ (⟨_, _, _, _, _, some _⟩ :: _) _ _; first | refine EL.skipU rfl rfl ?_ | refine EL.skip rfl rfl ?_)
         | (show EL _ _ _ _ (⟨_, .call _, _, _, _, _⟩ :: _) _ _; first | (refine EL.h (Hv.call (specInR hin _) rfl) rfl (fun _ => rfl) ?_; rintro _ _ ⟨rfl, rfl⟩) | refine EL.f (FV.len rfl rfl) rfl rfl ?_ | refine EL.f (FV.lenS rfl rfl) rfl rfl ?_)
         | (show EL _ _ _ _ (⟨_, .index _ _ _, _, _, _, _⟩ :: _) _ _; refine EL.f (FV.idxS (i := 0) rfl rfl rfl (by omega)) rfl rfl ?_)
         | (show EL _ _ _ _ (⟨_, .move _, _, _, _, _⟩ :: _) _ _; refine EL.f (FV.move rfl) rfl rfl ?_)
         | (show EL _ _ _ _ (⟨_, .assign _, _, _, _, _⟩ :: _) _ _; refine EL.f (FV.assign rfl) rfl rfl ?_)
         | (show EL _ _ _ _ (⟨_, .binOp .add _ _ _ _, _, _, _, _⟩ :: _) _ _; refine EL.f (FV.addI rfl rfl (by omega)) rfl rfl ?_)
         | (show EL _ _ _ _ (⟨_, .binOp .sub _ _ _ _, _, _, _, _⟩ :: _) _ _; refine EL.f (FV.subI rfl rfl (by omega)) rfl rfl ?_)
         | (show EL _ _ _ _ (⟨_, .binOp .rem _ _ _ _, _, _, _, _⟩ :: _) _ _; first | refine EL.f (FV.remI rfl rfl (by decide) (by omega)) rfl rfl ?_ | refine EL.f (FV.rem rfl rfl (by decide)) rfl rfl ?_)
         | (show EL _ _ _ _ (⟨_, .binOp .quo _ _ _ _, _, _, _, _⟩ :: _) _ _; refine EL.f (FV.quoI rfl rfl (by decide) (by omega)) rfl rfl ?_)
         | (show EL _ _ _ _ (⟨_, .extract _ _, _, _, _, _⟩ :: _) _ _; refine EL.f (FV.extract rfl rfl) rfl rfl ?_)
         | (show EL _ _ _ _ (⟨_, .unOp .not _ _, _, _, _, _⟩ :: _) _ _; refine EL.f (FV.not rfl) rfl rfl ?_)
         | (show EL _ _ _ _ (⟨_, .pick _ _ _, _, _, _, _⟩ :: _) _ _; first | refine EL.f (FV.pickT rfl rfl) rfl rfl ?_ | refine EL.f (FV.pickF rfl rfl) rfl rfl ?_)
         | (show EL _ _ _ _ (⟨_, .binOp .lss _ _ _ _, _, _, _, _⟩ :: _) _ _; first | refine EL.fT (FV.lss rfl rfl) rfl (fun _ => rfl) (by omega) ?_ | refine EL.fF (FV.lss rfl rfl) rfl (fun _ => rfl) (by omega) ?_)
         | (show EL _ _ _ _ (⟨_, .binOp .leq _ _ _ _, _, _, _, _⟩ :: _) _ _; first | refine EL.fT (FV.leq rfl rfl) rfl (fun _ => rfl) (by omega) ?_ | refine EL.fF (FV.leq rfl rfl) rfl (fun _ => rfl) (by omega) ?_)
         | (show EL _ _ _ _ (⟨_, .binOp .gtr _ _ _ _, _, _, _, _⟩ :: _) _ _; first | refine EL.fT (FV.gtr rfl rfl) rfl (fun _ => rfl) (by omega) ?_ | refine EL.fF (FV.gtr rfl rfl) rfl (fun _ => rfl) (by omega) ?_)
         | (show EL _ _ _ _ (⟨_, .binOp .geq _ _ _ _, _, _, _, _⟩ :: _) _ _; first | refine EL.fT (FV.geq rfl rfl) rfl (fun _ => rfl) (by omega) ?_ | refine EL.fF (FV.geq rfl rfl) rfl (fun _ => rfl) (by omega) ?_)
         | (show EL _ _ _ _ (⟨_, .binOp .eql _ _ _ _, _, _, _, _⟩ :: _) _ _; first | refine EL.fT (FV.eql rfl rfl) rfl (fun _ => rfl) (by omega) ?_ | refine EL.fF (FV.eql rfl rfl) rfl (fun _ => rfl) (by omega) ?_)
         | (show EL _ _ _ _ (⟨_, .binOp .neq _ _ _ _, _, _, _, _⟩ :: _) _ _; first | refine EL.fT (FV.neq rfl rfl) rfl (fun _ => rfl) (by omega) ?_ | refine EL.fF (FV.neq rfl rfl) rfl (fun _ => rfl) (by omega) ?_)
         | (show EL _ _ _ _ (⟨_, .indexAddr _ _ _, _, _, _, _⟩ :: _) _ _; first | refine EL.f (FV.idx0 rfl rfl rfl rfl (by omega) (by omega)) rfl rfl ?_ | refine EL.f (FV.idx1 rfl rfl rfl rfl (by omega) (by omega)) rfl rfl ?_)
         | (show EL _ _ _ _ (⟨_, .load _ _, _, _, _, _⟩ :: _) _ _; refine EL.f (FV.load1 rfl rfl rfl (by assumption)) rfl rfl ?_))
      | refine EL.nil ?_
      | refine EW.seq ?_
      | refine EW.region ?_
      | refine EW.block ?_
      | refine EW.skip ?_
      | refine EW.exit ?_
      | refine EW.ret ?_
      | refine EW.condT rfl ?_
      | refine EW.condF rfl ?_)
    exact ⟨_, rfl, by rw [nameOk_first (by unfold isL; omega)], Ext.refl _⟩
  have hL : isL (byt s 0) := ⟨by omega, by omega⟩
  repeat' (first
    | (show EL _ _ _ _ (_ :: _) _ _
       first
       | (show EL _ _ _ _ (⟨_, _, _, _, _, some _⟩ :: _) _ _; first | refine EL.skipU rfl rfl ?_ | refine EL.skip rfl rfl ?_)
       | (show EL _ _ _ _ (⟨_, .call _, _, _, _, _⟩ :: _) _ _; first | (refine EL.h (Hv.call (specInR hin _) rfl) rfl (fun _ => rfl) ?_; rintro _ _ ⟨rfl, rfl⟩) | refine EL.f (FV.len rfl rfl) rfl rfl ?_ | refine EL.f (FV.lenS rfl rfl) rfl rfl ?_)
       | (show EL _ _ _ _ (⟨_, .index _ _ _, _, _, _, _⟩ :: _) _ _; refine EL.f (FV.idxS (i := 0) rfl rfl rfl (by omega)) rfl rfl ?_)
       | (show EL _ _ _ _ (⟨_, .move _, _, _, _, _⟩ :: _) _ _; refine EL.f (FV.move rfl) rfl rfl ?_)
       | (show EL _ _ _ _ (⟨_, .assign _, _, _, _, _⟩ :: _) _ _; refine EL.f (FV.assign rfl) rfl rfl ?_)
       | (show EL _ _ _ _ (⟨_, .binOp .add _ _ _ _, _, _, _, _⟩ :: _) _ _; refine EL.f (FV.addI rfl rfl (by omega)) rfl rfl ?_)
       | (show EL _ _ _ _ (⟨_, .binOp .sub _ _ _ _, _, _, _, _⟩ :: _) _ _; refine EL.f (FV.subI rfl rfl (by omega)) rfl rfl ?_)
       | (show EL _ _ _ _ (⟨_, .binOp .rem _ _ _ _, _, _, _, _⟩ :: _) _ _; first | refine EL.f (FV.remI rfl rfl (by decide) (by omega)) rfl rfl ?_ | refine EL.f (FV.rem rfl rfl (by decide)) rfl rfl ?_)
       | (show EL _ _ _ _ (⟨_, .binOp .quo _ _ _ _, _, _, _, _⟩ :: _) _ _; refine EL.f (FV.quoI rfl rfl (by decide) (by omega)) rfl rfl ?_)
       | (show EL _ _ _ _ (⟨_, .extract _ _, _, _, _, _⟩ :: _) _ _; refine EL.f (FV.extract rfl rfl) rfl rfl ?_)
       | (show EL _ _ _ _ (⟨_, .unOp .not _ _, _, _, _, _⟩ :: _) _ _; refine EL.f (FV.not rfl) rfl rfl ?_)
       | (show EL _ _ _ _ (⟨_, .pick _ _ _, _, _, _, _⟩ :: _) _ _; first | refine EL.f (FV.pickT rfl rfl) rfl rfl ?_ | refine EL.f (FV.pickF rfl rfl) rfl rfl ?_)
       | (show EL _ _ _ _ (⟨_, .binOp .lss _ _ _ _, _, _, _, _⟩ :: _) _ _; first | refine EL.fT (FV.lss rfl rfl) rfl (fun _ => rfl) (by omega) ?_ | refine EL.fF (FV.lss rfl rfl) rfl (fun _ => rfl) (by omega) ?_)
       | (show EL _ _ _ _ (⟨_, .binOp .leq _ _ _ _, _, _, _, _⟩ :: _) _ _; first | refine EL.fT (FV.leq rfl rfl) rfl (fun _ => rfl) (by omega) ?_ | refine EL.fF (FV.leq rfl rfl) rfl (fun _ => rfl) (by omega) ?_)
       | (show EL _ _ _ _ (⟨_, .binOp .gtr _ _ _ _, _, _, _, _⟩ :: _) _ _; first | refine EL.fT (FV.gtr rfl rfl) rfl (fun _ => rfl) (by omega) ?_ | refine EL.fF (FV.gtr rfl rfl) rfl (fun _ => rfl) (by omega) ?_)
       | (show EL _ _ _ _ (⟨_, .binOp .geq _ _ _ _, _, _, _, _⟩ :: _) _ _; first | refine EL.fT (FV.geq rfl rfl) rfl (fun _ => rfl) (by omega) ?_ | refine EL.fF (FV.geq rfl rfl) rfl (fun _ => rfl) (by omega) ?_)
       | (show EL _ _ _ _ (⟨_, .binOp .eql _ _ _ _, _, _, _, _⟩ :: _) _ _; first | refine EL.fT (FV.eql rfl rfl) rfl (fun _ => rfl) (by omega) ?_ | refine EL.fF (FV.eql rfl rfl) rfl (fun _ => rfl) (by omega) ?_)
       | (show EL _ _ _ _ (⟨_, .binOp .neq _ _ _ _, _, _, _, _⟩ :: _) _ _; first | refine EL.fT (FV.neq rfl rfl) rfl (fun _ => rfl) (by omega) ?_ | refine EL.fF (FV.neq rfl rfl) rfl (fun _ => rfl) (by omega) ?_)
       | (show EL _ _ _ _ (⟨_, .indexAddr _ _ _, _, _, _, _⟩ :: _) _ _; first | refine EL.f (FV.idx0 rfl rfl rfl rfl (by omega) (by omega)) rfl rfl ?_ | refine EL.f (FV.idx1 rfl rfl rfl rfl (by omega) (by omega)) rfl rfl ?_)
       | (show EL _ _ _ _ (⟨_, .load _ _, _, _, _, _⟩ :: _) _ _; refine EL.f (FV.load1 rfl rfl rfl (by assumption)) rfl rfl ?_))
    | refine EL.nil ?_
    | refine EW.seq ?_
    | refine EW.region ?_
    | refine EW.block ?_
    | refine EW.skip ?_
    | refine EW.exit ?_
    | refine EW.ret ?_
    | refine EW.condT rfl ?_
    | refine EW.condF rfl ?_)
  refine EW.loop (X := Nat) (fun i wr => i ≤ s.size ∧ (∀ j, j < i → isLD (byt s j)) ∧ Ext w wr) (fun i => [(0, .string s), (3, .int .i64 i)]) (fun i => s.size - i) 0 ⟨Nat.zero_le _, fun j hj => by omega, Ext.refl _⟩ ⟨rfl, rfl, trivial⟩ ?_
  rintro i wr ⟨hi, hall, hE⟩
  by_cases hlt : i < s.size
  rotate_left
  · obtain rfl : i = s.size := by omega
    repeat' (first
      | (show EL _ _ _ _ (_ :: _) _ _
         first
         | (show EL _ _ _ _ (⟨_, _, _, _, _, some _⟩ :: _) _ _; refine EL.skip rfl rfl ?_)
         | (show EL _ _ _ _ (⟨_, .move _, _, _, _, _⟩ :: _) _ _; refine EL.f (FV.move rfl) rfl rfl ?_)
         | (show EL _ _ _ _ (⟨_, .assign _, _, _, _, _⟩ :: _) _ _; refine EL.f (FV.assign rfl) rfl rfl ?_)
         | (show EL _ _ _ _ (⟨_, .binOp .add _ _ _ _, _, _, _, _⟩ :: _) _ _; refine EL.f (FV.addI rfl rfl (by omega)) rfl rfl ?_)
         | (show EL _ _ _ _ (⟨_, .binOp .sub _ _ _ _, _, _, _, _⟩ :: _) _ _; refine EL.f (FV.subI rfl rfl (by omega)) rfl rfl ?_)
         | (show EL _ _ _ _ (⟨_, .binOp .rem _ _ _ _, _, _, _, _⟩ :: _) _ _; first | refine EL.f (FV.remI rfl rfl (by decide) (by omega)) rfl rfl ?_ | refine EL.f (FV.rem rfl rfl (by decide)) rfl rfl ?_)
         | (show EL _ _ _ _ (⟨_, .binOp .quo _ _ _ _, _, _, _, _⟩ :: _) _ _; refine EL.f (FV.quoI rfl rfl (by decide) (by omega)) rfl rfl ?_)
         | (show EL _ _ _ _ (⟨_, .extract _ _, _, _, _, _⟩ :: _) _ _; refine EL.f (FV.extract rfl rfl) rfl rfl ?_)
         | (show EL _ _ _ _ (⟨_, .call _, _, _, _, _⟩ :: _) _ _; first | refine EL.f (FV.len rfl rfl) rfl rfl ?_ | refine EL.f (FV.lenS rfl rfl) rfl rfl ?_)
         | (show EL _ _ _ _ (⟨_, .unOp .not _ _, _, _, _, _⟩ :: _) _ _; refine EL.f (FV.not rfl) rfl rfl ?_)
         | (show EL _ _ _ _ (⟨_, .pick _ _ _, _, _, _, _⟩ :: _) _ _; first | refine EL.f (FV.pickT rfl rfl) rfl rfl ?_ | refine EL.f (FV.pickF rfl rfl) rfl rfl ?_)
         | (show EL _ _ _ _ (⟨_, .binOp .lss _ _ _ _, _, _, _, _⟩ :: _) _ _; first | refine EL.fT (FV.lss rfl rfl) rfl (fun _ => rfl) (by omega) ?_ | refine EL.fF (FV.lss rfl rfl) rfl (fun _ => rfl) (by omega) ?_)
         | (show EL _ _ _ _ (⟨_, .binOp .leq _ _ _ _, _, _, _, _⟩ :: _) _ _; first | refine EL.fT (FV.leq rfl rfl) rfl (fun _ => rfl) (by omega) ?_ | refine EL.fF (FV.leq rfl rfl) rfl (fun _ => rfl) (by omega) ?_)
         | (show EL _ _ _ _ (⟨_, .binOp .gtr _ _ _ _, _, _, _, _⟩ :: _) _ _; first | refine EL.fT (FV.gtr rfl rfl) rfl (fun _ => rfl) (by omega) ?_ | refine EL.fF (FV.gtr rfl rfl) rfl (fun _ => rfl) (by omega) ?_)
         | (show EL _ _ _ _ (⟨_, .binOp .geq _ _ _ _, _, _, _, _⟩ :: _) _ _; first | refine EL.fT (FV.geq rfl rfl) rfl (fun _ => rfl) (by omega) ?_ | refine EL.fF (FV.geq rfl rfl) rfl (fun _ => rfl) (by omega) ?_)
         | (show EL _ _ _ _ (⟨_, .binOp .eql _ _ _ _, _, _, _, _⟩ :: _) _ _; first | refine EL.fT (FV.eql rfl rfl) rfl (fun _ => rfl) (by omega) ?_ | refine EL.fF (FV.eql rfl rfl) rfl (fun _ => rfl) (by omega) ?_)
         | (show EL _ _ _ _ (⟨_, .binOp .neq _ _ _ _, _, _, _, _⟩ :: _) _ _; first | refine EL.fT (FV.neq rfl rfl) rfl (fun _ => rfl) (by omega) ?_ | refine EL.fF (FV.neq rfl rfl) rfl (fun _ => rfl) (by omega) ?_)
         | (show EL _ _ _ _ (⟨_, .indexAddr _ _ _, _, _, _, _⟩ :: _) _ _; first | refine EL.f (FV.idx0 rfl rfl rfl rfl (by omega) (by omega)) rfl rfl ?_ | refine EL.f (FV.idx1 rfl rfl rfl rfl (by omega) (by omega)) rfl rfl ?_)
         | (show EL _ _ _ _ (⟨_, .load _ _, _, _, _, _⟩ :: _) _ _; refine EL.f (FV.load1 rfl rfl rfl (by assumption)) rfl rfl ?_))
      | refine EL.nil ?_
      | refine EW.seq ?_
      | refine EW.region ?_
      | refine EW.block ?_
      | refine EW.skip ?_
      | refine EW.exit ?_
      | refine EW.ret ?_
      | refine EW.condT rfl ?_
      | refine EW.condF rfl ?_)
    exact ⟨_, rfl, by rw [nameOk_true h1 hL hall], hE⟩
  have step : isLD (byt s i) → ∀ j, j < i + 1 → isLD (byt s j) := fun h j hj => by
    by_cases e : j = i
    · subst e; exact h
    · exact hall j (by omega)
  by_cases l1 : byt s i < 97
  · by_cases h48 : byt s i < 48
    · repeat' (first
        | (show EL _ _ _ _ (_ :: _) _ _
           first
           | (show EL _ _ _ _ (⟨_, _, _, _, _, some _⟩ :: _) _ _; first | refine EL.skipU rfl rfl ?_ | refine EL.skip rfl rfl ?_)
           | (show EL _ _ _ _ (⟨_, .index _ _ _, _, _, _, _⟩ :: _) _ _; refine EL.f (FV.idxS (i := i) rfl rfl rfl (by omega)) rfl rfl ?_)
           | (show EL _ _ _ _ (⟨_, .move _, _, _, _, _⟩ :: _) _ _; refine EL.f (FV.move rfl) rfl rfl ?_)
           | (show EL _ _ _ _ (⟨_, .assign _, _, _, _, _⟩ :: _) _ _; refine EL.f (FV.assign rfl) rfl rfl ?_)
           | (show EL _ _ _ _ (⟨_, .binOp .add _ _ _ _, _, _, _, _⟩ :: _) _ _; refine EL.f (FV.addI rfl rfl (by omega)) rfl rfl ?_)
           | (show EL _ _ _ _ (⟨_, .binOp .sub _ _ _ _, _, _, _, _⟩ :: _) _ _; refine EL.f (FV.subI rfl rfl (by omega)) rfl rfl ?_)
           | (show EL _ _ _ _ (⟨_, .binOp .rem _ _ _ _, _, _, _, _⟩ :: _) _ _; first | refine EL.f (FV.remI rfl rfl (by decide) (by omega)) rfl rfl ?_ | refine EL.f (FV.rem rfl rfl (by decide)) rfl rfl ?_)
           | (show EL _ _ _ _ (⟨_, .binOp .quo _ _ _ _, _, _, _, _⟩ :: _) _ _; refine EL.f (FV.quoI rfl rfl (by decide) (by omega)) rfl rfl ?_)
           | (show EL _ _ _ _ (⟨_, .extract _ _, _, _, _, _⟩ :: _) _ _; refine EL.f (FV.extract rfl rfl) rfl rfl ?_)
           | (show EL _ _ _ _ (⟨_, .call _, _, _, _, _⟩ :: _) _ _; first | refine EL.f (FV.len rfl rfl) rfl rfl ?_ | refine EL.f (FV.lenS rfl rfl) rfl rfl ?_)
           | (show EL _ _ _ _ (⟨_, .unOp .not _ _, _, _, _, _⟩ :: _) _ _; refine EL.f (FV.not rfl) rfl rfl ?_)
           | (show EL _ _ _ _ (⟨_, .pick _ _ _, _, _, _, _⟩ :: _) _ _; first | refine EL.f (FV.pickT rfl rfl) rfl rfl ?_ | refine EL.f (FV.pickF rfl rfl) rfl rfl ?_)
           | (show EL _ _ _ _ (⟨_, .binOp .lss _ _ _ _, _, _, _, _⟩ :: _) _ _; first | refine EL.fT (FV.lss rfl rfl) rfl (fun _ => rfl) (by omega) ?_ | refine EL.fF (FV.lss rfl rfl) rfl (fun _ => rfl) (by omega) ?_)
           | (show EL _ _ _ _ (⟨_, .binOp .leq _ _ _ _, _, _, _, _⟩ :: _) _ _; first | refine EL.fT (FV.leq rfl rfl) rfl (fun _ => rfl) (by omega) ?_ | refine EL.fF (FV.leq rfl rfl) rfl (fun _ => rfl) (by omega) ?_)
           | (show EL _ _ _ _ (⟨_, .binOp .gtr _ _ _ _, _, _, _, _⟩ :: _) _ _; first | refine EL.fT (FV.gtr rfl rfl) rfl (fun _ => rfl) (by omega) ?_ | refine EL.fF (FV.gtr rfl rfl) rfl (fun _ => rfl) (by omega) ?_)
           | (show EL _ _ _ _ (⟨_, .binOp .geq _ _ _ _, _, _, _, _⟩ :: _) _ _; first | refine EL.fT (FV.geq rfl rfl) rfl (fun _ => rfl) (by omega) ?_ | refine EL.fF (FV.geq rfl rfl) rfl (fun _ => rfl) (by omega) ?_)
           | (show EL _ _ _ _ (⟨_, .binOp .eql _ _ _ _, _, _, _, _⟩ :: _) _ _; first | refine EL.fT (FV.eql rfl rfl) rfl (fun _ => rfl) (by omega) ?_ | refine EL.fF (FV.eql rfl rfl) rfl (fun _ => rfl) (by omega) ?_)
           | (show EL _ _ _ _ (⟨_, .binOp .neq _ _ _ _, _, _, _, _⟩ :: _) _ _; first | refine EL.fT (FV.neq rfl rfl) rfl (fun _ => rfl) (by omega) ?_ | refine EL.fF (FV.neq rfl rfl) rfl (fun _ => rfl) (by omega) ?_)
           | (show EL _ _ _ _ (⟨_, .indexAddr _ _ _, _, _, _, _⟩ :: _) _ _; first | refine EL.f (FV.idx0 rfl rfl rfl rfl (by omega) (by omega)) rfl rfl ?_ | refine EL.f (FV.idx1 rfl rfl rfl rfl (by omega) (by omega)) rfl rfl ?_)
           | (show EL _ _ _ _ (⟨_, .load _ _, _, _, _, _⟩ :: _) _ _; refine EL.f (FV.load1 rfl rfl rfl (by assumption)) rfl rfl ?_))
        | refine EL.nil ?_
        | refine EW.seq ?_
        | refine EW.region ?_
        | refine EW.block ?_
        | refine EW.skip ?_
        | refine EW.exit ?_
        | refine EW.ret ?_
        | refine EW.condT rfl ?_
        | refine EW.condF rfl ?_)
      exact ⟨_, rfl, by rw [nameOk_at hlt (by unfold isLD; omega)], hE⟩
    · by_cases h57 : 57 < byt s i
      · repeat' (first
          | (show EL _ _ _ _ (_ :: _) _ _
             first
             | (show EL _ _ _ _ (⟨_, _, _, _, _, some _⟩ :: _) _ _; first | refine EL.skipU rfl rfl ?_ | refine EL.skip rfl rfl ?_)
             | (show EL _ _ _ _ (⟨_, .index _ _ _, _, _, _, _⟩ :: _) _ _; refine EL.f (FV.idxS (i := i) rfl rfl rfl (by omega)) rfl rfl ?_)
             | (show EL _ _ _ _ (⟨_, .move _, _, _, _, _⟩ :: _) _ _; refine EL.f (FV.move rfl) rfl rfl ?_)
             | (show EL _ _ _ _ (⟨_, .assign _, _, _, _, _⟩ :: _) _ _; refine EL.f (FV.assign rfl) rfl rfl ?_)
             | (show EL _ _ _ _ (⟨_, .binOp .add _ _ _ _, _, _, _, _⟩ :: _) _ _; refine EL.f (FV.addI rfl rfl (by omega)) rfl rfl ?_)
             | (show EL _ _ _ _ (⟨_, .binOp .sub _ _ _ _, _, _, _, _⟩ :: _) _ _; refine EL.f (FV.subI rfl rfl (by omega)) rfl rfl ?_)
             | (show EL _ _ _ _ (⟨_, .binOp .rem _ _ _ _, _, _, _, _⟩ :: _) _ _; first | refine EL.f (FV.remI rfl rfl (by decide) (by omega)) rfl rfl ?_ | refine EL.f (FV.rem rfl rfl (by decide)) rfl rfl ?_)
             | (show EL _ _ _ _ (⟨_, .binOp .quo _ _ _ _, _, _, _, _⟩ :: _) _ _; refine EL.f (FV.quoI rfl rfl (by decide) (by omega)) rfl rfl ?_)
             | (show EL _ _ _ _ (⟨_, .extract _ _, _, _, _, _⟩ :: _) _ _; refine EL.f (FV.extract rfl rfl) rfl rfl ?_)
             | (show EL _ _ _ _ (⟨_, .call _, _, _, _, _⟩ :: _) _ _; first | refine EL.f (FV.len rfl rfl) rfl rfl ?_ | refine EL.f (FV.lenS rfl rfl) rfl rfl ?_)
             | (show EL _ _ _ _ (⟨_, .unOp .not _ _, _, _, _, _⟩ :: _) _ _; refine EL.f (FV.not rfl) rfl rfl ?_)
             | (show EL _ _ _ _ (⟨_, .pick _ _ _, _, _, _, _⟩ :: _) _ _; first | refine EL.f (FV.pickT rfl rfl) rfl rfl ?_ | refine EL.f (FV.pickF rfl rfl) rfl rfl ?_)
             | (show EL _ _ _ _ (⟨_, .binOp .lss _ _ _ _, _, _, _, _⟩ :: _) _ _; first | refine EL.fT (FV.lss rfl rfl) rfl (fun _ => rfl) (by omega) ?_ | refine EL.fF (FV.lss rfl rfl) rfl (fun _ => rfl) (by omega) ?_)
             | (show EL _ _ _ _ (⟨_, .binOp .leq _ _ _ _, _, _, _, _⟩ :: _) _ _; first | refine EL.fT (FV.leq rfl rfl) rfl (fun _ => rfl) (by omega) ?_ | refine EL.fF (FV.leq rfl rfl) rfl (fun _ => rfl) (by omega) ?_)
             | (show EL _ _ _ _ (⟨_, .binOp .gtr _ _ _ _, _, _, _, _⟩ :: _) _ _; first | refine EL.fT (FV.gtr rfl rfl) rfl (fun _ => rfl) (by omega) ?_ | refine EL.fF (FV.gtr rfl rfl) rfl (fun _ => rfl) (by omega) ?_)
             | (show EL _ _ _ _ (⟨_, .binOp .geq _ _ _ _, _, _, _, _⟩ :: _) _ _; first | refine EL.fT (FV.geq rfl rfl) rfl (fun _ => rfl) (by omega) ?_ | refine EL.fF (FV.geq rfl rfl) rfl (fun _ => rfl) (by omega) ?_)
             | (show EL _ _ _ _ (⟨_, .binOp .eql _ _ _ _, _, _, _, _⟩ :: _) _ _; first | refine EL.fT (FV.eql rfl rfl) rfl (fun _ => rfl) (by omega) ?_ | refine EL.fF (FV.eql rfl rfl) rfl (fun _ => rfl) (by omega) ?_)
             | (show EL _ _ _ _ (⟨_, .binOp .neq _ _ _ _, _, _, _, _⟩ :: _) _ _; first | refine EL.fT (FV.neq rfl rfl) rfl (fun _ => rfl) (by omega) ?_ | refine EL.fF (FV.neq rfl rfl) rfl (fun _ => rfl) (by omega) ?_)
             | (show EL _ _ _ _ (⟨_, .indexAddr _ _ _, _, _, _, _⟩ :: _) _ _; first | refine EL.f (FV.idx0 rfl rfl rfl rfl (by omega) (by omega)) rfl rfl ?_ | refine EL.f (FV.idx1 rfl rfl rfl rfl (by omega) (by omega)) rfl rfl ?_)
             | (show EL _ _ _ _ (⟨_, .load _ _, _, _, _, _⟩ :: _) _ _; refine EL.f (FV.load1 rfl rfl rfl (by assumption)) rfl rfl ?_))
          | refine EL.nil ?_
          | refine EW.seq ?_
          | refine EW.region ?_
          | refine EW.block ?_
          | refine EW.skip ?_
          | refine EW.exit ?_
          | refine EW.ret ?_
          | refine EW.condT rfl ?_
          | refine EW.condF rfl ?_)
        exact ⟨_, rfl, by rw [nameOk_at hlt (by unfold isLD; omega)], hE⟩
      · repeat' (first
          | (show EL _ _ _ _ (_ :: _) _ _
             first
             | (show EL _ _ _ _ (⟨_, _, _, _, _, some _⟩ :: _) _ _; first | refine EL.skipU rfl rfl ?_ | refine EL.skip rfl rfl ?_)
             | (show EL _ _ _ _ (⟨_, .index _ _ _, _, _, _, _⟩ :: _) _ _; refine EL.f (FV.idxS (i := i) rfl rfl rfl (by omega)) rfl rfl ?_)
             | (show EL _ _ _ _ (⟨_, .move _, _, _, _, _⟩ :: _) _ _; refine EL.f (FV.move rfl) rfl rfl ?_)
             | (show EL _ _ _ _ (⟨_, .assign _, _, _, _, _⟩ :: _) _ _; refine EL.f (FV.assign rfl) rfl rfl ?_)
             | (show EL _ _ _ _ (⟨_, .binOp .add _ _ _ _, _, _, _, _⟩ :: _) _ _; refine EL.f (FV.addI rfl rfl (by omega)) rfl rfl ?_)
             | (show EL _ _ _ _ (⟨_, .binOp .sub _ _ _ _, _, _, _, _⟩ :: _) _ _; refine EL.f (FV.subI rfl rfl (by omega)) rfl rfl ?_)
             | (show EL _ _ _ _ (⟨_, .binOp .rem _ _ _ _, _, _, _, _⟩ :: _) _ _; first | refine EL.f (FV.remI rfl rfl (by decide) (by omega)) rfl rfl ?_ | refine EL.f (FV.rem rfl rfl (by decide)) rfl rfl ?_)
             | (show EL _ _ _ _ (⟨_, .binOp .quo _ _ _ _, _, _, _, _⟩ :: _) _ _; refine EL.f (FV.quoI rfl rfl (by decide) (by omega)) rfl rfl ?_)
             | (show EL _ _ _ _ (⟨_, .extract _ _, _, _, _, _⟩ :: _) _ _; refine EL.f (FV.extract rfl rfl) rfl rfl ?_)
             | (show EL _ _ _ _ (⟨_, .call _, _, _, _, _⟩ :: _) _ _; first | refine EL.f (FV.len rfl rfl) rfl rfl ?_ | refine EL.f (FV.lenS rfl rfl) rfl rfl ?_)
             | (show EL _ _ _ _ (⟨_, .unOp .not _ _, _, _, _, _⟩ :: _) _ _; refine EL.f (FV.not rfl) rfl rfl ?_)
             | (show EL _ _ _ _ (⟨_, .pick _ _ _, _, _, _, _⟩ :: _) _ _; first | refine EL.f (FV.pickT rfl rfl) rfl rfl ?_ | refine EL.f (FV.pickF rfl rfl) rfl rfl ?_)
             | (show EL _ _ _ _ (⟨_, .binOp .lss _ _ _ _, _, _, _, _⟩ :: _) _ _; first | refine EL.fT (FV.lss rfl rfl) rfl (fun _ => rfl) (by omega) ?_ | refine EL.fF (FV.lss rfl rfl) rfl (fun _ => rfl) (by omega) ?_)
             | (show EL _ _ _ _ (⟨_, .binOp .leq _ _ _ _, _, _, _, _⟩ :: _) _ _; first | refine EL.fT (FV.leq rfl rfl) rfl (fun _ => rfl) (by omega) ?_ | refine EL.fF (FV.leq rfl rfl) rfl (fun _ => rfl) (by omega) ?_)
             | (show EL _ _ _ _ (⟨_, .binOp .gtr _ _ _ _, _, _, _, _⟩ :: _) _ _; first | refine EL.fT (FV.gtr rfl rfl) rfl (fun _ => rfl) (by omega) ?_ | refine EL.fF (FV.gtr rfl rfl) rfl (fun _ => rfl) (by omega) ?_)
             | (show EL _ _ _ _ (⟨_, .binOp .geq _ _ _ _, _, _, _, _⟩ :: _) _ _; first | refine EL.fT (FV.geq rfl rfl) rfl (fun _ => rfl) (by omega) ?_ | refine EL.fF (FV.geq rfl rfl) rfl (fun _ => rfl) (by omega) ?_)
             | (show EL _ _ _ _ (⟨_, .binOp .eql _ _ _ _, _, _, _, _⟩ :: _) _ _; first | refine EL.fT (FV.eql rfl rfl) rfl (fun _ => rfl) (by omega) ?_ | refine EL.fF (FV.eql rfl rfl) rfl (fun _ => rfl) (by omega) ?_)
             | (show EL _ _ _ _ (⟨_, .binOp .neq _ _ _ _, _, _, _, _⟩ :: _) _ _; first | refine EL.fT (FV.neq rfl rfl) rfl (fun _ => rfl) (by omega) ?_ | refine EL.fF (FV.neq rfl rfl) rfl (fun _ => rfl) (by omega) ?_)
             | (show EL _ _ _ _ (⟨_, .indexAddr _ _ _, _, _, _, _⟩ :: _) _ _; first | refine EL.f (FV.idx0 rfl rfl rfl rfl (by omega) (by omega)) rfl rfl ?_ | refine EL.f (FV.idx1 rfl rfl rfl rfl (by omega) (by omega)) rfl rfl ?_)
             | (show EL _ _ _ _ (⟨_, .load _ _, _, _, _, _⟩ :: _) _ _; refine EL.f (FV.load1 rfl rfl rfl (by assumption)) rfl rfl ?_))
          | refine EL.nil ?_
          | refine EW.seq ?_
          | refine EW.region ?_
          | refine EW.block ?_
          | refine EW.skip ?_
          | refine EW.exit ?_
          | refine EW.ret ?_
          | refine EW.condT rfl ?_
          | refine EW.condF rfl ?_)
        exact ⟨i + 1, ⟨rfl, rfl, trivial⟩, ⟨by omega, step (.inr (by omega)), hE⟩, by omega⟩
  · by_cases l2 : 122 < byt s i
    · repeat' (first
        | (show EL _ _ _ _ (_ :: _) _ _
           first
           | (show EL _ _ _ _ (⟨_, _, _, _, _, some _⟩ :: _) _ _; first | refine EL.skipU rfl rfl ?_ | refine EL.skip rfl rfl ?_)
           | (show EL _ _ _ _ (⟨_, .index _ _ _, _, _, _, _⟩ :: _) _ _; refine EL.f (FV.idxS (i := i) rfl rfl rfl (by omega)) rfl rfl ?_)
           | (show EL _ _ _ _ (⟨_, .move _, _, _, _, _⟩ :: _) _ _; refine EL.f (FV.move rfl) rfl rfl ?_)
           | (show EL _ _ _ _ (⟨_, .assign _, _, _, _, _⟩ :: _) _ _; refine EL.f (FV.assign rfl) rfl rfl ?_)
           | (show EL _ _ _ _ (⟨_, .binOp .add _ _ _ _, _, _, _, _⟩ :: _) _ _; refine EL.f (FV.addI rfl rfl (by omega)) rfl rfl ?_)
           | (show EL _ _ _ _ (⟨_, .binOp .sub _ _ _ _, _, _, _, _⟩ :: _) _ _; refine EL.f (FV.subI rfl rfl (by omega)) rfl rfl ?_)
           | (show EL _ _ _ _ (⟨_, .binOp .rem _ _ _ _, _, _, _, _⟩ :: _) _ _; first | refine EL.f (FV.remI rfl rfl (by decide) (by omega)) rfl rfl ?_ | refine EL.f (FV.rem rfl rfl (by decide)) rfl rfl ?_)
           | (show EL _ _ _ _ (⟨_, .binOp .quo _ _ _ _, _, _, _, _⟩ :: _) _ _; refine EL.f (FV.quoI rfl rfl (by decide) (by omega)) rfl rfl ?_)
           | (show EL _ _ _ _ (⟨_, .extract _ _, _, _, _, _⟩ :: _) _ _; refine EL.f (FV.extract rfl rfl) rfl rfl ?_)
           | (show EL _ _ _ _ (⟨_, .call _, _, _, _, _⟩ :: _) _ _; first | refine EL.f (FV.len rfl rfl) rfl rfl ?_ | refine EL.f (FV.lenS rfl rfl) rfl rfl ?_)
           | (show EL _ _ _ _ (⟨_, .unOp .not _ _, _, _, _, _⟩ :: _) _ _; refine EL.f (FV.not rfl) rfl rfl ?_)
           | (show EL _ _ _ _ (⟨_, .pick _ _ _, _, _, _, _⟩ :: _) _ _; first | refine EL.f (FV.pickT rfl rfl) rfl rfl ?_ | refine EL.f (FV.pickF rfl rfl) rfl rfl ?_)
           | (show EL _ _ _ _ (⟨_, .binOp .lss _ _ _ _, _, _, _, _⟩ :: _) _ _; first | refine EL.fT (FV.lss rfl rfl) rfl (fun _ => rfl) (by omega) ?_ | refine EL.fF (FV.lss rfl rfl) rfl (fun _ => rfl) (by omega) ?_)
           | (show EL _ _ _ _ (⟨_, .binOp .leq _ _ _ _, _, _, _, _⟩ :: _) _ _; first | refine EL.fT (FV.leq rfl rfl) rfl (fun _ => rfl) (by omega) ?_ | refine EL.fF (FV.leq rfl rfl) rfl (fun _ => rfl) (by omega) ?_)
           | (show EL _ _ _ _ (⟨_, .binOp .gtr _ _ _ _, _, _, _, _⟩ :: _) _ _; first | refine EL.fT (FV.gtr rfl rfl) rfl (fun _ => rfl) (by omega) ?_ | refine EL.fF (FV.gtr rfl rfl) rfl (fun _ => rfl) (by omega) ?_)
           | (show EL _ _ _ _ (⟨_, .binOp .geq _ _ _ _, _, _, _, _⟩ :: _) _ _; first | refine EL.fT (FV.geq rfl rfl) rfl (fun _ => rfl) (by omega) ?_ | refine EL.fF (FV.geq rfl rfl) rfl (fun _ => rfl) (by omega) ?_)
           | (show EL _ _ _ _ (⟨_, .binOp .eql _ _ _ _, _, _, _, _⟩ :: _) _ _; first | refine EL.fT (FV.eql rfl rfl) rfl (fun _ => rfl) (by omega) ?_ | refine EL.fF (FV.eql rfl rfl) rfl (fun _ => rfl) (by omega) ?_)
           | (show EL _ _ _ _ (⟨_, .binOp .neq _ _ _ _, _, _, _, _⟩ :: _) _ _; first | refine EL.fT (FV.neq rfl rfl) rfl (fun _ => rfl) (by omega) ?_ | refine EL.fF (FV.neq rfl rfl) rfl (fun _ => rfl) (by omega) ?_)
           | (show EL _ _ _ _ (⟨_, .indexAddr _ _ _, _, _, _, _⟩ :: _) _ _; first | refine EL.f (FV.idx0 rfl rfl rfl rfl (by omega) (by omega)) rfl rfl ?_ | refine EL.f (FV.idx1 rfl rfl rfl rfl (by omega) (by omega)) rfl rfl ?_)
           | (show EL _ _ _ _ (⟨_, .load _ _, _, _, _, _⟩ :: _) _ _; refine EL.f (FV.load1 rfl rfl rfl (by assumption)) rfl rfl ?_))
        | refine EL.nil ?_
        | refine EW.seq ?_
        | refine EW.region ?_
        | refine EW.block ?_
        | refine EW.skip ?_
        | refine EW.exit ?_
        | refine EW.ret ?_
        | refine EW.condT rfl ?_
        | refine EW.condF rfl ?_)
      exact ⟨_, rfl, by rw [nameOk_at hlt (by unfold isLD; omega)], hE⟩
    · repeat' (first
        | (show EL _ _ _ _ (_ :: _) _ _
           first
           | (show EL _ _ _ _ (⟨_, _, _, _, _, some _⟩ :: _) _ _; first | refine EL.skipU rfl rfl ?_ | refine EL.skip rfl rfl ?_)
           | (show EL _ _ _ _ (⟨_, .index _ _ _, _, _, _, _⟩ :: _) _ _; refine EL.f (FV.idxS (i := i) rfl rfl rfl (by omega)) rfl rfl ?_)
           | (show EL _ _ _ _ (⟨_, .move _, _, _, _, _⟩ :: _) _ _; refine EL.f (FV.move rfl) rfl rfl ?_)
           | (show EL _ _ _ _ (⟨_, .assign _, _, _, _, _⟩ :: _) _ _; refine EL.f (FV.assign rfl) rfl rfl ?_)
           | (show EL _ _ _ _ (⟨_, .binOp .add _ _ _ _, _, _, _, _⟩ :: _) _ _; refine EL.f (FV.addI rfl rfl (by omega)) rfl rfl ?_)
           | (show EL _ _ _ _ (⟨_, .binOp .sub _ _ _ _, _, _, _, _⟩ :: _) _ _; refine EL.f (FV.subI rfl rfl (by omega)) rfl rfl ?_)
           | (show EL _ _ _ _ (⟨_, .binOp .rem _ _ _ _, _, _, _, _⟩ :: _) _ _; first | refine EL.f (FV.remI rfl rfl (by decide) (by omega)) rfl rfl ?_ | refine EL.f (FV.rem rfl rfl (by decide)) rfl rfl ?_)
           | (show EL _ _ _ _ (⟨_, .binOp .quo _ _ _ _, _, _, _, _⟩ :: _) _ _; refine EL.f (FV.quoI rfl rfl (by decide) (by omega)) rfl rfl ?_)
           | (show EL _ _ _ _ (⟨_, .extract _ _, _, _, _, _⟩ :: _) _ _; refine EL.f (FV.extract rfl rfl) rfl rfl ?_)
           | (show EL _ _ _ _ (⟨_, .call _, _, _, _, _⟩ :: _) _ _; first | refine EL.f (FV.len rfl rfl) rfl rfl ?_ | refine EL.f (FV.lenS rfl rfl) rfl rfl ?_)
           | (show EL _ _ _ _ (⟨_, .unOp .not _ _, _, _, _, _⟩ :: _) _ _; refine EL.f (FV.not rfl) rfl rfl ?_)
           | (show EL _ _ _ _ (⟨_, .pick _ _ _, _, _, _, _⟩ :: _) _ _; first | refine EL.f (FV.pickT rfl rfl) rfl rfl ?_ | refine EL.f (FV.pickF rfl rfl) rfl rfl ?_)
           | (show EL _ _ _ _ (⟨_, .binOp .lss _ _ _ _, _, _, _, _⟩ :: _) _ _; first | refine EL.fT (FV.lss rfl rfl) rfl (fun _ => rfl) (by omega) ?_ | refine EL.fF (FV.lss rfl rfl) rfl (fun _ => rfl) (by omega) ?_)
           | (show EL _ _ _ _ (⟨_, .binOp .leq _ _ _ _, _, _, _, _⟩ :: _) _ _; first | refine EL.fT (FV.leq rfl rfl) rfl (fun _ => rfl) (by omega) ?_ | refine EL.fF (FV.leq rfl rfl) rfl (fun _ => rfl) (by omega) ?_)
           | (show EL _ _ _ _ (⟨_, .binOp .gtr _ _ _ _, _, _, _, _⟩ :: _) _ _; first | refine EL.fT (FV.gtr rfl rfl) rfl (fun _ => rfl) (by omega) ?_ | refine EL.fF (FV.gtr rfl rfl) rfl (fun _ => rfl) (by omega) ?_)
           | (show EL _ _ _ _ (⟨_, .binOp .geq _ _ _ _, _, _, _, _⟩ :: _) _ _; first | refine EL.fT (FV.geq rfl rfl) rfl (fun _ => rfl) (by omega) ?_ | refine EL.fF (FV.geq rfl rfl) rfl (fun _ => rfl) (by omega) ?_)
           | (show EL _ _ _ _ (⟨_, .binOp .eql _ _ _ _, _, _, _, _⟩ :: _) _ _; first | refine EL.fT (FV.eql rfl rfl) rfl (fun _ => rfl) (by omega) ?_ | refine EL.fF (FV.eql rfl rfl) rfl (fun _ => rfl) (by omega) ?_)
           | (show EL _ _ _ _ (⟨_, .binOp .neq _ _ _ _, _, _, _, _⟩ :: _) _ _; first | refine EL.fT (FV.neq rfl rfl) rfl (fun _ => rfl) (by omega) ?_ | refine EL.fF (FV.neq rfl rfl) rfl (fun _ => rfl) (by omega) ?_)
           | (show EL _ _ _ _ (⟨_, .indexAddr _ _ _, _, _, _, _⟩ :: _) _ _; first | refine EL.f (FV.idx0 rfl rfl rfl rfl (by omega) (by omega)) rfl rfl ?_ | refine EL.f (FV.idx1 rfl rfl rfl rfl (by omega) (by omega)) rfl rfl ?_)
           | (show EL _ _ _ _ (⟨_, .load _ _, _, _, _, _⟩ :: _) _ _; refine EL.f (FV.load1 rfl rfl rfl (by assumption)) rfl rfl ?_))
        | refine EL.nil ?_
        | refine EW.seq ?_
        | refine EW.region ?_
        | refine EW.block ?_
        | refine EW.skip ?_
        | refine EW.exit ?_
        | refine EW.ret ?_
        | refine EW.condT rfl ?_
        | refine EW.condF rfl ?_)
      exact ⟨i + 1, ⟨rfl, rfl, trivial⟩, ⟨by omega, step (.inl (by omega)), hE⟩, by omega⟩
end Eng
end Go.Proofs.Ytgahkbcfjibjaaa
