/- Totality and sameness of expressions, in the program and in the reference. Conditions: the number of nodes. -/
import Derived.Test.YtcodicokpegfmaaEc
namespace Go.Proofs.Ytcodicokpegfmaa
open Go Go.RowKit
namespace Eng
theorem any_none {α : Type} {d : α} {p : α → Bool} {xs : List α} (h : ∀ i, i < xs.length → p (xs.getD i d) = false) : xs.any p = false := by
  rw [List.any_eq_false]
  intro x hx
  have := all_getD (Q := fun x => p x = false) h x hx
  simp [this]
theorem any_some {α : Type} {d : α} {p : α → Bool} {xs : List α} {i : Nat} (hi : i < xs.length) (h : p (xs.getD i d) = true) : xs.any p = true := by
  rw [List.any_eq_true]
  exact ⟨xs[i], List.getElem_mem hi, by simpa [hi] using h⟩
theorem all_any {α : Type} (p : α → Bool) (xs : List α) : (!xs.any fun x => !p x) = xs.all p := by
  induction xs with
  | nil => rfl
  | cons x xs ih => simp only [List.any_cons, List.all_cons, ← ih]; cases p x <;> simp
/-! the library's searches -/
theorem indexFuncE (f : FuncId) (p : Ex → Bool) (ks : List Ex) (A : Option Addr) (cap : Nat) (w : World) (h : KsB w 0 A ks)
    (hf : ∀ i, i < ks.length → ∀ cs w, ExB w 0 cs (ks.getD i dEx) → CallsR Try.prog f [.agg cs.toArray] w fun v w' => v = .bool (p (ks.getD i dEx)) ∧ Ext w w') :
    CallsR Try.prog 77 [.slice A ks.length cap, .func (.func f) #[] #[]] w fun v w' => ∃ r : Int, v = .int .i64 r ∧ decide (0 ≤ r) = ks.any p ∧ Ext w w' := by
  have hr := h.1
  refine CallsR.enter Try.func77 (by decide +kernel) rfl Try.ntmps77 rfl ?_
  repeat' (first
    | refine EL.f (FV.move rfl) rfl rfl ?_
    | refine EL.f (FV.assign rfl) rfl rfl ?_
    | refine EL.f (FV.len rfl rfl) rfl rfl ?_
    | refine EL.nil ?_
    | refine EW.seq ?_
    | refine EW.region ?_
    | refine EW.block ?_)
  refine EW.loop (X := Nat) (fun i wr => i ≤ ks.length ∧ (∀ j, j < i → p (ks.getD j dEx) = false) ∧ Ext w wr) (fun i => [(0, .slice A ks.length cap), (1, .func (.func f) #[] #[]), (7, .int .i64 ks.length), (8, .int .i64 i)]) (fun i => ks.length - i) 0 ⟨Nat.zero_le _, fun j hj => by omega, Ext.refl _⟩ ⟨rfl, rfl, rfl, rfl, trivial⟩ ?_
  rintro i wr ⟨hi, hno, hE⟩
  by_cases hlt : i < ks.length
  · obtain ⟨b, o, cs, rfl, hL, hX, hc⟩ := (h.ext hE).kid hlt
    have hcall := hf i hlt cs wr hX
    repeat' (first
      | (show EL _ _ _ _ (_ :: _) _ _
         first
         | (show EL _ _ _ _ (⟨_, .indexAddr _ _ _, _, _, _, _⟩ :: _) _ _; refine EL.f (FV.idx rfl rfl rfl rfl (by omega) (by omega)) rfl rfl ?_)
         | (show EL _ _ _ _ (⟨_, .load _ _, _, _, _, _⟩ :: _) _ _; refine EL.f (FV.loadAgg (cs := cs) rfl rfl rfl hc rfl (fun _ e => e ▸ hL)) rfl rfl ?_)
         | (show EL _ _ _ _ (⟨_, .move _, _, _, _, _⟩ :: _) _ _; refine EL.f (FV.move rfl) rfl rfl ?_)
         | (show EL _ _ _ _ (⟨_, .assign _, _, _, _, _⟩ :: _) _ _; refine EL.f (FV.assign rfl) rfl rfl ?_)
         | (show EL _ _ _ _ (⟨_, .binOp .lss _ _ _ _, _, _, _, _⟩ :: _) _ _; refine EL.fT (FV.lss rfl rfl) rfl (fun _ => rfl) (by omega) ?_))
      | refine EL.nil ?_
      | refine EW.seq ?_
      | refine EW.region ?_
      | refine EW.block ?_
      | refine EW.skip ?_
      | refine EW.condT rfl ?_)
    refine EL.h (Hv.callF hcall rfl rfl) rfl (fun _ => rfl) ?_
    rintro _ w1 ⟨rfl, he1⟩
    cases hp : p (ks.getD i dEx)
    · repeat' (first
        | refine EL.f (FV.move rfl) rfl rfl ?_
        | refine EL.f (FV.addI rfl rfl (by omega)) rfl rfl ?_
        | refine EL.nil ?_
        | refine EW.region ?_
        | refine EW.skip ?_
        | refine EW.condF rfl ?_)
      exact ⟨i + 1, ⟨rfl, rfl, rfl, rfl, trivial⟩, ⟨by omega, fun j hj => by
        by_cases e : j = i
        · subst e; exact hp
        · exact hno j (by omega), hE.trans he1⟩, by omega⟩
    · repeat' (first
        | refine EL.f (FV.move rfl) rfl rfl ?_
        | refine EL.f (FV.assign rfl) rfl rfl ?_
        | refine EL.nil ?_
        | refine EW.seq ?_
        | refine EW.region ?_
        | refine EW.ret ?_
        | refine EW.condT rfl ?_)
      exact ⟨_, rfl, _, rfl, by rw [any_some hlt hp]; simp, hE.trans he1⟩
  · obtain rfl : i = ks.length := by omega
    repeat' (first
      | refine EL.f (FV.assign rfl) rfl rfl ?_
      | refine EL.fF (FV.lss rfl rfl) rfl (fun _ => rfl) (by omega) ?_
      | refine EL.nil ?_
      | refine EW.seq ?_
      | refine EW.region ?_
      | refine EW.exit ?_
      | refine EW.ret ?_
      | refine EW.condF rfl ?_)
    exact ⟨_, rfl, _, rfl, by rw [any_none hno]; simp, hE⟩
theorem containsFuncE (f : FuncId) (p : Ex → Bool) (ks : List Ex) (A : Option Addr) (cap : Nat) (w : World) (h : KsB w 0 A ks)
    (hf : ∀ i, i < ks.length → ∀ cs w, ExB w 0 cs (ks.getD i dEx) → CallsR Try.prog f [.agg cs.toArray] w fun v w' => v = .bool (p (ks.getD i dEx)) ∧ Ext w w') :
    CallsR Try.prog 49 [.slice A ks.length cap, .func (.func f) #[] #[]] w fun v w' => v = .bool (ks.any p) ∧ Ext w w' := by
  refine CallsR.enter Try.func49 (by decide +kernel) rfl Try.ntmps49 rfl ?_
  repeat' (first
    | refine EL.f (FV.move rfl) rfl rfl ?_
    | refine EL.f (FV.assign rfl) rfl rfl ?_
    | refine EL.nil ?_
    | refine EW.seq ?_
    | refine EW.region ?_)
  refine EL.h (Hv.call (indexFuncE f p ks A cap w h hf) rfl) rfl (fun _ => rfl) ?_
  rintro _ w1 ⟨r, rfl, hr, he1⟩
  refine EL.f (FV.geq rfl rfl) rfl rfl ?_
  rw [hr]
  repeat' (first
    | refine EL.f (FV.assign rfl) rfl rfl ?_
    | refine EL.nil ?_
    | refine EW.ret ?_)
  exact ⟨_, rfl, rfl, he1⟩
/-! totality -/
theorem implTotal (e : Ex) : ∀ cs w, ExB w 0 cs e → CallsR Try.prog 23 [.agg cs.toArray] w fun v w' => v = .bool e.total ∧ Ext w w' := by
  induction e using Ex.ind with
  | h k n p c ks ih =>
  intro cs w hx
  obtain ⟨A, cap, rfl, hks⟩ := hx.inv
  refine CallsR.enter Try.func23 (by decide +kernel) rfl Try.ntmps23 rfl ?_
  repeat' (first
    | refine EW.seq ?_
    | refine EW.region ?_)
  refine EL.h (Hv.boxA (sz := 5) rfl rfl) rfl (fun _ => rfl) ?_
  rintro _ w1 ⟨g1, rfl, hg1, hb, he1⟩
  by_cases h1 : k = 6
  · repeat' (first
      | (show EL _ _ _ _ (_ :: _) _ _
         first
         | (show EL _ _ _ _ (⟨_, _, _, _, _, some _⟩ :: _) _ _; refine EL.skip rfl rfl ?_)
         | (show EL _ _ _ _ (⟨_, .fieldAddr _ _ _, _, _, _, _⟩ :: _) _ _; refine EL.f (FV.fieldAddr rfl rfl rfl rfl rfl) rfl rfl ?_)
         | (show EL _ _ _ _ (⟨_, .load _ _, _, _, _, _⟩ :: _) _ _; refine EL.f (FV.load1 rfl rfl rfl (At.cell hb rfl)) rfl rfl ?_)
         | (show EL _ _ _ _ (⟨_, .move _, _, _, _, _⟩ :: _) _ _; refine EL.f (FV.move rfl) rfl rfl ?_)
         | (show EL _ _ _ _ (⟨_, .assign _, _, _, _, _⟩ :: _) _ _; refine EL.f (FV.assign rfl) rfl rfl ?_)
         | (show EL _ _ _ _ (⟨_, .pick _ _ _, _, _, _, _⟩ :: _) _ _; refine EL.f (FV.pickF rfl rfl) rfl rfl ?_)
         | (show EL _ _ _ _ (⟨_, .binOp .neq _ _ _ _, _, _, _, _⟩ :: _) _ _; refine EL.fF (FV.neq rfl rfl) rfl (fun _ => rfl) (by omega) ?_))
      | refine EL.nil ?_
      | refine EW.seq ?_
      | refine EW.region ?_
      | refine EW.ret ?_)
    exact ⟨_, rfl, by simp [Ex.total, h1], he1⟩
  by_cases h2 : k = 10
  · repeat' (first
      | (show EL _ _ _ _ (_ :: _) _ _
         first
         | (show EL _ _ _ _ (⟨_, _, _, _, _, some _⟩ :: _) _ _; refine EL.skip rfl rfl ?_)
         | (show EL _ _ _ _ (⟨_, .fieldAddr _ _ _, _, _, _, _⟩ :: _) _ _; refine EL.f (FV.fieldAddr rfl rfl rfl rfl rfl) rfl rfl ?_)
         | (show EL _ _ _ _ (⟨_, .load _ _, _, _, _, _⟩ :: _) _ _; refine EL.f (FV.load1 rfl rfl rfl (At.cell hb rfl)) rfl rfl ?_)
         | (show EL _ _ _ _ (⟨_, .move _, _, _, _, _⟩ :: _) _ _; refine EL.f (FV.move rfl) rfl rfl ?_)
         | (show EL _ _ _ _ (⟨_, .assign _, _, _, _, _⟩ :: _) _ _; refine EL.f (FV.assign rfl) rfl rfl ?_)
         | (show EL _ _ _ _ (⟨_, .pick _ _ _, _, _, _, _⟩ :: _) _ _; first | refine EL.f (FV.pickT rfl rfl) rfl rfl ?_ | refine EL.f (FV.pickF rfl rfl) rfl rfl ?_)
         | (show EL _ _ _ _ (⟨_, .binOp .neq _ _ _ _, _, _, _, _⟩ :: _) _ _; first | refine EL.fT (FV.neq rfl rfl) rfl (fun _ => rfl) (by omega) ?_ | refine EL.fF (FV.neq rfl rfl) rfl (fun _ => rfl) (by omega) ?_))
      | refine EL.nil ?_
      | refine EW.seq ?_
      | refine EW.region ?_
      | refine EW.ret ?_)
    exact ⟨_, rfl, by simp [Ex.total, h2], he1⟩
  by_cases h3 : k = 11
  · repeat' (first
      | (show EL _ _ _ _ (_ :: _) _ _
         first
         | (show EL _ _ _ _ (⟨_, _, _, _, _, some _⟩ :: _) _ _; refine EL.skip rfl rfl ?_)
         | (show EL _ _ _ _ (⟨_, .fieldAddr _ _ _, _, _, _, _⟩ :: _) _ _; refine EL.f (FV.fieldAddr rfl rfl rfl rfl rfl) rfl rfl ?_)
         | (show EL _ _ _ _ (⟨_, .load _ _, _, _, _, _⟩ :: _) _ _; refine EL.f (FV.load1 rfl rfl rfl (At.cell hb rfl)) rfl rfl ?_)
         | (show EL _ _ _ _ (⟨_, .move _, _, _, _, _⟩ :: _) _ _; refine EL.f (FV.move rfl) rfl rfl ?_)
         | (show EL _ _ _ _ (⟨_, .assign _, _, _, _, _⟩ :: _) _ _; refine EL.f (FV.assign rfl) rfl rfl ?_)
         | (show EL _ _ _ _ (⟨_, .pick _ _ _, _, _, _, _⟩ :: _) _ _; first | refine EL.f (FV.pickT rfl rfl) rfl rfl ?_ | refine EL.f (FV.pickF rfl rfl) rfl rfl ?_)
         | (show EL _ _ _ _ (⟨_, .binOp .neq _ _ _ _, _, _, _, _⟩ :: _) _ _; first | refine EL.fT (FV.neq rfl rfl) rfl (fun _ => rfl) (by omega) ?_ | refine EL.fF (FV.neq rfl rfl) rfl (fun _ => rfl) (by omega) ?_))
      | refine EL.nil ?_
      | refine EW.seq ?_
      | refine EW.region ?_
      | refine EW.ret ?_)
    exact ⟨_, rfl, by simp [Ex.total, h3], he1⟩
  repeat' (first
    | (show EL _ _ _ _ (_ :: _) _ _
       first
       | (show EL _ _ _ _ (⟨_, .fieldAddr _ _ _, _, _, _, _⟩ :: _) _ _; refine EL.f (FV.fieldAddr rfl rfl rfl rfl rfl) rfl rfl ?_)
       | (show EL _ _ _ _ (⟨_, .load _ _, _, _, _, _⟩ :: _) _ _; refine EL.f (FV.load1 rfl rfl rfl (At.cell hb rfl)) rfl rfl ?_)
       | (show EL _ _ _ _ (⟨_, .move _, _, _, _, _⟩ :: _) _ _; refine EL.f (FV.move rfl) rfl rfl ?_)
       | (show EL _ _ _ _ (⟨_, .assign _, _, _, _, _⟩ :: _) _ _; refine EL.f (FV.assign rfl) rfl rfl ?_)
       | (show EL _ _ _ _ (⟨_, .pick _ _ _, _, _, _, _⟩ :: _) _ _; refine EL.f (FV.pickT rfl rfl) rfl rfl ?_)
       | (show EL _ _ _ _ (⟨_, .binOp .neq _ _ _ _, _, _, _, _⟩ :: _) _ _; refine EL.fT (FV.neq rfl rfl) rfl (fun _ => rfl) (by omega) ?_))
    | refine EL.nil ?_
    | refine EW.seq ?_
    | refine EW.region ?_)
  refine EL.h (Hv.call (containsFuncE 50 (fun x => !x.total) ks A cap w1 (hks.ext he1) (fun i hi cs w hX => ?_)) rfl) rfl (fun _ => rfl) ?_
  · refine CallsR.enter Try.func50 (by decide +kernel) rfl Try.ntmps50 rfl ?_
    repeat' (first
      | refine EW.seq ?_
      | refine EW.region ?_)
    refine EL.h (Hv.boxA (sz := 5) rfl hX.len) rfl (fun _ => rfl) ?_
    rintro _ w2 ⟨g2, rfl, hg2, hb2, he2⟩
    repeat' (first
      | refine EL.f (FV.loadAgg (cs := cs) rfl rfl rfl hX.len rfl (fun _ e => e ▸ At.lies hb2)) rfl rfl ?_
      | refine EL.f (FV.assign rfl) rfl rfl ?_
      | refine EL.nil ?_
      | refine EW.seq ?_
      | refine EW.region ?_)
    refine EL.h (Hv.call (ih i hi cs w2 (hX.ext he2)) rfl) rfl (fun _ => rfl) ?_
    rintro _ w3 ⟨rfl, he3⟩
    repeat' (first
      | refine EL.f (FV.assign rfl) rfl rfl ?_
      | refine EL.f (FV.not rfl) rfl rfl ?_
      | refine EL.nil ?_
      | refine EW.ret ?_)
    exact ⟨_, rfl, rfl, he2.trans he3⟩
  rintro _ w2 ⟨rfl, he2⟩
  repeat' (first
    | refine EL.f (FV.assign rfl) rfl rfl ?_
    | refine EL.f (FV.not rfl) rfl rfl ?_
    | refine EL.f (FV.pickT rfl rfl) rfl rfl ?_
    | refine EL.nil ?_
    | refine EW.ret ?_)
  refine ⟨_, rfl, ?_, he1.trans he2⟩
  rw [all_any, Ex.total, totalL_all]
  simp [h1, h2, h3]
theorem specTotal (e : Ex) : ∀ b o w, ExP w b o e → CallsR Try.prog 48 [.pointer (some ⟨b, o, none⟩)] w fun v w' => v = .bool e.total ∧ Ext w w' := by
  induction e using Ex.ind with
  | h k n p c ks ih =>
  intro b o w hx
  obtain ⟨cs0, hL0, hX0⟩ := hx
  obtain ⟨A, cap, rfl, hks⟩ := hX0.inv
  have hr := hks.1
  have hl0 := hL0 0 _ rfl
  refine CallsR.enter Try.func48 (by decide +kernel) rfl Try.ntmps48 rfl ?_
  by_cases h1 : k = 6
  · repeat' (first
      | (show EL _ _ _ _ (_ :: _) _ _
         first
         | (show EL _ _ _ _ (⟨_, _, _, _, _, some _⟩ :: _) _ _; refine EL.skip rfl rfl ?_)
         | (show EL _ _ _ _ (⟨_, .nilCheck _, _, _, _, _⟩ :: _) _ _; refine EL.f (FV.nilChk rfl) rfl rfl ?_)
         | (show EL _ _ _ _ (⟨_, .fieldAddr _ _ _, _, _, _, _⟩ :: _) _ _; refine EL.f (FV.fieldAddr rfl rfl rfl rfl rfl) rfl rfl ?_)
         | (show EL _ _ _ _ (⟨_, .load _ _, _, _, _, _⟩ :: _) _ _; refine EL.f (FV.load1 rfl rfl rfl (hl0)) rfl rfl ?_)
         | (show EL _ _ _ _ (⟨_, .move _, _, _, _, _⟩ :: _) _ _; refine EL.f (FV.move rfl) rfl rfl ?_)
         | (show EL _ _ _ _ (⟨_, .assign _, _, _, _, _⟩ :: _) _ _; refine EL.f (FV.assign rfl) rfl rfl ?_)
         | (show EL _ _ _ _ (⟨_, .pick _ _ _, _, _, _, _⟩ :: _) _ _; refine EL.f (FV.pickT rfl rfl) rfl rfl ?_)
         | (show EL _ _ _ _ (⟨_, .binOp .eql _ _ _ _, _, _, _, _⟩ :: _) _ _; refine EL.fT (FV.eql rfl rfl) rfl (fun _ => rfl) (by omega) ?_))
      | refine EL.nil ?_
      | refine EW.seq ?_
      | refine EW.region ?_
      | refine EW.ret ?_
      | refine EW.condT rfl ?_)
    exact ⟨_, rfl, by simp [Ex.total, h1], Ext.refl _⟩
  by_cases h2 : k = 10
  · repeat' (first
      | (show EL _ _ _ _ (_ :: _) _ _
         first
         | (show EL _ _ _ _ (⟨_, _, _, _, _, some _⟩ :: _) _ _; refine EL.skip rfl rfl ?_)
         | (show EL _ _ _ _ (⟨_, .nilCheck _, _, _, _, _⟩ :: _) _ _; refine EL.f (FV.nilChk rfl) rfl rfl ?_)
         | (show EL _ _ _ _ (⟨_, .fieldAddr _ _ _, _, _, _, _⟩ :: _) _ _; refine EL.f (FV.fieldAddr rfl rfl rfl rfl rfl) rfl rfl ?_)
         | (show EL _ _ _ _ (⟨_, .load _ _, _, _, _, _⟩ :: _) _ _; refine EL.f (FV.load1 rfl rfl rfl (hl0)) rfl rfl ?_)
         | (show EL _ _ _ _ (⟨_, .move _, _, _, _, _⟩ :: _) _ _; refine EL.f (FV.move rfl) rfl rfl ?_)
         | (show EL _ _ _ _ (⟨_, .assign _, _, _, _, _⟩ :: _) _ _; refine EL.f (FV.assign rfl) rfl rfl ?_)
         | (show EL _ _ _ _ (⟨_, .pick _ _ _, _, _, _, _⟩ :: _) _ _; first | refine EL.f (FV.pickT rfl rfl) rfl rfl ?_ | refine EL.f (FV.pickF rfl rfl) rfl rfl ?_)
         | (show EL _ _ _ _ (⟨_, .binOp .eql _ _ _ _, _, _, _, _⟩ :: _) _ _; first | refine EL.fT (FV.eql rfl rfl) rfl (fun _ => rfl) (by omega) ?_ | refine EL.fF (FV.eql rfl rfl) rfl (fun _ => rfl) (by omega) ?_))
      | refine EL.nil ?_
      | refine EW.seq ?_
      | refine EW.region ?_
      | refine EW.ret ?_
      | refine EW.condT rfl ?_)
    exact ⟨_, rfl, by simp [Ex.total, h2], Ext.refl _⟩
  by_cases h3 : k = 11
  · repeat' (first
      | (show EL _ _ _ _ (_ :: _) _ _
         first
         | (show EL _ _ _ _ (⟨_, .nilCheck _, _, _, _, _⟩ :: _) _ _; refine EL.f (FV.nilChk rfl) rfl rfl ?_)
         | (show EL _ _ _ _ (⟨_, .fieldAddr _ _ _, _, _, _, _⟩ :: _) _ _; refine EL.f (FV.fieldAddr rfl rfl rfl rfl rfl) rfl rfl ?_)
         | (show EL _ _ _ _ (⟨_, .load _ _, _, _, _, _⟩ :: _) _ _; refine EL.f (FV.load1 rfl rfl rfl (hl0)) rfl rfl ?_)
         | (show EL _ _ _ _ (⟨_, .move _, _, _, _, _⟩ :: _) _ _; refine EL.f (FV.move rfl) rfl rfl ?_)
         | (show EL _ _ _ _ (⟨_, .assign _, _, _, _, _⟩ :: _) _ _; refine EL.f (FV.assign rfl) rfl rfl ?_)
         | (show EL _ _ _ _ (⟨_, .pick _ _ _, _, _, _, _⟩ :: _) _ _; refine EL.f (FV.pickF rfl rfl) rfl rfl ?_)
         | (show EL _ _ _ _ (⟨_, .binOp .eql _ _ _ _, _, _, _, _⟩ :: _) _ _; first | refine EL.fT (FV.eql rfl rfl) rfl (fun _ => rfl) (by omega) ?_ | refine EL.fF (FV.eql rfl rfl) rfl (fun _ => rfl) (by omega) ?_))
      | refine EL.nil ?_
      | refine EW.seq ?_
      | refine EW.region ?_
      | refine EW.ret ?_
      | refine EW.condT rfl ?_)
    exact ⟨_, rfl, by simp [Ex.total, h3], Ext.refl _⟩
  have ht : Ex.total (.node k n p c ks) = ks.all Ex.total := by rw [Ex.total, totalL_all]; simp [h1, h2, h3]
  repeat' (first
    | (show EL _ _ _ _ (_ :: _) _ _
       first
       | (show EL _ _ _ _ (⟨_, .nilCheck _, _, _, _, _⟩ :: _) _ _; refine EL.f (FV.nilChk rfl) rfl rfl ?_)
       | (show EL _ _ _ _ (⟨_, .fieldAddr _ _ _, _, _, _, _⟩ :: _) _ _; refine EL.f (FV.fieldAddr rfl rfl rfl rfl rfl) rfl rfl ?_)
       | (show EL _ _ _ _ (⟨_, .load _ _, _, _, _, _⟩ :: _) _ _; refine EL.f (FV.load1 rfl rfl rfl (hl0)) rfl rfl ?_)
       | (show EL _ _ _ _ (⟨_, .move _, _, _, _, _⟩ :: _) _ _; refine EL.f (FV.move rfl) rfl rfl ?_)
       | (show EL _ _ _ _ (⟨_, .assign _, _, _, _, _⟩ :: _) _ _; refine EL.f (FV.assign rfl) rfl rfl ?_)
       | (show EL _ _ _ _ (⟨_, .pick _ _ _, _, _, _, _⟩ :: _) _ _; refine EL.f (FV.pickF rfl rfl) rfl rfl ?_)
       | (show EL _ _ _ _ (⟨_, .binOp .eql _ _ _ _, _, _, _, _⟩ :: _) _ _; refine EL.fF (FV.eql rfl rfl) rfl (fun _ => rfl) (by omega) ?_))
    | refine EL.nil ?_
    | refine EW.seq ?_
    | refine EW.region ?_
    | refine EW.block ?_
    | refine EW.skip ?_
    | refine EW.condF rfl ?_)
  refine EW.loop (X := Nat) (fun i wr => i ≤ ks.length ∧ (∀ j, j < i → (!(ks.getD j dEx).total) = false) ∧ Ext w wr) (fun i => [(0, .pointer (some ⟨b, o, none⟩)), (3, .int .i64 i)]) (fun i => ks.length - i) 0 ⟨Nat.zero_le _, fun j hj => by omega, Ext.refl _⟩ ⟨rfl, rfl, trivial⟩ ?_
  rintro i wr ⟨hi, hno, hE⟩
  have h4 := (hL0.ext hE) 4 _ rfl
  by_cases hlt : i < ks.length
  · obtain ⟨b1, o1, cs, rfl, hL, hX, hc⟩ := (hks.ext hE).kid hlt
    repeat' (first
      | (show EL _ _ _ _ (_ :: _) _ _
         first
         | (show EL _ _ _ _ (⟨_, .nilCheck _, _, _, _, _⟩ :: _) _ _; refine EL.f (FV.nilChk rfl) rfl rfl ?_)
         | (show EL _ _ _ _ (⟨_, .fieldAddr _ _ _, _, _, _, _⟩ :: _) _ _; refine EL.f (FV.fieldAddr rfl rfl rfl rfl rfl) rfl rfl ?_)
         | (show EL _ _ _ _ (⟨_, .load _ _, _, _, _, _⟩ :: _) _ _; refine EL.f (FV.load1 rfl rfl rfl (h4)) rfl rfl ?_)
         | (show EL _ _ _ _ (⟨_, .indexAddr _ _ _, _, _, _, _⟩ :: _) _ _; refine EL.f (FV.idx rfl rfl rfl rfl (by omega) (by omega)) rfl rfl ?_)
         | (show EL _ _ _ _ (⟨_, .move _, _, _, _, _⟩ :: _) _ _; refine EL.f (FV.move rfl) rfl rfl ?_)
         | (show EL _ _ _ _ (⟨_, .call _, _, _, _, _⟩ :: _) _ _; refine EL.f (FV.len rfl rfl) rfl rfl ?_)
         | (show EL _ _ _ _ (⟨_, .binOp .lss _ _ _ _, _, _, _, _⟩ :: _) _ _; refine EL.fT (FV.lss rfl rfl) rfl (fun _ => rfl) (by omega) ?_))
      | refine EL.nil ?_
      | refine EW.seq ?_
      | refine EW.region ?_
      | refine EW.block ?_
      | refine EW.skip ?_
      | refine EW.condT rfl ?_)
    refine EL.h (Hv.call (ih i hlt b1 (o1 + i * 5) wr ⟨cs, hL, hX⟩) rfl) rfl (fun _ => rfl) ?_
    rintro _ w5 ⟨rfl, he5⟩
    cases hp : (ks.getD i dEx).total
    · repeat' (first
        | refine EL.f (FV.assign rfl) rfl rfl ?_
        | refine EL.f (FV.not rfl) rfl rfl ?_
        | refine EL.nil ?_
        | refine EW.seq ?_
        | refine EW.region ?_
        | refine EW.ret ?_
        | refine EW.condT rfl ?_)
      refine ⟨_, rfl, ?_, hE.trans he5⟩
      rw [ht, ← all_any, any_some (d := dEx) (p := fun x => !Ex.total x) hlt (by rw [hp]; rfl)]
      rfl
    · repeat' (first
        | (show EL _ _ _ _ (_ :: _) _ _
           first
           | (show EL _ _ _ _ (⟨_, .move _, _, _, _, _⟩ :: _) _ _; refine EL.f (FV.move rfl) rfl rfl ?_)
           | (show EL _ _ _ _ (⟨_, .assign _, _, _, _, _⟩ :: _) _ _; refine EL.f (FV.assign rfl) rfl rfl ?_)
           | (show EL _ _ _ _ (⟨_, .binOp .add _ _ _ _, _, _, _, _⟩ :: _) _ _; refine EL.f (FV.addI rfl rfl (by omega)) rfl rfl ?_)
           | (show EL _ _ _ _ (⟨_, .unOp .not _ _, _, _, _, _⟩ :: _) _ _; refine EL.f (FV.not rfl) rfl rfl ?_))
        | refine EL.nil ?_
        | refine EW.region ?_
        | refine EW.skip ?_
        | refine EW.condF rfl ?_)
      exact ⟨i + 1, ⟨rfl, rfl, trivial⟩, ⟨by omega, fun j hj => by
        by_cases e : j = i
        · subst e; rw [hp]; rfl
        · exact hno j (by omega), hE.trans he5⟩, by omega⟩
  · obtain rfl : i = ks.length := by omega
    repeat' (first
      | (show EL _ _ _ _ (_ :: _) _ _
         first
         | (show EL _ _ _ _ (⟨_, .nilCheck _, _, _, _, _⟩ :: _) _ _; refine EL.f (FV.nilChk rfl) rfl rfl ?_)
         | (show EL _ _ _ _ (⟨_, .fieldAddr _ _ _, _, _, _, _⟩ :: _) _ _; refine EL.f (FV.fieldAddr rfl rfl rfl rfl rfl) rfl rfl ?_)
         | (show EL _ _ _ _ (⟨_, .load _ _, _, _, _, _⟩ :: _) _ _; refine EL.f (FV.load1 rfl rfl rfl (h4)) rfl rfl ?_)
         | (show EL _ _ _ _ (⟨_, .move _, _, _, _, _⟩ :: _) _ _; refine EL.f (FV.move rfl) rfl rfl ?_)
         | (show EL _ _ _ _ (⟨_, .assign _, _, _, _, _⟩ :: _) _ _; refine EL.f (FV.assign rfl) rfl rfl ?_)
         | (show EL _ _ _ _ (⟨_, .call _, _, _, _, _⟩ :: _) _ _; refine EL.f (FV.len rfl rfl) rfl rfl ?_)
         | (show EL _ _ _ _ (⟨_, .binOp .lss _ _ _ _, _, _, _, _⟩ :: _) _ _; refine EL.fF (FV.lss rfl rfl) rfl (fun _ => rfl) (by omega) ?_))
      | refine EL.nil ?_
      | refine EW.seq ?_
      | refine EW.region ?_
      | refine EW.exit ?_
      | refine EW.ret ?_
      | refine EW.condF rfl ?_)
    refine ⟨_, rfl, ?_, hE⟩
    rw [ht, ← all_any, any_none (p := fun x => !Ex.total x) hno]
    rfl
theorem specTotalV (e : Ex) (cs : List Value) (w : World) (hx : ExB w 0 cs e) : CallsR Try.prog 22 [.agg cs.toArray] w fun v w' => v = .bool e.total ∧ Ext w w' := by
  refine CallsR.enter Try.func22 (by decide +kernel) rfl Try.ntmps22 rfl ?_
  repeat' (first
    | refine EW.seq ?_
    | refine EW.region ?_)
  refine EL.h (Hv.boxA (sz := 5) rfl hx.len) rfl (fun _ => rfl) ?_
  rintro _ w1 ⟨g1, rfl, hg1, hb, he1⟩
  repeat' (first
    | refine EL.f (FV.assign rfl) rfl rfl ?_
    | refine EL.nil ?_
    | refine EW.seq ?_
    | refine EW.region ?_)
  refine EL.h (Hv.call (specTotal e g1 0 w1 ⟨cs, At.lies hb, hx.ext he1⟩) rfl) rfl (fun _ => rfl) ?_
  rintro _ w2 ⟨rfl, he2⟩
  repeat' (first
    | refine EL.f (FV.assign rfl) rfl rfl ?_
    | refine EL.nil ?_
    | refine EW.ret ?_)
  exact ⟨_, rfl, rfl, he1.trans he2⟩
/-! sameness -/
/-- Lists that are alike element by element. -/
def eqAll {α : Type} (p : α → α → Bool) : List α → List α → Bool
  | [], [] => true
  | x :: xs, y :: ys => p x y && eqAll p xs ys
  | [], _ :: _ => false
  | _ :: _, [] => false
theorem eqAll_len {α : Type} {p : α → α → Bool} : ∀ {xs ys : List α}, xs.length ≠ ys.length → eqAll p xs ys = false
  | [], [], h => absurd rfl h
  | [], _ :: _, _ => rfl
  | _ :: _, [], _ => rfl
  | x :: xs, y :: ys, h => by rw [eqAll, eqAll_len (xs := xs) (ys := ys) (by simpa using h), Bool.and_false]
theorem eqAll_true {α : Type} {d : α} {p : α → α → Bool} : ∀ {xs ys : List α}, xs.length = ys.length → (∀ i, i < xs.length → p (xs.getD i d) (ys.getD i d) = true) → eqAll p xs ys = true
  | [], [], _, _ => rfl
  | [], _ :: _, h, _ => by simp at h
  | _ :: _, [], h, _ => by simp at h
  | x :: xs, y :: ys, h, hs => by
    have h0 := hs 0 (by simp)
    rw [eqAll, eqAll_true (d := d) (xs := xs) (ys := ys) (by simpa using h) fun i hi => hs (i + 1) (by simpa using hi), Bool.and_true]
    exact h0
theorem eqAll_false {α : Type} {d : α} {p : α → α → Bool} : ∀ {xs ys : List α} {i : Nat}, xs.length = ys.length → i < xs.length → p (xs.getD i d) (ys.getD i d) = false → eqAll p xs ys = false
  | [], _, i, _, h, _ => by simp at h
  | _ :: _, [], _, h, _, _ => by simp at h
  | x :: xs, y :: ys, 0, _, _, hs => by rw [eqAll, show p x y = false from hs, Bool.false_and]
  | x :: xs, y :: ys, i + 1, h, hi, hs => by rw [eqAll, eqAll_false (d := d) (xs := xs) (ys := ys) (i := i) (by simpa using h) (by simpa using hi) hs, Bool.and_false]
theorem sameL_eqAll : ∀ xs ys : List Ex, Ex.sameL xs ys = eqAll Ex.same xs ys
  | [], [] => by simp [Ex.sameL, eqAll]
  | [], _ :: _ => by simp [Ex.sameL, eqAll]
  | _ :: _, [] => by simp [Ex.sameL, eqAll]
  | x :: xs, y :: ys => by rw [Ex.sameL, eqAll, sameL_eqAll xs ys]
theorem same_node {k n p c k' n' p' c' : Int} {ks ls : List Ex} (h : k = k' ∧ n = n' ∧ p = p' ∧ c = c') : Ex.same (.node k n p c ks) (.node k' n' p' c' ls) = eqAll Ex.same ks ls := by
  rw [Ex.same, decide_eq_true h, Bool.true_and, sameL_eqAll]
theorem same_not {k n p c k' n' p' c' : Int} {ks ls : List Ex} (h : ¬ (k = k' ∧ n = n' ∧ p = p' ∧ c = c')) : Ex.same (.node k n p c ks) (.node k' n' p' c' ls) = false := by
  rw [Ex.same, decide_eq_false h, Bool.false_and]
theorem equalFuncE (f : FuncId) (q : Ex → Ex → Bool) (ks ls : List Ex) (A B : Option Addr) (cap dap : Nat) (w : World) (h : KsB w 0 A ks) (h' : KsB w 0 B ls)
    (hf : ∀ i, i < ks.length → ∀ cs ds w, ExB w 0 cs (ks.getD i dEx) → ExB w 0 ds (ls.getD i dEx) → CallsR Try.prog f [.agg cs.toArray, .agg ds.toArray] w fun v w' => v = .bool (q (ks.getD i dEx) (ls.getD i dEx)) ∧ Ext w w') :
    CallsR Try.prog 52 [.slice A ks.length cap, .slice B ls.length dap, .func (.func f) #[] #[]] w fun v w' => v = .bool (eqAll q ks ls) ∧ Ext w w' := by
  have hr := h.1
  refine CallsR.enter Try.func52 (by decide +kernel) rfl Try.ntmps52 rfl ?_
  by_cases hl : ks.length = ls.length
  rotate_left
  · repeat' (first
      | (show EL _ _ _ _ (_ :: _) _ _
         first
         | (show EL _ _ _ _ (⟨_, .move _, _, _, _, _⟩ :: _) _ _; refine EL.f (FV.move rfl) rfl rfl ?_)
         | (show EL _ _ _ _ (⟨_, .assign _, _, _, _, _⟩ :: _) _ _; refine EL.f (FV.assign rfl) rfl rfl ?_)
         | (show EL _ _ _ _ (⟨_, .call _, _, _, _, _⟩ :: _) _ _; refine EL.f (FV.len rfl rfl) rfl rfl ?_)
         | (show EL _ _ _ _ (⟨_, .binOp .neq _ _ _ _, _, _, _, _⟩ :: _) _ _; refine EL.fT (FV.neq rfl rfl) rfl (fun _ => rfl) (by omega) ?_))
      | refine EL.nil ?_
      | refine EW.seq ?_
      | refine EW.region ?_
      | refine EW.ret ?_
      | refine EW.condT rfl ?_)
    exact ⟨_, rfl, by rw [eqAll_len hl], Ext.refl _⟩
  repeat' (first
    | (show EL _ _ _ _ (_ :: _) _ _
       first
       | (show EL _ _ _ _ (⟨_, .move _, _, _, _, _⟩ :: _) _ _; refine EL.f (FV.move rfl) rfl rfl ?_)
       | (show EL _ _ _ _ (⟨_, .assign _, _, _, _, _⟩ :: _) _ _; refine EL.f (FV.assign rfl) rfl rfl ?_)
       | (show EL _ _ _ _ (⟨_, .call _, _, _, _, _⟩ :: _) _ _; refine EL.f (FV.len rfl rfl) rfl rfl ?_)
       | (show EL _ _ _ _ (⟨_, .binOp .neq _ _ _ _, _, _, _, _⟩ :: _) _ _; refine EL.fF (FV.neq rfl rfl) rfl (fun _ => rfl) (by omega) ?_))
    | refine EL.nil ?_
    | refine EW.seq ?_
    | refine EW.region ?_
    | refine EW.block ?_
    | refine EW.skip ?_
    | refine EW.condF rfl ?_)
  refine EW.loop (X := Nat) (fun i wr => i ≤ ks.length ∧ (∀ j, j < i → q (ks.getD j dEx) (ls.getD j dEx) = true) ∧ Ext w wr) (fun i => [(1, .slice B ls.length dap), (2, .func (.func f) #[] #[]), (15, .slice A ks.length cap), (16, .int .i64 ks.length), (17, .int .i64 i)]) (fun i => ks.length - i) 0 ⟨Nat.zero_le _, fun j hj => by omega, Ext.refl _⟩ ⟨rfl, rfl, rfl, rfl, rfl, trivial⟩ ?_
  rintro i wr ⟨hi, hno, hE⟩
  by_cases hlt : i < ks.length
  · obtain ⟨b, o, cs, rfl, hL, hX, hc⟩ := (h.ext hE).kid hlt
    obtain ⟨b', o', ds, rfl, hL', hX', hc'⟩ := (h'.ext hE).kid (show i < ls.length by omega)
    repeat' (first
      | (show EL _ _ _ _ (_ :: _) _ _
         first
         | (show EL _ _ _ _ (⟨_, .indexAddr _ _ _, _, _, _, _⟩ :: _) _ _; refine EL.f (FV.idx rfl rfl rfl rfl (by omega) (by omega)) rfl rfl ?_)
         | (show EL _ _ _ _ (⟨_, .load _ _, _, _, _, _⟩ :: _) _ _; refine EL.f (FV.loadAgg (cs := cs) rfl rfl rfl hc rfl (fun _ e => e ▸ hL)) rfl rfl ?_)
         | (show EL _ _ _ _ (⟨_, .move _, _, _, _, _⟩ :: _) _ _; refine EL.f (FV.move rfl) rfl rfl ?_)
         | (show EL _ _ _ _ (⟨_, .binOp .lss _ _ _ _, _, _, _, _⟩ :: _) _ _; refine EL.fT (FV.lss rfl rfl) rfl (fun _ => rfl) (by omega) ?_))
      | refine EL.nil ?_
      | refine EW.seq ?_
      | refine EW.region ?_
      | refine EW.block ?_
      | refine EW.skip ?_
      | refine EW.condT rfl ?_)
    refine EL.h (Hv.allocA rfl rfl) rfl (fun _ => rfl) ?_
    rintro _ u1 ⟨g1, rfl, hg1, h1, e1⟩
    repeat' (first
      | refine EL.f (FV.assign rfl) rfl rfl ?_)
    refine EL.h (Hv.storeAggG (vs := cs) rfl rfl rfl hc hX.one h1 (by rw [hc]; exact Nat.le_refl _)) rfl (fun _ => rfl) ?_
    rintro _ u2 ⟨h1', r1⟩
    rw [setL_all (by rw [hc]; rfl)] at h1'
    have q2 : Ext wr u2 := Below.wr e1 r1 (by omega) (Nat.le_refl _)
    repeat' (first
      | refine EL.f (FV.idx rfl rfl rfl rfl (by omega) (by omega)) rfl rfl ?_
      | refine EL.f (FV.loadAgg (cs := ds) rfl rfl rfl hc' rfl (fun _ e => e ▸ hL'.ext q2)) rfl rfl ?_
      | refine EL.f (FV.move rfl) rfl rfl ?_
      | refine EL.nil ?_
      | refine EW.seq ?_
      | refine EW.region ?_)
    refine EL.h (Hv.allocA rfl rfl) rfl (fun _ => rfl) ?_
    rintro _ u3 ⟨g2, rfl, hg2, h2, e3⟩
    skip
    refine EL.h (Hv.storeAggG (vs := ds) rfl rfl rfl hc' hX'.one h2 (by rw [hc']; exact Nat.le_refl _)) rfl (fun _ => rfl) ?_
    rintro _ u4 ⟨h2', r2⟩
    rw [setL_all (by rw [hc']; rfl)] at h2'
    have q4 : Ext u2 u4 := Below.wr e3 r2 (by omega) (Nat.le_refl _)
    have qq := q2.trans q4
    replace h1' := At.ext h1' q4
    repeat' (first
      | refine EL.f (FV.loadAgg (cs := cs) rfl rfl rfl hc rfl (fun _ e => e ▸ At.lies h1')) rfl rfl ?_
      | refine EL.f (FV.loadAgg (cs := ds) rfl rfl rfl hc' rfl (fun _ e => e ▸ At.lies h2')) rfl rfl ?_
      | refine EL.f (FV.move rfl) rfl rfl ?_
      | refine EL.nil ?_
      | refine EW.seq ?_
      | refine EW.region ?_)
    refine EL.h (Hv.callF (hf i hlt cs ds u4 (hX.ext qq) (hX'.ext qq)) rfl rfl) rfl (fun _ => rfl) ?_
    rintro _ u5 ⟨rfl, e5⟩
    have hE5 := (hE.trans qq).trans e5
    cases hp : q (ks.getD i dEx) (ls.getD i dEx)
    · repeat' (first
        | refine EL.f (FV.assign rfl) rfl rfl ?_
        | refine EL.f (FV.not rfl) rfl rfl ?_
        | refine EL.nil ?_
        | refine EW.seq ?_
        | refine EW.region ?_
        | refine EW.ret ?_
        | refine EW.condT rfl ?_)
      exact ⟨_, rfl, by rw [eqAll_false hl hlt hp], hE5⟩
    · repeat' (first
        | refine EL.f (FV.move rfl) rfl rfl ?_
        | refine EL.f (FV.addI rfl rfl (by omega)) rfl rfl ?_
        | refine EL.f (FV.not rfl) rfl rfl ?_
        | refine EL.nil ?_
        | refine EW.region ?_
        | refine EW.skip ?_
        | refine EW.condF rfl ?_)
      exact ⟨i + 1, ⟨rfl, rfl, rfl, rfl, rfl, trivial⟩, ⟨by omega, fun j hj => by
        by_cases e : j = i
        · subst e; exact hp
        · exact hno j (by omega), hE5⟩, by omega⟩
  · obtain rfl : i = ks.length := by omega
    repeat' (first
      | refine EL.f (FV.assign rfl) rfl rfl ?_
      | refine EL.fF (FV.lss rfl rfl) rfl (fun _ => rfl) (by omega) ?_
      | refine EL.nil ?_
      | refine EW.seq ?_
      | refine EW.region ?_
      | refine EW.exit ?_
      | refine EW.ret ?_
      | refine EW.condF rfl ?_)
    exact ⟨_, rfl, by rw [eqAll_true hl hno], hE⟩
set_option maxHeartbeats 4000000 in
theorem implSame (e : Ex) : ∀ f cs ds w, ExB w 0 cs e → ExB w 0 ds f → CallsR Try.prog 25 [.agg cs.toArray, .agg ds.toArray] w fun v w' => v = .bool (e.same f) ∧ Ext w w' := by
  induction e using Ex.ind with
  | h k n p c ks ih =>
  intro f cs ds w hx hy
  obtain ⟨A, cap, rfl, hks⟩ := hx.inv
  cases f with
  | node k' n' p' c' ls =>
  obtain ⟨B, dap, rfl, hls⟩ := hy.inv
  refine CallsR.enter Try.func25 (by decide +kernel) rfl Try.ntmps25 rfl ?_
  repeat' (first
    | refine EW.seq ?_
    | refine EW.region ?_)
  refine EL.h (Hv.boxA (sz := 5) rfl rfl) rfl (fun _ => rfl) ?_
  rintro _ w1 ⟨g1, rfl, hg1, hb, he1⟩
  skip
  refine EL.h (Hv.boxA (sz := 5) rfl rfl) rfl (fun _ => rfl) ?_
  rintro _ w2 ⟨g2, rfl, hg2, h2, he2⟩
  replace hb := At.ext hb he2
  have hw2 := he1.trans he2
  by_cases q1 : k = k'
  rotate_left
  · rw [same_not (fun e => q1 e.1)]
    repeat' (first
      | (show EL _ _ _ _ (_ :: _) _ _
         first
         | (show EL _ _ _ _ (⟨_, _, _, _, _, some _⟩ :: _) _ _; refine EL.skip rfl rfl ?_)
         | (show EL _ _ _ _ (⟨_, .fieldAddr _ _ _, _, _, _, _⟩ :: _) _ _; refine EL.f (FV.fieldAddr rfl rfl rfl rfl rfl) rfl rfl ?_)
         | (show EL _ _ _ _ (⟨_, .load _ _, _, _, _, _⟩ :: _) _ _; first | refine EL.f (FV.load1 rfl rfl rfl (At.cell hb rfl)) rfl rfl ?_ | refine EL.f (FV.load1 rfl rfl rfl (At.cell h2 rfl)) rfl rfl ?_)
         | (show EL _ _ _ _ (⟨_, .move _, _, _, _, _⟩ :: _) _ _; refine EL.f (FV.move rfl) rfl rfl ?_)
         | (show EL _ _ _ _ (⟨_, .assign _, _, _, _, _⟩ :: _) _ _; refine EL.f (FV.assign rfl) rfl rfl ?_)
         | (show EL _ _ _ _ (⟨_, .pick _ _ _, _, _, _, _⟩ :: _) _ _; refine EL.f (FV.pickF rfl rfl) rfl rfl ?_)
         | (show EL _ _ _ _ (⟨_, .binOp .eql _ _ _ _, _, _, _, _⟩ :: _) _ _; refine EL.fF (FV.eql rfl rfl) rfl (fun _ => rfl) (by omega) ?_))
      | refine EL.nil ?_
      | refine EW.seq ?_
      | refine EW.region ?_
      | refine EW.ret ?_)
    exact ⟨_, rfl, rfl, hw2⟩
  by_cases q2 : n = n'
  rotate_left
  · rw [same_not (fun e => q2 e.2.1)]
    repeat' (first
      | (show EL _ _ _ _ (_ :: _) _ _
         first
         | (show EL _ _ _ _ (⟨_, _, _, _, _, some _⟩ :: _) _ _; refine EL.skip rfl rfl ?_)
         | (show EL _ _ _ _ (⟨_, .fieldAddr _ _ _, _, _, _, _⟩ :: _) _ _; refine EL.f (FV.fieldAddr rfl rfl rfl rfl rfl) rfl rfl ?_)
         | (show EL _ _ _ _ (⟨_, .load _ _, _, _, _, _⟩ :: _) _ _; first | refine EL.f (FV.load1 rfl rfl rfl (At.cell hb rfl)) rfl rfl ?_ | refine EL.f (FV.load1 rfl rfl rfl (At.cell h2 rfl)) rfl rfl ?_)
         | (show EL _ _ _ _ (⟨_, .move _, _, _, _, _⟩ :: _) _ _; refine EL.f (FV.move rfl) rfl rfl ?_)
         | (show EL _ _ _ _ (⟨_, .assign _, _, _, _, _⟩ :: _) _ _; refine EL.f (FV.assign rfl) rfl rfl ?_)
         | (show EL _ _ _ _ (⟨_, .pick _ _ _, _, _, _, _⟩ :: _) _ _; first | refine EL.f (FV.pickT rfl rfl) rfl rfl ?_ | refine EL.f (FV.pickF rfl rfl) rfl rfl ?_)
         | (show EL _ _ _ _ (⟨_, .binOp .eql _ _ _ _, _, _, _, _⟩ :: _) _ _; first | refine EL.fT (FV.eql rfl rfl) rfl (fun _ => rfl) (by omega) ?_ | refine EL.fF (FV.eql rfl rfl) rfl (fun _ => rfl) (by omega) ?_))
      | refine EL.nil ?_
      | refine EW.seq ?_
      | refine EW.region ?_
      | refine EW.ret ?_)
    exact ⟨_, rfl, rfl, hw2⟩
  by_cases q3 : p = p'
  rotate_left
  · rw [same_not (fun e => q3 e.2.2.1)]
    repeat' (first
      | (show EL _ _ _ _ (_ :: _) _ _
         first
         | (show EL _ _ _ _ (⟨_, _, _, _, _, some _⟩ :: _) _ _; refine EL.skip rfl rfl ?_)
         | (show EL _ _ _ _ (⟨_, .fieldAddr _ _ _, _, _, _, _⟩ :: _) _ _; refine EL.f (FV.fieldAddr rfl rfl rfl rfl rfl) rfl rfl ?_)
         | (show EL _ _ _ _ (⟨_, .load _ _, _, _, _, _⟩ :: _) _ _; first | refine EL.f (FV.load1 rfl rfl rfl (At.cell hb rfl)) rfl rfl ?_ | refine EL.f (FV.load1 rfl rfl rfl (At.cell h2 rfl)) rfl rfl ?_)
         | (show EL _ _ _ _ (⟨_, .move _, _, _, _, _⟩ :: _) _ _; refine EL.f (FV.move rfl) rfl rfl ?_)
         | (show EL _ _ _ _ (⟨_, .assign _, _, _, _, _⟩ :: _) _ _; refine EL.f (FV.assign rfl) rfl rfl ?_)
         | (show EL _ _ _ _ (⟨_, .pick _ _ _, _, _, _, _⟩ :: _) _ _; first | refine EL.f (FV.pickT rfl rfl) rfl rfl ?_ | refine EL.f (FV.pickF rfl rfl) rfl rfl ?_)
         | (show EL _ _ _ _ (⟨_, .binOp .eql _ _ _ _, _, _, _, _⟩ :: _) _ _; first | refine EL.fT (FV.eql rfl rfl) rfl (fun _ => rfl) (by omega) ?_ | refine EL.fF (FV.eql rfl rfl) rfl (fun _ => rfl) (by omega) ?_))
      | refine EL.nil ?_
      | refine EW.seq ?_
      | refine EW.region ?_
      | refine EW.ret ?_)
    exact ⟨_, rfl, rfl, hw2⟩
  by_cases q4 : c = c'
  rotate_left
  · rw [same_not (fun e => q4 e.2.2.2)]
    repeat' (first
      | (show EL _ _ _ _ (_ :: _) _ _
         first
         | (show EL _ _ _ _ (⟨_, _, _, _, _, some _⟩ :: _) _ _; refine EL.skip rfl rfl ?_)
         | (show EL _ _ _ _ (⟨_, .fieldAddr _ _ _, _, _, _, _⟩ :: _) _ _; refine EL.f (FV.fieldAddr rfl rfl rfl rfl rfl) rfl rfl ?_)
         | (show EL _ _ _ _ (⟨_, .load _ _, _, _, _, _⟩ :: _) _ _; first | refine EL.f (FV.load1 rfl rfl rfl (At.cell hb rfl)) rfl rfl ?_ | refine EL.f (FV.load1 rfl rfl rfl (At.cell h2 rfl)) rfl rfl ?_)
         | (show EL _ _ _ _ (⟨_, .move _, _, _, _, _⟩ :: _) _ _; refine EL.f (FV.move rfl) rfl rfl ?_)
         | (show EL _ _ _ _ (⟨_, .assign _, _, _, _, _⟩ :: _) _ _; refine EL.f (FV.assign rfl) rfl rfl ?_)
         | (show EL _ _ _ _ (⟨_, .pick _ _ _, _, _, _, _⟩ :: _) _ _; first | refine EL.f (FV.pickT rfl rfl) rfl rfl ?_ | refine EL.f (FV.pickF rfl rfl) rfl rfl ?_)
         | (show EL _ _ _ _ (⟨_, .binOp .eql _ _ _ _, _, _, _, _⟩ :: _) _ _; first | refine EL.fT (FV.eql rfl rfl) rfl (fun _ => rfl) (by omega) ?_ | refine EL.fF (FV.eql rfl rfl) rfl (fun _ => rfl) (by omega) ?_))
      | refine EL.nil ?_
      | refine EW.seq ?_
      | refine EW.region ?_
      | refine EW.ret ?_)
    exact ⟨_, rfl, rfl, hw2⟩
  rw [same_node ⟨q1, q2, q3, q4⟩]
  repeat' (first
    | (show EL _ _ _ _ (_ :: _) _ _
       first
       | (show EL _ _ _ _ (⟨_, .fieldAddr _ _ _, _, _, _, _⟩ :: _) _ _; refine EL.f (FV.fieldAddr rfl rfl rfl rfl rfl) rfl rfl ?_)
       | (show EL _ _ _ _ (⟨_, .load _ _, _, _, _, _⟩ :: _) _ _; first | refine EL.f (FV.load1 rfl rfl rfl (At.cell hb rfl)) rfl rfl ?_ | refine EL.f (FV.load1 rfl rfl rfl (At.cell h2 rfl)) rfl rfl ?_)
       | (show EL _ _ _ _ (⟨_, .move _, _, _, _, _⟩ :: _) _ _; refine EL.f (FV.move rfl) rfl rfl ?_)
       | (show EL _ _ _ _ (⟨_, .assign _, _, _, _, _⟩ :: _) _ _; refine EL.f (FV.assign rfl) rfl rfl ?_)
       | (show EL _ _ _ _ (⟨_, .pick _ _ _, _, _, _, _⟩ :: _) _ _; refine EL.f (FV.pickT rfl rfl) rfl rfl ?_)
       | (show EL _ _ _ _ (⟨_, .binOp .eql _ _ _ _, _, _, _, _⟩ :: _) _ _; refine EL.fT (FV.eql rfl rfl) rfl (fun _ => rfl) (by omega) ?_))
    | refine EL.nil ?_
    | refine EW.seq ?_
    | refine EW.region ?_)
  refine EL.h (Hv.call (equalFuncE 25 Ex.same ks ls A B cap dap w2 (hks.ext hw2) (hls.ext hw2) (fun i hi cs ds w hX hX' => ih i hi _ cs ds w hX hX')) rfl) rfl (fun _ => rfl) ?_
  rintro _ w3 ⟨rfl, he3⟩
  repeat' (first
    | refine EL.f (FV.assign rfl) rfl rfl ?_
    | refine EL.f (FV.pickT rfl rfl) rfl rfl ?_
    | refine EL.nil ?_
    | refine EW.ret ?_)
  exact ⟨_, rfl, rfl, hw2.trans he3⟩
set_option maxHeartbeats 16000000 in
theorem specSame (e : Ex) : ∀ f b o b' o' w, ExP w b o e → ExP w b' o' f → CallsR Try.prog 51 [.pointer (some ⟨b, o, none⟩), .pointer (some ⟨b', o', none⟩)] w fun v w' => v = .bool (e.same f) ∧ Ext w w' := by
  induction e using Ex.ind with
  | h k n p c ks ih =>
  intro f b o b' o' w hx hy
  cases f with
  | node k' n' p' c' ls =>
  obtain ⟨cs0, hL0, hX0⟩ := hx
  obtain ⟨A, cap, rfl, hks⟩ := hX0.inv
  obtain ⟨ds0, hM0, hY0⟩ := hy
  obtain ⟨B, dap, rfl, hls⟩ := hY0.inv
  have hr := hks.1
  have ed := Ext.drew w
  refine CallsR.enter Try.func51 (by decide +kernel) rfl Try.ntmps51 rfl ?_
  by_cases q1 : k = k'
  rotate_left
  · rw [same_not (fun e => q1 e.1)]
    repeat' (first
      | refine EL.f (FV.assign rfl) rfl rfl ?_
      | refine EL.nil ?_
      | refine EW.seq ?_
      | refine EW.region ?_)
    refine EW.draw (fun w' => Ext w w') (pl 0 55) mixed (by decide +kernel) ed ?_
    repeat' (first
      | refine EP.f rfl (FV.nilChk rfl) rfl rfl ?_
      | refine EP.f rfl (FV.fieldAddr rfl rfl rfl rfl rfl) rfl rfl ?_
      | refine EP.f rfl (FV.pickT rfl rfl) rfl rfl ?_
      | refine EP.skip rfl rfl rfl ?_
      | refine EP.fT rfl (FV.neq rfl rfl) rfl (fun _ => rfl) (by omega) ?_
      | refine EP.f rfl (FV.load rfl rfl rfl (fun w' h' => (hL0.ext h') 0 _ rfl)) rfl rfl ?_
      | refine EP.f rfl (FV.load rfl rfl rfl (fun w' h' => (hM0.ext h') 0 _ rfl)) rfl rfl ?_
      | refine EP.nil ?_
      | refine EP.f rfl (FV.move rfl) rfl rfl ?_)
    repeat' (first
      | refine EL.f (FV.assign rfl) rfl rfl ?_
      | refine EL.nil ?_
      | refine EW.seq ?_
      | refine EW.region ?_
      | refine EW.ret ?_
      | refine EW.condT rfl ?_)
    exact ⟨_, rfl, rfl, ed⟩
  by_cases q2 : n = n'
  rotate_left
  · rw [same_not (fun e => q2 e.2.1)]
    repeat' (first
      | refine EL.f (FV.assign rfl) rfl rfl ?_
      | refine EL.nil ?_
      | refine EW.seq ?_
      | refine EW.region ?_)
    refine EW.draw (fun w' => Ext w w') (pl 0 55) mixed (by decide +kernel) ed ?_
    repeat' (first
      | refine EP.f rfl (FV.nilChk rfl) rfl rfl ?_
      | refine EP.f rfl (FV.fieldAddr rfl rfl rfl rfl rfl) rfl rfl ?_
      | refine EP.f rfl (FV.pickT rfl rfl) rfl rfl ?_
      | refine EP.f rfl (FV.pickF rfl rfl) rfl rfl ?_
      | refine EP.skip rfl rfl rfl ?_
      | refine EP.fT rfl (FV.neq rfl rfl) rfl (fun _ => rfl) (by omega) ?_
      | refine EP.fF rfl (FV.neq rfl rfl) rfl (fun _ => rfl) (by omega) ?_
      | refine EP.f rfl (FV.load rfl rfl rfl (fun w' h' => (hL0.ext h') 0 _ rfl)) rfl rfl ?_
      | refine EP.f rfl (FV.load rfl rfl rfl (fun w' h' => (hL0.ext h') 1 _ rfl)) rfl rfl ?_
      | refine EP.f rfl (FV.load rfl rfl rfl (fun w' h' => (hM0.ext h') 0 _ rfl)) rfl rfl ?_
      | refine EP.f rfl (FV.load rfl rfl rfl (fun w' h' => (hM0.ext h') 1 _ rfl)) rfl rfl ?_
      | refine EP.nil ?_
      | refine EP.f rfl (FV.move rfl) rfl rfl ?_)
    repeat' (first
      | refine EL.f (FV.assign rfl) rfl rfl ?_
      | refine EL.nil ?_
      | refine EW.seq ?_
      | refine EW.region ?_
      | refine EW.ret ?_
      | refine EW.condT rfl ?_)
    exact ⟨_, rfl, rfl, ed⟩
  by_cases q3 : p = p'
  rotate_left
  · rw [same_not (fun e => q3 e.2.2.1)]
    repeat' (first
      | refine EL.f (FV.assign rfl) rfl rfl ?_
      | refine EL.nil ?_
      | refine EW.seq ?_
      | refine EW.region ?_)
    refine EW.draw (fun w' => Ext w w') (pl 0 55) mixed (by decide +kernel) ed ?_
    repeat' (first
      | refine EP.f rfl (FV.nilChk rfl) rfl rfl ?_
      | refine EP.f rfl (FV.fieldAddr rfl rfl rfl rfl rfl) rfl rfl ?_
      | refine EP.f rfl (FV.pickT rfl rfl) rfl rfl ?_
      | refine EP.f rfl (FV.pickF rfl rfl) rfl rfl ?_
      | refine EP.skip rfl rfl rfl ?_
      | refine EP.fT rfl (FV.neq rfl rfl) rfl (fun _ => rfl) (by omega) ?_
      | refine EP.fF rfl (FV.neq rfl rfl) rfl (fun _ => rfl) (by omega) ?_
      | refine EP.f rfl (FV.load rfl rfl rfl (fun w' h' => (hL0.ext h') 0 _ rfl)) rfl rfl ?_
      | refine EP.f rfl (FV.load rfl rfl rfl (fun w' h' => (hL0.ext h') 1 _ rfl)) rfl rfl ?_
      | refine EP.f rfl (FV.load rfl rfl rfl (fun w' h' => (hL0.ext h') 2 _ rfl)) rfl rfl ?_
      | refine EP.f rfl (FV.load rfl rfl rfl (fun w' h' => (hM0.ext h') 0 _ rfl)) rfl rfl ?_
      | refine EP.f rfl (FV.load rfl rfl rfl (fun w' h' => (hM0.ext h') 1 _ rfl)) rfl rfl ?_
      | refine EP.f rfl (FV.load rfl rfl rfl (fun w' h' => (hM0.ext h') 2 _ rfl)) rfl rfl ?_
      | refine EP.nil ?_
      | refine EP.f rfl (FV.move rfl) rfl rfl ?_)
    repeat' (first
      | refine EL.f (FV.assign rfl) rfl rfl ?_
      | refine EL.nil ?_
      | refine EW.seq ?_
      | refine EW.region ?_
      | refine EW.ret ?_
      | refine EW.condT rfl ?_)
    exact ⟨_, rfl, rfl, ed⟩
  by_cases q4 : c = c'
  rotate_left
  · rw [same_not (fun e => q4 e.2.2.2)]
    repeat' (first
      | refine EL.f (FV.assign rfl) rfl rfl ?_
      | refine EL.nil ?_
      | refine EW.seq ?_
      | refine EW.region ?_)
    refine EW.draw (fun w' => Ext w w') (pl 0 55) mixed (by decide +kernel) ed ?_
    repeat' (first
      | refine EP.f rfl (FV.nilChk rfl) rfl rfl ?_
      | refine EP.f rfl (FV.fieldAddr rfl rfl rfl rfl rfl) rfl rfl ?_
      | refine EP.f rfl (FV.pickT rfl rfl) rfl rfl ?_
      | refine EP.f rfl (FV.pickF rfl rfl) rfl rfl ?_
      | refine EP.skip rfl rfl rfl ?_
      | refine EP.fT rfl (FV.neq rfl rfl) rfl (fun _ => rfl) (by omega) ?_
      | refine EP.fF rfl (FV.neq rfl rfl) rfl (fun _ => rfl) (by omega) ?_
      | refine EP.f rfl (FV.load rfl rfl rfl (fun w' h' => (hL0.ext h') 0 _ rfl)) rfl rfl ?_
      | refine EP.f rfl (FV.load rfl rfl rfl (fun w' h' => (hL0.ext h') 1 _ rfl)) rfl rfl ?_
      | refine EP.f rfl (FV.load rfl rfl rfl (fun w' h' => (hL0.ext h') 2 _ rfl)) rfl rfl ?_
      | refine EP.f rfl (FV.load rfl rfl rfl (fun w' h' => (hL0.ext h') 3 _ rfl)) rfl rfl ?_
      | refine EP.f rfl (FV.load rfl rfl rfl (fun w' h' => (hM0.ext h') 0 _ rfl)) rfl rfl ?_
      | refine EP.f rfl (FV.load rfl rfl rfl (fun w' h' => (hM0.ext h') 1 _ rfl)) rfl rfl ?_
      | refine EP.f rfl (FV.load rfl rfl rfl (fun w' h' => (hM0.ext h') 2 _ rfl)) rfl rfl ?_
      | refine EP.f rfl (FV.load rfl rfl rfl (fun w' h' => (hM0.ext h') 3 _ rfl)) rfl rfl ?_
      | refine EP.nil ?_
      | refine EP.f rfl (FV.move rfl) rfl rfl ?_)
    repeat' (first
      | refine EL.f (FV.assign rfl) rfl rfl ?_
      | refine EL.nil ?_
      | refine EW.seq ?_
      | refine EW.region ?_
      | refine EW.ret ?_
      | refine EW.condT rfl ?_)
    exact ⟨_, rfl, rfl, ed⟩
  rw [same_node ⟨q1, q2, q3, q4⟩]
  by_cases hl : ks.length = ls.length
  rotate_left
  · repeat' (first
      | refine EL.f (FV.assign rfl) rfl rfl ?_
      | refine EL.nil ?_
      | refine EW.seq ?_
      | refine EW.region ?_)
    refine EW.draw (fun w' => Ext w w') (pl 0 55) mixed (by decide +kernel) ed ?_
    repeat' (first
      | refine EP.f rfl (FV.nilChk rfl) rfl rfl ?_
      | refine EP.f rfl (FV.fieldAddr rfl rfl rfl rfl rfl) rfl rfl ?_
      | refine EP.f rfl (FV.pickF rfl rfl) rfl rfl ?_
      | refine EP.fT rfl (FV.neq rfl rfl) rfl (fun _ => rfl) (by omega) ?_
      | refine EP.fF rfl (FV.neq rfl rfl) rfl (fun _ => rfl) (by omega) ?_
      | refine EP.f rfl (FV.load rfl rfl rfl (fun w' h' => (hL0.ext h') 0 _ rfl)) rfl rfl ?_
      | refine EP.f rfl (FV.load rfl rfl rfl (fun w' h' => (hL0.ext h') 1 _ rfl)) rfl rfl ?_
      | refine EP.f rfl (FV.load rfl rfl rfl (fun w' h' => (hL0.ext h') 2 _ rfl)) rfl rfl ?_
      | refine EP.f rfl (FV.load rfl rfl rfl (fun w' h' => (hL0.ext h') 3 _ rfl)) rfl rfl ?_
      | refine EP.f rfl (FV.load rfl rfl rfl (fun w' h' => (hL0.ext h') 4 _ rfl)) rfl rfl ?_
      | refine EP.f rfl (FV.load rfl rfl rfl (fun w' h' => (hM0.ext h') 0 _ rfl)) rfl rfl ?_
      | refine EP.f rfl (FV.load rfl rfl rfl (fun w' h' => (hM0.ext h') 1 _ rfl)) rfl rfl ?_
      | refine EP.f rfl (FV.load rfl rfl rfl (fun w' h' => (hM0.ext h') 2 _ rfl)) rfl rfl ?_
      | refine EP.f rfl (FV.load rfl rfl rfl (fun w' h' => (hM0.ext h') 3 _ rfl)) rfl rfl ?_
      | refine EP.f rfl (FV.load rfl rfl rfl (fun w' h' => (hM0.ext h') 4 _ rfl)) rfl rfl ?_
      | refine EP.nil ?_
      | refine EP.f rfl (FV.move rfl) rfl rfl ?_
      | refine EP.f rfl (FV.len rfl rfl) rfl rfl ?_)
    repeat' (first
      | refine EL.f (FV.assign rfl) rfl rfl ?_
      | refine EL.nil ?_
      | refine EW.seq ?_
      | refine EW.region ?_
      | refine EW.ret ?_
      | refine EW.condT rfl ?_)
    exact ⟨_, rfl, by rw [eqAll_len hl], ed⟩
  repeat' (first
    | refine EL.f (FV.assign rfl) rfl rfl ?_
    | refine EL.nil ?_
    | refine EW.seq ?_
    | refine EW.region ?_)
  refine EW.draw (fun w' => Ext w w') (pl 0 55) mixed (by decide +kernel) ed ?_
  repeat' (first
    | refine EP.f rfl (FV.nilChk rfl) rfl rfl ?_
    | refine EP.f rfl (FV.fieldAddr rfl rfl rfl rfl rfl) rfl rfl ?_
    | refine EP.f rfl (FV.pickF rfl rfl) rfl rfl ?_
    | refine EP.fF rfl (FV.neq rfl rfl) rfl (fun _ => rfl) (by omega) ?_
    | refine EP.f rfl (FV.load rfl rfl rfl (fun w' h' => (hL0.ext h') 0 _ rfl)) rfl rfl ?_
    | refine EP.f rfl (FV.load rfl rfl rfl (fun w' h' => (hL0.ext h') 1 _ rfl)) rfl rfl ?_
    | refine EP.f rfl (FV.load rfl rfl rfl (fun w' h' => (hL0.ext h') 2 _ rfl)) rfl rfl ?_
    | refine EP.f rfl (FV.load rfl rfl rfl (fun w' h' => (hL0.ext h') 3 _ rfl)) rfl rfl ?_
    | refine EP.f rfl (FV.load rfl rfl rfl (fun w' h' => (hL0.ext h') 4 _ rfl)) rfl rfl ?_
    | refine EP.f rfl (FV.load rfl rfl rfl (fun w' h' => (hM0.ext h') 0 _ rfl)) rfl rfl ?_
    | refine EP.f rfl (FV.load rfl rfl rfl (fun w' h' => (hM0.ext h') 1 _ rfl)) rfl rfl ?_
    | refine EP.f rfl (FV.load rfl rfl rfl (fun w' h' => (hM0.ext h') 2 _ rfl)) rfl rfl ?_
    | refine EP.f rfl (FV.load rfl rfl rfl (fun w' h' => (hM0.ext h') 3 _ rfl)) rfl rfl ?_
    | refine EP.f rfl (FV.load rfl rfl rfl (fun w' h' => (hM0.ext h') 4 _ rfl)) rfl rfl ?_
    | refine EP.nil ?_
    | refine EP.f rfl (FV.move rfl) rfl rfl ?_
    | refine EP.f rfl (FV.len rfl rfl) rfl rfl ?_)
  repeat' (first
    | refine EL.f (FV.assign rfl) rfl rfl ?_
    | refine EL.nil ?_
    | refine EW.seq ?_
    | refine EW.region ?_
    | refine EW.block ?_
    | refine EW.skip ?_
    | refine EW.condF rfl ?_)
  refine EW.loop (X := Nat) (fun i wr => i ≤ ks.length ∧ (∀ j, j < i → Ex.same (ks.getD j dEx) (ls.getD j dEx) = true) ∧ Ext w wr) (fun i => [(0, .pointer (some ⟨b, o, none⟩)), (1, .pointer (some ⟨b', o', none⟩)), (5, .int .i64 i)]) (fun i => ks.length - i) 0 ⟨Nat.zero_le _, fun j hj => by omega, ed⟩ ⟨rfl, rfl, rfl, trivial⟩ ?_
  rintro i wr ⟨hi, hno, hE⟩
  have h4 := (hL0.ext hE) 4 _ rfl
  have m4 := (hM0.ext hE) 4 _ rfl
  by_cases hlt : i < ks.length
  · obtain ⟨b1, o1, cs, rfl, hL, hX, hc⟩ := (hks.ext hE).kid hlt
    obtain ⟨b2, o2, ds, rfl, hM, hY, hd⟩ := (hls.ext hE).kid (show i < ls.length by omega)
    have ed' := Ext.drew wr
    repeat' (first
      | (show EL _ _ _ _ (_ :: _) _ _
         first
         | (show EL _ _ _ _ (⟨_, .nilCheck _, _, _, _, _⟩ :: _) _ _; refine EL.f (FV.nilChk rfl) rfl rfl ?_)
         | (show EL _ _ _ _ (⟨_, .fieldAddr _ _ _, _, _, _, _⟩ :: _) _ _; refine EL.f (FV.fieldAddr rfl rfl rfl rfl rfl) rfl rfl ?_)
         | (show EL _ _ _ _ (⟨_, .load _ _, _, _, _, _⟩ :: _) _ _; refine EL.f (FV.load1 rfl rfl rfl (h4)) rfl rfl ?_)
         | (show EL _ _ _ _ (⟨_, .move _, _, _, _, _⟩ :: _) _ _; refine EL.f (FV.move rfl) rfl rfl ?_)
         | (show EL _ _ _ _ (⟨_, .call _, _, _, _, _⟩ :: _) _ _; refine EL.f (FV.len rfl rfl) rfl rfl ?_)
         | (show EL _ _ _ _ (⟨_, .binOp .lss _ _ _ _, _, _, _, _⟩ :: _) _ _; refine EL.fT (FV.lss rfl rfl) rfl (fun _ => rfl) (by omega) ?_))
      | refine EL.nil ?_
      | refine EW.seq ?_
      | refine EW.region ?_
      | refine EW.block ?_
      | refine EW.skip ?_
      | refine EW.condT rfl ?_)
    refine EW.draw (fun w' => Ext wr w') (pl 0 12 ++ [(12, false), (13, true)]) mixed (by decide +kernel) (Ext.drew _) ?_
    repeat' (first
      | refine EP.f rfl (FV.nilChk rfl) rfl rfl ?_
      | refine EP.f rfl (FV.fieldAddr rfl rfl rfl rfl rfl) rfl rfl ?_
      | refine EP.f rfl (FV.load rfl rfl rfl (fun w' h' => h'.cell h4)) rfl rfl ?_
      | refine EP.f rfl (FV.load rfl rfl rfl (fun w' h' => h'.cell m4)) rfl rfl ?_
      | refine EP.f rfl (FV.idx (s := 5) rfl rfl rfl rfl (by omega) (by omega)) rfl rfl ?_
      | refine EP.f rfl (FV.move rfl) rfl rfl ?_)
    refine EP.h rfl rfl (Hv.call (ih i hlt _ b1 (o1 + i * 5) b2 (o2 + i * 5) wr.drew ⟨cs, hL.ext ed', hX.ext ed'⟩ ⟨ds, hM.ext ed', hY.ext ed'⟩) rfl) rfl (fun _ => rfl) ?_
    rintro _ w5 ⟨rfl, he5⟩
    refine ⟨ed'.trans he5, ?_⟩
    repeat' (first
      | refine EP.nil ?_
      | refine EP.f rfl (FV.not rfl) rfl rfl ?_)
    have hE5 := (hE.trans ed').trans he5
    cases hp : Ex.same (ks.getD i dEx) (ls.getD i dEx)
    · repeat' (first
        | refine EL.f (FV.assign rfl) rfl rfl ?_
        | refine EL.nil ?_
        | refine EW.seq ?_
        | refine EW.region ?_
        | refine EW.ret ?_
        | refine EW.condT rfl ?_)
      exact ⟨_, rfl, by rw [eqAll_false hl hlt hp], hE5⟩
    · repeat' (first
        | refine EL.f (FV.move rfl) rfl rfl ?_
        | refine EL.f (FV.assign rfl) rfl rfl ?_
        | refine EL.f (FV.addI rfl rfl (by omega)) rfl rfl ?_
        | refine EL.nil ?_
        | refine EW.region ?_
        | refine EW.skip ?_
        | refine EW.condF rfl ?_)
      exact ⟨i + 1, ⟨rfl, rfl, rfl, trivial⟩, ⟨by omega, fun j hj => by
        by_cases e : j = i
        · subst e; exact hp
        · exact hno j (by omega), hE5⟩, by omega⟩
  · obtain rfl : i = ks.length := by omega
    repeat' (first
      | (show EL _ _ _ _ (_ :: _) _ _
         first
         | (show EL _ _ _ _ (⟨_, .nilCheck _, _, _, _, _⟩ :: _) _ _; refine EL.f (FV.nilChk rfl) rfl rfl ?_)
         | (show EL _ _ _ _ (⟨_, .fieldAddr _ _ _, _, _, _, _⟩ :: _) _ _; refine EL.f (FV.fieldAddr rfl rfl rfl rfl rfl) rfl rfl ?_)
         | (show EL _ _ _ _ (⟨_, .load _ _, _, _, _, _⟩ :: _) _ _; refine EL.f (FV.load1 rfl rfl rfl (h4)) rfl rfl ?_)
         | (show EL _ _ _ _ (⟨_, .move _, _, _, _, _⟩ :: _) _ _; refine EL.f (FV.move rfl) rfl rfl ?_)
         | (show EL _ _ _ _ (⟨_, .assign _, _, _, _, _⟩ :: _) _ _; refine EL.f (FV.assign rfl) rfl rfl ?_)
         | (show EL _ _ _ _ (⟨_, .call _, _, _, _, _⟩ :: _) _ _; refine EL.f (FV.len rfl rfl) rfl rfl ?_)
         | (show EL _ _ _ _ (⟨_, .binOp .lss _ _ _ _, _, _, _, _⟩ :: _) _ _; refine EL.fF (FV.lss rfl rfl) rfl (fun _ => rfl) (by omega) ?_))
      | refine EL.nil ?_
      | refine EW.seq ?_
      | refine EW.region ?_
      | refine EW.exit ?_
      | refine EW.ret ?_
      | refine EW.condF rfl ?_)
    exact ⟨_, rfl, by rw [eqAll_true hl hno], hE⟩
theorem specSameV (e f : Ex) (cs ds : List Value) (w : World) (hx : ExB w 0 cs e) (hy : ExB w 0 ds f) : CallsR Try.prog 24 [.agg cs.toArray, .agg ds.toArray] w fun v w' => v = .bool (e.same f) ∧ Ext w w' := by
  refine CallsR.enter Try.func24 (by decide +kernel) rfl Try.ntmps24 rfl ?_
  repeat' (first
    | refine EW.seq ?_
    | refine EW.region ?_)
  refine EL.h (Hv.boxA (sz := 5) rfl hx.len) rfl (fun _ => rfl) ?_
  rintro _ w1 ⟨g1, rfl, hg1, hb, he1⟩
  skip
  refine EL.h (Hv.boxA (sz := 5) rfl hy.len) rfl (fun _ => rfl) ?_
  rintro _ w2 ⟨g2, rfl, hg2, h2, he2⟩
  replace hb := At.ext hb he2
  have hw2 := he1.trans he2
  repeat' (first
    | refine EL.f (FV.assign rfl) rfl rfl ?_
    | refine EL.nil ?_
    | refine EW.seq ?_
    | refine EW.region ?_)
  refine EL.h (Hv.call (specSame e f g1 0 g2 0 w2 ⟨cs, At.lies hb, hx.ext hw2⟩ ⟨ds, At.lies h2, hy.ext hw2⟩) rfl) rfl (fun _ => rfl) ?_
  rintro _ w3 ⟨rfl, he3⟩
  repeat' (first
    | refine EL.f (FV.assign rfl) rfl rfl ?_
    | refine EL.nil ?_
    | refine EW.ret ?_)
  exact ⟨_, rfl, rfl, hw2.trans he3⟩
end Eng
end Go.Proofs.Ytcodicokpegfmaa
