/- Searches over functions; sameness of programs, in the program and in the reference. Conditions: the number of nodes. -/
import Derived.Test.YtgahkbcfjibjaaaEd
import Derived.Test.YtgahkbcfjibjaaaPa
namespace Go.Proofs.Ytgahkbcfjibjaaa
open Go Go.RowKit
namespace Eng
section
variable {P : Program} {n : Nat} {S : World → Prop} {ρ : Env} {dst : Option Tmp} {ty : TypeId} {pos : String} {af : Array Edge} {g : Option (Nat × Bool)}
theorem FV.eqlSb {x y : Operand} {t u : TypeId} {b c : ByteArray} {v : Bool} (hx : ev ρ x = some (.string b)) (hy : ev ρ y = some (.string c)) (h : (b.toList == c.toList) = v) : FV P n S ρ ⟨dst, .binOp .eql t x y u, ty, pos, af, g⟩ (.bool v) := h ▸ FV.eqlS hx hy
theorem FV.neqSt {x y : Operand} {t u : TypeId} {b c : ByteArray} (hx : ev ρ x = some (.string b)) (hy : ev ρ y = some (.string c)) (h : (b.toList == c.toList) = true) : FV P n S ρ ⟨dst, .binOp .neq t x y u, ty, pos, af, g⟩ (.bool false) := by
  have := FV.neqS (P := P) (n := n) (S := S) (ρ := ρ) (dst := dst) (ty := ty) (pos := pos) (af := af) (g := g) (t := t) (u := u) hx hy
  rwa [h] at this
theorem FV.neqSf {x y : Operand} {t u : TypeId} {b c : ByteArray} (hx : ev ρ x = some (.string b)) (hy : ev ρ y = some (.string c)) (h : (b.toList == c.toList) = false) : FV P n S ρ ⟨dst, .binOp .neq t x y u, ty, pos, af, g⟩ (.bool true) := by
  have := FV.neqS (P := P) (n := n) (S := S) (ρ := ρ) (dst := dst) (ty := ty) (pos := pos) (af := af) (g := g) (t := t) (u := u) hx hy
  rwa [h] at this
end
/-! the library's searches -/
theorem indexFuncF (f : FuncId) (p : Fu → Bool) (ks : List Fu) (A : Option Addr) (cap : Nat) (w : World) (h : FsB w 0 A ks)
    (hf : ∀ i, i < ks.length → ∀ cs w, FuB w 0 cs (ks.getD i dFu) → CallsR Try.prog f [.agg cs.toArray] w fun v w' => v = .bool (p (ks.getD i dFu)) ∧ Ext w w') :
    CallsR Try.prog 104 [.slice A ks.length cap, .func (.func f) #[] #[]] w fun v w' => ∃ r : Int, v = .int .i64 r ∧ decide (0 ≤ r) = ks.any p ∧ Ext w w' := by
  have hr := h.1
  refine CallsR.enter Try.func104 (by decide +kernel) rfl Try.ntmps104 rfl ?_
  repeat' (first
    | (show EL _ _ _ _ (_ :: _) _ _
       first
       | (show EL _ _ _ _ (⟨_, _, _, _, _, some _⟩ :: _) _ _; refine EL.skip rfl rfl ?_)
       | (show EL _ _ _ _ (⟨_, .move _, _, _, _, _⟩ :: _) _ _; refine EL.f (FV.move rfl) rfl rfl ?_)
       | (show EL _ _ _ _ (⟨_, .assign _, _, _, _, _⟩ :: _) _ _; refine EL.f (FV.assign rfl) rfl rfl ?_)
       | (show EL _ _ _ _ (⟨_, .binOp .add _ _ _ _, _, _, _, _⟩ :: _) _ _; refine EL.f (FV.addI rfl rfl (by omega)) rfl rfl ?_)
       | (show EL _ _ _ _ (⟨_, .binOp .sub _ _ _ _, _, _, _, _⟩ :: _) _ _; refine EL.f (FV.subI rfl rfl (by omega)) rfl rfl ?_)
       | (show EL _ _ _ _ (⟨_, .binOp .rem _ _ _ _, _, _, _, _⟩ :: _) _ _; first | refine EL.f (FV.remI rfl rfl (by decide) (by omega)) rfl rfl ?_ | refine EL.f (FV.rem rfl rfl (by decide)) rfl rfl ?_)
       | (show EL _ _ _ _ (⟨_, .binOp .quo _ _ _ _, _, _, _, _⟩ :: _) _ _; refine EL.f (FV.quoI rfl rfl (by decide) (by omega)) rfl rfl ?_)
       | (show EL _ _ _ _ (⟨_, .extract _ _, _, _, _, _⟩ :: _) _ _; refine EL.f (FV.extract rfl rfl) rfl rfl ?_)
       | (show EL _ _ _ _ (⟨_, .call _, _, _, _, _⟩ :: _) _ _; first | refine EL.f (FV.len rfl rfl) rfl rfl ?_ | refine EL.f (FV.lenS rfl rfl) rfl rfl ?_)
       | (show EL _ _ _ _ (⟨_, .unOp .not _ _, _, _, _, _⟩ :: _) _ _; refine EL.f (FV.not rfl) rfl rfl ?_)
       | (show EL _ _ _ _ (⟨_, .pick _ _ _, _, _, _, _⟩ :: _) _ _; first | refine EL.f (FV.pickT rfl rfl) rfl rfl ?_ | refine EL.f (FV.pickF rfl rfl) rfl rfl ?_)
       | (show EL _ _ _ _ (⟨_, .binOp .lss _ _ _ _, _, _, _, _⟩ :: _) _ _; first | refine EL.fT (FV.lss rfl rfl) rfl (fun _ => rfl) (by omega) ?_ | refine EL.fF (FV.lss rfl rfl) rfl (fun _ => rfl) (by omega) ?_)
       | (show EL _ _ _ _ (⟨_, .binOp .leq _ _ _ _, _, _, _, _⟩ :: _) _ _; first | refine EL.fT (FV.leq rfl rfl) rfl (fun _ => rfl) (by omega) ?_ | refine EL.fF (FV.leq rfl rfl) rfl (fun _ => rfl) (by omega) ?_)
       | (show EL _ _ _ _ (⟨_, .binOp .gtr _ _ _ _, _, _, _, _⟩ :: _) _ _; first | refine EL.fT (FV.gtr rfl rfl) rfl (fun _ => rfl) (by omega) ?_ | refine EL.fF (FV.gtr rfl rfl) rfl (fun _ => rfl) (by omega) ?_)
       | (show EL _ _ _ _ (⟨_, .binOp .geq _ _ _ _, _, _, _, _⟩ :: _) _ _; first | refine EL.fT (FV.geq rfl rfl) rfl (fun _ => rfl) (by omega) ?_ | refine EL.fF (FV.geq rfl rfl) rfl (fun _ => rfl) (by omega) ?_)
       | (show EL _ _ _ _ (⟨_, .binOp .eql _ _ _ _, _, _, _, _⟩ :: _) _ _; first | refine EL.fT (FV.eql rfl rfl) rfl (fun _ => rfl) (by omega) ?_ | refine EL.fF (FV.eql rfl rfl) rfl (fun _ => rfl) (by omega) ?_)
       | (show EL _ _ _ _ (⟨_, .binOp .neq _ _ _ _, _, _, _, _⟩ :: _) _ _; first | refine EL.fT (FV.neq rfl rfl) rfl (fun _ => rfl) (by omega) ?_ | refine EL.fF (FV.neq rfl rfl) rfl (fun _ => rfl) (by omega) ?_)
       | (show EL _ _ _ _ (⟨_, .indexAddr _ _ _, _, _, _, _⟩ :: _) _ _; first | refine EL.f (FV.idx0 rfl rfl rfl rfl (by omega) (by omega)) rfl rfl ?_ | refine EL.f (FV.idx1 rfl rfl rfl rfl (by omega) (by omega)) rfl rfl ?_)
       | (show EL _ _ _ _ (⟨_, .load _ _, _, _, _, _⟩ :: _) _ _; refine EL.f (FV.load1 rfl rfl rfl (by assumption)) rfl rfl ?_))
    | refine EL.nil ?_
    | refine EW.seq ?_
    | refine EW.region ?_
    | refine EW.block ?_
    | refine EW.skip ?_
    | refine EW.exit ?_
    | refine EW.ret ?_
    | refine EW.condT rfl ?_
    | refine EW.condF rfl ?_)
  refine EW.loop (X := Nat) (fun i wr => i ≤ ks.length ∧ (∀ j, j < i → p (ks.getD j dFu) = false) ∧ Ext w wr) (fun i => [(0, .slice A ks.length cap), (1, .func (.func f) #[] #[]), (7, .int .i64 ks.length), (8, .int .i64 i)]) (fun i => ks.length - i) 0 ⟨Nat.zero_le _, fun j hj => by omega, Ext.refl _⟩ ⟨rfl, rfl, rfl, rfl, trivial⟩ ?_
  rintro i wr ⟨hi, hno, hE⟩
  by_cases hlt : i < ks.length
  · obtain ⟨b, o, cs, rfl, hL, hX, hc⟩ := (h.ext hE).kid hlt
    have hcall := hf i hlt cs wr hX
    repeat' (first
      | (show EL _ _ _ _ (_ :: _) _ _
         first
         | (show EL _ _ _ _ (⟨_, _, _, _, _, some _⟩ :: _) _ _; refine EL.skip rfl rfl ?_)
         | (show EL _ _ _ _ (⟨_, .indexAddr _ _ _, _, _, _, _⟩ :: _) _ _; first | refine EL.f (FV.idx rfl rfl rfl rfl (by omega) (by omega)) rfl rfl ?_ | refine EL.f (FV.idx0 rfl rfl rfl rfl (by omega) (by omega)) rfl rfl ?_ | refine EL.f (FV.idx1 rfl rfl rfl rfl (by omega) (by omega)) rfl rfl ?_)
         | (show EL _ _ _ _ (⟨_, .load _ _, _, _, _, _⟩ :: _) _ _; first | refine EL.f (FV.loadAgg (cs := cs) rfl rfl rfl hc rfl (fun _ e => e ▸ hL)) rfl rfl ?_ | refine EL.f (FV.load1 rfl rfl rfl (by assumption)) rfl rfl ?_)
         | (show EL _ _ _ _ (⟨_, .move _, _, _, _, _⟩ :: _) _ _; refine EL.f (FV.move rfl) rfl rfl ?_)
         | (show EL _ _ _ _ (⟨_, .assign _, _, _, _, _⟩ :: _) _ _; refine EL.f (FV.assign rfl) rfl rfl ?_)
         | (show EL _ _ _ _ (⟨_, .binOp .add _ _ _ _, _, _, _, _⟩ :: _) _ _; refine EL.f (FV.addI rfl rfl (by omega)) rfl rfl ?_)
         | (show EL _ _ _ _ (⟨_, .binOp .sub _ _ _ _, _, _, _, _⟩ :: _) _ _; refine EL.f (FV.subI rfl rfl (by omega)) rfl rfl ?_)
         | (show EL _ _ _ _ (⟨_, .binOp .rem _ _ _ _, _, _, _, _⟩ :: _) _ _; first | refine EL.f (FV.remI rfl rfl (by decide) (by omega)) rfl rfl ?_ | refine EL.f (FV.rem rfl rfl (by decide)) rfl rfl ?_)
         | (show EL _ _ _ _ (⟨_, .binOp .quo _ _ _ _, _, _, _, _⟩ :: _) _ _; refine EL.f (FV.quoI rfl rfl (by decide) (by omega)) rfl rfl ?_)
         | (show EL _ _ _ _ (⟨_, .extract _ _, _, _, _, _⟩ :: _) _ _; refine EL.f (FV.extract rfl rfl) rfl rfl ?_)
         | (show EL _ _ _ _ (⟨_, .call _, _, _, _, _⟩ :: _) _ _; first | refine EL.f (FV.len rfl rfl) rfl rfl ?_ | refine EL.f (FV.lenS rfl rfl) rfl rfl ?_)
         | (show EL _ _ _ _ (⟨_, .unOp .not _ _, _, _, _, _⟩ :: _) _ _; refine EL.f (FV.not rfl) rfl rfl ?_)
         | (show EL _ _ _ _ (⟨_, .pick _ _ _, _, _, _, _⟩ :: _) _ _; first | refine EL.f (FV.pickT rfl rfl) rfl rfl ?_ | refine EL.f (FV.pickF rfl rfl) rfl rfl ?_)
         | (show EL _ _ _ _ (⟨_, .binOp .lss _ _ _ _, _, _, _, _⟩ :: _) _ _; first | refine EL.fT (FV.lss rfl rfl) rfl (fun _ => rfl) (by omega) ?_ | refine EL.fF (FV.lss rfl rfl) rfl (fun _ => rfl) (by omega) ?_)
         | (show EL _ _ _ _ (⟨_, .binOp .leq _ _ _ _, _, _, _, _⟩ :: _) _ _; first | refine EL.fT (FV.leq rfl rfl) rfl (fun _ => rfl) (by omega) ?_ | refine EL.fF (FV.leq rfl rfl) rfl (fun _ => rfl) (by omega) ?_)
         | (show EL _ _ _ _ (⟨_, .binOp .gtr _ _ _ _, _, _, _, _⟩ :: _) _ _; first | refine EL.fT (FV.gtr rfl rfl) rfl (fun _ => rfl) (by omega) ?_ | refine EL.fF (FV.gtr rfl rfl) rfl (fun _ => rfl) (by omega) ?_)
         | (show EL _ _ _ _ (⟨_, .binOp .geq _ _ _ _, _, _, _, _⟩ :: _) _ _; first | refine EL.fT (FV.geq rfl rfl) rfl (fun _ => rfl) (by omega) ?_ | refine EL.fF (FV.geq rfl rfl) rfl (fun _ => rfl) (by omega) ?_)
         | (show EL _ _ _ _ (⟨_, .binOp .eql _ _ _ _, _, _, _, _⟩ :: _) _ _; first | refine EL.fT (FV.eql rfl rfl) rfl (fun _ => rfl) (by omega) ?_ | refine EL.fF (FV.eql rfl rfl) rfl (fun _ => rfl) (by omega) ?_)
         | (show EL _ _ _ _ (⟨_, .binOp .neq _ _ _ _, _, _, _, _⟩ :: _) _ _; first | refine EL.fT (FV.neq rfl rfl) rfl (fun _ => rfl) (by omega) ?_ | refine EL.fF (FV.neq rfl rfl) rfl (fun _ => rfl) (by omega) ?_))
      | refine EL.nil ?_
      | refine EW.seq ?_
      | refine EW.region ?_
      | refine EW.block ?_
      | refine EW.skip ?_
      | refine EW.exit ?_
      | refine EW.ret ?_
      | refine EW.condT rfl ?_
      | refine EW.condF rfl ?_)
    refine EL.h (Hv.callF hcall rfl rfl) rfl (fun _ => rfl) ?_
    rintro _ w1 ⟨rfl, he1⟩
    cases hp : p (ks.getD i dFu)
    · repeat' (first
        | (show EL _ _ _ _ (_ :: _) _ _
           first
           | (show EL _ _ _ _ (⟨_, _, _, _, _, some _⟩ :: _) _ _; refine EL.skip rfl rfl ?_)
           | (show EL _ _ _ _ (⟨_, .move _, _, _, _, _⟩ :: _) _ _; refine EL.f (FV.move rfl) rfl rfl ?_)
           | (show EL _ _ _ _ (⟨_, .assign _, _, _, _, _⟩ :: _) _ _; refine EL.f (FV.assign rfl) rfl rfl ?_)
           | (show EL _ _ _ _ (⟨_, .binOp .add _ _ _ _, _, _, _, _⟩ :: _) _ _; refine EL.f (FV.addI rfl rfl (by omega)) rfl rfl ?_)
           | (show EL _ _ _ _ (⟨_, .binOp .sub _ _ _ _, _, _, _, _⟩ :: _) _ _; refine EL.f (FV.subI rfl rfl (by omega)) rfl rfl ?_)
           | (show EL _ _ _ _ (⟨_, .binOp .rem _ _ _ _, _, _, _, _⟩ :: _) _ _; first | refine EL.f (FV.remI rfl rfl (by decide) (by omega)) rfl rfl ?_ | refine EL.f (FV.rem rfl rfl (by decide)) rfl rfl ?_)
           | (show EL _ _ _ _ (⟨_, .binOp .quo _ _ _ _, _, _, _, _⟩ :: _) _ _; refine EL.f (FV.quoI rfl rfl (by decide) (by omega)) rfl rfl ?_)
           | (show EL _ _ _ _ (⟨_, .extract _ _, _, _, _, _⟩ :: _) _ _; refine EL.f (FV.extract rfl rfl) rfl rfl ?_)
           | (show EL _ _ _ _ (⟨_, .call _, _, _, _, _⟩ :: _) _ _; first | refine EL.f (FV.len rfl rfl) rfl rfl ?_ | refine EL.f (FV.lenS rfl rfl) rfl rfl ?_)
           | (show EL _ _ _ _ (⟨_, .unOp .not _ _, _, _, _, _⟩ :: _) _ _; refine EL.f (FV.not rfl) rfl rfl ?_)
           | (show EL _ _ _ _ (⟨_, .pick _ _ _, _, _, _, _⟩ :: _) _ _; first | refine EL.f (FV.pickT rfl rfl) rfl rfl ?_ | refine EL.f (FV.pickF rfl rfl) rfl rfl ?_)
           | (show EL _ _ _ _ (⟨_, .binOp .lss _ _ _ _, _, _, _, _⟩ :: _) _ _; first | refine EL.fT (FV.lss rfl rfl) rfl (fun _ => rfl) (by omega) ?_ | refine EL.fF (FV.lss rfl rfl) rfl (fun _ => rfl) (by omega) ?_)
           | (show EL _ _ _ _ (⟨_, .binOp .leq _ _ _ _, _, _, _, _⟩ :: _) _ _; first | refine EL.fT (FV.leq rfl rfl) rfl (fun _ => rfl) (by omega) ?_ | refine EL.fF (FV.leq rfl rfl) rfl (fun _ => rfl) (by omega) ?_)
           | (show EL _ _ _ _ (⟨_, .binOp .gtr _ _ _ _, _, _, _, _⟩ :: _) _ _; first | refine EL.fT (FV.gtr rfl rfl) rfl (fun _ => rfl) (by omega) ?_ | refine EL.fF (FV.gtr rfl rfl) rfl (fun _ => rfl) (by omega) ?_)
           | (show EL _ _ _ _ (⟨_, .binOp .geq _ _ _ _, _, _, _, _⟩ :: _) _ _; first | refine EL.fT (FV.geq rfl rfl) rfl (fun _ => rfl) (by omega) ?_ | refine EL.fF (FV.geq rfl rfl) rfl (fun _ => rfl) (by omega) ?_)
           | (show EL _ _ _ _ (⟨_, .binOp .eql _ _ _ _, _, _, _, _⟩ :: _) _ _; first | refine EL.fT (FV.eql rfl rfl) rfl (fun _ => rfl) (by omega) ?_ | refine EL.fF (FV.eql rfl rfl) rfl (fun _ => rfl) (by omega) ?_)
           | (show EL _ _ _ _ (⟨_, .binOp .neq _ _ _ _, _, _, _, _⟩ :: _) _ _; first | refine EL.fT (FV.neq rfl rfl) rfl (fun _ => rfl) (by omega) ?_ | refine EL.fF (FV.neq rfl rfl) rfl (fun _ => rfl) (by omega) ?_)
           | (show EL _ _ _ _ (⟨_, .indexAddr _ _ _, _, _, _, _⟩ :: _) _ _; first | refine EL.f (FV.idx0 rfl rfl rfl rfl (by omega) (by omega)) rfl rfl ?_ | refine EL.f (FV.idx1 rfl rfl rfl rfl (by omega) (by omega)) rfl rfl ?_)
           | (show EL _ _ _ _ (⟨_, .load _ _, _, _, _, _⟩ :: _) _ _; refine EL.f (FV.load1 rfl rfl rfl (by assumption)) rfl rfl ?_))
        | refine EL.nil ?_
        | refine EW.seq ?_
        | refine EW.region ?_
        | refine EW.block ?_
        | refine EW.skip ?_
        | refine EW.exit ?_
        | refine EW.ret ?_
        | refine EW.condT rfl ?_
        | refine EW.condF rfl ?_)
      exact ⟨i + 1, ⟨rfl, rfl, rfl, rfl, trivial⟩, ⟨by omega, fun j hj => by
        by_cases e : j = i
        · subst e; exact hp
        · exact hno j (by omega), hE.trans he1⟩, by omega⟩
    · repeat' (first
        | (show EL _ _ _ _ (_ :: _) _ _
           first
           | (show EL _ _ _ _ (⟨_, _, _, _, _, some _⟩ :: _) _ _; refine EL.skip rfl rfl ?_)
           | (show EL _ _ _ _ (⟨_, .move _, _, _, _, _⟩ :: _) _ _; refine EL.f (FV.move rfl) rfl rfl ?_)
           | (show EL _ _ _ _ (⟨_, .assign _, _, _, _, _⟩ :: _) _ _; refine EL.f (FV.assign rfl) rfl rfl ?_)
           | (show EL _ _ _ _ (⟨_, .binOp .add _ _ _ _, _, _, _, _⟩ :: _) _ _; refine EL.f (FV.addI rfl rfl (by omega)) rfl rfl ?_)
           | (show EL _ _ _ _ (⟨_, .binOp .sub _ _ _ _, _, _, _, _⟩ :: _) _ _; refine EL.f (FV.subI rfl rfl (by omega)) rfl rfl ?_)
           | (show EL _ _ _ _ (⟨_, .binOp .rem _ _ _ _, _, _, _, _⟩ :: _) _ _; first | refine EL.f (FV.remI rfl rfl (by decide) (by omega)) rfl rfl ?_ | refine EL.f (FV.rem rfl rfl (by decide)) rfl rfl ?_)
           | (show EL _ _ _ _ (⟨_, .binOp .quo _ _ _ _, _, _, _, _⟩ :: _) _ _; refine EL.f (FV.quoI rfl rfl (by decide) (by omega)) rfl rfl ?_)
           | (show EL _ _ _ _ (⟨_, .extract _ _, _, _, _, _⟩ :: _) _ _; refine EL.f (FV.extract rfl rfl) rfl rfl ?_)
           | (show EL _ _ _ _ (⟨_, .call _, _, _, _, _⟩ :: _) _ _; first | refine EL.f (FV.len rfl rfl) rfl rfl ?_ | refine EL.f (FV.lenS rfl rfl) rfl rfl ?_)
           | (show EL _ _ _ _ (⟨_, .unOp .not _ _, _, _, _, _⟩ :: _) _ _; refine EL.f (FV.not rfl) rfl rfl ?_)
           | (show EL _ _ _ _ (⟨_, .pick _ _ _, _, _, _, _⟩ :: _) _ _; first | refine EL.f (FV.pickT rfl rfl) rfl rfl ?_ | refine EL.f (FV.pickF rfl rfl) rfl rfl ?_)
           | (show EL _ _ _ _ (⟨_, .binOp .lss _ _ _ _, _, _, _, _⟩ :: _) _ _; first | refine EL.fT (FV.lss rfl rfl) rfl (fun _ => rfl) (by omega) ?_ | refine EL.fF (FV.lss rfl rfl) rfl (fun _ => rfl) (by omega) ?_)
           | (show EL _ _ _ _ (⟨_, .binOp .leq _ _ _ _, _, _, _, _⟩ :: _) _ _; first | refine EL.fT (FV.leq rfl rfl) rfl (fun _ => rfl) (by omega) ?_ | refine EL.fF (FV.leq rfl rfl) rfl (fun _ => rfl) (by omega) ?_)
           | (show EL _ _ _ _ (⟨_, .binOp .gtr _ _ _ _, _, _, _, _⟩ :: _) _ _; first | refine EL.fT (FV.gtr rfl rfl) rfl (fun _ => rfl) (by omega) ?_ | refine EL.fF (FV.gtr rfl rfl) rfl (fun _ => rfl) (by omega) ?_)
           | (show EL _ _ _ _ (⟨_, .binOp .geq _ _ _ _, _, _, _, _⟩ :: _) _ _; first | refine EL.fT (FV.geq rfl rfl) rfl (fun _ => rfl) (by omega) ?_ | refine EL.fF (FV.geq rfl rfl) rfl (fun _ => rfl) (by omega) ?_)
           | (show EL _ _ _ _ (⟨_, .binOp .eql _ _ _ _, _, _, _, _⟩ :: _) _ _; first | refine EL.fT (FV.eql rfl rfl) rfl (fun _ => rfl) (by omega) ?_ | refine EL.fF (FV.eql rfl rfl) rfl (fun _ => rfl) (by omega) ?_)
           | (show EL _ _ _ _ (⟨_, .binOp .neq _ _ _ _, _, _, _, _⟩ :: _) _ _; first | refine EL.fT (FV.neq rfl rfl) rfl (fun _ => rfl) (by omega) ?_ | refine EL.fF (FV.neq rfl rfl) rfl (fun _ => rfl) (by omega) ?_)
           | (show EL _ _ _ _ (⟨_, .indexAddr _ _ _, _, _, _, _⟩ :: _) _ _; first | refine EL.f (FV.idx0 rfl rfl rfl rfl (by omega) (by omega)) rfl rfl ?_ | refine EL.f (FV.idx1 rfl rfl rfl rfl (by omega) (by omega)) rfl rfl ?_)
           | (show EL _ _ _ _ (⟨_, .load _ _, _, _, _, _⟩ :: _) _ _; refine EL.f (FV.load1 rfl rfl rfl (by assumption)) rfl rfl ?_))
        | refine EL.nil ?_
        | refine EW.seq ?_
        | refine EW.region ?_
        | refine EW.block ?_
        | refine EW.skip ?_
        | refine EW.exit ?_
        | refine EW.ret ?_
        | refine EW.condT rfl ?_
        | refine EW.condF rfl ?_)
      exact ⟨_, rfl, _, rfl, by rw [any_some hlt hp]; simp, hE.trans he1⟩
  · obtain rfl : i = ks.length := by omega
    repeat' (first
      | (show EL _ _ _ _ (_ :: _) _ _
         first
         | (show EL _ _ _ _ (⟨_, _, _, _, _, some _⟩ :: _) _ _; refine EL.skip rfl rfl ?_)
         | (show EL _ _ _ _ (⟨_, .move _, _, _, _, _⟩ :: _) _ _; refine EL.f (FV.move rfl) rfl rfl ?_)
         | (show EL _ _ _ _ (⟨_, .assign _, _, _, _, _⟩ :: _) _ _; refine EL.f (FV.assign rfl) rfl rfl ?_)
         | (show EL _ _ _ _ (⟨_, .binOp .add _ _ _ _, _, _, _, _⟩ :: _) _ _; refine EL.f (FV.addI rfl rfl (by omega)) rfl rfl ?_)
         | (show EL _ _ _ _ (⟨_, .binOp .sub _ _ _ _, _, _, _, _⟩ :: _) _ _; refine EL.f (FV.subI rfl rfl (by omega)) rfl rfl ?_)
         | (show EL _ _ _ _ (⟨_, .binOp .rem _ _ _ _, _, _, _, _⟩ :: _) _ _; first | refine EL.f (FV.remI rfl rfl (by decide) (by omega)) rfl rfl ?_ | refine EL.f (FV.rem rfl rfl (by decide)) rfl rfl ?_)
         | (show EL _ _ _ _ (⟨_, .binOp .quo _ _ _ _, _, _, _, _⟩ :: _) _ _; refine EL.f (FV.quoI rfl rfl (by decide) (by omega)) rfl rfl ?_)
         | (show EL _ _ _ _ (⟨_, .extract _ _, _, _, _, _⟩ :: _) _ _; refine EL.f (FV.extract rfl rfl) rfl rfl ?_)
         | (show EL _ _ _ _ (⟨_, .call _, _, _, _, _⟩ :: _) _ _; first | refine EL.f (FV.len rfl rfl) rfl rfl ?_ | refine EL.f (FV.lenS rfl rfl) rfl rfl ?_)
         | (show EL _ _ _ _ (⟨_, .unOp .not _ _, _, _, _, _⟩ :: _) _ _; refine EL.f (FV.not rfl) rfl rfl ?_)
         | (show EL _ _ _ _ (⟨_, .pick _ _ _, _, _, _, _⟩ :: _) _ _; first | refine EL.f (FV.pickT rfl rfl) rfl rfl ?_ | refine EL.f (FV.pickF rfl rfl) rfl rfl ?_)
         | (show EL _ _ _ _ (⟨_, .binOp .lss _ _ _ _, _, _, _, _⟩ :: _) _ _; first | refine EL.fT (FV.lss rfl rfl) rfl (fun _ => rfl) (by omega) ?_ | refine EL.fF (FV.lss rfl rfl) rfl (fun _ => rfl) (by omega) ?_)
         | (show EL _ _ _ _ (⟨_, .binOp .leq _ _ _ _, _, _, _, _⟩ :: _) _ _; first | refine EL.fT (FV.leq rfl rfl) rfl (fun _ => rfl) (by omega) ?_ | refine EL.fF (FV.leq rfl rfl) rfl (fun _ => rfl) (by omega) ?_)
         | (show EL _ _ _ _ (⟨_, .binOp .gtr _ _ _ _, _, _, _, _⟩ :: _) _ _; first | refine EL.fT (FV.gtr rfl rfl) rfl (fun _ => rfl) (by omega) ?_ | refine EL.fF (FV.gtr rfl rfl) rfl (fun _ => rfl) (by omega) ?_)
         | (show EL _ _ _ _ (⟨_, .binOp .geq _ _ _ _, _, _, _, _⟩ :: _) _ _; first | refine EL.fT (FV.geq rfl rfl) rfl (fun _ => rfl) (by omega) ?_ | refine EL.fF (FV.geq rfl rfl) rfl (fun _ => rfl) (by omega) ?_)
         | (show EL _ _ _ _ (⟨_, .binOp .eql _ _ _ _, _, _, _, _⟩ :: _) _ _; first | refine EL.fT (FV.eql rfl rfl) rfl (fun _ => rfl) (by omega) ?_ | refine EL.fF (FV.eql rfl rfl) rfl (fun _ => rfl) (by omega) ?_)
         | (show EL _ _ _ _ (⟨_, .binOp .neq _ _ _ _, _, _, _, _⟩ :: _) _ _; first | refine EL.fT (FV.neq rfl rfl) rfl (fun _ => rfl) (by omega) ?_ | refine EL.fF (FV.neq rfl rfl) rfl (fun _ => rfl) (by omega) ?_)
         | (show EL _ _ _ _ (⟨_, .indexAddr _ _ _, _, _, _, _⟩ :: _) _ _; first | refine EL.f (FV.idx0 rfl rfl rfl rfl (by omega) (by omega)) rfl rfl ?_ | refine EL.f (FV.idx1 rfl rfl rfl rfl (by omega) (by omega)) rfl rfl ?_)
         | (show EL _ _ _ _ (⟨_, .load _ _, _, _, _, _⟩ :: _) _ _; refine EL.f (FV.load1 rfl rfl rfl (by assumption)) rfl rfl ?_))
      | refine EL.nil ?_
      | refine EW.seq ?_
      | refine EW.region ?_
      | refine EW.block ?_
      | refine EW.skip ?_
      | refine EW.exit ?_
      | refine EW.ret ?_
      | refine EW.condT rfl ?_
      | refine EW.condF rfl ?_)
    exact ⟨_, rfl, _, rfl, by rw [any_none hno]; simp, hE⟩
theorem containsFuncF (f : FuncId) (p : Fu → Bool) (ks : List Fu) (A : Option Addr) (cap : Nat) (w : World) (h : FsB w 0 A ks)
    (hf : ∀ i, i < ks.length → ∀ cs w, FuB w 0 cs (ks.getD i dFu) → CallsR Try.prog f [.agg cs.toArray] w fun v w' => v = .bool (p (ks.getD i dFu)) ∧ Ext w w') :
    CallsR Try.prog 86 [.slice A ks.length cap, .func (.func f) #[] #[]] w fun v w' => v = .bool (ks.any p) ∧ Ext w w' := by
  refine CallsR.enter Try.func86 (by decide +kernel) rfl Try.ntmps86 rfl ?_
  repeat' (first
    | (show EL _ _ _ _ (_ :: _) _ _
       first
       | (show EL _ _ _ _ (⟨_, _, _, _, _, some _⟩ :: _) _ _; refine EL.skip rfl rfl ?_)
       | (show EL _ _ _ _ (⟨_, .move _, _, _, _, _⟩ :: _) _ _; refine EL.f (FV.move rfl) rfl rfl ?_)
       | (show EL _ _ _ _ (⟨_, .assign _, _, _, _, _⟩ :: _) _ _; refine EL.f (FV.assign rfl) rfl rfl ?_)
       | (show EL _ _ _ _ (⟨_, .binOp .add _ _ _ _, _, _, _, _⟩ :: _) _ _; refine EL.f (FV.addI rfl rfl (by omega)) rfl rfl ?_)
       | (show EL _ _ _ _ (⟨_, .binOp .sub _ _ _ _, _, _, _, _⟩ :: _) _ _; refine EL.f (FV.subI rfl rfl (by omega)) rfl rfl ?_)
       | (show EL _ _ _ _ (⟨_, .binOp .rem _ _ _ _, _, _, _, _⟩ :: _) _ _; first | refine EL.f (FV.remI rfl rfl (by decide) (by omega)) rfl rfl ?_ | refine EL.f (FV.rem rfl rfl (by decide)) rfl rfl ?_)
       | (show EL _ _ _ _ (⟨_, .binOp .quo _ _ _ _, _, _, _, _⟩ :: _) _ _; refine EL.f (FV.quoI rfl rfl (by decide) (by omega)) rfl rfl ?_)
       | (show EL _ _ _ _ (⟨_, .extract _ _, _, _, _, _⟩ :: _) _ _; refine EL.f (FV.extract rfl rfl) rfl rfl ?_)
       | (show EL _ _ _ _ (⟨_, .call _, _, _, _, _⟩ :: _) _ _; first | refine EL.f (FV.len rfl rfl) rfl rfl ?_ | refine EL.f (FV.lenS rfl rfl) rfl rfl ?_)
       | (show EL _ _ _ _ (⟨_, .unOp .not _ _, _, _, _, _⟩ :: _) _ _; refine EL.f (FV.not rfl) rfl rfl ?_)
       | (show EL _ _ _ _ (⟨_, .pick _ _ _, _, _, _, _⟩ :: _) _ _; first | refine EL.f (FV.pickT rfl rfl) rfl rfl ?_ | refine EL.f (FV.pickF rfl rfl) rfl rfl ?_)
       | (show EL _ _ _ _ (⟨_, .binOp .lss _ _ _ _, _, _, _, _⟩ :: _) _ _; first | refine EL.fT (FV.lss rfl rfl) rfl (fun _ => rfl) (by omega) ?_ | refine EL.fF (FV.lss rfl rfl) rfl (fun _ => rfl) (by omega) ?_)
       | (show EL _ _ _ _ (⟨_, .binOp .leq _ _ _ _, _, _, _, _⟩ :: _) _ _; first | refine EL.fT (FV.leq rfl rfl) rfl (fun _ => rfl) (by omega) ?_ | refine EL.fF (FV.leq rfl rfl) rfl (fun _ => rfl) (by omega) ?_)
       | (show EL _ _ _ _ (⟨_, .binOp .gtr _ _ _ _, _, _, _, _⟩ :: _) _ _; first | refine EL.fT (FV.gtr rfl rfl) rfl (fun _ => rfl) (by omega) ?_ | refine EL.fF (FV.gtr rfl rfl) rfl (fun _ => rfl) (by omega) ?_)
       | (show EL _ _ _ _ (⟨_, .binOp .geq _ _ _ _, _, _, _, _⟩ :: _) _ _; first | refine EL.fT (FV.geq rfl rfl) rfl (fun _ => rfl) (by omega) ?_ | refine EL.fF (FV.geq rfl rfl) rfl (fun _ => rfl) (by omega) ?_)
       | (show EL _ _ _ _ (⟨_, .binOp .eql _ _ _ _, _, _, _, _⟩ :: _) _ _; first | refine EL.fT (FV.eql rfl rfl) rfl (fun _ => rfl) (by omega) ?_ | refine EL.fF (FV.eql rfl rfl) rfl (fun _ => rfl) (by omega) ?_)
       | (show EL _ _ _ _ (⟨_, .binOp .neq _ _ _ _, _, _, _, _⟩ :: _) _ _; first | refine EL.fT (FV.neq rfl rfl) rfl (fun _ => rfl) (by omega) ?_ | refine EL.fF (FV.neq rfl rfl) rfl (fun _ => rfl) (by omega) ?_)
       | (show EL _ _ _ _ (⟨_, .indexAddr _ _ _, _, _, _, _⟩ :: _) _ _; first | refine EL.f (FV.idx0 rfl rfl rfl rfl (by omega) (by omega)) rfl rfl ?_ | refine EL.f (FV.idx1 rfl rfl rfl rfl (by omega) (by omega)) rfl rfl ?_)
       | (show EL _ _ _ _ (⟨_, .load _ _, _, _, _, _⟩ :: _) _ _; refine EL.f (FV.load1 rfl rfl rfl (by assumption)) rfl rfl ?_))
    | refine EL.nil ?_
    | refine EW.seq ?_
    | refine EW.region ?_
    | refine EW.block ?_
    | refine EW.skip ?_
    | refine EW.exit ?_
    | refine EW.ret ?_
    | refine EW.condT rfl ?_
    | refine EW.condF rfl ?_)
  refine EL.h (Hv.call (indexFuncF f p ks A cap w h hf) rfl) rfl (fun _ => rfl) ?_
  rintro _ w1 ⟨r, rfl, hr, he1⟩
  refine EL.f (FV.geq rfl rfl) rfl rfl ?_
  rw [hr]
  repeat' (first
    | (show EL _ _ _ _ (_ :: _) _ _
       first
       | (show EL _ _ _ _ (⟨_, _, _, _, _, some _⟩ :: _) _ _; refine EL.skip rfl rfl ?_)
       | (show EL _ _ _ _ (⟨_, .move _, _, _, _, _⟩ :: _) _ _; refine EL.f (FV.move rfl) rfl rfl ?_)
       | (show EL _ _ _ _ (⟨_, .assign _, _, _, _, _⟩ :: _) _ _; refine EL.f (FV.assign rfl) rfl rfl ?_)
       | (show EL _ _ _ _ (⟨_, .binOp .add _ _ _ _, _, _, _, _⟩ :: _) _ _; refine EL.f (FV.addI rfl rfl (by omega)) rfl rfl ?_)
       | (show EL _ _ _ _ (⟨_, .binOp .sub _ _ _ _, _, _, _, _⟩ :: _) _ _; refine EL.f (FV.subI rfl rfl (by omega)) rfl rfl ?_)
       | (show EL _ _ _ _ (⟨_, .binOp .rem _ _ _ _, _, _, _, _⟩ :: _) _ _; first | refine EL.f (FV.remI rfl rfl (by decide) (by omega)) rfl rfl ?_ | refine EL.f (FV.rem rfl rfl (by decide)) rfl rfl ?_)
       | (show EL _ _ _ _ (⟨_, .binOp .quo _ _ _ _, _, _, _, _⟩ :: _) _ _; refine EL.f (FV.quoI rfl rfl (by decide) (by omega)) rfl rfl ?_)
       | (show EL _ _ _ _ (⟨_, .extract _ _, _, _, _, _⟩ :: _) _ _; refine EL.f (FV.extract rfl rfl) rfl rfl ?_)
       | (show EL _ _ _ _ (⟨_, .call _, _, _, _, _⟩ :: _) _ _; first | refine EL.f (FV.len rfl rfl) rfl rfl ?_ | refine EL.f (FV.lenS rfl rfl) rfl rfl ?_)
       | (show EL _ _ _ _ (⟨_, .unOp .not _ _, _, _, _, _⟩ :: _) _ _; refine EL.f (FV.not rfl) rfl rfl ?_)
       | (show EL _ _ _ _ (⟨_, .pick _ _ _, _, _, _, _⟩ :: _) _ _; first | refine EL.f (FV.pickT rfl rfl) rfl rfl ?_ | refine EL.f (FV.pickF rfl rfl) rfl rfl ?_)
       | (show EL _ _ _ _ (⟨_, .binOp .lss _ _ _ _, _, _, _, _⟩ :: _) _ _; first | refine EL.fT (FV.lss rfl rfl) rfl (fun _ => rfl) (by omega) ?_ | refine EL.fF (FV.lss rfl rfl) rfl (fun _ => rfl) (by omega) ?_)
       | (show EL _ _ _ _ (⟨_, .binOp .leq _ _ _ _, _, _, _, _⟩ :: _) _ _; first | refine EL.fT (FV.leq rfl rfl) rfl (fun _ => rfl) (by omega) ?_ | refine EL.fF (FV.leq rfl rfl) rfl (fun _ => rfl) (by omega) ?_)
       | (show EL _ _ _ _ (⟨_, .binOp .gtr _ _ _ _, _, _, _, _⟩ :: _) _ _; first | refine EL.fT (FV.gtr rfl rfl) rfl (fun _ => rfl) (by omega) ?_ | refine EL.fF (FV.gtr rfl rfl) rfl (fun _ => rfl) (by omega) ?_)
       | (show EL _ _ _ _ (⟨_, .binOp .geq _ _ _ _, _, _, _, _⟩ :: _) _ _; first | refine EL.fT (FV.geq rfl rfl) rfl (fun _ => rfl) (by omega) ?_ | refine EL.fF (FV.geq rfl rfl) rfl (fun _ => rfl) (by omega) ?_)
       | (show EL _ _ _ _ (⟨_, .binOp .eql _ _ _ _, _, _, _, _⟩ :: _) _ _; first | refine EL.fT (FV.eql rfl rfl) rfl (fun _ => rfl) (by omega) ?_ | refine EL.fF (FV.eql rfl rfl) rfl (fun _ => rfl) (by omega) ?_)
       | (show EL _ _ _ _ (⟨_, .binOp .neq _ _ _ _, _, _, _, _⟩ :: _) _ _; first | refine EL.fT (FV.neq rfl rfl) rfl (fun _ => rfl) (by omega) ?_ | refine EL.fF (FV.neq rfl rfl) rfl (fun _ => rfl) (by omega) ?_)
       | (show EL _ _ _ _ (⟨_, .indexAddr _ _ _, _, _, _, _⟩ :: _) _ _; first | refine EL.f (FV.idx0 rfl rfl rfl rfl (by omega) (by omega)) rfl rfl ?_ | refine EL.f (FV.idx1 rfl rfl rfl rfl (by omega) (by omega)) rfl rfl ?_)
       | (show EL _ _ _ _ (⟨_, .load _ _, _, _, _, _⟩ :: _) _ _; refine EL.f (FV.load1 rfl rfl rfl (by assumption)) rfl rfl ?_))
    | refine EL.nil ?_
    | refine EW.seq ?_
    | refine EW.region ?_
    | refine EW.block ?_
    | refine EW.skip ?_
    | refine EW.exit ?_
    | refine EW.ret ?_
    | refine EW.condT rfl ?_
    | refine EW.condF rfl ?_)
  exact ⟨_, rfl, rfl, he1⟩
/-! the same with a captured variable -/
theorem indexFuncFc (f : FuncId) (c : Value) (p : Fu → Bool) (ks : List Fu) (A : Option Addr) (cap : Nat) (w : World) (h : FsB w 0 A ks)
    (hf : ∀ i, i < ks.length → ∀ cs u, Ext w u → FuB u 0 cs (ks.getD i dFu) → CallsR Try.prog f ([.agg cs.toArray] ++ [c]) u fun v w' => v = .bool (p (ks.getD i dFu)) ∧ Ext u w') :
    CallsR Try.prog 104 [.slice A ks.length cap, .func (.func f) #[] #[c]] w fun v w' => ∃ r : Int, v = .int .i64 r ∧ decide (0 ≤ r) = ks.any p ∧ Ext w w' := by
  have hr := h.1
  refine CallsR.enter Try.func104 (by decide +kernel) rfl Try.ntmps104 rfl ?_
  repeat' (first
    | (show EL _ _ _ _ (_ :: _) _ _
       first
       | (show EL _ _ _ _ (⟨_, _, _, _, _, some _⟩ :: _) _ _; refine EL.skip rfl rfl ?_)
       | (show EL _ _ _ _ (⟨_, .move _, _, _, _, _⟩ :: _) _ _; refine EL.f (FV.move rfl) rfl rfl ?_)
       | (show EL _ _ _ _ (⟨_, .assign _, _, _, _, _⟩ :: _) _ _; refine EL.f (FV.assign rfl) rfl rfl ?_)
       | (show EL _ _ _ _ (⟨_, .binOp .add _ _ _ _, _, _, _, _⟩ :: _) _ _; refine EL.f (FV.addI rfl rfl (by omega)) rfl rfl ?_)
       | (show EL _ _ _ _ (⟨_, .binOp .sub _ _ _ _, _, _, _, _⟩ :: _) _ _; refine EL.f (FV.subI rfl rfl (by omega)) rfl rfl ?_)
       | (show EL _ _ _ _ (⟨_, .binOp .rem _ _ _ _, _, _, _, _⟩ :: _) _ _; first | refine EL.f (FV.remI rfl rfl (by decide) (by omega)) rfl rfl ?_ | refine EL.f (FV.rem rfl rfl (by decide)) rfl rfl ?_)
       | (show EL _ _ _ _ (⟨_, .binOp .quo _ _ _ _, _, _, _, _⟩ :: _) _ _; refine EL.f (FV.quoI rfl rfl (by decide) (by omega)) rfl rfl ?_)
       | (show EL _ _ _ _ (⟨_, .extract _ _, _, _, _, _⟩ :: _) _ _; refine EL.f (FV.extract rfl rfl) rfl rfl ?_)
       | (show EL _ _ _ _ (⟨_, .call _, _, _, _, _⟩ :: _) _ _; first | refine EL.f (FV.len rfl rfl) rfl rfl ?_ | refine EL.f (FV.lenS rfl rfl) rfl rfl ?_)
       | (show EL _ _ _ _ (⟨_, .unOp .not _ _, _, _, _, _⟩ :: _) _ _; refine EL.f (FV.not rfl) rfl rfl ?_)
       | (show EL _ _ _ _ (⟨_, .pick _ _ _, _, _, _, _⟩ :: _) _ _; first | refine EL.f (FV.pickT rfl rfl) rfl rfl ?_ | refine EL.f (FV.pickF rfl rfl) rfl rfl ?_)
       | (show EL _ _ _ _ (⟨_, .binOp .lss _ _ _ _, _, _, _, _⟩ :: _) _ _; first | refine EL.fT (FV.lss rfl rfl) rfl (fun _ => rfl) (by omega) ?_ | refine EL.fF (FV.lss rfl rfl) rfl (fun _ => rfl) (by omega) ?_)
       | (show EL _ _ _ _ (⟨_, .binOp .leq _ _ _ _, _, _, _, _⟩ :: _) _ _; first | refine EL.fT (FV.leq rfl rfl) rfl (fun _ => rfl) (by omega) ?_ | refine EL.fF (FV.leq rfl rfl) rfl (fun _ => rfl) (by omega) ?_)
       | (show EL _ _ _ _ (⟨_, .binOp .gtr _ _ _ _, _, _, _, _⟩ :: _) _ _; first | refine EL.fT (FV.gtr rfl rfl) rfl (fun _ => rfl) (by omega) ?_ | refine EL.fF (FV.gtr rfl rfl) rfl (fun _ => rfl) (by omega) ?_)
       | (show EL _ _ _ _ (⟨_, .binOp .geq _ _ _ _, _, _, _, _⟩ :: _) _ _; first | refine EL.fT (FV.geq rfl rfl) rfl (fun _ => rfl) (by omega) ?_ | refine EL.fF (FV.geq rfl rfl) rfl (fun _ => rfl) (by omega) ?_)
       | (show EL _ _ _ _ (⟨_, .binOp .eql _ _ _ _, _, _, _, _⟩ :: _) _ _; first | refine EL.fT (FV.eql rfl rfl) rfl (fun _ => rfl) (by omega) ?_ | refine EL.fF (FV.eql rfl rfl) rfl (fun _ => rfl) (by omega) ?_)
       | (show EL _ _ _ _ (⟨_, .binOp .neq _ _ _ _, _, _, _, _⟩ :: _) _ _; first | refine EL.fT (FV.neq rfl rfl) rfl (fun _ => rfl) (by omega) ?_ | refine EL.fF (FV.neq rfl rfl) rfl (fun _ => rfl) (by omega) ?_)
       | (show EL _ _ _ _ (⟨_, .indexAddr _ _ _, _, _, _, _⟩ :: _) _ _; first | refine EL.f (FV.idx0 rfl rfl rfl rfl (by omega) (by omega)) rfl rfl ?_ | refine EL.f (FV.idx1 rfl rfl rfl rfl (by omega) (by omega)) rfl rfl ?_)
       | (show EL _ _ _ _ (⟨_, .load _ _, _, _, _, _⟩ :: _) _ _; refine EL.f (FV.load1 rfl rfl rfl (by assumption)) rfl rfl ?_))
    | refine EL.nil ?_
    | refine EW.seq ?_
    | refine EW.region ?_
    | refine EW.block ?_
    | refine EW.skip ?_
    | refine EW.exit ?_
    | refine EW.ret ?_
    | refine EW.condT rfl ?_
    | refine EW.condF rfl ?_)
  refine EW.loop (X := Nat) (fun i wr => i ≤ ks.length ∧ (∀ j, j < i → p (ks.getD j dFu) = false) ∧ Ext w wr) (fun i => [(0, .slice A ks.length cap), (1, .func (.func f) #[] #[c]), (7, .int .i64 ks.length), (8, .int .i64 i)]) (fun i => ks.length - i) 0 ⟨Nat.zero_le _, fun j hj => by omega, Ext.refl _⟩ ⟨rfl, rfl, rfl, rfl, trivial⟩ ?_
  rintro i wr ⟨hi, hno, hE⟩
  by_cases hlt : i < ks.length
  · obtain ⟨b, o, cs, rfl, hL, hX, hc⟩ := (h.ext hE).kid hlt
    have hcall := hf i hlt cs wr hE hX
    repeat' (first
      | (show EL _ _ _ _ (_ :: _) _ _
         first
         | (show EL _ _ _ _ (⟨_, _, _, _, _, some _⟩ :: _) _ _; refine EL.skip rfl rfl ?_)
         | (show EL _ _ _ _ (⟨_, .indexAddr _ _ _, _, _, _, _⟩ :: _) _ _; first | refine EL.f (FV.idx rfl rfl rfl rfl (by omega) (by omega)) rfl rfl ?_ | refine EL.f (FV.idx0 rfl rfl rfl rfl (by omega) (by omega)) rfl rfl ?_ | refine EL.f (FV.idx1 rfl rfl rfl rfl (by omega) (by omega)) rfl rfl ?_)
         | (show EL _ _ _ _ (⟨_, .load _ _, _, _, _, _⟩ :: _) _ _; first | refine EL.f (FV.loadAgg (cs := cs) rfl rfl rfl hc rfl (fun _ e => e ▸ hL)) rfl rfl ?_ | refine EL.f (FV.load1 rfl rfl rfl (by assumption)) rfl rfl ?_)
         | (show EL _ _ _ _ (⟨_, .move _, _, _, _, _⟩ :: _) _ _; refine EL.f (FV.move rfl) rfl rfl ?_)
         | (show EL _ _ _ _ (⟨_, .assign _, _, _, _, _⟩ :: _) _ _; refine EL.f (FV.assign rfl) rfl rfl ?_)
         | (show EL _ _ _ _ (⟨_, .binOp .add _ _ _ _, _, _, _, _⟩ :: _) _ _; refine EL.f (FV.addI rfl rfl (by omega)) rfl rfl ?_)
         | (show EL _ _ _ _ (⟨_, .binOp .sub _ _ _ _, _, _, _, _⟩ :: _) _ _; refine EL.f (FV.subI rfl rfl (by omega)) rfl rfl ?_)
         | (show EL _ _ _ _ (⟨_, .binOp .rem _ _ _ _, _, _, _, _⟩ :: _) _ _; first | refine EL.f (FV.remI rfl rfl (by decide) (by omega)) rfl rfl ?_ | refine EL.f (FV.rem rfl rfl (by decide)) rfl rfl ?_)
         | (show EL _ _ _ _ (⟨_, .binOp .quo _ _ _ _, _, _, _, _⟩ :: _) _ _; refine EL.f (FV.quoI rfl rfl (by decide) (by omega)) rfl rfl ?_)
         | (show EL _ _ _ _ (⟨_, .extract _ _, _, _, _, _⟩ :: _) _ _; refine EL.f (FV.extract rfl rfl) rfl rfl ?_)
         | (show EL _ _ _ _ (⟨_, .call _, _, _, _, _⟩ :: _) _ _; first | refine EL.f (FV.len rfl rfl) rfl rfl ?_ | refine EL.f (FV.lenS rfl rfl) rfl rfl ?_)
         | (show EL _ _ _ _ (⟨_, .unOp .not _ _, _, _, _, _⟩ :: _) _ _; refine EL.f (FV.not rfl) rfl rfl ?_)
         | (show EL _ _ _ _ (⟨_, .pick _ _ _, _, _, _, _⟩ :: _) _ _; first | refine EL.f (FV.pickT rfl rfl) rfl rfl ?_ | refine EL.f (FV.pickF rfl rfl) rfl rfl ?_)
         | (show EL _ _ _ _ (⟨_, .binOp .lss _ _ _ _, _, _, _, _⟩ :: _) _ _; first | refine EL.fT (FV.lss rfl rfl) rfl (fun _ => rfl) (by omega) ?_ | refine EL.fF (FV.lss rfl rfl) rfl (fun _ => rfl) (by omega) ?_)
         | (show EL _ _ _ _ (⟨_, .binOp .leq _ _ _ _, _, _, _, _⟩ :: _) _ _; first | refine EL.fT (FV.leq rfl rfl) rfl (fun _ => rfl) (by omega) ?_ | refine EL.fF (FV.leq rfl rfl) rfl (fun _ => rfl) (by omega) ?_)
         | (show EL _ _ _ _ (⟨_, .binOp .gtr _ _ _ _, _, _, _, _⟩ :: _) _ _; first | refine EL.fT (FV.gtr rfl rfl) rfl (fun _ => rfl) (by omega) ?_ | refine EL.fF (FV.gtr rfl rfl) rfl (fun _ => rfl) (by omega) ?_)
         | (show EL _ _ _ _ (⟨_, .binOp .geq _ _ _ _, _, _, _, _⟩ :: _) _ _; first | refine EL.fT (FV.geq rfl rfl) rfl (fun _ => rfl) (by omega) ?_ | refine EL.fF (FV.geq rfl rfl) rfl (fun _ => rfl) (by omega) ?_)
         | (show EL _ _ _ _ (⟨_, .binOp .eql _ _ _ _, _, _, _, _⟩ :: _) _ _; first | refine EL.fT (FV.eql rfl rfl) rfl (fun _ => rfl) (by omega) ?_ | refine EL.fF (FV.eql rfl rfl) rfl (fun _ => rfl) (by omega) ?_)
         | (show EL _ _ _ _ (⟨_, .binOp .neq _ _ _ _, _, _, _, _⟩ :: _) _ _; first | refine EL.fT (FV.neq rfl rfl) rfl (fun _ => rfl) (by omega) ?_ | refine EL.fF (FV.neq rfl rfl) rfl (fun _ => rfl) (by omega) ?_))
      | refine EL.nil ?_
      | refine EW.seq ?_
      | refine EW.region ?_
      | refine EW.block ?_
      | refine EW.skip ?_
      | refine EW.exit ?_
      | refine EW.ret ?_
      | refine EW.condT rfl ?_
      | refine EW.condF rfl ?_)
    refine EL.h (Hv.callC (vs := [.agg cs.toArray]) hcall rfl rfl) rfl (fun _ => rfl) ?_
    rintro _ w1 ⟨rfl, he1⟩
    cases hp : p (ks.getD i dFu)
    · repeat' (first
        | (show EL _ _ _ _ (_ :: _) _ _
           first
           | (show EL _ _ _ _ (⟨_, _, _, _, _, some _⟩ :: _) _ _; refine EL.skip rfl rfl ?_)
           | (show EL _ _ _ _ (⟨_, .move _, _, _, _, _⟩ :: _) _ _; refine EL.f (FV.move rfl) rfl rfl ?_)
           | (show EL _ _ _ _ (⟨_, .assign _, _, _, _, _⟩ :: _) _ _; refine EL.f (FV.assign rfl) rfl rfl ?_)
           | (show EL _ _ _ _ (⟨_, .binOp .add _ _ _ _, _, _, _, _⟩ :: _) _ _; refine EL.f (FV.addI rfl rfl (by omega)) rfl rfl ?_)
           | (show EL _ _ _ _ (⟨_, .binOp .sub _ _ _ _, _, _, _, _⟩ :: _) _ _; refine EL.f (FV.subI rfl rfl (by omega)) rfl rfl ?_)
           | (show EL _ _ _ _ (⟨_, .binOp .rem _ _ _ _, _, _, _, _⟩ :: _) _ _; first | refine EL.f (FV.remI rfl rfl (by decide) (by omega)) rfl rfl ?_ | refine EL.f (FV.rem rfl rfl (by decide)) rfl rfl ?_)
           | (show EL _ _ _ _ (⟨_, .binOp .quo _ _ _ _, _, _, _, _⟩ :: _) _ _; refine EL.f (FV.quoI rfl rfl (by decide) (by omega)) rfl rfl ?_)
           | (show EL _ _ _ _ (⟨_, .extract _ _, _, _, _, _⟩ :: _) _ _; refine EL.f (FV.extract rfl rfl) rfl rfl ?_)
           | (show EL _ _ _ _ (⟨_, .call _, _, _, _, _⟩ :: _) _ _; first | refine EL.f (FV.len rfl rfl) rfl rfl ?_ | refine EL.f (FV.lenS rfl rfl) rfl rfl ?_)
           | (show EL _ _ _ _ (⟨_, .unOp .not _ _, _, _, _, _⟩ :: _) _ _; refine EL.f (FV.not rfl) rfl rfl ?_)
           | (show EL _ _ _ _ (⟨_, .pick _ _ _, _, _, _, _⟩ :: _) _ _; first | refine EL.f (FV.pickT rfl rfl) rfl rfl ?_ | refine EL.f (FV.pickF rfl rfl) rfl rfl ?_)
           | (show EL _ _ _ _ (⟨_, .binOp .lss _ _ _ _, _, _, _, _⟩ :: _) _ _; first | refine EL.fT (FV.lss rfl rfl) rfl (fun _ => rfl) (by omega) ?_ | refine EL.fF (FV.lss rfl rfl) rfl (fun _ => rfl) (by omega) ?_)
           | (show EL _ _ _ _ (⟨_, .binOp .leq _ _ _ _, _, _, _, _⟩ :: _) _ _; first | refine EL.fT (FV.leq rfl rfl) rfl (fun _ => rfl) (by omega) ?_ | refine EL.fF (FV.leq rfl rfl) rfl (fun _ => rfl) (by omega) ?_)
           | (show EL _ _ _ _ (⟨_, .binOp .gtr _ _ _ _, _, _, _, _⟩ :: _) _ _; first | refine EL.fT (FV.gtr rfl rfl) rfl (fun _ => rfl) (by omega) ?_ | refine EL.fF (FV.gtr rfl rfl) rfl (fun _ => rfl) (by omega) ?_)
           | (show EL _ _ _ _ (⟨_, .binOp .geq _ _ _ _, _, _, _, _⟩ :: _) _ _; first | refine EL.fT (FV.geq rfl rfl) rfl (fun _ => rfl) (by omega) ?_ | refine EL.fF (FV.geq rfl rfl) rfl (fun _ => rfl) (by omega) ?_)
           | (show EL _ _ _ _ (⟨_, .binOp .eql _ _ _ _, _, _, _, _⟩ :: _) _ _; first | refine EL.fT (FV.eql rfl rfl) rfl (fun _ => rfl) (by omega) ?_ | refine EL.fF (FV.eql rfl rfl) rfl (fun _ => rfl) (by omega) ?_)
           | (show EL _ _ _ _ (⟨_, .binOp .neq _ _ _ _, _, _, _, _⟩ :: _) _ _; first | refine EL.fT (FV.neq rfl rfl) rfl (fun _ => rfl) (by omega) ?_ | refine EL.fF (FV.neq rfl rfl) rfl (fun _ => rfl) (by omega) ?_)
           | (show EL _ _ _ _ (⟨_, .indexAddr _ _ _, _, _, _, _⟩ :: _) _ _; first | refine EL.f (FV.idx0 rfl rfl rfl rfl (by omega) (by omega)) rfl rfl ?_ | refine EL.f (FV.idx1 rfl rfl rfl rfl (by omega) (by omega)) rfl rfl ?_)
           | (show EL _ _ _ _ (⟨_, .load _ _, _, _, _, _⟩ :: _) _ _; refine EL.f (FV.load1 rfl rfl rfl (by assumption)) rfl rfl ?_))
        | refine EL.nil ?_
        | refine EW.seq ?_
        | refine EW.region ?_
        | refine EW.block ?_
        | refine EW.skip ?_
        | refine EW.exit ?_
        | refine EW.ret ?_
        | refine EW.condT rfl ?_
        | refine EW.condF rfl ?_)
      exact ⟨i + 1, ⟨rfl, rfl, rfl, rfl, trivial⟩, ⟨by omega, fun j hj => by
        by_cases e : j = i
        · subst e; exact hp
        · exact hno j (by omega), hE.trans he1⟩, by omega⟩
    · repeat' (first
        | (show EL _ _ _ _ (_ :: _) _ _
           first
           | (show EL _ _ _ _ (⟨_, _, _, _, _, some _⟩ :: _) _ _; refine EL.skip rfl rfl ?_)
           | (show EL _ _ _ _ (⟨_, .move _, _, _, _, _⟩ :: _) _ _; refine EL.f (FV.move rfl) rfl rfl ?_)
           | (show EL _ _ _ _ (⟨_, .assign _, _, _, _, _⟩ :: _) _ _; refine EL.f (FV.assign rfl) rfl rfl ?_)
           | (show EL _ _ _ _ (⟨_, .binOp .add _ _ _ _, _, _, _, _⟩ :: _) _ _; refine EL.f (FV.addI rfl rfl (by omega)) rfl rfl ?_)
           | (show EL _ _ _ _ (⟨_, .binOp .sub _ _ _ _, _, _, _, _⟩ :: _) _ _; refine EL.f (FV.subI rfl rfl (by omega)) rfl rfl ?_)
           | (show EL _ _ _ _ (⟨_, .binOp .rem _ _ _ _, _, _, _, _⟩ :: _) _ _; first | refine EL.f (FV.remI rfl rfl (by decide) (by omega)) rfl rfl ?_ | refine EL.f (FV.rem rfl rfl (by decide)) rfl rfl ?_)
           | (show EL _ _ _ _ (⟨_, .binOp .quo _ _ _ _, _, _, _, _⟩ :: _) _ _; refine EL.f (FV.quoI rfl rfl (by decide) (by omega)) rfl rfl ?_)
           | (show EL _ _ _ _ (⟨_, .extract _ _, _, _, _, _⟩ :: _) _ _; refine EL.f (FV.extract rfl rfl) rfl rfl ?_)
           | (show EL _ _ _ _ (⟨_, .call _, _, _, _, _⟩ :: _) _ _; first | refine EL.f (FV.len rfl rfl) rfl rfl ?_ | refine EL.f (FV.lenS rfl rfl) rfl rfl ?_)
           | (show EL _ _ _ _ (⟨_, .unOp .not _ _, _, _, _, _⟩ :: _) _ _; refine EL.f (FV.not rfl) rfl rfl ?_)
           | (show EL _ _ _ _ (⟨_, .pick _ _ _, _, _, _, _⟩ :: _) _ _; first | refine EL.f (FV.pickT rfl rfl) rfl rfl ?_ | refine EL.f (FV.pickF rfl rfl) rfl rfl ?_)
           | (show EL _ _ _ _ (⟨_, .binOp .lss _ _ _ _, _, _, _, _⟩ :: _) _ _; first | refine EL.fT (FV.lss rfl rfl) rfl (fun _ => rfl) (by omega) ?_ | refine EL.fF (FV.lss rfl rfl) rfl (fun _ => rfl) (by omega) ?_)
           | (show EL _ _ _ _ (⟨_, .binOp .leq _ _ _ _, _, _, _, _⟩ :: _) _ _; first | refine EL.fT (FV.leq rfl rfl) rfl (fun _ => rfl) (by omega) ?_ | refine EL.fF (FV.leq rfl rfl) rfl (fun _ => rfl) (by omega) ?_)
           | (show EL _ _ _ _ (⟨_, .binOp .gtr _ _ _ _, _, _, _, _⟩ :: _) _ _; first | refine EL.fT (FV.gtr rfl rfl) rfl (fun _ => rfl) (by omega) ?_ | refine EL.fF (FV.gtr rfl rfl) rfl (fun _ => rfl) (by omega) ?_)
           | (show EL _ _ _ _ (⟨_, .binOp .geq _ _ _ _, _, _, _, _⟩ :: _) _ _; first | refine EL.fT (FV.geq rfl rfl) rfl (fun _ => rfl) (by omega) ?_ | refine EL.fF (FV.geq rfl rfl) rfl (fun _ => rfl) (by omega) ?_)
           | (show EL _ _ _ _ (⟨_, .binOp .eql _ _ _ _, _, _, _, _⟩ :: _) _ _; first | refine EL.fT (FV.eql rfl rfl) rfl (fun _ => rfl) (by omega) ?_ | refine EL.fF (FV.eql rfl rfl) rfl (fun _ => rfl) (by omega) ?_)
           | (show EL _ _ _ _ (⟨_, .binOp .neq _ _ _ _, _, _, _, _⟩ :: _) _ _; first | refine EL.fT (FV.neq rfl rfl) rfl (fun _ => rfl) (by omega) ?_ | refine EL.fF (FV.neq rfl rfl) rfl (fun _ => rfl) (by omega) ?_)
           | (show EL _ _ _ _ (⟨_, .indexAddr _ _ _, _, _, _, _⟩ :: _) _ _; first | refine EL.f (FV.idx0 rfl rfl rfl rfl (by omega) (by omega)) rfl rfl ?_ | refine EL.f (FV.idx1 rfl rfl rfl rfl (by omega) (by omega)) rfl rfl ?_)
           | (show EL _ _ _ _ (⟨_, .load _ _, _, _, _, _⟩ :: _) _ _; refine EL.f (FV.load1 rfl rfl rfl (by assumption)) rfl rfl ?_))
        | refine EL.nil ?_
        | refine EW.seq ?_
        | refine EW.region ?_
        | refine EW.block ?_
        | refine EW.skip ?_
        | refine EW.exit ?_
        | refine EW.ret ?_
        | refine EW.condT rfl ?_
        | refine EW.condF rfl ?_)
      exact ⟨_, rfl, _, rfl, by rw [any_some hlt hp]; simp, hE.trans he1⟩
  · obtain rfl : i = ks.length := by omega
    repeat' (first
      | (show EL _ _ _ _ (_ :: _) _ _
         first
         | (show EL _ _ _ _ (⟨_, _, _, _, _, some _⟩ :: _) _ _; refine EL.skip rfl rfl ?_)
         | (show EL _ _ _ _ (⟨_, .move _, _, _, _, _⟩ :: _) _ _; refine EL.f (FV.move rfl) rfl rfl ?_)
         | (show EL _ _ _ _ (⟨_, .assign _, _, _, _, _⟩ :: _) _ _; refine EL.f (FV.assign rfl) rfl rfl ?_)
         | (show EL _ _ _ _ (⟨_, .binOp .add _ _ _ _, _, _, _, _⟩ :: _) _ _; refine EL.f (FV.addI rfl rfl (by omega)) rfl rfl ?_)
         | (show EL _ _ _ _ (⟨_, .binOp .sub _ _ _ _, _, _, _, _⟩ :: _) _ _; refine EL.f (FV.subI rfl rfl (by omega)) rfl rfl ?_)
         | (show EL _ _ _ _ (⟨_, .binOp .rem _ _ _ _, _, _, _, _⟩ :: _) _ _; first | refine EL.f (FV.remI rfl rfl (by decide) (by omega)) rfl rfl ?_ | refine EL.f (FV.rem rfl rfl (by decide)) rfl rfl ?_)
         | (show EL _ _ _ _ (⟨_, .binOp .quo _ _ _ _, _, _, _, _⟩ :: _) _ _; refine EL.f (FV.quoI rfl rfl (by decide) (by omega)) rfl rfl ?_)
         | (show EL _ _ _ _ (⟨_, .extract _ _, _, _, _, _⟩ :: _) _ _; refine EL.f (FV.extract rfl rfl) rfl rfl ?_)
         | (show EL _ _ _ _ (⟨_, .call _, _, _, _, _⟩ :: _) _ _; first | refine EL.f (FV.len rfl rfl) rfl rfl ?_ | refine EL.f (FV.lenS rfl rfl) rfl rfl ?_)
         | (show EL _ _ _ _ (⟨_, .unOp .not _ _, _, _, _, _⟩ :: _) _ _; refine EL.f (FV.not rfl) rfl rfl ?_)
         | (show EL _ _ _ _ (⟨_, .pick _ _ _, _, _, _, _⟩ :: _) _ _; first | refine EL.f (FV.pickT rfl rfl) rfl rfl ?_ | refine EL.f (FV.pickF rfl rfl) rfl rfl ?_)
         | (show EL _ _ _ _ (⟨_, .binOp .lss _ _ _ _, _, _, _, _⟩ :: _) _ _; first | refine EL.fT (FV.lss rfl rfl) rfl (fun _ => rfl) (by omega) ?_ | refine EL.fF (FV.lss rfl rfl) rfl (fun _ => rfl) (by omega) ?_)
         | (show EL _ _ _ _ (⟨_, .binOp .leq _ _ _ _, _, _, _, _⟩ :: _) _ _; first | refine EL.fT (FV.leq rfl rfl) rfl (fun _ => rfl) (by omega) ?_ | refine EL.fF (FV.leq rfl rfl) rfl (fun _ => rfl) (by omega) ?_)
         | (show EL _ _ _ _ (⟨_, .binOp .gtr _ _ _ _, _, _, _, _⟩ :: _) _ _; first | refine EL.fT (FV.gtr rfl rfl) rfl (fun _ => rfl) (by omega) ?_ | refine EL.fF (FV.gtr rfl rfl) rfl (fun _ => rfl) (by omega) ?_)
         | (show EL _ _ _ _ (⟨_, .binOp .geq _ _ _ _, _, _, _, _⟩ :: _) _ _; first | refine EL.fT (FV.geq rfl rfl) rfl (fun _ => rfl) (by omega) ?_ | refine EL.fF (FV.geq rfl rfl) rfl (fun _ => rfl) (by omega) ?_)
         | (show EL _ _ _ _ (⟨_, .binOp .eql _ _ _ _, _, _, _, _⟩ :: _) _ _; first | refine EL.fT (FV.eql rfl rfl) rfl (fun _ => rfl) (by omega) ?_ | refine EL.fF (FV.eql rfl rfl) rfl (fun _ => rfl) (by omega) ?_)
         | (show EL _ _ _ _ (⟨_, .binOp .neq _ _ _ _, _, _, _, _⟩ :: _) _ _; first | refine EL.fT (FV.neq rfl rfl) rfl (fun _ => rfl) (by omega) ?_ | refine EL.fF (FV.neq rfl rfl) rfl (fun _ => rfl) (by omega) ?_)
         | (show EL _ _ _ _ (⟨_, .indexAddr _ _ _, _, _, _, _⟩ :: _) _ _; first | refine EL.f (FV.idx0 rfl rfl rfl rfl (by omega) (by omega)) rfl rfl ?_ | refine EL.f (FV.idx1 rfl rfl rfl rfl (by omega) (by omega)) rfl rfl ?_)
         | (show EL _ _ _ _ (⟨_, .load _ _, _, _, _, _⟩ :: _) _ _; refine EL.f (FV.load1 rfl rfl rfl (by assumption)) rfl rfl ?_))
      | refine EL.nil ?_
      | refine EW.seq ?_
      | refine EW.region ?_
      | refine EW.block ?_
      | refine EW.skip ?_
      | refine EW.exit ?_
      | refine EW.ret ?_
      | refine EW.condT rfl ?_
      | refine EW.condF rfl ?_)
    exact ⟨_, rfl, _, rfl, by rw [any_none hno]; simp, hE⟩
theorem containsFuncFc (f : FuncId) (c : Value) (p : Fu → Bool) (ks : List Fu) (A : Option Addr) (cap : Nat) (w : World) (h : FsB w 0 A ks)
    (hf : ∀ i, i < ks.length → ∀ cs u, Ext w u → FuB u 0 cs (ks.getD i dFu) → CallsR Try.prog f ([.agg cs.toArray] ++ [c]) u fun v w' => v = .bool (p (ks.getD i dFu)) ∧ Ext u w') :
    CallsR Try.prog 86 [.slice A ks.length cap, .func (.func f) #[] #[c]] w fun v w' => v = .bool (ks.any p) ∧ Ext w w' := by
  refine CallsR.enter Try.func86 (by decide +kernel) rfl Try.ntmps86 rfl ?_
  repeat' (first
    | (show EL _ _ _ _ (_ :: _) _ _
       first
       | (show EL _ _ _ _ (⟨_, _, _, _, _, some _⟩ :: _) _ _; refine EL.skip rfl rfl ?_)
       | (show EL _ _ _ _ (⟨_, .move _, _, _, _, _⟩ :: _) _ _; refine EL.f (FV.move rfl) rfl rfl ?_)
       | (show EL _ _ _ _ (⟨_, .assign _, _, _, _, _⟩ :: _) _ _; refine EL.f (FV.assign rfl) rfl rfl ?_)
       | (show EL _ _ _ _ (⟨_, .binOp .add _ _ _ _, _, _, _, _⟩ :: _) _ _; refine EL.f (FV.addI rfl rfl (by omega)) rfl rfl ?_)
       | (show EL _ _ _ _ (⟨_, .binOp .sub _ _ _ _, _, _, _, _⟩ :: _) _ _; refine EL.f (FV.subI rfl rfl (by omega)) rfl rfl ?_)
       | (show EL _ _ _ _ (⟨_, .binOp .rem _ _ _ _, _, _, _, _⟩ :: _) _ _; first | refine EL.f (FV.remI rfl rfl (by decide) (by omega)) rfl rfl ?_ | refine EL.f (FV.rem rfl rfl (by decide)) rfl rfl ?_)
       | (show EL _ _ _ _ (⟨_, .binOp .quo _ _ _ _, _, _, _, _⟩ :: _) _ _; refine EL.f (FV.quoI rfl rfl (by decide) (by omega)) rfl rfl ?_)
       | (show EL _ _ _ _ (⟨_, .extract _ _, _, _, _, _⟩ :: _) _ _; refine EL.f (FV.extract rfl rfl) rfl rfl ?_)
       | (show EL _ _ _ _ (⟨_, .call _, _, _, _, _⟩ :: _) _ _; first | refine EL.f (FV.len rfl rfl) rfl rfl ?_ | refine EL.f (FV.lenS rfl rfl) rfl rfl ?_)
       | (show EL _ _ _ _ (⟨_, .unOp .not _ _, _, _, _, _⟩ :: _) _ _; refine EL.f (FV.not rfl) rfl rfl ?_)
       | (show EL _ _ _ _ (⟨_, .pick _ _ _, _, _, _, _⟩ :: _) _ _; first | refine EL.f (FV.pickT rfl rfl) rfl rfl ?_ | refine EL.f (FV.pickF rfl rfl) rfl rfl ?_)
       | (show EL _ _ _ _ (⟨_, .binOp .lss _ _ _ _, _, _, _, _⟩ :: _) _ _; first | refine EL.fT (FV.lss rfl rfl) rfl (fun _ => rfl) (by omega) ?_ | refine EL.fF (FV.lss rfl rfl) rfl (fun _ => rfl) (by omega) ?_)
       | (show EL _ _ _ _ (⟨_, .binOp .leq _ _ _ _, _, _, _, _⟩ :: _) _ _; first | refine EL.fT (FV.leq rfl rfl) rfl (fun _ => rfl) (by omega) ?_ | refine EL.fF (FV.leq rfl rfl) rfl (fun _ => rfl) (by omega) ?_)
       | (show EL _ _ _ _ (⟨_, .binOp .gtr _ _ _ _, _, _, _, _⟩ :: _) _ _; first | refine EL.fT (FV.gtr rfl rfl) rfl (fun _ => rfl) (by omega) ?_ | refine EL.fF (FV.gtr rfl rfl) rfl (fun _ => rfl) (by omega) ?_)
       | (show EL _ _ _ _ (⟨_, .binOp .geq _ _ _ _, _, _, _, _⟩ :: _) _ _; first | refine EL.fT (FV.geq rfl rfl) rfl (fun _ => rfl) (by omega) ?_ | refine EL.fF (FV.geq rfl rfl) rfl (fun _ => rfl) (by omega) ?_)
       | (show EL _ _ _ _ (⟨_, .binOp .eql _ _ _ _, _, _, _, _⟩ :: _) _ _; first | refine EL.fT (FV.eql rfl rfl) rfl (fun _ => rfl) (by omega) ?_ | refine EL.fF (FV.eql rfl rfl) rfl (fun _ => rfl) (by omega) ?_)
       | (show EL _ _ _ _ (⟨_, .binOp .neq _ _ _ _, _, _, _, _⟩ :: _) _ _; first | refine EL.fT (FV.neq rfl rfl) rfl (fun _ => rfl) (by omega) ?_ | refine EL.fF (FV.neq rfl rfl) rfl (fun _ => rfl) (by omega) ?_)
       | (show EL _ _ _ _ (⟨_, .indexAddr _ _ _, _, _, _, _⟩ :: _) _ _; first | refine EL.f (FV.idx0 rfl rfl rfl rfl (by omega) (by omega)) rfl rfl ?_ | refine EL.f (FV.idx1 rfl rfl rfl rfl (by omega) (by omega)) rfl rfl ?_)
       | (show EL _ _ _ _ (⟨_, .load _ _, _, _, _, _⟩ :: _) _ _; refine EL.f (FV.load1 rfl rfl rfl (by assumption)) rfl rfl ?_))
    | refine EL.nil ?_
    | refine EW.seq ?_
    | refine EW.region ?_
    | refine EW.block ?_
    | refine EW.skip ?_
    | refine EW.exit ?_
    | refine EW.ret ?_
    | refine EW.condT rfl ?_
    | refine EW.condF rfl ?_)
  refine EL.h (Hv.call (indexFuncFc f c p ks A cap w h hf) rfl) rfl (fun _ => rfl) ?_
  rintro _ w1 ⟨r, rfl, hr, he1⟩
  refine EL.f (FV.geq rfl rfl) rfl rfl ?_
  rw [hr]
  repeat' (first
    | (show EL _ _ _ _ (_ :: _) _ _
       first
       | (show EL _ _ _ _ (⟨_, _, _, _, _, some _⟩ :: _) _ _; refine EL.skip rfl rfl ?_)
       | (show EL _ _ _ _ (⟨_, .move _, _, _, _, _⟩ :: _) _ _; refine EL.f (FV.move rfl) rfl rfl ?_)
       | (show EL _ _ _ _ (⟨_, .assign _, _, _, _, _⟩ :: _) _ _; refine EL.f (FV.assign rfl) rfl rfl ?_)
       | (show EL _ _ _ _ (⟨_, .binOp .add _ _ _ _, _, _, _, _⟩ :: _) _ _; refine EL.f (FV.addI rfl rfl (by omega)) rfl rfl ?_)
       | (show EL _ _ _ _ (⟨_, .binOp .sub _ _ _ _, _, _, _, _⟩ :: _) _ _; refine EL.f (FV.subI rfl rfl (by omega)) rfl rfl ?_)
       | (show EL _ _ _ _ (⟨_, .binOp .rem _ _ _ _, _, _, _, _⟩ :: _) _ _; first | refine EL.f (FV.remI rfl rfl (by decide) (by omega)) rfl rfl ?_ | refine EL.f (FV.rem rfl rfl (by decide)) rfl rfl ?_)
       | (show EL _ _ _ _ (⟨_, .binOp .quo _ _ _ _, _, _, _, _⟩ :: _) _ _; refine EL.f (FV.quoI rfl rfl (by decide) (by omega)) rfl rfl ?_)
       | (show EL _ _ _ _ (⟨_, .extract _ _, _, _, _, _⟩ :: _) _ _; refine EL.f (FV.extract rfl rfl) rfl rfl ?_)
       | (show EL _ _ _ _ (⟨_, .call _, _, _, _, _⟩ :: _) _ _; first | refine EL.f (FV.len rfl rfl) rfl rfl ?_ | refine EL.f (FV.lenS rfl rfl) rfl rfl ?_)
       | (show EL _ _ _ _ (⟨_, .unOp .not _ _, _, _, _, _⟩ :: _) _ _; refine EL.f (FV.not rfl) rfl rfl ?_)
       | (show EL _ _ _ _ (⟨_, .pick _ _ _, _, _, _, _⟩ :: _) _ _; first | refine EL.f (FV.pickT rfl rfl) rfl rfl ?_ | refine EL.f (FV.pickF rfl rfl) rfl rfl ?_)
       | (show EL _ _ _ _ (⟨_, .binOp .lss _ _ _ _, _, _, _, _⟩ :: _) _ _; first | refine EL.fT (FV.lss rfl rfl) rfl (fun _ => rfl) (by omega) ?_ | refine EL.fF (FV.lss rfl rfl) rfl (fun _ => rfl) (by omega) ?_)
       | (show EL _ _ _ _ (⟨_, .binOp .leq _ _ _ _, _, _, _, _⟩ :: _) _ _; first | refine EL.fT (FV.leq rfl rfl) rfl (fun _ => rfl) (by omega) ?_ | refine EL.fF (FV.leq rfl rfl) rfl (fun _ => rfl) (by omega) ?_)
       | (show EL _ _ _ _ (⟨_, .binOp .gtr _ _ _ _, _, _, _, _⟩ :: _) _ _; first | refine EL.fT (FV.gtr rfl rfl) rfl (fun _ => rfl) (by omega) ?_ | refine EL.fF (FV.gtr rfl rfl) rfl (fun _ => rfl) (by omega) ?_)
       | (show EL _ _ _ _ (⟨_, .binOp .geq _ _ _ _, _, _, _, _⟩ :: _) _ _; first | refine EL.fT (FV.geq rfl rfl) rfl (fun _ => rfl) (by omega) ?_ | refine EL.fF (FV.geq rfl rfl) rfl (fun _ => rfl) (by omega) ?_)
       | (show EL _ _ _ _ (⟨_, .binOp .eql _ _ _ _, _, _, _, _⟩ :: _) _ _; first | refine EL.fT (FV.eql rfl rfl) rfl (fun _ => rfl) (by omega) ?_ | refine EL.fF (FV.eql rfl rfl) rfl (fun _ => rfl) (by omega) ?_)
       | (show EL _ _ _ _ (⟨_, .binOp .neq _ _ _ _, _, _, _, _⟩ :: _) _ _; first | refine EL.fT (FV.neq rfl rfl) rfl (fun _ => rfl) (by omega) ?_ | refine EL.fF (FV.neq rfl rfl) rfl (fun _ => rfl) (by omega) ?_)
       | (show EL _ _ _ _ (⟨_, .indexAddr _ _ _, _, _, _, _⟩ :: _) _ _; first | refine EL.f (FV.idx0 rfl rfl rfl rfl (by omega) (by omega)) rfl rfl ?_ | refine EL.f (FV.idx1 rfl rfl rfl rfl (by omega) (by omega)) rfl rfl ?_)
       | (show EL _ _ _ _ (⟨_, .load _ _, _, _, _, _⟩ :: _) _ _; refine EL.f (FV.load1 rfl rfl rfl (by assumption)) rfl rfl ?_))
    | refine EL.nil ?_
    | refine EW.seq ?_
    | refine EW.region ?_
    | refine EW.block ?_
    | refine EW.skip ?_
    | refine EW.exit ?_
    | refine EW.ret ?_
    | refine EW.condT rfl ?_
    | refine EW.condF rfl ?_)
  exact ⟨_, rfl, rfl, he1⟩
def Fu.same (f g : Fu) : Bool := (f.name.toList == g.name.toList) && (decide (f.params = g.params) && eqAll Ex.same f.outs g.outs)
def Pr.same (p q : Pr) : Bool := eqAll Fu.same p.funcs q.funcs
end Eng
end Go.Proofs.Ytgahkbcfjibjaaa
