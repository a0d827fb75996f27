/- '==' on instructions and guards. No condition. -/
import Derived.Test.YtogljflccfoaeaaDoorTu
import Derived.Laws.StructEq
namespace Go.Proofs.YtogljflccfoaeaaDoor
open Go Go.RowKit
namespace Eng
def insE (x y : Ins) : Bool := x.op == y.op && (x.a == y.a && (x.b == y.b && x.num == y.num))
def gdE (x y : Gd) : Bool := x.reg == y.reg && x.zero == y.zero
theorem fieldsIns : Tryd.prog.fieldsOf 66 = insF := by unfold Program.fieldsOf; rw [Tryd.underlying66]; rfl
theorem fieldsGd : Tryd.prog.fieldsOf 71 = gdF := by unfold Program.fieldsOf; rw [Tryd.underlying71]; rfl
theorem eqIns (x y : Ins) (w : World) : (Op.equalIn 10000 66 (.agg (insV x).toArray) (.agg (insV y).toArray)).run Tryd.prog w = .ok (insE x y) w := by
  have one := fun w => run_isAgg_one (P := Tryd.prog) (t := 2) (d := .int .i64) rfl rfl w
  have eqi := fun (a b : Int) w => run_equalIn_int (P := Tryd.prog) w 9998 2 .i64 .i64 a b Tryd.underlying2
  rw [run_equalIn_agg w 9999 _ _ _ (by rw [fieldsIns]; exact Tryd.underlying66) (by kernel_rfl), fieldsIns]
  simp only [Nat.reduceAdd] at eqi
  simp [Op.eqFields, insF, part, one, insV, eqi, insE]
  cases h1 : x.op == y.op <;> cases h2 : x.a == y.a <;> cases h3 : x.b == y.b <;> cases h4 : x.num == y.num <;> simp_all
theorem eqGd (x y : Gd) (w : World) : (Op.equalIn 10000 71 (.agg (gdV x).toArray) (.agg (gdV y).toArray)).run Tryd.prog w = .ok (gdE x y) w := by
  have one := fun w => run_isAgg_one (P := Tryd.prog) (t := 2) (d := .int .i64) rfl rfl w
  have oneB := fun w => run_isAgg_one (P := Tryd.prog) (t := 4) (d := .bool) rfl rfl w
  have eqi := fun (a b : Int) w => run_equalIn_int (P := Tryd.prog) w 9998 2 .i64 .i64 a b Tryd.underlying2
  have eqb := fun (a b : Bool) w => run_equalIn_bool' (P := Tryd.prog) w 9998 4 a b Tryd.underlying4
  rw [run_equalIn_agg w 9999 _ _ _ (by rw [fieldsGd]; exact Tryd.underlying71) (by kernel_rfl), fieldsGd]
  simp only [Nat.reduceAdd] at eqi eqb
  simp [Op.eqFields, gdF, part, one, oneB, gdV, eqi, eqb, gdE]
  cases h1 : x.reg == y.reg <;> cases h2 : x.zero == y.zero <;> simp_all
section
variable {n : Nat} {S : World → Prop} {ρ : Env} {dst : Option Tmp} {ty : TypeId} {pos : String} {af : Array Edge} {gd : Option (Nat × Bool)}
theorem guardIns : Tryd.prog.eqGuardType Tryd.prog.depth 66 = false := by kernel_rfl
theorem guardGd : Tryd.prog.eqGuardType Tryd.prog.depth 71 = false := by kernel_rfl
theorem FV.neqIns {a b : Operand} {u : TypeId} {x y : Ins} (ha : ev ρ a = some (.agg (insV x).toArray)) (hb : ev ρ b = some (.agg (insV y).toArray)) : FV Tryd.prog n S ρ ⟨dst, .binOp .neq 66 a b u, ty, pos, af, gd⟩ (.bool (!insE x y)) :=
  ⟨fun c hc w _ => by
    have e1 := run_eqGuard_agg (P := Tryd.prog) w .neq 66 a b (insV x).toArray (insV y).toArray guardIns
    have e2 := run_neq_struct (P := Tryd.prog) w 66 (insV x).toArray (insV y).toArray
    rw [eqIns] at e2
    simp [execOp, hc.eval ha, hc.eval hb, e1, e2]⟩
theorem FV.neqGd {a b : Operand} {u : TypeId} {x y : Gd} (ha : ev ρ a = some (.agg (gdV x).toArray)) (hb : ev ρ b = some (.agg (gdV y).toArray)) : FV Tryd.prog n S ρ ⟨dst, .binOp .neq 71 a b u, ty, pos, af, gd⟩ (.bool (!gdE x y)) :=
  ⟨fun c hc w _ => by
    have e1 := run_eqGuard_agg (P := Tryd.prog) w .neq 71 a b (gdV x).toArray (gdV y).toArray guardGd
    have e2 := run_neq_struct (P := Tryd.prog) w 71 (gdV x).toArray (gdV y).toArray
    rw [eqGd] at e2
    simp [execOp, hc.eval ha, hc.eval hb, e1, e2]⟩
end
end Eng
end Go.Proofs.YtogljflccfoaeaaDoor
