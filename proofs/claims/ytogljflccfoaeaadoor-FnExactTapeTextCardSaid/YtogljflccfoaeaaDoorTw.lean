/- Equality of rows and of tapes. Conditions: the lengths. -/
import Derived.Test.YtogljflccfoaeaaDoorTv
namespace Go.Proofs.YtogljflccfoaeaaDoor
open Go Go.RowKit
namespace Eng
theorem insE_iff (x y : Ins) : insE x y = true ↔ x = y := by
  obtain ⟨a, b, c, d⟩ := x
  obtain ⟨a', b', c', d'⟩ := y
  simp [insE]
theorem gdE_iff (x y : Gd) : gdE x y = true ↔ x = y := by
  obtain ⟨a, b⟩ := x
  obtain ⟨a', b'⟩ := y
  simp [gdE]
instance : DecidableEq Ins := fun x y => decidable_of_iff _ (insE_iff x y)
instance : DecidableEq Gd := fun x y => decidable_of_iff _ (gdE_iff x y)
theorem notIns (x y : Ins) : (!insE x y) = decide (x ≠ y) := by
  by_cases h : x = y
  · rw [(insE_iff x y).2 h]; simp [h]
  · have : insE x y = false := by cases e : insE x y <;> simp_all [insE_iff]
    rw [this]; simp [h]
theorem notGd (x y : Gd) : (!gdE x y) = decide (x ≠ y) := by
  by_cases h : x = y
  · rw [(gdE_iff x y).2 h]; simp [h]
  · have : gdE x y = false := by cases e : gdE x y <;> simp_all [gdE_iff]
    rw [this]; simp [h]
theorem list_same {α : Type} {d : α} {xs ys : List α} (hl : xs.length = ys.length) (h : ∀ i, i < xs.length → xs.getD i d = ys.getD i d) : xs = ys :=
  List.ext_getElem hl fun i h1 h2 => by
    have := h i h1
    simpa [h1, h2] using this

section
variable {n : Nat} {S : World → Prop} {ρ : Env} {dst : Option Tmp} {ty : TypeId} {pos : String} {af : Array Edge} {gd : Option (Nat × Bool)}
theorem FV.neIns {a b : Operand} {u : TypeId} {x y : Ins} (ha : ev ρ a = some (.agg (insV x).toArray)) (hb : ev ρ b = some (.agg (insV y).toArray)) : FV Tryd.prog n S ρ ⟨dst, .binOp .neq 66 a b u, ty, pos, af, gd⟩ (.bool (decide (x ≠ y))) := by
  rw [← notIns]; exact FV.neqIns ha hb
theorem FV.neGd {a b : Operand} {u : TypeId} {x y : Gd} (ha : ev ρ a = some (.agg (gdV x).toArray)) (hb : ev ρ b = some (.agg (gdV y).toArray)) : FV Tryd.prog n S ρ ⟨dst, .binOp .neq 71 a b u, ty, pos, af, gd⟩ (.bool (decide (x ≠ y))) := by
  rw [← notGd]; exact FV.neqGd ha hb
end

/-- Two tapes alike. -/
def sameT (a b : Tp) : Prop := a.inputs = b.inputs ∧ a.code = b.code ∧ a.guards = b.guards ∧ a.outs = b.outs
instance (a b : Tp) : Decidable (sameT a b) := inferInstanceAs (Decidable (_ ∧ _ ∧ _ ∧ _))
/-- No row longer than the verifier's budget. -/
structure Fit (t : Tp) : Prop where
  c : t.code.length ≤ 1048576
  g : t.guards.length ≤ 1048576
  o : t.outs.length ≤ 1048576
end Eng
end Go.Proofs.YtogljflccfoaeaaDoor
