/- Instructions moved, in the program and in the reference; rows of truth values. Conditions: as each says. -/
import Derived.Test.YtgahkbcfjibjaaaTm
import Derived.Test.YtgahkbcfjibjaaaTtp
namespace Go.Proofs.Ytgahkbcfjibjaaa
open Go Go.RowKit
namespace Eng
/-! the table of types, with []bool -/
def undL2 : List (Nat × TypeDesc) := (69, .slice 4) :: undL
theorem undL2_ok : ∀ p ∈ undL2, Try.prog.underlying p.1 = some p.2 := by
  intro p hp
  rcases List.mem_cons.1 hp with rfl | hp
  · exact Try.underlying69
  · exact undL_ok p hp
instance tab2 : UTab Try.prog where
  und := look undL2
  und_ok := fun t d h => undL2_ok (t, d) (look_mem h)
  inf := look infL
  inf_ok := fun t z s b h => infL_ok (t, (z, s, b)) (look_mem h)
def bools (xs : List Bool) : List Value := xs.map Value.bool
theorem bools_length (xs : List Bool) : (bools xs).length = xs.length := by simp [bools]
theorem bools_get {xs : List Bool} {k : Nat} (h : k < xs.length) : (bools xs)[k]? = some (.bool (xs.getD k false)) := by simp [bools, h]
theorem bools_set (xs : List Bool) (k : Nat) (x : Bool) : bools (xs.set k x) = (bools xs).set k (.bool x) := by simp [bools, List.map_set]
theorem madeBools (m : Nat) : (madeCells (Value.bool false).cells (m * 1)).toList = bools (List.replicate m false) := by
  apply List.ext_getElem
  · simp [madeCells, bools]
  · intro i h1 h2
    simp [madeCells, bools, Value.cells, Nat.mod_one]
end Eng
end Go.Proofs.Ytgahkbcfjibjaaa
