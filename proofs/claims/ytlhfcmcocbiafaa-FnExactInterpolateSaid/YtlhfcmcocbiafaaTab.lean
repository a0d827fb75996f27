/- The seat's table of types, for the calculus. No condition. -/
import Derived.Test.YtlhfcmcocbiafaaChecked
import Derived.Test.YtlhfcmcocbiafaaOps
import Derived.KernelRfl
namespace Go.Proofs.Ytlhfcmcocbiafaa
open Go
namespace Eng
def undL : List (Nat × TypeDesc) := [(2, .int .i64), (3, .int .i64), (4, .bool), (28, .slice 2)]
def infL : List (Nat × (Value × Nat × Nat)) := [(2, (.int .i64 0, 1, 8)), (3, (.int .i64 0, 1, 8)), (4, (.bool false, 1, 1))]
theorem undL_ok : ∀ p ∈ undL, Try.prog.underlying p.1 = some p.2 := by
  intro p hp
  simp only [undL, List.mem_cons, List.not_mem_nil, or_false] at hp
  rcases hp with rfl | rfl | rfl | rfl
  · exact Try.underlying2
  · exact Try.underlying3
  · exact Try.underlying4
  · exact Try.underlying28
theorem infL_ok : ∀ p ∈ infL, (Try.prog.info? p.1).map (fun i => (i.zero, i.size, i.bytes)) = some (some p.2.1, p.2.2.1, p.2.2.2) := by
  intro p hp
  simp only [infL, List.mem_cons, List.not_mem_nil, or_false] at hp
  rcases hp with rfl | rfl | rfl
  · kernel_rfl
  · kernel_rfl
  · kernel_rfl
instance : UTab Try.prog where
  und := look undL
  und_ok := fun t d h => undL_ok (t, d) (look_mem h)
  inf := look infL
  inf_ok := fun t z s b h => infL_ok (t, (z, s, b)) (look_mem h)
theorem mixed : Try.prog.follows .mixedOrders = true := by kernel_rfl
end Eng
end Go.Proofs.Ytlhfcmcocbiafaa
