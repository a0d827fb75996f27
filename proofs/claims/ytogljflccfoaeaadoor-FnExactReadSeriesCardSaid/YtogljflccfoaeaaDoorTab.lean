/- The table of types of a seat of texts, for the calculus. No condition. -/
import Derived.Test.YtogljflccfoaeaaDoorChecked
import Derived.Test.YtogljflccfoaeaaDoorOps
import Derived.KernelRfl
namespace Go.Proofs.YtogljflccfoaeaaDoor
open Go
namespace Eng
def insF : Array Field := #[{ name := "Op", type := 2, offset := 0, embedded := false, tag := "", pkgPath := "", byteOffset := 0 }, { name := "A", type := 2, offset := 1, embedded := false, tag := "", pkgPath := "", byteOffset := 8 }, { name := "B", type := 2, offset := 2, embedded := false, tag := "", pkgPath := "", byteOffset := 16 }, { name := "Num", type := 2, offset := 3, embedded := false, tag := "", pkgPath := "", byteOffset := 24 }]
def gdF : Array Field := #[{ name := "Reg", type := 2, offset := 0, embedded := false, tag := "", pkgPath := "", byteOffset := 0 }, { name := "Zero", type := 4, offset := 1, embedded := false, tag := "", pkgPath := "", byteOffset := 8 }]
def tapeLaws : Array Field := #[{ name := "Inputs", type := 2, offset := 0, embedded := false, tag := "", pkgPath := "", byteOffset := 0 }, { name := "Code", type := 31, offset := 1, embedded := false, tag := "", pkgPath := "", byteOffset := 8 }, { name := "Guards", type := 32, offset := 2, embedded := false, tag := "", pkgPath := "", byteOffset := 32 }, { name := "Outs", type := 22, offset := 3, embedded := false, tag := "", pkgPath := "", byteOffset := 56 }]
def tapeImpl : Array Field := #[{ name := "Inputs", type := 2, offset := 0, embedded := false, tag := "", pkgPath := "", byteOffset := 0 }, { name := "Code", type := 37, offset := 1, embedded := false, tag := "", pkgPath := "", byteOffset := 8 }, { name := "Guards", type := 38, offset := 2, embedded := false, tag := "", pkgPath := "", byteOffset := 32 }, { name := "Outs", type := 22, offset := 3, embedded := false, tag := "", pkgPath := "", byteOffset := 56 }]
def undL : List (Nat × TypeDesc) := [(2, .int .i64), (3, .int .i64), (4, .bool), (9, .string), (5, .int .u8), (22, .slice 2), (57, .slice 5), (67, .slice 9), (31, .slice 86), (37, .slice 66), (32, .slice 88), (38, .slice 71), (86, .struct insF), (66, .struct insF), (88, .struct gdF), (71, .struct gdF), (34, .struct tapeLaws), (40, .struct tapeImpl)]
def infL : List (Nat × (Value × Nat × Nat)) := [(2, (.int .i64 0, 1, 8)), (3, (.int .i64 0, 1, 8)), (4, (.bool false, 1, 1)), (9, (.string ByteArray.empty, 1, 16)), (5, (.int .u8 0, 1, 1)), (22, (.slice none 0 0, 1, 24)), (57, (.slice none 0 0, 1, 24)), (67, (.slice none 0 0, 1, 24)), (31, (.slice none 0 0, 1, 24)), (37, (.slice none 0 0, 1, 24)), (32, (.slice none 0 0, 1, 24)), (38, (.slice none 0 0, 1, 24)), (86, (.agg #[.int .i64 0, .int .i64 0, .int .i64 0, .int .i64 0], 4, 32)), (66, (.agg #[.int .i64 0, .int .i64 0, .int .i64 0, .int .i64 0], 4, 32)), (88, (.agg #[.int .i64 0, .bool false], 2, 16)), (71, (.agg #[.int .i64 0, .bool false], 2, 16)), (34, (.agg #[.int .i64 0, .slice none 0 0, .slice none 0 0, .slice none 0 0], 4, 80)), (40, (.agg #[.int .i64 0, .slice none 0 0, .slice none 0 0, .slice none 0 0], 4, 80))]
theorem undL_ok : ∀ p ∈ undL, Tryd.prog.underlying p.1 = some p.2 := by
  intro p hp
  simp only [undL, List.mem_cons, List.not_mem_nil, or_false] at hp
  rcases hp with rfl | rfl | rfl | rfl | rfl | rfl | rfl | rfl | rfl | rfl | rfl | rfl | rfl | rfl | rfl | rfl | rfl | rfl
  · exact Tryd.underlying2
  · exact Tryd.underlying3
  · exact Tryd.underlying4
  · exact Tryd.underlying9
  · exact Tryd.underlying5
  · exact Tryd.underlying22
  · exact Tryd.underlying57
  · exact Tryd.underlying67
  · exact Tryd.underlying31
  · exact Tryd.underlying37
  · exact Tryd.underlying32
  · exact Tryd.underlying38
  · exact Tryd.underlying86
  · exact Tryd.underlying66
  · exact Tryd.underlying88
  · exact Tryd.underlying71
  · exact Tryd.underlying34
  · exact Tryd.underlying40
theorem infL_ok : ∀ p ∈ infL, (Tryd.prog.info? p.1).map (fun i => (i.zero, i.size, i.bytes)) = some (some p.2.1, p.2.2.1, p.2.2.2) := by
  intro p hp
  simp only [infL, List.mem_cons, List.not_mem_nil, or_false] at hp
  rcases hp with rfl | rfl | rfl | rfl | rfl | rfl | rfl | rfl | rfl | rfl | rfl | rfl | rfl | rfl | rfl | rfl | rfl | rfl
  · kernel_rfl
  · kernel_rfl
  · kernel_rfl
  · kernel_rfl
  · kernel_rfl
  · kernel_rfl
  · kernel_rfl
  · kernel_rfl
  · kernel_rfl
  · kernel_rfl
  · kernel_rfl
  · kernel_rfl
  · kernel_rfl
  · kernel_rfl
  · kernel_rfl
  · kernel_rfl
  · kernel_rfl
  · kernel_rfl
instance : UTab Tryd.prog where
  und := look undL
  und_ok := fun t d h => undL_ok (t, d) (look_mem h)
  inf := look infL
  inf_ok := fun t z s b h => infL_ok (t, (z, s, b)) (look_mem h)
theorem mixed : Tryd.prog.follows .mixedOrders = true := by kernel_rfl
end Eng
end Go.Proofs.YtogljflccfoaeaaDoor
