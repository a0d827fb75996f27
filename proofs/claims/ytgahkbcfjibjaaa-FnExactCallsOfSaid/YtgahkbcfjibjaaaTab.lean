/- The table of types of a seat of expressions and tapes, for the calculus. No condition. -/
import Derived.Test.YtgahkbcfjibjaaaChecked
import Derived.Test.YtgahkbcfjibjaaaOps
import Derived.KernelRfl
namespace Go.Proofs.Ytgahkbcfjibjaaa
open Go
namespace Eng
def exLaws : Array Field := #[{ name := "Kind", type := 2, offset := 0, embedded := false, tag := "", pkgPath := "", byteOffset := 0 }, { name := "Num", type := 2, offset := 1, embedded := false, tag := "", pkgPath := "", byteOffset := 8 }, { name := "Pick", type := 2, offset := 2, embedded := false, tag := "", pkgPath := "", byteOffset := 16 }, { name := "Count", type := 2, offset := 3, embedded := false, tag := "", pkgPath := "", byteOffset := 24 }, { name := "Kids", type := 52, offset := 4, embedded := false, tag := "", pkgPath := "", byteOffset := 32 }]
def exImpl : Array Field := #[{ name := "Kind", type := 2, offset := 0, embedded := false, tag := "", pkgPath := "", byteOffset := 0 }, { name := "Num", type := 2, offset := 1, embedded := false, tag := "", pkgPath := "", byteOffset := 8 }, { name := "Pick", type := 2, offset := 2, embedded := false, tag := "", pkgPath := "", byteOffset := 16 }, { name := "Count", type := 2, offset := 3, embedded := false, tag := "", pkgPath := "", byteOffset := 24 }, { name := "Kids", type := 57, offset := 4, embedded := false, tag := "", pkgPath := "", byteOffset := 32 }]
def fuLaws : Array Field := #[{ name := "Name", type := 9, offset := 0, embedded := false, tag := "", pkgPath := "", byteOffset := 0 }, { name := "Params", type := 2, offset := 1, embedded := false, tag := "", pkgPath := "", byteOffset := 16 }, { name := "Outs", type := 52, offset := 2, embedded := false, tag := "", pkgPath := "", byteOffset := 24 }]
def fuImpl : Array Field := #[{ name := "Name", type := 9, offset := 0, embedded := false, tag := "", pkgPath := "", byteOffset := 0 }, { name := "Params", type := 2, offset := 1, embedded := false, tag := "", pkgPath := "", byteOffset := 16 }, { name := "Outs", type := 57, offset := 2, embedded := false, tag := "", pkgPath := "", byteOffset := 24 }]
def prLaws : Array Field := #[{ name := "Funcs", type := 40, offset := 0, embedded := false, tag := "", pkgPath := "", byteOffset := 0 }]
def prImpl : Array Field := #[{ name := "Funcs", type := 45, offset := 0, embedded := false, tag := "", pkgPath := "", byteOffset := 0 }]
def chF : Array Field := #[{ name := "p", type := 47, offset := 0, embedded := false, tag := "", pkgPath := "loop.example/g01091/impl", byteOffset := 0 }, { name := "funcs", type := 2, offset := 1, embedded := false, tag := "", pkgPath := "loop.example/g01091/impl", byteOffset := 24 }]
def insF : Array Field := #[{ name := "Op", type := 2, offset := 0, embedded := false, tag := "", pkgPath := "", byteOffset := 0 }, { name := "A", type := 2, offset := 1, embedded := false, tag := "", pkgPath := "", byteOffset := 8 }, { name := "B", type := 2, offset := 2, embedded := false, tag := "", pkgPath := "", byteOffset := 16 }, { name := "Num", type := 2, offset := 3, embedded := false, tag := "", pkgPath := "", byteOffset := 24 }]
def gdF : Array Field := #[{ name := "Reg", type := 2, offset := 0, embedded := false, tag := "", pkgPath := "", byteOffset := 0 }, { name := "Zero", type := 4, offset := 1, embedded := false, tag := "", pkgPath := "", byteOffset := 8 }]
def tapeLaws : Array Field := #[{ name := "Inputs", type := 2, offset := 0, embedded := false, tag := "", pkgPath := "", byteOffset := 0 }, { name := "Code", type := 22, offset := 1, embedded := false, tag := "", pkgPath := "", byteOffset := 8 }, { name := "Guards", type := 23, offset := 2, embedded := false, tag := "", pkgPath := "", byteOffset := 32 }, { name := "Outs", type := 24, offset := 3, embedded := false, tag := "", pkgPath := "", byteOffset := 56 }]
def tapeImpl : Array Field := #[{ name := "Inputs", type := 2, offset := 0, embedded := false, tag := "", pkgPath := "", byteOffset := 0 }, { name := "Code", type := 30, offset := 1, embedded := false, tag := "", pkgPath := "", byteOffset := 8 }, { name := "Guards", type := 31, offset := 2, embedded := false, tag := "", pkgPath := "", byteOffset := 32 }, { name := "Outs", type := 24, offset := 3, embedded := false, tag := "", pkgPath := "", byteOffset := 56 }]
def undL : List (Nat × TypeDesc) := [(2, .int .i64), (3, .int .i64), (4, .bool), (9, .string), (24, .slice 2), (52, .slice 54), (57, .slice 59), (40, .slice 120), (45, .slice 92), (5, .int .u8), (138, .slice 5), (69, .slice 4), (22, .slice 109), (30, .slice 72), (23, .slice 111), (31, .slice 107), (54, .struct exLaws), (59, .struct exImpl), (120, .struct fuLaws), (92, .struct fuImpl), (42, .struct prLaws), (47, .struct prImpl), (157, .struct chF), (109, .struct insF), (72, .struct insF), (111, .struct gdF), (107, .struct gdF), (26, .struct tapeLaws), (33, .struct tapeImpl)]
def infL : List (Nat × (Value × Nat × Nat)) := [(2, (.int .i64 0, 1, 8)), (3, (.int .i64 0, 1, 8)), (4, (.bool false, 1, 1)), (9, (.string ByteArray.empty, 1, 16)), (24, (.slice none 0 0, 1, 24)), (52, (.slice none 0 0, 1, 24)), (57, (.slice none 0 0, 1, 24)), (40, (.slice none 0 0, 1, 24)), (45, (.slice none 0 0, 1, 24)), (5, (.int .u8 0, 1, 1)), (138, (.slice none 0 0, 1, 24)), (69, (.slice none 0 0, 1, 24)), (22, (.slice none 0 0, 1, 24)), (30, (.slice none 0 0, 1, 24)), (23, (.slice none 0 0, 1, 24)), (31, (.slice none 0 0, 1, 24)), (54, (.agg #[.int .i64 0, .int .i64 0, .int .i64 0, .int .i64 0, .slice none 0 0], 5, 56)), (59, (.agg #[.int .i64 0, .int .i64 0, .int .i64 0, .int .i64 0, .slice none 0 0], 5, 56)), (120, (.agg #[.string ByteArray.empty, .int .i64 0, .slice none 0 0], 3, 48)), (92, (.agg #[.string ByteArray.empty, .int .i64 0, .slice none 0 0], 3, 48)), (42, (.agg #[.slice none 0 0], 1, 24)), (47, (.agg #[.slice none 0 0], 1, 24)), (157, (.agg #[.slice none 0 0, .int .i64 0], 2, 32)), (109, (.agg #[.int .i64 0, .int .i64 0, .int .i64 0, .int .i64 0], 4, 32)), (72, (.agg #[.int .i64 0, .int .i64 0, .int .i64 0, .int .i64 0], 4, 32)), (111, (.agg #[.int .i64 0, .bool false], 2, 16)), (107, (.agg #[.int .i64 0, .bool false], 2, 16)), (26, (.agg #[.int .i64 0, .slice none 0 0, .slice none 0 0, .slice none 0 0], 4, 80)), (33, (.agg #[.int .i64 0, .slice none 0 0, .slice none 0 0, .slice none 0 0], 4, 80))]
theorem undL_ok : ∀ p ∈ undL, Try.prog.underlying p.1 = some p.2 := by
  intro p hp
  simp only [undL, List.mem_cons, List.not_mem_nil, or_false] at hp
  rcases hp with rfl | rfl | rfl | rfl | rfl | rfl | rfl | rfl | rfl | rfl | rfl | rfl | rfl | rfl | rfl | rfl | rfl | rfl | rfl | rfl | rfl | rfl | rfl | rfl | rfl | rfl | rfl | rfl | rfl
  · exact Try.underlying2
  · exact Try.underlying3
  · exact Try.underlying4
  · exact Try.underlying9
  · exact Try.underlying24
  · exact Try.underlying52
  · exact Try.underlying57
  · exact Try.underlying40
  · exact Try.underlying45
  · exact Try.underlying5
  · exact Try.underlying138
  · exact Try.underlying69
  · exact Try.underlying22
  · exact Try.underlying30
  · exact Try.underlying23
  · exact Try.underlying31
  · exact Try.underlying54
  · exact Try.underlying59
  · exact Try.underlying120
  · exact Try.underlying92
  · exact Try.underlying42
  · exact Try.underlying47
  · exact Try.underlying157
  · exact Try.underlying109
  · exact Try.underlying72
  · exact Try.underlying111
  · exact Try.underlying107
  · exact Try.underlying26
  · exact Try.underlying33
theorem infL_ok : ∀ p ∈ infL, (Try.prog.info? p.1).map (fun i => (i.zero, i.size, i.bytes)) = some (some p.2.1, p.2.2.1, p.2.2.2) := by
  intro p hp
  simp only [infL, List.mem_cons, List.not_mem_nil, or_false] at hp
  rcases hp with rfl | rfl | rfl | rfl | rfl | rfl | rfl | rfl | rfl | rfl | rfl | rfl | rfl | rfl | rfl | rfl | rfl | rfl | rfl | rfl | rfl | rfl | rfl | rfl | rfl | rfl | rfl | rfl | rfl
  · kernel_rfl
  · kernel_rfl
  · kernel_rfl
  · kernel_rfl
  · kernel_rfl
  · kernel_rfl
  · kernel_rfl
  · kernel_rfl
  · kernel_rfl
  · kernel_rfl
  · kernel_rfl
  · kernel_rfl
  · kernel_rfl
  · kernel_rfl
  · kernel_rfl
  · kernel_rfl
  · kernel_rfl
  · kernel_rfl
  · kernel_rfl
  · kernel_rfl
  · kernel_rfl
  · kernel_rfl
  · kernel_rfl
  · kernel_rfl
  · kernel_rfl
  · kernel_rfl
  · kernel_rfl
  · kernel_rfl
  · kernel_rfl
instance : UTab Try.prog where
  und := look undL
  und_ok := fun t d h => undL_ok (t, d) (look_mem h)
  inf := look infL
  inf_ok := fun t z s b h => infL_ok (t, (z, s, b)) (look_mem h)
theorem mixed : Try.prog.follows .mixedOrders = true := by kernel_rfl
end Eng
end Go.Proofs.Ytgahkbcfjibjaaa
