/- The table of types of a seat of tapes, for the calculus. No condition. -/
import Derived.Test.YtfkohgfcchhlpaaChecked
import Derived.Test.YtfkohgfcchhlpaaOps
import Derived.KernelRfl
namespace Go.Proofs.Ytfkohgfcchhlpaa
open Go
namespace Eng
def insF : Array Field := #[{ name := "Op", type := 2, offset := 0, embedded := false, tag := "", pkgPath := "", byteOffset := 0 }, { name := "A", type := 2, offset := 1, embedded := false, tag := "", pkgPath := "", byteOffset := 8 }, { name := "B", type := 2, offset := 2, embedded := false, tag := "", pkgPath := "", byteOffset := 16 }, { name := "Num", type := 2, offset := 3, embedded := false, tag := "", pkgPath := "", byteOffset := 24 }]
def gdF : Array Field := #[{ name := "Reg", type := 2, offset := 0, embedded := false, tag := "", pkgPath := "", byteOffset := 0 }, { name := "Zero", type := 4, offset := 1, embedded := false, tag := "", pkgPath := "", byteOffset := 8 }]
def tapeLaws : Array Field := #[{ name := "Inputs", type := 2, offset := 0, embedded := false, tag := "", pkgPath := "", byteOffset := 0 }, { name := "Code", type := 22, offset := 1, embedded := false, tag := "", pkgPath := "", byteOffset := 8 }, { name := "Guards", type := 23, offset := 2, embedded := false, tag := "", pkgPath := "", byteOffset := 32 }, { name := "Outs", type := 24, offset := 3, embedded := false, tag := "", pkgPath := "", byteOffset := 56 }]
def tapeImpl : Array Field := #[{ name := "Inputs", type := 2, offset := 0, embedded := false, tag := "", pkgPath := "", byteOffset := 0 }, { name := "Code", type := 29, offset := 1, embedded := false, tag := "", pkgPath := "", byteOffset := 8 }, { name := "Guards", type := 30, offset := 2, embedded := false, tag := "", pkgPath := "", byteOffset := 32 }, { name := "Outs", type := 24, offset := 3, embedded := false, tag := "", pkgPath := "", byteOffset := 56 }]
def undL : List (Nat × TypeDesc) := [(2, .int .i64), (3, .int .i64), (4, .bool), (24, .slice 2), (52, .slice 24), (26, .struct tapeLaws), (106, .struct insF), (108, .struct gdF), (22, .slice 106), (23, .slice 108), (32, .struct tapeImpl), (65, .struct insF), (67, .struct gdF), (29, .slice 65), (30, .slice 67)]
def infL : List (Nat × (Value × Nat × Nat)) := [(2, (.int .i64 0, 1, 8)), (3, (.int .i64 0, 1, 8)), (4, (.bool false, 1, 1)), (24, (.slice none 0 0, 1, 24)), (52, (.slice none 0 0, 1, 24)), (26, (.agg #[.int .i64 0, .slice none 0 0, .slice none 0 0, .slice none 0 0], 4, 80)), (106, (.agg #[.int .i64 0, .int .i64 0, .int .i64 0, .int .i64 0], 4, 32)), (108, (.agg #[.int .i64 0, .bool false], 2, 16)), (22, (.slice none 0 0, 1, 24)), (23, (.slice none 0 0, 1, 24)), (32, (.agg #[.int .i64 0, .slice none 0 0, .slice none 0 0, .slice none 0 0], 4, 80)), (65, (.agg #[.int .i64 0, .int .i64 0, .int .i64 0, .int .i64 0], 4, 32)), (67, (.agg #[.int .i64 0, .bool false], 2, 16)), (29, (.slice none 0 0, 1, 24)), (30, (.slice none 0 0, 1, 24))]
theorem undL_ok : ∀ p ∈ undL, Try.prog.underlying p.1 = some p.2 := by
  intro p hp
  simp only [undL, List.mem_cons, List.not_mem_nil, or_false] at hp
  rcases hp with rfl | rfl | rfl | rfl | rfl | rfl | rfl | rfl | rfl | rfl | rfl | rfl | rfl | rfl | rfl
  · exact Try.underlying2
  · exact Try.underlying3
  · exact Try.underlying4
  · exact Try.underlying24
  · exact Try.underlying52
  · exact Try.underlying26
  · exact Try.underlying106
  · exact Try.underlying108
  · exact Try.underlying22
  · exact Try.underlying23
  · exact Try.underlying32
  · exact Try.underlying65
  · exact Try.underlying67
  · exact Try.underlying29
  · exact Try.underlying30
theorem infL_ok : ∀ p ∈ infL, (Try.prog.info? p.1).map (fun i => (i.zero, i.size, i.bytes)) = some (some p.2.1, p.2.2.1, p.2.2.2) := by
  intro p hp
  simp only [infL, List.mem_cons, List.not_mem_nil, or_false] at hp
  rcases hp with rfl | rfl | rfl | rfl | rfl | rfl | rfl | rfl | rfl | rfl | rfl | rfl | rfl | rfl | rfl
  · kernel_rfl
  · kernel_rfl
  · kernel_rfl
  · kernel_rfl
  · kernel_rfl
  · kernel_rfl
  · kernel_rfl
  · kernel_rfl
  · kernel_rfl
  · kernel_rfl
  · kernel_rfl
  · kernel_rfl
  · kernel_rfl
  · kernel_rfl
  · kernel_rfl
instance : UTab Try.prog where
  und := look undL
  und_ok := fun t d h => undL_ok (t, d) (look_mem h)
  inf := look infL
  inf_ok := fun t z s b h => infL_ok (t, (z, s, b)) (look_mem h)
theorem mixed : Try.prog.follows .mixedOrders = true := by kernel_rfl
end Eng
end Go.Proofs.Ytfkohgfcchhlpaa
