/- The table of types of a seat of expressions, for the calculus. No condition. -/
import Derived.Test.YtcodicokpegfmaaChecked
import Derived.Test.YtcodicokpegfmaaOps
import Derived.KernelRfl
namespace Go.Proofs.Ytcodicokpegfmaa
open Go
namespace Eng
def exLaws : Array Field := #[{ name := "Kind", type := 2, offset := 0, embedded := false, tag := "", pkgPath := "", byteOffset := 0 }, { name := "Num", type := 2, offset := 1, embedded := false, tag := "", pkgPath := "", byteOffset := 8 }, { name := "Pick", type := 2, offset := 2, embedded := false, tag := "", pkgPath := "", byteOffset := 16 }, { name := "Count", type := 2, offset := 3, embedded := false, tag := "", pkgPath := "", byteOffset := 24 }, { name := "Kids", type := 23, offset := 4, embedded := false, tag := "", pkgPath := "", byteOffset := 32 }]
def exImpl : Array Field := #[{ name := "Kind", type := 2, offset := 0, embedded := false, tag := "", pkgPath := "", byteOffset := 0 }, { name := "Num", type := 2, offset := 1, embedded := false, tag := "", pkgPath := "", byteOffset := 8 }, { name := "Pick", type := 2, offset := 2, embedded := false, tag := "", pkgPath := "", byteOffset := 16 }, { name := "Count", type := 2, offset := 3, embedded := false, tag := "", pkgPath := "", byteOffset := 24 }, { name := "Kids", type := 28, offset := 4, embedded := false, tag := "", pkgPath := "", byteOffset := 32 }]
def fuLaws : Array Field := #[{ name := "Name", type := 9, offset := 0, embedded := false, tag := "", pkgPath := "", byteOffset := 0 }, { name := "Params", type := 2, offset := 1, embedded := false, tag := "", pkgPath := "", byteOffset := 16 }, { name := "Outs", type := 23, offset := 2, embedded := false, tag := "", pkgPath := "", byteOffset := 24 }]
def fuImpl : Array Field := #[{ name := "Name", type := 9, offset := 0, embedded := false, tag := "", pkgPath := "", byteOffset := 0 }, { name := "Params", type := 2, offset := 1, embedded := false, tag := "", pkgPath := "", byteOffset := 16 }, { name := "Outs", type := 28, offset := 2, embedded := false, tag := "", pkgPath := "", byteOffset := 24 }]
def prLaws : Array Field := #[{ name := "Funcs", type := 36, offset := 0, embedded := false, tag := "", pkgPath := "", byteOffset := 0 }]
def prImpl : Array Field := #[{ name := "Funcs", type := 41, offset := 0, embedded := false, tag := "", pkgPath := "", byteOffset := 0 }]
def chF : Array Field := #[{ name := "p", type := 43, offset := 0, embedded := false, tag := "", pkgPath := "loop.example/g01091/impl", byteOffset := 0 }, { name := "funcs", type := 2, offset := 1, embedded := false, tag := "", pkgPath := "loop.example/g01091/impl", byteOffset := 24 }]
def teLaws : Array Field := #[{ name := "Exps", type := 87, offset := 0, embedded := false, tag := "", pkgPath := "", byteOffset := 0 }, { name := "Coef", type := 2, offset := 1, embedded := false, tag := "", pkgPath := "", byteOffset := 24 }]
def teImpl : Array Field := #[{ name := "Exps", type := 87, offset := 0, embedded := false, tag := "", pkgPath := "", byteOffset := 0 }, { name := "Coef", type := 2, offset := 1, embedded := false, tag := "", pkgPath := "", byteOffset := 24 }]
def poLaws : Array Field := #[{ name := "Vars", type := 2, offset := 0, embedded := false, tag := "", pkgPath := "", byteOffset := 0 }, { name := "Terms", type := 46, offset := 1, embedded := false, tag := "", pkgPath := "", byteOffset := 8 }]
def poImpl : Array Field := #[{ name := "Vars", type := 2, offset := 0, embedded := false, tag := "", pkgPath := "", byteOffset := 0 }, { name := "Terms", type := 51, offset := 1, embedded := false, tag := "", pkgPath := "", byteOffset := 8 }]
def undL : List (Nat × TypeDesc) := [(2, .int .i64), (3, .int .i64), (4, .bool), (9, .string), (87, .slice 2), (23, .slice 25), (28, .slice 30), (36, .slice 108), (41, .slice 78), (5, .int .u8), (46, .slice 111), (51, .slice 89), (25, .struct exLaws), (30, .struct exImpl), (108, .struct fuLaws), (78, .struct fuImpl), (38, .struct prLaws), (43, .struct prImpl), (98, .struct chF), (111, .struct teLaws), (89, .struct teImpl), (48, .struct poLaws), (53, .struct poImpl)]
def infL : List (Nat × (Value × Nat × Nat)) := [(2, (.int .i64 0, 1, 8)), (3, (.int .i64 0, 1, 8)), (4, (.bool false, 1, 1)), (9, (.string ByteArray.empty, 1, 16)), (87, (.slice none 0 0, 1, 24)), (23, (.slice none 0 0, 1, 24)), (28, (.slice none 0 0, 1, 24)), (36, (.slice none 0 0, 1, 24)), (41, (.slice none 0 0, 1, 24)), (5, (.int .u8 0, 1, 1)), (46, (.slice none 0 0, 1, 24)), (51, (.slice none 0 0, 1, 24)), (25, (.agg #[.int .i64 0, .int .i64 0, .int .i64 0, .int .i64 0, .slice none 0 0], 5, 56)), (30, (.agg #[.int .i64 0, .int .i64 0, .int .i64 0, .int .i64 0, .slice none 0 0], 5, 56)), (108, (.agg #[.string ByteArray.empty, .int .i64 0, .slice none 0 0], 3, 48)), (78, (.agg #[.string ByteArray.empty, .int .i64 0, .slice none 0 0], 3, 48)), (38, (.agg #[.slice none 0 0], 1, 24)), (43, (.agg #[.slice none 0 0], 1, 24)), (98, (.agg #[.slice none 0 0, .int .i64 0], 2, 32)), (111, (.agg #[.slice none 0 0, .int .i64 0], 2, 32)), (89, (.agg #[.slice none 0 0, .int .i64 0], 2, 32)), (48, (.agg #[.int .i64 0, .slice none 0 0], 2, 32)), (53, (.agg #[.int .i64 0, .slice none 0 0], 2, 32))]
theorem undL_ok : ∀ p ∈ undL, Try.prog.underlying p.1 = some p.2 := by
  intro p hp
  simp only [undL, List.mem_cons, List.not_mem_nil, or_false] at hp
  rcases hp with rfl | rfl | rfl | rfl | rfl | rfl | rfl | rfl | rfl | rfl | rfl | rfl | rfl | rfl | rfl | rfl | rfl | rfl | rfl | rfl | rfl | rfl | rfl
  · exact Try.underlying2
  · exact Try.underlying3
  · exact Try.underlying4
  · exact Try.underlying9
  · exact Try.underlying87
  · exact Try.underlying23
  · exact Try.underlying28
  · exact Try.underlying36
  · exact Try.underlying41
  · exact Try.underlying5
  · exact Try.underlying46
  · exact Try.underlying51
  · exact Try.underlying25
  · exact Try.underlying30
  · exact Try.underlying108
  · exact Try.underlying78
  · exact Try.underlying38
  · exact Try.underlying43
  · exact Try.underlying98
  · exact Try.underlying111
  · exact Try.underlying89
  · exact Try.underlying48
  · exact Try.underlying53
theorem infL_ok : ∀ p ∈ infL, (Try.prog.info? p.1).map (fun i => (i.zero, i.size, i.bytes)) = some (some p.2.1, p.2.2.1, p.2.2.2) := by
  intro p hp
  simp only [infL, List.mem_cons, List.not_mem_nil, or_false] at hp
  rcases hp with rfl | rfl | rfl | rfl | rfl | rfl | rfl | rfl | rfl | rfl | rfl | rfl | rfl | rfl | rfl | rfl | rfl | rfl | rfl | rfl | rfl | rfl | rfl
  · kernel_rfl
  · kernel_rfl
  · kernel_rfl
  · kernel_rfl
  · kernel_rfl
  · kernel_rfl
  · kernel_rfl
  · kernel_rfl
  · kernel_rfl
  · kernel_rfl
  · kernel_rfl
  · kernel_rfl
  · kernel_rfl
  · kernel_rfl
  · kernel_rfl
  · kernel_rfl
  · kernel_rfl
  · kernel_rfl
  · kernel_rfl
  · kernel_rfl
  · kernel_rfl
  · kernel_rfl
  · kernel_rfl
instance : UTab Try.prog where
  und := look undL
  und_ok := fun t d h => undL_ok (t, d) (look_mem h)
  inf := look infL
  inf_ok := fun t z s b h => infL_ok (t, (z, s, b)) (look_mem h)
theorem mixed : Try.prog.follows .mixedOrders = true := by kernel_rfl
end Eng
end Go.Proofs.Ytcodicokpegfmaa
