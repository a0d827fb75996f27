/- The functions of the string builder, as the kit's contracts have them. The numbers are this seat's. No condition. -/
import Derived.Test.YtogljflccfoaeaaDoorLf
import Derived.Shelf.Strings.Builder2
import Derived.Shelf.Strings.BuilderK
namespace Go.Proofs.YtogljflccfoaeaaDoor
open Go Go.Shelf
namespace Eng
theorem layWS : Lays.n166 Tryd.prog layJR := { layJ with }
theorem layBS : Lays.n169 Tryd.prog layJR := { layJ with }
def layWBR : Ren where
  f := fun x => match x with
    | 167 => 36
    | n => layJR.f n
  t := layJR.t
  g := layJR.g
theorem layWB : Lays.n167 Tryd.prog layWBR := { layJ with
  f167 := Tryd.func36.trans (congrArg some (by kernel_rfl))
  f240 := Tryd.func57.trans (congrArg some (by kernel_rfl))
  f276 := Tryd.func69.trans (congrArg some (by kernel_rfl))
  t5 := Tryd.underlying5
  a5 := Tryd.isAgg5
  z5 := Tryd.sizeOf5
  v5 := Tryd.zeroValue5 }
end Eng
end Go.Proofs.YtogljflccfoaeaaDoor
