/- The words at the head of the seat's translation, letter by letter: facts on the program's own text. No condition. -/
import Derived.Test.YtogljflccfoaeaaDoorRows
import Derived.ProofKit
namespace Go.Proofs.YtogljflccfoaeaaDoor
open Go
namespace Eng
def headL : List Char := [Char.ofNat 104, Char.ofNat 97, Char.ofNat 114, Char.ofNat 110, Char.ofNat 101, Char.ofNat 115, Char.ofNat 115, Char.ofNat 32, Char.ofNat 48, Char.ofNat 55, Char.ofNat 49, Char.ofNat 98, Char.ofNat 51, Char.ofNat 102, Char.ofNat 52, Char.ofNat 102, Char.ofNat 54, Char.ofNat 54, Char.ofNat 55, Char.ofNat 48, Char.ofNat 49, Char.ofNat 53, Char.ofNat 51, Char.ofNat 49, Char.ofNat 57, Char.ofNat 53, Char.ofNat 101, Char.ofNat 49, Char.ofNat 53, Char.ofNat 100, Char.ofNat 100, Char.ofNat 100, Char.ofNat 56, Char.ofNat 52, Char.ofNat 50, Char.ofNat 52, Char.ofNat 49, Char.ofNat 100, Char.ofNat 48, Char.ofNat 50, Char.ofNat 53, Char.ofNat 98, Char.ofNat 49, Char.ofNat 53, Char.ofNat 101, Char.ofNat 49, Char.ofNat 53, Char.ofNat 54, Char.ofNat 102, Char.ofNat 99, Char.ofNat 97, Char.ofNat 57, Char.ofNat 101, Char.ofNat 51, Char.ofNat 57, Char.ofNat 101, Char.ofNat 52, Char.ofNat 50, Char.ofNat 101, Char.ofNat 49, Char.ofNat 98, Char.ofNat 50, Char.ofNat 57, Char.ofNat 50, Char.ofNat 54, Char.ofNat 53, Char.ofNat 53, Char.ofNat 54, Char.ofNat 100, Char.ofNat 53, Char.ofNat 102, Char.ofNat 53, Char.ofNat 32, Char.ofNat 99, Char.ofNat 117, Char.ofNat 116, Char.ofNat 32, Char.ofNat 97, Char.ofNat 116, Char.ofNat 32, Char.ofNat 108, Char.ofNat 111, Char.ofNat 111, Char.ofNat 112, Char.ofNat 46, Char.ofNat 101, Char.ofNat 120, Char.ofNat 97, Char.ofNat 109, Char.ofNat 112, Char.ofNat 108, Char.ofNat 101, Char.ofNat 47, Char.ofNat 103, Char.ofNat 48, Char.ofNat 49, Char.ofNat 48, Char.ofNat 57, Char.ofNat 49, Char.ofNat 47, Char.ofNat 108, Char.ofNat 97, Char.ofNat 119, Char.ofNat 115, Char.ofNat 46, Char.ofNat 70, Char.ofNat 110, Char.ofNat 69, Char.ofNat 120, Char.ofNat 97, Char.ofNat 99, Char.ofNat 116, Char.ofNat 82, Char.ofNat 101, Char.ofNat 97, Char.ofNat 100, Char.ofNat 83, Char.ofNat 101, Char.ofNat 114, Char.ofNat 105, Char.ofNat 101, Char.ofNat 115, Char.ofNat 32, Char.ofNat 108, Char.ofNat 111, Char.ofNat 111, Char.ofNat 112, Char.ofNat 46, Char.ofNat 101, Char.ofNat 120, Char.ofNat 97, Char.ofNat 109, Char.ofNat 112, Char.ofNat 108, Char.ofNat 101, Char.ofNat 47, Char.ofNat 103, Char.ofNat 48, Char.ofNat 49, Char.ofNat 48, Char.ofNat 57, Char.ofNat 49, Char.ofNat 47, Char.ofNat 108, Char.ofNat 97, Char.ofNat 119, Char.ofNat 115, Char.ofNat 46, Char.ofNat 70, Char.ofNat 110, Char.ofNat 69, Char.ofNat 120, Char.ofNat 97, Char.ofNat 99, Char.ofNat 116, Char.ofNat 83, Char.ofNat 101, Char.ofNat 114, Char.ofNat 105, Char.ofNat 101, Char.ofNat 115, Char.ofNat 84, Char.ofNat 101, Char.ofNat 120, Char.ofNat 116, Char.ofNat 32, Char.ofNat 108, Char.ofNat 111, Char.ofNat 111, Char.ofNat 112, Char.ofNat 46, Char.ofNat 101, Char.ofNat 120, Char.ofNat 97, Char.ofNat 109, Char.ofNat 112, Char.ofNat 108, Char.ofNat 101, Char.ofNat 47, Char.ofNat 103, Char.ofNat 48, Char.ofNat 49, Char.ofNat 48, Char.ofNat 57, Char.ofNat 49, Char.ofNat 47, Char.ofNat 108, Char.ofNat 97, Char.ofNat 119, Char.ofNat 115, Char.ofNat 46, Char.ofNat 70, Char.ofNat 110, Char.ofNat 69, Char.ofNat 120, Char.ofNat 97, Char.ofNat 99, Char.ofNat 116, Char.ofNat 84, Char.ofNat 97, Char.ofNat 112, Char.ofNat 101, Char.ofNat 84, Char.ofNat 101, Char.ofNat 120, Char.ofNat 116]
theorem headS : Tryd.prog.initOrder = String.ofList headL := by kernel_rfl
theorem headC : Tryd.prog.initOrder.toList = headL := by rw [headS, String.toList_ofList]
theorem headW0 : ((behindMainWord (wordsSigns headL)).head? == some "cut".toList) = true := by kernel_rfl
theorem headW : (behindMainWord (wordsSigns headL)).head? = some "cut".toList := eq_of_beq headW0
theorem headR : ∃ rest, behindMainWord (wordsSigns Tryd.prog.initOrder.toList) = "cut".toList :: rest := by
  rw [headC]
  cases h : behindMainWord (wordsSigns headL) with
  | nil =>
    have e := headW
    rw [h] at e
    cases e
  | cons c rest =>
    have e := headW
    rw [h] at e
    exact ⟨rest, by rw [Option.some.inj e]⟩
theorem strip (rest : List (List Char)) : stripLifts liftWords ("cut".toList :: rest) = ([], "cut".toList :: rest) := by kernel_rfl
theorem mayEnter_of {P : Program} {rest : List (List Char)} (h : behindMainWord (wordsSigns P.initOrder.toList) = "cut".toList :: rest) (h1 : P.laysLater = false) (h2 : P.bearsReflect = false) (h3 : P.doorFits [] = true) : P.mayEnter = true := by
  unfold Program.mayEnter
  rw [h]
  simp only [strip, h1, h2, h3]
  simp
theorem headLifts_of {P : Program} {rest : List (List Char)} (h : behindMainWord (wordsSigns P.initOrder.toList) = "cut".toList :: rest) : P.headLifts = [] := by
  unfold Program.headLifts
  rw [h]
  simp only [strip]
  simp
theorem liftsFinal_of {P : Program} {rest : List (List Char)} (h : behindMainWord (wordsSigns P.initOrder.toList) = "cut".toList :: rest) : P.liftsFinal = false := by
  unfold Program.liftsFinal
  rw [h, headLifts_of h]
  kernel_rfl
theorem make_of {P : Program} {rest : List (List Char)} (h : behindMainWord (wordsSigns P.initOrder.toList) = "cut".toList :: rest) : P.make = some .cut := by
  unfold Program.make
  rw [h, headLifts_of h]
  kernel_rfl
theorem laysLater : Tryd.prog.laysLater = false := by kernel_rfl
theorem bearsReflect : Tryd.prog.bearsReflect = false := by kernel_rfl
theorem doorFits : Tryd.prog.doorFits [] = true := by kernel_rfl
theorem mayEnter : Tryd.prog.mayEnter = true := headR.elim fun _ hr => mayEnter_of hr laysLater bearsReflect doorFits
theorem liftsFinal : Tryd.prog.liftsFinal = false := headR.elim fun _ hr => liftsFinal_of hr
theorem make : Tryd.prog.make = some .cut := headR.elim fun _ hr => make_of hr
end Eng
end Go.Proofs.YtogljflccfoaeaaDoor
