/- The guards and the outputs of a tape moved to other registers, in the program and in the reference. Conditions: as each says. -/
import Derived.Test.YtgahkbcfjibjaaaTl
namespace Go.Proofs.Ytgahkbcfjibjaaa
open Go Go.RowKit
namespace Eng
def gdTo (to : List Int) (g : Gd) : Gd := ⟨to.getD g.reg.toNat 0, g.zero⟩
def gdsTo (t : Tp) (to : List Int) (k : Nat) : List Gd := (List.range k).map fun i => gdTo to (t.guards.getD i dGd)
def outsTo (t : Tp) (to : List Int) (k : Nat) : List Int := mapR (fun i => to.getD (t.outs.getD i 0).toNat 0) k
theorem gdsTo_length (t : Tp) (to : List Int) (k : Nat) : (gdsTo t to k).length = k := by simp [gdsTo]
theorem gdsTo_succ (t : Tp) (to : List Int) (k : Nat) : gdsTo t to (k + 1) = gdsTo t to k ++ [gdTo to (t.guards.getD k dGd)] := by simp [gdsTo, List.range_succ]
theorem gdL_snoc (xs : List Gd) (x : Gd) : gdL (xs ++ [x]) = gdL xs ++ gdV x := by simp [gdL]
/-- A tape with other code, its ends moved. -/
def endT (t : Tp) (code : List Ins) (to : List Int) : Tp := ⟨t.inputs, code, gdsTo t to t.guards.length, outsTo t to t.outs.length⟩
theorem Ext.onlyO {w a b : World} {s : Value} {e sz n : Nat} {cs : List Value} (h : Ext w a) (ho : a.ownsRow w.heap.size e sz s n cs) (k : Only [s.ownBlock] a b) : Ext w b := Only.after h k fun j hj => (own_block ho (by simpa using (List.mem_singleton.1 hj).symm)).1
theorem Only.weakO {a b : World} {x : Option Nat} (h : Ext a b) : Only [x] a b := (Only.ext h).mono fun y hy => by cases hy
theorem Only.foreO {a b c : World} {x : Option Nat} (h : Only [x] a b) (k : Ext b c) : Only [x] a c := (h.trans (Only.ext k)).mono fun y hy => by simpa using hy
theorem Only.thenO {a b c : World} {x : Option Nat} (h : Ext a b) (k : Only [x] b c) : Only [x] a c := ((Only.ext h).trans k).mono fun y hy => by simpa using hy
theorem own_box {w w' : World} {B e e' sz sz' n n' c g : Nat} {v : Value} {cs ds : List Value} (ho : w.ownsRow B e sz v n cs) (hat : At w e' sz' g n' c ds) (hne : e ≠ e') (hg : w.grownBy w' (some g)) : w'.ownsRow B e sz v n cs := own_far ho hg (own_ne ho (At.own hat (Nat.le_refl _)) hne)
theorem own_one {w : World} {B e sz n : Nat} {v : Value} {cs : List Value} (h : w.ownsRow B e sz v n cs) : v.oneCell' = true ∧ v.cells = #[v] := by
  obtain ⟨A0, c0, rfl, _⟩ := own_form h
  exact ⟨rfl, rfl⟩
theorem At.apartO {w : World} {e e' sz sz' g n n' c B : Nat} {cs ds : List Value} {s : Value} (h : At w e sz g n c cs) (ho : w.ownsRow B e' sz' s n' ds) (hne : e ≠ e') : some g ∉ [s.ownBlock] := by
  intro hm
  have hm : some g = s.ownBlock := by simpa using hm
  rcases own_ne (At.own h (Nat.le_refl _)) ho hne with q | q
  · cases q
  · exact q hm
end Eng
end Go.Proofs.Ytgahkbcfjibjaaa
