/- The reverse sweep in the reference, continued. Conditions: as each says. -/
import Derived.Test.YtgahkbcfjibjaaaTg
namespace Go.Proofs.Ytgahkbcfjibjaaa
open Go Go.RowKit
namespace Eng
theorem EW.viaN {P : Program} {n : Nat} {Q : Exit → Env → World → Prop} {ρ : Env} {w : World} {x : Code} (M : Env → World → Prop) (h : EW P n x (thenE M Q) ρ w) (h2 : ∀ ρ' w', M ρ' w' → Q .normal ρ' w') : EW P n x Q ρ w :=
  EW.mono h fun e ρ' w' hq => by cases e <;> first | exact h2 _ _ hq | exact hq
theorem swS_next {t : Tp} {regs : List (List Int)} {ws : List Int} {sz m : Nat} (h : m < t.code.length) : swS t regs ws sz (t.code.length - m) = swStep regs m (t.code.getD m dIns) (swS t regs ws sz (t.code.length - (m + 1))) := by
  rw [show t.code.length - m = (t.code.length - (m + 1)) + 1 from by omega, swS, show t.code.length - 1 - (t.code.length - (m + 1)) = m from by omega]
theorem constL_zeros (m : Nat) : constL 0 m = List.replicate m 0 := by
  cases m with
  | zero => rfl
  | succ m => simp [constL, List.replicate_succ]
end Eng
end Go.Proofs.Ytgahkbcfjibjaaa
