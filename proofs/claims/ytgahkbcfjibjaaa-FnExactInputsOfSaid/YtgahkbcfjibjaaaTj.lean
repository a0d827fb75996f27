/- AdjointsOf, TapeReverse and TapeHessian: contracts. Conditions: the lengths. -/
import Derived.Test.YtgahkbcfjibjaaaTi
namespace Go.Proofs.Ytgahkbcfjibjaaa
open Go Go.RowKit
namespace Eng
theorem Only.cellE {w w' : World} {g b o : Nat} {e : TypeId} {f : Nat × Nat} {v : Value} (k : Only [some g] w w') (hE : w.heap[g]? = some (.cells #[] e f)) (hc : w.cell? ⟨b, o, none⟩ = some v) : w'.cell? ⟨b, o, none⟩ = some v := by
  have hlt := World.block_lt_of_cell? w _ hc
  refine (cell_of_block (k.block b hlt ?_)).trans hc
  intro hm
  obtain rfl : b = g := by simpa using hm
  simp [World.cell?, hE] at hc
section
variable {P : Program} [UTab P] {n : Nat} {ρ : Env} {dst : Option Tmp} {ty : TypeId} {pos : String} {af : Array Edge} {gd : Option (Nat × Bool)}
theorem Hv.build0E {w : World} {t e : TypeId} {z : Value} {size by_ : Nat} (ht : UTab.und P t = some (.slice e)) (hi : UTab.inf P e = some (z, size, by_)) :
    Hv P n ρ ⟨dst, .buildSlice t 0 #[], ty, pos, af, gd⟩ w (fun v w' => ∃ g, v = .slice (some ⟨g, 0, none⟩) 0 0 ∧ g = w.heap.size ∧ w'.heap[g]? = some (.cells #[] e (0, 0)) ∧ w'.ownsRow w.heap.size e size v 0 [] ∧ Ext w w') :=
  ⟨fun a ha K' Q' h => by
    obtain ⟨hs, _⟩ := run_inf hi w
    have hrun' : (execOp a.eval ⟨dst, .buildSlice t 0 #[], ty, pos, af, gd⟩).run P w = .ok (.value (.slice (some ⟨w.heap.size, 0, none⟩) 0 0)) (w.alloc (.cells #[] e)) := by
      simp [execOp, Instr.buildSlice, run_und ht, hs, Instr.fill, newRow, Array.range_zero']
    unfold Oper.wp
    rw [hrun']
    refine h _ _ ⟨_, rfl, rfl, heap_alloc_new w _, ⟨by simp, .inr ⟨w.heap.size, 0, #[], rfl, Nat.le_refl _, heap_alloc_new w _, Nat.le_refl _, Nat.zero_le _, by simp, by simp⟩⟩, Ext.alloc w _⟩⟩
end
theorem goodW_int (t : Tp) (ws : List Int) : (decide ((ws.length : Int) = (t.outs.length : Int)) && nums ws) = goodW t ws := by
  unfold goodW
  by_cases h : ws.length = t.outs.length
  · rw [decide_eq_true h, decide_eq_true (by omega)]
  · rw [decide_eq_false h, decide_eq_false (by omega)]
def SwOut (w : World) (r : List (List Int) × Int) (v : Value) (w' : World) : Prop := ∃ s, v = .tuple #[s, .int .i64 r.2] ∧ (r.2 = 0 → ∃ A c, s = .slice A r.1.length c ∧ Rows w' A r.1) ∧ Ext w w'
end Eng
end Go.Proofs.Ytgahkbcfjibjaaa
