/- Steps on strings, and slice literals, for the calculus. General lemmas, no condition. -/
import Derived.Test.YtogljflccfoaeaaDoorMem
import Derived.Great.BuildSlice
namespace Go.Proofs.YtogljflccfoaeaaDoor
open Go Go.RowKit
namespace Eng
section
variable {P : Program} {n : Nat} {S : World → Prop} {ρ : Env} {dst : Option Tmp} {ty : TypeId} {pos : String} {af : Array Edge} {g : Option (Nat × Bool)}
theorem FV.neqS {x y : Operand} {t u : TypeId} {b c : ByteArray} (hx : ev ρ x = some (.string b)) (hy : ev ρ y = some (.string c)) : FV P n S ρ ⟨dst, .binOp .neq t x y u, ty, pos, af, g⟩ (.bool (!(b.toList == c.toList))) :=
  ⟨fun a ha w _ => by simp [execOp, ha.eval hx, ha.eval hy, eqGuard, binOp, Op.stringOp]⟩
end
section
variable {P : Program} [UTab P] {n : Nat} {ρ : Env} {dst : Option Tmp} {ty : TypeId} {pos : String} {af : Array Edge} {g : Option (Nat × Bool)}
/-- A slice literal of values of one cell each. -/
theorem Hv.buildL {w : World} {t e : TypeId} {z : Value} {by_ len : Nat} {parts : Array (Nat × Operand)} {vs : List Value} (ht : UTab.und P t = some (.slice e)) (hi : UTab.inf P e = some (z, 1, by_))
    (hp : parts.toList = (vs.zipIdx 0).map fun x => (x.2, Operand.const x.1)) (h1 : ∀ v ∈ vs, v.cells = #[v]) (hl : len = vs.length) (h0 : 0 < len) (h2 : len ≤ 16777216) :
    Hv P n ρ ⟨dst, .buildSlice t len parts, ty, pos, af, g⟩ w (fun v w' => v = .slice (some ⟨w.heap.size, 0, none⟩) len len ∧ w' = w.alloc (.cells vs.toArray e)) :=
  ⟨fun a ha K' Q' h => by
    obtain ⟨_, _, i, _, hi', hz, hs, hby⟩ := run_inf hi w
    have hf : Instr.fill (fun j => some (j * i.size, i.size)) ((Array.range (len * i.size)).map (z.cells[· % z.cells.size]!)) (parts.map fun (i, x) => (i, a.eval x)).toList = some vs.toArray := by
      rw [Array.toList_map, hp, List.map_map, hs]
      exact Great.fill_flat _ _ h1 (by simp [hl])
    have hrun' : (execOp a.eval ⟨dst, .buildSlice t len parts, ty, pos, af, g⟩).run P w = .ok (.value (.slice (some ⟨w.heap.size, 0, none⟩) len len)) (w.alloc (.cells vs.toArray e)) := by
      simp only [execOp, Sem.run_bind, run_buildSlice w t e len _ vs.toArray i z (UTab.und_ok _ _ ht) hi' hz (by rw [hs]; omega) (by rw [hs]; omega) hf, Result.andThen_ok]
      rfl
    unfold Oper.wp
    rw [hrun']
    exact h _ _ ⟨rfl, rfl⟩⟩
end
section
theorem cell_alloc {w : World} {vs : List Value} {e : TypeId} {j : Nat} {v : Value} (h : vs[j]? = some v) : (w.alloc (.cells vs.toArray e)).cell? ⟨w.heap.size, j, none⟩ = some v := by
  rw [cell_of_row _ _ _ _ _ (0, 0) (heap_alloc_new w _)]
  simpa using h
end
end Eng
end Go.Proofs.YtogljflccfoaeaaDoor
