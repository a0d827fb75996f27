/- Structs for the calculus: boxes, fields, loads and stores of several cells, results in cells. General lemmas, no condition. -/
import Derived.Test.YtogljflccfoaeaaDoorMem
import Derived.Laws.IdiomCopy
namespace Go.Proofs.YtogljflccfoaeaaDoor
open Go Go.RowKit
namespace Eng
theorem addr_add (b o j : Nat) : (⟨b, o, none⟩ : Addr).add j = ⟨b, o + j, none⟩ := by
  unfold Addr.add
  split
  · simp_all
  · rfl
/-- The cells cs lie at an address. -/
def Lies (w : World) (b o : Nat) (cs : List Value) : Prop := ∀ j v, cs[j]? = some v → w.cell? ⟨b, o + j, none⟩ = some v
theorem Lies.ext {w w' : World} {b o : Nat} {cs : List Value} (h : Lies w b o cs) (he : Ext w w') : Lies w' b o cs := fun j v hj => he.cell (h j v hj)
theorem Lies.drew {w w' : World} {b o : Nat} {cs : List Value} (h : Lies w b o cs) (he : w' = w.drew) : Lies w' b o cs := by subst he; exact h
/-- Part of what lies there. -/
theorem Lies.part {w : World} {b o k n : Nat} {cs ds : List Value} (h : Lies w b o cs) (e : (cs.drop k).take n = ds) : Lies w b (o + k) ds := fun j v hj => by
  subst e
  rw [List.getElem?_take] at hj
  split at hj
  · rw [List.getElem?_drop] at hj
    have := h (k + j) v hj
    rwa [← Nat.add_assoc] at this
  · cases hj
/-- What cells hold when vs is written from o on. -/
def setL (cs : List Value) (o : Nat) : List Value → List Value
  | [] => cs
  | v :: r => setL (cs.set o v) (o + 1) r
theorem At.sets {e size g n c : Nat} : ∀ (vs : List Value) (o : Nat) (w : World) (cs : List Value), At w e size g n c cs → At (w.setCells g o vs) e size g n c (setL cs o vs)
  | [], _, _, _, h => h
  | v :: r, o, _, _, h => At.sets r (o + 1) _ _ (At.set_ h o v)
theorem At.fars {e size g n c b : Nat} (hb : b ≠ g) : ∀ (vs : List Value) (o : Nat) (w : World) (cs : List Value), At w e size g n c cs → At (w.setCells b o vs) e size g n c cs
  | [], _, _, _, h => h
  | v :: r, o, _, _, h => At.fars hb r (o + 1) _ _ (At.far (p := ⟨b, o, none⟩) h hb v)
theorem Below.sets {B b : Nat} {a : World} (hb : B ≤ b) : ∀ (vs : List Value) (o : Nat) (w : World), Below B a w → Below B a (w.setCells b o vs)
  | [], _, _, h => h
  | v :: r, o, _, h => Below.sets hb r (o + 1) _ (Below.set_ h hb v)
theorem At.lies {w : World} {e size g n c : Nat} {cs : List Value} (h : At w e size g n c cs) : Lies w g 0 cs := fun j v hj => by rw [Nat.zero_add]; exact h.cell hj
theorem At.fresh (w : World) (e : TypeId) (cs : Array Value) (n : Nat) (hn : cs.size = n) : At (w.alloc (.cells cs e)) e n w.heap.size 1 1 cs.toList :=
  ⟨by simp [hn], cs, heap_alloc_new w _, Nat.le_refl _, by decide, by omega, by rw [List.take_of_length_le (by simp [hn])]⟩

section
variable {P : Program} [UTab P] {n : Nat} {S : World → Prop} {ρ : Env} {dst : Option Tmp} {ty : TypeId} {pos : String} {af : Array Edge} {gd : Option (Nat × Bool)}
theorem run_isAgg_many {t : TypeId} {d : TypeDesc} (ht : UTab.und P t = some d) (hd : oneDesc d = false) (w : World) : (isAgg t).run P w = .ok true w := by
  cases d <;> simp [oneDesc] at hd <;> simp [isAgg, run_und ht]
theorem FV.fieldAddr {x : Operand} {s : TypeId} {fs : Array Field} {i b o : Nat} {fld : Field} {z : Value} {sz by_ : Nat} (hs : UTab.und P s = some (.struct fs)) (hf : fs[i]? = some fld) (hi : UTab.inf P fld.type = some (z, sz, by_)) (h0 : Nat.beq sz 0 = false)
    (hx : ev ρ x = some (.pointer (some ⟨b, o, none⟩))) : FV P n S ρ ⟨dst, .fieldAddr s x i, ty, pos, af, gd⟩ (.pointer (some ⟨b, o + fld.offset, none⟩)) :=
  ⟨fun a ha w _ => by
    have e1 := (run_inf hi w).1
    have h0' : ¬ sz = 0 := by rintro rfl; cases h0
    simp [execOp, ha.eval hx, Instr.fieldAt, run_und hs, hf, Instr.sureAddr, fieldPlace, e1, h0', addr_add]⟩
theorem FV.loadAgg {x : Operand} {t : TypeId} {d : TypeDesc} {b o : Nat} {z : Value} {sz by_ : Nat} {cs : List Value} (ht : UTab.und P t = some d) (hd : oneDesc d = false) (hi : UTab.inf P t = some (z, sz, by_)) (hl : cs.length = sz)
    (hx : ev ρ x = some (.pointer (some ⟨b, o, none⟩))) (hc : ∀ w, S w → Lies w b o cs) : FV P n S ρ ⟨dst, .load t x, ty, pos, af, gd⟩ (.agg cs.toArray) :=
  ⟨fun a ha w hS => by
    have e1 := (run_inf hi w).1
    have e2 := run_loadCells_list (P := P) w ⟨b, o, none⟩ cs fun j v hj => by rw [addr_add]; exact hc w hS j v hj
    rw [hl] at e2
    simp [execOp, ha.eval hx, Instr.loadAt, Instr.sureAddr, loadVar, run_isAgg_many ht hd, e1, e2]⟩
theorem FV.field {x : Operand} {s : TypeId} {fs : Array Field} {i : Nat} {fld : Field} {d : TypeDesc} {cs : Array Value} {v : Value} (hs : UTab.und P s = some (.struct fs)) (hf : fs[i]? = some fld) (ht : UTab.und P fld.type = some d) (hd : oneDesc d = true)
    (hx : ev ρ x = some (.agg cs)) (hv : cs[fld.offset]? = some v) : FV P n S ρ ⟨dst, .field s x i, ty, pos, af, gd⟩ v :=
  ⟨fun a ha w _ => by
    simp [execOp, ha.eval hx, Instr.field, run_und hs, hf, part, run_isAgg_one ht hd, asAgg, hv]⟩
omit [UTab P] in
/-- a new block for a value -/
theorem Hv.box {w : World} {x : Operand} {t : TypeId} {u : Value} (hx : ev ρ x = some u) :
    Hv P n ρ ⟨dst, .box t x, ty, pos, af, gd⟩ w (fun v w' => v = .pointer (some ⟨w.heap.size, 0, none⟩) ∧ w' = w.alloc (.cells u.cells t)) :=
  ⟨fun a ha K' Q' h => by
    have hrun' : (execOp a.eval ⟨dst, .box t x, ty, pos, af, gd⟩).run P w = .ok (.value (.pointer (some ⟨w.heap.size, 0, none⟩))) (w.alloc (.cells u.cells t)) := by
      simp [execOp, ha.eval hx, Instr.box, newVar, newRow]
    unfold Oper.wp
    rw [hrun']
    exact h _ _ ⟨rfl, rfl⟩⟩
theorem Hv.alloc {w : World} {t : TypeId} {z : Value} {sz by_ : Nat} (hi : UTab.inf P t = some (z, sz, by_)) :
    Hv P n ρ ⟨dst, .alloc t, ty, pos, af, gd⟩ w (fun v w' => v = .pointer (some ⟨w.heap.size, 0, none⟩) ∧ w' = w.alloc (.cells z.cells t)) :=
  ⟨fun a ha K' Q' h => by
    obtain ⟨_, hz, _⟩ := run_inf hi w
    have hrun' : (execOp a.eval ⟨dst, .alloc t, ty, pos, af, gd⟩).run P w = .ok (.value (.pointer (some ⟨w.heap.size, 0, none⟩))) (w.alloc (.cells z.cells t)) := by
      simp [execOp, Instr.alloc, hz, newVar, newRow]
    unfold Oper.wp
    rw [hrun']
    exact h _ _ ⟨rfl, rfl⟩⟩
/-- a store of several cells into a row of one's own -/
theorem Hv.storeAgg {w : World} {x y : Operand} {t e : TypeId} {z : Value} {sz by_ size g o m c : Nat} {cs vs : List Value} (hi : UTab.inf P t = some (z, sz, by_)) (hx : ev ρ x = some (.pointer (some ⟨g, o, none⟩))) (hy : ev ρ y = some (.agg vs.toArray))
    (hl : vs.length = sz) (h1 : ∀ v ∈ vs, v.oneCell' = true) (hat : At w e size g m c cs) (hb : o + vs.length ≤ cs.length) :
    Hv P n ρ ⟨none, .store t x y, ty, pos, af, gd⟩ w (fun _ w' => w' = w.setCells g o vs ∧ At w' e size g m c (setL cs o vs)) :=
  ⟨fun a ha K' Q' h => by
    have e1 := (run_inf hi w).1
    have e2 := run_storeCells_cells (P := P) g o vs 0 w (fun j hj => by
      have hlt : o + j < cs.length := by omega
      rw [Nat.add_zero, hat.cell (List.getElem?_eq_getElem hlt)]
      rfl) (fun j _ => hat.frozen _) h1
    rw [Nat.add_zero] at e2
    have hrun : (execOp a.eval ⟨none, .store t x y, ty, pos, af, gd⟩).run P w = .ok .skip (w.setCells g o vs) := by
      simp [execOp, ha.eval hx, ha.eval hy, Instr.storeAt, Instr.sureAddr, storeVar, Value.cells, e1, e2, hl]
    unfold Oper.wp
    rw [hrun]
    exact h undef _ ⟨rfl, At.sets vs o w cs hat⟩⟩
/-- a store of one cell into a row of one's own, whatever its elements' size -/
theorem Hv.storeIn {w : World} {x y : Operand} {t e : TypeId} {z : Value} {by_ size g k m c : Nat} {cs : List Value} {v u : Value} (hi : UTab.inf P t = some (z, 1, by_)) (hx : ev ρ x = some (.pointer (some ⟨g, k, none⟩))) (hy : ev ρ y = some v) (h1 : v.oneCell' = true) (hv : v.cells = #[v]) (hat : At w e size g m c cs) (hk : cs[k]? = some u) :
    Hv P n ρ ⟨none, .store t x y, ty, pos, af, gd⟩ w (fun _ w' => w' = w.setCell ⟨g, k, none⟩ v ∧ At w' e size g m c (cs.set k v)) :=
  (Hv.store hi hx hy h1 hv (hat.cell hk) (hat.frozen k)).mono fun _ _ h => ⟨h, h ▸ hat.set_ k v⟩
end
/-! a result that lies in cells -/
def postC (t : Tmp) (sz : Nat) (R : Value → World → Prop) : Exit → Env → World → Prop
  | .normal, ρ, w | .ret, ρ, w => ∃ b o cs, get ρ t = some (.pointer (some ⟨b, o, none⟩)) ∧ cs.length = sz ∧ Lies w b o cs ∧ R (.agg cs.toArray) w
  | _, _, _ => False
theorem results_cell {P : Program} [UTab P] {ρ : Env} {n : Nat} {a : Act} (ha : Fits ρ n a) {fn : Func} {t : Tmp} {e : TypeId} {d : TypeDesc} {z : Value} {sz by_ b o : Nat} {cs : List Value} {w : World} (hr : fn.results = #[.cell t e]) (ht : UTab.und P e = some d) (hd : oneDesc d = false) (hi : UTab.inf P e = some (z, sz, by_))
    (hg : get ρ t = some (.pointer (some ⟨b, o, none⟩))) (hl : cs.length = sz) (hc : Lies w b o cs) : (results fn a.tmps).run P w = .ok (.agg cs.toArray) w := by
  have hget : a.tmps.getD t undef = .pointer (some ⟨b, o, none⟩) := by simp [ha.val t _ hg]
  have e1 := (run_inf hi w).1
  have e2 := run_loadCells_list (P := P) w ⟨b, o, none⟩ cs fun j v hj => by rw [addr_add]; exact hc j v hj
  rw [hl] at e2
  simp at hget
  simp [results, hr, hget, asAddr, loadVar, run_isAgg_many ht hd, e1, e2]
theorem CallsR.enterC {P : Program} [UTab P] {f : FuncId} {fn : Func} {c : Code} {args : List Value} {w : World} {R : Value → World → Prop} {n : Nat} {t : Tmp} {e : TypeId} {d : TypeDesc} {z : Value} {sz by_ : Nat}
    (hf : P.funcs[f]? = some fn) (hnm : (fn.name == "runtime.NumGoroutine") = false) (hb : fn.body = some c) (hn : fn.ntmps = n) (hle : Nat.ble args.length n = true) (hr : fn.results = #[.cell t e]) (ht : UTab.und P e = some d) (hd : oneDesc d = false) (hi : UTab.inf P e = some (z, sz, by_))
    (h : EW P n c (postC t sz R) (envOf 0 args) w) : CallsR P f args w R := by
  refine ⟨calls_of_wp hf hb ?_, ⟨fn, hf, hnm, by rw [hb]; rfl⟩⟩
  have hfit : Fits (envOf 0 args) n { tmps := args.toArray ++ Array.replicate (fn.ntmps - args.toArray.size) undef, defers := [] } := by
    have hle' : args.length ≤ n := by simpa using hle
    refine ⟨rfl, by simp [hn]; omega, fun t v ht => ?_⟩
    obtain ⟨_, h2⟩ := get_envOf args 0 t v ht
    simp only [Nat.sub_zero] at h2
    have hlt : t < args.length := (List.getElem?_eq_some_iff.1 h2).1
    rw [Array.getElem?_append_left (by simpa using hlt)]
    simpa using h2
  refine wp_mono (h.out _ hfit) fun e a' w' ⟨ρ', hf', hq⟩ => ?_
  cases e with
  | normal => obtain ⟨b, o, cs, hg, hl, hc, hR⟩ := hq; exact ⟨hf'.defers, _, results_cell hf' hr ht hd hi hg hl hc, hR⟩
  | ret => obtain ⟨b, o, cs, hg, hl, hc, hR⟩ := hq; exact ⟨hf'.defers, _, results_cell hf' hr ht hd hi hg hl hc, hR⟩
  | exit id => exact hq.elim
  | goto l => exact hq.elim
  | panic ch => exact hq.elim
  | outgrown => exact hq.elim
end Eng
end Go.Proofs.YtogljflccfoaeaaDoor
