/- Buffers of bytes and string builders for the calculus. Conditions: the lengths. -/
import Derived.Test.YtogljflccfoaeaaDoorXj
import Derived.Test.YtogljflccfoaeaaDoorLb
import Derived.Test.YtogljflccfoaeaaDoorStr
import Derived.Test.YtogljflccfoaeaaDoorTp
import Derived.Lib.AppendStr
import Derived.Laws.IdiomStrings
namespace Go.Proofs.YtogljflccfoaeaaDoor
open Go Go.RowKit
namespace Eng
theorem extraWB : Builder.Extra Tryd.prog layWBR where
  sizeBuilder := by kernel_rfl
  liesBuilder := by kernel_rfl
  t5 := Tryd.underlying5
  a5 := Tryd.isAgg5
  z5 := Tryd.sizeOf5
  v5 := Tryd.zeroValue5
  infoByte := by kernel_rfl
  cellsByte := by kernel_rfl
  sizeByte := by kernel_rfl
  neB5 := by decide
/-- A buffer of one's own that holds these bytes; the model's mark of a text made of bytes lies behind its room. -/
def BufW (B : Nat) (w : World) (v : Value) (l : List UInt8) : Prop := ∃ g cap cur fz, v = .slice (some ⟨g, 0, none⟩) l.length cap ∧ B ≤ g ∧ w.heap[g]? = some (Obj.cells cur 5 fz) ∧ (fz = (0, 0) ∨ cap ≤ fz.1) ∧ l.length ≤ cap ∧ cap ≤ maxLen ∧ cur.size = cap ∧ cur.toList.take l.length = Lib.byteCells l
theorem BufW.ext {B : Nat} {w w' : World} {v : Value} {l : List UInt8} (h : BufW B w v l) (he : Ext w w') : BufW B w' v l := by
  obtain ⟨g, cap, cur, fz, h1, h2, h3, h4⟩ := h
  exact ⟨g, cap, cur, fz, h1, h2, (he.block g (Array.getElem?_eq_some_iff.1 h3).1).trans h3, h4⟩
theorem BufW.lies {B : Nat} {w : World} {v : Value} {l : List UInt8} (h : BufW B w v l) : ∃ g cap, v = .slice (some ⟨g, 0, none⟩) l.length cap ∧ Lies w g 0 (Lib.byteCells l) := by
  obtain ⟨g, cap, cur, fz, h1, h2, h3, h4, h5, h6, h7, h8⟩ := h
  refine ⟨g, cap, h1, fun j v hj => ?_⟩
  rw [Nat.zero_add, cell_of_row w g j cur 5 fz h3]
  rw [← h8] at hj
  rw [List.getElem?_take] at hj
  split at hj
  · rwa [Array.getElem?_toList] at hj
  · cases hj
theorem unfrozen {w : World} {g : Nat} {cur : Array Value} {t : TypeId} {fz : Nat × Nat} {cap : Nat} (h : w.heap[g]? = some (Obj.cells cur t fz)) (hf : fz = (0, 0) ∨ cap ≤ fz.1) {k : Nat} (hk : k < cap) : w.frozen? ⟨g, k, none⟩ = false := by
  obtain ⟨lo, hi⟩ := fz
  unfold World.frozen?
  rw [h]
  rcases hf with hf | hf
  · injection hf with h1 h2
    subst h1 h2
    simp
  · dsimp only at hf ⊢
    have : ¬ lo ≤ k := by omega
    simp [this]
theorem setCells_row {g : Nat} {t : TypeId} {fz : Nat × Nat} : ∀ (vs : List Value) (o : Nat) (w : World) (cur : Array Value), w.heap[g]? = some (Obj.cells cur t fz) → o + vs.length ≤ cur.size →
    ∃ cur' : Array Value, (w.setCells g o vs).heap[g]? = some (Obj.cells cur' t fz) ∧ cur'.size = cur.size ∧ cur'.toList.take (o + vs.length) = cur.toList.take o ++ vs
  | [], o, w, cur, h, _ => ⟨cur, h, rfl, by simp⟩
  | v :: r, o, w, cur, h, hl => by
    simp only [List.length_cons] at hl
    have hnew : (w.setCell ⟨g, o, none⟩ v).heap[g]? = some (Obj.cells (cur.setIfInBounds o v) t fz) := by
      simp [World.setCell, Array.getElem?_modify, h]
    obtain ⟨cur', h1, h2, h3⟩ := setCells_row r (o + 1) (w.setCell ⟨g, o, none⟩ v) _ hnew (by simp; omega)
    refine ⟨cur', h1, by rw [h2]; simp, ?_⟩
    rw [show o + (v :: r).length = o + 1 + r.length from by simp; omega, h3]
    have : (cur.setIfInBounds o v).toList.take (o + 1) = cur.toList.take o ++ [v] := by
      rw [List.take_add_one]
      simp [show o < cur.size by omega, List.take_set_of_le (Nat.le_refl o)]
    rw [this, List.append_assoc]
    rfl
theorem strCells_str (m : List UInt8) : Lib.strCells (str m) = Lib.byteCells m := by
  rw [Lib.strCells_eq]
  simp [str]
theorem byteCells_one (l : List UInt8) : ∀ v ∈ Lib.byteCells l, v.oneCell' = true := by
  intro v hv
  obtain ⟨b, _, rfl⟩ := List.mem_map.1 hv
  rfl
theorem u8info : ∃ i : TypeInfo, Tryd.prog.info? 5 = some i ∧ i.zero = some (.int .u8 0) ∧ i.size = 1 ∧ i.bytes = 1 := by
  have h := infL_ok (5, (.int .u8 0, 1, 1)) (by simp [infL])
  obtain ⟨i, hi, e⟩ := Option.map_eq_some_iff.1 h
  simp only [Prod.mk.injEq] at e
  exact ⟨i, hi, e.1, e.2.1, e.2.2⟩
theorem Ext.lowerB {B : Nat} {w w' : World} (hB : B ≤ w.heap.size) (h : Ext w w') : Below B w w' := ⟨h.os, h.tape, h.output, h.size, fun k hk => h.block k (by omega)⟩
theorem grown_buf {B : Nat} {w : World} (l m : List UInt8) (old : Nat) (hlen : l.length + m.length ≤ 1000000000) (hB : B ≤ w.heap.size) {zc : Array Value} (hz : zc.size = grownCap w (l.length + m.length) old 5 - (l.length + m.length)) :
    BufW B (w.drew.alloc (.cells ((Lib.byteCells l).toArray ++ (Lib.byteCells m).toArray ++ zc) 5)) (.slice (some ⟨w.heap.size, 0, none⟩) (l.length + m.length) (grownCap w (l.length + m.length) old 5)) (l ++ m) := by
  have hge := grownCap_ge w (l.length + m.length) old 5
  have hcm := grownCap_le_maxLen w (l.length + m.length) old 5 (by unfold maxLen; omega)
  refine ⟨w.heap.size, _, _, (0, 0), by rw [List.length_append], hB, heap_alloc_new w.drew _, .inl rfl, by rw [List.length_append]; exact hge, hcm, ?_, ?_⟩
  · simp only [Array.size_append, List.size_toArray, Lib.byteCells_length, hz]
    omega
  · rw [Array.toList_append, Array.toList_append, Lib.byteCells_append, List.length_append]
    rw [show l.length + m.length = (Lib.byteCells l ++ Lib.byteCells m).length from by simp [Lib.byteCells_length]]
    show List.take _ ((Lib.byteCells l ++ Lib.byteCells m) ++ zc.toList) = _
    exact List.take_left
section
variable {n : Nat} {ρ : Env} {dst : Option Tmp} {ty : TypeId} {pos : String} {af : Array Edge} {gd : Option (Nat × Bool)}
theorem Hv.toBytes {w : World} {x : Operand} {s : ByteArray} {l : List UInt8} (hx : ev ρ x = some (.string s)) (hs : s = str l) (hl : l.length ≤ 1000000000) :
    Hv Tryd.prog n ρ ⟨dst, .convert 9 57 x, ty, pos, af, gd⟩ w (fun v w' => BufW w.heap.size w' v l ∧ Ext w w') := by
  subst hs
  refine ⟨fun a ha K' Q' h => ?_⟩
  have hrun := run_bytes_of_string (P := Tryd.prog) w 9 57 5 (str l) Tryd.underlying9 Tryd.underlying57 Tryd.underlying5
  have hrun' : (execOp a.eval ⟨dst, .convert 9 57 x, ty, pos, af, gd⟩).run Tryd.prog w = .ok (.value (.slice (some ⟨w.heap.size, 0, none⟩) (str l).size (grownCap w (str l).size 0 5)))
      (w.drew.alloc (.cells (bytesRow (str l) (grownCap w (str l).size 0 5)) 5 ((bytesRow (str l) (grownCap w (str l).size 0 5)).size, (bytesRow (str l) (grownCap w (str l).size 0 5)).size + 1))) := by
    simp only [execOp, ha.eval hx, Sem.run_bind, hrun, Result.andThen_ok]
    rfl
  unfold Oper.wp
  rw [hrun']
  refine h _ _ ⟨?_, (Ext.drew w).trans (Ext.alloc w.drew _)⟩
  have hsz := str_size l
  have hge := grownCap_ge w (str l).size 0 5
  have hcm := grownCap_le_maxLen w (str l).size 0 5 (by unfold maxLen; omega)
  have hrs : (bytesRow (str l) (grownCap w (str l).size 0 5)).size = grownCap w (str l).size 0 5 := by
    unfold bytesRow
    rw [Array.size_append, Array.size_map, Array.size_replicate]
    have : (str l).data.size = (str l).size := rfl
    omega
  refine ⟨w.heap.size, grownCap w (str l).size 0 5, _, _, by rw [hsz], Nat.le_refl _, heap_alloc_new w.drew _, .inr (by rw [hrs]; exact Nat.le_refl _), by omega, hcm, hrs, ?_⟩
  unfold bytesRow
  rw [Array.toList_append]
  have e1 : ((str l).data.map fun b => Value.int .u8 b.toNat).toList = Lib.byteCells l := by simp [str, Lib.byteCells]
  rw [e1, show l.length = (Lib.byteCells l).length from (Lib.byteCells_length l).symm]
  simp
theorem appendRun {B : Nat} {w : World} {v : Value} {l m : List UInt8} (hb : BufW B w v l) (hB : B ≤ w.heap.size) (hl : l.length + m.length ≤ 1000000000) :
    ∃ v' w', (Builtin.append_ #[57, 9] ty #[v, .string (str m)]).run Tryd.prog w = .ok v' w' ∧ BufW B w' v' (l ++ m) ∧ Below B w w' := by
  obtain ⟨i, hi, hz, hs1, hby⟩ := u8info
  have hlie := hb.lies
  obtain ⟨g, cap, cur, fz, rfl, h2, h3, h4, h5, h6, h7, h8⟩ := hb
  have hms := str_size m
  by_cases hroom : l.length + m.length ≤ cap
  · have hf := Lib.run_firstCells_string (P := Tryd.prog) w 1 (str m)
    have hst := run_storeCells_cells (P := Tryd.prog) g l.length (Lib.byteCells m) 0 w (fun j hj => by
        rw [Nat.add_zero, cell_of_row w g _ cur 5 fz h3, Array.getElem?_eq_getElem (by rw [Lib.byteCells_length] at hj; omega)]
        rfl) (fun j hj => unfrozen h3 h4 (by rw [Lib.byteCells_length] at hj; omega)) (byteCells_one m)
    rw [Nat.add_zero] at hst
    obtain ⟨cur', k1, k2, k3⟩ := setCells_row (Lib.byteCells m) l.length w cur h3 (by rw [Lib.byteCells_length]; omega)
    refine ⟨.slice (some ⟨g, 0, none⟩) (l.length + m.length) cap, w.setCells g l.length (Lib.byteCells m), ?_, ⟨g, cap, cur', fz, by rw [List.length_append], h2, k1, h4, by rw [List.length_append]; exact hroom, h6, by omega, ?_⟩, Below.grown (Below.refl B w) (wroteL g _ _ w) hB (fun k hk => by injection hk with hk; omega)⟩
    · rw [strCells_str, hms] at hf
      simp [Builtin.append_, run_underlying Tryd.underlying57, run_underlying Tryd.underlying9, sizeOf, typeInfo, hi, hs1, Builtin.lenOf, hms, hroom, hf, Addr.add_lit, hst]
    · rw [Lib.byteCells_length] at k3
      rw [List.length_append, k3, h8, Lib.byteCells_append]
  · obtain ⟨g', c', e, hL⟩ := hlie
    injection e with e _ _
    injection e with e
    injection e with e _ _
    subst e
    have hr := Lib.run_append_grow_string (P := Tryd.prog) w 57 9 ty 5 i (.int .u8 0) Tryd.underlying57 Tryd.underlying9 hi hz ⟨g, 0, none⟩ l.length cap (Lib.byteCells l) (by rw [hs1, Lib.byteCells_length, Nat.mul_one]) (fun j v hj => by rw [addr_add]; exact hL j v hj) (str m) (by omega) (by omega) (by rw [hby]; exact growslice_fits (by omega) (by omega))
    rw [hms, strCells_str] at hr
    exact ⟨_, _, hr, grown_buf l m cap hl hB (by rw [size_zeroCells]; simp [Value.cells]), Below.trans (Ext.lowerB hB (Ext.drew w)) (Ext.lowerB hB (Ext.alloc w.drew _))⟩
theorem Hv.appStr {B : Nat} {w : World} {x y : Operand} {v : Value} {s : ByteArray} {l m : List UInt8} (hx : ev ρ x = some v) (hy : ev ρ y = some (.string s)) (hs : s = str m) (hb : BufW B w v l) (hB : B ≤ w.heap.size) (hl : l.length + m.length ≤ 1000000000) :
    Hv Tryd.prog n ρ ⟨dst, .call { callee := .builtin .append, args := #[x, y], argTypes := #[57, 9] }, ty, pos, af, gd⟩ w (fun v' w' => BufW B w' v' (l ++ m) ∧ Below B w w') := by
  subst hs
  refine ⟨fun a ha K' Q' h => ?_⟩
  obtain ⟨v', w', hrun, h1, h2⟩ := appendRun (ty := ty) hb hB hl
  have hrun' : (execOp a.eval ⟨dst, .call { callee := .builtin .append, args := #[x, y], argTypes := #[57, 9] }, ty, pos, af, gd⟩).run Tryd.prog w = .ok (.value v') w' := by
    simp [execOp, resolve, invoke, builtin, ha.eval hx, ha.eval hy, hrun]
  unfold Oper.wp
  rw [hrun']
  exact h _ _ ⟨h1, h2⟩
/-- One byte appended. -/
theorem Hv.appByte {B : Nat} {w : World} {x y : Operand} {v : Value} {l : List UInt8} {g2 c2 : Nat} {b : UInt8} (hx : ev ρ x = some v) (hy : ev ρ y = some (.slice (some ⟨g2, 0, none⟩) 1 c2)) (hc : w.cell? ⟨g2, 0, none⟩ = some (.int .u8 b.toNat)) (hb : BufW B w v l) (hB : B ≤ w.heap.size) (hl : l.length + 1 ≤ 1000000000) :
    Hv Tryd.prog n ρ ⟨dst, .call { callee := .builtin .append, args := #[x, y], argTypes := #[57, 57] }, ty, pos, af, gd⟩ w (fun v' w' => BufW B w' v' (l ++ [b]) ∧ Below B w w') := by
  obtain ⟨i, hi, hz, hs1, hby⟩ := u8info
  have hlie := hb.lies
  obtain ⟨g, cap, cur, fz, rfl, h2, h3, h4, h5, h6, h7, h8⟩ := hb
  have hnews : ∀ j u, (Lib.byteCells [b])[j]? = some u → w.cell? ((⟨g2, 0, none⟩ : Addr).add j) = some u := fun j u hj => by
    rw [addr_add]
    cases j with
    | zero => rw [show u = .int .u8 b.toNat from by simpa [Lib.byteCells] using hj.symm]; exact hc
    | succ j => simp [Lib.byteCells] at hj
  refine ⟨fun a ha K' Q' h => ?_⟩
  have key : ∃ v' w', (Builtin.append_ #[57, 57] ty #[.slice (some ⟨g, 0, none⟩) l.length cap, .slice (some ⟨g2, 0, none⟩) 1 c2]).run Tryd.prog w = .ok v' w' ∧ BufW B w' v' (l ++ [b]) ∧ Below B w w' := by
    by_cases hroom : l.length + 1 ≤ cap
    · have hf := run_firstCells_some (P := Tryd.prog) w i.size 1 ⟨g2, 0, none⟩ 1 c2 (Lib.byteCells [b]) (by rw [hs1]; rfl) hnews
      have hst := run_storeCells_cells (P := Tryd.prog) g l.length (Lib.byteCells [b]) 0 w (fun j hj => by
          rw [Nat.add_zero, cell_of_row w g _ cur 5 fz h3, Array.getElem?_eq_getElem (by rw [Lib.byteCells_length] at hj; simp at hj; omega)]
          rfl) (fun j hj => unfrozen h3 h4 (by rw [Lib.byteCells_length] at hj; simp at hj; omega)) (byteCells_one [b])
      rw [Nat.add_zero] at hst
      obtain ⟨cur', k1, k2, k3⟩ := setCells_row (Lib.byteCells [b]) l.length w cur h3 (by rw [Lib.byteCells_length]; simp; omega)
      refine ⟨.slice (some ⟨g, 0, none⟩) (l.length + 1) cap, w.setCells g l.length (Lib.byteCells [b]), ?_, ⟨g, cap, cur', fz, by rw [List.length_append]; rfl, h2, k1, h4, by rw [List.length_append]; exact hroom, h6, by omega, ?_⟩, Below.grown (Below.refl B w) (wroteL g _ _ w) hB (fun k hk => by injection hk with hk; omega)⟩
      · rw [hs1] at hf
        simp [Builtin.append_, run_underlying Tryd.underlying57, sizeOf, typeInfo, hi, hs1, Builtin.lenOf, hroom, hf, Addr.add_lit, hst]
      · rw [Lib.byteCells_length] at k3
        rw [List.length_append, k3, h8, Lib.byteCells_append]
    · obtain ⟨g', c', e, hL⟩ := hlie
      injection e with e _ _
      injection e with e
      injection e with e _ _
      subst e
      have hr := run_append_grow (P := Tryd.prog) w 57 ty 5 i (.int .u8 0) Tryd.underlying57 hi hz ⟨g, 0, none⟩ l.length cap (Lib.byteCells l) (by rw [hs1, Lib.byteCells_length, Nat.mul_one]) (fun j v hj => by rw [addr_add]; exact hL j v hj) ⟨g2, 0, none⟩ 1 c2 (Lib.byteCells [b]) (by rw [hs1]; rfl) hnews (by omega) (by omega) (by rw [hby]; exact growslice_fits (by omega) (by omega))
      exact ⟨_, _, hr, grown_buf l [b] cap hl hB (by rw [size_zeroCells]; simp [Value.cells]), Below.trans (Ext.lowerB hB (Ext.drew w)) (Ext.lowerB hB (Ext.alloc w.drew _))⟩
  obtain ⟨v', w', hrun, k1, k2⟩ := key
  have hrun' : (execOp a.eval ⟨dst, .call { callee := .builtin .append, args := #[x, y], argTypes := #[57, 57] }, ty, pos, af, gd⟩).run Tryd.prog w = .ok (.value v') w' := by
    simp [execOp, resolve, invoke, builtin, ha.eval hx, ha.eval hy, hrun]
  unfold Oper.wp
  rw [hrun']
  exact h _ _ ⟨k1, k2⟩
/-- The buffer as a text. -/
theorem FV.ofBytes {B : Nat} {S : World → Prop} {x : Operand} {v : Value} {l : List UInt8} (hx : ev ρ x = some v) (hb : ∀ w, S w → BufW B w v l) (h0 : ∃ w, S w) : FV Tryd.prog n S ρ ⟨dst, .convert 57 9 x, ty, pos, af, gd⟩ (.string (str l)) := by
  obtain ⟨w0, hw0⟩ := h0
  obtain ⟨g, cap, rfl, _⟩ := (hb w0 hw0).lies
  refine ⟨fun a ha w hw => ?_⟩
  obtain ⟨g', cap', e, hL⟩ := (hb w hw).lies
  have e1 : some (⟨g, 0, Option.none⟩ : Addr) = some ⟨g', 0, Option.none⟩ := (Value.slice.inj e).1
  have e2 : g = g' := congrArg Addr.block (Option.some.inj e1)
  subst e2
  have hr := run_convert_bytes_back (P := Tryd.prog) w 57 9 5 ⟨g, 0, none⟩ cap l Tryd.underlying57 Tryd.underlying5 Tryd.underlying9 (fun j hj => by
    rw [addr_add]
    exact hL j _ (by simp [Lib.byteCells, hj]))
  simp only [execOp, ha.eval hx, Sem.run_bind, hr, Result.andThen_ok]
  rfl
end
/-! builders -/
def BldW (B b : Nat) (l : List UInt8) (w : World) : Prop := Lib.IsBuilderF 59 5 B b (Lib.byteCells l) w
/-- All but the builder and rows of bytes stands. -/
def Oth (b : Nat) (w w' : World) : Prop := Lib.OthersKept 5 (some b) w w'
theorem Oth.of {b : Nat} {w w' : World} (h : Ext w w') : Oth b w w' := fun k _ hk _ _ => (h.block k (Array.getElem?_eq_some_iff.1 hk).1).trans hk
theorem Oth.trans {b : Nat} {u w w' : World} (h : Oth b u w) (k : Oth b w w') : Oth b u w' := Lib.OthersKept.trans h k
theorem At.oth {b : Nat} {w w' : World} {e sz g n c : Nat} {cs : List Value} (h : At w e sz g n c cs) (k : Oth b w w') (hg : g ≠ b) (he : e ≠ 5) : At w' e sz g n c cs := by
  obtain ⟨cur, h1, r⟩ := h.row
  refine ⟨h.len, cur, k g _ h1 (fun q => hg (Option.some.inj q)) (fun c fz q => ?_), r⟩
  injection q with _ q _
  exact he q
theorem BldW.lt {B b : Nat} {l : List UInt8} {w : World} (h : BldW B b l w) : b < w.heap.size := by
  rcases h with ⟨_, _, h, _⟩ | ⟨_, _, h, _⟩
  · exact (Array.getElem?_eq_some_iff.1 h).1
  · exact (Array.getElem?_eq_some_iff.1 h).1
theorem BldW.ext {B b : Nat} {l : List UInt8} {w w' : World} (h : BldW B b l w) (he : Ext w w') : BldW B b l w' := by
  have key : ∀ p, Lib.BuilderAtF 59 5 B b p (Lib.byteCells l) w → Lib.BuilderAtF 59 5 B b p (Lib.byteCells l) w' := by
    rintro p ⟨h1, v, h2, ⟨h3, h5⟩, h4⟩
    refine ⟨h1, v, (he.block b (Array.getElem?_eq_some_iff.1 h2).1).trans h2, ⟨h3, ?_⟩, h4⟩
    rcases h5 with h5 | ⟨g, cap, cur, fz, k1, k2, k3, k4⟩
    · exact .inl h5
    · exact .inr ⟨g, cap, cur, fz, k1, k2, (he.block g (Array.getElem?_eq_some_iff.1 k3).1).trans k3, k4⟩
  rcases h with h | h
  · exact .inl (key _ h)
  · exact .inr (key _ h)
section
variable {n : Nat} {ρ : Env} {dst : Option Tmp} {ty : TypeId} {pos : String} {af : Array Edge} {gd : Option (Nat × Bool)}
theorem FV.buildSB {S : World → Prop} : FV Tryd.prog n S ρ ⟨dst, .build 59 #[], ty, pos, af, gd⟩ (.agg #[.pointer Option.none, .slice Option.none 0 0]) :=
  ⟨fun c hc w _ => by
    have h0 := Tryd.zeroValue59 w
    simp [execOp, Instr.build, h0, Instr.fill, Value.cells]⟩
theorem Hv.boxSB {w : World} {x : Operand} (hx : ev ρ x = some (.agg #[.pointer Option.none, .slice Option.none 0 0])) :
    Hv Tryd.prog n ρ ⟨dst, .box 59 x, ty, pos, af, gd⟩ w (fun v w' => ∃ b, v = .pointer (some ⟨b, 0, Option.none⟩) ∧ b = w.heap.size ∧ BldW w.heap.size b [] w' ∧ Ext w w') :=
  (Hv.box hx).mono fun _ _ h => ⟨_, h.1, rfl, h.2 ▸ .inl ⟨Nat.le_refl _, .slice Option.none 0 0, heap_alloc_new w _, ⟨rfl, .inl ⟨rfl, rfl⟩⟩, by simp [Value.ownBlock]⟩, h.2 ▸ Ext.alloc w _⟩
theorem FV.catS {S : World → Prop} {x y : Operand} {t u : TypeId} {b c : ByteArray} {l m : List UInt8} (hx : ev ρ x = some (.string b)) (hy : ev ρ y = some (.string c)) (hb : b = str l) (hc : c = str m) (hl : l.length + m.length ≤ 1000000000) : FV Tryd.prog n S ρ ⟨dst, .binOp .add t x y u, ty, pos, af, gd⟩ (.string (str (l ++ m))) := by
  subst hb hc
  have := FV.cat (n := n) (S := S) (ρ := ρ) (dst := dst) (ty := ty) (pos := pos) (af := af) (gd := gd) (t := t) (u := u) hx hy (by rw [str_size, str_size]; omega)
  rwa [str_append] at this
end
theorem bwString (B b : Nat) (l m : List UInt8) (w : World) (h : BldW B b l w) (hlen : l.length + m.length ≤ 1000000000) (hB : B ≤ w.heap.size) :
    CallsR Tryd.prog 33 [.pointer (some ⟨b, 0, none⟩), .string (str m)] w fun v w' => v = .tuple #[.int .i64 m.length, .nilIface] ∧ BldW B b (l ++ m) w' ∧ Below B w w' ∧ Oth b w w' := by
  have hcon := Any.Builder_WriteString_k layWS extraJ B b (Lib.byteCells l) (str m) w h (by rw [Lib.byteCells_length, str_size]; omega) hB
  refine ⟨Calls.mono hcon fun e w' he => ?_, ⟨_, Tryd.func33, by decide +kernel, by rfl⟩⟩
  obtain ⟨rfl, h1, h2, h3⟩ := he
  rw [strCells_str, ← Lib.byteCells_append] at h1
  rw [str_size]
  exact ⟨rfl, .inr h1, h2, h3⟩
theorem bwByte (B b : Nat) (l : List UInt8) (c : UInt8) (w : World) (h : BldW B b l w) (hlen : l.length + 1 ≤ 1000000000) (hB : B ≤ w.heap.size) :
    CallsR Tryd.prog 36 [.pointer (some ⟨b, 0, none⟩), .int .u8 c.toNat] w fun v w' => v = .nilIface ∧ BldW B b (l ++ [c]) w' ∧ Below B w w' ∧ Oth b w w' := by
  have hcon := Any.Builder_WriteByte_k layWB extraWB B b (Lib.byteCells l) c.toNat w h (by rw [Lib.byteCells_length]; omega) hB
  refine ⟨Calls.mono hcon fun e w' he => ?_, ⟨_, Tryd.func36, by decide +kernel, by rfl⟩⟩
  obtain ⟨rfl, h1, h2, h3⟩ := he
  exact ⟨rfl, .inr (by rw [Lib.byteCells_append]; exact h1), h2, h3⟩
theorem bString (B b : Nat) (l : List UInt8) (w : World) (h : BldW B b l w) (hB : B ≤ w.heap.size) :
    CallsR Tryd.prog 37 [.pointer (some ⟨b, 0, none⟩)] w fun v w' => v = .string (str l) ∧ Below B w w' := by
  have hcon := Any.Builder_String_any_k layBS extraJ B b l w h hB
  refine ⟨Calls.mono hcon fun e w' he => ?_, ⟨_, Tryd.func37, by decide +kernel, by rfl⟩⟩
  obtain ⟨rfl, _, h1, _⟩ := he
  exact ⟨rfl, h1⟩
end Eng
end Go.Proofs.YtogljflccfoaeaaDoor
