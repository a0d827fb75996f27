/- Words on memory for the calculus: slices that are read, rows that are owned; makes, appends, stores. General lemmas, no condition. -/
import Derived.Test.YtogljflccfoaeaaDoorOps
import Derived.Laws.MakeOwn
import Derived.Laws.OwnMore
import Derived.Maps.AppendAt
namespace Go.Proofs.YtogljflccfoaeaaDoor
open Go Go.RowKit
namespace Eng

/-- All that was there is as it was. -/
def Ext (w w' : World) : Prop := Below w.heap.size w w'
theorem Ext.refl (w : World) : Ext w w := Below.refl _ _
theorem Ext.below {B : Nat} {w w' : World} (h : Ext w w') (hB : B ≤ w.heap.size) : Below B w w' := h.mono hB
theorem Below.then_ {B : Nat} {a b c : World} (h : Below B a b) (hB : B ≤ a.heap.size) (k : Ext b c) : Below B a c := h.trans (k.mono (Nat.le_trans hB h.size))
theorem Ext.trans {a b c : World} (h : Ext a b) (k : Ext b c) : Ext a c := Below.then_ h (Nat.le_refl _) k
theorem Ext.drew (w : World) : Ext w w.drew := ⟨rfl, rfl, rfl, Nat.le_refl _, fun _ _ => rfl⟩
theorem Ext.alloc (w : World) (o : Obj) : Ext w (w.alloc o) := (Below.refl _ _).alloc (Nat.le_refl _) o
theorem Ext.grown {w w' : World} (h : Ext w w') (row : Option Nat) : w.grownBy w' row := ⟨h.os, h.tape, h.output, h.size, fun k hk _ => h.block k hk⟩
theorem Ext.cell {w w' : World} (h : Ext w w') {ad : Addr} {v : Value} (hc : w.cell? ad = some v) : w'.cell? ad = some v :=
  (Below.cell h (World.block_lt_of_cell? w ad hc)).trans hc

theorem atDrew {w w' : World} {ad : Addr} {v : Value} (h : w' = w.drew) (hc : w.cell? ad = some v) : w'.cell? ad = some v := by subst h; exact hc
/-- A slice at A holds the cells cs. -/
def Rd (w : World) (A : Option Addr) (cs : List Value) : Prop := ∀ j v, cs[j]? = some v → ∃ b o, A = some ⟨b, o, none⟩ ∧ w.cell? ⟨b, o + j, none⟩ = some v
theorem Rd.ext {w w' : World} {A : Option Addr} {cs : List Value} (h : Rd w A cs) (he : Ext w w') : Rd w' A cs := fun j v hj => by
  obtain ⟨b, o, hA, hc⟩ := h j v hj
  exact ⟨b, o, hA, he.cell hc⟩
theorem Rd.nil (w : World) (A : Option Addr) : Rd w A [] := fun j v h => by simp at h

def ints (xs : List Int) : List Value := xs.map (Value.int .i64)
theorem ints_length (xs : List Int) : (ints xs).length = xs.length := by simp [ints]
theorem ints_get {xs : List Int} {k : Nat} (h : k < xs.length) : (ints xs)[k]? = some (.int .i64 (xs.getD k 0)) := by
  simp [ints, h]
theorem ints_append (xs ys : List Int) : ints (xs ++ ys) = ints xs ++ ints ys := by simp [ints]
theorem ints_one (x : Int) : ints [x] = [.int .i64 x] := rfl
theorem ints_set (xs : List Int) (k : Nat) (x : Int) : ints (xs.set k x) = (ints xs).set k (.int .i64 x) := by simp [ints, List.map_set]
theorem Rd.int {w : World} {A : Option Addr} {xs : List Int} (h : Rd w A (ints xs)) {k : Nat} (hk : k < xs.length) : ∃ b o, A = some ⟨b, o, none⟩ ∧ w.cell? ⟨b, o + k, none⟩ = some (.int .i64 (xs.getD k 0)) := h k _ (ints_get hk)
/-- One address for all elements. -/
theorem Rd.all {w : World} {A : Option Addr} {cs : List Value} (h : Rd w A cs) (hn : 0 < cs.length) : ∃ b o, A = some ⟨b, o, none⟩ ∧ ∀ j v, cs[j]? = some v → w.cell? ⟨b, o + j, none⟩ = some v := by
  obtain ⟨b, o, hA, _⟩ := h 0 _ (List.getElem?_eq_getElem hn)
  refine ⟨b, o, hA, fun j v hj => ?_⟩
  obtain ⟨b', o', hA', hc⟩ := h j v hj
  rw [hA] at hA'
  injection hA' with hA'
  injection hA' with h1 h2 _
  subst h1 h2
  exact hc

/-! owned rows -/
theorem own_ext {w w' : World} {B e size n : Nat} {v : Value} {cs : List Value} (h : w.ownsRow B e size v n cs) (he : Ext w w') : w'.ownsRow B e size v n cs :=
  h.kept (he.grown none) (by cases hv : v.ownBlock <;> simp)
theorem own_far {w w' : World} {B e size n : Nat} {v : Value} {cs : List Value} {row : Option Nat} (h : w.ownsRow B e size v n cs) (hg : w.grownBy w' row) (hne : v.ownBlock = none ∨ v.ownBlock ≠ row) : w'.ownsRow B e size v n cs := h.kept hg hne
theorem own_lower {w : World} {B B' e size n : Nat} {v : Value} {cs : List Value} (h : w.ownsRow B e size v n cs) (hB : B' ≤ B) : w.ownsRow B' e size v n cs := by
  refine ⟨h.1, ?_⟩
  rcases h.2 with h2 | ⟨g, cap, cur, hv, hg, r⟩
  · exact .inl h2
  · exact .inr ⟨g, cap, cur, hv, Nat.le_trans hB hg, r⟩
theorem own_form {w : World} {B e size n : Nat} {v : Value} {cs : List Value} (h : w.ownsRow B e size v n cs) : ∃ A c, v = .slice A n c ∧ Rd w A cs := by
  rcases h.2 with ⟨rfl, rfl⟩ | ⟨g, cap, cur, rfl, _, hg, _, _, _, ht⟩
  · have : cs = [] := List.eq_nil_of_length_eq_zero (by simpa using h.1)
    subst this
    exact ⟨none, 0, rfl, Rd.nil _ _⟩
  · refine ⟨some ⟨g, 0, none⟩, cap, rfl, fun j v hj => ⟨g, 0, rfl, ?_⟩⟩
    rw [Nat.zero_add, cell_of_row w g j cur e (0, 0) hg]
    rw [← ht, List.getElem?_take] at hj
    split at hj
    · simpa using hj
    · cases hj
/-- An owned row that is not empty, or was made: its block. -/
structure At (w : World) (e : TypeId) (size g n c : Nat) (cs : List Value) : Prop where
  len : cs.length = n * size
  row : ∃ cur, w.heap[g]? = some (.cells cur e (0, 0)) ∧ n ≤ c ∧ c ≤ maxLen ∧ cur.size = c * size ∧ cur.toList.take (n * size) = cs
theorem At.own {w : World} {e size g n c B : Nat} {cs : List Value} (h : At w e size g n c cs) (hB : B ≤ g) : w.ownsRow B e size (.slice (some ⟨g, 0, none⟩) n c) n cs := by
  obtain ⟨cur, h1, h2, h3, h4, h5⟩ := h.row
  exact ⟨h.len, .inr ⟨g, c, cur, rfl, hB, h1, h2, h3, h4, h5⟩⟩
theorem At.lt {w : World} {e size g n c : Nat} {cs : List Value} (h : At w e size g n c cs) : g < w.heap.size := by
  obtain ⟨cur, h1, _⟩ := h.row
  exact (Array.getElem?_eq_some_iff.1 h1).1
theorem At.cell {w : World} {e size g n c : Nat} {cs : List Value} (h : At w e size g n c cs) {k : Nat} {v : Value} (hk : cs[k]? = some v) : w.cell? ⟨g, k, none⟩ = some v := by
  obtain ⟨cur, h1, _, _, _, h5⟩ := h.row
  rw [cell_of_row w g k cur e (0, 0) h1]
  rw [← h5, List.getElem?_take] at hk
  split at hk
  · simpa using hk
  · cases hk
theorem At.rd {w : World} {e size g n c : Nat} {cs : List Value} (h : At w e size g n c cs) : Rd w (some ⟨g, 0, none⟩) cs := fun j v hj => ⟨g, 0, rfl, by rw [Nat.zero_add]; exact h.cell hj⟩
theorem At.frozen {w : World} {e size g n c : Nat} {cs : List Value} (h : At w e size g n c cs) (k : Nat) : w.frozen? ⟨g, k, none⟩ = false := by
  obtain ⟨cur, h1, _⟩ := h.row
  simp [World.frozen?, h1]
theorem At.kept {w w' : World} {e size g n c : Nat} {cs : List Value} {row : Option Nat} (h : At w e size g n c cs) (hg : w.grownBy w' row) (hne : some g ≠ row) : At w' e size g n c cs := by
  obtain ⟨cur, h1, r⟩ := h.row
  exact ⟨h.len, cur, (hg.block g h.lt hne).trans h1, r⟩
theorem At.ext {w w' : World} {e size g n c : Nat} {cs : List Value} (h : At w e size g n c cs) (he : Ext w w') : At w' e size g n c cs := h.kept (he.grown none) (by simp)
theorem At.set_ {w : World} {e size g n c : Nat} {cs : List Value} (h : At w e size g n c cs) (k : Nat) (u : Value) : At (w.setCell ⟨g, k, none⟩ u) e size g n c (cs.set k u) := by
  obtain ⟨cur, h1, h2, h3, h4, h5⟩ := h.row
  refine ⟨by simpa using h.len, cur.setIfInBounds k u, ?_, h2, h3, by simpa using h4, ?_⟩
  · simp [World.setCell, Array.getElem?_modify, h1]
  · rw [Array.toList_setIfInBounds, List.take_set, h5]
theorem At.far {w : World} {e size g n c : Nat} {cs : List Value} (h : At w e size g n c cs) {p : Addr} (hp : p.block ≠ g) (u : Value) : At (w.setCell p u) e size g n c cs := by
  obtain ⟨cur, h1, r⟩ := h.row
  refine ⟨h.len, cur, ?_, r⟩
  rw [Below.heap_setCell w p u g (Ne.symm hp)]
  exact h1
theorem own_at {w : World} {B e size n : Nat} {v : Value} {cs : List Value} (h : w.ownsRow B e size v n cs) (hn : 0 < n) : ∃ g c, v = .slice (some ⟨g, 0, none⟩) n c ∧ B ≤ g ∧ At w e size g n c cs := by
  rcases h.2 with ⟨rfl, rfl⟩ | ⟨g, cap, cur, rfl, hb, r⟩
  · omega
  · exact ⟨g, cap, rfl, hb, h.1, cur, r⟩
theorem Below.set_ {B : Nat} {a w : World} (h : Below B a w) {g k : Nat} (hg : B ≤ g) (u : Value) : Below B a (w.setCell ⟨g, k, none⟩ u) := Below.setCell (p := ⟨g, k, none⟩) h hg u

/-! ### operations -/
section
variable {P : Program} [UTab P] {n : Nat} {ρ : Env} {dst : Option Tmp} {ty : TypeId} {pos : String} {af : Array Edge} {g : Option (Nat × Bool)}
theorem FV.load1 {w : World} {x : Operand} {t : TypeId} {d : TypeDesc} {ad : Addr} {v : Value} (ht : UTab.und P t = some d) (hd : oneDesc d = true) (hx : ev ρ x = some (.pointer (some ad))) (hc : w.cell? ad = some v) : FV P n (fun w' => w' = w) ρ ⟨dst, .load t x, ty, pos, af, g⟩ v :=
  FV.load ht hd hx (fun _ h => h ▸ hc)
end
section
variable {P : Program} [UTab P] {n : Nat} {S : World → Prop} {ρ : Env} {dst : Option Tmp} {ty : TypeId} {pos : String} {af : Array Edge} {gd : Option (Nat × Bool)}

/-- 'make([]T, n)'. -/
theorem Hv.make {w : World} {x y : Operand} {t e : TypeId} {z : Value} {size by_ : Nat} {kl : IntKind} {m : Nat} (ht : UTab.und P t = some (.slice e)) (hi : UTab.inf P e = some (z, size, by_)) (hx : ev ρ x = some (.int kl m)) (hy : ev ρ y = some (.int kl m)) (hb : by_ * m ≤ 281474976710656) (hm : m ≤ 9223372036854775807) :
    Hv P n ρ ⟨dst, .makeSlice t x y, ty, pos, af, gd⟩ w (fun v w' => ∃ g, v = .slice (some ⟨g, 0, none⟩) m m ∧ g = w.heap.size ∧ At w' e size g m m (madeCells z.cells (m * size)).toList ∧ Ext w w') :=
  ⟨fun a ha K' Q' h => by
    obtain ⟨_, _, i, _, hi', hz, hs, hby⟩ := run_inf hi w
    obtain ⟨w', hrun, hown, hgr⟩ := run_make_full (P := P) w 0 t e i z size (UTab.und_ok _ _ ht) hi' hz hs kl kl m (by rw [hby]; exact hb) (by simp only [maxLen]; omega) (Nat.zero_le _)
    have hrun' : (execOp a.eval ⟨dst, .makeSlice t x y, ty, pos, af, gd⟩).run P w = .ok (.value (.slice (some ⟨w.heap.size, 0, none⟩) m m)) w' := by
      simp [execOp, ha.eval hx, ha.eval hy, hrun]
    unfold Oper.wp
    rw [hrun']
    refine h _ w' ⟨w.heap.size, rfl, rfl, ?_, ⟨hgr.os, hgr.tape, hgr.output, hgr.size, fun k hk => hgr.block k hk (by simp)⟩⟩
    rcases hown.2 with ⟨hv, _⟩ | ⟨g, cap, cur, hv, _, r⟩
    · cases hv
    · injection hv with h1 h2 h3
      injection h1 with h1
      injection h1 with h1 _ _
      subst h1 h3
      exact ⟨hown.1, cur, r⟩⟩
theorem madeInts (m : Nat) : (madeCells (Value.int .i64 0).cells (m * 1)).toList = ints (List.replicate m 0) := by
  apply List.ext_getElem
  · simp [madeCells, ints]
  · intro i h1 h2
    simp [madeCells, ints, Value.cells, Nat.mod_one]

/-- '[]T{}'. -/
theorem Hv.build0 {w : World} {t e : TypeId} {z : Value} {size by_ : Nat} (ht : UTab.und P t = some (.slice e)) (hi : UTab.inf P e = some (z, size, by_)) :
    Hv P n ρ ⟨dst, .buildSlice t 0 #[], ty, pos, af, gd⟩ w (fun v w' => w'.ownsRow w.heap.size e size v 0 [] ∧ Ext w w') :=
  ⟨fun a ha K' Q' h => by
    obtain ⟨hs, _⟩ := run_inf hi w
    have hrun' : (execOp a.eval ⟨dst, .buildSlice t 0 #[], ty, pos, af, gd⟩).run P w = .ok (.value (.slice (some ⟨w.heap.size, 0, none⟩) 0 0)) (w.alloc (.cells #[] e)) := by
      simp [execOp, Instr.buildSlice, run_und ht, hs, Instr.fill, newRow, Array.range_zero']
    unfold Oper.wp
    rw [hrun']
    refine h _ _ ⟨⟨by simp, .inr ⟨w.heap.size, 0, #[], rfl, Nat.le_refl _, heap_alloc_new w _, Nat.le_refl _, Nat.zero_le _, by simp, by simp⟩⟩, Ext.alloc w _⟩⟩
/-- '[]T{x}', one cell an element. -/
theorem Hv.build1 {w : World} {t e : TypeId} {z : Value} {by_ : Nat} {x : Operand} {u : Value} (ht : UTab.und P t = some (.slice e)) (hi : UTab.inf P e = some (z, 1, by_)) (hx : ev ρ x = some u) (hu : u.cells = #[u]) :
    Hv P n ρ ⟨dst, .buildSlice t 1 #[(0, x)], ty, pos, af, gd⟩ w (fun v w' => v = .slice (some ⟨w.heap.size, 0, none⟩) 1 1 ∧ w' = w.alloc (.cells #[u] e)) :=
  ⟨fun a ha K' Q' h => by
    obtain ⟨hs, hzv, _⟩ := run_inf hi w
    have hrun' : (execOp a.eval ⟨dst, .buildSlice t 1 #[(0, x)], ty, pos, af, gd⟩).run P w = .ok (.value (.slice (some ⟨w.heap.size, 0, none⟩) 1 1)) (w.alloc (.cells #[u] e)) := by
      simp [execOp, Instr.buildSlice, run_und ht, hs, hzv, Instr.fill, newRow, ha.eval hx, hu, Array.range_succ, Array.range_zero']
    unfold Oper.wp
    rw [hrun']
    exact h _ _ ⟨rfl, rfl⟩⟩
/-- 'append(s, x)' behind the row of the one element. -/
theorem Hv.append1 {w : World} {t e : TypeId} {z : Value} {by_ B m : Nat} {x y : Operand} {s u : Value} {g c : Nat} {cs : List Value} (ht : UTab.und P t = some (.slice e)) (hi : UTab.inf P e = some (z, 1, by_)) (hz : z.cells.size = 1)
    (hx : ev ρ x = some s) (hy : ev ρ y = some (.slice (some ⟨g, 0, none⟩) 1 c)) (hown : w.ownsRow B e 1 s m cs) (hcell : w.cell? ⟨g, 0, none⟩ = some u) (h1 : u.oneCell' = true)
    (h63 : m + 1 ≤ 9223372036854775807) (hbytes : (m + 1) * by_ ≤ 140737488355328) (hB : B ≤ w.heap.size) :
    Hv P n ρ ⟨dst, .call { callee := .builtin .append, args := #[x, y], argTypes := #[t, t] }, ty, pos, af, gd⟩ w (fun v w' => w'.ownsRow B e 1 v (m + 1) (cs ++ [u]) ∧ w.grownBy w' s.ownBlock ∧ Below B w w') :=
  ⟨fun a ha K' Q' h => by
    obtain ⟨_, _, i, _, hi', hz', hs, hby⟩ := run_inf hi w
    obtain ⟨v', w', hrun, hown', hgr, _⟩ := run_append_own (P := P) w B t ty e i z 1 by_ (UTab.und_ok _ _ ht) hi' hz' hs hby hz (by omega) s m cs hown ⟨g, 0, none⟩ 1 c [u] rfl
      (fun j v hj => by
        cases j with
        | zero => simp at hj; subst hj; simpa [Addr.add] using hcell
        | succ j => simp at hj) (fun v hv => by simp at hv; subst hv; exact h1) (by simp only [maxLen]; omega) hbytes hB
    have hrun' : (execOp a.eval ⟨dst, .call { callee := .builtin .append, args := #[x, y], argTypes := #[t, t] }, ty, pos, af, gd⟩).run P w = .ok (.value v') w' := by
      simp [execOp, resolve, invoke, builtin, ha.eval hx, ha.eval hy, hrun]
    unfold Oper.wp
    rw [hrun']
    refine h _ _ ⟨hown', hgr, ⟨hgr.os, hgr.tape, hgr.output, hgr.size, fun k hk => hgr.block k (Nat.lt_of_lt_of_le hk hB) (fun e => ?_)⟩⟩
    have := (hown.lt k e.symm).1
    omega⟩
/-- a store into an owned row -/
theorem Hv.storeAt {w : World} {x y : Operand} {t e : TypeId} {z : Value} {by_ g k m c : Nat} {cs : List Value} {v u : Value} (hi : UTab.inf P t = some (z, 1, by_)) (hx : ev ρ x = some (.pointer (some ⟨g, k, none⟩))) (hy : ev ρ y = some v) (h1 : v.oneCell' = true) (hv : v.cells = #[v]) (hat : At w e 1 g m c cs) (hk : cs[k]? = some u) :
    Hv P n ρ ⟨none, .store t x y, ty, pos, af, gd⟩ w (fun _ w' => w' = w.setCell ⟨g, k, none⟩ v ∧ At w' e 1 g m c (cs.set k v)) :=
  (Hv.store hi hx hy h1 hv (hat.cell hk) (hat.frozen k)).mono fun _ _ h => ⟨h, h ▸ hat.set_ k v⟩
end
end Eng
end Go.Proofs.YtogljflccfoaeaaDoor
