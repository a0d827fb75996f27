/- General lemmas for the calculus: boxes, cells that are written, function values with captured variables. No condition. -/
import Derived.Test.YtgahkbcfjibjaaaAgg
import Derived.Test.YtgahkbcfjibjaaaTab
namespace Go.Proofs.Ytgahkbcfjibjaaa
open Go Go.RowKit
namespace Eng
theorem Below.wr {B g : Nat} {a w w' : World} (h : Below B a w) (hg : w.grownBy w' (some g)) (hB : B ≤ g) (hs : B ≤ a.heap.size) : Below B a w' :=
  ⟨hg.os.trans h.os, hg.tape.trans h.tape, hg.output.trans h.output, Nat.le_trans h.size hg.size, fun k hk => (hg.block k (Nat.lt_of_lt_of_le hk (Nat.le_trans hs h.size)) (by intro e; injection e; omega)).trans (h.block k hk)⟩
theorem wrote (w : World) (g k : Nat) (v : Value) : w.grownBy (w.setCell ⟨g, k, none⟩ v) (some g) :=
  ⟨rfl, rfl, rfl, by simp [World.setCell], fun j _ hne => Below.heap_setCell w _ _ j (fun e => hne (by rw [e]))⟩
theorem grownBy_trans {a b c : World} {g : Nat} (h : a.grownBy b (some g)) (k : b.grownBy c (some g)) : a.grownBy c (some g) :=
  ⟨k.os.trans h.os, k.tape.trans h.tape, k.output.trans h.output, Nat.le_trans h.size k.size, fun j hj hne => (k.block j (Nat.lt_of_lt_of_le hj h.size) hne).trans (h.block j hj hne)⟩
theorem wroteL (g : Nat) : ∀ (vs : List Value) (o : Nat) (w : World), w.grownBy (w.setCells g o vs) (some g)
  | [], _, w => World.grownBy.refl w _
  | v :: r, o, w => grownBy_trans (wrote w g o v) (wroteL g r (o + 1) _)
section
variable {P : Program} [UTab P] {n : Nat} {ρ : Env} {dst : Option Tmp} {ty : TypeId} {pos : String} {af : Array Edge} {gd : Option (Nat × Bool)}
omit [UTab P] in
theorem Hv.boxA {w : World} {x : Operand} {t : TypeId} {u : Value} {sz : Nat} (hx : ev ρ x = some u) (hn : u.cells.size = sz) :
    Hv P n ρ ⟨dst, .box t x, ty, pos, af, gd⟩ w (fun v w' => ∃ g, v = .pointer (some ⟨g, 0, none⟩) ∧ g = w.heap.size ∧ At w' t sz g 1 1 u.cells.toList ∧ Ext w w') :=
  (Hv.box hx).mono fun _ _ h => ⟨_, h.1, rfl, h.2 ▸ At.fresh w t _ sz hn, h.2 ▸ Ext.alloc w _⟩
theorem Hv.allocA {w : World} {t : TypeId} {z : Value} {sz by_ : Nat} (hi : UTab.inf P t = some (z, sz, by_)) (hn : z.cells.size = sz) :
    Hv P n ρ ⟨dst, .alloc t, ty, pos, af, gd⟩ w (fun v w' => ∃ g, v = .pointer (some ⟨g, 0, none⟩) ∧ g = w.heap.size ∧ At w' t sz g 1 1 z.cells.toList ∧ Ext w w') :=
  (Hv.alloc hi).mono fun _ _ h => ⟨_, h.1, rfl, h.2 ▸ At.fresh w t _ sz hn, h.2 ▸ Ext.alloc w _⟩
theorem Hv.storeG {w : World} {x y : Operand} {t e : TypeId} {z : Value} {by_ size g k m c : Nat} {cs : List Value} {v u : Value} (hi : UTab.inf P t = some (z, 1, by_)) (hx : ev ρ x = some (.pointer (some ⟨g, k, none⟩))) (hy : ev ρ y = some v) (h1 : v.oneCell' = true) (hv : v.cells = #[v]) (hat : At w e size g m c cs) (hk : cs[k]? = some u) :
    Hv P n ρ ⟨none, .store t x y, ty, pos, af, gd⟩ w (fun _ w' => At w' e size g m c (cs.set k v) ∧ w.grownBy w' (some g)) :=
  (Hv.storeIn hi hx hy h1 hv hat hk).mono fun _ _ h => ⟨h.2, h.1 ▸ wrote w g k v⟩
theorem Hv.storeAggG {w : World} {x y : Operand} {t e : TypeId} {z : Value} {sz by_ size g o m c : Nat} {cs vs : List Value} (hi : UTab.inf P t = some (z, sz, by_)) (hx : ev ρ x = some (.pointer (some ⟨g, o, none⟩))) (hy : ev ρ y = some (.agg vs.toArray))
    (hl : vs.length = sz) (h1 : ∀ v ∈ vs, v.oneCell' = true) (hat : At w e size g m c cs) (hb : o + vs.length ≤ cs.length) :
    Hv P n ρ ⟨none, .store t x y, ty, pos, af, gd⟩ w (fun _ w' => At w' e size g m c (setL cs o vs) ∧ w.grownBy w' (some g)) :=
  (Hv.storeAgg hi hx hy hl h1 hat hb).mono fun _ _ h => ⟨h.2, h.1 ▸ wroteL g vs o w⟩
end
section
variable {P : Program} {n : Nat} {S : World → Prop} {ρ : Env} {dst : Option Tmp} {ty : TypeId} {pos : String} {af : Array Edge} {gd : Option (Nat × Bool)}
theorem FV.nilChk {x : Operand} {a : Addr} (hx : ev ρ x = some (.pointer (some a))) : FV P n S ρ ⟨dst, .nilCheck x, ty, pos, af, gd⟩ (.pointer (some a)) :=
  ⟨fun c hc w _ => by simp [execOp, hc.eval hx]⟩
theorem FV.makeFn {f : FuncId} {x : Operand} {v : Value} (hx : ev ρ x = some v) : FV P n S ρ ⟨dst, .makeFunc (.func f) #[] #[x], ty, pos, af, gd⟩ (.func (.func f) #[] #[v]) :=
  ⟨fun c hc w _ => by simp [execOp, hc.eval hx, Instr.makeFunc]⟩
theorem FV.neSelfB [UTab P] {x y : Operand} {t u : TypeId} {b : Bool} (ht : UTab.und P t = some .bool) (hx : ev ρ x = some (.bool b)) (hy : ev ρ y = some (.bool b)) : FV P n S ρ ⟨dst, .binOp .neq t x y u, ty, pos, af, gd⟩ (.bool false) := by
  have := FV.neqB (P := P) (n := n) (S := S) (ρ := ρ) (dst := dst) (ty := ty) (pos := pos) (af := af) (g := gd) (u := u) ht hx hy
  rwa [show (b != b) = false from by cases b <;> rfl] at this
/-- a call of a function value with captured variables -/
theorem Hv.callC {w : World} {f : FuncId} {y : Operand} {xs : Array Operand} {ts : Array TypeId} {vs : List Value} {c : Value} {R : Value → World → Prop} (hc : CallsR P f (vs ++ [c]) w R) (hx : evs ρ xs.toList = some vs) (hy : ev ρ y = some (.func (.func f) #[] #[c])) :
    Hv P n ρ ⟨dst, .call { callee := .value y, args := xs, argTypes := ts }, ty, pos, af, gd⟩ w R :=
  ⟨fun a ha K' Q' h => by
    obtain ⟨fn, h1, h2, h3⟩ := hc.ent
    have h2' : ¬ fn.name = "runtime.NumGoroutine" := by simpa using h2
    have h3' : ¬ fn.body = none := fun h => by rw [h] at h3; cases h3
    have hargs : xs.map a.eval = vs.toArray := by
      apply Array.toList_inj.1
      simpa using ha.evalAll hx
    have hrun : ∀ ρ', ρ' = a.eval → (execOp ρ' ⟨dst, .call { callee := .value y, args := xs, argTypes := ts }, ty, pos, af, gd⟩).run P w = .ok (.enter f (vs ++ [c]).toArray) w := by
      rintro _ rfl
      simp [execOp, resolve, Deferred.ofValue, ha.eval hy, invoke, callFunc, h1, h2', h3', hargs]
    unfold Oper.wp
    rw [hrun _ rfl]
    show Calls P f (vs ++ [c]).toArray w _
    refine hc.out.mono fun e w' he => ?_
    cases e with
    | returned v => exact h v w' he
    | panicked c => exact he.elim
    | outgrown => exact he.elim⟩
end
/-- Of the blocks that were there, only those of the list were written. -/
structure Only (L : List (Option Nat)) (w w' : World) : Prop where
  os : w'.os = w.os
  tape : w'.tape = w.tape
  output : w'.output = w.output
  size : w.heap.size ≤ w'.heap.size
  block : ∀ k, k < w.heap.size → some k ∉ L → w'.heap[k]? = w.heap[k]?
theorem Only.one {w w' : World} {row : Option Nat} (h : w.grownBy w' row) : Only [row] w w' :=
  ⟨h.os, h.tape, h.output, h.size, fun k hk hn => h.block k hk (by simpa using hn)⟩
theorem Only.ext {w w' : World} (h : Ext w w') : Only [] w w' := ⟨h.os, h.tape, h.output, h.size, fun k hk _ => h.block k hk⟩
theorem Only.trans {a b c : World} {L M : List (Option Nat)} (h : Only L a b) (k : Only M b c) : Only (L ++ M) a c :=
  ⟨k.os.trans h.os, k.tape.trans h.tape, k.output.trans h.output, Nat.le_trans h.size k.size, fun j hj hn => by
    rw [List.mem_append, not_or] at hn
    exact (k.block j (Nat.lt_of_lt_of_le hj h.size) hn.2).trans (h.block j hj hn.1)⟩
theorem Only.mono {w w' : World} {L M : List (Option Nat)} (h : Only L w w') (hm : ∀ x, x ∈ L → x ∈ M) : Only M w w' :=
  ⟨h.os, h.tape, h.output, h.size, fun k hk hn => h.block k hk (fun e => hn (hm _ e))⟩
theorem Only.after {a b c : World} {L : List (Option Nat)} (h : Ext a b) (k : Only L b c) (hl : ∀ j, some j ∈ L → a.heap.size ≤ j) : Ext a c :=
  ⟨k.os.trans h.os, k.tape.trans h.tape, k.output.trans h.output, Nat.le_trans h.size k.size, fun j hj => (k.block j (Nat.lt_of_lt_of_le hj h.size) (fun e => by have := hl j e; omega)).trans (h.block j hj)⟩
theorem At.only {w w' : World} {L : List (Option Nat)} {e size g n c : Nat} {cs : List Value} (h : At w e size g n c cs) (k : Only L w w') (hne : some g ∉ L) : At w' e size g n c cs := by
  obtain ⟨cur, h1, r⟩ := h.row
  exact ⟨h.len, cur, (k.block g h.lt hne).trans h1, r⟩
theorem own_only {w w' : World} {L : List (Option Nat)} {B e size n : Nat} {v : Value} {cs : List Value} (h : w.ownsRow B e size v n cs) (k : Only L w w') (hne : ∀ j, some j ∈ L → v.ownBlock ≠ some j) : w'.ownsRow B e size v n cs := by
  refine ⟨h.1, ?_⟩
  rcases h.2 with h2 | ⟨g, cap, cur, hv, hb, hg, r⟩
  · exact .inl h2
  · refine .inr ⟨g, cap, cur, hv, hb, (k.block g (Array.getElem?_eq_some_iff.1 hg).1 (fun e => hne g e (by rw [hv]; rfl))).trans hg, r⟩
theorem own_block {w : World} {B e size n : Nat} {v : Value} {cs : List Value} (h : w.ownsRow B e size v n cs) {k : Nat} (hk : v.ownBlock = some k) : B ≤ k ∧ k < w.heap.size := World.ownsRow.lt h k hk
/-- Rows of different types lie apart. -/
theorem own_ne {w : World} {B B' e e' s s' n m : Nat} {v u : Value} {cs ds : List Value} (h : w.ownsRow B e s v n cs) (k : w.ownsRow B' e' s' u m ds) (he : e ≠ e') : v.ownBlock = none ∨ v.ownBlock ≠ u.ownBlock := by
  rcases h.2 with ⟨rfl, _⟩ | ⟨g, cap, cur, rfl, _, hg, _⟩
  · exact .inl rfl
  · right
    intro hq
    rcases k.2 with ⟨rfl, _⟩ | ⟨g', cap', cur', rfl, _, hg', _⟩
    · cases hq
    · have : g = g' := by simpa [Value.ownBlock] using hq
      subst this
      rw [hg] at hg'
      injection hg' with hg'
      injection hg' with _ h2 _
      exact he h2
theorem flat_length {α : Type} {f : α → List Value} {s : Nat} (hs : ∀ x, (f x).length = s) (xs : List α) : (xs.flatMap f).length = xs.length * s := by
  induction xs with
  | nil => simp
  | cons x r ih => rw [List.flatMap_cons, List.length_append, ih, hs, List.length_cons, Nat.add_mul]; omega
theorem flat_part {α : Type} {f : α → List Value} {s : Nat} (hs : ∀ x, (f x).length = s) (d : α) : ∀ (xs : List α) (k : Nat), k < xs.length → ((xs.flatMap f).drop (k * s)).take s = f (xs.getD k d)
  | [], k, h => by simp at h
  | x :: r, 0, _ => by
    rw [List.flatMap_cons, Nat.zero_mul, List.drop_zero, List.take_left' (hs x)]
    rfl
  | x :: r, k + 1, h => by
    rw [List.flatMap_cons, Nat.succ_mul, Nat.add_comm, ← List.drop_drop, List.drop_left' (hs x)]
    exact flat_part hs d r k (by simpa using h)
theorem flat_set {α : Type} {f : α → List Value} {s : Nat} (hs : ∀ x, (f x).length = s) (y : α) : ∀ (xs : List α) (k : Nat), k < xs.length → (xs.flatMap f).take (k * s) ++ f y ++ (xs.flatMap f).drop (k * s + s) = (xs.set k y).flatMap f
  | [], k, h => by simp at h
  | x :: r, 0, _ => by
    rw [List.flatMap_cons, Nat.zero_mul, List.take_zero, Nat.zero_add, List.drop_left' (hs x), List.set_cons_zero, List.flatMap_cons, List.nil_append]
  | x :: r, k + 1, h => by
    have ih := flat_set hs y r k (by simpa using h)
    rw [List.flatMap_cons, Nat.succ_mul, List.set_cons_succ, List.flatMap_cons, ← ih]
    have e1 : (f x ++ r.flatMap f).take (k * s + s) = f x ++ (r.flatMap f).take (k * s) := by
      rw [show k * s + s = (f x).length + k * s from by rw [hs]; omega, List.take_length_add_append]
    have e2 : (f x ++ r.flatMap f).drop (k * s + s + s) = (r.flatMap f).drop (k * s + s) := by
      rw [show k * s + s + s = (f x).length + (k * s + s) from by rw [hs]; omega, List.drop_length_add_append]
    rw [e1, e2]
    simp only [List.append_assoc]
theorem setL_eq : ∀ (vs : List Value) (o : Nat) (cs : List Value), o + vs.length ≤ cs.length → setL cs o vs = cs.take o ++ vs ++ cs.drop (o + vs.length)
  | [], o, cs, _ => by simp [setL]
  | v :: r, o, cs, h => by
    simp only [List.length_cons] at h
    have ho : o < cs.length := by omega
    rw [setL, setL_eq r (o + 1) (cs.set o v) (by rw [List.length_set]; omega)]
    rw [List.take_succ_eq_append_getElem (by rw [List.length_set]; exact ho), List.take_set_of_le (Nat.le_refl _), List.getElem_set_self, List.drop_set_of_lt (by omega)]
    simp [show o + 1 + r.length = o + (r.length + 1) from by omega]
theorem setL_flat {α : Type} {f : α → List Value} {s : Nat} (hs : ∀ x, (f x).length = s) (y : α) (xs : List α) (k : Nat) (h : k < xs.length) : setL (xs.flatMap f) (k * s) (f y) = (xs.set k y).flatMap f := by
  have hl := flat_length hs xs
  have hk : k * s + s ≤ xs.length * s := by
    have := Nat.mul_le_mul_right s (show k + 1 ≤ xs.length from h)
    rw [Nat.add_mul, Nat.one_mul] at this
    exact this
  rw [setL_eq _ _ _ (by rw [hs, hl]; exact hk), hs]
  exact flat_set hs y xs k h
theorem flat_room {α : Type} {f : α → List Value} {s : Nat} (hs : ∀ x, (f x).length = s) (y : α) (xs : List α) (k : Nat) (h : k < xs.length) : k * s + (f y).length ≤ (xs.flatMap f).length := by
  rw [flat_length hs, hs]
  have := Nat.mul_le_mul_right s (show k + 1 ≤ xs.length from h)
  rw [Nat.add_mul, Nat.one_mul] at this
  exact this
theorem made_flat {α : Type} {f : α → List Value} {s : Nat} (hs : ∀ x, (f x).length = s) (d : α) (zc : Array Value) (hz : zc.toList = f d) (h0 : 0 < s) (m : Nat) : (madeCells zc (m * s)).toList = (List.replicate m d).flatMap f := by
  have hzs : zc.size = s := by rw [← Array.length_toList, hz, hs]
  apply List.ext_getElem
  · rw [flat_length hs]
    simp [madeCells]
  · intro i h1 h2
    have hi : i < m * s := by simpa [madeCells] using h1
    have hq : i / s < m := Nat.div_lt_of_lt_mul (by rw [Nat.mul_comm]; exact hi)
    have hr : i % s < s := Nat.mod_lt _ h0
    have hp := flat_part hs d (List.replicate m d) (i / s) (by simpa using hq)
    have hd : (List.replicate m d).getD (i / s) d = d := by rw [List.getD_eq_getElem?_getD, List.getElem?_replicate, if_pos hq]; rfl
    rw [hd] at hp
    have e : ((List.replicate m d).flatMap f)[i]? = (f d)[i % s]? := by
      rw [← hp, List.getElem?_take, if_pos hr, List.getElem?_drop, Nat.mul_comm, Nat.div_add_mod]
    have e2 : (madeCells zc (m * s)).toList[i]? = zc.toList[i % s]? := by
      simp [madeCells, hi, hzs, hr]
    rw [hz, ← e, List.getElem?_eq_getElem h1, List.getElem?_eq_getElem h2] at e2
    exact Option.some.inj e2
def filledA {α : Type} (d : α) (xs : List α) (k n : Nat) : List α := xs.take k ++ List.replicate (n - k) d
theorem filledA_length {α : Type} {d : α} (xs : List α) (k : Nat) (h : k ≤ xs.length) : (filledA d xs k xs.length).length = xs.length := by
  simp [filledA]; omega
theorem filledA_set {α : Type} {d : α} (xs : List α) (k : Nat) (h : k < xs.length) : (filledA d xs k xs.length).set k (xs.getD k d) = filledA d xs (k + 1) xs.length := by
  unfold filledA
  rw [List.set_append_right _ _ (by rw [List.length_take]; omega), List.take_succ_eq_append_getElem h, List.append_assoc]
  rw [show xs.length - k = (xs.length - (k + 1)) + 1 from by omega, List.replicate_succ, List.length_take, Nat.min_eq_left (Nat.le_of_lt h), Nat.sub_self, List.set_cons_zero]
  simp [h]
theorem filledA_full {α : Type} {d : α} (xs : List α) : filledA d xs xs.length xs.length = xs := by simp [filledA]
theorem Rd.elem {α : Type} {f : α → List Value} {s : Nat} (hs : ∀ x, (f x).length = s) (h0 : 0 < s) (d : α) {w : World} {A : Option Addr} {xs : List α} (h : Rd w A (xs.flatMap f)) {k : Nat} (hk : k < xs.length) : ∃ b o, A = some ⟨b, o, none⟩ ∧ Lies w b (o + k * s) (f (xs.getD k d)) := by
  have hl := flat_length hs xs
  have hp : 0 < (xs.flatMap f).length := by rw [hl]; exact Nat.mul_pos (by omega) h0
  obtain ⟨b, o, rfl, hc⟩ := h.all hp
  exact ⟨b, o, rfl, Lies.part (fun j v hj => hc j v hj) (flat_part hs d xs k hk)⟩
/-- Its guard speaks of an operation that was passed over itself. -/
def offE (ops : Array Oper) (ρ : Env) (o : Oper) : Bool :=
  match o.guard with
  | none => false
  | some (j, _) =>
    match ops[j]? with
    | some oj =>
      match oj.dst with
      | some d =>
        match get ρ d with
        | some (.tuple _) => true
        | _ => false
      | none => false
    | none => false
theorem EL.skipU {P : Program} {n : Nat} {ops : Array Oper} {Q : Env → World → Prop} {rest : List Oper} {o : Oper} {ρ ρ' : Env} {w : World} (hg : offE ops ρ o = true) (hd : putE n o.dst undef ρ = some ρ') (k : EL P n ops Q rest ρ' w) : EL P n ops Q (o :: rest) ρ w :=
  ⟨fun a ha => by
    unfold wpList
    have : Region.wanted o (yielded ops a.tmps) = false := by
      unfold offE at hg
      unfold Region.wanted
      cases h1 : o.guard with
      | none => simp [h1] at hg
      | some jw =>
        obtain ⟨j, want⟩ := jw
        simp only [h1] at hg ⊢
        cases h2 : ops[j]? with
        | none => simp [h2] at hg
        | some oj =>
          simp only [h2] at hg
          cases h3 : oj.dst with
          | none => simp [h3] at hg
          | some d =>
            simp only [h3] at hg
            cases h4 : get ρ d with
            | none => simp [h4] at hg
            | some v =>
              have hv := ha.val d v h4
              cases v <;> simp [h4] at hg
              unfold yielded
              simp only [h2, Option.bind_some, h3, hv]
              rfl
    rw [if_neg (by rw [this]; simp)]
    exact k.out _ (ha.put hd)⟩
theorem EW.seqR {P : Program} {n : Nat} {Q : Exit → Env → World → Prop} {ρ : Env} {w : World} {x y : Code} {K : Env → World → Prop} (h : EW P n x (thenE K Q) ρ w) (hk : ∀ ρ' w', K ρ' w' → EW P n y Q ρ' w') : EW P n (.seq x y) Q ρ w :=
  EW.seq (EW.mono h fun e ρ' w' hq => by cases e <;> first | exact hk _ _ hq | exact hq)
end Eng
end Go.Proofs.Ytgahkbcfjibjaaa
