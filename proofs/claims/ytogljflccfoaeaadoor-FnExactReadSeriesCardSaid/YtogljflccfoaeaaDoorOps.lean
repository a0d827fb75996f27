/- The operations' rules for the calculus of the file Eng: what each operation of the model yields. General lemmas, no condition. -/
import Derived.Test.YtogljflccfoaeaaDoorEng
import Derived.OwnWalk
import Derived.IntWalk
import Derived.Below
import Derived.ChangeKeysEq
namespace Go.Proofs.YtogljflccfoaeaaDoor
open Go Go.RowKit
namespace Eng

/-- A table of a program's types, for quick look-up. -/
class UTab (P : Program) where
  und : Nat → Option TypeDesc
  und_ok : ∀ t d, und t = some d → P.underlying t = some d
  inf : Nat → Option (Value × Nat × Nat)
  inf_ok : ∀ t z s b, inf t = some (z, s, b) → (P.info? t).map (fun i => (i.zero, i.size, i.bytes)) = some (some z, s, b)

def look {α : Type} : List (Nat × α) → Nat → Option α
  | [], _ => none
  | (t, v) :: r, n => cond (Nat.beq t n) (some v) (look r n)
theorem look_mem {α : Type} {l : List (Nat × α)} {t : Nat} {v : α} (h : look l t = some v) : (t, v) ∈ l := by
  induction l with
  | nil => simp [look] at h
  | cons x r ih =>
    obtain ⟨t', v'⟩ := x
    unfold look at h
    cases hb : Nat.beq t' t with
    | true =>
      have := Nat.eq_of_beq_eq_true hb
      subst this
      simp at h
      subst h
      exact List.mem_cons_self
    | false =>
      simp [hb] at h
      exact List.mem_cons_of_mem _ (ih h)

section
variable {P : Program} [UTab P]
theorem run_und {t : TypeId} {d : TypeDesc} (h : UTab.und P t = some d) (w : World) : (underlying t).run P w = .ok d w := run_underlying (UTab.und_ok t d h) w
theorem run_inf {t : TypeId} {z : Value} {s b : Nat} (h : UTab.inf P t = some (z, s, b)) (w : World) : (sizeOf t).run P w = .ok s w ∧ (zeroValue t).run P w = .ok z w ∧ ∃ i, (typeInfo t).run P w = .ok i w ∧ P.info? t = some i ∧ i.zero = some z ∧ i.size = s ∧ i.bytes = b := by
  obtain ⟨i, hi, h1, h2, h3⟩ := info_parts (UTab.inf_ok t z s b h)
  refine ⟨?_, ?_, i, ?_, hi, h1, h2, h3⟩
  · simp [sizeOf, typeInfo, hi, h2]
  · simp [zeroValue, typeInfo, hi, h1]
  · simp [typeInfo, hi]

end

section
variable {P : Program} {n : Nat} {S : World → Prop} {ρ : Env} {dst : Option Tmp} {ty : TypeId} {pos : String} {af : Array Edge} {g : Option (Nat × Bool)}
theorem FV.move {x : Operand} {v : Value} (hx : ev ρ x = some v) : FV P n S ρ ⟨dst, .move x, ty, pos, af, g⟩ v :=
  ⟨fun a ha w _ => by simp [execOp, ha.eval hx]⟩
theorem FV.assign {x : Operand} {v : Value} (hx : ev ρ x = some v) : FV P n S ρ ⟨dst, .assign x, ty, pos, af, g⟩ v :=
  ⟨fun a ha w _ => by simp [execOp, ha.eval hx]⟩
theorem FV.pick {c x y : Operand} {b : Bool} {u v : Value} (hc : ev ρ c = some (.bool b)) (hx : ev ρ x = some u) (hy : ev ρ y = some v) : FV P n S ρ ⟨dst, .pick c x y, ty, pos, af, g⟩ (cond b u v) :=
  ⟨fun a ha w _ => by cases b <;> simp [execOp, ha.eval hx, ha.eval hy, ha.eval hc, asBool]⟩
theorem FV.pickT {c x y : Operand} {u : Value} (hc : ev ρ c = some (.bool true)) (hx : ev ρ x = some u) : FV P n S ρ ⟨dst, .pick c x y, ty, pos, af, g⟩ u :=
  ⟨fun a ha w _ => by simp [execOp, ha.eval hx, ha.eval hc, asBool]⟩
theorem FV.pickF {c x y : Operand} {v : Value} (hc : ev ρ c = some (.bool false)) (hy : ev ρ y = some v) : FV P n S ρ ⟨dst, .pick c x y, ty, pos, af, g⟩ v :=
  ⟨fun a ha w _ => by simp [execOp, ha.eval hy, ha.eval hc, asBool]⟩
theorem FV.extract {x : Operand} {i : Nat} {vs : List Value} {v : Value} (hx : ev ρ x = some (.tuple vs.toArray)) (hv : vs[i]? = some v) : FV P n S ρ ⟨dst, .extract x i, ty, pos, af, g⟩ v :=
  ⟨fun a ha w _ => by simp [execOp, ha.eval hx, Instr.extract, hv]⟩

/-! integers -/
section
variable {x y : Operand} {t u : TypeId} {k : IntKind} {p q : Int}
theorem FV.add (hx : ev ρ x = some (.int k p)) (hy : ev ρ y = some (.int k q)) : FV P n S ρ ⟨dst, .binOp .add t x y u, ty, pos, af, g⟩ (.int k (k.wrap (p + q))) :=
  ⟨fun a ha w _ => by simp [execOp, ha.eval hx, ha.eval hy, eqGuard, binOp, Op.intArith]⟩
theorem FV.sub (hx : ev ρ x = some (.int k p)) (hy : ev ρ y = some (.int k q)) : FV P n S ρ ⟨dst, .binOp .sub t x y u, ty, pos, af, g⟩ (.int k (k.wrap (p - q))) :=
  ⟨fun a ha w _ => by simp [execOp, ha.eval hx, ha.eval hy, eqGuard, binOp, Op.intArith]⟩
theorem FV.mul (hx : ev ρ x = some (.int k p)) (hy : ev ρ y = some (.int k q)) : FV P n S ρ ⟨dst, .binOp .mul t x y u, ty, pos, af, g⟩ (.int k (k.wrap (p * q))) :=
  ⟨fun a ha w _ => by simp [execOp, ha.eval hx, ha.eval hy, eqGuard, binOp, Op.intArith]⟩
theorem FV.addI (hx : ev ρ x = some (.int .i64 p)) (hy : ev ρ y = some (.int .i64 q)) (hb : -9223372036854775808 ≤ p + q ∧ p + q ≤ 9223372036854775807) : FV P n S ρ ⟨dst, .binOp .add t x y u, ty, pos, af, g⟩ (.int .i64 (p + q)) := by
  have := FV.add (P := P) (n := n) (S := S) (ρ := ρ) (dst := dst) (ty := ty) (pos := pos) (af := af) (g := g) (t := t) (u := u) hx hy
  rwa [IntWalk.i64_in _ hb] at this
theorem FV.subI (hx : ev ρ x = some (.int .i64 p)) (hy : ev ρ y = some (.int .i64 q)) (hb : -9223372036854775808 ≤ p - q ∧ p - q ≤ 9223372036854775807) : FV P n S ρ ⟨dst, .binOp .sub t x y u, ty, pos, af, g⟩ (.int .i64 (p - q)) := by
  have := FV.sub (P := P) (n := n) (S := S) (ρ := ρ) (dst := dst) (ty := ty) (pos := pos) (af := af) (g := g) (t := t) (u := u) hx hy
  rwa [IntWalk.i64_in _ hb] at this
theorem FV.mulI (hx : ev ρ x = some (.int .i64 p)) (hy : ev ρ y = some (.int .i64 q)) (hb : -9223372036854775808 ≤ p * q ∧ p * q ≤ 9223372036854775807) : FV P n S ρ ⟨dst, .binOp .mul t x y u, ty, pos, af, g⟩ (.int .i64 (p * q)) := by
  have := FV.mul (P := P) (n := n) (S := S) (ρ := ρ) (dst := dst) (ty := ty) (pos := pos) (af := af) (g := g) (t := t) (u := u) hx hy
  rwa [IntWalk.i64_in _ hb] at this
theorem FV.rem (hx : ev ρ x = some (.int k p)) (hy : ev ρ y = some (.int k q)) (h0 : q ≠ 0) : FV P n S ρ ⟨dst, .binOp .rem t x y u, ty, pos, af, g⟩ (.int k (p.tmod q)) :=
  ⟨fun a ha w _ => by simp [execOp, ha.eval hx, ha.eval hy, eqGuard, binOp, Op.intDiv, h0]⟩
theorem FV.remI (hx : ev ρ x = some (.int k p)) (hy : ev ρ y = some (.int k q)) (h0 : q ≠ 0) (hp : 0 ≤ p) : FV P n S ρ ⟨dst, .binOp .rem t x y u, ty, pos, af, g⟩ (.int k (p % q)) := by
  have := FV.rem (P := P) (n := n) (S := S) (ρ := ρ) (dst := dst) (ty := ty) (pos := pos) (af := af) (g := g) (t := t) (u := u) hx hy h0
  rwa [Int.tmod_eq_emod_of_nonneg hp] at this
theorem FV.quo (hx : ev ρ x = some (.int k p)) (hy : ev ρ y = some (.int k q)) (h0 : q ≠ 0) : FV P n S ρ ⟨dst, .binOp .quo t x y u, ty, pos, af, g⟩ (.int k (k.wrap (p.tdiv q))) :=
  ⟨fun a ha w _ => by simp [execOp, ha.eval hx, ha.eval hy, eqGuard, binOp, Op.intDiv, h0]⟩
theorem FV.quoI (hx : ev ρ x = some (.int .i64 p)) (hy : ev ρ y = some (.int .i64 q)) (h0 : 1 ≤ q) (hp : 0 ≤ p ∧ p ≤ 9223372036854775807) : FV P n S ρ ⟨dst, .binOp .quo t x y u, ty, pos, af, g⟩ (.int .i64 (p / q)) := by
  have := FV.quo (P := P) (n := n) (S := S) (ρ := ρ) (dst := dst) (ty := ty) (pos := pos) (af := af) (g := g) (t := t) (u := u) hx hy (by omega)
  rwa [IntWalk.i64_quo _ _ ⟨hp.1, hp.2, h0⟩] at this
theorem FV.lss (hx : ev ρ x = some (.int k p)) (hy : ev ρ y = some (.int k q)) : FV P n S ρ ⟨dst, .binOp .lss t x y u, ty, pos, af, g⟩ (.bool (decide (p < q))) :=
  ⟨fun a ha w _ => by simp [execOp, ha.eval hx, ha.eval hy, eqGuard, binOp, Op.intCmp]⟩
theorem FV.leq (hx : ev ρ x = some (.int k p)) (hy : ev ρ y = some (.int k q)) : FV P n S ρ ⟨dst, .binOp .leq t x y u, ty, pos, af, g⟩ (.bool (decide (p ≤ q))) :=
  ⟨fun a ha w _ => by simp [execOp, ha.eval hx, ha.eval hy, eqGuard, binOp, Op.intCmp]⟩
theorem FV.gtr (hx : ev ρ x = some (.int k p)) (hy : ev ρ y = some (.int k q)) : FV P n S ρ ⟨dst, .binOp .gtr t x y u, ty, pos, af, g⟩ (.bool (decide (q < p))) :=
  ⟨fun a ha w _ => by simp [execOp, ha.eval hx, ha.eval hy, eqGuard, binOp, Op.intCmp]⟩
theorem FV.geq (hx : ev ρ x = some (.int k p)) (hy : ev ρ y = some (.int k q)) : FV P n S ρ ⟨dst, .binOp .geq t x y u, ty, pos, af, g⟩ (.bool (decide (q ≤ p))) :=
  ⟨fun a ha w _ => by simp [execOp, ha.eval hx, ha.eval hy, eqGuard, binOp, Op.intCmp]⟩
theorem FV.eql (hx : ev ρ x = some (.int k p)) (hy : ev ρ y = some (.int k q)) : FV P n S ρ ⟨dst, .binOp .eql t x y u, ty, pos, af, g⟩ (.bool (decide (p = q))) :=
  ⟨fun a ha w _ => by
    have : (p == q) = decide (p = q) := by by_cases h : p = q <;> simp [h]
    simp [execOp, ha.eval hx, ha.eval hy, eqGuard, binOp, Op.intCmp, this]⟩
theorem FV.neq (hx : ev ρ x = some (.int k p)) (hy : ev ρ y = some (.int k q)) : FV P n S ρ ⟨dst, .binOp .neq t x y u, ty, pos, af, g⟩ (.bool (decide (p ≠ q))) :=
  ⟨fun a ha w _ => by
    have : (p != q) = decide (p ≠ q) := by by_cases h : p = q <;> simp [h]
    simp [execOp, ha.eval hx, ha.eval hy, eqGuard, binOp, Op.intCmp, this]⟩
end
theorem FV.not {x : Operand} {t : TypeId} {b : Bool} (hx : ev ρ x = some (.bool b)) : FV P n S ρ ⟨dst, .unOp .not t x, ty, pos, af, g⟩ (.bool (!b)) :=
  ⟨fun a ha w _ => by simp [execOp, ha.eval hx, Op.unary]⟩
theorem FV.neg {x : Operand} {t : TypeId} {p : Int} (hx : ev ρ x = some (.int .i64 p)) (hb : -9223372036854775807 ≤ p ∧ p ≤ 9223372036854775807) : FV P n S ρ ⟨dst, .unOp .neg t x, ty, pos, af, g⟩ (.int .i64 (-p)) :=
  ⟨fun a ha w _ => by simp [execOp, ha.eval hx, Op.unary, Op.intArith, IntWalk.i64_in (-p) (by omega)]⟩
/-! a call -/
theorem Hv.call {w : World} {f : FuncId} {xs : Array Operand} {ts : Array TypeId} {vs : List Value} {R : Value → World → Prop} (hc : CallsR P f vs w R) (hx : evs ρ xs.toList = some vs) :
    Hv P n ρ ⟨dst, .call { callee := .value (.func f), args := xs, argTypes := ts }, ty, pos, af, g⟩ w R :=
  ⟨fun a ha K' Q' h => by
    obtain ⟨fn, h1, h2, h3⟩ := hc.ent
    have h2' : ¬ fn.name = "runtime.NumGoroutine" := by simpa using h2
    have h3' : ¬ fn.body = none := fun h => by rw [h] at h3; cases h3
    have hargs : xs.map a.eval = vs.toArray := by
      apply Array.toList_inj.1
      simpa using ha.evalAll hx
    have hrun : ∀ ρ', ρ' = a.eval → (execOp ρ' ⟨dst, .call { callee := .value (.func f), args := xs, argTypes := ts }, ty, pos, af, g⟩).run P w = .ok (.enter f vs.toArray) w := by
      rintro _ rfl
      simp [execOp, resolve, Deferred.ofValue, Act.eval, invoke, callFunc, h1, h2', h3', hargs]
    unfold Oper.wp
    rw [hrun _ rfl]
    show Calls P f vs.toArray w _
    refine hc.out.mono fun e w' he => ?_
    cases e with
    | returned v => exact h v w' he
    | panicked c => exact he.elim
    | outgrown => exact he.elim⟩

/-- a call of a function value without captured variables -/
theorem Hv.callF {w : World} {f : FuncId} {y : Operand} {xs : Array Operand} {ts : Array TypeId} {vs : List Value} {R : Value → World → Prop} (hc : CallsR P f vs w R) (hx : evs ρ xs.toList = some vs) (hy : ev ρ y = some (.func (.func f) #[] #[])) :
    Hv P n ρ ⟨dst, .call { callee := .value y, args := xs, argTypes := ts }, ty, pos, af, g⟩ w R :=
  ⟨fun a ha K' Q' h => by
    obtain ⟨fn, h1, h2, h3⟩ := hc.ent
    have h2' : ¬ fn.name = "runtime.NumGoroutine" := by simpa using h2
    have h3' : ¬ fn.body = none := fun h => by rw [h] at h3; cases h3
    have hargs : xs.map a.eval = vs.toArray := by
      apply Array.toList_inj.1
      simpa using ha.evalAll hx
    have hrun : ∀ ρ', ρ' = a.eval → (execOp ρ' ⟨dst, .call { callee := .value y, args := xs, argTypes := ts }, ty, pos, af, g⟩).run P w = .ok (.enter f vs.toArray) w := by
      rintro _ rfl
      simp [execOp, resolve, Deferred.ofValue, ha.eval hy, invoke, callFunc, h1, h2', h3', hargs]
    unfold Oper.wp
    rw [hrun _ rfl]
    show Calls P f vs.toArray w _
    refine hc.out.mono fun e w' he => ?_
    cases e with
    | returned v => exact h v w' he
    | panicked c => exact he.elim
    | outgrown => exact he.elim⟩
end

section
variable {P : Program} [UTab P] {n : Nat} {S : World → Prop} {ρ : Env} {dst : Option Tmp} {ty : TypeId} {pos : String} {af : Array Edge} {g : Option (Nat × Bool)}
theorem run_equal_bool {t : TypeId} (ht : UTab.und P t = some .bool) (b c : Bool) (w : World) : (Op.equal t (.bool b) (.bool c)).run P w = .ok (b == c) w := by
  have h : ∀ d : Nat, (Op.equalIn (d + 1) t (.bool b) (.bool c)).run P w = .ok (b == c) w := fun d => by
    simp [Op.equalIn, run_und ht]
  exact h 9999
theorem FV.neqB {x y : Operand} {t u : TypeId} {b c : Bool} (ht : UTab.und P t = some .bool) (hx : ev ρ x = some (.bool b)) (hy : ev ρ y = some (.bool c)) : FV P n S ρ ⟨dst, .binOp .neq t x y u, ty, pos, af, g⟩ (.bool (b != c)) :=
  ⟨fun a ha w _ => by
    have h := run_equal_bool ht b c w
    simp [execOp, ha.eval hx, ha.eval hy, eqGuard, binOp, h]
    cases b <;> cases c <;> rfl⟩
theorem FV.eqlB {x y : Operand} {t u : TypeId} {b c : Bool} (ht : UTab.und P t = some .bool) (hx : ev ρ x = some (.bool b)) (hy : ev ρ y = some (.bool c)) : FV P n S ρ ⟨dst, .binOp .eql t x y u, ty, pos, af, g⟩ (.bool (b == c)) :=
  ⟨fun a ha w _ => by
    have h := run_equal_bool ht b c w
    simp [execOp, ha.eval hx, ha.eval hy, eqGuard, binOp, h]⟩
theorem FV.conv {x : Operand} {s d : TypeId} {k k' : IntKind} {p : Int} {e : TypeDesc} (hs : UTab.und P s = some e) (hd : UTab.und P d = some (.int k)) (hx : ev ρ x = some (.int k' p)) (hw : k.wrap p = p) : FV P n S ρ ⟨dst, .convert s d x, ty, pos, af, g⟩ (.int k p) :=
  ⟨fun a ha w _ => by simp [execOp, ha.eval hx, convert, run_und hs, run_und hd, Conv.intToInt, hw]⟩

/-! slices -/
theorem FV.len {x : Operand} {t e : TypeId} {A : Option Addr} {l c : Nat} (ht : UTab.und P t = some (.slice e)) (hx : ev ρ x = some (.slice A l c)) : FV P n S ρ ⟨dst, .call { callee := .builtin .len, args := #[x], argTypes := #[t] }, ty, pos, af, g⟩ (.int .i64 l) :=
  ⟨fun a ha w _ => by simp [execOp, ha.eval hx, resolve, invoke, builtin, Builtin.len_, run_und ht, goInt]⟩
theorem FV.lenS {x : Operand} {t : TypeId} {s : ByteArray} (ht : UTab.und P t = some .string) (hx : ev ρ x = some (.string s)) : FV P n S ρ ⟨dst, .call { callee := .builtin .len, args := #[x], argTypes := #[t] }, ty, pos, af, g⟩ (.int .i64 s.size) :=
  ⟨fun a ha w _ => by simp [execOp, ha.eval hx, resolve, invoke, builtin, Builtin.len_, run_und ht, goInt]⟩
theorem FV.idx {x i : Operand} {t e : TypeId} {b o l c : Nat} {k : IntKind} {j : Int} {z : Value} {s by_ : Nat} (ht : UTab.und P t = some (.slice e)) (hi : UTab.inf P e = some (z, s, by_)) (hx : ev ρ x = some (.slice (some ⟨b, o, none⟩) l c)) (hj : ev ρ i = some (.int k j)) (h0 : 0 ≤ j) (h1 : j < l) :
    FV P n S ρ ⟨dst, .indexAddr t x i, ty, pos, af, g⟩ (.pointer (some ⟨b, o + j.toNat * s, none⟩)) :=
  ⟨fun a ha w _ => by
    have e1 := (run_inf hi w).1
    have e2 : (⟨b, o, none⟩ : Addr).add (j.toNat * s) = ⟨b, o + j.toNat * s, none⟩ := by
      unfold Addr.add
      split
      · simp_all
      · rfl
    simp [execOp, ha.eval hx, ha.eval hj, Instr.indexAt, run_und ht, asIntOf, h0, h1, e1, e2]⟩
theorem FV.idx1 {x i : Operand} {t e : TypeId} {b o l c : Nat} {k : IntKind} {j : Int} {z : Value} {by_ : Nat} (ht : UTab.und P t = some (.slice e)) (hi : UTab.inf P e = some (z, 1, by_)) (hx : ev ρ x = some (.slice (some ⟨b, o, none⟩) l c)) (hj : ev ρ i = some (.int k j)) (h0 : 0 ≤ j) (h1 : j < l) :
    FV P n S ρ ⟨dst, .indexAddr t x i, ty, pos, af, g⟩ (.pointer (some ⟨b, o + j.toNat, none⟩)) := by
  have := FV.idx (P := P) (n := n) (S := S) (ρ := ρ) (dst := dst) (ty := ty) (pos := pos) (af := af) (g := g) ht hi hx hj h0 h1
  rwa [Nat.mul_one] at this

theorem FV.idx0 {x i : Operand} {t e : TypeId} {b l c : Nat} {k : IntKind} {j : Int} {z : Value} {by_ : Nat} (ht : UTab.und P t = some (.slice e)) (hi : UTab.inf P e = some (z, 1, by_)) (hx : ev ρ x = some (.slice (some ⟨b, 0, none⟩) l c)) (hj : ev ρ i = some (.int k j)) (h0 : 0 ≤ j) (h1 : j < l) :
    FV P n S ρ ⟨dst, .indexAddr t x i, ty, pos, af, g⟩ (.pointer (some ⟨b, j.toNat, none⟩)) := by
  have := FV.idx1 (P := P) (n := n) (S := S) (ρ := ρ) (dst := dst) (ty := ty) (pos := pos) (af := af) (g := g) ht hi hx hj h0 h1
  rwa [Nat.zero_add] at this
/-- a load of one cell -/
def oneDesc : TypeDesc → Bool
  | .struct _ | .array _ _ => false
  | _ => true
theorem run_isAgg_one {t : TypeId} {d : TypeDesc} (ht : UTab.und P t = some d) (hd : oneDesc d = true) (w : World) : (isAgg t).run P w = .ok false w := by
  cases d <;> simp [oneDesc] at hd <;> simp [isAgg, run_und ht]
theorem FV.load {x : Operand} {t : TypeId} {d : TypeDesc} {ad : Addr} {v : Value} (ht : UTab.und P t = some d) (hd : oneDesc d = true) (hx : ev ρ x = some (.pointer (some ad))) (hc : ∀ w, S w → w.cell? ad = some v) : FV P n S ρ ⟨dst, .load t x, ty, pos, af, g⟩ v :=
  ⟨fun a ha w hS => by simp [execOp, ha.eval hx, Instr.loadAt, Instr.sureAddr, loadVar, run_isAgg_one ht hd, hc w hS]⟩

/-- a store of one cell -/
theorem Hv.store {w : World} {x y : Operand} {t : TypeId} {z : Value} {by_ : Nat} {ad : Addr} {v u : Value} (hi : UTab.inf P t = some (z, 1, by_)) (hx : ev ρ x = some (.pointer (some ad))) (hy : ev ρ y = some v) (h1 : v.oneCell' = true) (hv : v.cells = #[v]) (hc : w.cell? ad = some u) (hf : w.frozen? ad = false) :
    Hv P n ρ ⟨none, .store t x y, ty, pos, af, g⟩ w (fun _ w' => w' = w.setCell ad v) :=
  ⟨fun a ha K' Q' h => by
    have e1 := (run_inf hi w).1
    have hz : ad.add 0 = ad := by simp [Addr.add]
    have e2 : (storeCells ad [v]).run P w = .ok () (w.setCell ad v) := by
      simp [storeCells, hz, run_store P w ad v _ h1, hc, hf]
    have hrun : (execOp a.eval ⟨none, .store t x y, ty, pos, af, g⟩).run P w = .ok .skip (w.setCell ad v) := by
      simp [execOp, ha.eval hx, ha.eval hy, Instr.storeAt, Instr.sureAddr, storeVar, hv, e1, e2]
    unfold Oper.wp
    rw [hrun]
    exact h undef _ rfl⟩
end

/-! ### tests: decided, or parted -/
section
variable {P : Program} {n : Nat} {ops : Array Oper} {Q : Env → World → Prop} {rest : List Oper} {ρ : Env} {ρ' : Value → Env} {w : World} {dst : Option Tmp} {ty : TypeId} {pos : String} {af : Array Edge} {g : Option (Nat × Bool)}
variable {x y : Operand} {t u : TypeId} {k : IntKind} {p q : Int}

theorem EL.fT {o : Oper} {p : Prop} [Decidable p] (hv : FV P n (fun w' => w' = w) ρ o (.bool (decide p))) (hg : wantE ops ρ o = some true) (hd : ∀ v, putE n o.dst v ρ = some (ρ' v)) (hp : p) (kt : EL P n ops Q rest (ρ' (.bool true)) w) : EL P n ops Q (o :: rest) ρ w :=
  EL.f (by rwa [decide_eq_true hp] at hv) hg (hd _) kt
theorem EL.fF {o : Oper} {p : Prop} [Decidable p] (hv : FV P n (fun w' => w' = w) ρ o (.bool (decide p))) (hg : wantE ops ρ o = some true) (hd : ∀ v, putE n o.dst v ρ = some (ρ' v)) (hp : ¬ p) (kf : EL P n ops Q rest (ρ' (.bool false)) w) : EL P n ops Q (o :: rest) ρ w :=
  EL.f (by rwa [decide_eq_false hp] at hv) hg (hd _) kf
theorem EL.fS {o : Oper} {p : Prop} [Decidable p] (hv : FV P n (fun w' => w' = w) ρ o (.bool (decide p))) (hg : wantE ops ρ o = some true) (hd : ∀ v, putE n o.dst v ρ = some (ρ' v)) (kt : p → EL P n ops Q rest (ρ' (.bool true)) w) (kf : ¬ p → EL P n ops Q rest (ρ' (.bool false)) w) : EL P n ops Q (o :: rest) ρ w := by
  by_cases hp : p
  · exact EL.fT hv hg hd hp (kt hp)
  · exact EL.fF hv hg hd hp (kf hp)
theorem EL.fB {o : Oper} {b : Bool} (hv : FV P n (fun w' => w' = w) ρ o (.bool b)) (hg : wantE ops ρ o = some true) (hd : ∀ v, putE n o.dst v ρ = some (ρ' v)) (kt : b = true → EL P n ops Q rest (ρ' (.bool true)) w) (kf : b = false → EL P n ops Q rest (ρ' (.bool false)) w) : EL P n ops Q (o :: rest) ρ w := by
  cases b
  · exact EL.f hv hg (hd _) (kf rfl)
  · exact EL.f hv hg (hd _) (kt rfl)
end
section
variable {P : Program} {n : Nat} {Q : Exit → Env → World → Prop} {ρ : Env} {w : World} {c : Operand} {x y : Code}
theorem EW.condT (hc : ev ρ c = some (.bool true)) (h : EW P n x Q ρ w) : EW P n (.cond c x y) Q ρ w := EW.cond hc (fun _ => h) (fun h => by cases h)
theorem EW.condF (hc : ev ρ c = some (.bool false)) (h : EW P n y Q ρ w) : EW P n (.cond c x y) Q ρ w := EW.cond hc (fun h => by cases h) (fun _ => h)
theorem EW.condP {p : Prop} [Decidable p] (hc : ev ρ c = some (.bool (decide p))) (ht : p → EW P n x Q ρ w) (hf : ¬ p → EW P n y Q ρ w) : EW P n (.cond c x y) Q ρ w :=
  EW.cond hc (fun h => ht (of_decide_eq_true h)) (fun h => hf (of_decide_eq_false h))
end
end Eng
end Go.Proofs.YtogljflccfoaeaaDoor
