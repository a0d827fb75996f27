/- The verifier's copies of instructions and guards: contracts. No condition. -/
import Derived.Test.YtogljflccfoaeaaDoorAgg
import Derived.Test.YtogljflccfoaeaaDoorTab
namespace Go.Proofs.YtogljflccfoaeaaDoor
open Go Go.RowKit
namespace Eng
theorem Below.wr {B g : Nat} {a w w' : World} (h : Below B a w) (hg : w.grownBy w' (some g)) (hB : B ≤ g) (hs : B ≤ a.heap.size) : Below B a w' :=
  ⟨hg.os.trans h.os, hg.tape.trans h.tape, hg.output.trans h.output, Nat.le_trans h.size hg.size, fun k hk => (hg.block k (Nat.lt_of_lt_of_le hk (Nat.le_trans hs h.size)) (by intro e; injection e; omega)).trans (h.block k hk)⟩
theorem wrote (w : World) (g k : Nat) (v : Value) : w.grownBy (w.setCell ⟨g, k, none⟩ v) (some g) :=
  ⟨rfl, rfl, rfl, by simp [World.setCell], fun j _ hne => Below.heap_setCell w _ _ j (fun e => hne (by rw [e]))⟩
theorem grownBy_trans {a b c : World} {g : Nat} (h : a.grownBy b (some g)) (k : b.grownBy c (some g)) : a.grownBy c (some g) :=
  ⟨k.os.trans h.os, k.tape.trans h.tape, k.output.trans h.output, Nat.le_trans h.size k.size, fun j hj hne => (k.block j (Nat.lt_of_lt_of_le hj h.size) hne).trans (h.block j hj hne)⟩
theorem wroteL (g : Nat) : ∀ (vs : List Value) (o : Nat) (w : World), w.grownBy (w.setCells g o vs) (some g)
  | [], _, w => World.grownBy.refl w _
  | v :: r, o, w => grownBy_trans (wrote w g o v) (wroteL g r (o + 1) _)
section
variable {P : Program} [UTab P] {n : Nat} {ρ : Env} {dst : Option Tmp} {ty : TypeId} {pos : String} {af : Array Edge} {gd : Option (Nat × Bool)}
omit [UTab P] in
theorem Hv.boxA {w : World} {x : Operand} {t : TypeId} {u : Value} {sz : Nat} (hx : ev ρ x = some u) (hn : u.cells.size = sz) :
    Hv P n ρ ⟨dst, .box t x, ty, pos, af, gd⟩ w (fun v w' => ∃ g, v = .pointer (some ⟨g, 0, none⟩) ∧ g = w.heap.size ∧ At w' t sz g 1 1 u.cells.toList ∧ Ext w w') :=
  (Hv.box hx).mono fun _ _ h => ⟨_, h.1, rfl, h.2 ▸ At.fresh w t _ sz hn, h.2 ▸ Ext.alloc w _⟩
theorem Hv.allocA {w : World} {t : TypeId} {z : Value} {sz by_ : Nat} (hi : UTab.inf P t = some (z, sz, by_)) (hn : z.cells.size = sz) :
    Hv P n ρ ⟨dst, .alloc t, ty, pos, af, gd⟩ w (fun v w' => ∃ g, v = .pointer (some ⟨g, 0, none⟩) ∧ g = w.heap.size ∧ At w' t sz g 1 1 z.cells.toList ∧ Ext w w') :=
  (Hv.alloc hi).mono fun _ _ h => ⟨_, h.1, rfl, h.2 ▸ At.fresh w t _ sz hn, h.2 ▸ Ext.alloc w _⟩
theorem Hv.storeG {w : World} {x y : Operand} {t e : TypeId} {z : Value} {by_ size g k m c : Nat} {cs : List Value} {v u : Value} (hi : UTab.inf P t = some (z, 1, by_)) (hx : ev ρ x = some (.pointer (some ⟨g, k, none⟩))) (hy : ev ρ y = some v) (h1 : v.oneCell' = true) (hv : v.cells = #[v]) (hat : At w e size g m c cs) (hk : cs[k]? = some u) :
    Hv P n ρ ⟨none, .store t x y, ty, pos, af, gd⟩ w (fun _ w' => At w' e size g m c (cs.set k v) ∧ w.grownBy w' (some g)) :=
  (Hv.storeIn hi hx hy h1 hv hat hk).mono fun _ _ h => ⟨h.2, h.1 ▸ wrote w g k v⟩
theorem Hv.storeAggG {w : World} {x y : Operand} {t e : TypeId} {z : Value} {sz by_ size g o m c : Nat} {cs vs : List Value} (hi : UTab.inf P t = some (z, sz, by_)) (hx : ev ρ x = some (.pointer (some ⟨g, o, none⟩))) (hy : ev ρ y = some (.agg vs.toArray))
    (hl : vs.length = sz) (h1 : ∀ v ∈ vs, v.oneCell' = true) (hat : At w e size g m c cs) (hb : o + vs.length ≤ cs.length) :
    Hv P n ρ ⟨none, .store t x y, ty, pos, af, gd⟩ w (fun _ w' => At w' e size g m c (setL cs o vs) ∧ w.grownBy w' (some g)) :=
  (Hv.storeAgg hi hx hy hl h1 hat hb).mono fun _ _ h => ⟨h.2, h.1 ▸ wroteL g vs o w⟩
end
structure Ins where
  op : Int
  a : Int
  b : Int
  num : Int
structure Gd where
  reg : Int
  zero : Bool
def insV (x : Ins) : List Value := [.int .i64 x.op, .int .i64 x.a, .int .i64 x.b, .int .i64 x.num]
def gdV (x : Gd) : List Value := [.int .i64 x.reg, .bool x.zero]
theorem insV_one (x : Ins) : ∀ v ∈ insV x, v.oneCell' = true := by
  intro v hv
  simp only [insV, List.mem_cons, List.not_mem_nil, or_false] at hv
  rcases hv with rfl | rfl | rfl | rfl <;> rfl
theorem gdV_one (x : Gd) : ∀ v ∈ gdV x, v.oneCell' = true := by
  intro v hv
  simp only [gdV, List.mem_cons, List.not_mem_nil, or_false] at hv
  rcases hv with rfl | rfl <;> rfl
theorem toInstr (x : Ins) (w : World) : CallsR Tryd.prog 52 [.agg (insV x).toArray] w fun v w' => v = .agg (insV x).toArray ∧ Ext w w' := by
  refine CallsR.enterC Tryd.func52 (by decide +kernel) rfl Tryd.ntmps52 rfl rfl rfl rfl rfl ?_
  repeat' (first
    | refine EW.seq ?_
    | refine EW.region ?_)
  refine EL.h (Hv.boxA (sz := 4) rfl rfl) rfl (fun _ => rfl) ?_
  rintro _ w1 ⟨g1, rfl, hg1, hb, he1⟩
  skip
  refine EL.h (Hv.allocA rfl rfl) rfl (fun _ => rfl) ?_
  rintro _ w2 ⟨g2, rfl, hg2, h2, he2⟩
  repeat' (first
    | refine EL.nil ?_
    | refine EW.seq ?_
    | refine EW.region ?_)
  refine EL.h (Hv.allocA rfl rfl) rfl (fun _ => rfl) ?_
  rintro _ w3 ⟨g3, rfl, hg3, h3, he3⟩
  have l1 := At.lt hb
  have l2 := At.lt h2
  have s1 := he1.size
  have s2 := he2.size
  have s3 := he3.size
  have hw3 : Below w.heap.size w w3 := Ext.trans (Ext.trans he1 he2) he3
  replace hb := At.ext hb (he2.trans he3)
  replace h2 := At.ext h2 he3
  repeat' (first
    | refine EL.f (FV.fieldAddr rfl rfl rfl rfl rfl) rfl rfl ?_
    | refine EL.f (FV.load1 rfl rfl rfl (At.cell hb rfl)) rfl rfl ?_
    | refine EL.nil ?_
    | refine EW.seq ?_
    | refine EW.region ?_)
  refine EL.h (Hv.storeG rfl rfl rfl rfl rfl h3 rfl) rfl (fun _ => rfl) ?_
  rintro _ w4 ⟨h3', hr4⟩
  replace hb := At.kept hb hr4 (by simp; omega)
  replace h2 := At.kept h2 hr4 (by simp; omega)
  have hw4 := Below.wr hw3 hr4 (by omega) (Nat.le_refl _)
  replace h3 := h3'
  repeat' (first
    | refine EL.f (FV.fieldAddr rfl rfl rfl rfl rfl) rfl rfl ?_
    | refine EL.f (FV.load1 rfl rfl rfl (At.cell hb rfl)) rfl rfl ?_
    | refine EL.nil ?_
    | refine EW.seq ?_
    | refine EW.region ?_)
  refine EL.h (Hv.storeG rfl rfl rfl rfl rfl h3 rfl) rfl (fun _ => rfl) ?_
  rintro _ w5 ⟨h3', hr5⟩
  replace hb := At.kept hb hr5 (by simp; omega)
  replace h2 := At.kept h2 hr5 (by simp; omega)
  have hw5 := Below.wr hw4 hr5 (by omega) (Nat.le_refl _)
  replace h3 := h3'
  repeat' (first
    | refine EL.f (FV.fieldAddr rfl rfl rfl rfl rfl) rfl rfl ?_
    | refine EL.f (FV.load1 rfl rfl rfl (At.cell hb rfl)) rfl rfl ?_
    | refine EL.nil ?_
    | refine EW.seq ?_
    | refine EW.region ?_)
  refine EL.h (Hv.storeG rfl rfl rfl rfl rfl h3 rfl) rfl (fun _ => rfl) ?_
  rintro _ w6 ⟨h3', hr6⟩
  replace hb := At.kept hb hr6 (by simp; omega)
  replace h2 := At.kept h2 hr6 (by simp; omega)
  have hw6 := Below.wr hw5 hr6 (by omega) (Nat.le_refl _)
  replace h3 := h3'
  repeat' (first
    | refine EL.f (FV.fieldAddr rfl rfl rfl rfl rfl) rfl rfl ?_
    | refine EL.f (FV.load1 rfl rfl rfl (At.cell hb rfl)) rfl rfl ?_
    | refine EL.nil ?_
    | refine EW.seq ?_
    | refine EW.region ?_)
  refine EL.h (Hv.storeG rfl rfl rfl rfl rfl h3 rfl) rfl (fun _ => rfl) ?_
  rintro _ w7 ⟨h3', hr7⟩
  replace hb := At.kept hb hr7 (by simp; omega)
  replace h2 := At.kept h2 hr7 (by simp; omega)
  have hw7 := Below.wr hw6 hr7 (by omega) (Nat.le_refl _)
  replace h3 := h3'
  repeat' (first
    | refine EL.nil ?_
    | refine EW.seq ?_
    | refine EW.region ?_)
  refine EL.f (FV.loadAgg (cs := insV x) rfl rfl rfl rfl rfl (fun _ e => e ▸ At.lies h3)) rfl rfl ?_
  refine EL.h (Hv.storeAggG (vs := insV x) rfl rfl rfl rfl (insV_one x) h2 (Nat.le_refl _)) rfl (fun _ => rfl) ?_
  rintro _ w8 ⟨h2', hr⟩
  repeat' (first
    | refine EL.nil ?_
    | refine EW.ret ?_)
  exact ⟨g2, 0, insV x, rfl, rfl, At.lies h2', rfl, Below.wr hw7 hr (by omega) (Nat.le_refl _)⟩
theorem toGuard (x : Gd) (w : World) : CallsR Tryd.prog 53 [.agg (gdV x).toArray] w fun v w' => v = .agg (gdV x).toArray ∧ Ext w w' := by
  refine CallsR.enterC Tryd.func53 (by decide +kernel) rfl Tryd.ntmps53 rfl rfl rfl rfl rfl ?_
  repeat' (first
    | refine EW.seq ?_
    | refine EW.region ?_)
  refine EL.h (Hv.boxA (sz := 2) rfl rfl) rfl (fun _ => rfl) ?_
  rintro _ w1 ⟨g1, rfl, hg1, hb, he1⟩
  skip
  refine EL.h (Hv.allocA rfl rfl) rfl (fun _ => rfl) ?_
  rintro _ w2 ⟨g2, rfl, hg2, h2, he2⟩
  repeat' (first
    | refine EL.nil ?_
    | refine EW.seq ?_
    | refine EW.region ?_)
  refine EL.h (Hv.allocA rfl rfl) rfl (fun _ => rfl) ?_
  rintro _ w3 ⟨g3, rfl, hg3, h3, he3⟩
  have l1 := At.lt hb
  have l2 := At.lt h2
  have s1 := he1.size
  have s2 := he2.size
  have s3 := he3.size
  have hw3 : Below w.heap.size w w3 := Ext.trans (Ext.trans he1 he2) he3
  replace hb := At.ext hb (he2.trans he3)
  replace h2 := At.ext h2 he3
  repeat' (first
    | refine EL.f (FV.fieldAddr rfl rfl rfl rfl rfl) rfl rfl ?_
    | refine EL.f (FV.load1 rfl rfl rfl (At.cell hb rfl)) rfl rfl ?_
    | refine EL.nil ?_
    | refine EW.seq ?_
    | refine EW.region ?_)
  refine EL.h (Hv.storeG rfl rfl rfl rfl rfl h3 rfl) rfl (fun _ => rfl) ?_
  rintro _ w4 ⟨h3', hr4⟩
  replace hb := At.kept hb hr4 (by simp; omega)
  replace h2 := At.kept h2 hr4 (by simp; omega)
  have hw4 := Below.wr hw3 hr4 (by omega) (Nat.le_refl _)
  replace h3 := h3'
  repeat' (first
    | refine EL.f (FV.fieldAddr rfl rfl rfl rfl rfl) rfl rfl ?_
    | refine EL.f (FV.load1 rfl rfl rfl (At.cell hb rfl)) rfl rfl ?_
    | refine EL.nil ?_
    | refine EW.seq ?_
    | refine EW.region ?_)
  refine EL.h (Hv.storeG rfl rfl rfl rfl rfl h3 rfl) rfl (fun _ => rfl) ?_
  rintro _ w5 ⟨h3', hr5⟩
  replace hb := At.kept hb hr5 (by simp; omega)
  replace h2 := At.kept h2 hr5 (by simp; omega)
  have hw5 := Below.wr hw4 hr5 (by omega) (Nat.le_refl _)
  replace h3 := h3'
  repeat' (first
    | refine EL.nil ?_
    | refine EW.seq ?_
    | refine EW.region ?_)
  refine EL.f (FV.loadAgg (cs := gdV x) rfl rfl rfl rfl rfl (fun _ e => e ▸ At.lies h3)) rfl rfl ?_
  refine EL.h (Hv.storeAggG (vs := gdV x) rfl rfl rfl rfl (gdV_one x) h2 (Nat.le_refl _)) rfl (fun _ => rfl) ?_
  rintro _ w6 ⟨h2', hr⟩
  repeat' (first
    | refine EL.nil ?_
    | refine EW.ret ?_)
  exact ⟨g2, 0, gdV x, rfl, rfl, At.lies h2', rfl, Below.wr hw5 hr (by omega) (Nat.le_refl _)⟩
end Eng
end Go.Proofs.YtogljflccfoaeaaDoor
