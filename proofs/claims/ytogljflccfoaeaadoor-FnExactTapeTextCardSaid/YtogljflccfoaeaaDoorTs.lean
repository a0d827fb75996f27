/- The verifier's copy of a tape. Conditions: the lengths. -/
import Derived.Test.YtogljflccfoaeaaDoorTr
namespace Go.Proofs.YtogljflccfoaeaaDoor
open Go Go.RowKit
namespace Eng
/-- The cells of a tape whose rows are blocks of one's own. -/
def tapeC (t : Tp) (ga gb gc : Nat) : List Value := [.int .i64 t.inputs, .slice (some ⟨ga, 0, none⟩) t.code.length t.code.length, .slice (some ⟨gb, 0, none⟩) t.guards.length t.guards.length, .slice (some ⟨gc, 0, none⟩) t.outs.length t.outs.length]
theorem tapeC_one (t : Tp) (ga gb gc : Nat) : ∀ v ∈ tapeC t ga gb gc, v.oneCell' = true := by
  intro v hv
  simp only [tapeC, List.mem_cons, List.not_mem_nil, or_false] at hv
  rcases hv with rfl | rfl | rfl | rfl <;> rfl
/-- A tape of one's own: three blocks. -/
structure Own (w : World) (B : Nat) (t : Tp) (ga gb gc : Nat) : Prop where
  lo : B ≤ ga
  ab : ga < gb
  bc : gb < gc
  a : At w 66 4 ga t.code.length t.code.length (insL t.code)
  b : At w 71 2 gb t.guards.length t.guards.length (gdL t.guards)
  c : AtI w gc t.outs.length t.outs
theorem Own.ext {w w' : World} {B : Nat} {t : Tp} {ga gb gc : Nat} (h : Own w B t ga gb gc) (he : Ext w w') : Own w' B t ga gb gc :=
  ⟨h.lo, h.ab, h.bc, At.ext h.a he, At.ext h.b he, At.ext h.c he⟩
theorem Own.tape {w : World} {B : Nat} {t : Tp} {ga gb gc : Nat} (h : Own w B t ga gb gc) : TapeV w (.agg (tapeC t ga gb gc).toArray) t :=
  ⟨_, _, _, _, _, _, rfl, At.rd h.a, At.rd h.b, At.rd h.c⟩
theorem toTape (v : Value) (t : Tp) (w : World) (h : TapeV w v t) (n1 : t.code.length ≤ 1048576) (n2 : t.guards.length ≤ 1048576) (n3 : t.outs.length ≤ 1048576) :
    CallsR Tryd.prog 16 [v] w fun v' w' => ∃ ga gb gc, v' = .agg (tapeC t ga gb gc).toArray ∧ Own w' w.heap.size t ga gb gc ∧ Ext w w' := by
  obtain ⟨A, c, B, d, C, e, rfl, r1, r2, r3⟩ := h
  refine CallsR.enterC Tryd.func16 (by decide +kernel) rfl Tryd.ntmps16 rfl rfl rfl rfl rfl ?_
  repeat' (first
    | refine EW.seq ?_
    | refine EW.region ?_)
  refine EL.h (Hv.boxA (sz := 4) rfl rfl) rfl (fun _ => rfl) ?_
  rintro _ w1 ⟨g1, rfl, hg1, hb, he1⟩
  skip
  refine EL.h (Hv.allocA rfl rfl) rfl (fun _ => rfl) ?_
  rintro _ w2 ⟨g2, rfl, hg2, h2, he2⟩
  repeat' (first
    | refine EL.nil ?_
    | refine EW.seq ?_
    | refine EW.region ?_)
  refine EL.h (Hv.allocA rfl rfl) rfl (fun _ => rfl) ?_
  rintro _ w3 ⟨g3, rfl, hg3, h3, he3⟩
  have l1 := At.lt hb
  have l2 := At.lt h2
  have l3 := At.lt h3
  have s1 := he1.size
  have s2 := he2.size
  have s3 := he3.size
  have hw3 : Ext w w3 := Ext.trans (Ext.trans he1 he2) he3
  replace hb := At.ext hb (he2.trans he3)
  replace h2 := At.ext h2 he3
  repeat' (first
    | refine EL.f (FV.fieldAddr rfl rfl rfl rfl rfl) rfl rfl ?_
    | refine EL.f (FV.load1 rfl rfl rfl (At.cell hb rfl)) rfl rfl ?_
    | refine EL.nil ?_
    | refine EW.seq ?_
    | refine EW.region ?_)
  refine EL.h (Hv.storeG rfl rfl rfl rfl rfl h3 rfl) rfl (fun _ => rfl) ?_
  rintro _ w4 ⟨h4, hr4⟩
  replace hb := At.kept hb hr4 (by simp; omega)
  replace h2 := At.kept h2 hr4 (by simp; omega)
  have hw4 : Ext w w4 := Below.wr hw3 hr4 (by omega) (Nat.le_refl _)
  have s4 := hr4.size
  repeat' (first
    | refine EL.f (FV.fieldAddr rfl rfl rfl rfl rfl) rfl rfl ?_
    | refine EL.f (FV.load1 rfl rfl rfl (At.cell hb rfl)) rfl rfl ?_
    | refine EL.nil ?_
    | refine EW.seq ?_
    | refine EW.region ?_)
  refine EL.h (Hv.call (toInstrS _ _ _ w4 (r1.ext hw4) n1) rfl) rfl (fun _ => rfl) ?_
  rintro _ w5 ⟨ga, rfl, hga, tga, he5⟩
  have s5 := he5.size
  have lga := At.lt tga
  repeat' (first
    | refine EL.f (FV.fieldAddr rfl rfl rfl rfl rfl) rfl rfl ?_)
  refine EL.h (Hv.storeG rfl rfl rfl rfl rfl (At.ext h4 he5) rfl) rfl (fun _ => rfl) ?_
  rintro _ w6 ⟨h6, hr6⟩
  replace hb := At.kept (At.ext hb he5) hr6 (by simp; omega)
  replace h2 := At.kept (At.ext h2 he5) hr6 (by simp; omega)
  replace tga := At.kept tga hr6 (by simp; omega)
  have hw6 : Ext w w6 := Below.wr (hw4.trans he5) hr6 (by omega) (Nat.le_refl _)
  have s6 := hr6.size
  repeat' (first
    | refine EL.f (FV.fieldAddr rfl rfl rfl rfl rfl) rfl rfl ?_
    | refine EL.f (FV.load1 rfl rfl rfl (At.cell hb rfl)) rfl rfl ?_
    | refine EL.nil ?_
    | refine EW.seq ?_
    | refine EW.region ?_)
  refine EL.h (Hv.call (toGuardS _ _ _ w6 (r2.ext hw6) n2) rfl) rfl (fun _ => rfl) ?_
  rintro _ w7 ⟨gb, rfl, hgb, tgb, he7⟩
  have s7 := he7.size
  have lgb := At.lt tgb
  repeat' (first
    | refine EL.f (FV.fieldAddr rfl rfl rfl rfl rfl) rfl rfl ?_)
  refine EL.h (Hv.storeG rfl rfl rfl rfl rfl (At.ext h6 he7) rfl) rfl (fun _ => rfl) ?_
  rintro _ w8 ⟨h8, hr8⟩
  replace hb := At.kept (At.ext hb he7) hr8 (by simp; omega)
  replace h2 := At.kept (At.ext h2 he7) hr8 (by simp; omega)
  replace tgb := At.kept tgb hr8 (by simp; omega)
  replace tga := At.kept (At.ext tga he7) hr8 (by simp; omega)
  have hw8 : Ext w w8 := Below.wr (hw6.trans he7) hr8 (by omega) (Nat.le_refl _)
  have s8 := hr8.size
  repeat' (first
    | refine EL.f (FV.fieldAddr rfl rfl rfl rfl rfl) rfl rfl ?_
    | refine EL.f (FV.load1 rfl rfl rfl (At.cell hb rfl)) rfl rfl ?_
    | refine EL.nil ?_
    | refine EW.seq ?_
    | refine EW.region ?_)
  refine EL.h (Hv.call (toInts _ _ _ w8 (r3.ext hw8) n3) rfl) rfl (fun _ => rfl) ?_
  rintro _ w9 ⟨gc, rfl, hgc, tgc, he9⟩
  have s9 := he9.size
  have lgc := At.lt tgc
  repeat' (first
    | refine EL.f (FV.fieldAddr rfl rfl rfl rfl rfl) rfl rfl ?_)
  refine EL.h (Hv.storeG rfl rfl rfl rfl rfl (At.ext h8 he9) rfl) rfl (fun _ => rfl) ?_
  rintro _ w10 ⟨h10, hr10⟩
  replace hb := At.kept (At.ext hb he9) hr10 (by simp; omega)
  replace h2 := At.kept (At.ext h2 he9) hr10 (by simp; omega)
  replace tgc := At.kept tgc hr10 (by simp; omega)
  replace tga := At.kept (At.ext tga he9) hr10 (by simp; omega)
  replace tgb := At.kept (At.ext tgb he9) hr10 (by simp; omega)
  have hw10 : Ext w w10 := Below.wr (hw8.trans he9) hr10 (by omega) (Nat.le_refl _)
  have s10 := hr10.size
  repeat' (first
    | refine EL.nil ?_
    | refine EW.seq ?_
    | refine EW.region ?_)
  refine EL.f (FV.loadAgg (cs := tapeC t ga gb gc) rfl rfl rfl rfl rfl (fun _ e => e ▸ At.lies h10)) rfl rfl ?_
  refine EL.h (Hv.storeAggG (vs := tapeC t ga gb gc) rfl rfl rfl rfl (tapeC_one _ _ _ _) h2 (Nat.le_refl _)) rfl (fun _ => rfl) ?_
  rintro _ w11 ⟨h2', hr⟩
  repeat' (first
    | refine EL.nil ?_
    | refine EW.ret ?_)
  exact ⟨g2, 0, tapeC t ga gb gc, rfl, rfl, At.lies h2', ga, gb, gc, rfl, ⟨by omega, by omega, by omega, At.kept tga hr (by simp; omega), At.kept tgb hr (by simp; omega), At.kept tgc hr (by simp; omega)⟩, Below.wr hw10 hr (by omega) (Nat.le_refl _)⟩
end Eng
end Go.Proofs.YtogljflccfoaeaaDoor
