/- Instructions moved, in the program and in the reference; rows of truth values. Conditions: as each says. -/
import Derived.Test.YtfkohgfcchhlpaaTm
import Derived.Test.YtfkohgfcchhlpaaTtp
namespace Go.Proofs.Ytfkohgfcchhlpaa
open Go Go.RowKit
namespace Eng
/-! the table of types, with []bool -/
def undL2 : List (Nat × TypeDesc) := (121, .slice 4) :: undL
theorem undL2_ok : ∀ p ∈ undL2, Try.prog.underlying p.1 = some p.2 := by
  intro p hp
  rcases List.mem_cons.1 hp with rfl | hp
  · exact Try.underlying121
  · exact undL_ok p hp
instance tab2 : UTab Try.prog where
  und := look undL2
  und_ok := fun t d h => undL2_ok (t, d) (look_mem h)
  inf := look infL
  inf_ok := fun t z s b h => infL_ok (t, (z, s, b)) (look_mem h)
def bools (xs : List Bool) : List Value := xs.map Value.bool
theorem bools_length (xs : List Bool) : (bools xs).length = xs.length := by simp [bools]
theorem bools_get {xs : List Bool} {k : Nat} (h : k < xs.length) : (bools xs)[k]? = some (.bool (xs.getD k false)) := by simp [bools, h]
theorem bools_set (xs : List Bool) (k : Nat) (x : Bool) : bools (xs.set k x) = (bools xs).set k (.bool x) := by simp [bools, List.map_set]
theorem madeBools (m : Nat) : (madeCells (Value.bool false).cells (m * 1)).toList = bools (List.replicate m false) := by
  apply List.ext_getElem
  · simp [madeCells, bools]
  · intro i h1 h2
    simp [madeCells, bools, Value.cells, Nat.mod_one]
set_option maxHeartbeats 4000000 in
theorem implMoved (x : Ins) (A : Option Addr) (c : Nat) (to : List Int) (w : World) (hop : 1 ≤ x.op ∧ x.op ≤ 7) (hto : Rd w A (ints to)) (ha : 3 ≤ x.op → 0 ≤ x.a ∧ x.a < to.length) (hb0 : 3 ≤ x.op ∧ x.op ≤ 6 → 0 ≤ x.b ∧ x.b < to.length) :
    CallsR Try.prog 127 [.agg (insV x).toArray, .slice A to.length c] w fun v w' => v = .agg (insV (mvI x to)).toArray ∧ Ext w w' := by
  refine CallsR.enterC Try.func127 (by decide +kernel) rfl Try.ntmps127 rfl rfl rfl rfl rfl ?_
  repeat' (first
    | refine EW.seq ?_
    | refine EW.region ?_)
  refine EL.h (Hv.boxA (sz := 4) rfl rfl) rfl (fun _ => rfl) ?_
  rintro _ w1 ⟨g1, rfl, hg1, hb, he1⟩
  skip
  refine EL.h (Hv.allocA rfl rfl) rfl (fun _ => rfl) ?_
  rintro _ w2 ⟨g2, rfl, hg2, h2, he2⟩
  have l1 := At.lt hb
  have s1 := he1.size
  replace hb : At w2 65 4 g1 1 1 (insV x) := At.ext hb he2
  have hw2 := he1.trans he2
  by_cases h3 : 3 ≤ x.op
  rotate_left
  · have e : mvI x to = x := by unfold mvI; rw [if_neg (by omega), if_neg (by omega)]
    rw [e]
    repeat' (first
      | (show EL _ _ _ _ (_ :: _) _ _
         first
         | (show EL _ _ _ _ (⟨_, .fieldAddr _ _ _, _, _, _, _⟩ :: _) _ _; refine EL.f (FV.fieldAddr rfl rfl rfl rfl rfl) rfl rfl ?_)
         | (show EL _ _ _ _ (⟨_, .load _ _, _, _, _, _⟩ :: _) _ _; first | refine EL.f (FV.load1 rfl rfl rfl (At.cell hb rfl)) rfl rfl ?_ | refine EL.f (FV.loadAgg (cs := insV x) rfl rfl rfl rfl rfl (fun _ e => e ▸ At.lies hb)) rfl rfl ?_)
         | (show EL _ _ _ _ (⟨_, .call _, _, _, _, _⟩ :: _) _ _; (refine EL.h (Hv.call (implWithinR (r := false) (by simp [inB]; omega) _) rfl) rfl (fun _ => rfl) ?_; rintro _ _ ⟨rfl, rfl⟩))
         | (show EL _ _ _ _ (⟨_, .binOp .geq _ _ _ _, _, _, _, _⟩ :: _) _ _; refine EL.fF (FV.geq rfl rfl) rfl (fun _ => rfl) (by omega) ?_))
      | refine EL.nil ?_
      | refine EW.seq ?_
      | refine EW.region ?_
      | refine EW.skip ?_
      | refine EW.condF rfl ?_)
    refine EL.h (Hv.storeAggG (vs := insV x) rfl rfl rfl rfl (insV_one _) h2 (Nat.le_refl _)) rfl (fun _ => rfl) ?_
    rintro _ w3 ⟨h3', hr3⟩
    repeat' (first
      | refine EL.nil ?_
      | refine EW.ret ?_)
    exact ⟨g2, 0, insV x, rfl, rfl, At.lies h3', rfl, Below.wr hw2 hr3 (by omega) (Nat.le_refl _)⟩
  have ha := ha h3
  obtain ⟨bt, ot, rfl, hca⟩ := hto.int (show x.a.toNat < to.length by omega)
  repeat' (first
    | (show EL _ _ _ _ (_ :: _) _ _
       first
       | (show EL _ _ _ _ (⟨_, .fieldAddr _ _ _, _, _, _, _⟩ :: _) _ _; refine EL.f (FV.fieldAddr rfl rfl rfl rfl rfl) rfl rfl ?_)
       | (show EL _ _ _ _ (⟨_, .load _ _, _, _, _, _⟩ :: _) _ _; first | refine EL.f (FV.load1 rfl rfl rfl (At.cell hb rfl)) rfl rfl ?_ | refine EL.f (FV.load1 rfl rfl rfl (hw2.cell hca)) rfl rfl ?_)
       | (show EL _ _ _ _ (⟨_, .move _, _, _, _, _⟩ :: _) _ _; refine EL.f (FV.move rfl) rfl rfl ?_)
       | (show EL _ _ _ _ (⟨_, .binOp .geq _ _ _ _, _, _, _, _⟩ :: _) _ _; refine EL.fT (FV.geq rfl rfl) rfl (fun _ => rfl) (by omega) ?_)
       | (show EL _ _ _ _ (⟨_, .indexAddr _ _ _, _, _, _, _⟩ :: _) _ _; refine EL.f (FV.idx1 rfl rfl rfl rfl (by omega) (by omega)) rfl rfl ?_))
    | refine EL.nil ?_
    | refine EW.seq ?_
    | refine EW.region ?_
    | refine EW.condT rfl ?_)
  refine EL.h (Hv.storeG (k := 0 + 1) rfl rfl rfl rfl rfl hb rfl) rfl (fun _ => rfl) ?_
  rintro _ w3 ⟨hb3, hr3⟩
  have hw3 : Ext w w3 := Below.wr hw2 hr3 (by omega) (Nat.le_refl _)
  replace h2 := At.kept h2 hr3 (by simp; omega)
  clear hb
  have hb : At w3 65 4 g1 1 1 [.int .i64 x.op, .int .i64 (to.getD x.a.toNat 0), .int .i64 x.b, .int .i64 x.num] := hb3
  clear hb3
  have s3 := hr3.size
  by_cases h7 : x.op = 7
  · have e : mvI x to = ⟨x.op, to.getD x.a.toNat 0, x.b, x.num⟩ := by unfold mvI; rw [if_neg (by omega), if_pos h7]
    rw [e]
    repeat' (first
      | refine EL.f (FV.fieldAddr rfl rfl rfl rfl rfl) rfl rfl ?_
      | refine EL.f (FV.load1 rfl rfl rfl (At.cell hb rfl)) rfl rfl ?_
      | refine EL.f (FV.loadAgg (cs := [.int .i64 x.op, .int .i64 (to.getD x.a.toNat 0), .int .i64 x.b, .int .i64 x.num]) rfl rfl rfl rfl rfl (fun _ e => e ▸ At.lies hb)) rfl rfl ?_
      | (refine EL.h (Hv.call (implWithinR (r := false) (by simp [inB]; omega) _) rfl) rfl (fun _ => rfl) ?_; rintro _ _ ⟨rfl, rfl⟩)
      | refine EL.nil ?_
      | refine EW.seq ?_
      | refine EW.region ?_
      | refine EW.skip ?_
      | refine EW.condF rfl ?_)
    refine EL.h (Hv.storeAggG (vs := [.int .i64 x.op, .int .i64 (to.getD x.a.toNat 0), .int .i64 x.b, .int .i64 x.num]) rfl rfl rfl rfl (insV_one ⟨x.op, to.getD x.a.toNat 0, x.b, x.num⟩) h2 (Nat.le_refl _)) rfl (fun _ => rfl) ?_
    rintro _ w4 ⟨h4, hr4⟩
    repeat' (first
      | refine EL.nil ?_
      | refine EW.ret ?_)
    exact ⟨g2, 0, [.int .i64 x.op, .int .i64 (to.getD x.a.toNat 0), .int .i64 x.b, .int .i64 x.num], rfl, rfl, At.lies h4, rfl, Below.wr hw3 hr4 (by omega) (Nat.le_refl _)⟩
  have hb1 := hb0 ⟨h3, by omega⟩
  obtain ⟨bt2, ot2, e2, hcb⟩ := hto.int (show x.b.toNat < to.length by omega)
  injection e2 with e2
  injection e2 with e2 e3 _
  subst e2 e3
  repeat' (first
    | (show EL _ _ _ _ (_ :: _) _ _
       first
       | (show EL _ _ _ _ (⟨_, .fieldAddr _ _ _, _, _, _, _⟩ :: _) _ _; refine EL.f (FV.fieldAddr rfl rfl rfl rfl rfl) rfl rfl ?_)
       | (show EL _ _ _ _ (⟨_, .load _ _, _, _, _, _⟩ :: _) _ _; first | refine EL.f (FV.load1 rfl rfl rfl (At.cell hb rfl)) rfl rfl ?_ | refine EL.f (FV.load1 rfl rfl rfl (hw3.cell hcb)) rfl rfl ?_)
       | (show EL _ _ _ _ (⟨_, .call _, _, _, _, _⟩ :: _) _ _; (refine EL.h (Hv.call (implWithinR (r := true) (by simp [inB]; omega) _) rfl) rfl (fun _ => rfl) ?_; rintro _ _ ⟨rfl, rfl⟩))
       | (show EL _ _ _ _ (⟨_, .move _, _, _, _, _⟩ :: _) _ _; refine EL.f (FV.move rfl) rfl rfl ?_)
       | (show EL _ _ _ _ (⟨_, .indexAddr _ _ _, _, _, _, _⟩ :: _) _ _; refine EL.f (FV.idx1 rfl rfl rfl rfl (by omega) (by omega)) rfl rfl ?_))
    | refine EL.nil ?_
    | refine EW.seq ?_
    | refine EW.region ?_
    | refine EW.condT rfl ?_)
  refine EL.h (Hv.storeG (k := 0 + 2) rfl rfl rfl rfl rfl hb rfl) rfl (fun _ => rfl) ?_
  rintro _ w4 ⟨hb4, hr4⟩
  have hw4 : Ext w w4 := Below.wr hw3 hr4 (by omega) (Nat.le_refl _)
  replace h2 := At.kept h2 hr4 (by simp; omega)
  clear hb
  have hb : At w4 65 4 g1 1 1 [.int .i64 x.op, .int .i64 (to.getD x.a.toNat 0), .int .i64 (to.getD x.b.toNat 0), .int .i64 x.num] := hb4
  clear hb4
  have e : mvI x to = ⟨x.op, to.getD x.a.toNat 0, to.getD x.b.toNat 0, x.num⟩ := by unfold mvI; rw [if_pos (by omega)]
  rw [e]
  repeat' (first
    | refine EL.f (FV.loadAgg (cs := [.int .i64 x.op, .int .i64 (to.getD x.a.toNat 0), .int .i64 (to.getD x.b.toNat 0), .int .i64 x.num]) rfl rfl rfl rfl rfl (fun _ e => e ▸ At.lies hb)) rfl rfl ?_
    | refine EL.nil ?_
    | refine EW.seq ?_
    | refine EW.region ?_)
  refine EL.h (Hv.storeAggG (vs := [.int .i64 x.op, .int .i64 (to.getD x.a.toNat 0), .int .i64 (to.getD x.b.toNat 0), .int .i64 x.num]) rfl rfl rfl rfl (insV_one ⟨x.op, to.getD x.a.toNat 0, to.getD x.b.toNat 0, x.num⟩) h2 (Nat.le_refl _)) rfl (fun _ => rfl) ?_
  rintro _ w5 ⟨h5, hr5⟩
  repeat' (first
    | refine EL.nil ?_
    | refine EW.ret ?_)
  exact ⟨g2, 0, [.int .i64 x.op, .int .i64 (to.getD x.a.toNat 0), .int .i64 (to.getD x.b.toNat 0), .int .i64 x.num], rfl, rfl, At.lies h5, rfl, Below.wr hw4 hr5 (by omega) (Nat.le_refl _)⟩
set_option maxHeartbeats 4000000 in
theorem specMoved (x : Ins) (A : Option Addr) (c : Nat) (to : List Int) (w : World) (hop : 1 ≤ x.op ∧ x.op ≤ 7) (hto : Rd w A (ints to)) (ha : 3 ≤ x.op → 0 ≤ x.a ∧ x.a < to.length) (hb0 : 3 ≤ x.op ∧ x.op ≤ 6 → 0 ≤ x.b ∧ x.b < to.length) :
    CallsR Try.prog 124 [.agg (insV x).toArray, .slice A to.length c] w fun v w' => v = .agg (insV (mvI x to)).toArray ∧ Ext w w' := by
  refine CallsR.enterC Try.func124 (by decide +kernel) rfl Try.ntmps124 rfl rfl rfl rfl rfl ?_
  repeat' (first
    | refine EW.seq ?_
    | refine EW.region ?_)
  refine EL.h (Hv.boxA (sz := 4) rfl rfl) rfl (fun _ => rfl) ?_
  rintro _ w1 ⟨g1, rfl, hg1, hb, he1⟩
  skip
  refine EL.h (Hv.allocA rfl rfl) rfl (fun _ => rfl) ?_
  rintro _ w2 ⟨g2, rfl, hg2, h2, he2⟩
  have l1 := At.lt hb
  have s1 := he1.size
  replace hb : At w2 65 4 g1 1 1 (insV x) := At.ext hb he2
  have hw2 := he1.trans he2
  by_cases h3 : 3 ≤ x.op
  rotate_left
  · have e : mvI x to = x := by unfold mvI; rw [if_neg (by omega), if_neg (by omega)]
    rw [e]
    repeat' (first
      | refine EL.f (FV.fieldAddr rfl rfl rfl rfl rfl) rfl rfl ?_
      | refine EL.f (FV.load1 rfl rfl rfl (At.cell hb rfl)) rfl rfl ?_
      | refine EL.f (FV.loadAgg (cs := insV x) rfl rfl rfl rfl rfl (fun _ e => e ▸ At.lies hb)) rfl rfl ?_
      | refine EL.fF (FV.gtr rfl rfl) rfl (fun _ => rfl) (by omega) ?_
      | refine EL.nil ?_
      | refine EW.seq ?_
      | refine EW.region ?_
      | refine EW.skip ?_
      | refine EW.condF rfl ?_)
    refine EL.h (Hv.storeAggG (vs := insV x) rfl rfl rfl rfl (insV_one _) h2 (Nat.le_refl _)) rfl (fun _ => rfl) ?_
    rintro _ w3 ⟨h3', hr3⟩
    repeat' (first
      | refine EL.nil ?_
      | refine EW.ret ?_)
    exact ⟨g2, 0, insV x, rfl, rfl, At.lies h3', rfl, Below.wr hw2 hr3 (by omega) (Nat.le_refl _)⟩
  have ha := ha h3
  obtain ⟨bt, ot, rfl, hca⟩ := hto.int (show x.a.toNat < to.length by omega)
  repeat' (first
    | (show EL _ _ _ _ (_ :: _) _ _
       first
       | (show EL _ _ _ _ (⟨_, .fieldAddr _ _ _, _, _, _, _⟩ :: _) _ _; refine EL.f (FV.fieldAddr rfl rfl rfl rfl rfl) rfl rfl ?_)
       | (show EL _ _ _ _ (⟨_, .load _ _, _, _, _, _⟩ :: _) _ _; first | refine EL.f (FV.load1 rfl rfl rfl (At.cell hb rfl)) rfl rfl ?_ | refine EL.f (FV.load1 rfl rfl rfl (hw2.cell hca)) rfl rfl ?_)
       | (show EL _ _ _ _ (⟨_, .move _, _, _, _, _⟩ :: _) _ _; refine EL.f (FV.move rfl) rfl rfl ?_)
       | (show EL _ _ _ _ (⟨_, .binOp .gtr _ _ _ _, _, _, _, _⟩ :: _) _ _; refine EL.fT (FV.gtr rfl rfl) rfl (fun _ => rfl) (by omega) ?_)
       | (show EL _ _ _ _ (⟨_, .indexAddr _ _ _, _, _, _, _⟩ :: _) _ _; refine EL.f (FV.idx1 rfl rfl rfl rfl (by omega) (by omega)) rfl rfl ?_))
    | refine EL.nil ?_
    | refine EW.seq ?_
    | refine EW.region ?_
    | refine EW.condT rfl ?_)
  refine EL.h (Hv.storeG (k := 0 + 1) rfl rfl rfl rfl rfl hb rfl) rfl (fun _ => rfl) ?_
  rintro _ w3 ⟨hb3, hr3⟩
  have hw3 : Ext w w3 := Below.wr hw2 hr3 (by omega) (Nat.le_refl _)
  replace h2 := At.kept h2 hr3 (by simp; omega)
  clear hb
  have hb : At w3 65 4 g1 1 1 [.int .i64 x.op, .int .i64 (to.getD x.a.toNat 0), .int .i64 x.b, .int .i64 x.num] := hb3
  clear hb3
  have s3 := hr3.size
  by_cases h7 : x.op = 7
  · have e : mvI x to = ⟨x.op, to.getD x.a.toNat 0, x.b, x.num⟩ := by unfold mvI; rw [if_neg (by omega), if_pos h7]
    rw [e]
    repeat' (first
      | refine EL.f (FV.fieldAddr rfl rfl rfl rfl rfl) rfl rfl ?_
      | refine EL.f (FV.load1 rfl rfl rfl (At.cell hb rfl)) rfl rfl ?_
      | refine EL.f (FV.loadAgg (cs := [.int .i64 x.op, .int .i64 (to.getD x.a.toNat 0), .int .i64 x.b, .int .i64 x.num]) rfl rfl rfl rfl rfl (fun _ e => e ▸ At.lies hb)) rfl rfl ?_
      | refine EL.fF (FV.neq rfl rfl) rfl (fun _ => rfl) (by omega) ?_
      | refine EL.nil ?_
      | refine EW.seq ?_
      | refine EW.region ?_
      | refine EW.skip ?_
      | refine EW.condF rfl ?_)
    refine EL.h (Hv.storeAggG (vs := [.int .i64 x.op, .int .i64 (to.getD x.a.toNat 0), .int .i64 x.b, .int .i64 x.num]) rfl rfl rfl rfl (insV_one ⟨x.op, to.getD x.a.toNat 0, x.b, x.num⟩) h2 (Nat.le_refl _)) rfl (fun _ => rfl) ?_
    rintro _ w4 ⟨h4, hr4⟩
    repeat' (first
      | refine EL.nil ?_
      | refine EW.ret ?_)
    exact ⟨g2, 0, [.int .i64 x.op, .int .i64 (to.getD x.a.toNat 0), .int .i64 x.b, .int .i64 x.num], rfl, rfl, At.lies h4, rfl, Below.wr hw3 hr4 (by omega) (Nat.le_refl _)⟩
  have hb1 := hb0 ⟨h3, by omega⟩
  obtain ⟨bt2, ot2, e2, hcb⟩ := hto.int (show x.b.toNat < to.length by omega)
  injection e2 with e2
  injection e2 with e2 e3 _
  subst e2 e3
  repeat' (first
    | (show EL _ _ _ _ (_ :: _) _ _
       first
       | (show EL _ _ _ _ (⟨_, .fieldAddr _ _ _, _, _, _, _⟩ :: _) _ _; refine EL.f (FV.fieldAddr rfl rfl rfl rfl rfl) rfl rfl ?_)
       | (show EL _ _ _ _ (⟨_, .load _ _, _, _, _, _⟩ :: _) _ _; first | refine EL.f (FV.load1 rfl rfl rfl (At.cell hb rfl)) rfl rfl ?_ | refine EL.f (FV.load1 rfl rfl rfl (hw3.cell hcb)) rfl rfl ?_)
       | (show EL _ _ _ _ (⟨_, .move _, _, _, _, _⟩ :: _) _ _; refine EL.f (FV.move rfl) rfl rfl ?_)
       | (show EL _ _ _ _ (⟨_, .binOp .neq _ _ _ _, _, _, _, _⟩ :: _) _ _; refine EL.fT (FV.neq rfl rfl) rfl (fun _ => rfl) (by omega) ?_)
       | (show EL _ _ _ _ (⟨_, .indexAddr _ _ _, _, _, _, _⟩ :: _) _ _; refine EL.f (FV.idx1 rfl rfl rfl rfl (by omega) (by omega)) rfl rfl ?_))
    | refine EL.nil ?_
    | refine EW.seq ?_
    | refine EW.region ?_
    | refine EW.condT rfl ?_)
  refine EL.h (Hv.storeG (k := 0 + 2) rfl rfl rfl rfl rfl hb rfl) rfl (fun _ => rfl) ?_
  rintro _ w4 ⟨hb4, hr4⟩
  have hw4 : Ext w w4 := Below.wr hw3 hr4 (by omega) (Nat.le_refl _)
  replace h2 := At.kept h2 hr4 (by simp; omega)
  clear hb
  have hb : At w4 65 4 g1 1 1 [.int .i64 x.op, .int .i64 (to.getD x.a.toNat 0), .int .i64 (to.getD x.b.toNat 0), .int .i64 x.num] := hb4
  clear hb4
  have e : mvI x to = ⟨x.op, to.getD x.a.toNat 0, to.getD x.b.toNat 0, x.num⟩ := by unfold mvI; rw [if_pos (by omega)]
  rw [e]
  repeat' (first
    | refine EL.f (FV.loadAgg (cs := [.int .i64 x.op, .int .i64 (to.getD x.a.toNat 0), .int .i64 (to.getD x.b.toNat 0), .int .i64 x.num]) rfl rfl rfl rfl rfl (fun _ e => e ▸ At.lies hb)) rfl rfl ?_
    | refine EL.nil ?_
    | refine EW.seq ?_
    | refine EW.region ?_)
  refine EL.h (Hv.storeAggG (vs := [.int .i64 x.op, .int .i64 (to.getD x.a.toNat 0), .int .i64 (to.getD x.b.toNat 0), .int .i64 x.num]) rfl rfl rfl rfl (insV_one ⟨x.op, to.getD x.a.toNat 0, to.getD x.b.toNat 0, x.num⟩) h2 (Nat.le_refl _)) rfl (fun _ => rfl) ?_
  rintro _ w5 ⟨h5, hr5⟩
  repeat' (first
    | refine EL.nil ?_
    | refine EW.ret ?_)
  exact ⟨g2, 0, [.int .i64 x.op, .int .i64 (to.getD x.a.toNat 0), .int .i64 (to.getD x.b.toNat 0), .int .i64 x.num], rfl, rfl, At.lies h5, rfl, Below.wr hw4 hr5 (by omega) (Nat.le_refl _)⟩
end Eng
end Go.Proofs.Ytfkohgfcchhlpaa
