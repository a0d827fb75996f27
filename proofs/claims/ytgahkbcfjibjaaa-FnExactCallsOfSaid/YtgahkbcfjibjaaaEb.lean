/- The verifier's counts, copies and comparisons of expressions. Conditions: the number of nodes. -/
import Derived.Test.YtgahkbcfjibjaaaEa
namespace Go.Proofs.Ytgahkbcfjibjaaa
open Go Go.RowKit
namespace Eng
/-- What is left when n more are counted. -/
def szV (n : Nat) (left : Int) : Int := if (n : Int) ≤ left then left - n else -1
theorem szV_le {n : Nat} {l : Int} (h : (n : Int) ≤ l) : szV n l = l - n := if_pos h
theorem szV_gt {n : Nat} {l : Int} (h : ¬ (n : Int) ≤ l) : szV n l = -1 := if_neg h
theorem szExprS_of (ks : List Ex) (ih : ∀ i, i < ks.length → ∀ cs w (left : Int), ExB w 0 cs (ks.getD i dEx) → 0 ≤ left ∧ left ≤ 1048576 → CallsR Try.prog 21 [.agg cs.toArray, .int .i64 left] w fun v w' => v = .int .i64 (szV (Ex.sizeL (ks.getD i dEx).kids) left) ∧ Ext w w')
    (A : Option Addr) (cap : Nat) (left : Int) (w : World) (h : KsB w 0 A ks) (hl : 0 ≤ left ∧ left ≤ 1048576) :
    CallsR Try.prog 53 [.slice A ks.length cap, .int .i64 left] w fun v w' => v = .int .i64 (szV (Ex.sizeL ks) left) ∧ Ext w w' := by
  have hr := h.1
  have hge := sizeL_ge ks
  refine CallsR.enter Try.func53 (by decide +kernel) rfl Try.ntmps53 rfl ?_
  by_cases h0 : left - (ks.length : Int) < 0
  · repeat' (first
      | (show EL _ _ _ _ (_ :: _) _ _
         first
         | (show EL _ _ _ _ (⟨_, .move _, _, _, _, _⟩ :: _) _ _; refine EL.f (FV.move rfl) rfl rfl ?_)
         | (show EL _ _ _ _ (⟨_, .assign _, _, _, _, _⟩ :: _) _ _; refine EL.f (FV.assign rfl) rfl rfl ?_)
         | (show EL _ _ _ _ (⟨_, .binOp .sub _ _ _ _, _, _, _, _⟩ :: _) _ _; refine EL.f (FV.subI rfl rfl (by omega)) rfl rfl ?_)
         | (show EL _ _ _ _ (⟨_, .call _, _, _, _, _⟩ :: _) _ _; refine EL.f (FV.len rfl rfl) rfl rfl ?_)
         | (show EL _ _ _ _ (⟨_, .binOp .lss _ _ _ _, _, _, _, _⟩ :: _) _ _; refine EL.fT (FV.lss rfl rfl) rfl (fun _ => rfl) (by omega) ?_))
      | refine EL.nil ?_
      | refine EW.seq ?_
      | refine EW.region ?_
      | refine EW.ret ?_
      | refine EW.condT rfl ?_)
    exact ⟨_, rfl, by rw [szV_gt (by omega)], Ext.refl _⟩
  repeat' (first
    | (show EL _ _ _ _ (_ :: _) _ _
       first
       | (show EL _ _ _ _ (⟨_, .move _, _, _, _, _⟩ :: _) _ _; refine EL.f (FV.move rfl) rfl rfl ?_)
       | (show EL _ _ _ _ (⟨_, .assign _, _, _, _, _⟩ :: _) _ _; refine EL.f (FV.assign rfl) rfl rfl ?_)
       | (show EL _ _ _ _ (⟨_, .binOp .sub _ _ _ _, _, _, _, _⟩ :: _) _ _; refine EL.f (FV.subI rfl rfl (by omega)) rfl rfl ?_)
       | (show EL _ _ _ _ (⟨_, .call _, _, _, _, _⟩ :: _) _ _; refine EL.f (FV.len rfl rfl) rfl rfl ?_)
       | (show EL _ _ _ _ (⟨_, .binOp .lss _ _ _ _, _, _, _, _⟩ :: _) _ _; refine EL.fF (FV.lss rfl rfl) rfl (fun _ => rfl) (by omega) ?_))
    | refine EL.nil ?_
    | refine EW.seq ?_
    | refine EW.region ?_
    | refine EW.block ?_
    | refine EW.skip ?_
    | refine EW.condF rfl ?_)
  refine EW.loop (X := Nat × Int) (fun y wr => y.1 ≤ ks.length ∧ (0 ≤ y.2 ∧ y.2 ≤ 1048576) ∧ y.2 = left - ks.length + y.1 - Ex.sizeL (ks.take y.1) ∧ Ext w wr) (fun y => [(0, .slice A ks.length cap), (1, .int .i64 y.2), (5, .int .i64 y.1)]) (fun y => ks.length - y.1) (0, left - ks.length) ⟨Nat.zero_le _, by dsimp only; omega, by simp [Ex.sizeL], Ext.refl _⟩ ⟨rfl, rfl, rfl, trivial⟩ ?_
  rintro ⟨i, l⟩ wr ⟨hi, hb, he, hE⟩
  dsimp only at *
  by_cases hlt : i < ks.length
  · obtain ⟨b, o, cs, rfl, hL, hX, hc⟩ := (h.ext hE).kid hlt
    have hst := sizeL_take hlt
    have hsp := sizeL_split ks (i + 1)
    have hdr := sizeL_ge (ks.drop (i + 1))
    rw [List.length_drop] at hdr
    have hsk := size_kids (ks.getD i dEx)
    have hcall := ih i hlt cs wr l hX hb
    generalize ks.getD i dEx = x at *
    repeat' (first
      | (show EL _ _ _ _ (_ :: _) _ _
         first
         | (show EL _ _ _ _ (⟨_, .indexAddr _ _ _, _, _, _, _⟩ :: _) _ _; refine EL.f (FV.idx rfl rfl rfl rfl (by omega) (by omega)) rfl rfl ?_)
         | (show EL _ _ _ _ (⟨_, .load _ _, _, _, _, _⟩ :: _) _ _; refine EL.f (FV.loadAgg (cs := cs) rfl rfl rfl hc rfl (fun _ e => e ▸ hL)) rfl rfl ?_)
         | (show EL _ _ _ _ (⟨_, .move _, _, _, _, _⟩ :: _) _ _; refine EL.f (FV.move rfl) rfl rfl ?_)
         | (show EL _ _ _ _ (⟨_, .call _, _, _, _, _⟩ :: _) _ _; refine EL.f (FV.len rfl rfl) rfl rfl ?_)
         | (show EL _ _ _ _ (⟨_, .binOp .lss _ _ _ _, _, _, _, _⟩ :: _) _ _; refine EL.fT (FV.lss rfl rfl) rfl (fun _ => rfl) (by omega) ?_))
      | refine EL.nil ?_
      | refine EW.seq ?_
      | refine EW.region ?_
      | refine EW.block ?_
      | refine EW.skip ?_
      | refine EW.condT rfl ?_)
    refine EL.h (Hv.call hcall rfl) rfl (fun _ => rfl) ?_
    rintro _ w1 ⟨rfl, he1⟩
    by_cases hn : (Ex.sizeL x.kids : Int) ≤ l
    · rw [szV_le hn]
      repeat' (first
        | (show EL _ _ _ _ (_ :: _) _ _
           first
           | (show EL _ _ _ _ (⟨_, .move _, _, _, _, _⟩ :: _) _ _; refine EL.f (FV.move rfl) rfl rfl ?_)
           | (show EL _ _ _ _ (⟨_, .assign _, _, _, _, _⟩ :: _) _ _; refine EL.f (FV.assign rfl) rfl rfl ?_)
           | (show EL _ _ _ _ (⟨_, .binOp .add _ _ _ _, _, _, _, _⟩ :: _) _ _; refine EL.f (FV.addI rfl rfl (by omega)) rfl rfl ?_)
           | (show EL _ _ _ _ (⟨_, .binOp .lss _ _ _ _, _, _, _, _⟩ :: _) _ _; refine EL.fF (FV.lss rfl rfl) rfl (fun _ => rfl) (by omega) ?_))
        | refine EL.nil ?_
        | refine EW.seq ?_
        | refine EW.region ?_
        | refine EW.skip ?_
        | refine EW.condF rfl ?_)
      exact ⟨(i + 1, l - Ex.sizeL x.kids), ⟨rfl, rfl, rfl, trivial⟩, ⟨by dsimp only; omega, by dsimp only; omega, by dsimp only; omega, hE.trans he1⟩, by dsimp only; omega⟩
    · rw [szV_gt hn]
      repeat' (first
        | refine EL.f (FV.move rfl) rfl rfl ?_
        | refine EL.f (FV.assign rfl) rfl rfl ?_
        | refine EL.fT (FV.lss rfl rfl) rfl (fun _ => rfl) (by omega) ?_
        | refine EL.nil ?_
        | refine EW.seq ?_
        | refine EW.region ?_
        | refine EW.ret ?_
        | refine EW.condT rfl ?_)
      exact ⟨_, rfl, by rw [szV_gt (by omega)], hE.trans he1⟩
  · obtain rfl : i = ks.length := by omega
    rw [List.take_length] at he
    repeat' (first
      | (show EL _ _ _ _ (_ :: _) _ _
         first
         | (show EL _ _ _ _ (⟨_, .move _, _, _, _, _⟩ :: _) _ _; refine EL.f (FV.move rfl) rfl rfl ?_)
         | (show EL _ _ _ _ (⟨_, .assign _, _, _, _, _⟩ :: _) _ _; refine EL.f (FV.assign rfl) rfl rfl ?_)
         | (show EL _ _ _ _ (⟨_, .call _, _, _, _, _⟩ :: _) _ _; refine EL.f (FV.len rfl rfl) rfl rfl ?_)
         | (show EL _ _ _ _ (⟨_, .binOp .lss _ _ _ _, _, _, _, _⟩ :: _) _ _; refine EL.fF (FV.lss rfl rfl) rfl (fun _ => rfl) (by omega) ?_))
      | refine EL.nil ?_
      | refine EW.seq ?_
      | refine EW.region ?_
      | refine EW.exit ?_
      | refine EW.ret ?_
      | refine EW.condF rfl ?_)
    exact ⟨_, rfl, by rw [szV_le (by omega), he]; congr 1; omega, hE⟩
theorem szExprC (e : Ex) : ∀ cs w (left : Int), ExB w 0 cs e → 0 ≤ left ∧ left ≤ 1048576 → CallsR Try.prog 21 [.agg cs.toArray, .int .i64 left] w fun v w' => v = .int .i64 (szV (Ex.sizeL e.kids) left) ∧ Ext w w' := by
  induction e using Ex.ind with
  | h k n p c ks ih =>
  intro cs w left hx hl
  obtain ⟨A, cap, rfl, hks⟩ := hx.inv
  refine CallsR.enter Try.func21 (by decide +kernel) rfl Try.ntmps21 rfl ?_
  repeat' (first
    | refine EW.seq ?_
    | refine EW.region ?_)
  refine EL.h (Hv.boxA (sz := 5) rfl rfl) rfl (fun _ => rfl) ?_
  rintro _ w1 ⟨g1, rfl, hg1, hb, he1⟩
  repeat' (first
    | (show EL _ _ _ _ (_ :: _) _ _
       first
       | (show EL _ _ _ _ (⟨_, .fieldAddr _ _ _, _, _, _, _⟩ :: _) _ _; refine EL.f (FV.fieldAddr rfl rfl rfl rfl rfl) rfl rfl ?_)
       | (show EL _ _ _ _ (⟨_, .load _ _, _, _, _, _⟩ :: _) _ _; refine EL.f (FV.load1 rfl rfl rfl (At.cell hb rfl)) rfl rfl ?_)
       | (show EL _ _ _ _ (⟨_, .move _, _, _, _, _⟩ :: _) _ _; refine EL.f (FV.move rfl) rfl rfl ?_)
       | (show EL _ _ _ _ (⟨_, .assign _, _, _, _, _⟩ :: _) _ _; refine EL.f (FV.assign rfl) rfl rfl ?_))
    | refine EL.nil ?_
    | refine EW.seq ?_
    | refine EW.region ?_)
  refine EL.h (Hv.call (szExprS_of ks ih A cap left w1 (hks.ext he1) hl) rfl) rfl (fun _ => rfl) ?_
  rintro _ w2 ⟨rfl, he2⟩
  show EL _ _ _ _ _ _ _
  unfold Ex.kids
  by_cases hn : (Ex.sizeL ks : Int) ≤ left
  · rw [szV_le hn]
    repeat' (first
      | refine EL.f (FV.move rfl) rfl rfl ?_
      | refine EL.f (FV.assign rfl) rfl rfl ?_
      | refine EL.fF (FV.lss rfl rfl) rfl (fun _ => rfl) (by omega) ?_
      | refine EL.nil ?_
      | refine EW.seq ?_
      | refine EW.region ?_
      | refine EW.skip ?_
      | refine EW.ret ?_
      | refine EW.condF rfl ?_)
    exact ⟨_, rfl, rfl, he1.trans he2⟩
  · rw [szV_gt hn]
    repeat' (first
      | refine EL.f (FV.move rfl) rfl rfl ?_
      | refine EL.f (FV.assign rfl) rfl rfl ?_
      | refine EL.fT (FV.lss rfl rfl) rfl (fun _ => rfl) (by omega) ?_
      | refine EL.nil ?_
      | refine EW.seq ?_
      | refine EW.region ?_
      | refine EW.ret ?_
      | refine EW.condT rfl ?_)
    exact ⟨_, rfl, rfl, he1.trans he2⟩
theorem szExprSC (ks : List Ex) (A : Option Addr) (cap : Nat) (left : Int) (w : World) (h : KsB w 0 A ks) (hl : 0 ≤ left ∧ left ≤ 1048576) :
    CallsR Try.prog 53 [.slice A ks.length cap, .int .i64 left] w fun v w' => v = .int .i64 (szV (Ex.sizeL ks) left) ∧ Ext w w' := szExprS_of ks (fun i _ => szExprC (ks.getD i dEx)) A cap left w h hl
/-! copies -/
/-- The cells of one element. -/
structure Five where
  val : List Value
  ok : val.length = 5
def z5 : Five := ⟨[.int .i64 0, .int .i64 0, .int .i64 0, .int .i64 0, .slice none 0 0], rfl⟩
theorem toExprS_of (ks : List Ex) (ih : ∀ i, i < ks.length → ∀ cs w, ExB w 0 cs (ks.getD i dEx) → CallsR Try.prog 23 [.agg cs.toArray] w fun v w' => ∃ ds, v = .agg ds.toArray ∧ ExB w' w.heap.size ds (ks.getD i dEx) ∧ Ext w w')
    (A : Option Addr) (cap : Nat) (w : World) (h : KsB w 0 A ks) (hn : ks.length ≤ 1048576) :
    CallsR Try.prog 56 [.slice A ks.length cap] w fun v w' => ∃ B cap', v = .slice B ks.length cap' ∧ KsB w' w.heap.size B ks ∧ Ext w w' := by
  refine CallsR.enter Try.func56 (by decide +kernel) rfl Try.ntmps56 rfl ?_
  repeat' (first
    | refine EL.f (FV.move rfl) rfl rfl ?_
    | refine EL.f (FV.assign rfl) rfl rfl ?_
    | refine EL.f (FV.len rfl rfl) rfl rfl ?_
    | refine EL.nil ?_
    | refine EW.seq ?_
    | refine EW.region ?_)
  refine EL.h (Hv.make (kl := .i64) rfl rfl rfl rfl (by omega) (by omega)) rfl (fun _ => rfl) ?_
  rintro _ w1 ⟨g, rfl, hg, hat, he1⟩
  rw [made_flat (f := Five.val) (s := 5) (fun x : Five => x.ok) z5 (Value.agg #[.int .i64 0, .int .i64 0, .int .i64 0, .int .i64 0, .slice none 0 0]).cells rfl (by decide) ks.length] at hat
  repeat' (first
    | refine EL.f (FV.assign rfl) rfl rfl ?_
    | refine EL.nil ?_
    | refine EW.seq ?_
    | refine EW.region ?_
    | refine EW.block ?_)
  refine EW.loop (X := Nat) (fun i wr => i ≤ ks.length ∧ (∃ xs : List Five, xs.length = ks.length ∧ At wr 59 5 g ks.length ks.length (xs.flatMap Five.val) ∧ ∀ j, j < i → ExB wr (g + 1) (xs.getD j z5).val (ks.getD j dEx)) ∧ Ext w wr) (fun i => [(0, .slice A ks.length cap), (3, .slice (some ⟨g, 0, none⟩) ks.length ks.length), (4, .int .i64 i)]) (fun i => ks.length - i) 0 ⟨Nat.zero_le _, ⟨_, by simp, hat, fun j hj => by omega⟩, he1⟩ ⟨rfl, rfl, rfl, trivial⟩ ?_
  clear hat
  rintro i wr ⟨hi, ⟨xs, hxl, hat, hxs⟩, hE⟩
  by_cases hlt : i < ks.length
  · obtain ⟨b, o, cs, rfl, hL, hX, hc⟩ := (h.ext hE).kid hlt
    repeat' (first
      | (show EL _ _ _ _ (_ :: _) _ _
         first
         | (show EL _ _ _ _ (⟨_, .indexAddr _ _ _, _, _, _, _⟩ :: _) _ _; refine EL.f (FV.idx rfl rfl rfl rfl (by omega) (by omega)) rfl rfl ?_)
         | (show EL _ _ _ _ (⟨_, .load _ _, _, _, _, _⟩ :: _) _ _; refine EL.f (FV.loadAgg (cs := cs) rfl rfl rfl hc rfl (fun _ e => e ▸ hL)) rfl rfl ?_)
         | (show EL _ _ _ _ (⟨_, .move _, _, _, _, _⟩ :: _) _ _; refine EL.f (FV.move rfl) rfl rfl ?_)
         | (show EL _ _ _ _ (⟨_, .call _, _, _, _, _⟩ :: _) _ _; refine EL.f (FV.len rfl rfl) rfl rfl ?_)
         | (show EL _ _ _ _ (⟨_, .binOp .lss _ _ _ _, _, _, _, _⟩ :: _) _ _; refine EL.fT (FV.lss rfl rfl) rfl (fun _ => rfl) (by omega) ?_))
      | refine EL.nil ?_
      | refine EW.seq ?_
      | refine EW.region ?_
      | refine EW.block ?_
      | refine EW.skip ?_
      | refine EW.condT rfl ?_)
    refine EL.h (Hv.call (ih i hlt cs wr hX) rfl) rfl (fun _ => rfl) ?_
    rintro _ w2 ⟨ds, rfl, hds, he2⟩
    have hlg := At.lt hat
    have hat2 := At.ext hat he2
    have hroom := flat_room (f := Five.val) (s := 5) (fun x : Five => x.ok) ⟨ds, hds.len⟩ xs i (by omega)
    repeat' (first
      | refine EL.f (FV.idx rfl rfl rfl rfl (by omega) (by omega)) rfl rfl ?_)
    refine EL.h (Hv.storeAggG (vs := ds) rfl rfl rfl hds.len hds.one hat2 (by simpa using hroom)) rfl (fun _ => rfl) ?_
    rintro _ w3 ⟨hat3, hr3⟩
    have hE3 : Ext w w3 := Below.wr (hE.trans he2) hr3 (by omega) (Nat.le_refl _)
    have e3 := setL_flat (f := Five.val) (s := 5) (fun x : Five => x.ok) ⟨ds, hds.len⟩ xs i (by omega)
    rw [Nat.zero_add, show setL (xs.flatMap Five.val) ((i : Int).toNat * 5) ds = _ from e3] at hat3
    repeat' (first
      | refine EL.f (FV.move rfl) rfl rfl ?_
      | refine EL.f (FV.assign rfl) rfl rfl ?_
      | refine EL.f (FV.addI rfl rfl (by omega)) rfl rfl ?_
      | refine EL.nil ?_
      | refine EW.region ?_)
    refine ⟨i + 1, ⟨rfl, rfl, rfl, trivial⟩, ⟨by omega, ⟨_, by simpa using hxl, hat3, fun j hj => ?_⟩, hE3⟩, by omega⟩
    by_cases hji : j = i
    · subst hji
      rw [show (xs.set j ⟨ds, hds.len⟩).getD j z5 = ⟨ds, hds.len⟩ from by simp [List.getD_eq_getElem?_getD, show j < xs.length from by omega]]
      exact (hds.lower (by omega)).far hr3 (by omega)
    · rw [show (xs.set i ⟨ds, hds.len⟩).getD j z5 = xs.getD j z5 from by rw [List.getD_eq_getElem?_getD, List.getElem?_set_ne (Ne.symm hji), ← List.getD_eq_getElem?_getD]]
      exact ((hxs j (by omega)).ext he2).far hr3 (by omega)
  · obtain rfl : i = ks.length := by omega
    repeat' (first
      | (show EL _ _ _ _ (_ :: _) _ _
         first
         | (show EL _ _ _ _ (⟨_, .move _, _, _, _, _⟩ :: _) _ _; refine EL.f (FV.move rfl) rfl rfl ?_)
         | (show EL _ _ _ _ (⟨_, .assign _, _, _, _, _⟩ :: _) _ _; refine EL.f (FV.assign rfl) rfl rfl ?_)
         | (show EL _ _ _ _ (⟨_, .call _, _, _, _, _⟩ :: _) _ _; refine EL.f (FV.len rfl rfl) rfl rfl ?_)
         | (show EL _ _ _ _ (⟨_, .binOp .lss _ _ _ _, _, _, _, _⟩ :: _) _ _; refine EL.fF (FV.lss rfl rfl) rfl (fun _ => rfl) (by omega) ?_))
      | refine EL.nil ?_
      | refine EW.seq ?_
      | refine EW.region ?_
      | refine EW.exit ?_
      | refine EW.ret ?_
      | refine EW.condF rfl ?_)
    refine ⟨_, rfl, _, _, rfl, ⟨by omega, fun i => (xs.getD i z5).val, fun i hi => ?_, fun i hi => (hxs i hi).lower (by omega)⟩, hE⟩
    refine ⟨g, 0, rfl, by omega, At.lt hat, ?_⟩
    exact (At.lies hat).part (flat_part (f := Five.val) (s := 5) (fun x : Five => x.ok) z5 xs i (by omega))
theorem toExprC (e : Ex) : e.size ≤ 1048577 → ∀ cs w, ExB w 0 cs e → CallsR Try.prog 23 [.agg cs.toArray] w fun v w' => ∃ ds, v = .agg ds.toArray ∧ ExB w' w.heap.size ds e ∧ Ext w w' := by
  induction e using Ex.ind with
  | h k n p c ks ih =>
  intro hs cs w hx
  have hge := sizeL_ge ks
  simp only [Ex.size] at hs
  obtain ⟨A, cap, rfl, hks⟩ := hx.inv
  refine CallsR.enterC Try.func23 (by decide +kernel) rfl Try.ntmps23 rfl rfl rfl rfl rfl ?_
  repeat' (first
    | refine EW.seq ?_
    | refine EW.region ?_)
  refine EL.h (Hv.boxA (sz := 5) rfl rfl) rfl (fun _ => rfl) ?_
  rintro _ w1 ⟨g1, rfl, hg1, hb, he1⟩
  skip
  refine EL.h (Hv.allocA rfl rfl) rfl (fun _ => rfl) ?_
  rintro _ w2 ⟨g2, rfl, hg2, h2, he2⟩
  repeat' (first
    | refine EL.nil ?_
    | refine EW.seq ?_
    | refine EW.region ?_)
  refine EL.h (Hv.allocA rfl rfl) rfl (fun _ => rfl) ?_
  rintro _ w3 ⟨g3, rfl, hg3, h3, he3⟩
  have s1 := he1.size
  have s2 := he2.size
  have l2 := At.lt h2
  replace hb := At.ext hb (he2.trans he3)
  replace h2 := At.ext h2 he3
  have n13 : g1 ≠ g3 := by have := At.lt hb; omega
  have n23 : g2 ≠ g3 := by omega
  have hw3 := (he1.trans he2).trans he3
  repeat' (first
    | refine EL.f (FV.fieldAddr rfl rfl rfl rfl rfl) rfl rfl ?_
    | refine EL.f (FV.load1 rfl rfl rfl (At.cell hb rfl)) rfl rfl ?_
    | refine EL.nil ?_
    | refine EW.seq ?_
    | refine EW.region ?_)
  refine EL.h (Hv.storeG rfl rfl rfl rfl rfl h3 rfl) rfl (fun _ => rfl) ?_
  rintro _ w4 ⟨h3', hr4⟩
  replace hb := At.kept hb hr4 (by simp; exact n13)
  replace h2 := At.kept h2 hr4 (by simp; exact n23)
  have hw4 : Ext w w4 := Below.wr hw3 hr4 (by omega) (Nat.le_refl _)
  clear h3
  have h3 := h3'
  clear h3'
  repeat' (first
    | refine EL.f (FV.fieldAddr rfl rfl rfl rfl rfl) rfl rfl ?_
    | refine EL.f (FV.load1 rfl rfl rfl (At.cell hb rfl)) rfl rfl ?_
    | refine EL.nil ?_
    | refine EW.seq ?_
    | refine EW.region ?_)
  refine EL.h (Hv.storeG rfl rfl rfl rfl rfl h3 rfl) rfl (fun _ => rfl) ?_
  rintro _ w5 ⟨h3', hr5⟩
  replace hb := At.kept hb hr5 (by simp; exact n13)
  replace h2 := At.kept h2 hr5 (by simp; exact n23)
  have hw5 : Ext w w5 := Below.wr hw4 hr5 (by omega) (Nat.le_refl _)
  clear h3
  have h3 := h3'
  clear h3'
  repeat' (first
    | refine EL.f (FV.fieldAddr rfl rfl rfl rfl rfl) rfl rfl ?_
    | refine EL.f (FV.load1 rfl rfl rfl (At.cell hb rfl)) rfl rfl ?_
    | refine EL.nil ?_
    | refine EW.seq ?_
    | refine EW.region ?_)
  refine EL.h (Hv.storeG rfl rfl rfl rfl rfl h3 rfl) rfl (fun _ => rfl) ?_
  rintro _ w6 ⟨h3', hr6⟩
  replace hb := At.kept hb hr6 (by simp; exact n13)
  replace h2 := At.kept h2 hr6 (by simp; exact n23)
  have hw6 : Ext w w6 := Below.wr hw5 hr6 (by omega) (Nat.le_refl _)
  clear h3
  have h3 := h3'
  clear h3'
  repeat' (first
    | refine EL.f (FV.fieldAddr rfl rfl rfl rfl rfl) rfl rfl ?_
    | refine EL.f (FV.load1 rfl rfl rfl (At.cell hb rfl)) rfl rfl ?_
    | refine EL.nil ?_
    | refine EW.seq ?_
    | refine EW.region ?_)
  refine EL.h (Hv.storeG rfl rfl rfl rfl rfl h3 rfl) rfl (fun _ => rfl) ?_
  rintro _ w7 ⟨h3', hr7⟩
  replace hb := At.kept hb hr7 (by simp; exact n13)
  replace h2 := At.kept h2 hr7 (by simp; exact n23)
  have hw7 : Ext w w7 := Below.wr hw6 hr7 (by omega) (Nat.le_refl _)
  clear h3
  have h3 := h3'
  clear h3'
  have l73 := At.lt h3
  repeat' (first
    | refine EL.f (FV.fieldAddr rfl rfl rfl rfl rfl) rfl rfl ?_
    | refine EL.f (FV.load1 rfl rfl rfl (At.cell hb rfl)) rfl rfl ?_
    | refine EL.nil ?_
    | refine EW.seq ?_
    | refine EW.region ?_)
  refine EL.h (Hv.call (toExprS_of ks (fun i hi => ih i hi (by have := sizeL_kid hi; omega)) A cap w7 (hks.ext hw7) (by omega)) rfl) rfl (fun _ => rfl) ?_
  rintro _ w8 ⟨B, cap', rfl, hK, he8⟩
  replace h3 := At.ext h3 he8
  replace h2 := At.ext h2 he8
  have hw8 := hw7.trans he8
  have s7 := hw7.size
  have l37 := At.lt h3
  repeat' (first
    | refine EL.f (FV.fieldAddr rfl rfl rfl rfl rfl) rfl rfl ?_)
  refine EL.h (Hv.storeG rfl rfl rfl rfl rfl h3 rfl) rfl (fun _ => rfl) ?_
  rintro _ w9 ⟨h9, hr9⟩
  replace h9 : At w9 59 5 g3 1 1 [.int .i64 k, .int .i64 n, .int .i64 p, .int .i64 c, .slice B ks.length cap'] := h9
  replace h2 := At.kept h2 hr9 (by simp; exact n23)
  have hw9 : Ext w w9 := Below.wr hw8 hr9 (by omega) (Nat.le_refl _)
  have hX9 : ExB w9 w7.heap.size [.int .i64 k, .int .i64 n, .int .i64 p, .int .i64 c, .slice B ks.length cap'] (.node k n p c ks) := (ExB.of k n p c cap' hK).far hr9 l73
  repeat' (first
    | refine EL.f (FV.loadAgg (cs := [.int .i64 k, .int .i64 n, .int .i64 p, .int .i64 c, .slice B ks.length cap']) rfl rfl rfl rfl rfl (fun _ e => e ▸ At.lies h9)) rfl rfl ?_
    | refine EL.nil ?_
    | refine EW.seq ?_
    | refine EW.region ?_)
  refine EL.h (Hv.storeAggG (vs := [.int .i64 k, .int .i64 n, .int .i64 p, .int .i64 c, .slice B ks.length cap']) rfl rfl rfl rfl hX9.one h2 (Nat.le_refl _)) rfl (fun _ => rfl) ?_
  rintro _ wA ⟨hA, hrA⟩
  repeat' (first
    | refine EL.nil ?_
    | refine EW.ret ?_)
  exact ⟨g2, 0, [.int .i64 k, .int .i64 n, .int .i64 p, .int .i64 c, .slice B ks.length cap'], rfl, rfl, At.lies hA, _, rfl, (hX9.far hrA (by omega)).lower s7, Below.wr hw9 hrA (by omega) (Nat.le_refl _)⟩
theorem toExprSC (ks : List Ex) (A : Option Addr) (cap : Nat) (w : World) (h : KsB w 0 A ks) (hn : Ex.sizeL ks ≤ 1048576) :
    CallsR Try.prog 56 [.slice A ks.length cap] w fun v w' => ∃ B cap', v = .slice B ks.length cap' ∧ KsB w' w.heap.size B ks ∧ Ext w w' :=
  toExprS_of ks (fun i hi => toExprC (ks.getD i dEx) (by have := sizeL_kid hi; omega)) A cap w h (by have := sizeL_ge ks; omega)
/-! comparisons of what is the same -/
theorem eqExprS_of (ks : List Ex) (ih : ∀ i, i < ks.length → ∀ cs ds w, ExB w 0 cs (ks.getD i dEx) → ExB w 0 ds (ks.getD i dEx) → CallsR Try.prog 25 [.agg cs.toArray, .agg ds.toArray] w fun v w' => v = .bool true ∧ Ext w w')
    (A B : Option Addr) (cap dap : Nat) (w : World) (h : KsB w 0 A ks) (h' : KsB w 0 B ks) (hn : ks.length ≤ 1048576) :
    CallsR Try.prog 59 [.slice A ks.length cap, .slice B ks.length dap] w fun v w' => v = .bool true ∧ Ext w w' := by
  refine CallsR.enter Try.func59 (by decide +kernel) rfl Try.ntmps59 rfl ?_
  repeat' (first
    | (show EL _ _ _ _ (_ :: _) _ _
       first
       | (show EL _ _ _ _ (⟨_, .move _, _, _, _, _⟩ :: _) _ _; refine EL.f (FV.move rfl) rfl rfl ?_)
       | (show EL _ _ _ _ (⟨_, .assign _, _, _, _, _⟩ :: _) _ _; refine EL.f (FV.assign rfl) rfl rfl ?_)
       | (show EL _ _ _ _ (⟨_, .call _, _, _, _, _⟩ :: _) _ _; refine EL.f (FV.len rfl rfl) rfl rfl ?_)
       | (show EL _ _ _ _ (⟨_, .binOp .neq _ _ _ _, _, _, _, _⟩ :: _) _ _; refine EL.fF (FV.neq rfl rfl) rfl (fun _ => rfl) (by omega) ?_))
    | refine EL.nil ?_
    | refine EW.seq ?_
    | refine EW.region ?_
    | refine EW.block ?_
    | refine EW.skip ?_
    | refine EW.condF rfl ?_)
  refine EW.loop (X := Nat) (fun i wr => i ≤ ks.length ∧ Ext w wr) (fun i => [(0, .slice A ks.length cap), (1, .slice B ks.length dap), (5, .int .i64 i)]) (fun i => ks.length - i) 0 ⟨Nat.zero_le _, Ext.refl _⟩ ⟨rfl, rfl, rfl, trivial⟩ ?_
  rintro i wr ⟨hi, hE⟩
  by_cases hlt : i < ks.length
  · obtain ⟨b, o, cs, rfl, hL, hX, hc⟩ := (h.ext hE).kid hlt
    obtain ⟨b', o', ds, rfl, hL', hX', hc'⟩ := (h'.ext hE).kid hlt
    repeat' (first
      | refine EL.f (FV.move rfl) rfl rfl ?_
      | refine EL.f (FV.len rfl rfl) rfl rfl ?_
      | refine EL.fT (FV.lss rfl rfl) rfl (fun _ => rfl) (by omega) ?_
      | refine EL.nil ?_
      | refine EW.seq ?_
      | refine EW.region ?_
      | refine EW.block ?_
      | refine EW.skip ?_
      | refine EW.condT rfl ?_)
    refine EW.draw (fun w' => Ext wr w') (pl 0 8 ++ [(8, false), (9, true)]) mixed (by decide +kernel) (Ext.drew _) ?_
    repeat' (first
      | refine EP.f rfl (FV.idx (s := 5) rfl rfl rfl rfl (by omega) (by omega)) rfl rfl ?_
      | refine EP.f rfl (FV.loadAgg (cs := cs) rfl rfl rfl hc rfl (fun _ e => hL.ext e)) rfl rfl ?_
      | refine EP.f rfl (FV.loadAgg (cs := ds) rfl rfl rfl hc' rfl (fun _ e => hL'.ext e)) rfl rfl ?_
      | refine EP.f rfl (FV.move rfl) rfl rfl ?_)
    have ed := Ext.drew wr
    refine EP.h rfl rfl (Hv.call (ih i hlt cs ds wr.drew (hX.ext ed) (hX'.ext ed)) rfl) rfl (fun _ => rfl) ?_
    rintro _ w1 ⟨rfl, he1⟩
    refine ⟨ed.trans he1, ?_⟩
    repeat' (first
      | refine EP.nil ?_
      | refine EP.f rfl (FV.not rfl) rfl rfl ?_)
    repeat' (first
      | refine EL.f (FV.move rfl) rfl rfl ?_
      | refine EL.f (FV.assign rfl) rfl rfl ?_
      | refine EL.f (FV.addI rfl rfl (by omega)) rfl rfl ?_
      | refine EL.nil ?_
      | refine EW.region ?_
      | refine EW.skip ?_
      | refine EW.condF rfl ?_)
    exact ⟨i + 1, ⟨rfl, rfl, rfl, trivial⟩, ⟨by omega, (hE.trans ed).trans he1⟩, by omega⟩
  · obtain rfl : i = ks.length := by omega
    repeat' (first
      | (show EL _ _ _ _ (_ :: _) _ _
         first
         | (show EL _ _ _ _ (⟨_, .move _, _, _, _, _⟩ :: _) _ _; refine EL.f (FV.move rfl) rfl rfl ?_)
         | (show EL _ _ _ _ (⟨_, .assign _, _, _, _, _⟩ :: _) _ _; refine EL.f (FV.assign rfl) rfl rfl ?_)
         | (show EL _ _ _ _ (⟨_, .call _, _, _, _, _⟩ :: _) _ _; refine EL.f (FV.len rfl rfl) rfl rfl ?_)
         | (show EL _ _ _ _ (⟨_, .binOp .lss _ _ _ _, _, _, _, _⟩ :: _) _ _; refine EL.fF (FV.lss rfl rfl) rfl (fun _ => rfl) (by omega) ?_))
      | refine EL.nil ?_
      | refine EW.seq ?_
      | refine EW.region ?_
      | refine EW.exit ?_
      | refine EW.ret ?_
      | refine EW.condF rfl ?_)
    exact ⟨_, rfl, rfl, hE⟩
theorem eqExprC (e : Ex) : e.size ≤ 1048577 → ∀ cs ds w, ExB w 0 cs e → ExB w 0 ds e → CallsR Try.prog 25 [.agg cs.toArray, .agg ds.toArray] w fun v w' => v = .bool true ∧ Ext w w' := by
  induction e using Ex.ind with
  | h k n p c ks ih =>
  intro hs cs ds w hx hy
  have hge := sizeL_ge ks
  simp only [Ex.size] at hs
  obtain ⟨A, cap, rfl, hks⟩ := hx.inv
  obtain ⟨B, dap, rfl, hls⟩ := hy.inv
  refine CallsR.enter Try.func25 (by decide +kernel) rfl Try.ntmps25 rfl ?_
  repeat' (first
    | refine EW.seq ?_
    | refine EW.region ?_)
  refine EL.h (Hv.boxA (sz := 5) rfl rfl) rfl (fun _ => rfl) ?_
  rintro _ w1 ⟨g1, rfl, hg1, hb, he1⟩
  skip
  refine EL.h (Hv.boxA (sz := 5) rfl rfl) rfl (fun _ => rfl) ?_
  rintro _ w2 ⟨g2, rfl, hg2, h2, he2⟩
  replace hb := At.ext hb he2
  have hw2 := he1.trans he2
  repeat' (first
    | (show EL _ _ _ _ (_ :: _) _ _
       first
       | (show EL _ _ _ _ (⟨_, .fieldAddr _ _ _, _, _, _, _⟩ :: _) _ _; refine EL.f (FV.fieldAddr rfl rfl rfl rfl rfl) rfl rfl ?_)
       | (show EL _ _ _ _ (⟨_, .load _ _, _, _, _, _⟩ :: _) _ _; first | refine EL.f (FV.load1 rfl rfl rfl (At.cell hb rfl)) rfl rfl ?_ | refine EL.f (FV.load1 rfl rfl rfl (At.cell h2 rfl)) rfl rfl ?_)
       | (show EL _ _ _ _ (⟨_, .assign _, _, _, _, _⟩ :: _) _ _; refine EL.f (FV.assign rfl) rfl rfl ?_)
       | (show EL _ _ _ _ (⟨_, .binOp .neq _ _ _ _, _, _, _, _⟩ :: _) _ _; refine EL.fF (FV.neq rfl rfl) rfl (fun _ => rfl) (by omega) ?_))
    | refine EL.nil ?_
    | refine EW.seq ?_
    | refine EW.region ?_
    | refine EW.skip ?_
    | refine EW.condF rfl ?_)
  refine EL.h (Hv.call (eqExprS_of ks (fun i hi => ih i hi (by have := sizeL_kid hi; omega)) A B cap dap w2 (hks.ext hw2) (hls.ext hw2) (by omega)) rfl) rfl (fun _ => rfl) ?_
  rintro _ w3 ⟨rfl, he3⟩
  repeat' (first
    | refine EL.f (FV.assign rfl) rfl rfl ?_
    | refine EL.f (FV.not rfl) rfl rfl ?_
    | refine EL.nil ?_
    | refine EW.seq ?_
    | refine EW.region ?_
    | refine EW.skip ?_
    | refine EW.ret ?_
    | refine EW.condF rfl ?_)
  exact ⟨_, rfl, rfl, hw2.trans he3⟩
theorem eqExprSC (ks : List Ex) (A B : Option Addr) (cap dap : Nat) (w : World) (h : KsB w 0 A ks) (h' : KsB w 0 B ks) (hn : Ex.sizeL ks ≤ 1048576) :
    CallsR Try.prog 59 [.slice A ks.length cap, .slice B ks.length dap] w fun v w' => v = .bool true ∧ Ext w w' :=
  eqExprS_of ks (fun i hi => eqExprC (ks.getD i dEx) (by have := sizeL_kid hi; omega)) A B cap dap w h h' (by have := sizeL_ge ks; omega)
end Eng
end Go.Proofs.Ytgahkbcfjibjaaa
