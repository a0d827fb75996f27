/- Copies of expressions with the shape of their rows; marks of expressions. Conditions: the number of nodes. -/
import Derived.Test.YtgahkbcfjibjaaaEb
namespace Go.Proofs.Ytgahkbcfjibjaaa
open Go Go.RowKit
namespace Eng
def slOf (v : Option Value) (n : Nat) : Prop := ∃ A c, v = some (.slice A n c)
def adOf : Option Value → Option Addr
  | some (.slice A _ _) => A
  | _ => none
/-- Rows of expressions, from block B on, that nobody has frozen; where their kids' slices lead. -/
inductive ShS (w : World) (B : Nat) : Option Addr → List Ex → Prop
  | mk (b : Nat) (ks : List Ex) (cur : Array Value) (hB : B ≤ b) (row : w.heap[b]? = some (.cells cur 59 (0, 0))) (room : ks.length * 5 ≤ cur.size)
      (sl : ∀ i, i < ks.length → slOf cur[i * 5 + 4]? (ks.getD i dEx).kids.length) (kids : ∀ i, i < ks.length → ShS w B (adOf cur[i * 5 + 4]?) (ks.getD i dEx).kids) :
      ShS w B (some ⟨b, 0, none⟩) ks
theorem ShS.keep {w w' : World} {B : Nat} {A : Option Addr} {ks : List Ex} (hb : ∀ k, B ≤ k → k < w.heap.size → w'.heap[k]? = w.heap[k]?) (h : ShS w B A ks) : ShS w' B A ks := by
  induction h with
  | mk b ks cur hB row room sl _ ih =>
    exact .mk b ks cur hB ((hb b hB (Array.getElem?_eq_some_iff.1 row).1).trans row) room sl ih
theorem ShS.ext {w w' : World} {B : Nat} {A : Option Addr} {ks : List Ex} (h : ShS w B A ks) (he : Ext w w') : ShS w' B A ks := h.keep fun k _ hk => he.block k hk
theorem ShS.far {w w' : World} {B g : Nat} {A : Option Addr} {ks : List Ex} (h : ShS w B A ks) (hg : w.grownBy w' (some g)) (hB : g < B) : ShS w' B A ks := h.keep fun k hk hl => hg.block k hl (by intro q; injection q; omega)
theorem ShS.lower {w : World} {B B' : Nat} {A : Option Addr} {ks : List Ex} (h : ShS w B A ks) (hB : B' ≤ B) : ShS w B' A ks := by
  induction h with
  | mk b ks cur hb row room sl _ ih => exact .mk b ks cur (by omega) row room sl ih
def ShE (w : World) (B : Nat) (cs : List Value) (e : Ex) : Prop := ∃ a b c d A cap, cs = [a, b, c, d, .slice A e.kids.length cap] ∧ ShS w B A e.kids
def ExO (w : World) (B : Nat) (cs : List Value) (e : Ex) : Prop := ExB w B cs e ∧ ShE w B cs e
def KsO (w : World) (B : Nat) (A : Option Addr) (ks : List Ex) : Prop := KsB w B A ks ∧ ShS w B A ks
theorem ExO.len {w : World} {B : Nat} {cs : List Value} {e : Ex} (h : ExO w B cs e) : cs.length = 5 := h.1.len
theorem ExO.one {w : World} {B : Nat} {cs : List Value} {e : Ex} (h : ExO w B cs e) : ∀ v ∈ cs, v.oneCell' = true := h.1.one
theorem ExO.ext {w w' : World} {B : Nat} {cs : List Value} {e : Ex} (h : ExO w B cs e) (he : Ext w w') : ExO w' B cs e := by
  obtain ⟨h1, a, b, c, d, A, cap, e1, h2⟩ := h
  exact ⟨h1.ext he, a, b, c, d, A, cap, e1, h2.ext he⟩
theorem ExO.far {w w' : World} {B g : Nat} {cs : List Value} {e : Ex} (h : ExO w B cs e) (hg : w.grownBy w' (some g)) (hB : g < B) : ExO w' B cs e := by
  obtain ⟨h1, a, b, c, d, A, cap, e1, h2⟩ := h
  exact ⟨h1.far hg hB, a, b, c, d, A, cap, e1, h2.far hg hB⟩
theorem ExO.lower {w : World} {B B' : Nat} {cs : List Value} {e : Ex} (h : ExO w B cs e) (hB : B' ≤ B) : ExO w B' cs e := by
  obtain ⟨h1, a, b, c, d, A, cap, e1, h2⟩ := h
  exact ⟨h1.lower hB, a, b, c, d, A, cap, e1, h2.lower hB⟩
theorem toExprMS_of (ks : List Ex) (ih : ∀ i, i < ks.length → ∀ cs w, ExB w 0 cs (ks.getD i dEx) → CallsR Try.prog 23 [.agg cs.toArray] w fun v w' => ∃ ds, v = .agg ds.toArray ∧ ExO w' w.heap.size ds (ks.getD i dEx) ∧ Ext w w')
    (A : Option Addr) (cap : Nat) (w : World) (h : KsB w 0 A ks) (hn : ks.length ≤ 1048576) :
    CallsR Try.prog 56 [.slice A ks.length cap] w fun v w' => ∃ B cap', v = .slice B ks.length cap' ∧ KsO w' w.heap.size B ks ∧ Ext w w' := by
  refine CallsR.enter Try.func56 (by decide +kernel) rfl Try.ntmps56 rfl ?_
  repeat' (first
    | refine EL.f (FV.move rfl) rfl rfl ?_
    | refine EL.f (FV.assign rfl) rfl rfl ?_
    | refine EL.f (FV.len rfl rfl) rfl rfl ?_
    | refine EL.nil ?_
    | refine EW.seq ?_
    | refine EW.region ?_)
  refine EL.h (Hv.make (kl := .i64) rfl rfl rfl rfl (by omega) (by omega)) rfl (fun _ => rfl) ?_
  rintro _ w1 ⟨g, rfl, hg, hat, he1⟩
  rw [made_flat (f := Five.val) (s := 5) (fun x : Five => x.ok) z5 (Value.agg #[.int .i64 0, .int .i64 0, .int .i64 0, .int .i64 0, .slice none 0 0]).cells rfl (by decide) ks.length] at hat
  repeat' (first
    | refine EL.f (FV.assign rfl) rfl rfl ?_
    | refine EL.nil ?_
    | refine EW.seq ?_
    | refine EW.region ?_
    | refine EW.block ?_)
  refine EW.loop (X := Nat) (fun i wr => i ≤ ks.length ∧ (∃ xs : List Five, xs.length = ks.length ∧ At wr 59 5 g ks.length ks.length (xs.flatMap Five.val) ∧ ∀ j, j < i → ExO wr (g + 1) (xs.getD j z5).val (ks.getD j dEx)) ∧ Ext w wr) (fun i => [(0, .slice A ks.length cap), (3, .slice (some ⟨g, 0, none⟩) ks.length ks.length), (4, .int .i64 i)]) (fun i => ks.length - i) 0 ⟨Nat.zero_le _, ⟨_, by simp, hat, fun j hj => by omega⟩, he1⟩ ⟨rfl, rfl, rfl, trivial⟩ ?_
  clear hat
  rintro i wr ⟨hi, ⟨xs, hxl, hat, hxs⟩, hE⟩
  by_cases hlt : i < ks.length
  · obtain ⟨b, o, cs, rfl, hL, hX, hc⟩ := (h.ext hE).kid hlt
    repeat' (first
      | (show EL _ _ _ _ (_ :: _) _ _
         first
         | (show EL _ _ _ _ (⟨_, .indexAddr _ _ _, _, _, _, _⟩ :: _) _ _; refine EL.f (FV.idx rfl rfl rfl rfl (by omega) (by omega)) rfl rfl ?_)
         | (show EL _ _ _ _ (⟨_, .load _ _, _, _, _, _⟩ :: _) _ _; refine EL.f (FV.loadAgg (cs := cs) rfl rfl rfl hc rfl (fun _ e => e ▸ hL)) rfl rfl ?_)
         | (show EL _ _ _ _ (⟨_, .move _, _, _, _, _⟩ :: _) _ _; refine EL.f (FV.move rfl) rfl rfl ?_)
         | (show EL _ _ _ _ (⟨_, .call _, _, _, _, _⟩ :: _) _ _; refine EL.f (FV.len rfl rfl) rfl rfl ?_)
         | (show EL _ _ _ _ (⟨_, .binOp .lss _ _ _ _, _, _, _, _⟩ :: _) _ _; refine EL.fT (FV.lss rfl rfl) rfl (fun _ => rfl) (by omega) ?_))
      | refine EL.nil ?_
      | refine EW.seq ?_
      | refine EW.region ?_
      | refine EW.block ?_
      | refine EW.skip ?_
      | refine EW.condT rfl ?_)
    refine EL.h (Hv.call (ih i hlt cs wr hX) rfl) rfl (fun _ => rfl) ?_
    rintro _ w2 ⟨ds, rfl, hds, he2⟩
    have hlg := At.lt hat
    have hat2 := At.ext hat he2
    have hroom := flat_room (f := Five.val) (s := 5) (fun x : Five => x.ok) ⟨ds, hds.len⟩ xs i (by omega)
    repeat' (first
      | refine EL.f (FV.idx rfl rfl rfl rfl (by omega) (by omega)) rfl rfl ?_)
    refine EL.h (Hv.storeAggG (vs := ds) rfl rfl rfl hds.len hds.one hat2 (by simpa using hroom)) rfl (fun _ => rfl) ?_
    rintro _ w3 ⟨hat3, hr3⟩
    have hE3 : Ext w w3 := Below.wr (hE.trans he2) hr3 (by omega) (Nat.le_refl _)
    have e3 := setL_flat (f := Five.val) (s := 5) (fun x : Five => x.ok) ⟨ds, hds.len⟩ xs i (by omega)
    rw [Nat.zero_add, show setL (xs.flatMap Five.val) ((i : Int).toNat * 5) ds = _ from e3] at hat3
    repeat' (first
      | refine EL.f (FV.move rfl) rfl rfl ?_
      | refine EL.f (FV.assign rfl) rfl rfl ?_
      | refine EL.f (FV.addI rfl rfl (by omega)) rfl rfl ?_
      | refine EL.nil ?_
      | refine EW.region ?_)
    refine ⟨i + 1, ⟨rfl, rfl, rfl, trivial⟩, ⟨by omega, ⟨_, by simpa using hxl, hat3, fun j hj => ?_⟩, hE3⟩, by omega⟩
    by_cases hji : j = i
    · subst hji
      rw [show (xs.set j ⟨ds, hds.len⟩).getD j z5 = ⟨ds, hds.len⟩ from by simp [List.getD_eq_getElem?_getD, show j < xs.length from by omega]]
      exact (hds.lower (by omega)).far hr3 (by omega)
    · rw [show (xs.set i ⟨ds, hds.len⟩).getD j z5 = xs.getD j z5 from by rw [List.getD_eq_getElem?_getD, List.getElem?_set_ne (Ne.symm hji), ← List.getD_eq_getElem?_getD]]
      exact ((hxs j (by omega)).ext he2).far hr3 (by omega)
  · obtain rfl : i = ks.length := by omega
    repeat' (first
      | (show EL _ _ _ _ (_ :: _) _ _
         first
         | (show EL _ _ _ _ (⟨_, .move _, _, _, _, _⟩ :: _) _ _; refine EL.f (FV.move rfl) rfl rfl ?_)
         | (show EL _ _ _ _ (⟨_, .assign _, _, _, _, _⟩ :: _) _ _; refine EL.f (FV.assign rfl) rfl rfl ?_)
         | (show EL _ _ _ _ (⟨_, .call _, _, _, _, _⟩ :: _) _ _; refine EL.f (FV.len rfl rfl) rfl rfl ?_)
         | (show EL _ _ _ _ (⟨_, .binOp .lss _ _ _ _, _, _, _, _⟩ :: _) _ _; refine EL.fF (FV.lss rfl rfl) rfl (fun _ => rfl) (by omega) ?_))
      | refine EL.nil ?_
      | refine EW.seq ?_
      | refine EW.region ?_
      | refine EW.exit ?_
      | refine EW.ret ?_
      | refine EW.condF rfl ?_)
    have hK : KsB wr w.heap.size (some ⟨g, 0, none⟩) ks := by
      refine ⟨by omega, fun i => (xs.getD i z5).val, fun i hi => ?_, fun i hi => (hxs i hi).1.lower (by omega)⟩
      refine ⟨g, 0, rfl, by omega, At.lt hat, ?_⟩
      exact (At.lies hat).part (flat_part (f := Five.val) (s := 5) (fun x : Five => x.ok) z5 xs i (by omega))
    have hS : ShS wr w.heap.size (some ⟨g, 0, none⟩) ks := by
      obtain ⟨cur, h1, h2, h3, h4, h5⟩ := hat.row
      have key : ∀ i, i < ks.length → cur[i * 5 + 4]? = (xs.getD i z5).val[4]? := fun i hi => by
        have hp := flat_part (f := Five.val) (s := 5) (fun x : Five => x.ok) z5 xs i (by omega)
        have e1 : (xs.flatMap Five.val)[i * 5 + 4]? = (xs.getD i z5).val[4]? := by
          rw [← hp, List.getElem?_take, if_pos (by decide), List.getElem?_drop]
        rw [← e1, ← h5, List.getElem?_take, if_pos (by omega), Array.getElem?_toList]
      refine .mk g ks cur (by omega) h1 (by omega) (fun i hi => ?_) (fun i hi => ?_)
      · obtain ⟨_, a, b, c, d, A', cap', e, _⟩ := hxs i hi
        rw [key i hi, e]
        exact ⟨A', cap', rfl⟩
      · obtain ⟨_, a, b, c, d, A', cap', e, hsh⟩ := hxs i hi
        rw [key i hi, e]
        exact hsh.lower (by omega)
    exact ⟨_, rfl, _, _, rfl, ⟨hK, hS⟩, hE⟩
theorem toExprM (e : Ex) : e.size ≤ 1048577 → ∀ cs w, ExB w 0 cs e → CallsR Try.prog 23 [.agg cs.toArray] w fun v w' => ∃ ds, v = .agg ds.toArray ∧ ExO w' w.heap.size ds e ∧ Ext w w' := by
  induction e using Ex.ind with
  | h k n p c ks ih =>
  intro hs cs w hx
  have hge := sizeL_ge ks
  simp only [Ex.size] at hs
  obtain ⟨A, cap, rfl, hks⟩ := hx.inv
  refine CallsR.enterC Try.func23 (by decide +kernel) rfl Try.ntmps23 rfl rfl rfl rfl rfl ?_
  repeat' (first
    | refine EW.seq ?_
    | refine EW.region ?_)
  refine EL.h (Hv.boxA (sz := 5) rfl rfl) rfl (fun _ => rfl) ?_
  rintro _ w1 ⟨g1, rfl, hg1, hb, he1⟩
  skip
  refine EL.h (Hv.allocA rfl rfl) rfl (fun _ => rfl) ?_
  rintro _ w2 ⟨g2, rfl, hg2, h2, he2⟩
  repeat' (first
    | refine EL.nil ?_
    | refine EW.seq ?_
    | refine EW.region ?_)
  refine EL.h (Hv.allocA rfl rfl) rfl (fun _ => rfl) ?_
  rintro _ w3 ⟨g3, rfl, hg3, h3, he3⟩
  have s1 := he1.size
  have s2 := he2.size
  have l2 := At.lt h2
  replace hb := At.ext hb (he2.trans he3)
  replace h2 := At.ext h2 he3
  have n13 : g1 ≠ g3 := by have := At.lt hb; omega
  have n23 : g2 ≠ g3 := by omega
  have hw3 := (he1.trans he2).trans he3
  repeat' (first
    | refine EL.f (FV.fieldAddr rfl rfl rfl rfl rfl) rfl rfl ?_
    | refine EL.f (FV.load1 rfl rfl rfl (At.cell hb rfl)) rfl rfl ?_
    | refine EL.nil ?_
    | refine EW.seq ?_
    | refine EW.region ?_)
  refine EL.h (Hv.storeG rfl rfl rfl rfl rfl h3 rfl) rfl (fun _ => rfl) ?_
  rintro _ w4 ⟨h3', hr4⟩
  replace hb := At.kept hb hr4 (by simp; exact n13)
  replace h2 := At.kept h2 hr4 (by simp; exact n23)
  have hw4 : Ext w w4 := Below.wr hw3 hr4 (by omega) (Nat.le_refl _)
  clear h3
  have h3 := h3'
  clear h3'
  repeat' (first
    | refine EL.f (FV.fieldAddr rfl rfl rfl rfl rfl) rfl rfl ?_
    | refine EL.f (FV.load1 rfl rfl rfl (At.cell hb rfl)) rfl rfl ?_
    | refine EL.nil ?_
    | refine EW.seq ?_
    | refine EW.region ?_)
  refine EL.h (Hv.storeG rfl rfl rfl rfl rfl h3 rfl) rfl (fun _ => rfl) ?_
  rintro _ w5 ⟨h3', hr5⟩
  replace hb := At.kept hb hr5 (by simp; exact n13)
  replace h2 := At.kept h2 hr5 (by simp; exact n23)
  have hw5 : Ext w w5 := Below.wr hw4 hr5 (by omega) (Nat.le_refl _)
  clear h3
  have h3 := h3'
  clear h3'
  repeat' (first
    | refine EL.f (FV.fieldAddr rfl rfl rfl rfl rfl) rfl rfl ?_
    | refine EL.f (FV.load1 rfl rfl rfl (At.cell hb rfl)) rfl rfl ?_
    | refine EL.nil ?_
    | refine EW.seq ?_
    | refine EW.region ?_)
  refine EL.h (Hv.storeG rfl rfl rfl rfl rfl h3 rfl) rfl (fun _ => rfl) ?_
  rintro _ w6 ⟨h3', hr6⟩
  replace hb := At.kept hb hr6 (by simp; exact n13)
  replace h2 := At.kept h2 hr6 (by simp; exact n23)
  have hw6 : Ext w w6 := Below.wr hw5 hr6 (by omega) (Nat.le_refl _)
  clear h3
  have h3 := h3'
  clear h3'
  repeat' (first
    | refine EL.f (FV.fieldAddr rfl rfl rfl rfl rfl) rfl rfl ?_
    | refine EL.f (FV.load1 rfl rfl rfl (At.cell hb rfl)) rfl rfl ?_
    | refine EL.nil ?_
    | refine EW.seq ?_
    | refine EW.region ?_)
  refine EL.h (Hv.storeG rfl rfl rfl rfl rfl h3 rfl) rfl (fun _ => rfl) ?_
  rintro _ w7 ⟨h3', hr7⟩
  replace hb := At.kept hb hr7 (by simp; exact n13)
  replace h2 := At.kept h2 hr7 (by simp; exact n23)
  have hw7 : Ext w w7 := Below.wr hw6 hr7 (by omega) (Nat.le_refl _)
  clear h3
  have h3 := h3'
  clear h3'
  have l73 := At.lt h3
  repeat' (first
    | refine EL.f (FV.fieldAddr rfl rfl rfl rfl rfl) rfl rfl ?_
    | refine EL.f (FV.load1 rfl rfl rfl (At.cell hb rfl)) rfl rfl ?_
    | refine EL.nil ?_
    | refine EW.seq ?_
    | refine EW.region ?_)
  refine EL.h (Hv.call (toExprMS_of ks (fun i hi => ih i hi (by have := sizeL_kid hi; omega)) A cap w7 (hks.ext hw7) (by omega)) rfl) rfl (fun _ => rfl) ?_
  rintro _ w8 ⟨B, cap', rfl, hK, he8⟩
  replace h3 := At.ext h3 he8
  replace h2 := At.ext h2 he8
  have hw8 := hw7.trans he8
  have s7 := hw7.size
  have l37 := At.lt h3
  repeat' (first
    | refine EL.f (FV.fieldAddr rfl rfl rfl rfl rfl) rfl rfl ?_)
  refine EL.h (Hv.storeG rfl rfl rfl rfl rfl h3 rfl) rfl (fun _ => rfl) ?_
  rintro _ w9 ⟨h9, hr9⟩
  replace h9 : At w9 59 5 g3 1 1 [.int .i64 k, .int .i64 n, .int .i64 p, .int .i64 c, .slice B ks.length cap'] := h9
  replace h2 := At.kept h2 hr9 (by simp; exact n23)
  have hw9 : Ext w w9 := Below.wr hw8 hr9 (by omega) (Nat.le_refl _)
  have hX9 : ExO w9 w7.heap.size [.int .i64 k, .int .i64 n, .int .i64 p, .int .i64 c, .slice B ks.length cap'] (.node k n p c ks) := ExO.far ⟨ExB.of k n p c cap' hK.1, _, _, _, _, B, cap', rfl, hK.2⟩ hr9 l73
  repeat' (first
    | refine EL.f (FV.loadAgg (cs := [.int .i64 k, .int .i64 n, .int .i64 p, .int .i64 c, .slice B ks.length cap']) rfl rfl rfl rfl rfl (fun _ e => e ▸ At.lies h9)) rfl rfl ?_
    | refine EL.nil ?_
    | refine EW.seq ?_
    | refine EW.region ?_)
  refine EL.h (Hv.storeAggG (vs := [.int .i64 k, .int .i64 n, .int .i64 p, .int .i64 c, .slice B ks.length cap']) rfl rfl rfl rfl hX9.one h2 (Nat.le_refl _)) rfl (fun _ => rfl) ?_
  rintro _ wA ⟨hA, hrA⟩
  repeat' (first
    | refine EL.nil ?_
    | refine EW.ret ?_)
  exact ⟨g2, 0, [.int .i64 k, .int .i64 n, .int .i64 p, .int .i64 c, .slice B ks.length cap'], rfl, rfl, At.lies hA, _, rfl, (hX9.far hrA (by omega)).lower s7, Below.wr hw9 hrA (by omega) (Nat.le_refl _)⟩
theorem toExprMS (ks : List Ex) (A : Option Addr) (cap : Nat) (w : World) (h : KsB w 0 A ks) (hn : Ex.sizeL ks ≤ 1048576) :
    CallsR Try.prog 56 [.slice A ks.length cap] w fun v w' => ∃ B cap', v = .slice B ks.length cap' ∧ KsO w' w.heap.size B ks ∧ Ext w w' :=
  toExprMS_of ks (fun i hi => toExprM (ks.getD i dEx) (by have := sizeL_kid hi; omega)) A cap w h (by have := sizeL_ge ks; omega)
/-! marks -/
/-- From block B on numbers in rows of expressions were written, and nothing else. -/
structure MkR (B : Nat) (w w' : World) : Prop where
  os : w'.os = w.os
  tape : w'.tape = w.tape
  output : w'.output = w.output
  size : w'.heap.size = w.heap.size
  low : ∀ k : Nat, k < B → w'.heap[k]? = w.heap[k]?
  other : ∀ k : Nat, (∀ cur, w.heap[k]? ≠ some (Obj.cells cur 59 (0, 0))) → w'.heap[k]? = w.heap[k]?
  rows : ∀ (k : Nat) cur, w.heap[k]? = some (Obj.cells cur 59 (0, 0)) → ∃ cur', w'.heap[k]? = some (Obj.cells cur' 59 (0, 0)) ∧ cur'.size = cur.size ∧ ∀ j, j % 5 = 4 → cur'[j]? = cur[j]?
theorem MkR.refl (B : Nat) (w : World) : MkR B w w := ⟨rfl, rfl, rfl, rfl, fun _ _ => rfl, fun _ _ => rfl, fun _ cur h => ⟨cur, h, rfl, fun _ _ => rfl⟩⟩
theorem MkR.trans {B : Nat} {a b c : World} (h : MkR B a b) (k : MkR B b c) : MkR B a c := by
  refine ⟨k.os.trans h.os, k.tape.trans h.tape, k.output.trans h.output, k.size.trans h.size, fun i hi => (k.low i hi).trans (h.low i hi), fun i hi => ?_, fun i cur hc => ?_⟩
  · have e := h.other i hi
    exact (k.other i fun cur hc => hi cur (e ▸ hc)).trans e
  · obtain ⟨c1, h1, h2, h3⟩ := h.rows i cur hc
    obtain ⟨c2, k1, k2, k3⟩ := k.rows i c1 h1
    exact ⟨c2, k1, k2.trans h2, fun j hj => (k3 j hj).trans (h3 j hj)⟩
theorem MkR.ext {B : Nat} {u w w' : World} (h : Ext u w) (k : MkR B w w') (hB : u.heap.size ≤ B) : Ext u w' :=
  ⟨k.os.trans h.os, k.tape.trans h.tape, k.output.trans h.output, by rw [k.size]; exact h.size, fun i hi => (k.low i (by omega)).trans (h.block i hi)⟩
theorem ShS.mk_ {B : Nat} {w w' : World} {A : Option Addr} {ks : List Ex} (k : MkR B w w') (h : ShS w B A ks) : ShS w' B A ks := by
  induction h with
  | mk b ks cur hB row room sl _ ih =>
    obtain ⟨cur', h1, h2, h3⟩ := k.rows b cur row
    refine .mk b ks cur' hB h1 (by omega) (fun i hi => ?_) (fun i hi => ?_)
    · rw [h3 _ (by omega)]; exact sl i hi
    · rw [h3 _ (by omega)]; exact ih i hi
theorem At.mk_ {B : Nat} {w w' : World} {e sz g n c : Nat} {cs : List Value} (h : At w e sz g n c cs) (k : MkR B w w') (he : g < B ∨ e ≠ 59) : At w' e sz g n c cs := by
  obtain ⟨cur, h1, r⟩ := h.row
  refine ⟨h.len, cur, ?_, r⟩
  rcases he with he | he
  · exact (k.low g he).trans h1
  · exact (k.other g fun c2 h2 => by rw [h1] at h2; injection h2 with h2; injection h2 with _ h3 _; exact he h3).trans h1
theorem own_mk {B B' : Nat} {w w' : World} {e sz n : Nat} {v : Value} {cs : List Value} (h : w.ownsRow B' e sz v n cs) (k : MkR B w w') (he : e ≠ 59) : w'.ownsRow B' e sz v n cs := by
  refine ⟨h.1, ?_⟩
  rcases h.2 with h2 | ⟨g, cap, cur, hv, hb, h1, r⟩
  · exact .inl h2
  · exact .inr ⟨g, cap, cur, hv, hb, (k.other g fun c2 h2 => by rw [h1] at h2; injection h2 with h2; injection h2 with _ h3 _; exact he h3).trans h1, r⟩
section
variable {n : Nat} {ρ : Env} {dst : Option Tmp} {ty : TypeId} {pos : String} {af : Array Edge} {gd : Option (Nat × Bool)}
/-- A number is stored into the first four cells of an element. -/
theorem Hv.storeK {B : Nat} {w : World} {b i f : Nat} {ks : List Ex} {x y : Operand} {k : Int} (hs : ShS w B (some ⟨b, 0, none⟩) ks) (hi : i < ks.length) (hf : f < 4) (hx : ev ρ x = some (.pointer (some ⟨b, 0 + i * 5 + f, none⟩))) (hy : ev ρ y = some (.int .i64 k)) :
    Hv Try.prog n ρ ⟨none, .store 2 x y, ty, pos, af, gd⟩ w (fun _ w' => MkR B w w') := by
  cases hs with
  | mk b ks cur hB row room sl kids =>
  have hlt := (Array.getElem?_eq_some_iff.1 row).1
  have hj : 0 + i * 5 + f < cur.size := by omega
  have hc : w.cell? ⟨b, 0 + i * 5 + f, none⟩ = some (cur[0 + i * 5 + f]'hj) := by
    rw [cell_of_row w b _ cur 59 (0, 0) row]
    simp
  have hfz : w.frozen? ⟨b, 0 + i * 5 + f, none⟩ = false := by simp [World.frozen?, row]
  refine (Hv.store (v := .int .i64 k) rfl hx hy rfl rfl hc hfz).mono fun _ w' hw => ?_
  subst hw
  have hnew : (w.setCell ⟨b, 0 + i * 5 + f, none⟩ (.int .i64 k)).heap[b]? = some (.cells (cur.setIfInBounds (0 + i * 5 + f) (.int .i64 k)) 59 (0, 0)) := by
    simp [World.setCell, Array.getElem?_modify, row]
  have hoth : ∀ j, j ≠ b → (w.setCell ⟨b, 0 + i * 5 + f, none⟩ (.int .i64 k)).heap[j]? = w.heap[j]? := fun j hj => Below.heap_setCell w ⟨b, 0 + i * 5 + f, none⟩ _ j hj
  refine ⟨rfl, rfl, rfl, by simp [World.setCell], fun j hj => hoth j (by omega), fun j hj => hoth j fun e => hj cur (e ▸ row), fun j c2 h2 => ?_⟩
  by_cases e : j = b
  · subst e
    rw [row] at h2
    injection h2 with h2
    injection h2 with h2 _ _
    subst h2
    refine ⟨_, hnew, by simp, fun q hq => ?_⟩
    rw [Array.getElem?_setIfInBounds_ne (by omega)]
  · exact ⟨c2, (hoth j e).trans h2, rfl, fun _ _ => rfl⟩
end
theorem ShS.at_ {w : World} {B : Nat} {A : Option Addr} {ks : List Ex} (h : ShS w B A ks) : ∃ b, A = some ⟨b, 0, none⟩ := by
  cases h
  exact ⟨_, rfl⟩
theorem ShS.kid {w : World} {B b : Nat} {ks : List Ex} (h : ShS w B (some ⟨b, 0, none⟩) ks) {i : Nat} (hi : i < ks.length) : ∃ A c, w.cell? ⟨b, 0 + i * 5 + 4, none⟩ = some (.slice A (ks.getD i dEx).kids.length c) ∧ ShS w B A (ks.getD i dEx).kids := by
  cases h with
  | mk b ks cur hB row room sl kids =>
  obtain ⟨A, c, e⟩ := sl i hi
  have hk := kids i hi
  rw [e] at hk
  refine ⟨A, c, ?_, hk⟩
  rw [cell_of_row w b _ cur 59 (0, 0) row, Nat.zero_add]
  exact e
theorem markKs : ∀ (m : Nat) (ks : List Ex), Ex.sizeL ks ≤ m → m ≤ 1048577 → ∀ (A : Option Addr) (cap B : Nat) (k : Int) (w : World), 0 ≤ k ∧ k + 4 * (Ex.sizeL ks : Nat) ≤ 1000000000 → ShS w B A ks →
    CallsR Try.prog 60 [.slice A ks.length cap, .int .i64 k] w fun v w' => v = .int .i64 (k + 4 * (Ex.sizeL ks : Nat)) ∧ MkR B w w' := by
  intro m
  induction m with
  | zero =>
    intro ks hs _ A cap B k w hk h
    have hge := sizeL_ge ks
    obtain rfl : ks = [] := List.eq_nil_of_length_eq_zero (by omega)
    refine CallsR.enter Try.func60 (by decide +kernel) rfl Try.ntmps60 rfl ?_
    repeat' (first
      | refine EL.f (FV.assign rfl) rfl rfl ?_
      | refine EL.nil ?_
      | refine EW.seq ?_
      | refine EW.region ?_
      | refine EW.block ?_)
    refine EW.loop (X := Unit) (fun _ wr => wr = w) (fun _ => [(0, .slice A 0 cap), (1, .int .i64 k), (5, .int .i64 0)]) (fun _ => 0) () rfl ⟨rfl, rfl, rfl, trivial⟩ ?_
    rintro _ wr rfl
    repeat' (first
      | (show EL _ _ _ _ (_ :: _) _ _
         first
         | (show EL _ _ _ _ (⟨_, .move _, _, _, _, _⟩ :: _) _ _; refine EL.f (FV.move rfl) rfl rfl ?_)
         | (show EL _ _ _ _ (⟨_, .assign _, _, _, _, _⟩ :: _) _ _; refine EL.f (FV.assign rfl) rfl rfl ?_)
         | (show EL _ _ _ _ (⟨_, .call _, _, _, _, _⟩ :: _) _ _; refine EL.f (FV.len rfl rfl) rfl rfl ?_)
         | (show EL _ _ _ _ (⟨_, .binOp .lss _ _ _ _, _, _, _, _⟩ :: _) _ _; refine EL.fF (FV.lss rfl rfl) rfl (fun _ => rfl) (by omega) ?_))
      | refine EL.nil ?_
      | refine EW.seq ?_
      | refine EW.region ?_
      | refine EW.exit ?_
      | refine EW.ret ?_
      | refine EW.condF rfl ?_)
    exact ⟨_, rfl, by simp [Ex.sizeL], MkR.refl _ _⟩
  | succ m ih =>
    intro ks hs hm A cap B k w hk h
    have hge := sizeL_ge ks
    obtain ⟨b, rfl⟩ := h.at_
    refine CallsR.enter Try.func60 (by decide +kernel) rfl Try.ntmps60 rfl ?_
    repeat' (first
      | refine EL.f (FV.assign rfl) rfl rfl ?_
      | refine EL.nil ?_
      | refine EW.seq ?_
      | refine EW.region ?_
      | refine EW.block ?_)
    refine EW.loop (X := Nat) (fun i wr => i ≤ ks.length ∧ MkR B w wr) (fun i => [(0, .slice (some ⟨b, 0, none⟩) ks.length cap), (1, .int .i64 (k + 4 * (Ex.sizeL (ks.take i) : Nat))), (5, .int .i64 i)]) (fun i => ks.length - i) 0 ⟨Nat.zero_le _, MkR.refl _ _⟩ ⟨rfl, (show some (Value.int .i64 _) = some (Value.int .i64 _) from by congr 2; simp [Ex.sizeL]), rfl, trivial⟩ ?_
    rintro i wr ⟨hi, hR⟩
    by_cases hlt : i < ks.length
    rotate_left
    · obtain rfl : i = ks.length := by omega
      rw [List.take_length]
      repeat' (first
        | (show EL _ _ _ _ (_ :: _) _ _
           first
           | (show EL _ _ _ _ (⟨_, .move _, _, _, _, _⟩ :: _) _ _; refine EL.f (FV.move rfl) rfl rfl ?_)
           | (show EL _ _ _ _ (⟨_, .assign _, _, _, _, _⟩ :: _) _ _; refine EL.f (FV.assign rfl) rfl rfl ?_)
           | (show EL _ _ _ _ (⟨_, .call _, _, _, _, _⟩ :: _) _ _; refine EL.f (FV.len rfl rfl) rfl rfl ?_)
           | (show EL _ _ _ _ (⟨_, .binOp .lss _ _ _ _, _, _, _, _⟩ :: _) _ _; refine EL.fF (FV.lss rfl rfl) rfl (fun _ => rfl) (by omega) ?_))
        | refine EL.nil ?_
        | refine EW.seq ?_
        | refine EW.region ?_
        | refine EW.exit ?_
        | refine EW.ret ?_
        | refine EW.condF rfl ?_)
      exact ⟨_, rfl, rfl, hR⟩
    have hst := sizeL_take hlt
    have hkd := sizeL_kid hlt
    have hsz := size_kids (ks.getD i dEx)
    have h0 := ShS.mk_ hR h
    repeat' (first
      | (show EL _ _ _ _ (_ :: _) _ _
         first
         | (show EL _ _ _ _ (⟨_, .fieldAddr _ _ _, _, _, _, _⟩ :: _) _ _; refine EL.f (FV.fieldAddr rfl rfl rfl rfl rfl) rfl rfl ?_)
         | (show EL _ _ _ _ (⟨_, .indexAddr _ _ _, _, _, _, _⟩ :: _) _ _; refine EL.f (FV.idx rfl rfl rfl rfl (by omega) (by omega)) rfl rfl ?_)
         | (show EL _ _ _ _ (⟨_, .move _, _, _, _, _⟩ :: _) _ _; refine EL.f (FV.move rfl) rfl rfl ?_)
         | (show EL _ _ _ _ (⟨_, .call _, _, _, _, _⟩ :: _) _ _; refine EL.f (FV.len rfl rfl) rfl rfl ?_)
         | (show EL _ _ _ _ (⟨_, .binOp .lss _ _ _ _, _, _, _, _⟩ :: _) _ _; refine EL.fT (FV.lss rfl rfl) rfl (fun _ => rfl) (by omega) ?_))
      | refine EL.nil ?_
      | refine EW.seq ?_
      | refine EW.region ?_
      | refine EW.block ?_
      | refine EW.skip ?_
      | refine EW.condT rfl ?_)
    refine EL.h (Hv.storeK (i := i) (f := 0) h0 hlt (by decide) rfl rfl) rfl (fun _ => rfl) ?_
    rintro _ w1 hR1
    have h1 := ShS.mk_ hR1 h0
    repeat' (first
      | (show EL _ _ _ _ (_ :: _) _ _
         first
         | (show EL _ _ _ _ (⟨_, .fieldAddr _ _ _, _, _, _, _⟩ :: _) _ _; refine EL.f (FV.fieldAddr rfl rfl rfl rfl rfl) rfl rfl ?_)
         | (show EL _ _ _ _ (⟨_, .indexAddr _ _ _, _, _, _, _⟩ :: _) _ _; refine EL.f (FV.idx rfl rfl rfl rfl (by omega) (by omega)) rfl rfl ?_)
         | (show EL _ _ _ _ (⟨_, .move _, _, _, _, _⟩ :: _) _ _; refine EL.f (FV.move rfl) rfl rfl ?_)
         | (show EL _ _ _ _ (⟨_, .assign _, _, _, _, _⟩ :: _) _ _; refine EL.f (FV.assign rfl) rfl rfl ?_)
         | (show EL _ _ _ _ (⟨_, .binOp .add _ _ _ _, _, _, _, _⟩ :: _) _ _; refine EL.f (FV.addI rfl rfl (by omega)) rfl rfl ?_))
      | refine EL.nil ?_
      | refine EW.seq ?_
      | refine EW.region ?_)
    refine EL.h (Hv.storeK (i := i) (f := 1) h1 hlt (by decide) rfl rfl) rfl (fun _ => rfl) ?_
    rintro _ w2 hR2
    have h2 := ShS.mk_ hR2 h1
    repeat' (first
      | (show EL _ _ _ _ (_ :: _) _ _
         first
         | (show EL _ _ _ _ (⟨_, .fieldAddr _ _ _, _, _, _, _⟩ :: _) _ _; refine EL.f (FV.fieldAddr rfl rfl rfl rfl rfl) rfl rfl ?_)
         | (show EL _ _ _ _ (⟨_, .indexAddr _ _ _, _, _, _, _⟩ :: _) _ _; refine EL.f (FV.idx rfl rfl rfl rfl (by omega) (by omega)) rfl rfl ?_)
         | (show EL _ _ _ _ (⟨_, .move _, _, _, _, _⟩ :: _) _ _; refine EL.f (FV.move rfl) rfl rfl ?_)
         | (show EL _ _ _ _ (⟨_, .assign _, _, _, _, _⟩ :: _) _ _; refine EL.f (FV.assign rfl) rfl rfl ?_)
         | (show EL _ _ _ _ (⟨_, .binOp .add _ _ _ _, _, _, _, _⟩ :: _) _ _; refine EL.f (FV.addI rfl rfl (by omega)) rfl rfl ?_))
      | refine EL.nil ?_
      | refine EW.seq ?_
      | refine EW.region ?_)
    refine EL.h (Hv.storeK (i := i) (f := 2) h2 hlt (by decide) rfl rfl) rfl (fun _ => rfl) ?_
    rintro _ w3 hR3
    have h3 := ShS.mk_ hR3 h2
    repeat' (first
      | (show EL _ _ _ _ (_ :: _) _ _
         first
         | (show EL _ _ _ _ (⟨_, .fieldAddr _ _ _, _, _, _, _⟩ :: _) _ _; refine EL.f (FV.fieldAddr rfl rfl rfl rfl rfl) rfl rfl ?_)
         | (show EL _ _ _ _ (⟨_, .indexAddr _ _ _, _, _, _, _⟩ :: _) _ _; refine EL.f (FV.idx rfl rfl rfl rfl (by omega) (by omega)) rfl rfl ?_)
         | (show EL _ _ _ _ (⟨_, .move _, _, _, _, _⟩ :: _) _ _; refine EL.f (FV.move rfl) rfl rfl ?_)
         | (show EL _ _ _ _ (⟨_, .assign _, _, _, _, _⟩ :: _) _ _; refine EL.f (FV.assign rfl) rfl rfl ?_)
         | (show EL _ _ _ _ (⟨_, .binOp .add _ _ _ _, _, _, _, _⟩ :: _) _ _; refine EL.f (FV.addI rfl rfl (by omega)) rfl rfl ?_))
      | refine EL.nil ?_
      | refine EW.seq ?_
      | refine EW.region ?_)
    refine EL.h (Hv.storeK (i := i) (f := 3) h3 hlt (by decide) rfl rfl) rfl (fun _ => rfl) ?_
    rintro _ w4 hR4
    have h4 := ShS.mk_ hR4 h3
    obtain ⟨A', c', hc, hS'⟩ := h4.kid hlt
    repeat' (first
      | (show EL _ _ _ _ (_ :: _) _ _
         first
         | (show EL _ _ _ _ (⟨_, .fieldAddr _ _ _, _, _, _, _⟩ :: _) _ _; refine EL.f (FV.fieldAddr rfl rfl rfl rfl rfl) rfl rfl ?_)
         | (show EL _ _ _ _ (⟨_, .indexAddr _ _ _, _, _, _, _⟩ :: _) _ _; refine EL.f (FV.idx rfl rfl rfl rfl (by omega) (by omega)) rfl rfl ?_)
         | (show EL _ _ _ _ (⟨_, .load _ _, _, _, _, _⟩ :: _) _ _; refine EL.f (FV.load1 rfl rfl rfl (hc)) rfl rfl ?_)
         | (show EL _ _ _ _ (⟨_, .move _, _, _, _, _⟩ :: _) _ _; refine EL.f (FV.move rfl) rfl rfl ?_)
         | (show EL _ _ _ _ (⟨_, .assign _, _, _, _, _⟩ :: _) _ _; refine EL.f (FV.assign rfl) rfl rfl ?_)
         | (show EL _ _ _ _ (⟨_, .binOp .add _ _ _ _, _, _, _, _⟩ :: _) _ _; refine EL.f (FV.addI rfl rfl (by omega)) rfl rfl ?_))
      | refine EL.nil ?_
      | refine EW.seq ?_
      | refine EW.region ?_)
    refine EL.h (Hv.call (ih (ks.getD i dEx).kids (by omega) (by omega) A' c' B (k + 4 * (Ex.sizeL (ks.take i) : Nat) + 1 + 1 + 1 + 1) w4 (by omega) hS') rfl) rfl (fun _ => rfl) ?_
    rintro _ w5 ⟨rfl, hR5⟩
    repeat' (first
      | refine EL.f (FV.move rfl) rfl rfl ?_
      | refine EL.f (FV.assign rfl) rfl rfl ?_
      | refine EL.f (FV.addI rfl rfl (by omega)) rfl rfl ?_
      | refine EL.nil ?_
      | refine EW.region ?_)
    exact ⟨i + 1, ⟨rfl, (show some (Value.int .i64 _) = some (Value.int .i64 _) from by congr 2; omega), rfl, trivial⟩, ⟨by omega, ((((hR.trans hR1).trans hR2).trans hR3).trans hR4).trans hR5⟩, by omega⟩
theorem markExprC (e : Ex) (cs : List Value) (B : Nat) (k : Int) (w : World) (h : ShE w B cs e) (hs : Ex.sizeL e.kids ≤ 1048577) (hk : 0 ≤ k ∧ k + 4 * (Ex.sizeL e.kids : Nat) ≤ 1000000000) :
    CallsR Try.prog 26 [.agg cs.toArray, .int .i64 k] w fun v w' => v = .int .i64 (k + 4 * (Ex.sizeL e.kids : Nat)) ∧ ∃ w1, Ext w w1 ∧ MkR B w1 w' := by
  obtain ⟨a, b, c, d, A, cap, rfl, hS⟩ := h
  refine CallsR.enter Try.func26 (by decide +kernel) rfl Try.ntmps26 rfl ?_
  repeat' (first
    | refine EW.seq ?_
    | refine EW.region ?_)
  refine EL.h (Hv.boxA (sz := 5) rfl rfl) rfl (fun _ => rfl) ?_
  rintro _ w1 ⟨g1, rfl, hg1, hb, he1⟩
  repeat' (first
    | (show EL _ _ _ _ (_ :: _) _ _
       first
       | (show EL _ _ _ _ (⟨_, .fieldAddr _ _ _, _, _, _, _⟩ :: _) _ _; refine EL.f (FV.fieldAddr rfl rfl rfl rfl rfl) rfl rfl ?_)
       | (show EL _ _ _ _ (⟨_, .load _ _, _, _, _, _⟩ :: _) _ _; refine EL.f (FV.load1 rfl rfl rfl (At.cell hb rfl)) rfl rfl ?_)
       | (show EL _ _ _ _ (⟨_, .move _, _, _, _, _⟩ :: _) _ _; refine EL.f (FV.move rfl) rfl rfl ?_)
       | (show EL _ _ _ _ (⟨_, .assign _, _, _, _, _⟩ :: _) _ _; refine EL.f (FV.assign rfl) rfl rfl ?_))
    | refine EL.nil ?_
    | refine EW.seq ?_
    | refine EW.region ?_)
  refine EL.h (Hv.call (markKs 1048577 e.kids hs (Nat.le_refl _) A cap B k w1 hk (hS.ext he1)) rfl) rfl (fun _ => rfl) ?_
  rintro _ w2 ⟨rfl, hM⟩
  repeat' (first
    | refine EL.f (FV.move rfl) rfl rfl ?_
    | refine EL.f (FV.assign rfl) rfl rfl ?_
    | refine EL.nil ?_
    | refine EW.seq ?_
    | refine EW.region ?_
    | refine EW.ret ?_)
  exact ⟨_, rfl, rfl, w1, he1, hM⟩
end Eng
end Go.Proofs.Ytgahkbcfjibjaaa
