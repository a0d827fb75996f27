/- Copies of programs with the shape of their rows; marks of programs. Conditions: the number of nodes. -/
import Derived.Test.YtgahkbcfjibjaaaPa
import Derived.Test.YtgahkbcfjibjaaaEm
import Derived.Test.YtgahkbcfjibjaaaMtg
namespace Go.Proofs.Ytgahkbcfjibjaaa
open Go Go.RowKit
namespace Eng
/-- A row of functions, from block B on, that nobody has frozen; where their results' slices lead. -/
def FsS (w : World) (B : Nat) (A : Option Addr) (ks : List Fu) : Prop := ∃ b cur, A = some ⟨b, 0, none⟩ ∧ B ≤ b ∧ w.heap[b]? = some (Obj.cells cur 92 (0, 0)) ∧ ks.length * 3 ≤ cur.size ∧
  ∀ i, i < ks.length → ∃ A' c, cur[i * 3 + 2]? = some (.slice A' (ks.getD i dFu).outs.length c) ∧ ShS w B A' (ks.getD i dFu).outs
theorem FsS.keep {w w' : World} {B : Nat} {A : Option Addr} {ks : List Fu} (hb : ∀ k, B ≤ k → k < w.heap.size → w'.heap[k]? = w.heap[k]?) (h : FsS w B A ks) : FsS w' B A ks := by
  obtain ⟨b, cur, rfl, h1, h2, h3, h4⟩ := h
  exact ⟨b, cur, rfl, h1, (hb b h1 (Array.getElem?_eq_some_iff.1 h2).1).trans h2, h3, fun i hi => by obtain ⟨A', c, e, hs⟩ := h4 i hi; exact ⟨A', c, e, hs.keep hb⟩⟩
theorem FsS.ext {w w' : World} {B : Nat} {A : Option Addr} {ks : List Fu} (h : FsS w B A ks) (he : Ext w w') : FsS w' B A ks := h.keep fun k _ hk => he.block k hk
theorem FsS.far {w w' : World} {B g : Nat} {A : Option Addr} {ks : List Fu} (h : FsS w B A ks) (hg : w.grownBy w' (some g)) (hB : g < B) : FsS w' B A ks := h.keep fun k hk hl => hg.block k hl (by intro q; injection q; omega)
theorem FsS.lower {w : World} {B B' : Nat} {A : Option Addr} {ks : List Fu} (h : FsS w B A ks) (hB : B' ≤ B) : FsS w B' A ks := by
  obtain ⟨b, cur, rfl, h1, h2, h3, h4⟩ := h
  exact ⟨b, cur, rfl, by omega, h2, h3, fun i hi => by obtain ⟨A', c, e, hs⟩ := h4 i hi; exact ⟨A', c, e, hs.lower hB⟩⟩
def FuO (w : World) (B : Nat) (cs : List Value) (f : Fu) : Prop := FuB w B cs f ∧ ∃ a b A cap, cs = [a, b, .slice A f.outs.length cap] ∧ ShS w B A f.outs
theorem FuO.len {w : World} {B : Nat} {cs : List Value} {f : Fu} (h : FuO w B cs f) : cs.length = 3 := h.1.len
theorem FuO.one {w : World} {B : Nat} {cs : List Value} {f : Fu} (h : FuO w B cs f) : ∀ v ∈ cs, v.oneCell' = true := h.1.one
theorem FuO.ext {w w' : World} {B : Nat} {cs : List Value} {f : Fu} (h : FuO w B cs f) (he : Ext w w') : FuO w' B cs f := by
  obtain ⟨h1, a, b, A, cap, e1, h2⟩ := h
  exact ⟨h1.ext he, a, b, A, cap, e1, h2.ext he⟩
theorem FuO.far {w w' : World} {B g : Nat} {cs : List Value} {f : Fu} (h : FuO w B cs f) (hg : w.grownBy w' (some g)) (hB : g < B) : FuO w' B cs f := by
  obtain ⟨h1, a, b, A, cap, e1, h2⟩ := h
  exact ⟨h1.far hg hB, a, b, A, cap, e1, h2.far hg hB⟩
theorem FuO.lower {w : World} {B B' : Nat} {cs : List Value} {f : Fu} (h : FuO w B cs f) (hB : B' ≤ B) : FuO w B' cs f := by
  obtain ⟨h1, a, b, A, cap, e1, h2⟩ := h
  exact ⟨h1.lower hB, a, b, A, cap, e1, h2.lower hB⟩
def FsO (w : World) (B : Nat) (A : Option Addr) (ks : List Fu) : Prop := FsB w B A ks ∧ FsS w B A ks
def PrS (w : World) (B : Nat) (cs : List Value) (p : Pr) : Prop := ∃ A cap, cs = [.slice A p.funcs.length cap] ∧ FsS w B A p.funcs
def PrO (w : World) (B : Nat) (cs : List Value) (p : Pr) : Prop := PrB w B cs p ∧ PrS w B cs p
theorem PrO.len {w : World} {B : Nat} {cs : List Value} {p : Pr} (h : PrO w B cs p) : cs.length = 1 := h.1.len
theorem PrO.one {w : World} {B : Nat} {cs : List Value} {p : Pr} (h : PrO w B cs p) : ∀ v ∈ cs, v.oneCell' = true := h.1.one
theorem PrO.ext {w w' : World} {B : Nat} {cs : List Value} {p : Pr} (h : PrO w B cs p) (he : Ext w w') : PrO w' B cs p := by
  obtain ⟨h1, A, cap, e1, h2⟩ := h
  exact ⟨h1.ext he, A, cap, e1, h2.ext he⟩
theorem PrO.far {w w' : World} {B g : Nat} {cs : List Value} {p : Pr} (h : PrO w B cs p) (hg : w.grownBy w' (some g)) (hB : g < B) : PrO w' B cs p := by
  obtain ⟨h1, A, cap, e1, h2⟩ := h
  exact ⟨h1.far hg hB, A, cap, e1, h2.far hg hB⟩
theorem PrO.lower {w : World} {B B' : Nat} {cs : List Value} {p : Pr} (h : PrO w B cs p) (hB : B' ≤ B) : PrO w B' cs p := by
  obtain ⟨h1, A, cap, e1, h2⟩ := h
  exact ⟨h1.lower hB, A, cap, e1, h2.lower hB⟩
theorem toFuncM (f : Fu) (hs : f.cnt ≤ 1048576) (cs : List Value) (w : World) (hx : FuB w 0 cs f) : CallsR Try.prog 75 [.agg cs.toArray] w fun v w' => ∃ ds, v = .agg ds.toArray ∧ FuO w' w.heap.size ds f ∧ Ext w w' := by
  obtain ⟨A, cap, rfl, hks, hnm⟩ := hx
  unfold Fu.cnt at hs
  refine CallsR.enterC Try.func75 (by decide +kernel) rfl Try.ntmps75 rfl rfl rfl rfl rfl ?_
  repeat' (first
    | refine EW.seq ?_
    | refine EW.region ?_)
  refine EL.h (Hv.boxA (sz := 3) rfl rfl) rfl (fun _ => rfl) ?_
  rintro _ w1 ⟨g1, rfl, hg1, hb, he1⟩
  skip
  refine EL.h (Hv.allocA rfl rfl) rfl (fun _ => rfl) ?_
  rintro _ w2 ⟨g2, rfl, hg2, h2, he2⟩
  repeat' (first
    | refine EL.nil ?_
    | refine EW.seq ?_
    | refine EW.region ?_)
  refine EL.h (Hv.allocA rfl rfl) rfl (fun _ => rfl) ?_
  rintro _ w3 ⟨g3, rfl, hg3, h3, he3⟩
  have s1 := he1.size
  have s2 := he2.size
  have l2 := At.lt h2
  replace hb := At.ext hb (he2.trans he3)
  replace h2 := At.ext h2 he3
  have n13 : g1 ≠ g3 := by have := At.lt hb; omega
  have n23 : g2 ≠ g3 := by omega
  have hw3 := (he1.trans he2).trans he3
  repeat' (first
    | refine EL.f (FV.fieldAddr rfl rfl rfl rfl rfl) rfl rfl ?_
    | refine EL.f (FV.load1 rfl rfl rfl (At.cell hb rfl)) rfl rfl ?_
    | refine EL.nil ?_
    | refine EW.seq ?_
    | refine EW.region ?_)
  refine EL.h (Hv.storeG rfl rfl rfl rfl rfl h3 rfl) rfl (fun _ => rfl) ?_
  rintro _ w4 ⟨h3', hr4⟩
  replace hb := At.kept hb hr4 (by simp; exact n13)
  replace h2 := At.kept h2 hr4 (by simp; exact n23)
  have hw4 : Ext w w4 := Below.wr hw3 hr4 (by omega) (Nat.le_refl _)
  clear h3
  have h3 := h3'
  clear h3'
  repeat' (first
    | refine EL.f (FV.fieldAddr rfl rfl rfl rfl rfl) rfl rfl ?_
    | refine EL.f (FV.load1 rfl rfl rfl (At.cell hb rfl)) rfl rfl ?_
    | refine EL.nil ?_
    | refine EW.seq ?_
    | refine EW.region ?_)
  refine EL.h (Hv.storeG rfl rfl rfl rfl rfl h3 rfl) rfl (fun _ => rfl) ?_
  rintro _ w5 ⟨h3', hr5⟩
  replace hb := At.kept hb hr5 (by simp; exact n13)
  replace h2 := At.kept h2 hr5 (by simp; exact n23)
  have hw5 : Ext w w5 := Below.wr hw4 hr5 (by omega) (Nat.le_refl _)
  clear h3
  have h3 := h3'
  clear h3'
  have l73 := At.lt h3
  repeat' (first
    | refine EL.f (FV.fieldAddr rfl rfl rfl rfl rfl) rfl rfl ?_
    | refine EL.f (FV.load1 rfl rfl rfl (At.cell hb rfl)) rfl rfl ?_
    | refine EL.nil ?_
    | refine EW.seq ?_
    | refine EW.region ?_)
  refine EL.h (Hv.call (toExprMS f.outs A cap w5 (hks.ext hw5) (by omega)) rfl) rfl (fun _ => rfl) ?_
  rintro _ w8 ⟨B, cap', rfl, hK, he8⟩
  replace h3 := At.ext h3 he8
  replace h2 := At.ext h2 he8
  have hw8 := hw5.trans he8
  have s7 := hw5.size
  have l37 := At.lt h3
  repeat' (first
    | refine EL.f (FV.fieldAddr rfl rfl rfl rfl rfl) rfl rfl ?_)
  refine EL.h (Hv.storeG rfl rfl rfl rfl rfl h3 rfl) rfl (fun _ => rfl) ?_
  rintro _ w9 ⟨h9, hr9⟩
  replace h9 : At w9 92 3 g3 1 1 [.string f.name, .int .i64 f.params, .slice B f.outs.length cap'] := h9
  replace h2 := At.kept h2 hr9 (by simp; exact n23)
  have hw9 : Ext w w9 := Below.wr hw8 hr9 (by omega) (Nat.le_refl _)
  have hX9 : FuO w9 w5.heap.size [.string f.name, .int .i64 f.params, .slice B f.outs.length cap'] f := FuO.far ⟨⟨B, cap', rfl, hK.1, hnm⟩, _, _, B, cap', rfl, hK.2⟩ hr9 l73
  repeat' (first
    | refine EL.f (FV.loadAgg (cs := [.string f.name, .int .i64 f.params, .slice B f.outs.length cap']) rfl rfl rfl rfl rfl (fun _ e => e ▸ At.lies h9)) rfl rfl ?_
    | refine EL.nil ?_
    | refine EW.seq ?_
    | refine EW.region ?_)
  refine EL.h (Hv.storeAggG (vs := [.string f.name, .int .i64 f.params, .slice B f.outs.length cap']) rfl rfl rfl rfl hX9.one h2 (Nat.le_refl _)) rfl (fun _ => rfl) ?_
  rintro _ wA ⟨hA, hrA⟩
  repeat' (first
    | refine EL.nil ?_
    | refine EW.ret ?_)
  exact ⟨g2, 0, [.string f.name, .int .i64 f.params, .slice B f.outs.length cap'], rfl, rfl, At.lies hA, _, rfl, (hX9.far hrA (by omega)).lower s7, Below.wr hw9 hrA (by omega) (Nat.le_refl _)⟩
theorem toFuncMS (ks : List Fu) (A : Option Addr) (cap : Nat) (w : World) (h : FsB w 0 A ks) (hs : fuL ks ≤ 1048576) :
    CallsR Try.prog 48 [.slice A ks.length cap] w fun v w' => ∃ B cap', v = .slice B ks.length cap' ∧ FsO w' w.heap.size B ks ∧ ks.length ≤ cap' ∧ Ext w w' := by
  have hn : ks.length ≤ 1048576 := Nat.le_trans (fuL_ge ks) hs
  refine CallsR.enter Try.func48 (by decide +kernel) rfl Try.ntmps48 rfl ?_
  repeat' (first
    | refine EL.f (FV.move rfl) rfl rfl ?_
    | refine EL.f (FV.assign rfl) rfl rfl ?_
    | refine EL.f (FV.len rfl rfl) rfl rfl ?_
    | refine EL.nil ?_
    | refine EW.seq ?_
    | refine EW.region ?_)
  refine EL.h (Hv.make (kl := .i64) rfl rfl rfl rfl (by omega) (by omega)) rfl (fun _ => rfl) ?_
  rintro _ w1 ⟨g, rfl, hg, hat, he1⟩
  rw [made_flat (f := Three.val) (s := 3) (fun x : Three => x.ok) z3 (Value.agg #[.string ByteArray.empty, .int .i64 0, .slice none 0 0]).cells rfl (by decide) ks.length] at hat
  repeat' (first
    | refine EL.f (FV.assign rfl) rfl rfl ?_
    | refine EL.nil ?_
    | refine EW.seq ?_
    | refine EW.region ?_
    | refine EW.block ?_)
  refine EW.loop (X := Nat) (fun i wr => i ≤ ks.length ∧ (∃ xs : List Three, xs.length = ks.length ∧ At wr 92 3 g ks.length ks.length (xs.flatMap Three.val) ∧ ∀ j, j < i → FuO wr (g + 1) (xs.getD j z3).val (ks.getD j dFu)) ∧ Ext w wr) (fun i => [(0, .slice A ks.length cap), (3, .slice (some ⟨g, 0, none⟩) ks.length ks.length), (4, .int .i64 i)]) (fun i => ks.length - i) 0 ⟨Nat.zero_le _, ⟨_, by simp, hat, fun j hj => by omega⟩, he1⟩ ⟨rfl, rfl, rfl, trivial⟩ ?_
  clear hat
  rintro i wr ⟨hi, ⟨xs, hxl, hat, hxs⟩, hE⟩
  by_cases hlt : i < ks.length
  · obtain ⟨b, o, cs, rfl, hL, hX, hc⟩ := (h.ext hE).kid hlt
    have hkd := fuL_kid hlt
    repeat' (first
      | (show EL _ _ _ _ (_ :: _) _ _
         first
         | (show EL _ _ _ _ (⟨_, .indexAddr _ _ _, _, _, _, _⟩ :: _) _ _; refine EL.f (FV.idx rfl rfl rfl rfl (by omega) (by omega)) rfl rfl ?_)
         | (show EL _ _ _ _ (⟨_, .load _ _, _, _, _, _⟩ :: _) _ _; refine EL.f (FV.loadAgg (cs := cs) rfl rfl rfl hc rfl (fun _ e => e ▸ hL)) rfl rfl ?_)
         | (show EL _ _ _ _ (⟨_, .move _, _, _, _, _⟩ :: _) _ _; refine EL.f (FV.move rfl) rfl rfl ?_)
         | (show EL _ _ _ _ (⟨_, .call _, _, _, _, _⟩ :: _) _ _; refine EL.f (FV.len rfl rfl) rfl rfl ?_)
         | (show EL _ _ _ _ (⟨_, .binOp .lss _ _ _ _, _, _, _, _⟩ :: _) _ _; refine EL.fT (FV.lss rfl rfl) rfl (fun _ => rfl) (by omega) ?_))
      | refine EL.nil ?_
      | refine EW.seq ?_
      | refine EW.region ?_
      | refine EW.block ?_
      | refine EW.skip ?_
      | refine EW.condT rfl ?_)
    refine EL.h (Hv.call (toFuncM _ (by omega) cs wr hX) rfl) rfl (fun _ => rfl) ?_
    rintro _ w2 ⟨ds, rfl, hds, he2⟩
    have hlg := At.lt hat
    have hat2 := At.ext hat he2
    have hroom := flat_room (f := Three.val) (s := 3) (fun x : Three => x.ok) ⟨ds, hds.len⟩ xs i (by omega)
    repeat' (first
      | refine EL.f (FV.idx rfl rfl rfl rfl (by omega) (by omega)) rfl rfl ?_)
    refine EL.h (Hv.storeAggG (vs := ds) rfl rfl rfl hds.len hds.one hat2 (by simpa using hroom)) rfl (fun _ => rfl) ?_
    rintro _ w3 ⟨hat3, hr3⟩
    have hE3 : Ext w w3 := Below.wr (hE.trans he2) hr3 (by omega) (Nat.le_refl _)
    have e3 := setL_flat (f := Three.val) (s := 3) (fun x : Three => x.ok) ⟨ds, hds.len⟩ xs i (by omega)
    rw [Nat.zero_add, show setL (xs.flatMap Three.val) ((i : Int).toNat * 3) ds = _ from e3] at hat3
    repeat' (first
      | refine EL.f (FV.move rfl) rfl rfl ?_
      | refine EL.f (FV.assign rfl) rfl rfl ?_
      | refine EL.f (FV.addI rfl rfl (by omega)) rfl rfl ?_
      | refine EL.nil ?_
      | refine EW.region ?_)
    refine ⟨i + 1, ⟨rfl, rfl, rfl, trivial⟩, ⟨by omega, ⟨_, by simpa using hxl, hat3, fun j hj => ?_⟩, hE3⟩, by omega⟩
    by_cases hji : j = i
    · subst hji
      rw [show (xs.set j ⟨ds, hds.len⟩).getD j z3 = ⟨ds, hds.len⟩ from by simp [List.getD_eq_getElem?_getD, show j < xs.length from by omega]]
      exact (hds.lower (by omega)).far hr3 (by omega)
    · rw [show (xs.set i ⟨ds, hds.len⟩).getD j z3 = xs.getD j z3 from by rw [List.getD_eq_getElem?_getD, List.getElem?_set_ne (Ne.symm hji), ← List.getD_eq_getElem?_getD]]
      exact ((hxs j (by omega)).ext he2).far hr3 (by omega)
  · obtain rfl : i = ks.length := by omega
    repeat' (first
      | (show EL _ _ _ _ (_ :: _) _ _
         first
         | (show EL _ _ _ _ (⟨_, .move _, _, _, _, _⟩ :: _) _ _; refine EL.f (FV.move rfl) rfl rfl ?_)
         | (show EL _ _ _ _ (⟨_, .assign _, _, _, _, _⟩ :: _) _ _; refine EL.f (FV.assign rfl) rfl rfl ?_)
         | (show EL _ _ _ _ (⟨_, .call _, _, _, _, _⟩ :: _) _ _; refine EL.f (FV.len rfl rfl) rfl rfl ?_)
         | (show EL _ _ _ _ (⟨_, .binOp .lss _ _ _ _, _, _, _, _⟩ :: _) _ _; refine EL.fF (FV.lss rfl rfl) rfl (fun _ => rfl) (by omega) ?_))
      | refine EL.nil ?_
      | refine EW.seq ?_
      | refine EW.region ?_
      | refine EW.exit ?_
      | refine EW.ret ?_
      | refine EW.condF rfl ?_)
    have hK : FsB wr w.heap.size (some ⟨g, 0, none⟩) ks := by
      refine ⟨by omega, fun i => (xs.getD i z3).val, fun i hi => ?_, fun i hi => (hxs i hi).1.lower (by omega)⟩
      refine ⟨g, 0, rfl, by omega, At.lt hat, ?_⟩
      exact (At.lies hat).part (flat_part (f := Three.val) (s := 3) (fun x : Three => x.ok) z3 xs i (by omega))
    have hS : FsS wr w.heap.size (some ⟨g, 0, none⟩) ks := by
      obtain ⟨cur, h1, h2, h3, h4, h5⟩ := hat.row
      have key : ∀ i, i < ks.length → cur[i * 3 + 2]? = (xs.getD i z3).val[2]? := fun i hi => by
        have hp := flat_part (f := Three.val) (s := 3) (fun x : Three => x.ok) z3 xs i (by omega)
        have e1 : (xs.flatMap Three.val)[i * 3 + 2]? = (xs.getD i z3).val[2]? := by
          rw [← hp, List.getElem?_take, if_pos (by decide), List.getElem?_drop]
        rw [← e1, ← h5, List.getElem?_take, if_pos (by omega), Array.getElem?_toList]
      refine ⟨g, cur, rfl, by omega, h1, by omega, fun i hi => ?_⟩
      obtain ⟨_, a, b, A', cap', e, hsh⟩ := hxs i hi
      exact ⟨A', cap', by rw [key i hi, e]; rfl, hsh.lower (by omega)⟩
    exact ⟨_, rfl, _, _, rfl, ⟨hK, hS⟩, Nat.le_refl _, hE⟩
theorem toProgramM (e : Pr) (hs : e.cnt ≤ 1048576) (cs : List Value) (w : World) (hx : PrB w 0 cs e) : CallsR Try.prog 17 [.agg cs.toArray] w fun v w' => ∃ ds, v = .agg ds.toArray ∧ PrO w' w.heap.size ds e ∧ Ext w w' := by
  obtain ⟨A, cap, rfl, hks, _⟩ := hx
  refine CallsR.enterC Try.func17 (by decide +kernel) rfl Try.ntmps17 rfl rfl rfl rfl rfl ?_
  repeat' (first
    | refine EW.seq ?_
    | refine EW.region ?_)
  refine EL.h (Hv.boxA (sz := 1) rfl rfl) rfl (fun _ => rfl) ?_
  rintro _ w1 ⟨g1, rfl, hg1, hb, he1⟩
  skip
  refine EL.h (Hv.allocA rfl rfl) rfl (fun _ => rfl) ?_
  rintro _ w2 ⟨g2, rfl, hg2, h2, he2⟩
  repeat' (first
    | refine EL.nil ?_
    | refine EW.seq ?_
    | refine EW.region ?_)
  refine EL.h (Hv.allocA rfl rfl) rfl (fun _ => rfl) ?_
  rintro _ w3 ⟨g3, rfl, hg3, h3, he3⟩
  have s1 := he1.size
  have s2 := he2.size
  have l2 := At.lt h2
  have l3 := At.lt h3
  replace hb := At.ext hb (he2.trans he3)
  replace h2 := At.ext h2 he3
  have n23 : g2 ≠ g3 := by omega
  have hw3 := (he1.trans he2).trans he3
  repeat' (first
    | refine EL.f (FV.fieldAddr rfl rfl rfl rfl rfl) rfl rfl ?_
    | refine EL.f (FV.load1 rfl rfl rfl (At.cell hb rfl)) rfl rfl ?_
    | refine EL.nil ?_
    | refine EW.seq ?_
    | refine EW.region ?_)
  refine EL.h (Hv.call (toFuncMS e.funcs A cap w3 (hks.ext hw3) hs) rfl) rfl (fun _ => rfl) ?_
  rintro _ w8 ⟨B, cap', rfl, hK, hcp, he8⟩
  replace h3 := At.ext h3 he8
  replace h2 := At.ext h2 he8
  have hw8 := hw3.trans he8
  have s7 := hw3.size
  repeat' (first
    | refine EL.f (FV.fieldAddr rfl rfl rfl rfl rfl) rfl rfl ?_)
  refine EL.h (Hv.storeG rfl rfl rfl rfl rfl h3 rfl) rfl (fun _ => rfl) ?_
  rintro _ w9 ⟨h9, hr9⟩
  replace h9 : At w9 47 1 g3 1 1 [.slice B e.funcs.length cap'] := h9
  replace h2 := At.kept h2 hr9 (by simp; exact n23)
  have hw9 : Ext w w9 := Below.wr hw8 hr9 (by omega) (Nat.le_refl _)
  have hX9 : PrO w9 w3.heap.size [.slice B e.funcs.length cap'] e := PrO.far ⟨⟨B, cap', rfl, hK.1, hcp⟩, B, cap', rfl, hK.2⟩ hr9 l3
  repeat' (first
    | refine EL.f (FV.loadAgg (cs := [.slice B e.funcs.length cap']) rfl rfl rfl rfl rfl (fun _ e => e ▸ At.lies h9)) rfl rfl ?_
    | refine EL.nil ?_
    | refine EW.seq ?_
    | refine EW.region ?_)
  refine EL.h (Hv.storeAggG (vs := [.slice B e.funcs.length cap']) rfl rfl rfl rfl hX9.one h2 (Nat.le_refl _)) rfl (fun _ => rfl) ?_
  rintro _ wA ⟨hA, hrA⟩
  repeat' (first
    | refine EL.nil ?_
    | refine EW.ret ?_)
  exact ⟨g2, 0, [.slice B e.funcs.length cap'], rfl, rfl, At.lies hA, _, rfl, (hX9.far hrA (by omega)).lower s7, Below.wr hw9 hrA (by omega) (Nat.le_refl _)⟩
/-! marks -/
/-- From block B on numbers in rows of expressions, names and numbers in rows of functions were written, and nothing else; what was there may have grown. -/
structure MkP (B : Nat) (w w' : World) : Prop where
  os : w'.os = w.os
  tape : w'.tape = w.tape
  output : w'.output = w.output
  size : w.heap.size ≤ w'.heap.size
  low : ∀ k : Nat, k < B → k < w.heap.size → w'.heap[k]? = w.heap[k]?
  other : ∀ k : Nat, k < w.heap.size → (∀ cur, w.heap[k]? ≠ some (Obj.cells cur 59 (0, 0))) → (∀ cur, w.heap[k]? ≠ some (Obj.cells cur 92 (0, 0))) → w'.heap[k]? = w.heap[k]?
  rows : ∀ (k : Nat) cur, w.heap[k]? = some (Obj.cells cur 59 (0, 0)) → ∃ cur', w'.heap[k]? = some (Obj.cells cur' 59 (0, 0)) ∧ cur'.size = cur.size ∧ ∀ j, j % 5 = 4 → cur'[j]? = cur[j]?
  funs : ∀ (k : Nat) cur, w.heap[k]? = some (Obj.cells cur 92 (0, 0)) → ∃ cur', w'.heap[k]? = some (Obj.cells cur' 92 (0, 0)) ∧ cur'.size = cur.size ∧ ∀ j, j % 3 = 2 → cur'[j]? = cur[j]?
theorem MkP.refl (B : Nat) (w : World) : MkP B w w := ⟨rfl, rfl, rfl, Nat.le_refl _, fun _ _ _ => rfl, fun _ _ _ _ => rfl, fun _ cur h => ⟨cur, h, rfl, fun _ _ => rfl⟩, fun _ cur h => ⟨cur, h, rfl, fun _ _ => rfl⟩⟩
theorem MkP.trans {B : Nat} {a b c : World} (h : MkP B a b) (k : MkP B b c) : MkP B a c := by
  have hs := h.size
  refine ⟨k.os.trans h.os, k.tape.trans h.tape, k.output.trans h.output, Nat.le_trans h.size k.size, fun i hi hl => (k.low i hi (by omega)).trans (h.low i hi hl), fun i hl hi hj => ?_, fun i cur hc => ?_, fun i cur hc => ?_⟩
  · have e := h.other i hl hi hj
    exact (k.other i (by omega) (fun cur hc => hi cur (e ▸ hc)) (fun cur hc => hj cur (e ▸ hc))).trans e
  · obtain ⟨c1, h1, h2, h3⟩ := h.rows i cur hc
    obtain ⟨c2, k1, k2, k3⟩ := k.rows i c1 h1
    exact ⟨c2, k1, k2.trans h2, fun j hj => (k3 j hj).trans (h3 j hj)⟩
  · obtain ⟨c1, h1, h2, h3⟩ := h.funs i cur hc
    obtain ⟨c2, k1, k2, k3⟩ := k.funs i c1 h1
    exact ⟨c2, k1, k2.trans h2, fun j hj => (k3 j hj).trans (h3 j hj)⟩
theorem MkP.of {B : Nat} {a b : World} (h : Ext a b) : MkP B a b := by
  refine ⟨h.os, h.tape, h.output, h.size, fun i _ hl => h.block i hl, fun i hl _ _ => h.block i hl, fun i cur hc => ⟨cur, ?_, rfl, fun _ _ => rfl⟩, fun i cur hc => ⟨cur, ?_, rfl, fun _ _ => rfl⟩⟩
  · exact (h.block i (Array.getElem?_eq_some_iff.1 hc).1).trans hc
  · exact (h.block i (Array.getElem?_eq_some_iff.1 hc).1).trans hc
theorem MkR.p {B : Nat} {a b : World} (h : MkR B a b) : MkP B a b := by
  refine ⟨h.os, h.tape, h.output, Nat.le_of_eq h.size.symm, fun i hi _ => h.low i hi, fun i _ hi _ => h.other i hi, h.rows, fun i cur hc => ⟨cur, (h.other i fun c2 h2 => ?_).trans hc, rfl, fun _ _ => rfl⟩⟩
  rw [hc] at h2
  injection h2 with h2
  injection h2 with _ h3 _
  revert h3
  decide
theorem MkP.ext {B : Nat} {u w w' : World} (h : Ext u w) (k : MkP B w w') (hB : u.heap.size ≤ B) : Ext u w' :=
  ⟨k.os.trans h.os, k.tape.trans h.tape, k.output.trans h.output, Nat.le_trans h.size k.size, fun i hi => (k.low i (by omega) (Nat.lt_of_lt_of_le hi h.size)).trans (h.block i hi)⟩
theorem ShS.mkp {B : Nat} {w w' : World} {A : Option Addr} {ks : List Ex} (k : MkP B w w') (h : ShS w B A ks) : ShS w' B A ks := by
  induction h with
  | mk b ks cur hB row room sl _ ih =>
    obtain ⟨cur', h1, h2, h3⟩ := k.rows b cur row
    refine .mk b ks cur' hB h1 (by omega) (fun i hi => ?_) (fun i hi => ?_)
    · rw [h3 _ (by omega)]; exact sl i hi
    · rw [h3 _ (by omega)]; exact ih i hi
theorem FsS.mkp {B : Nat} {w w' : World} {A : Option Addr} {ks : List Fu} (k : MkP B w w') (h : FsS w B A ks) : FsS w' B A ks := by
  obtain ⟨b, cur, rfl, h1, h2, h3, h4⟩ := h
  obtain ⟨cur', k1, k2, k3⟩ := k.funs b cur h2
  exact ⟨b, cur', rfl, h1, k1, by omega, fun i hi => by obtain ⟨A', c, e, hs⟩ := h4 i hi; exact ⟨A', c, by rw [k3 _ (by omega)]; exact e, hs.mkp k⟩⟩
theorem At.mkp {B : Nat} {w w' : World} {e sz g n c : Nat} {cs : List Value} (h : At w e sz g n c cs) (k : MkP B w w') (he : e ≠ 59 ∧ e ≠ 92) : At w' e sz g n c cs := by
  have hl := At.lt h
  obtain ⟨cur, h1, r⟩ := h.row
  refine ⟨h.len, cur, (k.other g hl (fun c2 h2 => ?_) fun c2 h2 => ?_).trans h1, r⟩
  · rw [h1] at h2; injection h2 with h2; injection h2 with _ h3 _; exact he.1 h3
  · rw [h1] at h2; injection h2 with h2; injection h2 with _ h3 _; exact he.2 h3
theorem own_mkp {B B' : Nat} {w w' : World} {e sz n : Nat} {v : Value} {cs : List Value} (h : w.ownsRow B' e sz v n cs) (k : MkP B w w') (he : e ≠ 59 ∧ e ≠ 92) : w'.ownsRow B' e sz v n cs := by
  refine ⟨h.1, ?_⟩
  rcases h.2 with h2 | ⟨g, cap, cur, hv, hb, h1, r⟩
  · exact .inl h2
  · refine .inr ⟨g, cap, cur, hv, hb, (k.other g (Array.getElem?_eq_some_iff.1 h1).1 (fun c2 h2 => ?_) fun c2 h2 => ?_).trans h1, r⟩
    · rw [h1] at h2; injection h2 with h2; injection h2 with _ h3 _; exact he.1 h3
    · rw [h1] at h2; injection h2 with h2; injection h2 with _ h3 _; exact he.2 h3
section
variable {n : Nat} {ρ : Env} {dst : Option Tmp} {ty : TypeId} {pos : String} {af : Array Edge} {gd : Option (Nat × Bool)}
/-- A name or a number is stored into the first two cells of a function. -/
theorem Hv.storeF {B : Nat} {w : World} {A : Option Addr} {b i f : Nat} {ks : List Fu} {x y : Operand} {t : TypeId} {z v : Value} {by_ : Nat} (hs : FsS w B A ks) (hA : A = some ⟨b, 0, none⟩) (ht : UTab.inf Try.prog t = some (z, 1, by_)) (hi : i < ks.length) (hf : f < 2) (hx : ev ρ x = some (.pointer (some ⟨b, 0 + i * 3 + f, none⟩))) (hy : ev ρ y = some v) (h1 : v.oneCell' = true) (hv : v.cells = #[v]) :
    Hv Try.prog n ρ ⟨none, .store t x y, ty, pos, af, gd⟩ w (fun _ w' => MkP B w w') := by
  obtain ⟨b', cur, e, hB, row, room, kids⟩ := hs
  obtain rfl : b' = b := by rw [hA] at e; injection e with e; injection e with e _ _; exact e.symm
  have hlt := (Array.getElem?_eq_some_iff.1 row).1
  have hj : 0 + i * 3 + f < cur.size := by omega
  have hc : w.cell? ⟨b', 0 + i * 3 + f, none⟩ = some (cur[0 + i * 3 + f]'hj) := by
    rw [cell_of_row w b' _ cur 92 (0, 0) row]
    simp
  have hfz : w.frozen? ⟨b', 0 + i * 3 + f, none⟩ = false := by simp [World.frozen?, row]
  refine (Hv.store (v := v) ht hx hy h1 hv hc hfz).mono fun _ w' hw => ?_
  subst hw
  have hnew : (w.setCell ⟨b', 0 + i * 3 + f, none⟩ v).heap[b']? = some (.cells (cur.setIfInBounds (0 + i * 3 + f) v) 92 (0, 0)) := by
    simp [World.setCell, Array.getElem?_modify, row]
  have hoth : ∀ j, j ≠ b' → (w.setCell ⟨b', 0 + i * 3 + f, none⟩ v).heap[j]? = w.heap[j]? := fun j hj => Below.heap_setCell w ⟨b', 0 + i * 3 + f, none⟩ _ j hj
  refine ⟨rfl, rfl, rfl, by simp [World.setCell], fun j hj _ => hoth j (by omega), fun j _ _ hj => hoth j fun e => hj cur (e ▸ row), fun j c2 h2 => ?_, fun j c2 h2 => ?_⟩
  · have e : j ≠ b' := by
      rintro rfl
      rw [row] at h2
      injection h2 with h2
      injection h2 with _ h3 _
      revert h3
      decide
    exact ⟨c2, (hoth j e).trans h2, rfl, fun _ _ => rfl⟩
  · by_cases e : j = b'
    · subst e
      rw [row] at h2
      injection h2 with h2
      injection h2 with h2 _ _
      subst h2
      refine ⟨_, hnew, by simp, fun q hq => ?_⟩
      rw [Array.getElem?_setIfInBounds_ne (by omega)]
    · exact ⟨c2, (hoth j e).trans h2, rfl, fun _ _ => rfl⟩
theorem FV.cat {S : World → Prop} {x y : Operand} {t u : TypeId} {b c : ByteArray} (hx : ev ρ x = some (.string b)) (hy : ev ρ y = some (.string c)) (hb : b.size + c.size ≤ 9223372036854775807) : FV Try.prog n S ρ ⟨dst, .binOp .add t x y u, ty, pos, af, gd⟩ (.string (b ++ c)) :=
  ⟨fun a ha w _ => by
    have : ¬ (((b.size + c.size : Nat) : Int) > IntKind.i64.max) := by
      have : IntKind.i64.max = 9223372036854775807 := by decide
      omega
    simp only [execOp, ha.eval hx, ha.eval hy, binOp, Op.stringOp, if_neg this]
    rfl⟩
/-- Bytes as a text. -/
theorem FV.text {S : World → Prop} {x : Operand} {s d e : TypeId} {b o c : Nat} {ns : List Int} (hs : UTab.und Try.prog s = some (.slice e)) (he : UTab.und Try.prog e = some (.int .u8)) (hd : UTab.und Try.prog d = some .string) (hx : ev ρ x = some (.slice (some ⟨b, o, none⟩) ns.length c)) (hc : ∀ w, S w → Lies w b o (ns.map (Value.int .u8))) :
    FV Try.prog n S ρ ⟨dst, .convert s d x, ty, pos, af, gd⟩ (.string (ns.foldl (fun r n => r.push (UInt8.ofNat n.toNat)) ByteArray.empty)) :=
  ⟨fun a ha w hw => by
    have h1 := run_convert_bytes_string (P := Try.prog) w s d e (some ⟨b, o, none⟩) ns.length c (UTab.und_ok _ _ hs) (UTab.und_ok _ _ he) (UTab.und_ok _ _ hd)
    have h2 := run_loadCells_list (P := Try.prog) w ⟨b, o, none⟩ (ns.map (Value.int .u8)) fun j v hj => by rw [addr_add]; exact hc w hw j v hj
    rw [List.length_map] at h2
    simp only [execOp, ha.eval hx, Sem.run_bind, h1, run_bytesToString w ⟨b, o, none⟩ ns.length c ns h2, Result.andThen_ok]
    rfl⟩
end
theorem wrap8 {p : Int} (h0 : 0 ≤ p) (h1 : p ≤ 255) : IntKind.u8.wrap p = p := by
  show (if (false && decide (p % 2 ^ 8 ≥ 2 ^ (8 - 1))) = true then p % 2 ^ 8 - 2 ^ 8 else p % 2 ^ 8) = p
  rw [Bool.false_and, if_neg (by decide)]
  omega
theorem markTextC (k : Int) (hk : 0 < k ∧ k ≤ 1000000000) (w : World) : CallsR Try.prog 78 [.int .i64 k] w fun v w' => ∃ s, v = .string s ∧ Ext w w' := by
  refine CallsR.enter Try.func78 (by decide +kernel) rfl Try.ntmps78 rfl ?_
  repeat' (first
    | refine EL.f (FV.move rfl) rfl rfl ?_
    | refine EL.f (FV.assign rfl) rfl rfl ?_
    | refine EL.fF (FV.leq rfl rfl) rfl (fun _ => rfl) (by omega) ?_
    | refine EL.nil ?_
    | refine EW.seq ?_
    | refine EW.region ?_
    | refine EW.block ?_
    | refine EW.skip ?_
    | refine EW.condF rfl ?_)
  refine EW.loop (X := Int × ByteArray) (fun y wr => 0 ≤ y.1 ∧ y.1 + (y.2.size : Int) ≤ 1000000000 ∧ Ext w wr) (fun y => [(0, .int .i64 y.1), (3, .string y.2)]) (fun y => y.1.toNat) (k, ByteArray.empty) ⟨by omega, by simp; omega, Ext.refl _⟩ ⟨rfl, rfl, trivial⟩ ?_
  rintro ⟨m, s⟩ wr ⟨h0, h1, hE⟩
  dsimp only at *
  by_cases hm : 0 < m
  · repeat' (first
      | (show EL _ _ _ _ (_ :: _) _ _
         first
         | (show EL _ _ _ _ (⟨_, .convert _ _ _, _, _, _, _⟩ :: _) _ _; refine EL.f (FV.conv (k := .u8) rfl rfl rfl (wrap8 (by omega) (by omega))) rfl rfl ?_)
         | (show EL _ _ _ _ (⟨_, .move _, _, _, _, _⟩ :: _) _ _; refine EL.f (FV.move rfl) rfl rfl ?_)
         | (show EL _ _ _ _ (⟨_, .binOp .add _ _ _ _, _, _, _, _⟩ :: _) _ _; refine EL.f (FV.addI rfl rfl (by omega)) rfl rfl ?_)
         | (show EL _ _ _ _ (⟨_, .binOp .rem _ _ _ _, _, _, _, _⟩ :: _) _ _; refine EL.f (FV.remI rfl rfl (by decide) (by omega)) rfl rfl ?_)
         | (show EL _ _ _ _ (⟨_, .binOp .gtr _ _ _ _, _, _, _, _⟩ :: _) _ _; refine EL.fT (FV.gtr rfl rfl) rfl (fun _ => rfl) (by omega) ?_))
      | refine EL.nil ?_
      | refine EW.seq ?_
      | refine EW.region ?_
      | refine EW.block ?_
      | refine EW.skip ?_
      | refine EW.condT rfl ?_)
    refine EL.h (Hv.build1S rfl rfl rfl rfl) rfl (fun _ => rfl) ?_
    rintro _ w1 ⟨g1, rfl, hat, hg, he1⟩
    repeat' (first
      | refine EL.f (FV.move rfl) rfl rfl ?_
      | refine EL.f (FV.assign rfl) rfl rfl ?_
      | refine EL.f (FV.quoI rfl rfl (by decide) (by omega)) rfl rfl ?_
      | refine EL.nil ?_
      | refine EL.f (FV.text (ns := [48 + m % 10]) rfl rfl rfl rfl (fun _ e => e ▸ At.lies hat)) rfl rfl ?_
      | (refine EL.f (FV.cat rfl rfl (by simp [ByteArray.size_push]; omega)) rfl rfl ?_)
      | refine EW.region ?_)
    exact ⟨(m / 10, _), ⟨rfl, rfl, trivial⟩, ⟨by dsimp only; omega, by dsimp only; simp [ByteArray.size_push]; omega, hE.trans he1⟩, by dsimp only; omega⟩
  · obtain rfl : m = 0 := by omega
    repeat' (first
      | refine EL.f (FV.move rfl) rfl rfl ?_
      | refine EL.f (FV.assign rfl) rfl rfl ?_
      | refine EL.fF (FV.gtr rfl rfl) rfl (fun _ => rfl) (by omega) ?_
      | refine EL.nil ?_
      | (refine EL.f (FV.cat rfl rfl (by have : (ByteArray.mk #[109]).size = 1 := rfl; omega)) rfl rfl ?_)
      | refine EW.seq ?_
      | refine EW.region ?_
      | refine EW.exit ?_
      | refine EW.ret ?_
      | refine EW.condF rfl ?_)
    exact ⟨_, rfl, _, rfl, hE⟩
theorem markFs (ks : List Fu) (A : Option Addr) (cap B : Nat) (k : Int) (w : World) (hn : fuL ks ≤ 1048577) (hk : 0 < k ∧ k ≤ 1000) (h : FsS w B A ks) :
    CallsR Try.prog 52 [.slice A ks.length cap, .int .i64 k] w fun v w' => (∃ m : Int, v = .int .i64 m ∧ 0 < m) ∧ MkP B w w' := by
  have hge := fuL_ge ks
  obtain ⟨b, cur, rfl, _⟩ := id h
  refine CallsR.enter Try.func52 (by decide +kernel) rfl Try.ntmps52 rfl ?_
  repeat' (first
    | refine EL.f (FV.assign rfl) rfl rfl ?_
    | refine EL.nil ?_
    | refine EW.seq ?_
    | refine EW.region ?_
    | refine EW.block ?_)
  refine EW.loop (X := Nat × Int) (fun y wr => y.1 ≤ ks.length ∧ (0 < y.2 ∧ y.2 ≤ 1000 + 4 * (fuL (ks.take y.1) : Nat)) ∧ MkP B w wr) (fun y => [(0, .slice (some ⟨b, 0, none⟩) ks.length cap), (1, .int .i64 y.2), (5, .int .i64 y.1)]) (fun y => ks.length - y.1) (0, k) ⟨Nat.zero_le _, ⟨hk.1, by simp [fuL]; omega⟩, MkP.refl _ _⟩ ⟨rfl, rfl, rfl, trivial⟩ ?_
  rintro ⟨i, j⟩ wr ⟨hi, ⟨hj0, hj⟩, hR⟩
  dsimp only at *
  by_cases hlt : i < ks.length
  rotate_left
  · obtain rfl : i = ks.length := by omega
    repeat' (first
      | (show EL _ _ _ _ (_ :: _) _ _
         first
         | (show EL _ _ _ _ (⟨_, .move _, _, _, _, _⟩ :: _) _ _; refine EL.f (FV.move rfl) rfl rfl ?_)
         | (show EL _ _ _ _ (⟨_, .assign _, _, _, _, _⟩ :: _) _ _; refine EL.f (FV.assign rfl) rfl rfl ?_)
         | (show EL _ _ _ _ (⟨_, .call _, _, _, _, _⟩ :: _) _ _; refine EL.f (FV.len rfl rfl) rfl rfl ?_)
         | (show EL _ _ _ _ (⟨_, .binOp .lss _ _ _ _, _, _, _, _⟩ :: _) _ _; refine EL.fF (FV.lss rfl rfl) rfl (fun _ => rfl) (by omega) ?_))
      | refine EL.nil ?_
      | refine EW.seq ?_
      | refine EW.region ?_
      | refine EW.exit ?_
      | refine EW.ret ?_
      | refine EW.condF rfl ?_)
    exact ⟨_, rfl, ⟨_, rfl, hj0⟩, hR⟩
  have hst := fuL_take hlt
  have hkd := fuL_kid hlt
  have hcn : (ks.getD i dFu).cnt = (ks.getD i dFu).name.size + Ex.sizeL (ks.getD i dFu).outs := rfl
  have h0 := FsS.mkp hR h
  repeat' (first
    | refine EL.f (FV.move rfl) rfl rfl ?_
    | refine EL.f (FV.len rfl rfl) rfl rfl ?_
    | refine EL.fT (FV.lss rfl rfl) rfl (fun _ => rfl) (by omega) ?_
    | refine EL.nil ?_
    | refine EW.seq ?_
    | refine EW.region ?_
    | refine EW.block ?_
    | refine EW.skip ?_
    | refine EW.condT rfl ?_)
  refine EL.h (Hv.call (markTextC j (by omega) wr) rfl) rfl (fun _ => rfl) ?_
  rintro _ w1 ⟨s, rfl, he1⟩
  have h1 := h0.ext he1
  repeat' (first
    | refine EL.f (FV.fieldAddr rfl rfl rfl rfl rfl) rfl rfl ?_
    | refine EL.f (FV.idx rfl rfl rfl rfl (by omega) (by omega)) rfl rfl ?_)
  refine EL.h (Hv.storeF (i := i) (f := 0) h1 rfl rfl hlt (by decide) rfl rfl rfl rfl) rfl (fun _ => rfl) ?_
  rintro _ w2 hR2
  have h2 := FsS.mkp hR2 h1
  repeat' (first
    | (show EL _ _ _ _ (_ :: _) _ _
       first
       | (show EL _ _ _ _ (⟨_, .fieldAddr _ _ _, _, _, _, _⟩ :: _) _ _; refine EL.f (FV.fieldAddr rfl rfl rfl rfl rfl) rfl rfl ?_)
       | (show EL _ _ _ _ (⟨_, .indexAddr _ _ _, _, _, _, _⟩ :: _) _ _; refine EL.f (FV.idx rfl rfl rfl rfl (by omega) (by omega)) rfl rfl ?_)
       | (show EL _ _ _ _ (⟨_, .move _, _, _, _, _⟩ :: _) _ _; refine EL.f (FV.move rfl) rfl rfl ?_)
       | (show EL _ _ _ _ (⟨_, .assign _, _, _, _, _⟩ :: _) _ _; refine EL.f (FV.assign rfl) rfl rfl ?_)
       | (show EL _ _ _ _ (⟨_, .binOp .add _ _ _ _, _, _, _, _⟩ :: _) _ _; refine EL.f (FV.addI rfl rfl (by omega)) rfl rfl ?_))
    | refine EL.nil ?_
    | refine EW.seq ?_
    | refine EW.region ?_)
  refine EL.h (Hv.storeF (i := i) (f := 1) h2 rfl rfl hlt (by decide) rfl rfl rfl rfl) rfl (fun _ => rfl) ?_
  rintro _ w3 hR3
  have h3 := FsS.mkp hR3 h2
  obtain ⟨b', cur', e', hB', row', room', kids'⟩ := id h3
  injection e' with e'
  injection e' with e' _ _
  subst e'
  obtain ⟨A', c', hc', hS'⟩ := kids' i hlt
  have hcell : w3.cell? ⟨b, 0 + i * 3 + 2, none⟩ = some (.slice A' (ks.getD i dFu).outs.length c') := by
    rw [cell_of_row w3 b _ cur' 92 (0, 0) row', Nat.zero_add]
    exact hc'
  repeat' (first
    | (show EL _ _ _ _ (_ :: _) _ _
       first
       | (show EL _ _ _ _ (⟨_, .fieldAddr _ _ _, _, _, _, _⟩ :: _) _ _; refine EL.f (FV.fieldAddr rfl rfl rfl rfl rfl) rfl rfl ?_)
       | (show EL _ _ _ _ (⟨_, .indexAddr _ _ _, _, _, _, _⟩ :: _) _ _; refine EL.f (FV.idx rfl rfl rfl rfl (by omega) (by omega)) rfl rfl ?_)
       | (show EL _ _ _ _ (⟨_, .load _ _, _, _, _, _⟩ :: _) _ _; refine EL.f (FV.load1 rfl rfl rfl (hcell)) rfl rfl ?_)
       | (show EL _ _ _ _ (⟨_, .move _, _, _, _, _⟩ :: _) _ _; refine EL.f (FV.move rfl) rfl rfl ?_)
       | (show EL _ _ _ _ (⟨_, .assign _, _, _, _, _⟩ :: _) _ _; refine EL.f (FV.assign rfl) rfl rfl ?_)
       | (show EL _ _ _ _ (⟨_, .binOp .add _ _ _ _, _, _, _, _⟩ :: _) _ _; refine EL.f (FV.addI rfl rfl (by omega)) rfl rfl ?_))
    | refine EL.nil ?_
    | refine EW.seq ?_
    | refine EW.region ?_)
  refine EL.h (Hv.call (markKs 1048577 (ks.getD i dFu).outs (by omega) (Nat.le_refl _) A' c' B (j + 1 + 1) w3 (by omega) hS') rfl) rfl (fun _ => rfl) ?_
  rintro _ w4 ⟨rfl, hR4⟩
  repeat' (first
    | refine EL.f (FV.move rfl) rfl rfl ?_
    | refine EL.f (FV.assign rfl) rfl rfl ?_
    | refine EL.f (FV.addI rfl rfl (by omega)) rfl rfl ?_
    | refine EL.nil ?_
    | refine EW.region ?_)
  exact ⟨(i + 1, _), ⟨rfl, rfl, rfl, trivial⟩, ⟨by dsimp only; omega, ⟨by dsimp only; omega, by dsimp only; omega⟩, ((((hR.trans (MkP.of he1)).trans hR2).trans hR3).trans hR4.p)⟩, by dsimp only; omega⟩
theorem markProgramC (e : Pr) (cs : List Value) (B : Nat) (k : Int) (w : World) (h : PrS w B cs e) (hs : e.cnt ≤ 1048577) (hk : 0 < k ∧ k ≤ 1000) :
    CallsR Try.prog 20 [.agg cs.toArray, .int .i64 k] w fun v w' => (∃ m : Int, v = .int .i64 m ∧ 0 < m) ∧ MkP B w w' := by
  obtain ⟨A, cap, rfl, hS⟩ := h
  refine CallsR.enter Try.func20 (by decide +kernel) rfl Try.ntmps20 rfl ?_
  repeat' (first
    | refine EW.seq ?_
    | refine EW.region ?_)
  refine EL.h (Hv.boxA (sz := 1) rfl rfl) rfl (fun _ => rfl) ?_
  rintro _ w1 ⟨g1, rfl, hg1, hb, he1⟩
  repeat' (first
    | (show EL _ _ _ _ (_ :: _) _ _
       first
       | (show EL _ _ _ _ (⟨_, .fieldAddr _ _ _, _, _, _, _⟩ :: _) _ _; refine EL.f (FV.fieldAddr rfl rfl rfl rfl rfl) rfl rfl ?_)
       | (show EL _ _ _ _ (⟨_, .load _ _, _, _, _, _⟩ :: _) _ _; refine EL.f (FV.load1 rfl rfl rfl (At.cell hb rfl)) rfl rfl ?_)
       | (show EL _ _ _ _ (⟨_, .move _, _, _, _, _⟩ :: _) _ _; refine EL.f (FV.move rfl) rfl rfl ?_)
       | (show EL _ _ _ _ (⟨_, .assign _, _, _, _, _⟩ :: _) _ _; refine EL.f (FV.assign rfl) rfl rfl ?_))
    | refine EL.nil ?_
    | refine EW.seq ?_
    | refine EW.region ?_)
  refine EL.h (Hv.call (markFs e.funcs A cap B k w1 hs hk (hS.ext he1)) rfl) rfl (fun _ => rfl) ?_
  rintro _ w2 ⟨⟨m, rfl, hm⟩, hM⟩
  repeat' (first
    | refine EL.f (FV.move rfl) rfl rfl ?_
    | refine EL.f (FV.assign rfl) rfl rfl ?_
    | refine EL.nil ?_
    | refine EW.seq ?_
    | refine EW.region ?_
    | refine EW.ret ?_)
  exact ⟨_, rfl, ⟨_, rfl, hm⟩, (MkP.of he1).trans hM⟩
end Eng
end Go.Proofs.Ytgahkbcfjibjaaa
