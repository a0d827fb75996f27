/- AdjointsOf, TapeReverse and TapeHessian: contracts. Conditions: the lengths. -/
import Derived.Test.YtfkohgfcchhlpaaTi
namespace Go.Proofs.Ytfkohgfcchhlpaa
open Go Go.RowKit
namespace Eng
theorem Only.cellE {w w' : World} {g b o : Nat} {e : TypeId} {f : Nat × Nat} {v : Value} (k : Only [some g] w w') (hE : w.heap[g]? = some (.cells #[] e f)) (hc : w.cell? ⟨b, o, none⟩ = some v) : w'.cell? ⟨b, o, none⟩ = some v := by
  have hlt := World.block_lt_of_cell? w _ hc
  refine (cell_of_block (k.block b hlt ?_)).trans hc
  intro hm
  obtain rfl : b = g := by simpa using hm
  simp [World.cell?, hE] at hc
section
variable {P : Program} [UTab P] {n : Nat} {ρ : Env} {dst : Option Tmp} {ty : TypeId} {pos : String} {af : Array Edge} {gd : Option (Nat × Bool)}
theorem Hv.build0E {w : World} {t e : TypeId} {z : Value} {size by_ : Nat} (ht : UTab.und P t = some (.slice e)) (hi : UTab.inf P e = some (z, size, by_)) :
    Hv P n ρ ⟨dst, .buildSlice t 0 #[], ty, pos, af, gd⟩ w (fun v w' => ∃ g, v = .slice (some ⟨g, 0, none⟩) 0 0 ∧ g = w.heap.size ∧ w'.heap[g]? = some (.cells #[] e (0, 0)) ∧ w'.ownsRow w.heap.size e size v 0 [] ∧ Ext w w') :=
  ⟨fun a ha K' Q' h => by
    obtain ⟨hs, _⟩ := run_inf hi w
    have hrun' : (execOp a.eval ⟨dst, .buildSlice t 0 #[], ty, pos, af, gd⟩).run P w = .ok (.value (.slice (some ⟨w.heap.size, 0, none⟩) 0 0)) (w.alloc (.cells #[] e)) := by
      simp [execOp, Instr.buildSlice, run_und ht, hs, Instr.fill, newRow, Array.range_zero']
    unfold Oper.wp
    rw [hrun']
    refine h _ _ ⟨_, rfl, rfl, heap_alloc_new w _, ⟨by simp, .inr ⟨w.heap.size, 0, #[], rfl, Nat.le_refl _, heap_alloc_new w _, Nat.le_refl _, Nat.zero_le _, by simp, by simp⟩⟩, Ext.alloc w _⟩⟩
end
theorem goodW_int (t : Tp) (ws : List Int) : (decide ((ws.length : Int) = (t.outs.length : Int)) && nums ws) = goodW t ws := by
  unfold goodW
  by_cases h : ws.length = t.outs.length
  · rw [decide_eq_true h, decide_eq_true (by omega)]
  · rw [decide_eq_false h, decide_eq_false (by omega)]
theorem implIsSwept (v : Value) (t : Tp) (A : Option Addr) (c : Nat) (xs : List Int) (C : Option Addr) (c2 : Nat) (ws : List Int) (D : Option Addr) (c3 : Nat) (ds : List Int) (w : World) (h : TapeV w v t) (hf : Fit t) (hx : Rd w A (ints xs)) (hn : xs.length ≤ 1048576) (hw : Rd w C (ints ws)) (hwn : ws.length ≤ 1048576) (hd : Rd w D (ints ds)) (hdn : ds.length ≤ 1048576) :
    CallsR Try.prog 154 [v, .slice A xs.length c, .slice C ws.length c2, .slice D ds.length c3] w fun r w' => r = .int .i64 (wC t xs ws ds) ∧ Ext w w' := by
  have hv := h
  obtain ⟨P, p, Q, q, R, r, rfl, r1, r2, r3⟩ := h
  have n3 := hf.o
  refine CallsR.enter Try.func154 (by decide +kernel) rfl Try.ntmps154 rfl ?_
  repeat' (first
    | refine EW.seq ?_
    | refine EW.region ?_)
  refine EL.h (Hv.boxA (sz := 4) rfl rfl) rfl (fun _ => rfl) ?_
  rintro _ w1 ⟨g1, rfl, hg1, hb, he1⟩
  repeat' (first
    | refine EL.f (FV.loadAgg (cs := [.int .i64 t.inputs, .slice P t.code.length p, .slice Q t.guards.length q, .slice R t.outs.length r]) rfl rfl rfl rfl rfl (fun _ e => e ▸ At.lies hb)) rfl rfl ?_
    | refine EL.f (FV.move rfl) rfl rfl ?_
    | refine EL.f (FV.assign rfl) rfl rfl ?_
    | refine EL.nil ?_
    | refine EW.seq ?_
    | refine EW.region ?_)
  refine EL.h (Hv.build2 rfl rfl rfl rfl rfl rfl) rfl (fun _ => rfl) ?_
  rintro _ w2 ⟨g2, rfl, h2, hg2, he2⟩
  have hw2 := he1.trans he2
  replace hb := At.ext hb he2
  skip
  refine EL.h (Hv.call (implIsRun _ t (some ⟨g2, 0, none⟩) 2 [xs, ds] w2 (hv.ext hw2) hf (Rows.two h2 (hx.ext hw2) (hd.ext hw2)) (by simp) (fun i hi => by simp only [List.length_cons, List.length_nil] at hi; rcases (show i = 0 ∨ i = 1 by omega) with rfl | rfl; exact hn; exact hdn)) rfl) rfl (fun _ => rfl) ?_
  rintro _ w3 ⟨rfl, he3⟩
  have hw3 := hw2.trans he3
  replace hb := At.ext hb he3
  by_cases hr : runC t [xs, ds] = 0
  rotate_left
  · have e2 : wC t xs ws ds = runC t [xs, ds] := by unfold wC; rw [if_neg hr]
    rw [e2]
    repeat' (first
      | (show EL _ _ _ _ (_ :: _) _ _
         first
         | (show EL _ _ _ _ (⟨_, _, _, _, _, some _⟩ :: _) _ _; refine EL.skip rfl rfl ?_)
         | (show EL _ _ _ _ (⟨_, .move _, _, _, _, _⟩ :: _) _ _; refine EL.f (FV.move rfl) rfl rfl ?_)
         | (show EL _ _ _ _ (⟨_, .assign _, _, _, _, _⟩ :: _) _ _; refine EL.f (FV.assign rfl) rfl rfl ?_)
         | (show EL _ _ _ _ (⟨_, .pick _ _ _, _, _, _, _⟩ :: _) _ _; refine EL.f (FV.pickF rfl rfl) rfl rfl ?_)
         | (show EL _ _ _ _ (⟨_, .binOp .eql _ _ _ _, _, _, _, _⟩ :: _) _ _; refine EL.fF (FV.eql rfl rfl) rfl (fun _ => rfl) (by omega) ?_))
      | refine EL.nil ?_
      | refine EW.seq ?_
      | refine EW.region ?_
      | refine EW.skip ?_
      | refine EW.ret ?_
      | refine EW.condF rfl ?_)
    exact ⟨_, rfl, rfl, hw3⟩
  have e2 : wC t xs ws ds = if goodW t ws = true then 0 else 2 := by unfold wC; rw [if_pos hr]
  rw [e2]
  repeat' (first
    | (show EL _ _ _ _ (_ :: _) _ _
       first
       | (show EL _ _ _ _ (⟨_, .fieldAddr _ _ _, _, _, _, _⟩ :: _) _ _; refine EL.f (FV.fieldAddr rfl rfl rfl rfl rfl) rfl rfl ?_)
       | (show EL _ _ _ _ (⟨_, .load _ _, _, _, _, _⟩ :: _) _ _; refine EL.f (FV.load1 rfl rfl rfl (At.cell hb rfl)) rfl rfl ?_)
       | (show EL _ _ _ _ (⟨_, .move _, _, _, _, _⟩ :: _) _ _; refine EL.f (FV.move rfl) rfl rfl ?_)
       | (show EL _ _ _ _ (⟨_, .assign _, _, _, _, _⟩ :: _) _ _; refine EL.f (FV.assign rfl) rfl rfl ?_)
       | (show EL _ _ _ _ (⟨_, .call _, _, _, _, _⟩ :: _) _ _; refine EL.f (FV.len rfl rfl) rfl rfl ?_)
       | (show EL _ _ _ _ (⟨_, .binOp .eql _ _ _ _, _, _, _, _⟩ :: _) _ _; refine EL.fT (FV.eql rfl rfl) rfl (fun _ => rfl) (by omega) ?_))
    | refine EL.nil ?_
    | refine EW.seq ?_
    | refine EW.region ?_)
  refine EL.h (Hv.call (implAreNumbers C c2 ws t.outs.length w3 (hw.ext hw3) (by omega)) rfl) rfl (fun _ => rfl) ?_
  rintro _ _ ⟨rfl, rfl⟩
  rw [goodW_int]
  cases gw : goodW t ws
  · repeat' (first
      | (show EL _ _ _ _ (_ :: _) _ _
         first
         | (show EL _ _ _ _ (⟨_, .move _, _, _, _, _⟩ :: _) _ _; refine EL.f (FV.move rfl) rfl rfl ?_)
         | (show EL _ _ _ _ (⟨_, .assign _, _, _, _, _⟩ :: _) _ _; refine EL.f (FV.assign rfl) rfl rfl ?_)
         | (show EL _ _ _ _ (⟨_, .unOp .not _ _, _, _, _, _⟩ :: _) _ _; refine EL.f (FV.not rfl) rfl rfl ?_)
         | (show EL _ _ _ _ (⟨_, .pick _ _ _, _, _, _, _⟩ :: _) _ _; refine EL.f (FV.pickT rfl rfl) rfl rfl ?_))
      | refine EL.nil ?_
      | refine EW.seq ?_
      | refine EW.region ?_
      | refine EW.ret ?_
      | refine EW.condT rfl ?_)
    exact ⟨_, rfl, rfl, hw3⟩
  · repeat' (first
      | (show EL _ _ _ _ (_ :: _) _ _
         first
         | (show EL _ _ _ _ (⟨_, .move _, _, _, _, _⟩ :: _) _ _; refine EL.f (FV.move rfl) rfl rfl ?_)
         | (show EL _ _ _ _ (⟨_, .assign _, _, _, _, _⟩ :: _) _ _; refine EL.f (FV.assign rfl) rfl rfl ?_)
         | (show EL _ _ _ _ (⟨_, .unOp .not _ _, _, _, _, _⟩ :: _) _ _; refine EL.f (FV.not rfl) rfl rfl ?_)
         | (show EL _ _ _ _ (⟨_, .pick _ _ _, _, _, _, _⟩ :: _) _ _; refine EL.f (FV.pickT rfl rfl) rfl rfl ?_))
      | refine EL.nil ?_
      | refine EW.seq ?_
      | refine EW.region ?_
      | refine EW.skip ?_
      | refine EW.ret ?_
      | refine EW.condF rfl ?_)
    exact ⟨_, rfl, by rw [hr]; rfl, hw3⟩
def SwOut (w : World) (r : List (List Int) × Int) (v : Value) (w' : World) : Prop := ∃ s, v = .tuple #[s, .int .i64 r.2] ∧ (r.2 = 0 → ∃ A c, s = .slice A r.1.length c ∧ Rows w' A r.1) ∧ Ext w w'
set_option maxHeartbeats 8000000 in
theorem implSwept (v : Value) (t : Tp) (A : Option Addr) (c : Nat) (xs : List Int) (C : Option Addr) (c2 : Nat) (ws : List Int) (D : Option Addr) (c3 : Nat) (ds : List Int) (w : World) (h : TapeV w v t) (hf : Fit t) (hx : Rd w A (ints xs)) (hn : xs.length ≤ 1048576) (hw : Rd w C (ints ws)) (hwn : ws.length ≤ 1048576) (hd : Rd w D (ints ds)) (hdn : ds.length ≤ 1048576) :
    CallsR Try.prog 112 [v, .slice A xs.length c, .slice C ws.length c2, .slice D ds.length c3] w (SwOut w (swR t xs ws ds 1)) := by
  have hv := h
  obtain ⟨P, p, Q, q, R, r, rfl, r1, r2, r3⟩ := h
  refine CallsR.enter Try.func112 (by decide +kernel) rfl Try.ntmps112 rfl ?_
  repeat' (first
    | refine EW.seq ?_
    | refine EW.region ?_)
  refine EL.h (Hv.boxA (sz := 4) rfl rfl) rfl (fun _ => rfl) ?_
  rintro _ w1 ⟨g1, rfl, hg1, hb, he1⟩
  repeat' (first
    | refine EL.f (FV.loadAgg (cs := [.int .i64 t.inputs, .slice P t.code.length p, .slice Q t.guards.length q, .slice R t.outs.length r]) rfl rfl rfl rfl rfl (fun _ e => e ▸ At.lies hb)) rfl rfl ?_
    | refine EL.f (FV.move rfl) rfl rfl ?_
    | refine EL.f (FV.assign rfl) rfl rfl ?_
    | refine EL.nil ?_
    | refine EW.seq ?_
    | refine EW.region ?_)
  refine EL.h (Hv.call (implIsSwept _ t A c xs C c2 ws D c3 ds w1 (hv.ext he1) hf (hx.ext he1) hn (hw.ext he1) hwn (hd.ext he1) hdn) rfl) rfl (fun _ => rfl) ?_
  rintro _ w3 ⟨rfl, he3⟩
  have hw3 := he1.trans he3
  replace hb := At.ext hb he3
  by_cases hc : wC t xs ws ds = 0
  rotate_left
  · repeat' (first
      | refine EL.f (FV.move rfl) rfl rfl ?_
      | refine EL.f (FV.assign rfl) rfl rfl ?_
      | refine EL.fT (FV.neq rfl rfl) rfl (fun _ => rfl) (by omega) ?_
      | refine EL.nil ?_
      | refine EW.seq ?_
      | refine EW.region ?_
      | refine EW.ret ?_
      | refine EW.condT rfl ?_)
    rw [swR_code hc]
    exact ⟨_, rfl, _, rfl, fun e => absurd e hc, hw3⟩
  obtain ⟨hr, hwl, hnw⟩ := wC_zero hc
  obtain ⟨ok, ⟨hl, hnum⟩, hld, hnd⟩ := runC_zero2 hr
  have hin := (okT_iff.1 ok).1
  have hcl := (okT_iff.1 ok).2.1
  repeat' (first
    | refine EL.f (FV.move rfl) rfl rfl ?_
    | refine EL.f (FV.assign rfl) rfl rfl ?_
    | refine EL.fF (FV.neq rfl rfl) rfl (fun _ => rfl) (by omega) ?_
    | refine EL.nil ?_
    | refine EW.seq ?_
    | refine EW.region ?_
    | refine EW.skip ?_
    | refine EW.condF rfl ?_)
  refine EW.draw (fun w' => Ext w3 w') [(0, true), (1, true), (2, true), (3, false), (4, false), (5, true), (6, true), (7, true), (8, true), (9, true)] mixed (by decide +kernel) (Ext.drew _) ?_
  repeat' (first
    | refine EP.f rfl (FV.loadAgg (cs := [.int .i64 t.inputs, .slice P t.code.length p, .slice Q t.guards.length q, .slice R t.outs.length r]) rfl rfl rfl rfl rfl (fun _ h' => (At.lies hb).ext h')) rfl rfl ?_
    | refine EP.f rfl (FV.move rfl) rfl rfl ?_)
  have ed := Ext.drew w3
  refine EP.h rfl rfl (Hv.call (implLines A D c c3 xs ds w3.drew (hx.ext (hw3.trans ed)) (hd.ext (hw3.trans ed)) (by omega) (by omega)) rfl) rfl (fun _ => rfl) ?_
  rintro s w4 ⟨hout, he4⟩
  have e34 := ed.trans he4
  refine ⟨e34, ?_⟩
  obtain ⟨A4, c4, rfl, hrows⟩ := hout.rows
  have hw4 := hw3.trans e34
  refine EP.h rfl rfl (Hv.call (implRegisters _ t A4 c4 (lineL xs ds 1) 1 w4 (hv.ext hw4) hf ok hrows (by rw [lineL_length]; exact hl) (lineL_good (by omega) hnum hnd) (by omega)) rfl) rfl (fun _ => rfl) ?_
  rintro res w5 hR
  have e35 := e34.trans hR.2
  refine ⟨e35, ?_⟩
  have hw5 := hw3.trans e35
  replace hb := At.ext hb e35
  unfold RegOut at hR
  cases e : regS t (lineL xs ds 1) (1 + 1) t.code.length with
  | none =>
    rw [e] at hR
    obtain ⟨⟨s, rfl⟩, _⟩ := hR
    repeat' (first
      | refine EP.nil ?_
      | refine EP.f rfl (FV.move rfl) rfl rfl ?_
      | refine EP.f rfl (FV.assign rfl) rfl rfl ?_
      | refine EP.f rfl (FV.extract rfl rfl) rfl rfl ?_)
    rw [swR_none hc e]
    repeat' (first
      | refine EL.f (FV.move rfl) rfl rfl ?_
      | refine EL.f (FV.assign rfl) rfl rfl ?_
      | refine EL.fT (FV.neq rfl rfl) rfl (fun _ => rfl) (by omega) ?_
      | refine EL.nil ?_
      | refine EW.seq ?_
      | refine EW.region ?_
      | refine EW.ret ?_
      | refine EW.condT rfl ?_)
    exact ⟨_, rfl, _, rfl, fun e => by simp at e, hw5⟩
  | some out =>
    rw [e] at hR
    obtain ⟨⟨s, rfl, ho⟩, _⟩ := hR
    obtain ⟨hol, hgo⟩ := regS_good ok (by rw [lineL_length]; exact hl) (lineL_good (j := 1) (by omega) hnum hnd) (Nat.le_refl _) e
    obtain ⟨A5, c5, rfl, hr5⟩ := ho.rows
    repeat' (first
      | refine EP.nil ?_
      | refine EP.f rfl (FV.move rfl) rfl rfl ?_
      | refine EP.f rfl (FV.assign rfl) rfl rfl ?_
      | refine EP.f rfl (FV.extract rfl rfl) rfl rfl ?_)
    rw [swR_some hc e]
    repeat' (first
      | refine EL.f (FV.loadAgg (cs := [.int .i64 t.inputs, .slice P t.code.length p, .slice Q t.guards.length q, .slice R t.outs.length r]) rfl rfl rfl rfl rfl (fun _ e => e ▸ At.lies hb)) rfl rfl ?_
      | refine EL.f (FV.move rfl) rfl rfl ?_
      | refine EL.fF (FV.neq rfl rfl) rfl (fun _ => rfl) (by omega) ?_
      | refine EL.nil ?_
      | refine EW.seq ?_
      | refine EW.region ?_
      | refine EW.skip ?_
      | refine EW.condF rfl ?_)
    refine EL.h (Hv.call (implAdjoints _ t A5 C c5 c2 out ws 1 w5 (hv.ext hw5) hf ok hr5 hol hgo (hw.ext hw5) hwl (by omega) hnw) rfl) rfl (fun _ => rfl) ?_
    rintro s6 w6 ⟨ho6, he6⟩
    repeat' (first
      | refine EL.f (FV.assign rfl) rfl rfl ?_
      | refine EL.nil ?_
      | refine EW.ret ?_)
    exact ⟨_, rfl, s6, rfl, fun _ => ho6.rows, hw5.trans he6⟩
set_option maxHeartbeats 8000000 in
theorem implByInputs (v : Value) (t : Tp) (A : Option Addr) (c : Nat) (adj : List (List Int)) (w : World) (h : TapeV w v t) (_hf : Fit t) (ok : okT t = true) (ha : Rows w A adj) (hal : adj.length = t.code.length) (hga : Good 2 adj) :
    CallsR Try.prog 115 [v, .slice A adj.length c] w fun r w' => OutR w.heap.size w' r (inS t adj t.code.length) ∧ Ext w w' := by
  obtain ⟨P, p, Q, q, R, r, rfl, r1, r2, r3⟩ := h
  have okc := (okT_iff.1 ok).2.2.2.2.1
  have hin := (okT_iff.1 ok).1
  have hcl := (okT_iff.1 ok).2.1
  have hou := (okT_iff.1 ok).2.2.2
  have hn0 : 0 < t.code.length := by have := hou.2.2.2 0 (by omega); omega
  rw [hal]
  obtain ⟨b8, o8, rfl, hadj⟩ := ha.all (by omega)
  obtain ⟨B0, c0, hc0, _⟩ := hadj 0 (by omega)
  have l0 := (hga 0 (by omega)).1
  rw [l0] at hc0
  refine CallsR.enter Try.func115 (by decide +kernel) rfl Try.ntmps115 rfl ?_
  repeat' (first
    | refine EW.seq ?_
    | refine EW.region ?_)
  refine EL.h (Hv.boxA (sz := 4) rfl rfl) rfl (fun _ => rfl) ?_
  rintro _ w1 ⟨g1, rfl, hg1, hb, he1⟩
  repeat' (first
    | refine EL.f (FV.assign rfl) rfl rfl ?_
    | refine EL.nil ?_
    | refine EW.seq ?_
    | refine EW.region ?_)
  refine EL.h (Hv.build0 rfl rfl) rfl (fun _ => rfl) ?_
  rintro s0 w2 ⟨ho2, he2⟩
  have hw2 := he1.trans he2
  have l1 := At.lt hb
  replace hb := At.ext hb he2
  repeat' (first
    | (show EL _ _ _ _ (_ :: _) _ _
       first
       | (show EL _ _ _ _ (⟨_, .fieldAddr _ _ _, _, _, _, _⟩ :: _) _ _; refine EL.f (FV.fieldAddr rfl rfl rfl rfl rfl) rfl rfl ?_)
       | (show EL _ _ _ _ (⟨_, .load _ _, _, _, _, _⟩ :: _) _ _; first | refine EL.f (FV.load1 rfl rfl rfl (At.cell hb rfl)) rfl rfl ?_ | refine EL.f (FV.load1 rfl rfl rfl (hw2.cell hc0)) rfl rfl ?_)
       | (show EL _ _ _ _ (⟨_, .move _, _, _, _, _⟩ :: _) _ _; refine EL.f (FV.move rfl) rfl rfl ?_)
       | (show EL _ _ _ _ (⟨_, .assign _, _, _, _, _⟩ :: _) _ _; refine EL.f (FV.assign rfl) rfl rfl ?_)
       | (show EL _ _ _ _ (⟨_, .call _, _, _, _, _⟩ :: _) _ _; refine EL.f (FV.len rfl rfl) rfl rfl ?_)
       | (show EL _ _ _ _ (⟨_, .binOp .gtr _ _ _ _, _, _, _, _⟩ :: _) _ _; refine EL.fT (FV.gtr rfl rfl) rfl (fun _ => rfl) (by omega) ?_)
       | (show EL _ _ _ _ (⟨_, .indexAddr _ _ _, _, _, _, _⟩ :: _) _ _; refine EL.f (FV.idx1 rfl rfl rfl rfl (by omega) (by omega)) rfl rfl ?_))
    | refine EL.nil ?_
    | refine EW.seq ?_
    | refine EW.region ?_
    | refine EW.block ?_
    | refine EW.condT rfl ?_)
  refine EW.loop (X := Nat × Value) (fun y wr => (y.1 : Int) ≤ t.inputs ∧ OutR w.heap.size wr y.2 (List.replicate y.1 (List.replicate 2 0)) ∧ At wr 32 4 g1 1 1 [.int .i64 t.inputs, .slice P t.code.length p, .slice Q t.guards.length q, .slice R t.outs.length r] ∧ Ext w wr) (fun y => [(1, .slice (some ⟨b8, o8, none⟩) t.code.length c), (2, .pointer (some ⟨g1, 0, none⟩)), (5, y.2), (6, .int .i64 2), (18, .int .i64 t.inputs), (19, .int .i64 y.1)]) (fun y => t.inputs.toNat - y.1) (0, s0) ⟨by simpa using hin.1, OutR.nil (own_lower ho2 he1.size), hb, hw2⟩ ⟨rfl, rfl, rfl, rfl, rfl, rfl, trivial⟩ ?_
  clear hb
  rintro ⟨k, s⟩ wr ⟨hk, hout, hb, he⟩
  dsimp only at *
  by_cases hlt : (k : Int) < t.inputs
  · repeat' (first
      | refine EL.f (FV.move rfl) rfl rfl ?_
      | refine EL.fT (FV.lss rfl rfl) rfl (fun _ => rfl) (by omega) ?_
      | refine EL.nil ?_
      | refine EW.seq ?_
      | refine EW.region ?_
      | refine EW.block ?_
      | refine EW.skip ?_
      | refine EW.condT rfl ?_)
    refine EL.h (Hv.make (m := 2) (kl := .i64) rfl rfl rfl rfl (by omega) (by omega)) rfl (fun _ => rfl) ?_
    rintro _ w3 ⟨g3, rfl, hg3, hat3, he3⟩
    rw [madeInts] at hat3
    have hrow : RowB w3 w.heap.size (.slice (some ⟨g3, 0, none⟩) 2 2) (List.replicate 2 0) := RowB.own (AtI.own' (B := 0) (xs := List.replicate 2 0) hat3 (by simp) (Nat.zero_le _))
    skip
    refine EL.h (Hv.build1A rfl rfl rfl rfl) rfl (fun _ => rfl) ?_
    rintro _ w4 ⟨g4, rfl, h4, hg4, he4⟩
    have e04 := (he.trans he3).trans he4
    have hbx := At.ext hb (he3.trans he4)
    have hox := hout.ext (he3.trans he4)
    skip
    refine EL.h (Hv.push rfl rfl (At.cell h4 rfl) hox (hrow.ext he4) (by rw [List.length_replicate]; omega) e04.size) rfl (fun _ => rfl) ?_
    rintro s9 w9 ⟨hout9, hgr9, hbl⟩
    repeat' (first
      | refine EL.f (FV.move rfl) rfl rfl ?_
      | refine EL.f (FV.assign rfl) rfl rfl ?_
      | refine EL.f (FV.addI rfl rfl (by omega)) rfl rfl ?_
      | refine EL.nil ?_
      | refine EW.region ?_)
    exact ⟨(k + 1, s9), ⟨rfl, rfl, rfl, rfl, rfl, rfl, trivial⟩, ⟨by dsimp only; omega, by rw [replicate_snoc]; exact hout9, At.kept hbx hgr9 (OutR.apart hox hbx (by decide)), Ext.after e04 hbl⟩, by dsimp only; omega⟩
  have hkk : k = t.inputs.toNat := by omega
  subst hkk
  repeat' (first
    | (show EL _ _ _ _ (_ :: _) _ _
       first
       | (show EL _ _ _ _ (⟨_, .fieldAddr _ _ _, _, _, _, _⟩ :: _) _ _; refine EL.f (FV.fieldAddr rfl rfl rfl rfl rfl) rfl rfl ?_)
       | (show EL _ _ _ _ (⟨_, .load _ _, _, _, _, _⟩ :: _) _ _; refine EL.f (FV.load1 rfl rfl rfl (At.cell hb rfl)) rfl rfl ?_)
       | (show EL _ _ _ _ (⟨_, .move _, _, _, _, _⟩ :: _) _ _; refine EL.f (FV.move rfl) rfl rfl ?_)
       | (show EL _ _ _ _ (⟨_, .call _, _, _, _, _⟩ :: _) _ _; refine EL.f (FV.len rfl rfl) rfl rfl ?_)
       | (show EL _ _ _ _ (⟨_, .binOp .lss _ _ _ _, _, _, _, _⟩ :: _) _ _; refine EL.fF (FV.lss rfl rfl) rfl (fun _ => rfl) (by omega) ?_))
    | refine EL.nil ?_
    | refine EW.seq ?_
    | refine EW.region ?_
    | refine EW.block ?_
    | refine EW.exit ?_
    | refine EW.condF rfl ?_)
  refine EW.loop (fun k wz => k ≤ t.code.length ∧ OutR w.heap.size wz s (inS t adj k) ∧ Ext w wz) (fun k => [(1, .slice (some ⟨b8, o8, none⟩) t.code.length c), (5, s), (28, .slice P t.code.length p), (29, .int .i64 t.code.length), (30, .int .i64 k)]) (fun k => t.code.length - k) 0 ⟨Nat.zero_le _, hout, he⟩ ⟨rfl, rfl, rfl, rfl, rfl, trivial⟩ ?_
  clear hout hb he
  rintro k wr ⟨hk, hout, he⟩
  by_cases hlt : k < t.code.length
  rotate_left
  · obtain rfl : k = t.code.length := by omega
    repeat' (first
      | refine EL.f (FV.move rfl) rfl rfl ?_
      | refine EL.f (FV.assign rfl) rfl rfl ?_
      | refine EL.fF (FV.lss rfl rfl) rfl (fun _ => rfl) (by omega) ?_
      | refine EL.nil ?_
      | refine EW.seq ?_
      | refine EW.region ?_
      | refine EW.exit ?_
      | refine EW.ret ?_
      | refine EW.condF rfl ?_)
    exact ⟨_, rfl, hout, he⟩
  obtain ⟨x1, p1, rfl, hp⟩ := Rd.elem insV_length (by decide) dIns (r1.ext he) hlt
  have okk := okc k hlt
  have hnext : inS t adj (k + 1) = if (t.code.getD k dIns).op = 1 then putL (inS t adj k) (t.code.getD k dIns).num (adj.getD k []) else inS t adj k := rfl
  have hgs := inS_good t adj k
  have hls := inS_length t adj k
  generalize t.code.getD k dIns = x at *
  repeat' (first
    | (show EL _ _ _ _ (_ :: _) _ _
       first
       | (show EL _ _ _ _ (⟨_, .indexAddr _ _ _, _, _, _, _⟩ :: _) _ _; refine EL.f (FV.idx rfl rfl rfl rfl (by omega) (by omega)) rfl rfl ?_)
       | (show EL _ _ _ _ (⟨_, .load _ _, _, _, _, _⟩ :: _) _ _; refine EL.f (FV.loadAgg (cs := insV x) rfl rfl rfl rfl rfl (fun _ e => hp.ext (e ▸ Ext.refl _))) rfl rfl ?_)
       | (show EL _ _ _ _ (⟨_, .move _, _, _, _, _⟩ :: _) _ _; refine EL.f (FV.move rfl) rfl rfl ?_)
       | (show EL _ _ _ _ (⟨_, .binOp .lss _ _ _ _, _, _, _, _⟩ :: _) _ _; refine EL.fT (FV.lss rfl rfl) rfl (fun _ => rfl) (by omega) ?_))
    | refine EL.nil ?_
    | refine EW.seq ?_
    | refine EW.region ?_
    | refine EW.block ?_
    | refine EW.skip ?_
    | refine EW.condT rfl ?_)
  refine EL.h (Hv.allocA rfl rfl) rfl (fun _ => rfl) ?_
  rintro _ w4 ⟨g4, rfl, hg4, h4, he4⟩
  repeat' (first
    | refine EL.f (FV.assign rfl) rfl rfl ?_)
  refine EL.h (Hv.storeAggG (vs := insV x) rfl rfl rfl rfl (insV_one _) h4 (Nat.le_refl _)) rfl (fun _ => rfl) ?_
  rintro _ w6 ⟨h5, hr5⟩
  have hw5 : Ext wr w6 := Below.wr he4 hr5 (by omega) (Nat.le_refl _)
  replace h5 : At w6 65 4 g4 1 1 (insV x) := h5
  have hW := he.trans hw5
  replace hout := hout.ext hw5
  by_cases o1 : x.op = 1
  · obtain ⟨on0, on1⟩ := okI_in okk o1
    obtain ⟨g, c9, rfl, hO⟩ := hout.outA (by rw [hls]; omega)
    rw [hls] at hO
    obtain ⟨Ar, cr, hcr, _, hrd⟩ := hO.get (i := x.num.toNat) (by omega)
    obtain ⟨Bk, ck, hck, hrk⟩ := hadj k (by omega)
    obtain ⟨lr, nr⟩ := hgs x.num.toNat (by omega)
    obtain ⟨lk, nk⟩ := hga k (by omega)
    rw [hls]
    repeat' (first
      | refine EL.f (FV.fieldAddr rfl rfl rfl rfl rfl) rfl rfl ?_
      | refine EL.f (FV.load1 rfl rfl rfl (At.cell h5 rfl)) rfl rfl ?_
      | refine EL.fT (FV.eql rfl rfl) rfl (fun _ => rfl) (by omega) ?_
      | refine EL.nil ?_
      | refine EW.seq ?_
      | refine EW.region ?_
      | refine EW.condT rfl ?_)
    refine EW.draw (fun w' => Ext w6 w') (pl 0 12 ++ [(12, false), (13, true), (14, false)]) mixed (by decide +kernel) (Ext.drew _) ?_
    repeat' (first
      | refine EP.f rfl (FV.fieldAddr rfl rfl rfl rfl rfl) rfl rfl ?_
      | refine EP.f rfl (FV.load rfl rfl rfl (fun w' h' => At.cell (At.ext h5 h') rfl)) rfl rfl ?_
      | refine EP.f rfl (FV.load rfl rfl rfl (fun w' h' => h'.cell hcr)) rfl rfl ?_
      | refine EP.f rfl (FV.load rfl rfl rfl (fun w' h' => (hW.trans h').cell hck)) rfl rfl ?_
      | refine EP.f rfl (FV.move rfl) rfl rfl ?_
      | refine EP.f rfl (FV.idx0 rfl rfl rfl rfl (by omega) (by omega)) rfl rfl ?_
      | refine EP.f rfl (FV.idx1 rfl rfl rfl rfl (by omega) (by omega)) rfl rfl ?_)
    have ed := Ext.drew w6
    refine EP.h rfl rfl (Hv.call (implAdded Ar Bk cr ck _ _ w6.drew (hrd.ext ed) ((hrk.ext hW).ext ed) (by omega) (by omega) nr nk) rfl) rfl (fun _ => rfl) ?_
    rintro v7 w7 ⟨hv7, he7⟩
    have e7 := ed.trans he7
    refine ⟨e7, ?_⟩
    repeat' (first
      | refine EP.f rfl (FV.idx0 rfl rfl rfl rfl (by omega) (by omega)) rfl rfl ?_)
    refine EP.last rfl rfl (by decide +kernel) (Hv.putRow rfl rfl (hO.ext e7) (by omega) (RowB.own hv7)) rfl (fun _ => rfl) ?_
    rintro _ w8 ⟨hO8, hon⟩
    repeat' (first
      | refine EL.f (FV.move rfl) rfl rfl ?_
      | refine EL.f (FV.addI rfl rfl (by omega)) rfl rfl ?_
      | refine EL.nil ?_
      | refine EW.region ?_)
    exact ⟨k + 1, ⟨rfl, rfl, rfl, rfl, rfl, trivial⟩, ⟨by omega, by rw [hnext, if_pos o1]; exact hO8.outR, Ext.only hW (Only.then_ e7 hon) hO.lo⟩, by omega⟩
  · repeat' (first
      | (show EL _ _ _ _ (_ :: _) _ _
         first
         | (show EL _ _ _ _ (⟨_, .fieldAddr _ _ _, _, _, _, _⟩ :: _) _ _; refine EL.f (FV.fieldAddr rfl rfl rfl rfl rfl) rfl rfl ?_)
         | (show EL _ _ _ _ (⟨_, .load _ _, _, _, _, _⟩ :: _) _ _; refine EL.f (FV.load1 rfl rfl rfl (At.cell h5 rfl)) rfl rfl ?_)
         | (show EL _ _ _ _ (⟨_, .move _, _, _, _, _⟩ :: _) _ _; refine EL.f (FV.move rfl) rfl rfl ?_)
         | (show EL _ _ _ _ (⟨_, .binOp .add _ _ _ _, _, _, _, _⟩ :: _) _ _; refine EL.f (FV.addI rfl rfl (by omega)) rfl rfl ?_)
         | (show EL _ _ _ _ (⟨_, .binOp .eql _ _ _ _, _, _, _, _⟩ :: _) _ _; refine EL.fF (FV.eql rfl rfl) rfl (fun _ => rfl) (by omega) ?_))
      | refine EL.nil ?_
      | refine EW.seq ?_
      | refine EW.region ?_
      | refine EW.skip ?_
      | refine EW.condF rfl ?_)
    exact ⟨k + 1, ⟨rfl, rfl, rfl, rfl, rfl, trivial⟩, ⟨by omega, by rw [hnext, if_neg o1]; exact hout, hW⟩, by omega⟩
set_option maxHeartbeats 8000000 in
theorem implAdjointsOfT (v : Value) (t : Tp) (A : Option Addr) (c : Nat) (xs : List Int) (C : Option Addr) (c2 : Nat) (ws : List Int) (w : World) (h : TapeV w v t) (hf : Fit t) (hx : Rd w A (ints xs)) (hn : xs.length ≤ 1048576) (hw : Rd w C (ints ws)) (hwn : ws.length ≤ 1048576) :
    CallsR Try.prog 55 [v, .slice A xs.length c, .slice C ws.length c2] w (SerOut w (fAdjoints t xs ws)) := by
  have hv := h
  obtain ⟨P, p, Q, q, R, r, rfl, r1, r2, r3⟩ := h
  refine CallsR.enter Try.func55 (by decide +kernel) rfl Try.ntmps55 rfl ?_
  repeat' (first
    | refine EW.seq ?_
    | refine EW.region ?_)
  refine EL.h (Hv.boxA (sz := 4) rfl rfl) rfl (fun _ => rfl) ?_
  rintro _ w1 ⟨g1, rfl, hg1, hb, he1⟩
  repeat' (first
    | refine EL.f (FV.loadAgg (cs := [.int .i64 t.inputs, .slice P t.code.length p, .slice Q t.guards.length q, .slice R t.outs.length r]) rfl rfl rfl rfl rfl (fun _ e => e ▸ At.lies hb)) rfl rfl ?_
    | refine EL.f (FV.move rfl) rfl rfl ?_
    | refine EL.f (FV.assign rfl) rfl rfl ?_
    | refine EL.nil ?_
    | refine EW.seq ?_
    | refine EW.region ?_)
  refine EL.h (Hv.call (implSwept _ t A c xs C c2 ws A c xs w1 (hv.ext he1) hf (hx.ext he1) hn (hw.ext he1) hwn (hx.ext he1) hn) rfl) rfl (fun _ => rfl) ?_
  rintro _ w2 ⟨s, rfl, ho, he2⟩
  have hw2 := he1.trans he2
  replace hb := At.ext hb he2
  unfold fAdjoints
  by_cases hz : (swR t xs ws xs 1).2 = 0
  rotate_left
  · repeat' (first
      | (show EL _ _ _ _ (_ :: _) _ _
         first
         | (show EL _ _ _ _ (⟨_, .move _, _, _, _, _⟩ :: _) _ _; refine EL.f (FV.move rfl) rfl rfl ?_)
         | (show EL _ _ _ _ (⟨_, .assign _, _, _, _, _⟩ :: _) _ _; refine EL.f (FV.assign rfl) rfl rfl ?_)
         | (show EL _ _ _ _ (⟨_, .extract _ _, _, _, _, _⟩ :: _) _ _; refine EL.f (FV.extract rfl rfl) rfl rfl ?_)
         | (show EL _ _ _ _ (⟨_, .binOp .neq _ _ _ _, _, _, _, _⟩ :: _) _ _; refine EL.fT (FV.neq rfl rfl) rfl (fun _ => rfl) (by omega) ?_))
      | refine EL.nil ?_
      | refine EW.seq ?_
      | refine EW.region ?_
      | refine EW.ret ?_
      | refine EW.condT rfl ?_)
    rw [if_neg hz]
    exact ⟨_, rfl, SerOut.nil' hw2⟩
  obtain ⟨ok, hl, hg⟩ := swR_zero hz
  have hcl := (okT_iff.1 ok).2.1
  have hin := (okT_iff.1 ok).1
  obtain ⟨A2, c4, rfl, hrow⟩ := ho hz
  rw [if_pos hz]
  repeat' (first
    | (show EL _ _ _ _ (_ :: _) _ _
       first
       | (show EL _ _ _ _ (⟨_, .move _, _, _, _, _⟩ :: _) _ _; refine EL.f (FV.move rfl) rfl rfl ?_)
       | (show EL _ _ _ _ (⟨_, .assign _, _, _, _, _⟩ :: _) _ _; refine EL.f (FV.assign rfl) rfl rfl ?_)
       | (show EL _ _ _ _ (⟨_, .extract _ _, _, _, _, _⟩ :: _) _ _; refine EL.f (FV.extract rfl rfl) rfl rfl ?_)
       | (show EL _ _ _ _ (⟨_, .binOp .neq _ _ _ _, _, _, _, _⟩ :: _) _ _; refine EL.fF (FV.neq rfl rfl) rfl (fun _ => rfl) (by omega) ?_))
    | refine EL.nil ?_
    | refine EW.seq ?_
    | refine EW.region ?_
    | refine EW.skip ?_
    | refine EW.condF rfl ?_)
  refine EL.h (Hv.call (implFirsts A2 c4 _ w2 hrow (fun i hi => by rw [(hg i hi).1]; omega) (by omega)) rfl) rfl (fun _ => rfl) ?_
  rintro v6 w6 ⟨ho6, he6⟩
  repeat' (first
    | refine EL.f (FV.assign rfl) rfl rfl ?_
    | refine EL.nil ?_
    | refine EW.ret ?_)
  exact ⟨_, rfl, v6, rfl, OwnI.lower ho6 hw2.size, hw2.trans he6⟩
set_option maxHeartbeats 8000000 in
theorem implTapeReverseT (v : Value) (t : Tp) (A : Option Addr) (c : Nat) (xs : List Int) (C : Option Addr) (c2 : Nat) (ws : List Int) (w : World) (h : TapeV w v t) (hf : Fit t) (hx : Rd w A (ints xs)) (hn : xs.length ≤ 1048576) (hw : Rd w C (ints ws)) (hwn : ws.length ≤ 1048576) :
    CallsR Try.prog 61 [v, .slice A xs.length c, .slice C ws.length c2] w (SerOut w (fReverse t xs ws)) := by
  have hv := h
  obtain ⟨P, p, Q, q, R, r, rfl, r1, r2, r3⟩ := h
  refine CallsR.enter Try.func61 (by decide +kernel) rfl Try.ntmps61 rfl ?_
  repeat' (first
    | refine EW.seq ?_
    | refine EW.region ?_)
  refine EL.h (Hv.boxA (sz := 4) rfl rfl) rfl (fun _ => rfl) ?_
  rintro _ w1 ⟨g1, rfl, hg1, hb, he1⟩
  repeat' (first
    | refine EL.f (FV.loadAgg (cs := [.int .i64 t.inputs, .slice P t.code.length p, .slice Q t.guards.length q, .slice R t.outs.length r]) rfl rfl rfl rfl rfl (fun _ e => e ▸ At.lies hb)) rfl rfl ?_
    | refine EL.f (FV.move rfl) rfl rfl ?_
    | refine EL.f (FV.assign rfl) rfl rfl ?_
    | refine EL.nil ?_
    | refine EW.seq ?_
    | refine EW.region ?_)
  refine EL.h (Hv.call (implSwept _ t A c xs C c2 ws A c xs w1 (hv.ext he1) hf (hx.ext he1) hn (hw.ext he1) hwn (hx.ext he1) hn) rfl) rfl (fun _ => rfl) ?_
  rintro _ w2 ⟨s, rfl, ho, he2⟩
  have hw2 := he1.trans he2
  replace hb := At.ext hb he2
  unfold fReverse
  by_cases hz : (swR t xs ws xs 1).2 = 0
  rotate_left
  · repeat' (first
      | (show EL _ _ _ _ (_ :: _) _ _
         first
         | (show EL _ _ _ _ (⟨_, .move _, _, _, _, _⟩ :: _) _ _; refine EL.f (FV.move rfl) rfl rfl ?_)
         | (show EL _ _ _ _ (⟨_, .assign _, _, _, _, _⟩ :: _) _ _; refine EL.f (FV.assign rfl) rfl rfl ?_)
         | (show EL _ _ _ _ (⟨_, .extract _ _, _, _, _, _⟩ :: _) _ _; refine EL.f (FV.extract rfl rfl) rfl rfl ?_)
         | (show EL _ _ _ _ (⟨_, .binOp .neq _ _ _ _, _, _, _, _⟩ :: _) _ _; refine EL.fT (FV.neq rfl rfl) rfl (fun _ => rfl) (by omega) ?_))
      | refine EL.nil ?_
      | refine EW.seq ?_
      | refine EW.region ?_
      | refine EW.ret ?_
      | refine EW.condT rfl ?_)
    rw [if_neg hz]
    exact ⟨_, rfl, SerOut.nil' hw2⟩
  obtain ⟨ok, hl, hg⟩ := swR_zero hz
  have hcl := (okT_iff.1 ok).2.1
  have hin := (okT_iff.1 ok).1
  obtain ⟨A2, c4, rfl, hrow⟩ := ho hz
  rw [if_pos hz]
  repeat' (first
    | (show EL _ _ _ _ (_ :: _) _ _
       first
       | (show EL _ _ _ _ (⟨_, .load _ _, _, _, _, _⟩ :: _) _ _; refine EL.f (FV.loadAgg (cs := [.int .i64 t.inputs, .slice P t.code.length p, .slice Q t.guards.length q, .slice R t.outs.length r]) rfl rfl rfl rfl rfl (fun _ e => e ▸ At.lies hb)) rfl rfl ?_)
       | (show EL _ _ _ _ (⟨_, .move _, _, _, _, _⟩ :: _) _ _; refine EL.f (FV.move rfl) rfl rfl ?_)
       | (show EL _ _ _ _ (⟨_, .assign _, _, _, _, _⟩ :: _) _ _; refine EL.f (FV.assign rfl) rfl rfl ?_)
       | (show EL _ _ _ _ (⟨_, .extract _ _, _, _, _, _⟩ :: _) _ _; refine EL.f (FV.extract rfl rfl) rfl rfl ?_)
       | (show EL _ _ _ _ (⟨_, .binOp .neq _ _ _ _, _, _, _, _⟩ :: _) _ _; refine EL.fF (FV.neq rfl rfl) rfl (fun _ => rfl) (by omega) ?_))
    | refine EL.nil ?_
    | refine EW.seq ?_
    | refine EW.region ?_
    | refine EW.skip ?_
    | refine EW.condF rfl ?_)
  refine EL.h (Hv.call (implByInputs _ t A2 c4 _ w2 (hv.ext hw2) hf ok hrow hl hg) rfl) rfl (fun _ => rfl) ?_
  rintro s3 w3 ⟨ho3, he3⟩
  have hw3 := hw2.trans he3
  have hgi := inS_good t (swR t xs ws xs 1).1 t.code.length
  have hli := inS_length t (swR t xs ws xs 1).1 t.code.length
  obtain ⟨A3, c5, rfl, hrow3⟩ := ho3.rows
  skip
  refine EL.h (Hv.call (implFirsts A3 c5 _ w3 hrow3 (fun i hi => by rw [(hgi i hi).1]; omega) (by omega)) rfl) rfl (fun _ => rfl) ?_
  rintro v6 w6 ⟨ho6, he6⟩
  replace ho6 : OwnI w3.heap.size w6 v6 (colL (inS t (swR t xs ws xs 1).1 t.code.length) 0) := ho6
  rw [col_in ok _ (by omega) _ (Nat.le_refl _)] at ho6
  repeat' (first
    | refine EL.f (FV.assign rfl) rfl rfl ?_
    | refine EL.nil ?_
    | refine EW.ret ?_)
  exact ⟨_, rfl, v6, rfl, OwnI.lower ho6 hw3.size, hw3.trans he6⟩
set_option maxHeartbeats 8000000 in
theorem implTapeHessianT (v : Value) (t : Tp) (A : Option Addr) (c : Nat) (xs : List Int) (C : Option Addr) (c2 : Nat) (ws : List Int) (D : Option Addr) (c3 : Nat) (ds : List Int) (w : World) (h : TapeV w v t) (hf : Fit t) (hx : Rd w A (ints xs)) (hn : xs.length ≤ 1048576) (hw : Rd w C (ints ws)) (hwn : ws.length ≤ 1048576) (hd : Rd w D (ints ds)) (hdn : ds.length ≤ 1048576) :
    CallsR Try.prog 59 [v, .slice A xs.length c, .slice C ws.length c2, .slice D ds.length c3] w (SerOut w (fHessian t xs ws ds)) := by
  have hv := h
  obtain ⟨P, p, Q, q, R, r, rfl, r1, r2, r3⟩ := h
  refine CallsR.enter Try.func59 (by decide +kernel) rfl Try.ntmps59 rfl ?_
  repeat' (first
    | refine EW.seq ?_
    | refine EW.region ?_)
  refine EL.h (Hv.boxA (sz := 4) rfl rfl) rfl (fun _ => rfl) ?_
  rintro _ w1 ⟨g1, rfl, hg1, hb, he1⟩
  repeat' (first
    | refine EL.f (FV.loadAgg (cs := [.int .i64 t.inputs, .slice P t.code.length p, .slice Q t.guards.length q, .slice R t.outs.length r]) rfl rfl rfl rfl rfl (fun _ e => e ▸ At.lies hb)) rfl rfl ?_
    | refine EL.f (FV.move rfl) rfl rfl ?_
    | refine EL.f (FV.assign rfl) rfl rfl ?_
    | refine EL.nil ?_
    | refine EW.seq ?_
    | refine EW.region ?_)
  refine EL.h (Hv.call (implSwept _ t A c xs C c2 ws D c3 ds w1 (hv.ext he1) hf (hx.ext he1) hn (hw.ext he1) hwn (hd.ext he1) hdn) rfl) rfl (fun _ => rfl) ?_
  rintro _ w2 ⟨s, rfl, ho, he2⟩
  have hw2 := he1.trans he2
  replace hb := At.ext hb he2
  unfold fHessian
  by_cases hz : (swR t xs ws ds 1).2 = 0
  rotate_left
  · repeat' (first
      | (show EL _ _ _ _ (_ :: _) _ _
         first
         | (show EL _ _ _ _ (⟨_, .move _, _, _, _, _⟩ :: _) _ _; refine EL.f (FV.move rfl) rfl rfl ?_)
         | (show EL _ _ _ _ (⟨_, .assign _, _, _, _, _⟩ :: _) _ _; refine EL.f (FV.assign rfl) rfl rfl ?_)
         | (show EL _ _ _ _ (⟨_, .extract _ _, _, _, _, _⟩ :: _) _ _; refine EL.f (FV.extract rfl rfl) rfl rfl ?_)
         | (show EL _ _ _ _ (⟨_, .binOp .neq _ _ _ _, _, _, _, _⟩ :: _) _ _; refine EL.fT (FV.neq rfl rfl) rfl (fun _ => rfl) (by omega) ?_))
      | refine EL.nil ?_
      | refine EW.seq ?_
      | refine EW.region ?_
      | refine EW.ret ?_
      | refine EW.condT rfl ?_)
    rw [if_neg hz]
    exact ⟨_, rfl, SerOut.nil' hw2⟩
  obtain ⟨ok, hl, hg⟩ := swR_zero hz
  have hcl := (okT_iff.1 ok).2.1
  have hin := (okT_iff.1 ok).1
  obtain ⟨A2, c4, rfl, hrow⟩ := ho hz
  rw [if_pos hz]
  repeat' (first
    | (show EL _ _ _ _ (_ :: _) _ _
       first
       | (show EL _ _ _ _ (⟨_, .move _, _, _, _, _⟩ :: _) _ _; refine EL.f (FV.move rfl) rfl rfl ?_)
       | (show EL _ _ _ _ (⟨_, .assign _, _, _, _, _⟩ :: _) _ _; refine EL.f (FV.assign rfl) rfl rfl ?_)
       | (show EL _ _ _ _ (⟨_, .extract _ _, _, _, _, _⟩ :: _) _ _; refine EL.f (FV.extract rfl rfl) rfl rfl ?_)
       | (show EL _ _ _ _ (⟨_, .binOp .neq _ _ _ _, _, _, _, _⟩ :: _) _ _; refine EL.fF (FV.neq rfl rfl) rfl (fun _ => rfl) (by omega) ?_))
    | refine EL.nil ?_
    | refine EW.seq ?_
    | refine EW.region ?_
    | refine EW.skip ?_
    | refine EW.condF rfl ?_)
  refine EL.h (Hv.build0E rfl rfl) rfl (fun _ => rfl) ?_
  rintro s9 w9 ⟨g9, rfl, hg9, hE9, ho9, he9⟩
  replace hw2 := hw2.trans he9
  replace hb := At.ext hb he9
  replace hrow := hrow.ext he9
  have hs2 := (he1.trans he2).size
  repeat' (first
    | refine EL.f (FV.loadAgg (cs := [.int .i64 t.inputs, .slice P t.code.length p, .slice Q t.guards.length q, .slice R t.outs.length r]) rfl rfl rfl rfl rfl (fun _ e => e ▸ At.lies hb)) rfl rfl ?_
    | refine EL.f (FV.move rfl) rfl rfl ?_
    | refine EL.f (FV.assign rfl) rfl rfl ?_
    | refine EL.nil ?_
    | refine EW.seq ?_
    | refine EW.region ?_)
  refine EL.h (Hv.call (implByInputs _ t A2 c4 _ w9 (hv.ext hw2) hf ok hrow hl hg) rfl) rfl (fun _ => rfl) ?_
  rintro s3 w3 ⟨ho3, he3⟩
  have hw3 := hw2.trans he3
  have hgi := inS_good t (swR t xs ws ds 1).1 t.code.length
  have hli := inS_length t (swR t xs ws ds 1).1 t.code.length
  obtain ⟨A3, c5, rfl, hrow3⟩ := ho3.rows
  have hco : mapR (fun k => ((inS t (swR t xs ws ds 1).1 t.code.length).getD k []).getD 1 0) t.inputs.toNat = inN t (swR t xs ws ds 1).1 1 t.code.length := by
    rw [← col_in ok _ (show 1 < 2 by omega) _ (Nat.le_refl _)]
    unfold colL
    rw [hli]
  generalize inS t (swR t xs ws ds 1).1 t.code.length = ys at *
  rw [hli]
  repeat' (first
    | refine EL.f (FV.move rfl) rfl rfl ?_
    | refine EL.f (FV.len rfl rfl) rfl rfl ?_
    | refine EL.nil ?_
    | refine EW.block ?_)
  have hE3 : w3.heap[g9]? = some (.cells #[] 2 (0, 0)) := (he3.block g9 (Array.getElem?_eq_some_iff.1 hE9).1).trans hE9
  refine EW.loop (X := Nat × Value) (fun y wr => y.1 ≤ t.inputs.toNat ∧ OwnI w.heap.size wr y.2 (mapR (fun k => (ys.getD k []).getD 1 0) y.1) ∧ (y.2.ownBlock = some g9 ∨ ∀ b, y.2.ownBlock = some b → w3.heap.size ≤ b) ∧ Only [some g9] w3 wr ∧ Ext w wr) (fun y => [(12, y.2), (29, .slice A3 t.inputs.toNat c5), (30, .int .i64 t.inputs.toNat), (31, .int .i64 y.1)]) (fun y => t.inputs.toNat - y.1) (0, .slice (some ⟨g9, 0, none⟩) 0 0) ⟨Nat.zero_le _, OwnI.ext (OwnI.lower ho9 hs2) he3, .inl rfl, Only.weak (Ext.refl _), hw3⟩ ⟨rfl, rfl, rfl, rfl, trivial⟩ ?_
  rintro ⟨k, s⟩ wr ⟨hk, hown, hblk, hon, he⟩
  dsimp only at *
  by_cases hlt : k < t.inputs.toNat
  rotate_left
  · obtain rfl : k = t.inputs.toNat := by omega
    rw [hco] at hown
    repeat' (first
      | refine EL.f (FV.move rfl) rfl rfl ?_
      | refine EL.f (FV.assign rfl) rfl rfl ?_
      | refine EL.fF (FV.lss rfl rfl) rfl (fun _ => rfl) (by omega) ?_
      | refine EL.nil ?_
      | refine EW.seq ?_
      | refine EW.region ?_
      | refine EW.exit ?_
      | refine EW.ret ?_
      | refine EW.condF rfl ?_)
    exact ⟨_, rfl, s, rfl, hown, he⟩
  obtain ⟨bo, oo, Br, cr, rfl, hco2, hrd⟩ := hrow3 k (by omega)
  have lk := (hgi k (by omega)).1
  obtain ⟨b1, o1, rfl, hc1⟩ := hrd.int (show 1 < (ys.getD k []).length by omega)
  repeat' (first
    | (show EL _ _ _ _ (_ :: _) _ _
       first
       | (show EL _ _ _ _ (⟨_, .load _ _, _, _, _, _⟩ :: _) _ _; first | refine EL.f (FV.load1 rfl rfl rfl (hon.cellE hE3 hco2)) rfl rfl ?_ | refine EL.f (FV.load1 rfl rfl rfl (hon.cellE hE3 hc1)) rfl rfl ?_)
       | (show EL _ _ _ _ (⟨_, .move _, _, _, _, _⟩ :: _) _ _; refine EL.f (FV.move rfl) rfl rfl ?_)
       | (show EL _ _ _ _ (⟨_, .assign _, _, _, _, _⟩ :: _) _ _; refine EL.f (FV.assign rfl) rfl rfl ?_)
       | (show EL _ _ _ _ (⟨_, .binOp .lss _ _ _ _, _, _, _, _⟩ :: _) _ _; refine EL.fT (FV.lss rfl rfl) rfl (fun _ => rfl) (by omega) ?_)
       | (show EL _ _ _ _ (⟨_, .indexAddr _ _ _, _, _, _, _⟩ :: _) _ _; refine EL.f (FV.idx1 rfl rfl rfl rfl (by omega) (by omega)) rfl rfl ?_))
    | refine EL.nil ?_
    | refine EW.seq ?_
    | refine EW.region ?_
    | refine EW.block ?_
    | refine EW.skip ?_
    | refine EW.condT rfl ?_)
  refine EL.h (Hv.build1A rfl rfl rfl rfl) rfl (fun _ => rfl) ?_
  rintro _ w4 ⟨g4, rfl, h4, hg4, he4⟩
  have e04 := he.trans he4
  have hown4 := mapR_row (OwnI.ext hown he4)
  skip
  refine EL.h (Hv.appendG (B := w.heap.size) (us := [.int .i64 ((ys.getD k []).getD 1 0)]) rfl rfl rfl rfl rfl rfl hown4 rfl (fun j u hj => At.cell h4 hj) (fun u hu => by simp at hu; subst hu; rfl) (by omega) (by omega) e04.size) rfl (fun _ => rfl) ?_
  rintro s8 w8 ⟨own8, gr8, bl8, at8⟩
  repeat' (first
    | refine EL.f (FV.move rfl) rfl rfl ?_
    | refine EL.f (FV.assign rfl) rfl rfl ?_
    | refine EL.f (FV.addI rfl rfl (by omega)) rfl rfl ?_
    | refine EL.nil ?_
    | refine EW.region ?_)
  have hsz := hon.size
  have hs4 := he4.size
  refine ⟨(k + 1, s8), ⟨rfl, rfl, rfl, rfl, trivial⟩, ⟨by dsimp only; omega, mapR_push own8, ?_, ?_, Ext.after e04 bl8⟩, by dsimp only; omega⟩
  · rcases at8 with e | e
    · rw [e]; exact hblk
    · right
      intro b hb'
      rw [e] at hb'
      injection hb' with hb'
      omega
  · have h1 := Only.fore hon he4
    refine ⟨gr8.os.trans h1.os, gr8.tape.trans h1.tape, gr8.output.trans h1.output, Nat.le_trans h1.size gr8.size, fun j hj hne => (gr8.block j (Nat.lt_of_lt_of_le hj h1.size) ?_).trans (h1.block j hj hne)⟩
    intro e
    rcases hblk with hq | hq
    · rw [hq] at e
      exact hne (by simp [e])
    · have := hq j e.symm
      omega
end Eng
end Go.Proofs.Ytfkohgfcchhlpaa
