/- RegistersOf, RunTape and GuardsHold, in the program and in the reference. Conditions: the lengths. -/
import Derived.Test.YtfkohgfcchhlpaaTa
namespace Go.Proofs.Ytfkohgfcchhlpaa
open Go Go.RowKit
namespace Eng
def rowsOf (f : Nat → List Int) (n : Nat) : List (List Int) := (List.range n).map f
theorem rowsOf_length (f : Nat → List Int) (n : Nat) : (rowsOf f n).length = n := by simp [rowsOf]
theorem rowsOf_get (f : Nat → List Int) (n k : Nat) (h : k < n) : (rowsOf f n).getD k [] = f k := by simp [rowsOf, h]
theorem rowsOf_succ (f : Nat → List Int) (n : Nat) : rowsOf f (n + 1) = rowsOf f n ++ [f n] := by simp [rowsOf, List.range_succ]
/-- Element j of each row. -/
def colL (xss : List (List Int)) (j : Nat) : List Int := mapR (fun i => (xss.getD i []).getD j 0) xss.length
def pickL (xs at_ : List Int) : List Int := mapR (fun k => xs.getD (at_.getD k 0).toNat 0) at_.length
/-- The code of a tape and lists. -/
def goodR (inp : Int) (xs : List Int) : Bool := decide ((xs.length : Int) = inp) && nums xs
def runC (t : Tp) (xss : List (List Int)) : Int := if okT t = true then (if below xss.length (fun i => goodR t.inputs (xss.getD i [])) = true then 0 else 2) else 1
set_option maxHeartbeats 4000000 in
theorem implIsRun (v : Value) (t : Tp) (A : Option Addr) (c : Nat) (xss : List (List Int)) (w : World) (h : TapeV w v t) (hf : Fit t) (hr : Rows w A xss) (hn : xss.length ≤ 1048576) (hm : ∀ i, i < xss.length → (xss.getD i []).length ≤ 1048576) :
    CallsR Try.prog 92 [v, .slice A xss.length c] w fun r w' => r = .int .i64 (runC t xss) ∧ Ext w w' := by
  have hv := h
  obtain ⟨P, p, Q, q, R, r, rfl, r1, r2, r3⟩ := h
  refine CallsR.enter Try.func92 (by decide +kernel) rfl Try.ntmps92 rfl ?_
  repeat' (first
    | refine EW.seq ?_
    | refine EW.region ?_)
  refine EL.h (Hv.boxA (sz := 4) rfl rfl) rfl (fun _ => rfl) ?_
  rintro _ w1 ⟨g1, rfl, hg1, hb, he1⟩
  repeat' (first
    | refine EL.f (FV.loadAgg (cs := [.int .i64 t.inputs, .slice P t.code.length p, .slice Q t.guards.length q, .slice R t.outs.length r]) rfl rfl rfl rfl rfl (fun _ e => e ▸ At.lies hb)) rfl rfl ?_
    | refine EL.f (FV.assign rfl) rfl rfl ?_
    | refine EL.nil ?_
    | refine EW.seq ?_
    | refine EW.region ?_)
  refine EL.h (Hv.call (implValidTape _ t w1 (hv.ext he1) hf) rfl) rfl (fun _ => rfl) ?_
  rintro _ w2 ⟨rfl, he2⟩
  have hw2 := he1.trans he2
  replace hb := At.ext hb he2
  unfold runC
  cases ok : okT t
  · repeat' (first
      | refine EL.f (FV.assign rfl) rfl rfl ?_
      | refine EL.f (FV.not rfl) rfl rfl ?_
      | refine EL.nil ?_
      | refine EW.seq ?_
      | refine EW.region ?_
      | refine EW.ret ?_
      | refine EW.condT rfl ?_)
    exact ⟨_, rfl, rfl, hw2⟩
  rw [if_pos rfl]
  repeat' (first
    | refine EL.f (FV.move rfl) rfl rfl ?_
    | refine EL.f (FV.len rfl rfl) rfl rfl ?_
    | refine EL.f (FV.not rfl) rfl rfl ?_
    | refine EL.nil ?_
    | refine EW.seq ?_
    | refine EW.region ?_
    | refine EW.block ?_
    | refine EW.skip ?_
    | refine EW.condF rfl ?_)
  refine EW.loop (fun k wr => k ≤ xss.length ∧ (∀ i, i < k → goodR t.inputs (xss.getD i []) = true) ∧ w2 = wr) (fun k => [(2, .pointer (some ⟨g1, 0, none⟩)), (10, .slice A xss.length c), (11, .int .i64 xss.length), (12, .int .i64 k)]) (fun k => xss.length - k) 0 ⟨Nat.zero_le _, fun i h => absurd h (Nat.not_lt_zero _), rfl⟩ ⟨rfl, rfl, rfl, rfl, trivial⟩ ?_
  rintro k wr ⟨hk, hall, rfl⟩
  by_cases hlt : k < xss.length
  · obtain ⟨b, o, B, c2, rfl, hc, hx⟩ := (hr.ext hw2) k hlt
    repeat' (first
      | (show EL _ _ _ _ (_ :: _) _ _
         first
         | (show EL _ _ _ _ (⟨_, .fieldAddr _ _ _, _, _, _, _⟩ :: _) _ _; refine EL.f (FV.fieldAddr rfl rfl rfl rfl rfl) rfl rfl ?_)
         | (show EL _ _ _ _ (⟨_, .load _ _, _, _, _, _⟩ :: _) _ _; first | refine EL.f (FV.load1 rfl rfl rfl (At.cell hb rfl)) rfl rfl ?_ | refine EL.f (FV.load1 rfl rfl rfl hc) rfl rfl ?_)
         | (show EL _ _ _ _ (⟨_, .call _, _, _, _, _⟩ :: _) _ _; (refine EL.h (Hv.call (implAreNumbers B c2 _ _ w2 hx (by have := hm k hlt; omega)) rfl) rfl (fun _ => rfl) ?_; rintro _ _ ⟨rfl, rfl⟩))
         | (show EL _ _ _ _ (⟨_, .move _, _, _, _, _⟩ :: _) _ _; refine EL.f (FV.move rfl) rfl rfl ?_)
         | (show EL _ _ _ _ (⟨_, .assign _, _, _, _, _⟩ :: _) _ _; refine EL.f (FV.assign rfl) rfl rfl ?_)
         | (show EL _ _ _ _ (⟨_, .unOp .not _ _, _, _, _, _⟩ :: _) _ _; refine EL.f (FV.not rfl) rfl rfl ?_)
         | (show EL _ _ _ _ (⟨_, .binOp .lss _ _ _ _, _, _, _, _⟩ :: _) _ _; refine EL.fT (FV.lss rfl rfl) rfl (fun _ => rfl) (by omega) ?_)
         | (show EL _ _ _ _ (⟨_, .indexAddr _ _ _, _, _, _, _⟩ :: _) _ _; refine EL.f (FV.idx1 rfl rfl rfl rfl (by omega) (by omega)) rfl rfl ?_))
      | refine EL.nil ?_
      | refine EW.seq ?_
      | refine EW.region ?_
      | refine EW.block ?_
      | refine EW.skip ?_
      | refine EW.condT rfl ?_)
    cases ok2 : goodR t.inputs (xss.getD k [])
    · unfold goodR at ok2
      rw [ok2]
      repeat' (first
        | refine EL.f (FV.assign rfl) rfl rfl ?_
        | refine EL.nil ?_
        | refine EW.seq ?_
        | refine EW.region ?_
        | refine EW.ret ?_
        | refine EW.condT rfl ?_)
      exact ⟨_, rfl, by rw [if_neg (by rw [below_false hlt (by unfold goodR; exact ok2)]; decide)], hw2⟩
    · have ok3 := ok2
      unfold goodR at ok3
      rw [ok3]
      repeat' (first
        | refine EL.f (FV.move rfl) rfl rfl ?_
        | refine EL.f (FV.addI rfl rfl (by omega)) rfl rfl ?_
        | refine EL.nil ?_
        | refine EW.region ?_
        | refine EW.skip ?_
        | refine EW.condF rfl ?_)
      refine ⟨k + 1, ⟨rfl, rfl, rfl, rfl, trivial⟩, ⟨by omega, fun i hi => ?_, rfl⟩, by omega⟩
      by_cases hik : i = k
      · subst hik; exact ok2
      · exact hall i (by omega)
  · obtain rfl : k = xss.length := by omega
    repeat' (first
      | refine EL.f (FV.assign rfl) rfl rfl ?_
      | refine EL.fF (FV.lss rfl rfl) rfl (fun _ => rfl) (by omega) ?_
      | refine EL.nil ?_
      | refine EW.seq ?_
      | refine EW.region ?_
      | refine EW.exit ?_
      | refine EW.ret ?_
      | refine EW.condF rfl ?_)
    exact ⟨_, rfl, by rw [if_pos (below_true hall)], hw2⟩
theorem implSingles (A : Option Addr) (c : Nat) (xs : List Int) (w : World) (hx : Rd w A (ints xs)) (hn : xs.length ≤ 1000000) :
    CallsR Try.prog 94 [.slice A xs.length c] w fun v w' => OutR w.heap.size w' v (rowsOf (fun i => [xs.getD i 0]) xs.length) ∧ Ext w w' := by
  refine CallsR.enter Try.func94 (by decide +kernel) rfl Try.ntmps94 rfl ?_
  repeat' (first
    | refine EL.f (FV.assign rfl) rfl rfl ?_
    | refine EL.nil ?_
    | refine EW.seq ?_
    | refine EW.region ?_)
  refine EL.h (Hv.build0 rfl rfl) rfl (fun _ => rfl) ?_
  rintro s0 w1 ⟨ho, he1⟩
  repeat' (first
    | refine EL.f (FV.move rfl) rfl rfl ?_
    | refine EL.f (FV.assign rfl) rfl rfl ?_
    | refine EL.f (FV.len rfl rfl) rfl rfl ?_
    | refine EL.nil ?_
    | refine EW.seq ?_
    | refine EW.region ?_
    | refine EW.block ?_)
  refine EW.loop (X := Nat × Value) (fun q wr => q.1 ≤ xs.length ∧ OutR w.heap.size wr q.2 (rowsOf (fun i => [xs.getD i 0]) q.1) ∧ Ext w wr) (fun q => [(3, q.2), (7, .slice A xs.length c), (8, .int .i64 xs.length), (9, .int .i64 q.1)]) (fun q => xs.length - q.1) (0, s0) ⟨Nat.zero_le _, OutR.nil ho, he1⟩ ⟨rfl, rfl, rfl, rfl, trivial⟩ ?_
  rintro ⟨k, s⟩ wr ⟨hk, hout, he⟩
  dsimp only at *
  by_cases hlt : k < xs.length
  · obtain ⟨b, o, rfl, hc⟩ := (hx.ext he).int hlt
    repeat' (first
      | (show EL _ _ _ _ (_ :: _) _ _
         first
         | (show EL _ _ _ _ (⟨_, .move _, _, _, _, _⟩ :: _) _ _; refine EL.f (FV.move rfl) rfl rfl ?_)
         | (show EL _ _ _ _ (⟨_, .assign _, _, _, _, _⟩ :: _) _ _; refine EL.f (FV.assign rfl) rfl rfl ?_)
         | (show EL _ _ _ _ (⟨_, .binOp .lss _ _ _ _, _, _, _, _⟩ :: _) _ _; refine EL.fT (FV.lss rfl rfl) rfl (fun _ => rfl) (by omega) ?_)
         | (show EL _ _ _ _ (⟨_, .indexAddr _ _ _, _, _, _, _⟩ :: _) _ _; refine EL.f (FV.idx1 rfl rfl rfl rfl (by omega) (by omega)) rfl rfl ?_)
         | (show EL _ _ _ _ (⟨_, .load _ _, _, _, _, _⟩ :: _) _ _; refine EL.f (FV.load1 rfl rfl rfl (by assumption)) rfl rfl ?_))
      | refine EL.nil ?_
      | refine EW.seq ?_
      | refine EW.region ?_
      | refine EW.block ?_
      | refine EW.skip ?_
      | refine EW.condT rfl ?_)
    refine EL.h (Hv.build1A rfl rfl rfl rfl) rfl (fun _ => rfl) ?_
    rintro _ w2 ⟨g2, rfl, h2, hg2, he2⟩
    have hrow : RowB w2 w.heap.size (.slice (some ⟨g2, 0, none⟩) 1 1) [xs.getD k 0] := RowB.own (At.own (B := 0) (cs := ints [xs.getD k 0]) h2 (Nat.zero_le _))
    skip
    refine EL.h (Hv.build1A rfl rfl rfl rfl) rfl (fun _ => rfl) ?_
    rintro _ w3 ⟨g3, rfl, h3, hg3, he3⟩
    have e03 := (he.trans he2).trans he3
    skip
    refine EL.h (Hv.push rfl rfl (At.cell h3 rfl) (hout.ext (he2.trans he3)) (hrow.ext he3) (by rw [rowsOf_length]; omega) e03.size) rfl (fun _ => rfl) ?_
    rintro s9 w9 ⟨hout9, hgr, hbl⟩
    repeat' (first
      | refine EL.f (FV.move rfl) rfl rfl ?_
      | refine EL.f (FV.assign rfl) rfl rfl ?_
      | refine EL.f (FV.addI rfl rfl (by omega)) rfl rfl ?_
      | refine EL.nil ?_
      | refine EW.region ?_)
    exact ⟨(k + 1, s9), ⟨rfl, rfl, rfl, rfl, trivial⟩, ⟨by dsimp only; omega, by rw [rowsOf_succ]; exact hout9, Ext.after e03 hbl⟩, by dsimp only; omega⟩
  · obtain rfl : k = xs.length := by omega
    repeat' (first
      | refine EL.f (FV.move rfl) rfl rfl ?_
      | refine EL.f (FV.assign rfl) rfl rfl ?_
      | refine EL.fF (FV.lss rfl rfl) rfl (fun _ => rfl) (by omega) ?_
      | refine EL.nil ?_
      | refine EW.seq ?_
      | refine EW.region ?_
      | refine EW.exit ?_
      | refine EW.ret ?_
      | refine EW.condF rfl ?_)
    exact ⟨_, rfl, hout, he⟩
theorem mapR_nil (f : Nat → Int) : mapR f 0 = [] := rfl
theorem mapR_push {B : Nat} {w : World} {v : Value} {f : Nat → Int} {k : Nat} (h : w.ownsRow B 2 1 v (k + 1) (ints (mapR f k) ++ [.int .i64 (f k)])) : OwnI B w v (mapR f (k + 1)) := by
  unfold OwnI
  rw [mapR_length, mapR_succ, ints_append, ints_one]
  exact h
theorem mapR_row {B : Nat} {w : World} {v : Value} {f : Nat → Int} {k : Nat} (h : OwnI B w v (mapR f k)) : w.ownsRow B 2 1 v k (ints (mapR f k)) := by
  unfold OwnI at h
  rwa [mapR_length] at h

theorem implFirsts (A : Option Addr) (c : Nat) (xss : List (List Int)) (w : World) (hx : Rows w A xss) (h0 : ∀ i, i < xss.length → 0 < (xss.getD i []).length) (hn : xss.length ≤ 1000000) :
    CallsR Try.prog 95 [.slice A xss.length c] w fun v w' => OwnI w.heap.size w' v (mapR (fun k => (xss.getD k []).getD 0 0) xss.length) ∧ Ext w w' := by
  refine CallsR.enter Try.func95 (by decide +kernel) rfl Try.ntmps95 rfl ?_
  repeat' (first
    | refine EL.f (FV.assign rfl) rfl rfl ?_
    | refine EL.nil ?_
    | refine EW.seq ?_
    | refine EW.region ?_)
  refine EL.h (Hv.build0 rfl rfl) rfl (fun _ => rfl) ?_
  rintro s0 w1 ⟨ho, he1⟩
  repeat' (first
    | refine EL.f (FV.move rfl) rfl rfl ?_
    | refine EL.f (FV.assign rfl) rfl rfl ?_
    | refine EL.f (FV.len rfl rfl) rfl rfl ?_
    | refine EL.nil ?_
    | refine EW.seq ?_
    | refine EW.region ?_
    | refine EW.block ?_)
  refine EW.loop (X := Nat × Value) (fun q wr => q.1 ≤ xss.length ∧ OwnI w.heap.size wr q.2 (mapR (fun k => (xss.getD k []).getD 0 0) q.1) ∧ Ext w wr) (fun q => [(3, q.2), (7, .slice A xss.length c), (8, .int .i64 xss.length), (9, .int .i64 q.1)]) (fun q => xss.length - q.1) (0, s0) ⟨Nat.zero_le _, ho, he1⟩ ⟨rfl, rfl, rfl, rfl, trivial⟩ ?_
  rintro ⟨k, s⟩ wr ⟨hk, hout, he⟩
  dsimp only at *
  by_cases hlt : k < xss.length
  · obtain ⟨b, o, B, c2, rfl, hc, hrd⟩ := (hx.ext he) k hlt
    obtain ⟨b3, o3, rfl, hc3⟩ := hrd.int (h0 k hlt)
    have hl0 := h0 k hlt
    repeat' (first
      | (show EL _ _ _ _ (_ :: _) _ _
         first
         | (show EL _ _ _ _ (⟨_, .load _ _, _, _, _, _⟩ :: _) _ _; first | refine EL.f (FV.load1 rfl rfl rfl hc) rfl rfl ?_ | refine EL.f (FV.load1 rfl rfl rfl hc3) rfl rfl ?_)
         | (show EL _ _ _ _ (⟨_, .move _, _, _, _, _⟩ :: _) _ _; refine EL.f (FV.move rfl) rfl rfl ?_)
         | (show EL _ _ _ _ (⟨_, .assign _, _, _, _, _⟩ :: _) _ _; refine EL.f (FV.assign rfl) rfl rfl ?_)
         | (show EL _ _ _ _ (⟨_, .binOp .lss _ _ _ _, _, _, _, _⟩ :: _) _ _; refine EL.fT (FV.lss rfl rfl) rfl (fun _ => rfl) (by omega) ?_)
         | (show EL _ _ _ _ (⟨_, .indexAddr _ _ _, _, _, _, _⟩ :: _) _ _; refine EL.f (FV.idx1 rfl rfl rfl rfl (by omega) (by omega)) rfl rfl ?_))
      | refine EL.nil ?_
      | refine EW.seq ?_
      | refine EW.region ?_
      | refine EW.block ?_
      | refine EW.skip ?_
      | refine EW.condT rfl ?_)
    refine EL.h (Hv.build1A rfl rfl rfl rfl) rfl (fun _ => rfl) ?_
    rintro _ w3 ⟨g3, rfl, h3, hg3, he3⟩
    have e03 := he.trans he3
    have hown := mapR_row (OwnI.ext hout he3)
    skip
    refine EL.h (Hv.append1 (B := w.heap.size) rfl rfl rfl rfl rfl hown (At.cell h3 rfl) rfl (by omega) (by omega) e03.size) rfl (fun _ => rfl) ?_
    rintro s9 w9 ⟨hown9, _, hbl⟩
    repeat' (first
      | refine EL.f (FV.move rfl) rfl rfl ?_
      | refine EL.f (FV.assign rfl) rfl rfl ?_
      | refine EL.f (FV.addI rfl rfl (by omega)) rfl rfl ?_
      | refine EL.nil ?_
      | refine EW.region ?_)
    exact ⟨(k + 1, s9), ⟨rfl, rfl, rfl, rfl, trivial⟩, ⟨by dsimp only; omega, mapR_push hown9, Ext.after e03 hbl⟩, by dsimp only; omega⟩
  · obtain rfl : k = xss.length := by omega
    repeat' (first
      | refine EL.f (FV.move rfl) rfl rfl ?_
      | refine EL.f (FV.assign rfl) rfl rfl ?_
      | refine EL.fF (FV.lss rfl rfl) rfl (fun _ => rfl) (by omega) ?_
      | refine EL.nil ?_
      | refine EW.seq ?_
      | refine EW.region ?_
      | refine EW.exit ?_
      | refine EW.ret ?_
      | refine EW.condF rfl ?_)
    exact ⟨_, rfl, hout, he⟩

theorem specColumn (A : Option Addr) (c : Nat) (xss : List (List Int)) (j : Nat) (w : World) (hx : Rows w A xss) (h0 : ∀ i, i < xss.length → j < (xss.getD i []).length) (hn : xss.length ≤ 1000000) :
    CallsR Try.prog 101 [.slice A xss.length c, .int .i64 j] w fun v w' => OwnI w.heap.size w' v (mapR (fun k => (xss.getD k []).getD j 0) xss.length) ∧ Ext w w' := by
  refine CallsR.enter Try.func101 (by decide +kernel) rfl Try.ntmps101 rfl ?_
  repeat' (first
    | refine EL.f (FV.assign rfl) rfl rfl ?_
    | refine EL.nil ?_
    | refine EW.seq ?_
    | refine EW.region ?_)
  refine EL.h (Hv.build0 rfl rfl) rfl (fun _ => rfl) ?_
  rintro s0 w1 ⟨ho, he1⟩
  repeat' (first
    | refine EL.f (FV.assign rfl) rfl rfl ?_
    | refine EL.nil ?_
    | refine EW.seq ?_
    | refine EW.region ?_
    | refine EW.block ?_)
  refine EW.loop (X := Nat × Value) (fun q wr => q.1 ≤ xss.length ∧ OwnI w.heap.size wr q.2 (mapR (fun k => (xss.getD k []).getD j 0) q.1) ∧ Ext w wr) (fun q => [(5, q.2), (0, .slice A xss.length c), (1, .int .i64 j), (6, .int .i64 q.1)]) (fun q => xss.length - q.1) (0, s0) ⟨Nat.zero_le _, ho, he1⟩ ⟨rfl, rfl, rfl, rfl, trivial⟩ ?_
  rintro ⟨k, s⟩ wr ⟨hk, hout, he⟩
  dsimp only at *
  by_cases hlt : k < xss.length
  · obtain ⟨b, o, B, c2, rfl, hc, hrd⟩ := (hx.ext he) k hlt
    obtain ⟨b3, o3, rfl, hc3⟩ := hrd.int (h0 k hlt)
    have hl0 := h0 k hlt
    repeat' (first
      | (show EL _ _ _ _ (_ :: _) _ _
         first
         | (show EL _ _ _ _ (⟨_, .load _ _, _, _, _, _⟩ :: _) _ _; first | refine EL.f (FV.load1 rfl rfl rfl hc) rfl rfl ?_ | refine EL.f (FV.load1 rfl rfl rfl hc3) rfl rfl ?_)
         | (show EL _ _ _ _ (⟨_, .move _, _, _, _, _⟩ :: _) _ _; refine EL.f (FV.move rfl) rfl rfl ?_)
         | (show EL _ _ _ _ (⟨_, .call _, _, _, _, _⟩ :: _) _ _; refine EL.f (FV.len rfl rfl) rfl rfl ?_)
         | (show EL _ _ _ _ (⟨_, .binOp .lss _ _ _ _, _, _, _, _⟩ :: _) _ _; refine EL.fT (FV.lss rfl rfl) rfl (fun _ => rfl) (by omega) ?_)
         | (show EL _ _ _ _ (⟨_, .indexAddr _ _ _, _, _, _, _⟩ :: _) _ _; refine EL.f (FV.idx1 rfl rfl rfl rfl (by omega) (by omega)) rfl rfl ?_))
      | refine EL.nil ?_
      | refine EW.seq ?_
      | refine EW.region ?_
      | refine EW.block ?_
      | refine EW.skip ?_
      | refine EW.condT rfl ?_)
    refine EL.h (Hv.build1A rfl rfl rfl rfl) rfl (fun _ => rfl) ?_
    rintro _ w3 ⟨g3, rfl, h3, hg3, he3⟩
    have e03 := he.trans he3
    have hown := mapR_row (OwnI.ext hout he3)
    skip
    refine EL.h (Hv.append1 (B := w.heap.size) rfl rfl rfl rfl rfl hown (At.cell h3 rfl) rfl (by omega) (by omega) e03.size) rfl (fun _ => rfl) ?_
    rintro s9 w9 ⟨hown9, _, hbl⟩
    repeat' (first
      | refine EL.f (FV.move rfl) rfl rfl ?_
      | refine EL.f (FV.assign rfl) rfl rfl ?_
      | refine EL.f (FV.addI rfl rfl (by omega)) rfl rfl ?_
      | refine EL.nil ?_
      | refine EW.region ?_)
    exact ⟨(k + 1, s9), ⟨rfl, rfl, rfl, rfl, trivial⟩, ⟨by dsimp only; omega, mapR_push hown9, Ext.after e03 hbl⟩, by dsimp only; omega⟩
  · obtain rfl : k = xss.length := by omega
    repeat' (first
      | (show EL _ _ _ _ (_ :: _) _ _
         first
         | (show EL _ _ _ _ (⟨_, .move _, _, _, _, _⟩ :: _) _ _; refine EL.f (FV.move rfl) rfl rfl ?_)
         | (show EL _ _ _ _ (⟨_, .assign _, _, _, _, _⟩ :: _) _ _; refine EL.f (FV.assign rfl) rfl rfl ?_)
         | (show EL _ _ _ _ (⟨_, .call _, _, _, _, _⟩ :: _) _ _; refine EL.f (FV.len rfl rfl) rfl rfl ?_)
         | (show EL _ _ _ _ (⟨_, .binOp .lss _ _ _ _, _, _, _, _⟩ :: _) _ _; refine EL.fF (FV.lss rfl rfl) rfl (fun _ => rfl) (by omega) ?_))
      | refine EL.nil ?_
      | refine EW.seq ?_
      | refine EW.region ?_
      | refine EW.exit ?_
      | refine EW.ret ?_
      | refine EW.condF rfl ?_)
    exact ⟨_, rfl, hout, he⟩

theorem implPicked (A B : Option Addr) (c d : Nat) (xs ks : List Int) (w : World) (hx : Rd w A (ints xs)) (hy : Rd w B (ints ks)) (h0 : ∀ i, i < ks.length → 0 ≤ ks.getD i 0 ∧ ks.getD i 0 < xs.length) (hn : ks.length ≤ 1000000) :
    CallsR Try.prog 104 [.slice A xs.length c, .slice B ks.length d] w fun v w' => OwnI w.heap.size w' v (mapR (fun k => xs.getD (ks.getD k 0).toNat 0) ks.length) ∧ Ext w w' := by
  refine CallsR.enter Try.func104 (by decide +kernel) rfl Try.ntmps104 rfl ?_
  repeat' (first
    | refine EL.f (FV.assign rfl) rfl rfl ?_
    | refine EL.nil ?_
    | refine EW.seq ?_
    | refine EW.region ?_)
  refine EL.h (Hv.build0 rfl rfl) rfl (fun _ => rfl) ?_
  rintro s0 w1 ⟨ho, he1⟩
  repeat' (first
    | refine EL.f (FV.move rfl) rfl rfl ?_
    | refine EL.f (FV.assign rfl) rfl rfl ?_
    | refine EL.f (FV.len rfl rfl) rfl rfl ?_
    | refine EL.nil ?_
    | refine EW.seq ?_
    | refine EW.region ?_
    | refine EW.block ?_)
  refine EW.loop (X := Nat × Value) (fun q wr => q.1 ≤ ks.length ∧ OwnI w.heap.size wr q.2 (mapR (fun k => xs.getD (ks.getD k 0).toNat 0) q.1) ∧ Ext w wr) (fun q => [(5, q.2), (0, .slice A xs.length c), (9, .slice B ks.length d), (10, .int .i64 ks.length), (11, .int .i64 q.1)]) (fun q => ks.length - q.1) (0, s0) ⟨Nat.zero_le _, ho, he1⟩ ⟨rfl, rfl, rfl, rfl, rfl, trivial⟩ ?_
  rintro ⟨k, s⟩ wr ⟨hk, hout, he⟩
  dsimp only at *
  by_cases hlt : k < ks.length
  · obtain ⟨b2, o2, rfl, hc⟩ := (hy.ext he).int hlt
    have hl0 := h0 k hlt
    obtain ⟨b3, o3, rfl, hc3⟩ := (hx.ext he).int (show (ks.getD k 0).toNat < xs.length by omega)
    repeat' (first
      | (show EL _ _ _ _ (_ :: _) _ _
         first
         | (show EL _ _ _ _ (⟨_, .load _ _, _, _, _, _⟩ :: _) _ _; first | refine EL.f (FV.load1 rfl rfl rfl hc) rfl rfl ?_ | refine EL.f (FV.load1 rfl rfl rfl hc3) rfl rfl ?_)
         | (show EL _ _ _ _ (⟨_, .move _, _, _, _, _⟩ :: _) _ _; refine EL.f (FV.move rfl) rfl rfl ?_)
         | (show EL _ _ _ _ (⟨_, .assign _, _, _, _, _⟩ :: _) _ _; refine EL.f (FV.assign rfl) rfl rfl ?_)
         | (show EL _ _ _ _ (⟨_, .binOp .lss _ _ _ _, _, _, _, _⟩ :: _) _ _; refine EL.fT (FV.lss rfl rfl) rfl (fun _ => rfl) (by omega) ?_)
         | (show EL _ _ _ _ (⟨_, .indexAddr _ _ _, _, _, _, _⟩ :: _) _ _; refine EL.f (FV.idx1 rfl rfl rfl rfl (by omega) (by omega)) rfl rfl ?_))
      | refine EL.nil ?_
      | refine EW.seq ?_
      | refine EW.region ?_
      | refine EW.block ?_
      | refine EW.skip ?_
      | refine EW.condT rfl ?_)
    refine EL.h (Hv.build1A rfl rfl rfl rfl) rfl (fun _ => rfl) ?_
    rintro _ w3 ⟨g3, rfl, h3, hg3, he3⟩
    have e03 := he.trans he3
    have hown := mapR_row (OwnI.ext hout he3)
    skip
    refine EL.h (Hv.append1 (B := w.heap.size) rfl rfl rfl rfl rfl hown (At.cell h3 rfl) rfl (by omega) (by omega) e03.size) rfl (fun _ => rfl) ?_
    rintro s9 w9 ⟨hown9, _, hbl⟩
    repeat' (first
      | refine EL.f (FV.move rfl) rfl rfl ?_
      | refine EL.f (FV.assign rfl) rfl rfl ?_
      | refine EL.f (FV.addI rfl rfl (by omega)) rfl rfl ?_
      | refine EL.nil ?_
      | refine EW.region ?_)
    exact ⟨(k + 1, s9), ⟨rfl, rfl, rfl, rfl, rfl, trivial⟩, ⟨by dsimp only; omega, mapR_push hown9, Ext.after e03 hbl⟩, by dsimp only; omega⟩
  · obtain rfl : k = ks.length := by omega
    repeat' (first
      | refine EL.f (FV.move rfl) rfl rfl ?_
      | refine EL.f (FV.assign rfl) rfl rfl ?_
      | refine EL.fF (FV.lss rfl rfl) rfl (fun _ => rfl) (by omega) ?_
      | refine EL.nil ?_
      | refine EW.seq ?_
      | refine EW.region ?_
      | refine EW.exit ?_
      | refine EW.ret ?_
      | refine EW.condF rfl ?_)
    exact ⟨_, rfl, hout, he⟩

theorem specPicked (A B : Option Addr) (c d : Nat) (xs ks : List Int) (w : World) (hx : Rd w A (ints xs)) (hy : Rd w B (ints ks)) (h0 : ∀ i, i < ks.length → 0 ≤ ks.getD i 0 ∧ ks.getD i 0 < xs.length) (hn : ks.length ≤ 1000000) :
    CallsR Try.prog 100 [.slice A xs.length c, .slice B ks.length d] w fun v w' => OwnI w.heap.size w' v (mapR (fun k => xs.getD (ks.getD k 0).toNat 0) ks.length) ∧ Ext w w' := by
  refine CallsR.enter Try.func100 (by decide +kernel) rfl Try.ntmps100 rfl ?_
  repeat' (first
    | refine EL.f (FV.assign rfl) rfl rfl ?_
    | refine EL.nil ?_
    | refine EW.seq ?_
    | refine EW.region ?_)
  refine EL.h (Hv.build0 rfl rfl) rfl (fun _ => rfl) ?_
  rintro s0 w1 ⟨ho, he1⟩
  repeat' (first
    | refine EL.f (FV.assign rfl) rfl rfl ?_
    | refine EL.nil ?_
    | refine EW.seq ?_
    | refine EW.region ?_
    | refine EW.block ?_)
  refine EW.loop (X := Nat × Value) (fun q wr => q.1 ≤ ks.length ∧ OwnI w.heap.size wr q.2 (mapR (fun k => xs.getD (ks.getD k 0).toNat 0) q.1) ∧ Ext w wr) (fun q => [(5, q.2), (0, .slice A xs.length c), (1, .slice B ks.length d), (6, .int .i64 q.1)]) (fun q => ks.length - q.1) (0, s0) ⟨Nat.zero_le _, ho, he1⟩ ⟨rfl, rfl, rfl, rfl, trivial⟩ ?_
  rintro ⟨k, s⟩ wr ⟨hk, hout, he⟩
  dsimp only at *
  by_cases hlt : k < ks.length
  · obtain ⟨b2, o2, rfl, hc⟩ := (hy.ext he).int hlt
    have hl0 := h0 k hlt
    obtain ⟨b3, o3, rfl, hc3⟩ := (hx.ext he).int (show (ks.getD k 0).toNat < xs.length by omega)
    repeat' (first
      | (show EL _ _ _ _ (_ :: _) _ _
         first
         | (show EL _ _ _ _ (⟨_, .load _ _, _, _, _, _⟩ :: _) _ _; first | refine EL.f (FV.load1 rfl rfl rfl hc) rfl rfl ?_ | refine EL.f (FV.load1 rfl rfl rfl hc3) rfl rfl ?_)
         | (show EL _ _ _ _ (⟨_, .move _, _, _, _, _⟩ :: _) _ _; refine EL.f (FV.move rfl) rfl rfl ?_)
         | (show EL _ _ _ _ (⟨_, .call _, _, _, _, _⟩ :: _) _ _; refine EL.f (FV.len rfl rfl) rfl rfl ?_)
         | (show EL _ _ _ _ (⟨_, .binOp .lss _ _ _ _, _, _, _, _⟩ :: _) _ _; refine EL.fT (FV.lss rfl rfl) rfl (fun _ => rfl) (by omega) ?_)
         | (show EL _ _ _ _ (⟨_, .indexAddr _ _ _, _, _, _, _⟩ :: _) _ _; refine EL.f (FV.idx1 rfl rfl rfl rfl (by omega) (by omega)) rfl rfl ?_))
      | refine EL.nil ?_
      | refine EW.seq ?_
      | refine EW.region ?_
      | refine EW.block ?_
      | refine EW.skip ?_
      | refine EW.condT rfl ?_)
    refine EL.h (Hv.build1A rfl rfl rfl rfl) rfl (fun _ => rfl) ?_
    rintro _ w3 ⟨g3, rfl, h3, hg3, he3⟩
    have e03 := he.trans he3
    have hown := mapR_row (OwnI.ext hout he3)
    skip
    refine EL.h (Hv.append1 (B := w.heap.size) rfl rfl rfl rfl rfl hown (At.cell h3 rfl) rfl (by omega) (by omega) e03.size) rfl (fun _ => rfl) ?_
    rintro s9 w9 ⟨hown9, _, hbl⟩
    repeat' (first
      | refine EL.f (FV.move rfl) rfl rfl ?_
      | refine EL.f (FV.assign rfl) rfl rfl ?_
      | refine EL.f (FV.addI rfl rfl (by omega)) rfl rfl ?_
      | refine EL.nil ?_
      | refine EW.region ?_)
    exact ⟨(k + 1, s9), ⟨rfl, rfl, rfl, rfl, trivial⟩, ⟨by dsimp only; omega, mapR_push hown9, Ext.after e03 hbl⟩, by dsimp only; omega⟩
  · obtain rfl : k = ks.length := by omega
    repeat' (first
      | (show EL _ _ _ _ (_ :: _) _ _
         first
         | (show EL _ _ _ _ (⟨_, .move _, _, _, _, _⟩ :: _) _ _; refine EL.f (FV.move rfl) rfl rfl ?_)
         | (show EL _ _ _ _ (⟨_, .assign _, _, _, _, _⟩ :: _) _ _; refine EL.f (FV.assign rfl) rfl rfl ?_)
         | (show EL _ _ _ _ (⟨_, .call _, _, _, _, _⟩ :: _) _ _; refine EL.f (FV.len rfl rfl) rfl rfl ?_)
         | (show EL _ _ _ _ (⟨_, .binOp .lss _ _ _ _, _, _, _, _⟩ :: _) _ _; refine EL.fF (FV.lss rfl rfl) rfl (fun _ => rfl) (by omega) ?_))
      | refine EL.nil ?_
      | refine EW.seq ?_
      | refine EW.region ?_
      | refine EW.exit ?_
      | refine EW.ret ?_
      | refine EW.condF rfl ?_)
    exact ⟨_, rfl, hout, he⟩

theorem runC_one (t : Tp) (xs : List Int) : runC t [xs] = if okT t = true then (if goodR t.inputs xs = true then 0 else 2) else 1 := by
  unfold runC below
  simp [List.range_succ]
theorem specAsked (b o : Nat) (t : Tp) (A : Option Addr) (c : Nat) (xs : List Int) (w : World) (h : TapeP w b o t) (hf : Fit t) (hx : Rd w A (ints xs)) (hn : xs.length ≤ 1048576) :
    CallsR Try.prog 96 [.pointer (some ⟨b, o, none⟩), .slice A xs.length c] w fun r w' => r = .int .i64 (runC t [xs]) ∧ Ext w w' := by
  rw [runC_one]
  have h0 := h
  obtain ⟨C, d, D, d2, E, d3, hb, r1, r2, r3⟩ := h
  refine CallsR.enter Try.func96 (by decide +kernel) rfl Try.ntmps96 rfl ?_
  repeat' (first
    | refine EL.f (FV.move rfl) rfl rfl ?_
    | refine EL.f (FV.assign rfl) rfl rfl ?_
    | refine EL.nil ?_
    | refine EW.seq ?_
    | refine EW.region ?_)
  refine EL.h (Hv.call (specOkT b o t w h0 hf) rfl) rfl (fun _ => rfl) ?_
  rintro _ w1 ⟨rfl, he1⟩
  replace hb := hb.ext he1
  cases ok : okT t
  · repeat' (first
      | refine EL.f (FV.assign rfl) rfl rfl ?_
      | refine EL.f (FV.not rfl) rfl rfl ?_
      | refine EL.nil ?_
      | refine EW.seq ?_
      | refine EW.region ?_
      | refine EW.ret ?_
      | refine EW.condT rfl ?_)
    exact ⟨_, rfl, rfl, he1⟩
  rw [if_pos rfl]
  unfold goodR
  by_cases hl : (xs.length : Int) = t.inputs
  rotate_left
  · repeat' (first
      | (show EL _ _ _ _ (_ :: _) _ _
         first
         | (show EL _ _ _ _ (⟨_, _, _, _, _, some _⟩ :: _) _ _; refine EL.skip rfl rfl ?_)
         | (show EL _ _ _ _ (⟨_, .nilCheck _, _, _, _, _⟩ :: _) _ _; refine EL.f (FV.nilChk rfl) rfl rfl ?_)
         | (show EL _ _ _ _ (⟨_, .fieldAddr _ _ _, _, _, _, _⟩ :: _) _ _; refine EL.f (FV.fieldAddr rfl rfl rfl rfl rfl) rfl rfl ?_)
         | (show EL _ _ _ _ (⟨_, .load _ _, _, _, _, _⟩ :: _) _ _; refine EL.f (FV.load1 rfl rfl rfl (hb 0 _ rfl)) rfl rfl ?_)
         | (show EL _ _ _ _ (⟨_, .move _, _, _, _, _⟩ :: _) _ _; refine EL.f (FV.move rfl) rfl rfl ?_)
         | (show EL _ _ _ _ (⟨_, .assign _, _, _, _, _⟩ :: _) _ _; refine EL.f (FV.assign rfl) rfl rfl ?_)
         | (show EL _ _ _ _ (⟨_, .call _, _, _, _, _⟩ :: _) _ _; refine EL.f (FV.len rfl rfl) rfl rfl ?_)
         | (show EL _ _ _ _ (⟨_, .unOp .not _ _, _, _, _, _⟩ :: _) _ _; refine EL.f (FV.not rfl) rfl rfl ?_)
         | (show EL _ _ _ _ (⟨_, .pick _ _ _, _, _, _, _⟩ :: _) _ _; refine EL.f (FV.pickT rfl rfl) rfl rfl ?_)
         | (show EL _ _ _ _ (⟨_, .binOp .neq _ _ _ _, _, _, _, _⟩ :: _) _ _; refine EL.fT (FV.neq rfl rfl) rfl (fun _ => rfl) (by omega) ?_))
      | refine EL.nil ?_
      | refine EW.seq ?_
      | refine EW.region ?_
      | refine EW.skip ?_
      | refine EW.ret ?_
      | refine EW.condT rfl ?_
      | refine EW.condF rfl ?_)
    exact ⟨_, rfl, by rw [decide_eq_false hl]; rfl, he1⟩
  rw [decide_eq_true hl, Bool.true_and]
  repeat' (first
    | (show EL _ _ _ _ (_ :: _) _ _
       first
       | (show EL _ _ _ _ (⟨_, .nilCheck _, _, _, _, _⟩ :: _) _ _; refine EL.f (FV.nilChk rfl) rfl rfl ?_)
       | (show EL _ _ _ _ (⟨_, .fieldAddr _ _ _, _, _, _, _⟩ :: _) _ _; refine EL.f (FV.fieldAddr rfl rfl rfl rfl rfl) rfl rfl ?_)
       | (show EL _ _ _ _ (⟨_, .load _ _, _, _, _, _⟩ :: _) _ _; refine EL.f (FV.load1 rfl rfl rfl (hb 0 _ rfl)) rfl rfl ?_)
       | (show EL _ _ _ _ (⟨_, .call _, _, _, _, _⟩ :: _) _ _; first | (refine EL.h (Hv.call (specNumbers A c xs w1 (hx.ext he1) (by omega)) rfl) rfl (fun _ => rfl) ?_; rintro _ _ ⟨rfl, rfl⟩) | refine EL.f (FV.len rfl rfl) rfl rfl ?_)
       | (show EL _ _ _ _ (⟨_, .move _, _, _, _, _⟩ :: _) _ _; refine EL.f (FV.move rfl) rfl rfl ?_)
       | (show EL _ _ _ _ (⟨_, .unOp .not _ _, _, _, _, _⟩ :: _) _ _; refine EL.f (FV.not rfl) rfl rfl ?_)
       | (show EL _ _ _ _ (⟨_, .pick _ _ _, _, _, _, _⟩ :: _) _ _; refine EL.f (FV.pickF rfl rfl) rfl rfl ?_)
       | (show EL _ _ _ _ (⟨_, .binOp .neq _ _ _ _, _, _, _, _⟩ :: _) _ _; refine EL.fF (FV.neq rfl rfl) rfl (fun _ => rfl) (by omega) ?_))
    | refine EL.nil ?_
    | refine EW.seq ?_
    | refine EW.region ?_
    | refine EW.skip ?_
    | refine EW.condF rfl ?_)
  cases ok2 : nums xs
  · repeat' (first
      | refine EL.f (FV.assign rfl) rfl rfl ?_
      | refine EL.nil ?_
      | refine EW.seq ?_
      | refine EW.region ?_
      | refine EW.ret ?_
      | refine EW.condT rfl ?_)
    exact ⟨_, rfl, rfl, he1⟩
  · repeat' (first
      | refine EL.f (FV.assign rfl) rfl rfl ?_
      | refine EL.nil ?_
      | refine EW.seq ?_
      | refine EW.region ?_
      | refine EW.skip ?_
      | refine EW.ret ?_
      | refine EW.condF rfl ?_)
    exact ⟨_, rfl, rfl, he1⟩
/-- The rows that go in at order 0 and at order 1. -/
def lineL (xs ds : List Int) (j : Nat) : List (List Int) := rowsOf (fun i => if j = 0 then [xs.getD i 0] else [xs.getD i 0, ds.getD i 0]) xs.length
theorem constL_one (x : Int) : constL x 1 = [x] := rfl
theorem constL_two (x : Int) : constL x 2 = [x, 0] := rfl
set_option maxHeartbeats 4000000 in
theorem specLine (A B : Option Addr) (c d : Nat) (xs ds : List Int) (j : Nat) (w : World) (hx : Rd w A (ints xs)) (hy : Rd w B (ints ds)) (hl : xs.length ≤ ds.length) (hn : xs.length ≤ 1000000) (hj : j ≤ 1) :
    CallsR Try.prog 99 [.slice A xs.length c, .slice B ds.length d, .int .i64 j] w fun v w' => OutR w.heap.size w' v (lineL xs ds j) ∧ Ext w w' := by
  refine CallsR.enter Try.func99 (by decide +kernel) rfl Try.ntmps99 rfl ?_
  repeat' (first
    | refine EL.f (FV.assign rfl) rfl rfl ?_
    | refine EL.nil ?_
    | refine EW.seq ?_
    | refine EW.region ?_)
  refine EL.h (Hv.build0 rfl rfl) rfl (fun _ => rfl) ?_
  rintro s0 w1 ⟨ho, he1⟩
  repeat' (first
    | refine EL.f (FV.assign rfl) rfl rfl ?_
    | refine EL.nil ?_
    | refine EW.seq ?_
    | refine EW.region ?_
    | refine EW.block ?_)
  refine EW.loop (X := Nat × Value) (fun q wr => q.1 ≤ xs.length ∧ OutR w.heap.size wr q.2 (rowsOf (fun i => if j = 0 then [xs.getD i 0] else [xs.getD i 0, ds.getD i 0]) q.1) ∧ Ext w wr) (fun q => [(7, q.2), (0, .slice A xs.length c), (1, .slice B ds.length d), (2, .int .i64 j), (8, .int .i64 q.1)]) (fun q => xs.length - q.1) (0, s0) ⟨Nat.zero_le _, OutR.nil ho, he1⟩ ⟨rfl, rfl, rfl, rfl, rfl, trivial⟩ ?_
  rintro ⟨k, s⟩ wr ⟨hk, hout, he⟩
  dsimp only at *
  by_cases hlt : k < xs.length
  · obtain ⟨b, o, rfl, hc⟩ := (hx.ext he).int hlt
    obtain ⟨b2, o2, rfl, hc2⟩ := (hy.ext he).int (show k < ds.length by omega)
    repeat' (first
      | (show EL _ _ _ _ (_ :: _) _ _
         first
         | (show EL _ _ _ _ (⟨_, .move _, _, _, _, _⟩ :: _) _ _; refine EL.f (FV.move rfl) rfl rfl ?_)
         | (show EL _ _ _ _ (⟨_, .binOp .add _ _ _ _, _, _, _, _⟩ :: _) _ _; refine EL.f (FV.addI rfl rfl (by omega)) rfl rfl ?_)
         | (show EL _ _ _ _ (⟨_, .call _, _, _, _, _⟩ :: _) _ _; refine EL.f (FV.len rfl rfl) rfl rfl ?_)
         | (show EL _ _ _ _ (⟨_, .binOp .lss _ _ _ _, _, _, _, _⟩ :: _) _ _; refine EL.fT (FV.lss rfl rfl) rfl (fun _ => rfl) (by omega) ?_)
         | (show EL _ _ _ _ (⟨_, .indexAddr _ _ _, _, _, _, _⟩ :: _) _ _; refine EL.f (FV.idx1 rfl rfl rfl rfl (by omega) (by omega)) rfl rfl ?_)
         | (show EL _ _ _ _ (⟨_, .load _ _, _, _, _, _⟩ :: _) _ _; refine EL.f (FV.load1 rfl rfl rfl (by assumption)) rfl rfl ?_))
      | refine EL.nil ?_
      | refine EW.seq ?_
      | refine EW.region ?_
      | refine EW.block ?_
      | refine EW.skip ?_
      | refine EW.condT rfl ?_)
    refine EL.h (Hv.call (specConst (xs.getD k 0) (j + 1) (by omega) wr) rfl) rfl (fun _ => rfl) ?_
    rintro _ w2 ⟨g2, rfl, hg2, hat2, he2⟩
    have lg2 := At.lt hat2
    rcases (show j = 0 ∨ j = 1 by omega) with rfl | rfl
    · rw [constL_one] at hat2
      have hrow : RowB w2 w.heap.size (.slice (some ⟨g2, 0, none⟩) (0 + 1) (0 + 1)) [xs.getD k 0] := RowB.own (AtI.own' (B := 0) hat2 rfl (Nat.zero_le _))
      repeat' (first
        | refine EL.f (FV.move rfl) rfl rfl ?_
        | refine EL.f (FV.assign rfl) rfl rfl ?_
        | refine EL.fF (FV.gtr rfl rfl) rfl (fun _ => rfl) (by omega) ?_
        | refine EL.nil ?_
        | refine EW.seq ?_
        | refine EW.region ?_
        | refine EW.skip ?_
        | refine EW.condF rfl ?_)
      refine EL.h (Hv.build1A rfl rfl rfl rfl) rfl (fun _ => rfl) ?_
      rintro _ w3 ⟨g3, rfl, h3, hg3, he3⟩
      have e03 := (he.trans he2).trans he3
      skip
      refine EL.h (Hv.push rfl rfl (At.cell h3 rfl) (hout.ext (he2.trans he3)) (hrow.ext he3) (by rw [rowsOf_length]; omega) e03.size) rfl (fun _ => rfl) ?_
      rintro s9 w9 ⟨hout9, hgr, hbl⟩
      repeat' (first
        | refine EL.f (FV.move rfl) rfl rfl ?_
        | refine EL.f (FV.assign rfl) rfl rfl ?_
        | refine EL.f (FV.addI rfl rfl (by omega)) rfl rfl ?_
        | refine EL.nil ?_
        | refine EW.region ?_)
      exact ⟨(k + 1, s9), ⟨rfl, rfl, rfl, rfl, rfl, trivial⟩, ⟨by dsimp only; omega, by rw [rowsOf_succ, if_pos rfl]; exact hout9, Ext.after e03 hbl⟩, by dsimp only; omega⟩
    · rw [constL_two] at hat2
      repeat' (first
        | (show EL _ _ _ _ (_ :: _) _ _
           first
           | (show EL _ _ _ _ (⟨_, .load _ _, _, _, _, _⟩ :: _) _ _; refine EL.f (FV.load1 rfl rfl rfl (he2.cell hc2)) rfl rfl ?_)
           | (show EL _ _ _ _ (⟨_, .move _, _, _, _, _⟩ :: _) _ _; refine EL.f (FV.move rfl) rfl rfl ?_)
           | (show EL _ _ _ _ (⟨_, .assign _, _, _, _, _⟩ :: _) _ _; refine EL.f (FV.assign rfl) rfl rfl ?_)
           | (show EL _ _ _ _ (⟨_, .binOp .gtr _ _ _ _, _, _, _, _⟩ :: _) _ _; refine EL.fT (FV.gtr rfl rfl) rfl (fun _ => rfl) (by omega) ?_)
           | (show EL _ _ _ _ (⟨_, .indexAddr _ _ _, _, _, _, _⟩ :: _) _ _; first | refine EL.f (FV.idx0 rfl rfl rfl rfl (by omega) (by omega)) rfl rfl ?_ | refine EL.f (FV.idx1 rfl rfl rfl rfl (by omega) (by omega)) rfl rfl ?_))
        | refine EL.nil ?_
        | refine EW.seq ?_
        | refine EW.region ?_
        | refine EW.condT rfl ?_)
      refine EL.h (Hv.storeAt rfl rfl rfl rfl rfl hat2 (k := 1) rfl) rfl (fun _ => rfl) ?_
      rintro _ _ ⟨rfl, _⟩
      have hst := AtI.set_ hat2 (k := 1) (ds.getD k 0)
      have ew2 : Ext wr (w2.setCell ⟨g2, 1, none⟩ (.int .i64 (ds.getD k 0))) := Below.set_ he2 hg2 _
      generalize w2.setCell ⟨g2, 1, none⟩ (.int .i64 (ds.getD k 0)) = w3 at *
      have hrow : RowB w3 w.heap.size (.slice (some ⟨g2, 0, none⟩) (1 + 1) (1 + 1)) [xs.getD k 0, ds.getD k 0] := RowB.own (AtI.own' (B := 0) hst rfl (Nat.zero_le _))
      repeat' (first
        | refine EL.f (FV.move rfl) rfl rfl ?_
        | refine EL.nil ?_
        | refine EW.region ?_)
      refine EL.h (Hv.build1A rfl rfl rfl rfl) rfl (fun _ => rfl) ?_
      rintro _ w4 ⟨g3, rfl, h3, hg3, he3⟩
      have e03 := (he.trans ew2).trans he3
      skip
      refine EL.h (Hv.push rfl rfl (At.cell h3 rfl) (hout.ext (ew2.trans he3)) (hrow.ext he3) (by rw [rowsOf_length]; omega) e03.size) rfl (fun _ => rfl) ?_
      rintro s9 w9 ⟨hout9, hgr, hbl⟩
      repeat' (first
        | refine EL.f (FV.move rfl) rfl rfl ?_
        | refine EL.f (FV.assign rfl) rfl rfl ?_
        | refine EL.f (FV.addI rfl rfl (by omega)) rfl rfl ?_
        | refine EL.nil ?_
        | refine EW.region ?_)
      exact ⟨(k + 1, s9), ⟨rfl, rfl, rfl, rfl, rfl, trivial⟩, ⟨by dsimp only; omega, by rw [rowsOf_succ, if_neg (by omega)]; exact hout9, Ext.after e03 hbl⟩, by dsimp only; omega⟩
  · obtain rfl : k = xs.length := by omega
    repeat' (first
      | (show EL _ _ _ _ (_ :: _) _ _
         first
         | (show EL _ _ _ _ (⟨_, .move _, _, _, _, _⟩ :: _) _ _; refine EL.f (FV.move rfl) rfl rfl ?_)
         | (show EL _ _ _ _ (⟨_, .assign _, _, _, _, _⟩ :: _) _ _; refine EL.f (FV.assign rfl) rfl rfl ?_)
         | (show EL _ _ _ _ (⟨_, .call _, _, _, _, _⟩ :: _) _ _; refine EL.f (FV.len rfl rfl) rfl rfl ?_)
         | (show EL _ _ _ _ (⟨_, .binOp .lss _ _ _ _, _, _, _, _⟩ :: _) _ _; refine EL.fF (FV.lss rfl rfl) rfl (fun _ => rfl) (by omega) ?_))
      | refine EL.nil ?_
      | refine EW.seq ?_
      | refine EW.region ?_
      | refine EW.exit ?_
      | refine EW.ret ?_
      | refine EW.condF rfl ?_)
    exact ⟨_, rfl, hout, he⟩

end Eng
end Go.Proofs.Ytfkohgfcchhlpaa
