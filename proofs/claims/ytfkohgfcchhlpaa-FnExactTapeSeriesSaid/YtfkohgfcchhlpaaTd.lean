/- RegistersOf, RunTape and GuardsHold: contracts. Conditions: the lengths. -/
import Derived.Test.YtfkohgfcchhlpaaTb
namespace Go.Proofs.Ytfkohgfcchhlpaa
open Go Go.RowKit
namespace Eng
theorem Rows.one {w : World} {g : Nat} {A : Option Addr} {c : Nat} {xs : List Int} (hc : w.cell? ⟨g, 0, none⟩ = some (.slice A xs.length c)) (hx : Rd w A (ints xs)) : Rows w (some ⟨g, 0, none⟩) [xs] := fun i hi => by
  obtain rfl : i = 0 := by simpa using hi
  exact ⟨g, 0, A, c, rfl, hc, hx⟩
theorem runC_zero {t : Tp} {xs : List Int} (h : runC t [xs] = 0) : okT t = true ∧ (xs.length : Int) = t.inputs ∧ nums xs = true := by
  rw [runC_one] at h
  cases ok : okT t
  · rw [ok] at h; simp at h
  rw [ok, if_pos rfl] at h
  cases g : goodR t.inputs xs
  · rw [g] at h; simp at h
  unfold goodR at g
  simp only [Bool.and_eq_true, decide_eq_true_eq] at g
  exact ⟨rfl, g.1, g.2⟩
theorem nums_one {x : Int} (h : 0 ≤ x ∧ x < 1000003) : nums [x] = true := by
  simp [nums, isNum, inB]; omega
theorem nums_two {x y : Int} (h : 0 ≤ x ∧ x < 1000003) (k : 0 ≤ y ∧ y < 1000003) : nums [x, y] = true := by
  simp [nums, isNum, inB]; omega
theorem lineL_length (xs ds : List Int) (j : Nat) : (lineL xs ds j).length = xs.length := rowsOf_length _ _
theorem lineL_zero (xs ds : List Int) : lineL xs ds 0 = rowsOf (fun i => [xs.getD i 0]) xs.length := by simp [lineL]
theorem lineL_good {xs ds : List Int} {j : Nat} (hj : j ≤ 1) (nx : nums xs = true) (nd : nums ds = true) : Good (j + 1) (lineL xs ds j) := fun i hi => by
  rw [lineL_length] at hi
  unfold lineL
  rw [rowsOf_get _ _ _ hi]
  rcases (show j = 0 ∨ j = 1 by omega) with rfl | rfl
  · rw [if_pos rfl]; exact ⟨rfl, nums_one (num_getD nx i)⟩
  · rw [if_neg (by omega)]; exact ⟨rfl, nums_two (num_getD nx i) (num_getD nd i)⟩
def fRegs (t : Tp) (xs : List Int) : List Int × Int :=
  if runC t [xs] = 0 then (match regS t (lineL xs xs 0) 1 t.code.length with | none => ([], 6) | some out => (colL out 0, 0)) else ([], runC t [xs])
theorem fRegs_code {t : Tp} {xs : List Int} (h : runC t [xs] ≠ 0) : fRegs t xs = ([], runC t [xs]) := by unfold fRegs; rw [if_neg h]
theorem fRegs_none {t : Tp} {xs : List Int} (h : runC t [xs] = 0) (e : regS t (lineL xs xs 0) 1 t.code.length = none) : fRegs t xs = ([], 6) := by unfold fRegs; rw [if_pos h, e]
theorem fRegs_some {t : Tp} {xs : List Int} {out : List (List Int)} (h : runC t [xs] = 0) (e : regS t (lineL xs xs 0) 1 t.code.length = some out) : fRegs t xs = (colL out 0, 0) := by unfold fRegs; rw [if_pos h, e]
theorem fRegs_zero {t : Tp} {xs : List Int} (h : (fRegs t xs).2 = 0) : okT t = true ∧ (fRegs t xs).1.length = t.code.length := by
  by_cases hr : runC t [xs] = 0
  · obtain ⟨ok, hl, hn⟩ := runC_zero hr
    cases e : regS t (lineL xs xs 0) 1 t.code.length with
    | none => rw [fRegs_none hr e] at h; simp at h
    | some out =>
      have := regS_good ok (by rw [lineL_length]; exact hl) (lineL_good (j := 0) (by omega) hn hn) (Nat.le_refl _) e
      rw [fRegs_some hr e]
      exact ⟨ok, by simp [colL, mapR_length, this.1]⟩
  · rw [fRegs_code hr] at h
    exact absurd h hr
theorem fRegs_len (t : Tp) (xs : List Int) : (fRegs t xs).1.length ≤ 1048576 := by
  by_cases hr : runC t [xs] = 0
  · obtain ⟨ok, hl, hn⟩ := runC_zero hr
    cases e : regS t (lineL xs xs 0) 1 t.code.length with
    | none => rw [fRegs_none hr e]; simp
    | some out =>
      have h2 := (fRegs_zero (t := t) (xs := xs) (by rw [fRegs_some hr e])).2
      have := (okT_iff.1 ok).2.1
      omega
  · rw [fRegs_code hr]; simp
set_option maxHeartbeats 8000000 in
theorem implRegistersOfT (v : Value) (t : Tp) (A : Option Addr) (c : Nat) (xs : List Int) (w : World) (h : TapeV w v t) (hf : Fit t) (hx : Rd w A (ints xs)) (hn : xs.length ≤ 1048576) :
    CallsR Try.prog 42 [v, .slice A xs.length c] w (SerOut w (fRegs t xs)) := by
  have hv := h
  obtain ⟨P, p, Q, q, R, r, rfl, r1, r2, r3⟩ := h
  refine CallsR.enter Try.func42 (by decide +kernel) rfl Try.ntmps42 rfl ?_
  repeat' (first
    | refine EW.seq ?_
    | refine EW.region ?_)
  refine EL.h (Hv.boxA (sz := 4) rfl rfl) rfl (fun _ => rfl) ?_
  rintro _ w1 ⟨g1, rfl, hg1, hb, he1⟩
  repeat' (first
    | refine EL.f (FV.loadAgg (cs := [.int .i64 t.inputs, .slice P t.code.length p, .slice Q t.guards.length q, .slice R t.outs.length r]) rfl rfl rfl rfl rfl (fun _ e => e ▸ At.lies hb)) rfl rfl ?_
    | refine EL.f (FV.move rfl) rfl rfl ?_
    | refine EL.f (FV.assign rfl) rfl rfl ?_
    | refine EL.nil ?_
    | refine EW.seq ?_
    | refine EW.region ?_)
  refine EL.h (Hv.build1A rfl rfl rfl rfl) rfl (fun _ => rfl) ?_
  rintro _ w2 ⟨g2, rfl, h2, hg2, he2⟩
  have hw2 := he1.trans he2
  replace hb := At.ext hb he2
  skip
  refine EL.h (Hv.call (implIsRun _ t (some ⟨g2, 0, none⟩) 1 [xs] w2 (hv.ext hw2) hf (Rows.one (At.cell h2 rfl) (hx.ext hw2)) (by simp) (fun i hi => by obtain rfl : i = 0 := (by simpa using hi); exact hn)) rfl) rfl (fun _ => rfl) ?_
  rintro _ w3 ⟨rfl, he3⟩
  have hw3 := hw2.trans he3
  replace hb := At.ext hb he3
  by_cases hr : runC t [xs] = 0
  rotate_left
  · repeat' (first
      | refine EL.f (FV.move rfl) rfl rfl ?_
      | refine EL.f (FV.assign rfl) rfl rfl ?_
      | refine EL.fT (FV.neq rfl rfl) rfl (fun _ => rfl) (by omega) ?_
      | refine EL.nil ?_
      | refine EW.seq ?_
      | refine EW.region ?_
      | refine EW.ret ?_
      | refine EW.condT rfl ?_)
    rw [fRegs_code hr]
    exact ⟨_, rfl, SerOut.nil' hw3⟩
  obtain ⟨ok, hl, hnum⟩ := runC_zero hr
  have hin := (okT_iff.1 ok).1
  have hcl := (okT_iff.1 ok).2.1
  repeat' (first
    | refine EL.f (FV.move rfl) rfl rfl ?_
    | refine EL.f (FV.assign rfl) rfl rfl ?_
    | refine EL.fF (FV.neq rfl rfl) rfl (fun _ => rfl) (by omega) ?_
    | refine EL.nil ?_
    | refine EW.seq ?_
    | refine EW.region ?_
    | refine EW.skip ?_
    | refine EW.condF rfl ?_)
  refine EW.draw (fun w' => Ext w3 w') [(0, true), (1, true), (2, false), (3, false), (4, true), (5, true), (6, true), (7, true), (8, true)] mixed (by decide +kernel) (Ext.drew _) ?_
  repeat' (first
    | refine EP.f rfl (FV.loadAgg (cs := [.int .i64 t.inputs, .slice P t.code.length p, .slice Q t.guards.length q, .slice R t.outs.length r]) rfl rfl rfl rfl rfl (fun _ h' => (At.lies hb).ext h')) rfl rfl ?_
    | refine EP.f rfl (FV.move rfl) rfl rfl ?_)
  have ed := Ext.drew w3
  refine EP.h rfl rfl (Hv.call (implSingles A c xs w3.drew (hx.ext (hw3.trans ed)) (by omega)) rfl) rfl (fun _ => rfl) ?_
  rintro s w4 ⟨hout, he4⟩
  have e34 := ed.trans he4
  refine ⟨e34, ?_⟩
  rw [← lineL_zero xs xs] at hout
  obtain ⟨A4, c4, rfl, hrows⟩ := hout.rows
  have hw4 := hw3.trans e34
  refine EP.h rfl rfl (Hv.call (implRegisters _ t A4 c4 (lineL xs xs 0) 0 w4 (hv.ext hw4) hf ok hrows (by rw [lineL_length]; exact hl) (lineL_good (by omega) hnum hnum) (by omega)) rfl) rfl (fun _ => rfl) ?_
  rintro res w5 hR
  have e35 := e34.trans hR.2
  refine ⟨e35, ?_⟩
  have hw5 := hw3.trans e35
  unfold RegOut at hR
  cases e : regS t (lineL xs xs 0) 1 t.code.length with
  | none =>
    rw [show (0 : Nat) + 1 = 1 from rfl, e] at hR
    obtain ⟨⟨s, rfl⟩, _⟩ := hR
    repeat' (first
      | refine EP.nil ?_
      | refine EP.f rfl (FV.move rfl) rfl rfl ?_
      | refine EP.f rfl (FV.assign rfl) rfl rfl ?_
      | refine EP.f rfl (FV.extract rfl rfl) rfl rfl ?_)
    rw [fRegs_none hr e]
    repeat' (first
      | refine EL.f (FV.move rfl) rfl rfl ?_
      | refine EL.f (FV.assign rfl) rfl rfl ?_
      | refine EL.fT (FV.neq rfl rfl) rfl (fun _ => rfl) (by omega) ?_
      | refine EL.nil ?_
      | refine EW.seq ?_
      | refine EW.region ?_
      | refine EW.ret ?_
      | refine EW.condT rfl ?_)
    exact ⟨_, rfl, SerOut.nil' hw5⟩
  | some out =>
    rw [show (0 : Nat) + 1 = 1 from rfl, e] at hR
    obtain ⟨⟨s, rfl, ho⟩, _⟩ := hR
    obtain ⟨hol, hgo⟩ := regS_good ok (by rw [lineL_length]; exact hl) (lineL_good (j := 0) (by omega) hnum hnum) (Nat.le_refl _) e
    obtain ⟨A5, c5, rfl, hr5⟩ := ho.rows
    repeat' (first
      | refine EP.nil ?_
      | refine EP.f rfl (FV.move rfl) rfl rfl ?_
      | refine EP.f rfl (FV.assign rfl) rfl rfl ?_
      | refine EP.f rfl (FV.extract rfl rfl) rfl rfl ?_)
    rw [fRegs_some hr e]
    repeat' (first
      | refine EL.f (FV.move rfl) rfl rfl ?_
      | refine EL.fF (FV.neq rfl rfl) rfl (fun _ => rfl) (by omega) ?_
      | refine EL.nil ?_
      | refine EW.seq ?_
      | refine EW.region ?_
      | refine EW.skip ?_
      | refine EW.condF rfl ?_)
    refine EL.h (Hv.call (implFirsts A5 c5 out w5 hr5 (fun i hi => by rw [(hgo i hi).1]; omega) (by omega)) rfl) rfl (fun _ => rfl) ?_
    rintro v6 w6 ⟨ho6, he6⟩
    repeat' (first
      | refine EL.f (FV.assign rfl) rfl rfl ?_
      | refine EL.nil ?_
      | refine EW.ret ?_)
    exact ⟨_, rfl, v6, rfl, OwnI.lower ho6 hw5.size, hw5.trans he6⟩
set_option maxHeartbeats 8000000 in
theorem specRegs (b o : Nat) (t : Tp) (A : Option Addr) (c : Nat) (xs : List Int) (w : World) (h : TapeP w b o t) (hf : Fit t) (hx : Rd w A (ints xs)) (hn : xs.length ≤ 1048576) :
    CallsR Try.prog 89 [.pointer (some ⟨b, o, none⟩), .slice A xs.length c] w (SerOut w (fRegs t xs)) := by
  refine CallsR.enter Try.func89 (by decide +kernel) rfl Try.ntmps89 rfl ?_
  repeat' (first
    | refine EL.f (FV.move rfl) rfl rfl ?_
    | refine EL.f (FV.assign rfl) rfl rfl ?_
    | refine EL.nil ?_
    | refine EW.seq ?_
    | refine EW.region ?_)
  refine EL.h (Hv.call (specAsked b o t A c xs w h hf hx hn) rfl) rfl (fun _ => rfl) ?_
  rintro _ w3 ⟨rfl, hw3⟩
  by_cases hr : runC t [xs] = 0
  rotate_left
  · repeat' (first
      | (show EL _ _ _ _ (_ :: _) _ _
         first
         | (show EL _ _ _ _ (⟨_, .buildSlice _ _ _, _, _, _, _⟩ :: _) _ _; (refine EL.h (Hv.build0 rfl rfl) rfl (fun _ => rfl) ?_; rintro v w' ⟨ho, he⟩))
         | (show EL _ _ _ _ (⟨_, .move _, _, _, _, _⟩ :: _) _ _; refine EL.f (FV.move rfl) rfl rfl ?_)
         | (show EL _ _ _ _ (⟨_, .assign _, _, _, _, _⟩ :: _) _ _; refine EL.f (FV.assign rfl) rfl rfl ?_)
         | (show EL _ _ _ _ (⟨_, .binOp .neq _ _ _ _, _, _, _, _⟩ :: _) _ _; refine EL.fT (FV.neq rfl rfl) rfl (fun _ => rfl) (by omega) ?_))
      | refine EL.nil ?_
      | refine EW.seq ?_
      | refine EW.region ?_
      | refine EW.ret ?_
      | refine EW.condT rfl ?_)
    rw [fRegs_code hr]
    exact ⟨_, rfl, v, rfl, OwnI.lower ho hw3.size, hw3.trans he⟩
  obtain ⟨ok, hl, hnum⟩ := runC_zero hr
  have hin := (okT_iff.1 ok).1
  have hcl := (okT_iff.1 ok).2.1
  repeat' (first
    | refine EL.f (FV.move rfl) rfl rfl ?_
    | refine EL.f (FV.assign rfl) rfl rfl ?_
    | refine EL.fF (FV.neq rfl rfl) rfl (fun _ => rfl) (by omega) ?_
    | refine EL.nil ?_
    | refine EW.seq ?_
    | refine EW.region ?_
    | refine EW.skip ?_
    | refine EW.condF rfl ?_)
  refine EL.h (Hv.call (specLine A A c c xs xs 0 w3 (hx.ext hw3) (hx.ext hw3) (Nat.le_refl _) (by omega) (by omega)) rfl) rfl (fun _ => rfl) ?_
  rintro s w4 ⟨hout, he4⟩
  obtain ⟨A4, c4, rfl, hrows⟩ := hout.rows
  have hw4 := hw3.trans he4
  skip
  refine EL.h (Hv.call (specSeries b o t A4 c4 (lineL xs xs 0) 0 w4 (h.ext hw4) hf ok hrows (by rw [lineL_length]; exact hl) (lineL_good (by omega) hnum hnum) (by omega)) rfl) rfl (fun _ => rfl) ?_
  rintro res w5 hR
  have hw5 := hw4.trans hR.2
  unfold RegOut at hR
  cases e : regS t (lineL xs xs 0) 1 t.code.length with
  | none =>
    rw [show (0 : Nat) + 1 = 1 from rfl, e] at hR
    obtain ⟨⟨s, rfl⟩, _⟩ := hR
    rw [fRegs_none hr e]
    repeat' (first
      | (show EL _ _ _ _ (_ :: _) _ _
         first
         | (show EL _ _ _ _ (⟨_, .buildSlice _ _ _, _, _, _, _⟩ :: _) _ _; (refine EL.h (Hv.build0 rfl rfl) rfl (fun _ => rfl) ?_; rintro v w' ⟨ho, he⟩))
         | (show EL _ _ _ _ (⟨_, .move _, _, _, _, _⟩ :: _) _ _; refine EL.f (FV.move rfl) rfl rfl ?_)
         | (show EL _ _ _ _ (⟨_, .assign _, _, _, _, _⟩ :: _) _ _; refine EL.f (FV.assign rfl) rfl rfl ?_)
         | (show EL _ _ _ _ (⟨_, .extract _ _, _, _, _, _⟩ :: _) _ _; refine EL.f (FV.extract rfl rfl) rfl rfl ?_)
         | (show EL _ _ _ _ (⟨_, .unOp .not _ _, _, _, _, _⟩ :: _) _ _; refine EL.f (FV.not rfl) rfl rfl ?_))
      | refine EL.nil ?_
      | refine EW.seq ?_
      | refine EW.region ?_
      | refine EW.ret ?_
      | refine EW.condT rfl ?_)
    exact ⟨_, rfl, v, rfl, OwnI.lower ho hw5.size, hw5.trans he⟩
  | some out =>
    rw [show (0 : Nat) + 1 = 1 from rfl, e] at hR
    obtain ⟨⟨s, rfl, ho⟩, _⟩ := hR
    obtain ⟨hol, hgo⟩ := regS_good ok (by rw [lineL_length]; exact hl) (lineL_good (j := 0) (by omega) hnum hnum) (Nat.le_refl _) e
    obtain ⟨A5, c5, rfl, hr5⟩ := ho.rows
    rw [fRegs_some hr e]
    repeat' (first
      | (show EL _ _ _ _ (_ :: _) _ _
         first
         | (show EL _ _ _ _ (⟨_, .move _, _, _, _, _⟩ :: _) _ _; refine EL.f (FV.move rfl) rfl rfl ?_)
         | (show EL _ _ _ _ (⟨_, .assign _, _, _, _, _⟩ :: _) _ _; refine EL.f (FV.assign rfl) rfl rfl ?_)
         | (show EL _ _ _ _ (⟨_, .extract _ _, _, _, _, _⟩ :: _) _ _; refine EL.f (FV.extract rfl rfl) rfl rfl ?_)
         | (show EL _ _ _ _ (⟨_, .unOp .not _ _, _, _, _, _⟩ :: _) _ _; refine EL.f (FV.not rfl) rfl rfl ?_))
      | refine EL.nil ?_
      | refine EW.seq ?_
      | refine EW.region ?_
      | refine EW.skip ?_
      | refine EW.condF rfl ?_)
    refine EL.h (Hv.call (specColumn A5 c5 out 0 w5 hr5 (fun i hi => by rw [(hgo i hi).1]; omega) (by omega)) rfl) rfl (fun _ => rfl) ?_
    rintro v6 w6 ⟨ho6, he6⟩
    repeat' (first
      | refine EL.f (FV.assign rfl) rfl rfl ?_
      | refine EL.nil ?_
      | refine EW.ret ?_)
    exact ⟨_, rfl, v6, rfl, OwnI.lower ho6 hw5.size, hw5.trans he6⟩
theorem specRegistersOfT (v : Value) (t : Tp) (A : Option Addr) (c : Nat) (xs : List Int) (w : World) (h : TapeV w v t) (hf : Fit t) (hx : Rd w A (ints xs)) (hn : xs.length ≤ 1048576) :
    CallsR Try.prog 41 [v, .slice A xs.length c] w (SerOut w (fRegs t xs)) := by
  obtain ⟨P, p, Q, q, R, r, rfl, r1, r2, r3⟩ := h
  refine CallsR.enter Try.func41 (by decide +kernel) rfl Try.ntmps41 rfl ?_
  repeat' (first
    | refine EW.seq ?_
    | refine EW.region ?_)
  refine EL.h (Hv.boxA (sz := 4) rfl rfl) rfl (fun _ => rfl) ?_
  rintro _ w1 ⟨g1, rfl, hg1, hb, he1⟩
  repeat' (first
    | refine EL.f (FV.move rfl) rfl rfl ?_
    | refine EL.f (FV.assign rfl) rfl rfl ?_
    | refine EL.nil ?_
    | refine EW.seq ?_
    | refine EW.region ?_)
  refine EL.h (Hv.call (specRegs g1 0 t A c xs w1 ⟨P, p, Q, q, R, r, At.lies hb, r1.ext he1, r2.ext he1, r3.ext he1⟩ hf (hx.ext he1) hn) rfl) rfl (fun _ => rfl) ?_
  rintro _ w2 ⟨sv, rfl, ho, he2⟩
  repeat' (first
    | refine EL.f (FV.assign rfl) rfl rfl ?_
    | refine EL.f (FV.extract rfl rfl) rfl rfl ?_
    | refine EL.nil ?_
    | refine EW.ret ?_)
  exact ⟨_, rfl, sv, rfl, OwnI.lower ho he1.size, he1.trans he2⟩
def fRunTape (t : Tp) (xs : List Int) : List Int × Int := if (fRegs t xs).2 = 0 then (pickL (fRegs t xs).1 t.outs, 0) else ([], (fRegs t xs).2)
theorem pickL_length (xs ks : List Int) : (pickL xs ks).length = ks.length := mapR_length _ _
theorem fRunTape_len (t : Tp) (xs : List Int) : (fRunTape t xs).1.length ≤ 1048576 := by
  unfold fRunTape
  split
  · rename_i h
    have := (okT_iff.1 (fRegs_zero h).1).2.2.2.1
    simp only [pickL_length]
    omega
  · simp
set_option maxHeartbeats 4000000 in
theorem implRunTapeT (v : Value) (t : Tp) (A : Option Addr) (c : Nat) (xs : List Int) (w : World) (h : TapeV w v t) (hf : Fit t) (hx : Rd w A (ints xs)) (hn : xs.length ≤ 1048576) :
    CallsR Try.prog 46 [v, .slice A xs.length c] w (SerOut w (fRunTape t xs)) := by
  have hv := h
  obtain ⟨P, p, Q, q, R, r, rfl, r1, r2, r3⟩ := h
  refine CallsR.enter Try.func46 (by decide +kernel) rfl Try.ntmps46 rfl ?_
  repeat' (first
    | refine EW.seq ?_
    | refine EW.region ?_)
  refine EL.h (Hv.boxA (sz := 4) rfl rfl) rfl (fun _ => rfl) ?_
  rintro _ w1 ⟨g1, rfl, hg1, hb, he1⟩
  repeat' (first
    | refine EL.f (FV.loadAgg (cs := [.int .i64 t.inputs, .slice P t.code.length p, .slice Q t.guards.length q, .slice R t.outs.length r]) rfl rfl rfl rfl rfl (fun _ e => e ▸ At.lies hb)) rfl rfl ?_
    | refine EL.f (FV.move rfl) rfl rfl ?_
    | refine EL.f (FV.assign rfl) rfl rfl ?_
    | refine EL.nil ?_
    | refine EW.seq ?_
    | refine EW.region ?_)
  refine EL.h (Hv.call (implRegistersOfT _ t A c xs w1 (hv.ext he1) hf (hx.ext he1) hn) rfl) rfl (fun _ => rfl) ?_
  rintro _ w2 ⟨sv, rfl, ho, he2⟩
  have hw2 := he1.trans he2
  replace hb := At.ext hb he2
  unfold fRunTape
  by_cases hc : (fRegs t xs).2 = 0
  · obtain ⟨ok, hlen⟩ := fRegs_zero hc
    obtain ⟨A2, c2, rfl, hr2⟩ := ho.form
    have hou := (okT_iff.1 ok).2.2.2
    repeat' (first
      | (show EL _ _ _ _ (_ :: _) _ _
         first
         | (show EL _ _ _ _ (⟨_, .fieldAddr _ _ _, _, _, _, _⟩ :: _) _ _; refine EL.f (FV.fieldAddr rfl rfl rfl rfl rfl) rfl rfl ?_)
         | (show EL _ _ _ _ (⟨_, .load _ _, _, _, _, _⟩ :: _) _ _; refine EL.f (FV.load1 rfl rfl rfl (At.cell hb rfl)) rfl rfl ?_)
         | (show EL _ _ _ _ (⟨_, .move _, _, _, _, _⟩ :: _) _ _; refine EL.f (FV.move rfl) rfl rfl ?_)
         | (show EL _ _ _ _ (⟨_, .assign _, _, _, _, _⟩ :: _) _ _; refine EL.f (FV.assign rfl) rfl rfl ?_)
         | (show EL _ _ _ _ (⟨_, .extract _ _, _, _, _, _⟩ :: _) _ _; refine EL.f (FV.extract rfl rfl) rfl rfl ?_)
         | (show EL _ _ _ _ (⟨_, .binOp .neq _ _ _ _, _, _, _, _⟩ :: _) _ _; refine EL.fF (FV.neq rfl rfl) rfl (fun _ => rfl) (by omega) ?_))
      | refine EL.nil ?_
      | refine EW.seq ?_
      | refine EW.region ?_
      | refine EW.skip ?_
      | refine EW.condF rfl ?_)
    refine EL.h (Hv.call (implPicked A2 R c2 r (fRegs t xs).1 t.outs w2 hr2 (r3.ext hw2) (fun i hi => by rw [hlen]; exact hou.2.2.2 i hi) (by omega)) rfl) rfl (fun _ => rfl) ?_
    rintro v6 w6 ⟨ho6, he6⟩
    repeat' (first
      | refine EL.f (FV.assign rfl) rfl rfl ?_
      | refine EL.nil ?_
      | refine EW.ret ?_)
    rw [if_pos hc]
    exact ⟨_, rfl, v6, rfl, OwnI.lower ho6 hw2.size, hw2.trans he6⟩
  · repeat' (first
      | (show EL _ _ _ _ (_ :: _) _ _
         first
         | (show EL _ _ _ _ (⟨_, .move _, _, _, _, _⟩ :: _) _ _; refine EL.f (FV.move rfl) rfl rfl ?_)
         | (show EL _ _ _ _ (⟨_, .assign _, _, _, _, _⟩ :: _) _ _; refine EL.f (FV.assign rfl) rfl rfl ?_)
         | (show EL _ _ _ _ (⟨_, .extract _ _, _, _, _, _⟩ :: _) _ _; refine EL.f (FV.extract rfl rfl) rfl rfl ?_)
         | (show EL _ _ _ _ (⟨_, .binOp .neq _ _ _ _, _, _, _, _⟩ :: _) _ _; refine EL.fT (FV.neq rfl rfl) rfl (fun _ => rfl) (by omega) ?_))
      | refine EL.nil ?_
      | refine EW.seq ?_
      | refine EW.region ?_
      | refine EW.ret ?_
      | refine EW.condT rfl ?_)
    rw [if_neg hc]
    exact ⟨_, rfl, SerOut.nil' hw2⟩
set_option maxHeartbeats 4000000 in
theorem specRunTapeT (v : Value) (t : Tp) (A : Option Addr) (c : Nat) (xs : List Int) (w : World) (h : TapeV w v t) (hf : Fit t) (hx : Rd w A (ints xs)) (hn : xs.length ≤ 1048576) :
    CallsR Try.prog 45 [v, .slice A xs.length c] w (SerOut w (fRunTape t xs)) := by
  obtain ⟨P, p, Q, q, R, r, rfl, r1, r2, r3⟩ := h
  refine CallsR.enter Try.func45 (by decide +kernel) rfl Try.ntmps45 rfl ?_
  repeat' (first
    | refine EW.seq ?_
    | refine EW.region ?_)
  refine EL.h (Hv.boxA (sz := 4) rfl rfl) rfl (fun _ => rfl) ?_
  rintro _ w1 ⟨g1, rfl, hg1, hb, he1⟩
  repeat' (first
    | refine EL.f (FV.move rfl) rfl rfl ?_
    | refine EL.f (FV.assign rfl) rfl rfl ?_
    | refine EL.nil ?_
    | refine EW.seq ?_
    | refine EW.region ?_)
  refine EL.h (Hv.call (specRegs g1 0 t A c xs w1 ⟨P, p, Q, q, R, r, At.lies hb, r1.ext he1, r2.ext he1, r3.ext he1⟩ hf (hx.ext he1) hn) rfl) rfl (fun _ => rfl) ?_
  rintro _ w2 ⟨sv, rfl, ho, he2⟩
  have hw2 := he1.trans he2
  replace hb := At.ext hb he2
  unfold fRunTape
  by_cases hc : (fRegs t xs).2 = 0
  · obtain ⟨ok, hlen⟩ := fRegs_zero hc
    obtain ⟨A2, c2, rfl, hr2⟩ := ho.form
    have hou := (okT_iff.1 ok).2.2.2
    repeat' (first
      | (show EL _ _ _ _ (_ :: _) _ _
         first
         | (show EL _ _ _ _ (⟨_, .fieldAddr _ _ _, _, _, _, _⟩ :: _) _ _; refine EL.f (FV.fieldAddr rfl rfl rfl rfl rfl) rfl rfl ?_)
         | (show EL _ _ _ _ (⟨_, .load _ _, _, _, _, _⟩ :: _) _ _; refine EL.f (FV.load1 rfl rfl rfl (At.cell hb rfl)) rfl rfl ?_)
         | (show EL _ _ _ _ (⟨_, .move _, _, _, _, _⟩ :: _) _ _; refine EL.f (FV.move rfl) rfl rfl ?_)
         | (show EL _ _ _ _ (⟨_, .assign _, _, _, _, _⟩ :: _) _ _; refine EL.f (FV.assign rfl) rfl rfl ?_)
         | (show EL _ _ _ _ (⟨_, .extract _ _, _, _, _, _⟩ :: _) _ _; refine EL.f (FV.extract rfl rfl) rfl rfl ?_)
         | (show EL _ _ _ _ (⟨_, .binOp .neq _ _ _ _, _, _, _, _⟩ :: _) _ _; refine EL.fF (FV.neq rfl rfl) rfl (fun _ => rfl) (by omega) ?_))
      | refine EL.nil ?_
      | refine EW.seq ?_
      | refine EW.region ?_
      | refine EW.skip ?_
      | refine EW.condF rfl ?_)
    refine EL.h (Hv.call (specPicked A2 R c2 r (fRegs t xs).1 t.outs w2 hr2 (r3.ext hw2) (fun i hi => by rw [hlen]; exact hou.2.2.2 i hi) (by omega)) rfl) rfl (fun _ => rfl) ?_
    rintro v6 w6 ⟨ho6, he6⟩
    repeat' (first
      | refine EL.f (FV.assign rfl) rfl rfl ?_
      | refine EL.nil ?_
      | refine EW.ret ?_)
    rw [if_pos hc]
    exact ⟨_, rfl, v6, rfl, OwnI.lower ho6 hw2.size, hw2.trans he6⟩
  · repeat' (first
      | (show EL _ _ _ _ (_ :: _) _ _
         first
         | (show EL _ _ _ _ (⟨_, .buildSlice _ _ _, _, _, _, _⟩ :: _) _ _; (refine EL.h (Hv.build0 rfl rfl) rfl (fun _ => rfl) ?_; rintro v w' ⟨ho, he⟩))
         | (show EL _ _ _ _ (⟨_, .move _, _, _, _, _⟩ :: _) _ _; refine EL.f (FV.move rfl) rfl rfl ?_)
         | (show EL _ _ _ _ (⟨_, .assign _, _, _, _, _⟩ :: _) _ _; refine EL.f (FV.assign rfl) rfl rfl ?_)
         | (show EL _ _ _ _ (⟨_, .extract _ _, _, _, _, _⟩ :: _) _ _; refine EL.f (FV.extract rfl rfl) rfl rfl ?_)
         | (show EL _ _ _ _ (⟨_, .binOp .neq _ _ _ _, _, _, _, _⟩ :: _) _ _; refine EL.fT (FV.neq rfl rfl) rfl (fun _ => rfl) (by omega) ?_))
      | refine EL.nil ?_
      | refine EW.seq ?_
      | refine EW.region ?_
      | refine EW.ret ?_
      | refine EW.condT rfl ?_)
    rw [if_neg hc]
    exact ⟨_, rfl, v, rfl, OwnI.lower ho hw2.size, hw2.trans he⟩
/-- Does guard i hold? -/
def gdOk (xs : List Int) (gs : List Gd) (i : Nat) : Bool := decide (xs.getD (gs.getD i dGd).reg.toNat 0 = 0) == (gs.getD i dGd).zero
def fGuardsHold (t : Tp) (xs : List Int) : Bool × Int := if (fRegs t xs).2 = 0 then (below t.guards.length (gdOk (fRegs t xs).1 t.guards), 0) else (false, (fRegs t xs).2)
theorem indexFuncG (f : FuncId) (qv : Value) (ok : Nat → Bool) (A : Option Addr) (c : Nat) (xs : List Gd) (w : World) (hx : Rd w A (gdL xs)) (hn : xs.length ≤ 1073741824)
    (hp : ∀ i, i < xs.length → ∀ w', Ext w w' → CallsR Try.prog f [.agg (gdV (xs.getD i dGd)).toArray, qv] w' fun v w'' => v = .bool (!ok i) ∧ Ext w' w'') :
    CallsR Try.prog 136 [.slice A xs.length c, .func (.func f) #[] #[qv]] w fun v w' => ∃ j : Int, v = .int .i64 j ∧ (0 ≤ j ↔ below xs.length ok = false) ∧ -1 ≤ j ∧ Ext w w' := by
  refine CallsR.enter Try.func136 (by decide +kernel) rfl Try.ntmps136 rfl ?_
  repeat' (first
    | refine EL.f (FV.move rfl) rfl rfl ?_
    | refine EL.f (FV.assign rfl) rfl rfl ?_
    | refine EL.f (FV.len rfl rfl) rfl rfl ?_
    | refine EL.nil ?_
    | refine EW.seq ?_
    | refine EW.region ?_
    | refine EW.block ?_)
  refine EW.loop (fun k wr => k ≤ xs.length ∧ (∀ i, i < k → ok i = true) ∧ Ext w wr) (fun k => [(0, .slice A xs.length c), (1, .func (.func f) #[] #[qv]), (7, .int .i64 xs.length), (8, .int .i64 k)]) (fun k => xs.length - k) 0 ⟨Nat.zero_le _, fun i h => absurd h (Nat.not_lt_zero _), Ext.refl _⟩ ⟨rfl, rfl, rfl, rfl, trivial⟩ ?_
  rintro k wr ⟨hk, hall, he⟩
  by_cases hlt : k < xs.length
  · obtain ⟨b, o, rfl, hc⟩ := Rd.elem gdV_length (by decide) dGd (hx.ext he) hlt
    repeat' (first
      | (show EL _ _ _ _ (_ :: _) _ _
         first
         | (show EL _ _ _ _ (⟨_, .indexAddr _ _ _, _, _, _, _⟩ :: _) _ _; refine EL.f (FV.idx rfl rfl rfl rfl (by omega) (by omega)) rfl rfl ?_)
         | (show EL _ _ _ _ (⟨_, .load _ _, _, _, _, _⟩ :: _) _ _; refine EL.f (FV.loadAgg (cs := gdV (xs.getD k dGd)) rfl rfl rfl rfl rfl (fun _ e => hc.ext (e ▸ Ext.refl _))) rfl rfl ?_)
         | (show EL _ _ _ _ (⟨_, .move _, _, _, _, _⟩ :: _) _ _; refine EL.f (FV.move rfl) rfl rfl ?_)
         | (show EL _ _ _ _ (⟨_, .assign _, _, _, _, _⟩ :: _) _ _; refine EL.f (FV.assign rfl) rfl rfl ?_)
         | (show EL _ _ _ _ (⟨_, .binOp .lss _ _ _ _, _, _, _, _⟩ :: _) _ _; refine EL.fT (FV.lss rfl rfl) rfl (fun _ => rfl) (by omega) ?_))
      | refine EL.nil ?_
      | refine EW.seq ?_
      | refine EW.region ?_
      | refine EW.block ?_
      | refine EW.skip ?_
      | refine EW.condT rfl ?_)
    refine EL.h (Hv.callC (vs := [.agg (gdV (xs.getD k dGd)).toArray]) (hp k hlt wr he) rfl rfl) rfl (fun _ => rfl) ?_
    rintro _ w2 ⟨rfl, he2⟩
    cases ok1 : ok k
    · repeat' (first
        | refine EL.f (FV.move rfl) rfl rfl ?_
        | refine EL.f (FV.assign rfl) rfl rfl ?_
        | refine EL.nil ?_
        | refine EW.seq ?_
        | refine EW.region ?_
        | refine EW.ret ?_
        | refine EW.condT rfl ?_)
      exact ⟨_, rfl, k, rfl, ⟨fun _ => below_false hlt ok1, fun _ => by omega⟩, by omega, he.trans he2⟩
    · repeat' (first
        | refine EL.f (FV.move rfl) rfl rfl ?_
        | refine EL.f (FV.addI rfl rfl (by omega)) rfl rfl ?_
        | refine EL.nil ?_
        | refine EW.region ?_
        | refine EW.skip ?_
        | refine EW.condF rfl ?_)
      refine ⟨k + 1, ⟨rfl, rfl, rfl, rfl, trivial⟩, ⟨by omega, fun i hi => ?_, he.trans he2⟩, by omega⟩
      by_cases hik : i = k
      · subst hik; exact ok1
      · exact hall i (by omega)
  · obtain rfl : k = xs.length := by omega
    repeat' (first
      | refine EL.f (FV.assign rfl) rfl rfl ?_
      | refine EL.fF (FV.lss rfl rfl) rfl (fun _ => rfl) (by omega) ?_
      | refine EL.nil ?_
      | refine EW.seq ?_
      | refine EW.region ?_
      | refine EW.exit ?_
      | refine EW.ret ?_
      | refine EW.condF rfl ?_)
    exact ⟨_, rfl, -1, rfl, ⟨fun h => by omega, fun h => by rw [below_true hall] at h; cases h⟩, by omega, he⟩
theorem containsFuncG (f : FuncId) (qv : Value) (ok : Nat → Bool) (A : Option Addr) (c : Nat) (xs : List Gd) (w : World) (hx : Rd w A (gdL xs)) (hn : xs.length ≤ 1073741824)
    (hp : ∀ i, i < xs.length → ∀ w', Ext w w' → CallsR Try.prog f [.agg (gdV (xs.getD i dGd)).toArray, qv] w' fun v w'' => v = .bool (!ok i) ∧ Ext w' w'') :
    CallsR Try.prog 90 [.slice A xs.length c, .func (.func f) #[] #[qv]] w fun v w' => v = .bool (!below xs.length ok) ∧ Ext w w' := by
  refine CallsR.enter Try.func90 (by decide +kernel) rfl Try.ntmps90 rfl ?_
  repeat' (first
    | refine EL.f (FV.move rfl) rfl rfl ?_
    | refine EL.f (FV.assign rfl) rfl rfl ?_
    | refine EL.nil ?_
    | refine EW.seq ?_
    | refine EW.region ?_)
  refine EL.h (Hv.call (indexFuncG f qv ok A c xs w hx hn hp) rfl) rfl (fun _ => rfl) ?_
  rintro _ w2 ⟨j, rfl, hj, _, he⟩
  by_cases h : 0 ≤ j
  · repeat' (first
      | refine EL.f (FV.assign rfl) rfl rfl ?_
      | refine EL.fT (FV.geq rfl rfl) rfl (fun _ => rfl) (by omega) ?_
      | refine EL.nil ?_
      | refine EW.ret ?_)
    exact ⟨_, rfl, by rw [hj.1 h]; rfl, he⟩
  · repeat' (first
      | refine EL.f (FV.assign rfl) rfl rfl ?_
      | refine EL.fF (FV.geq rfl rfl) rfl (fun _ => rfl) (by omega) ?_
      | refine EL.nil ?_
      | refine EW.ret ?_)
    have : below xs.length ok = true := by
      cases ha : below xs.length ok with
      | true => rfl
      | false => exact absurd (hj.2 ha) h
    exact ⟨_, rfl, by rw [this]; rfl, he⟩
theorem cellZ {w w' : World} {b o k : Nat} {v : Value} (he : Ext w w') (hc : w.cell? ⟨b, o + k, none⟩ = some v) : w'.cell? ⟨b, o + k * 1, none⟩ = some v := by rw [Nat.mul_one]; exact he.cell hc
theorem implGuardC (g : Gd) (A : Option Addr) (c gx : Nat) (xs : List Int) (w : World) (hc : w.cell? ⟨gx, 0, none⟩ = some (.slice A xs.length c)) (hx : Rd w A (ints xs)) (h0 : 0 ≤ g.reg ∧ g.reg < xs.length) :
    CallsR Try.prog 91 [.agg (gdV g).toArray, .pointer (some ⟨gx, 0, none⟩)] w fun v w' => v = .bool (!(decide (xs.getD g.reg.toNat 0 = 0) == g.zero)) ∧ Ext w w' := by
  refine CallsR.enter Try.func91 (by decide +kernel) rfl Try.ntmps91 rfl ?_
  obtain ⟨b, o, rfl, hcx⟩ := hx.int (show g.reg.toNat < xs.length by omega)
  repeat' (first
    | refine EW.seq ?_
    | refine EW.region ?_)
  refine EL.h (Hv.boxA (sz := 2) rfl rfl) rfl (fun _ => rfl) ?_
  rintro _ w1 ⟨g1, rfl, hg1, hb, he1⟩
  repeat' (first
    | refine EL.f (FV.assign rfl) rfl rfl ?_
    | refine EL.nil ?_
    | refine EW.seq ?_)
  refine EW.draw (fun w' => Ext w1 w') (pl 0 10) mixed (by decide +kernel) (Ext.drew _) ?_
  repeat' (first
    | refine EP.f rfl (FV.fieldAddr rfl rfl rfl rfl rfl) rfl rfl ?_
    | refine EP.f rfl (FV.load rfl rfl rfl (fun w' h' => (he1.trans h').cell hc)) rfl rfl ?_
    | refine EP.f rfl (FV.load rfl rfl rfl (fun w' h' => At.cell (At.ext hb h') rfl)) rfl rfl ?_
    | refine EP.f rfl (FV.load rfl rfl rfl (fun w' h' => (he1.trans h').cell hcx)) rfl rfl ?_
    | refine EP.f rfl (FV.eql rfl rfl) rfl rfl ?_
    | refine EP.f rfl (FV.neqB rfl rfl rfl) rfl rfl ?_
    | refine EP.nil ?_
    | refine EP.f rfl (FV.assign rfl) rfl rfl ?_
    | refine EP.f rfl (FV.idx1 rfl rfl rfl rfl (by omega) (by omega)) rfl rfl ?_)
  repeat' (first
    | refine EW.ret ?_)
  refine ⟨_, rfl, ?_, he1.trans (Ext.drew _)⟩
  cases decide (xs.getD g.reg.toNat 0 = 0) <;> cases g.zero <;> rfl
set_option maxHeartbeats 4000000 in
theorem implGuardsHoldT (v : Value) (t : Tp) (A : Option Addr) (c : Nat) (xs : List Int) (w : World) (h : TapeV w v t) (hf : Fit t) (hx : Rd w A (ints xs)) (hn : xs.length ≤ 1048576) :
    CallsR Try.prog 40 [v, .slice A xs.length c] w fun v w' => v = .tuple #[.bool (fGuardsHold t xs).1, .int .i64 (fGuardsHold t xs).2] ∧ Ext w w' := by
  have hv := h
  obtain ⟨P, p, Q, q, R, r, rfl, r1, r2, r3⟩ := h
  refine CallsR.enter Try.func40 (by decide +kernel) rfl Try.ntmps40 rfl ?_
  repeat' (first
    | refine EW.seq ?_
    | refine EW.region ?_)
  refine EL.h (Hv.boxA (sz := 4) rfl rfl) rfl (fun _ => rfl) ?_
  rintro _ w1 ⟨g1, rfl, hg1, hb, he1⟩
  repeat' (first
    | refine EL.f (FV.loadAgg (cs := [.int .i64 t.inputs, .slice P t.code.length p, .slice Q t.guards.length q, .slice R t.outs.length r]) rfl rfl rfl rfl rfl (fun _ e => e ▸ At.lies hb)) rfl rfl ?_
    | refine EL.f (FV.move rfl) rfl rfl ?_
    | refine EL.f (FV.assign rfl) rfl rfl ?_
    | refine EL.nil ?_
    | refine EW.seq ?_
    | refine EW.region ?_)
  refine EL.h (Hv.call (implRegistersOfT _ t A c xs w1 (hv.ext he1) hf (hx.ext he1) hn) rfl) rfl (fun _ => rfl) ?_
  rintro _ w2 ⟨sv, rfl, ho, he2⟩
  have hw2 := he1.trans he2
  have l1 := At.lt hb
  have s1 := hw2.size
  have s2 := he2.size
  replace hb := At.ext hb he2
  obtain ⟨A2, c2, rfl, hr2⟩ := ho.form
  repeat' (first
    | refine EL.f (FV.move rfl) rfl rfl ?_
    | refine EL.f (FV.extract rfl rfl) rfl rfl ?_)
  refine EL.h (Hv.allocA rfl rfl) rfl (fun _ => rfl) ?_
  rintro _ w3 ⟨g3, rfl, hg3, h3, he3⟩
  skip
  refine EL.h (Hv.storeG rfl rfl rfl rfl rfl h3 rfl) rfl (fun _ => rfl) ?_
  rintro _ w4 ⟨h4, hr4⟩
  have e24 : Ext w2 w4 := Below.wr he3 hr4 (by omega) (Nat.le_refl _)
  have hw4 := hw2.trans e24
  replace hb := At.ext hb e24
  unfold fGuardsHold
  by_cases hc : (fRegs t xs).2 = 0
  · obtain ⟨ok, hlen⟩ := fRegs_zero hc
    have hgu := (okT_iff.1 ok).2.2.2.2.2.1
    have hgl := (okT_iff.1 ok).2.2.1
    repeat' (first
      | (show EL _ _ _ _ (_ :: _) _ _
         first
         | (show EL _ _ _ _ (⟨_, .fieldAddr _ _ _, _, _, _, _⟩ :: _) _ _; refine EL.f (FV.fieldAddr rfl rfl rfl rfl rfl) rfl rfl ?_)
         | (show EL _ _ _ _ (⟨_, .load _ _, _, _, _, _⟩ :: _) _ _; refine EL.f (FV.load1 rfl rfl rfl (At.cell hb rfl)) rfl rfl ?_)
         | (show EL _ _ _ _ (⟨_, .makeFunc _ _ _, _, _, _, _⟩ :: _) _ _; refine EL.f (FV.makeFn rfl) rfl rfl ?_)
         | (show EL _ _ _ _ (⟨_, .move _, _, _, _, _⟩ :: _) _ _; refine EL.f (FV.move rfl) rfl rfl ?_)
         | (show EL _ _ _ _ (⟨_, .assign _, _, _, _, _⟩ :: _) _ _; refine EL.f (FV.assign rfl) rfl rfl ?_)
         | (show EL _ _ _ _ (⟨_, .binOp .neq _ _ _ _, _, _, _, _⟩ :: _) _ _; refine EL.fF (FV.neq rfl rfl) rfl (fun _ => rfl) (by omega) ?_))
      | refine EL.nil ?_
      | refine EW.seq ?_
      | refine EW.region ?_
      | refine EW.skip ?_
      | refine EW.condF rfl ?_)
    refine EL.h (Hv.call (containsFuncG _ (.pointer (some ⟨g3, 0, none⟩)) (gdOk (fRegs t xs).1 t.guards) Q q t.guards w4 (r2.ext hw4) (by omega) (fun i hi w' hw' => implGuardC (t.guards.getD i dGd) A2 c2 g3 (fRegs t xs).1 w' (hw'.cell (At.cell h4 rfl)) (hr2.ext (e24.trans hw')) (by rw [hlen]; exact hgu i hi))) rfl) rfl (fun _ => rfl) ?_
    rintro _ w5 ⟨rfl, he5⟩
    repeat' (first
      | refine EL.f (FV.assign rfl) rfl rfl ?_
      | refine EL.f (FV.not rfl) rfl rfl ?_
      | refine EL.nil ?_
      | refine EW.ret ?_)
    exact ⟨_, rfl, by rw [if_pos hc, Bool.not_not], hw4.trans he5⟩
  · repeat' (first
      | refine EL.f (FV.move rfl) rfl rfl ?_
      | refine EL.f (FV.assign rfl) rfl rfl ?_
      | refine EL.fT (FV.neq rfl rfl) rfl (fun _ => rfl) (by omega) ?_
      | refine EL.nil ?_
      | refine EW.seq ?_
      | refine EW.region ?_
      | refine EW.ret ?_
      | refine EW.condT rfl ?_)
    exact ⟨_, rfl, by rw [if_neg hc], hw4⟩
set_option maxHeartbeats 4000000 in
theorem specGuardsHoldT (v : Value) (t : Tp) (A : Option Addr) (c : Nat) (xs : List Int) (w : World) (h : TapeV w v t) (hf : Fit t) (hx : Rd w A (ints xs)) (hn : xs.length ≤ 1048576) :
    CallsR Try.prog 38 [v, .slice A xs.length c] w fun v w' => v = .tuple #[.bool (fGuardsHold t xs).1, .int .i64 (fGuardsHold t xs).2] ∧ Ext w w' := by
  obtain ⟨P, p, Q, q, R, r, rfl, r1, r2, r3⟩ := h
  refine CallsR.enter Try.func38 (by decide +kernel) rfl Try.ntmps38 rfl ?_
  repeat' (first
    | refine EW.seq ?_
    | refine EW.region ?_)
  refine EL.h (Hv.boxA (sz := 4) rfl rfl) rfl (fun _ => rfl) ?_
  rintro _ w1 ⟨g1, rfl, hg1, hb, he1⟩
  repeat' (first
    | refine EL.f (FV.move rfl) rfl rfl ?_
    | refine EL.f (FV.assign rfl) rfl rfl ?_
    | refine EL.nil ?_
    | refine EW.seq ?_
    | refine EW.region ?_)
  refine EL.h (Hv.call (specRegs g1 0 t A c xs w1 ⟨P, p, Q, q, R, r, At.lies hb, r1.ext he1, r2.ext he1, r3.ext he1⟩ hf (hx.ext he1) hn) rfl) rfl (fun _ => rfl) ?_
  rintro _ w2 ⟨sv, rfl, ho, he2⟩
  have hw2 := he1.trans he2
  replace hb := At.ext hb he2
  unfold fGuardsHold
  by_cases hc : (fRegs t xs).2 = 0
  rotate_left
  · repeat' (first
      | (show EL _ _ _ _ (_ :: _) _ _
         first
         | (show EL _ _ _ _ (⟨_, .move _, _, _, _, _⟩ :: _) _ _; refine EL.f (FV.move rfl) rfl rfl ?_)
         | (show EL _ _ _ _ (⟨_, .assign _, _, _, _, _⟩ :: _) _ _; refine EL.f (FV.assign rfl) rfl rfl ?_)
         | (show EL _ _ _ _ (⟨_, .extract _ _, _, _, _, _⟩ :: _) _ _; refine EL.f (FV.extract rfl rfl) rfl rfl ?_)
         | (show EL _ _ _ _ (⟨_, .binOp .neq _ _ _ _, _, _, _, _⟩ :: _) _ _; refine EL.fT (FV.neq rfl rfl) rfl (fun _ => rfl) (by omega) ?_))
      | refine EL.nil ?_
      | refine EW.seq ?_
      | refine EW.region ?_
      | refine EW.ret ?_
      | refine EW.condT rfl ?_)
    exact ⟨_, rfl, by rw [if_neg hc], hw2⟩
  obtain ⟨ok, hlen⟩ := fRegs_zero hc
  have hgu := (okT_iff.1 ok).2.2.2.2.2.1
  have hgl := (okT_iff.1 ok).2.2.1
  obtain ⟨A2, c2, rfl, hr2⟩ := ho.form
  rw [if_pos hc]
  repeat' (first
    | (show EL _ _ _ _ (_ :: _) _ _
       first
       | (show EL _ _ _ _ (⟨_, .move _, _, _, _, _⟩ :: _) _ _; refine EL.f (FV.move rfl) rfl rfl ?_)
       | (show EL _ _ _ _ (⟨_, .assign _, _, _, _, _⟩ :: _) _ _; refine EL.f (FV.assign rfl) rfl rfl ?_)
       | (show EL _ _ _ _ (⟨_, .extract _ _, _, _, _, _⟩ :: _) _ _; refine EL.f (FV.extract rfl rfl) rfl rfl ?_)
       | (show EL _ _ _ _ (⟨_, .binOp .neq _ _ _ _, _, _, _, _⟩ :: _) _ _; refine EL.fF (FV.neq rfl rfl) rfl (fun _ => rfl) (by omega) ?_))
    | refine EL.nil ?_
    | refine EW.seq ?_
    | refine EW.region ?_
    | refine EW.block ?_
    | refine EW.skip ?_
    | refine EW.condF rfl ?_)
  refine EW.loop (fun k wr => k ≤ t.guards.length ∧ (∀ i, i < k → gdOk (fRegs t xs).1 t.guards i = true) ∧ Ext w2 wr) (fun k => [(2, .pointer (some ⟨g1, 0, none⟩)), (6, .slice A2 (fRegs t xs).1.length c2), (8, .int .i64 k)]) (fun k => t.guards.length - k) 0 ⟨Nat.zero_le _, fun i h => absurd h (Nat.not_lt_zero _), Ext.refl _⟩ ⟨rfl, rfl, rfl, trivial⟩ ?_
  rintro k wr ⟨hk, hall, he⟩
  have hb0 := At.ext hb he
  by_cases hlt : k < t.guards.length
  · obtain ⟨x1, o1, rfl, hp⟩ := Rd.elem gdV_length (by decide) dGd (r2.ext (hw2.trans he)) hlt
    have hp0 := hp 0 _ rfl
    have hp1 := hp 1 _ rfl
    have hk0 := hgu k hlt
    obtain ⟨b2, o2, rfl, hcx⟩ := (hr2.ext he).int (show (t.guards.getD k dGd).reg.toNat < (fRegs t xs).1.length by omega)
    repeat' (first
      | (show EL _ _ _ _ (_ :: _) _ _
         first
         | (show EL _ _ _ _ (⟨_, .fieldAddr _ _ _, _, _, _, _⟩ :: _) _ _; refine EL.f (FV.fieldAddr rfl rfl rfl rfl rfl) rfl rfl ?_)
         | (show EL _ _ _ _ (⟨_, .load _ _, _, _, _, _⟩ :: _) _ _; refine EL.f (FV.load1 rfl rfl rfl (At.cell hb0 rfl)) rfl rfl ?_)
         | (show EL _ _ _ _ (⟨_, .move _, _, _, _, _⟩ :: _) _ _; refine EL.f (FV.move rfl) rfl rfl ?_)
         | (show EL _ _ _ _ (⟨_, .call _, _, _, _, _⟩ :: _) _ _; refine EL.f (FV.len rfl rfl) rfl rfl ?_)
         | (show EL _ _ _ _ (⟨_, .binOp .lss _ _ _ _, _, _, _, _⟩ :: _) _ _; refine EL.fT (FV.lss rfl rfl) rfl (fun _ => rfl) (by omega) ?_))
      | refine EL.nil ?_
      | refine EW.seq ?_
      | refine EW.region ?_
      | refine EW.block ?_
      | refine EW.skip ?_
      | refine EW.condT rfl ?_)
    refine EW.draw (fun w' => Ext wr w') (pl 0 17) mixed (by decide +kernel) (Ext.drew _) ?_
    repeat' (first
      | refine EP.f rfl (FV.fieldAddr rfl rfl rfl rfl rfl) rfl rfl ?_
      | refine EP.f rfl (FV.load rfl rfl rfl (fun w' h' => At.cell (At.ext hb0 h') rfl)) rfl rfl ?_
      | refine EP.f rfl (FV.idx rfl rfl rfl rfl (by omega) (by omega)) rfl rfl ?_
      | refine EP.f rfl (FV.load rfl rfl rfl (fun w' h' => h'.cell hp0)) rfl rfl ?_
      | refine EP.f rfl (FV.load rfl rfl rfl (fun w' h' => h'.cell hp1)) rfl rfl ?_
      | refine EP.f rfl (FV.load rfl rfl rfl (fun w' h' => cellZ h' hcx)) rfl rfl ?_
      | refine EP.f rfl (FV.eql rfl rfl) rfl rfl ?_
      | refine EP.f rfl (FV.neqB rfl rfl rfl) rfl rfl ?_
      | refine EP.nil ?_
      | refine EP.f rfl (FV.move rfl) rfl rfl ?_)
    refine EW.cond rfl (fun h1 => ?_) (fun h1 => ?_)
    · have ok1 : gdOk (fRegs t xs).1 t.guards k = false := by
        have h2 : (!gdOk (fRegs t xs).1 t.guards k) = true := h1
        simpa using h2
      repeat' (first
        | refine EL.f (FV.assign rfl) rfl rfl ?_
        | refine EL.nil ?_
        | refine EW.seq ?_
        | refine EW.region ?_
        | refine EW.ret ?_)
      exact ⟨_, rfl, by rw [below_false hlt ok1], (hw2.trans he).trans (Ext.drew _)⟩
    · have ok1 : gdOk (fRegs t xs).1 t.guards k = true := by
        have h2 : (!gdOk (fRegs t xs).1 t.guards k) = false := h1
        simpa using h2
      repeat' (first
        | refine EL.f (FV.move rfl) rfl rfl ?_
        | refine EL.f (FV.assign rfl) rfl rfl ?_
        | refine EL.f (FV.addI rfl rfl (by omega)) rfl rfl ?_
        | refine EL.nil ?_
        | refine EW.region ?_
        | refine EW.skip ?_)
      refine ⟨k + 1, ⟨rfl, rfl, rfl, trivial⟩, ⟨by omega, fun i hi => ?_, he.trans (Ext.drew _)⟩, by omega⟩
      by_cases hik : i = k
      · subst hik; exact ok1
      · exact hall i (by omega)
  · obtain rfl : k = t.guards.length := by omega
    repeat' (first
      | (show EL _ _ _ _ (_ :: _) _ _
         first
         | (show EL _ _ _ _ (⟨_, .fieldAddr _ _ _, _, _, _, _⟩ :: _) _ _; refine EL.f (FV.fieldAddr rfl rfl rfl rfl rfl) rfl rfl ?_)
         | (show EL _ _ _ _ (⟨_, .load _ _, _, _, _, _⟩ :: _) _ _; refine EL.f (FV.load1 rfl rfl rfl (At.cell hb0 rfl)) rfl rfl ?_)
         | (show EL _ _ _ _ (⟨_, .move _, _, _, _, _⟩ :: _) _ _; refine EL.f (FV.move rfl) rfl rfl ?_)
         | (show EL _ _ _ _ (⟨_, .assign _, _, _, _, _⟩ :: _) _ _; refine EL.f (FV.assign rfl) rfl rfl ?_)
         | (show EL _ _ _ _ (⟨_, .call _, _, _, _, _⟩ :: _) _ _; refine EL.f (FV.len rfl rfl) rfl rfl ?_)
         | (show EL _ _ _ _ (⟨_, .binOp .lss _ _ _ _, _, _, _, _⟩ :: _) _ _; refine EL.fF (FV.lss rfl rfl) rfl (fun _ => rfl) (by omega) ?_))
      | refine EL.nil ?_
      | refine EW.seq ?_
      | refine EW.region ?_
      | refine EW.exit ?_
      | refine EW.ret ?_
      | refine EW.condF rfl ?_)
    exact ⟨_, rfl, by rw [below_true hall], hw2.trans he⟩
end Eng
end Go.Proofs.Ytfkohgfcchhlpaa
