/- Rows of numbers of one's own, apart; the verifier's functions on slices of slices. Conditions: the lengths. -/
import Derived.Test.YtfkohgfcchhlpaaTe
namespace Go.Proofs.Ytfkohgfcchhlpaa
open Go Go.RowKit
namespace Eng
def tot : List (List Int) → Nat
  | [] => 0
  | x :: xs => x.length + tot xs
theorem tot_append (xs ys : List (List Int)) : tot (xs ++ ys) = tot xs + tot ys := by
  induction xs with
  | nil => simp [tot]
  | cons x xs ih => simp only [List.cons_append, tot, ih]; omega
theorem take_nextR {xs : List (List Int)} {i : Nat} (h : i < xs.length) : xs.take (i + 1) = xs.take i ++ [xs.getD i []] := by
  rw [List.take_succ_eq_append_getElem h]
  simp [h]
theorem tot_take {xs : List (List Int)} {i : Nat} (h : i < xs.length) : tot (xs.take (i + 1)) = tot (xs.take i) + (xs.getD i []).length := by
  rw [take_nextR h, tot_append]
  simp [tot]
theorem tot_split (xs : List (List Int)) (i : Nat) : tot xs = tot (xs.take i) + tot (xs.drop i) := by
  rw [← tot_append, List.take_append_drop]
theorem tot_row {xs : List (List Int)} {i : Nat} (h : i < xs.length) : tot (xs.take i) + (xs.getD i []).length ≤ tot xs := by
  rw [tot_split xs (i + 1), tot_take h]
  omega
def marksS (k : Nat) : List (List Int) → List (List Int)
  | [] => []
  | x :: xs => marks k x.length :: marksS (k + x.length) xs
theorem marksS_length : ∀ (k : Nat) (xs : List (List Int)), (marksS k xs).length = xs.length
  | _, [] => rfl
  | k, x :: xs => by simp [marksS, marksS_length]
theorem marksS_getD : ∀ {k i : Nat} {xs : List (List Int)}, i < xs.length → (marksS k xs).getD i [] = marks (k + tot (xs.take i)) (xs.getD i []).length
  | _, _, [], h => by simp at h
  | k, 0, x :: xs, _ => by simp [marksS, tot]
  | k, i + 1, x :: xs, h => by
    have := marksS_getD (k := k + x.length) (i := i) (xs := xs) (by simpa using h)
    rw [show k + tot ((x :: xs).take (i + 1)) = k + x.length + tot (xs.take i) from by simp [tot]; omega]
    exact this
theorem tot_marksS : ∀ (k : Nat) (xs : List (List Int)), tot (marksS k xs) = tot xs
  | _, [] => rfl
  | k, x :: xs => by simp [marksS, tot, marks_length, tot_marksS]
def dV : Value := .slice none 0 0
theorem getV {vs : List Value} {i : Nat} (h : i < vs.length) : vs[i]? = some (vs.getD i dV) := by simp [h]
/-- Rows of one's own, apart. -/
structure OutW (B : Nat) (w : World) (s : Value) (vs : List Value) (xss : List (List Int)) : Prop where
  own : w.ownsRow B 24 1 s xss.length vs
  vl : vs.length = xss.length
  row : ∀ i, i < xss.length → OwnI B w (vs.getD i dV) (xss.getD i [])
  nd : ∀ i j, i < xss.length → j < xss.length → i ≠ j → ∀ k, (vs.getD i dV).ownBlock = some k → (vs.getD j dV).ownBlock ≠ some k
theorem OutW.ext {B : Nat} {w w' : World} {s : Value} {vs : List Value} {xss : List (List Int)} (h : OutW B w s vs xss) (he : Ext w w') : OutW B w' s vs xss := ⟨own_ext h.own he, h.vl, fun i hi => OwnI.ext (h.row i hi) he, h.nd⟩
theorem OutW.lower {B B' : Nat} {w : World} {s : Value} {vs : List Value} {xss : List (List Int)} (h : OutW B w s vs xss) (hB : B' ≤ B) : OutW B' w s vs xss := ⟨own_lower h.own hB, h.vl, fun i hi => OwnI.lower (h.row i hi) hB, h.nd⟩
theorem OutW.none (B : Nat) (w : World) : OutW B w (.slice Option.none 0 0) [] [] := ⟨⟨rfl, .inl ⟨rfl, rfl⟩⟩, rfl, fun i hi => by simp at hi, fun i j hi => by simp at hi⟩
theorem OutW.rows {B : Nat} {w : World} {s : Value} {vs : List Value} {xss : List (List Int)} (h : OutW B w s vs xss) : ∃ A c, s = .slice A xss.length c ∧ Rows w A xss := by
  obtain ⟨A, c, rfl, hr⟩ := own_form h.own
  refine ⟨A, c, rfl, fun i hi => ?_⟩
  obtain ⟨b, o, hA, hc⟩ := hr i _ (getV (by have := h.vl; omega))
  obtain ⟨B1, c1, e, hr1⟩ := (h.row i hi).form
  rw [e] at hc
  exact ⟨b, o, B1, c1, hA, hc, hr1⟩
theorem OutW.rdRows {B n : Nat} {w : World} {A : Option Addr} {c : Nat} {vs : List Value} {xss : List (List Int)} (h : OutW B w (.slice A n c) vs xss) : Rows w A xss := by
  obtain ⟨A', c', e, hr⟩ := h.rows
  injection e with e1 _ _
  rw [e1]
  exact hr
theorem OutW.apart {B : Nat} {w : World} {s : Value} {vs : List Value} {xss : List (List Int)} (h : OutW B w s vs xss) {i : Nat} (hi : i < xss.length) : s.ownBlock = Option.none ∨ s.ownBlock ≠ (vs.getD i dV).ownBlock := own_ne h.own (h.row i hi) (by decide)
theorem getD_setR {xss : List (List Int)} {i j : Nat} {ys : List Int} (h : i ≠ j) : (xss.set i ys).getD j [] = xss.getD j [] := by
  rw [List.getD_eq_getElem?_getD, List.getElem?_set_ne h, ← List.getD_eq_getElem?_getD]
/-- A row's block was written. -/
theorem OutW.set {B : Nat} {w w' : World} {s : Value} {vs : List Value} {xss : List (List Int)} {i : Nat} {ys : List Int} (h : OutW B w s vs xss) (hi : i < xss.length) (hn : OwnI B w' (vs.getD i dV) ys) (hg : w.grownBy w' (vs.getD i dV).ownBlock) : OutW B w' s vs (xss.set i ys) := by
  refine ⟨by rw [List.length_set]; exact own_far h.own hg (h.apart hi), by rw [List.length_set]; exact h.vl, fun j hj => ?_, fun a b ha hb => h.nd a b (by simpa using ha) (by simpa using hb)⟩
  rw [List.length_set] at hj
  by_cases e : i = j
  · subst e
    rw [show (xss.set i ys).getD i [] = ys from by simp [hi]]
    exact hn
  · rw [getD_setR e]
    refine own_far (h.row j hj) hg ?_
    cases hb : (vs.getD j dV).ownBlock with
    | none => exact .inl rfl
    | some k => exact .inr fun q => h.nd j i hj hi (Ne.symm e) k hb q.symm
/-- A new row at the end. -/
theorem OutW.push {B : Nat} {w0 w w' : World} {s v u : Value} {vs : List Value} {xss : List (List Int)} {xs : List Int} (h : OutW B w0 s vs xss) (he : Ext w0 w) (hB : B ≤ w0.heap.size) (hu : OwnI w0.heap.size w u xs) (ho : w'.ownsRow B 24 1 v (xss.length + 1) (vs ++ [u])) (hg : w.grownBy w' s.ownBlock) : OutW B w' v (vs ++ [u]) (xss ++ [xs]) := by
  have hvl := h.vl
  have hw := h.ext he
  refine ⟨by rw [List.length_append]; exact ho, by simp [hvl], fun i hi => ?_, fun i j hi hj hij k hk => ?_⟩
  · by_cases hii : i < xss.length
    · rw [getD_snoc (by omega), getD_snoc hii]
      refine own_far (hw.row i hii) hg ?_
      rcases own_ne (hw.row i hii) hw.own (by decide) with q | q
      · exact .inl q
      · exact .inr q
    · obtain rfl : i = xss.length := by simp at hi; omega
      rw [getD_last, ← hvl, getD_last]
      refine OwnI.lower (own_far hu hg ?_) hB
      rcases own_ne hu hw.own (by decide) with q | q
      · exact .inl q
      · exact .inr q
  · simp only [List.length_append, List.length_singleton] at hi hj
    by_cases h1 : i < xss.length <;> by_cases h2 : j < xss.length
    · rw [getD_snoc (by omega)] at hk
      rw [getD_snoc (by omega)]
      exact h.nd i j h1 h2 hij k hk
    · obtain rfl : j = xss.length := by omega
      rw [getD_snoc (by omega)] at hk
      rw [← hvl, getD_last]
      have a := (own_block (h.row i h1) hk).2
      exact fun q => by have := (own_block hu q).1; omega
    · obtain rfl : i = xss.length := by omega
      rw [← hvl, getD_last] at hk
      rw [getD_snoc (by omega)]
      have a := (own_block hu hk).1
      exact fun q => by have := (own_block (h.row j h2) q).2; omega
    · omega
/-- Blocks elsewhere were written. -/
theorem OutW.only {B : Nat} {w w' : World} {L : List (Option Nat)} {s : Value} {vs : List Value} {xss : List (List Int)} (h : OutW B w s vs xss) (k : Only L w w') (hne : ∀ j, some j ∈ L → j < B) : OutW B w' s vs xss :=
  ⟨own_only h.own k fun j hj e => by have := (own_block h.own e).1; have := hne j hj; omega, h.vl, fun i hi => OwnI.only (h.row i hi) k hne, h.nd⟩
theorem OutW.blocks {B : Nat} {w : World} {s : Value} {vs : List Value} {xss : List (List Int)} (h : OutW B w s vs xss) {j : Nat} (hj : some j ∈ vs.map Value.ownBlock) : B ≤ j ∧ j < w.heap.size := by
  obtain ⟨v, hv, e⟩ := List.mem_map.1 hj
  obtain ⟨i, hi, ei⟩ := List.mem_iff_getElem.1 hv
  have hil : i < xss.length := by have := h.vl; omega
  have := h.row i hil
  rw [show vs.getD i dV = v from by simp [hi, ei]] at this
  exact own_block this e
/-! the verifier's functions -/
theorem szSS (xss : List (List Int)) (A : Option Addr) (c : Nat) (left : Int) (w : World) (h : Rows w A xss) (hm : xss.length ≤ 9223372036854775807) (hr : ∀ i, i < xss.length → (xss.getD i []).length ≤ 9223372036854775807) (hl : 0 ≤ left ∧ left ≤ 1048576) :
    CallsR Try.prog 47 [.slice A xss.length c, .int .i64 left] w fun v w' => (∃ r : Int, v = .int .i64 r ∧ (if ((xss.length + tot xss : Nat) : Int) ≤ left then r = left - (xss.length + tot xss : Nat) else r < 0)) ∧ Ext w w' := by
  refine CallsR.enter Try.func47 (by decide +kernel) rfl Try.ntmps47 rfl ?_
  by_cases h0 : left - (xss.length : Int) < 0
  · repeat' (first
      | (show EL _ _ _ _ (_ :: _) _ _
         first
         | (show EL _ _ _ _ (⟨_, .move _, _, _, _, _⟩ :: _) _ _; refine EL.f (FV.move rfl) rfl rfl ?_)
         | (show EL _ _ _ _ (⟨_, .assign _, _, _, _, _⟩ :: _) _ _; refine EL.f (FV.assign rfl) rfl rfl ?_)
         | (show EL _ _ _ _ (⟨_, .binOp .sub _ _ _ _, _, _, _, _⟩ :: _) _ _; refine EL.f (FV.subI rfl rfl (by omega)) rfl rfl ?_)
         | (show EL _ _ _ _ (⟨_, .call _, _, _, _, _⟩ :: _) _ _; refine EL.f (FV.len rfl rfl) rfl rfl ?_)
         | (show EL _ _ _ _ (⟨_, .binOp .lss _ _ _ _, _, _, _, _⟩ :: _) _ _; refine EL.fT (FV.lss rfl rfl) rfl (fun _ => rfl) (by omega) ?_))
      | refine EL.nil ?_
      | refine EW.seq ?_
      | refine EW.region ?_
      | refine EW.ret ?_
      | refine EW.condT rfl ?_)
    exact ⟨_, rfl, ⟨_, rfl, by rw [if_neg (by omega)]; omega⟩, Ext.refl _⟩
  repeat' (first
    | (show EL _ _ _ _ (_ :: _) _ _
       first
       | (show EL _ _ _ _ (⟨_, .move _, _, _, _, _⟩ :: _) _ _; refine EL.f (FV.move rfl) rfl rfl ?_)
       | (show EL _ _ _ _ (⟨_, .assign _, _, _, _, _⟩ :: _) _ _; refine EL.f (FV.assign rfl) rfl rfl ?_)
       | (show EL _ _ _ _ (⟨_, .binOp .sub _ _ _ _, _, _, _, _⟩ :: _) _ _; refine EL.f (FV.subI rfl rfl (by omega)) rfl rfl ?_)
       | (show EL _ _ _ _ (⟨_, .call _, _, _, _, _⟩ :: _) _ _; refine EL.f (FV.len rfl rfl) rfl rfl ?_)
       | (show EL _ _ _ _ (⟨_, .binOp .lss _ _ _ _, _, _, _, _⟩ :: _) _ _; refine EL.fF (FV.lss rfl rfl) rfl (fun _ => rfl) (by omega) ?_))
    | refine EL.nil ?_
    | refine EW.seq ?_
    | refine EW.region ?_
    | refine EW.block ?_
    | refine EW.skip ?_
    | refine EW.condF rfl ?_)
  refine EW.loop (X := Nat × Int) (fun y wr => y.1 ≤ xss.length ∧ (0 ≤ y.2 ∧ y.2 ≤ 1048576) ∧ y.2 = left - xss.length - (tot (xss.take y.1) : Nat) ∧ Ext w wr) (fun y => [(0, .slice A xss.length c), (1, .int .i64 y.2), (5, .int .i64 y.1)]) (fun y => xss.length - y.1) (0, left - xss.length) ⟨Nat.zero_le _, by dsimp only; omega, by simp [tot], Ext.refl _⟩ ⟨rfl, rfl, rfl, trivial⟩ ?_
  rintro ⟨i, l⟩ wr ⟨hi, hb, he, hE⟩
  dsimp only at *
  by_cases hlt : i < xss.length
  · obtain ⟨b, o, B1, c1, rfl, hc, hrd⟩ := h i hlt
    have hc' := hE.cell hc
    have hst := tot_take hlt
    have hrw := tot_row hlt
    have hri := hr i hlt
    by_cases hn : ((xss.getD i []).length : Int) ≤ l
    · repeat' (first
        | (show EL _ _ _ _ (_ :: _) _ _
           first
           | (show EL _ _ _ _ (⟨_, .load _ _, _, _, _, _⟩ :: _) _ _; refine EL.f (FV.load1 rfl rfl rfl (hc')) rfl rfl ?_)
           | (show EL _ _ _ _ (⟨_, .move _, _, _, _, _⟩ :: _) _ _; refine EL.f (FV.move rfl) rfl rfl ?_)
           | (show EL _ _ _ _ (⟨_, .call _, _, _, _, _⟩ :: _) _ _; refine EL.f (FV.len rfl rfl) rfl rfl ?_)
           | (show EL _ _ _ _ (⟨_, .binOp .lss _ _ _ _, _, _, _, _⟩ :: _) _ _; refine EL.fT (FV.lss rfl rfl) rfl (fun _ => rfl) (by omega) ?_)
           | (show EL _ _ _ _ (⟨_, .indexAddr _ _ _, _, _, _, _⟩ :: _) _ _; refine EL.f (FV.idx1 rfl rfl rfl rfl (by omega) (by omega)) rfl rfl ?_))
        | refine EL.nil ?_
        | refine EW.seq ?_
        | refine EW.region ?_
        | refine EW.block ?_
        | refine EW.skip ?_
        | refine EW.condT rfl ?_)
      refine EL.h (Hv.call (szInt64S B1 c1 (xss.getD i []).length l hri hb wr) rfl) rfl (fun _ => rfl) ?_
      rintro _ _ ⟨rfl, rfl⟩
      rw [show szL (xss.getD i []).length l = l - (xss.getD i []).length from if_neg (by omega)]
      repeat' (first
        | (show EL _ _ _ _ (_ :: _) _ _
           first
           | (show EL _ _ _ _ (⟨_, .move _, _, _, _, _⟩ :: _) _ _; refine EL.f (FV.move rfl) rfl rfl ?_)
           | (show EL _ _ _ _ (⟨_, .assign _, _, _, _, _⟩ :: _) _ _; refine EL.f (FV.assign rfl) rfl rfl ?_)
           | (show EL _ _ _ _ (⟨_, .binOp .add _ _ _ _, _, _, _, _⟩ :: _) _ _; refine EL.f (FV.addI rfl rfl (by omega)) rfl rfl ?_)
           | (show EL _ _ _ _ (⟨_, .binOp .lss _ _ _ _, _, _, _, _⟩ :: _) _ _; refine EL.fF (FV.lss rfl rfl) rfl (fun _ => rfl) (by omega) ?_))
        | refine EL.nil ?_
        | refine EW.seq ?_
        | refine EW.region ?_
        | refine EW.skip ?_
        | refine EW.condF rfl ?_)
      exact ⟨(i + 1, l - (xss.getD i []).length), ⟨rfl, rfl, rfl, trivial⟩, ⟨by dsimp only; omega, by dsimp only; omega, by dsimp only; omega, hE⟩, by dsimp only; omega⟩
    · repeat' (first
        | (show EL _ _ _ _ (_ :: _) _ _
           first
           | (show EL _ _ _ _ (⟨_, .load _ _, _, _, _, _⟩ :: _) _ _; refine EL.f (FV.load1 rfl rfl rfl (hc')) rfl rfl ?_)
           | (show EL _ _ _ _ (⟨_, .move _, _, _, _, _⟩ :: _) _ _; refine EL.f (FV.move rfl) rfl rfl ?_)
           | (show EL _ _ _ _ (⟨_, .call _, _, _, _, _⟩ :: _) _ _; refine EL.f (FV.len rfl rfl) rfl rfl ?_)
           | (show EL _ _ _ _ (⟨_, .binOp .lss _ _ _ _, _, _, _, _⟩ :: _) _ _; refine EL.fT (FV.lss rfl rfl) rfl (fun _ => rfl) (by omega) ?_)
           | (show EL _ _ _ _ (⟨_, .indexAddr _ _ _, _, _, _, _⟩ :: _) _ _; refine EL.f (FV.idx1 rfl rfl rfl rfl (by omega) (by omega)) rfl rfl ?_))
        | refine EL.nil ?_
        | refine EW.seq ?_
        | refine EW.region ?_
        | refine EW.block ?_
        | refine EW.skip ?_
        | refine EW.condT rfl ?_)
      refine EL.h (Hv.call (szInt64S B1 c1 (xss.getD i []).length l hri hb wr) rfl) rfl (fun _ => rfl) ?_
      rintro _ _ ⟨rfl, rfl⟩
      rw [show szL (xss.getD i []).length l = -1 from if_pos (by omega)]
      repeat' (first
        | refine EL.f (FV.move rfl) rfl rfl ?_
        | refine EL.f (FV.assign rfl) rfl rfl ?_
        | refine EL.fT (FV.lss rfl rfl) rfl (fun _ => rfl) (by omega) ?_
        | refine EL.nil ?_
        | refine EW.seq ?_
        | refine EW.region ?_
        | refine EW.ret ?_
        | refine EW.condT rfl ?_)
      exact ⟨_, rfl, ⟨_, rfl, by rw [if_neg (by omega)]; omega⟩, hE⟩
  · obtain rfl : i = xss.length := by omega
    rw [List.take_length] at he
    repeat' (first
      | (show EL _ _ _ _ (_ :: _) _ _
         first
         | (show EL _ _ _ _ (⟨_, .move _, _, _, _, _⟩ :: _) _ _; refine EL.f (FV.move rfl) rfl rfl ?_)
         | (show EL _ _ _ _ (⟨_, .assign _, _, _, _, _⟩ :: _) _ _; refine EL.f (FV.assign rfl) rfl rfl ?_)
         | (show EL _ _ _ _ (⟨_, .call _, _, _, _, _⟩ :: _) _ _; refine EL.f (FV.len rfl rfl) rfl rfl ?_)
         | (show EL _ _ _ _ (⟨_, .binOp .lss _ _ _ _, _, _, _, _⟩ :: _) _ _; refine EL.fF (FV.lss rfl rfl) rfl (fun _ => rfl) (by omega) ?_))
      | refine EL.nil ?_
      | refine EW.seq ?_
      | refine EW.region ?_
      | refine EW.exit ?_
      | refine EW.ret ?_
      | refine EW.condF rfl ?_)
    exact ⟨_, rfl, ⟨_, rfl, by rw [if_pos (by omega)]; omega⟩, hE⟩
set_option maxHeartbeats 4000000 in
theorem toSS (xss : List (List Int)) (A : Option Addr) (c : Nat) (w : World) (h : Rows w A xss) (hn : xss.length ≤ 1048576) (ht : tot xss ≤ 1048576) :
    CallsR Try.prog 49 [.slice A xss.length c] w fun v w' => ∃ vs g, v = .slice (some ⟨g, 0, none⟩) xss.length xss.length ∧ OutW w.heap.size w' v vs xss ∧ Ext w w' := by
  refine CallsR.enter Try.func49 (by decide +kernel) rfl Try.ntmps49 rfl ?_
  repeat' (first
    | refine EL.f (FV.move rfl) rfl rfl ?_
    | refine EL.f (FV.assign rfl) rfl rfl ?_
    | refine EL.f (FV.len rfl rfl) rfl rfl ?_
    | refine EL.nil ?_
    | refine EW.seq ?_
    | refine EW.region ?_)
  refine EL.h (Hv.make (kl := .i64) rfl rfl rfl rfl (by omega) (by omega)) rfl (fun _ => rfl) ?_
  rintro _ w1 ⟨g, rfl, hg, hat, he1⟩
  have hl0 := hat.len
  generalize (madeCells (Value.slice none 0 0).cells (xss.length * 1)).toList = vs0 at *
  repeat' (first
    | refine EL.f (FV.assign rfl) rfl rfl ?_
    | refine EL.nil ?_
    | refine EW.seq ?_
    | refine EW.region ?_
    | refine EW.block ?_)
  refine EW.loop (X := Nat × List Value) (fun y wr => y.1 ≤ xss.length ∧ y.2.length = xss.length ∧ At wr 24 1 g xss.length xss.length y.2 ∧ (∀ i, i < y.1 → OwnI (g + 1) wr (y.2.getD i dV) (xss.getD i [])) ∧ (∀ i j, i < y.1 → j < y.1 → i ≠ j → ∀ k, (y.2.getD i dV).ownBlock = some k → (y.2.getD j dV).ownBlock ≠ some k) ∧ Ext w wr) (fun y => [(0, .slice A xss.length c), (3, .slice (some ⟨g, 0, none⟩) xss.length xss.length), (4, .int .i64 y.1)]) (fun y => xss.length - y.1) (0, vs0) ⟨Nat.zero_le _, by dsimp only; omega, hat, fun i hi => by omega, fun i j hi => by omega, he1⟩ ⟨rfl, rfl, rfl, trivial⟩ ?_
  clear hat
  rintro ⟨i, vs⟩ wr ⟨hi, hvl, hat, hrow, hnd, hE⟩
  dsimp only at *
  by_cases hlt : i < xss.length
  · obtain ⟨b, o, B1, c1, rfl, hc, hrd⟩ := h i hlt
    have hc' := hE.cell hc
    have hrw := tot_row hlt
    repeat' (first
      | (show EL _ _ _ _ (_ :: _) _ _
         first
         | (show EL _ _ _ _ (⟨_, .load _ _, _, _, _, _⟩ :: _) _ _; refine EL.f (FV.load1 rfl rfl rfl (hc')) rfl rfl ?_)
         | (show EL _ _ _ _ (⟨_, .move _, _, _, _, _⟩ :: _) _ _; refine EL.f (FV.move rfl) rfl rfl ?_)
         | (show EL _ _ _ _ (⟨_, .call _, _, _, _, _⟩ :: _) _ _; refine EL.f (FV.len rfl rfl) rfl rfl ?_)
         | (show EL _ _ _ _ (⟨_, .binOp .lss _ _ _ _, _, _, _, _⟩ :: _) _ _; refine EL.fT (FV.lss rfl rfl) rfl (fun _ => rfl) (by omega) ?_)
         | (show EL _ _ _ _ (⟨_, .indexAddr _ _ _, _, _, _, _⟩ :: _) _ _; refine EL.f (FV.idx1 rfl rfl rfl rfl (by omega) (by omega)) rfl rfl ?_))
      | refine EL.nil ?_
      | refine EW.seq ?_
      | refine EW.region ?_
      | refine EW.block ?_
      | refine EW.skip ?_
      | refine EW.condT rfl ?_)
    refine EL.h (Hv.call (toInts B1 c1 (xss.getD i []) wr (hrd.ext hE) (by omega)) rfl) rfl (fun _ => rfl) ?_
    rintro _ w2 ⟨gi, rfl, hgi, hai, he2⟩
    have hgl := At.lt hat
    have hat2 := At.ext hat he2
    repeat' (first
      | refine EL.f (FV.idx0 rfl rfl rfl rfl (by omega) (by omega)) rfl rfl ?_)
    refine EL.h (Hv.storeG rfl rfl rfl rfl rfl hat2 (getV (by omega))) rfl (fun _ => rfl) ?_
    rintro _ w3 ⟨hat3, hr3⟩
    have hE3 : Ext w w3 := Below.wr (hE.trans he2) hr3 (by omega) (Nat.le_refl _)
    repeat' (first
      | refine EL.f (FV.move rfl) rfl rfl ?_
      | refine EL.f (FV.assign rfl) rfl rfl ?_
      | refine EL.f (FV.addI rfl rfl (by omega)) rfl rfl ?_
      | refine EL.nil ?_
      | refine EW.region ?_)
    refine ⟨(i + 1, vs.set i (.slice (some ⟨gi, 0, none⟩) (xss.getD i []).length (xss.getD i []).length)), ⟨rfl, rfl, rfl, trivial⟩, ⟨by dsimp only; omega, by simpa using hvl, hat3, fun j hj => ?_, fun a b2 ha hb hab k hk => ?_, hE3⟩, by dsimp only; omega⟩
    · dsimp only at hj ⊢
      by_cases e : j = i
      · subst e
        rw [show (vs.set j (.slice (some ⟨gi, 0, none⟩) (xss.getD j []).length (xss.getD j []).length)).getD j dV = .slice (some ⟨gi, 0, none⟩) (xss.getD j []).length (xss.getD j []).length from by simp [show j < vs.length from by omega]]
        exact OwnI.keep (AtI.own hai (by omega)) hr3 (by omega)
      · rw [show (vs.set i (.slice (some ⟨gi, 0, none⟩) (xss.getD i []).length (xss.getD i []).length)).getD j dV = vs.getD j dV from by rw [List.getD_eq_getElem?_getD, List.getElem?_set_ne (Ne.symm e), ← List.getD_eq_getElem?_getD]]
        exact OwnI.keep (OwnI.ext (hrow j (by omega)) he2) hr3 (by omega)
    · dsimp only at ha hb hk ⊢
      have eS : (vs.set i (.slice (some ⟨gi, 0, none⟩) (xss.getD i []).length (xss.getD i []).length)).getD i dV = .slice (some ⟨gi, 0, none⟩) (xss.getD i []).length (xss.getD i []).length := by simp [show i < vs.length from by omega]
      have eN : ∀ q, i ≠ q → (vs.set i (.slice (some ⟨gi, 0, none⟩) (xss.getD i []).length (xss.getD i []).length)).getD q dV = vs.getD q dV := fun q hq => by rw [List.getD_eq_getElem?_getD, List.getElem?_set_ne hq, ← List.getD_eq_getElem?_getD]
      by_cases h1 : a = i
      · subst h1
        rw [eS] at hk
        rw [eN _ hab]
        have hk' : gi = k := by simpa [Value.ownBlock] using hk
        exact fun q => by have := (own_block (hrow b2 (by omega)) q).2; omega
      · rw [eN _ (Ne.symm h1)] at hk
        by_cases h2 : b2 = i
        · subst h2
          rw [eS]
          intro q
          have q' : gi = k := by simpa [Value.ownBlock] using q
          have := (own_block (hrow a (by omega)) hk).2
          omega
        · rw [eN _ (Ne.symm h2)]
          exact hnd a b2 (by omega) (by omega) hab k hk
  · obtain rfl : i = xss.length := by omega
    repeat' (first
      | (show EL _ _ _ _ (_ :: _) _ _
         first
         | (show EL _ _ _ _ (⟨_, .move _, _, _, _, _⟩ :: _) _ _; refine EL.f (FV.move rfl) rfl rfl ?_)
         | (show EL _ _ _ _ (⟨_, .assign _, _, _, _, _⟩ :: _) _ _; refine EL.f (FV.assign rfl) rfl rfl ?_)
         | (show EL _ _ _ _ (⟨_, .call _, _, _, _, _⟩ :: _) _ _; refine EL.f (FV.len rfl rfl) rfl rfl ?_)
         | (show EL _ _ _ _ (⟨_, .binOp .lss _ _ _ _, _, _, _, _⟩ :: _) _ _; refine EL.fF (FV.lss rfl rfl) rfl (fun _ => rfl) (by omega) ?_))
      | refine EL.nil ?_
      | refine EW.seq ?_
      | refine EW.region ?_
      | refine EW.exit ?_
      | refine EW.ret ?_
      | refine EW.condF rfl ?_)
    exact ⟨_, rfl, vs, g, rfl, ⟨At.own hat (by omega), hvl, fun j hj => OwnI.lower (hrow j hj) (by omega), hnd⟩, hE⟩
theorem eqSS (xss : List (List Int)) (A B : Option Addr) (c d : Nat) (w : World) (h : Rows w A xss) (h' : Rows w B xss) (hn : xss.length ≤ 1048576) (ht : tot xss ≤ 1048576) :
    CallsR Try.prog 51 [.slice A xss.length c, .slice B xss.length d] w fun v w' => v = .bool true ∧ Ext w w' := by
  refine CallsR.enter Try.func51 (by decide +kernel) rfl Try.ntmps51 rfl ?_
  repeat' (first
    | (show EL _ _ _ _ (_ :: _) _ _
       first
       | (show EL _ _ _ _ (⟨_, .move _, _, _, _, _⟩ :: _) _ _; refine EL.f (FV.move rfl) rfl rfl ?_)
       | (show EL _ _ _ _ (⟨_, .assign _, _, _, _, _⟩ :: _) _ _; refine EL.f (FV.assign rfl) rfl rfl ?_)
       | (show EL _ _ _ _ (⟨_, .call _, _, _, _, _⟩ :: _) _ _; refine EL.f (FV.len rfl rfl) rfl rfl ?_)
       | (show EL _ _ _ _ (⟨_, .binOp .neq _ _ _ _, _, _, _, _⟩ :: _) _ _; refine EL.fF (FV.neq rfl rfl) rfl (fun _ => rfl) (by omega) ?_))
    | refine EL.nil ?_
    | refine EW.seq ?_
    | refine EW.region ?_
    | refine EW.block ?_
    | refine EW.skip ?_
    | refine EW.condF rfl ?_)
  refine EW.loop (X := Nat) (fun i wr => i ≤ xss.length ∧ Ext w wr) (fun i => [(0, .slice A xss.length c), (1, .slice B xss.length d), (5, .int .i64 i)]) (fun i => xss.length - i) 0 ⟨Nat.zero_le _, Ext.refl _⟩ ⟨rfl, rfl, rfl, trivial⟩ ?_
  rintro i wr ⟨hi, hE⟩
  by_cases hlt : i < xss.length
  · obtain ⟨b, o, B1, c1, rfl, hc, hrd⟩ := h i hlt
    obtain ⟨b2, o2, B2, c2, rfl, hc2, hrd2⟩ := h' i hlt
    have q1 := hE.cell hc
    have q2 := hE.cell hc2
    have hrw := tot_row hlt
    have ed := Ext.drew wr
    repeat' (first
      | refine EL.f (FV.move rfl) rfl rfl ?_
      | refine EL.f (FV.len rfl rfl) rfl rfl ?_
      | refine EL.fT (FV.lss rfl rfl) rfl (fun _ => rfl) (by omega) ?_
      | refine EL.nil ?_
      | refine EW.seq ?_
      | refine EW.region ?_
      | refine EW.block ?_
      | refine EW.skip ?_
      | refine EW.condT rfl ?_)
    refine EW.draw (fun w' => Ext wr w') (pl 0 8 ++ [(8, false), (9, true)]) mixed (by decide +kernel) (Ext.drew _) ?_
    repeat' (first
      | refine EP.f rfl (FV.load rfl rfl rfl (fun w' h' => h'.cell q1)) rfl rfl ?_
      | refine EP.f rfl (FV.load rfl rfl rfl (fun w' h' => h'.cell q2)) rfl rfl ?_
      | refine EP.f rfl (FV.move rfl) rfl rfl ?_
      | refine EP.f rfl (FV.idx1 rfl rfl rfl rfl (by omega) (by omega)) rfl rfl ?_)
    refine EP.h rfl rfl (Hv.call (eqSame B1 B2 c1 c2 (xss.getD i []) wr.drew (hrd.ext (hE.trans ed)) (hrd2.ext (hE.trans ed)) (by omega)) rfl) rfl (fun _ => rfl) ?_
    rintro _ w1 ⟨rfl, he1⟩
    refine ⟨ed.trans he1, ?_⟩
    repeat' (first
      | refine EP.nil ?_
      | refine EP.f rfl (FV.not rfl) rfl rfl ?_)
    repeat' (first
      | refine EL.f (FV.move rfl) rfl rfl ?_
      | refine EL.f (FV.assign rfl) rfl rfl ?_
      | refine EL.f (FV.addI rfl rfl (by omega)) rfl rfl ?_
      | refine EL.nil ?_
      | refine EW.region ?_
      | refine EW.skip ?_
      | refine EW.condF rfl ?_)
    exact ⟨i + 1, ⟨rfl, rfl, rfl, trivial⟩, ⟨by omega, (hE.trans ed).trans he1⟩, by omega⟩
  · obtain rfl : i = xss.length := by omega
    repeat' (first
      | (show EL _ _ _ _ (_ :: _) _ _
         first
         | (show EL _ _ _ _ (⟨_, .move _, _, _, _, _⟩ :: _) _ _; refine EL.f (FV.move rfl) rfl rfl ?_)
         | (show EL _ _ _ _ (⟨_, .assign _, _, _, _, _⟩ :: _) _ _; refine EL.f (FV.assign rfl) rfl rfl ?_)
         | (show EL _ _ _ _ (⟨_, .call _, _, _, _, _⟩ :: _) _ _; refine EL.f (FV.len rfl rfl) rfl rfl ?_)
         | (show EL _ _ _ _ (⟨_, .binOp .lss _ _ _ _, _, _, _, _⟩ :: _) _ _; refine EL.fF (FV.lss rfl rfl) rfl (fun _ => rfl) (by omega) ?_))
      | refine EL.nil ?_
      | refine EW.seq ?_
      | refine EW.region ?_
      | refine EW.exit ?_
      | refine EW.ret ?_
      | refine EW.condF rfl ?_)
    exact ⟨_, rfl, rfl, hE⟩
theorem getD_setSelf {xs : List (List Int)} {i : Nat} {y : List Int} (h : i < xs.length) : (xs.set i y).getD i [] = y := by simp [h]
theorem getD_appR {xs ys : List (List Int)} {i : Nat} (h : xs.length ≤ i) : (xs ++ ys).getD i [] = ys.getD (i - xs.length) [] := by
  simp [List.getD_eq_getElem?_getD, List.getElem?_append_right h]
theorem getD_appL {xs ys : List (List Int)} {i : Nat} (h : i < xs.length) : (xs ++ ys).getD i [] = xs.getD i [] := by
  simp [List.getD_eq_getElem?_getD, List.getElem?_append_left h]
theorem ext_getD {xs ys : List (List Int)} (hl : xs.length = ys.length) (h : ∀ j, j < xs.length → xs.getD j [] = ys.getD j []) : xs = ys := List.ext_getElem hl fun j h1 h2 => by
  have := h j h1
  simpa [h1, h2] using this
theorem markS_step {k i : Nat} {xss : List (List Int)} (h : i < xss.length) : (marksS k (xss.take i) ++ xss.drop i).set i (marks (k + tot (xss.take i)) (xss.getD i []).length) = marksS k (xss.take (i + 1)) ++ xss.drop (i + 1) := by
  have hl : (marksS k (xss.take i)).length = i := by rw [marksS_length, List.length_take]; omega
  refine ext_getD (by simp [marksS_length]; omega) fun j h2 => ?_
  · skip
    have hl2 : (marksS k (xss.take (i + 1))).length = i + 1 := by rw [marksS_length, List.length_take]; omega
    have hj : j < xss.length := by
      rw [List.length_set, List.length_append, hl, List.length_drop] at h2
      omega
    by_cases e : i = j
    · subst e
      rw [getD_setSelf (by rw [List.length_append, hl, List.length_drop]; omega)]
      rw [getD_appL (by omega), marksS_getD (by rw [List.length_take]; omega)]
      rw [show (xss.take (i + 1)).take i = xss.take i from by rw [List.take_take, Nat.min_eq_left (by omega)]]
      rw [show (xss.take (i + 1)).getD i [] = xss.getD i [] from by simp [List.getD_eq_getElem?_getD, List.getElem?_take]]
    · rw [getD_setR e]
      by_cases hji : j < i
      · rw [getD_appL (by omega), getD_appL (by omega), marksS_getD (by rw [List.length_take]; omega), marksS_getD (by rw [List.length_take]; omega)]
        rw [show (xss.take (i + 1)).take j = (xss.take i).take j from by rw [List.take_take, List.take_take, Nat.min_eq_left (by omega), Nat.min_eq_left (by omega)]]
        rw [show (xss.take (i + 1)).getD j [] = (xss.take i).getD j [] from by simp [List.getD_eq_getElem?_getD, List.getElem?_take, hji, show j < i + 1 from by omega]]
      · rw [getD_appR (by omega), getD_appR (by omega), hl, hl2]
        simp only [List.getD_eq_getElem?_getD, List.getElem?_drop]
        rw [show i + (j - i) = i + 1 + (j - (i + 1)) from by omega]
set_option maxHeartbeats 4000000 in
theorem markSS (s : Value) (vs : List Value) (B : Nat) (xss : List (List Int)) (k : Nat) (w : World) (h : OutW B w s vs xss) (hn : xss.length ≤ 1048576) (ht : tot xss ≤ 1048576) (hk : k ≤ 1000000000) :
    CallsR Try.prog 52 [s, .int .i64 k] w fun v w' => v = .int .i64 ((k + tot xss : Nat) : Int) ∧ OutW B w' s vs (marksS k xss) ∧ Only (vs.map Value.ownBlock) w w' := by
  obtain ⟨A, c, rfl, hrd0⟩ := own_form h.own
  have hvl := h.vl
  refine CallsR.enter Try.func52 (by decide +kernel) rfl Try.ntmps52 rfl ?_
  repeat' (first
    | refine EL.f (FV.assign rfl) rfl rfl ?_
    | refine EL.nil ?_
    | refine EW.seq ?_
    | refine EW.region ?_
    | refine EW.block ?_)
  refine EW.loop (X := Nat) (fun i wr => i ≤ xss.length ∧ OutW B wr (.slice A xss.length c) vs (marksS k (xss.take i) ++ xss.drop i) ∧ Only (vs.map Value.ownBlock) w wr) (fun i => [(0, .slice A xss.length c), (1, .int .i64 ((k + tot (xss.take i) : Nat) : Int)), (5, .int .i64 i)]) (fun i => xss.length - i) 0 ⟨Nat.zero_le _, by simpa [marksS] using h, (Only.ext (Ext.refl w)).mono fun x hx => by cases hx⟩ ⟨rfl, rfl, rfl, trivial⟩ ?_
  rintro i wr ⟨hi, hW, hO⟩
  have hll : (marksS k (xss.take i) ++ xss.drop i).length = xss.length := by simp [marksS_length]; omega
  by_cases hlt : i < xss.length
  · obtain ⟨A', c', e, hrd⟩ := own_form hW.own
    rw [hll] at e
    injection e with e1 e2 e3
    subst e1 e3
    obtain ⟨b, o, rfl, hc⟩ := hrd i _ (getV (by omega))
    have hrow := hW.row i (by omega)
    have hgi : (marksS k (xss.take i) ++ xss.drop i).getD i [] = xss.getD i [] := by
      rw [getD_appR (by rw [marksS_length, List.length_take]; omega), marksS_length, List.length_take, Nat.min_eq_left hi, Nat.sub_self]
      simp [List.getD_eq_getElem?_getD]
    rw [hgi] at hrow
    have hrw := tot_row hlt
    have hst := tot_take hlt
    repeat' (first
      | (show EL _ _ _ _ (_ :: _) _ _
         first
         | (show EL _ _ _ _ (⟨_, .load _ _, _, _, _, _⟩ :: _) _ _; refine EL.f (FV.load1 rfl rfl rfl (hc)) rfl rfl ?_)
         | (show EL _ _ _ _ (⟨_, .move _, _, _, _, _⟩ :: _) _ _; refine EL.f (FV.move rfl) rfl rfl ?_)
         | (show EL _ _ _ _ (⟨_, .call _, _, _, _, _⟩ :: _) _ _; refine EL.f (FV.len rfl rfl) rfl rfl ?_)
         | (show EL _ _ _ _ (⟨_, .binOp .lss _ _ _ _, _, _, _, _⟩ :: _) _ _; refine EL.fT (FV.lss rfl rfl) rfl (fun _ => rfl) (by omega) ?_)
         | (show EL _ _ _ _ (⟨_, .indexAddr _ _ _, _, _, _, _⟩ :: _) _ _; refine EL.f (FV.idx1 rfl rfl rfl rfl (by omega) (by omega)) rfl rfl ?_))
      | refine EL.nil ?_
      | refine EW.seq ?_
      | refine EW.region ?_
      | refine EW.block ?_
      | refine EW.skip ?_
      | refine EW.condT rfl ?_)
    refine EL.h (Hv.call (markInts (vs.getD i dV) B (xss.getD i []) (k + tot (xss.take i)) wr hrow (by omega) (by omega)) rfl) rfl (fun _ => rfl) ?_
    rintro _ w1 ⟨rfl, hnew, hg⟩
    have hset := hW.set (i := i) (by omega) hnew hg
    rw [markS_step hlt] at hset
    repeat' (first
      | refine EL.f (FV.move rfl) rfl rfl ?_
      | refine EL.f (FV.assign rfl) rfl rfl ?_
      | refine EL.f (FV.addI rfl rfl (by omega)) rfl rfl ?_
      | refine EL.nil ?_
      | refine EW.region ?_)
    refine ⟨i + 1, ⟨rfl, (show some (Value.int .i64 _) = some (Value.int .i64 _) from by congr 2; omega), rfl, trivial⟩, ⟨by omega, hset, ?_⟩, by omega⟩
    refine (hO.trans (Only.one hg)).mono fun x hx => ?_
    rcases List.mem_append.1 hx with hx | hx
    · exact hx
    · obtain rfl := List.mem_singleton.1 hx
      exact List.mem_map.2 ⟨_, List.mem_of_getElem? (getV (by omega)), rfl⟩
  · obtain rfl : i = xss.length := by omega
    rw [List.take_length, List.drop_length, List.append_nil] at hW
    repeat' (first
      | (show EL _ _ _ _ (_ :: _) _ _
         first
         | (show EL _ _ _ _ (⟨_, .move _, _, _, _, _⟩ :: _) _ _; refine EL.f (FV.move rfl) rfl rfl ?_)
         | (show EL _ _ _ _ (⟨_, .assign _, _, _, _, _⟩ :: _) _ _; refine EL.f (FV.assign rfl) rfl rfl ?_)
         | (show EL _ _ _ _ (⟨_, .call _, _, _, _, _⟩ :: _) _ _; refine EL.f (FV.len rfl rfl) rfl rfl ?_)
         | (show EL _ _ _ _ (⟨_, .binOp .lss _ _ _ _, _, _, _, _⟩ :: _) _ _; refine EL.fF (FV.lss rfl rfl) rfl (fun _ => rfl) (by omega) ?_))
      | refine EL.nil ?_
      | refine EW.seq ?_
      | refine EW.region ?_
      | refine EW.exit ?_
      | refine EW.ret ?_
      | refine EW.condF rfl ?_)
    exact ⟨_, rfl, by rw [List.take_length], hW, hO⟩
theorem heldSS (xss : List (List Int)) (A : Option Addr) (c k : Nat) (w : World) (h : Rows w A (marksS k xss)) (hn : xss.length ≤ 1048576) (ht : tot xss ≤ 1048576) (hk : k ≤ 1000000000) :
    CallsR Try.prog 53 [.slice A xss.length c, .int .i64 k] w fun v w' => v = .int .i64 ((k + tot xss : Nat) : Int) ∧ w = w' := by
  refine CallsR.enter Try.func53 (by decide +kernel) rfl Try.ntmps53 rfl ?_
  repeat' (first
    | refine EL.f (FV.assign rfl) rfl rfl ?_
    | refine EL.nil ?_
    | refine EW.seq ?_
    | refine EW.region ?_
    | refine EW.block ?_)
  refine EW.loop (X := Nat) (fun i wr => i ≤ xss.length ∧ w = wr) (fun i => [(0, .slice A xss.length c), (1, .int .i64 ((k + tot (xss.take i) : Nat) : Int)), (5, .int .i64 i)]) (fun i => xss.length - i) 0 ⟨Nat.zero_le _, rfl⟩ ⟨rfl, rfl, rfl, trivial⟩ ?_
  rintro i _ ⟨hi, rfl⟩
  by_cases hlt : i < xss.length
  · obtain ⟨b, o, B1, c1, rfl, hc, hrd⟩ := h i (by rw [marksS_length]; exact hlt)
    rw [marksS_getD hlt] at hc hrd
    rw [marks_length] at hc
    have hrw := tot_row hlt
    have hst := tot_take hlt
    repeat' (first
      | (show EL _ _ _ _ (_ :: _) _ _
         first
         | (show EL _ _ _ _ (⟨_, .load _ _, _, _, _, _⟩ :: _) _ _; refine EL.f (FV.load1 rfl rfl rfl (hc)) rfl rfl ?_)
         | (show EL _ _ _ _ (⟨_, .move _, _, _, _, _⟩ :: _) _ _; refine EL.f (FV.move rfl) rfl rfl ?_)
         | (show EL _ _ _ _ (⟨_, .call _, _, _, _, _⟩ :: _) _ _; refine EL.f (FV.len rfl rfl) rfl rfl ?_)
         | (show EL _ _ _ _ (⟨_, .binOp .lss _ _ _ _, _, _, _, _⟩ :: _) _ _; refine EL.fT (FV.lss rfl rfl) rfl (fun _ => rfl) (by omega) ?_)
         | (show EL _ _ _ _ (⟨_, .indexAddr _ _ _, _, _, _, _⟩ :: _) _ _; refine EL.f (FV.idx1 rfl rfl rfl rfl (by omega) (by omega)) rfl rfl ?_))
      | refine EL.nil ?_
      | refine EW.seq ?_
      | refine EW.region ?_
      | refine EW.block ?_
      | refine EW.skip ?_
      | refine EW.condT rfl ?_)
    refine EL.h (Hv.call (heldInts B1 c1 (xss.getD i []).length (k + tot (xss.take i)) w hrd (by omega) (by omega)) rfl) rfl (fun _ => rfl) ?_
    rintro _ _ ⟨rfl, rfl⟩
    repeat' (first
      | (show EL _ _ _ _ (_ :: _) _ _
         first
         | (show EL _ _ _ _ (⟨_, .move _, _, _, _, _⟩ :: _) _ _; refine EL.f (FV.move rfl) rfl rfl ?_)
         | (show EL _ _ _ _ (⟨_, .assign _, _, _, _, _⟩ :: _) _ _; refine EL.f (FV.assign rfl) rfl rfl ?_)
         | (show EL _ _ _ _ (⟨_, .binOp .add _ _ _ _, _, _, _, _⟩ :: _) _ _; refine EL.f (FV.addI rfl rfl (by omega)) rfl rfl ?_)
         | (show EL _ _ _ _ (⟨_, .binOp .lss _ _ _ _, _, _, _, _⟩ :: _) _ _; refine EL.fF (FV.lss rfl rfl) rfl (fun _ => rfl) (by omega) ?_))
      | refine EL.nil ?_
      | refine EW.seq ?_
      | refine EW.region ?_
      | refine EW.skip ?_
      | refine EW.condF rfl ?_)
    exact ⟨i + 1, ⟨rfl, (show some (Value.int .i64 _) = some (Value.int .i64 _) from by congr 2; omega), rfl, trivial⟩, ⟨by omega, rfl⟩, by omega⟩
  · obtain rfl : i = xss.length := by omega
    repeat' (first
      | (show EL _ _ _ _ (_ :: _) _ _
         first
         | (show EL _ _ _ _ (⟨_, .move _, _, _, _, _⟩ :: _) _ _; refine EL.f (FV.move rfl) rfl rfl ?_)
         | (show EL _ _ _ _ (⟨_, .assign _, _, _, _, _⟩ :: _) _ _; refine EL.f (FV.assign rfl) rfl rfl ?_)
         | (show EL _ _ _ _ (⟨_, .call _, _, _, _, _⟩ :: _) _ _; refine EL.f (FV.len rfl rfl) rfl rfl ?_)
         | (show EL _ _ _ _ (⟨_, .binOp .lss _ _ _ _, _, _, _, _⟩ :: _) _ _; refine EL.fF (FV.lss rfl rfl) rfl (fun _ => rfl) (by omega) ?_))
      | refine EL.nil ?_
      | refine EW.seq ?_
      | refine EW.region ?_
      | refine EW.exit ?_
      | refine EW.ret ?_
      | refine EW.condF rfl ?_)
    exact ⟨_, rfl, by rw [List.take_length], rfl⟩
end Eng
end Go.Proofs.Ytfkohgfcchhlpaa
