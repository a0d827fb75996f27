/- Contracts of quotients of series. Conditions: numbers, equal lengths. -/
import Derived.Test.YtfkohgfcchhlpaaSer
namespace Go.Proofs.Ytfkohgfcchhlpaa
open Go Go.RowKit
namespace Eng

/-- What is left of xs k behind i products. -/
def qRest (xs ys out : List Int) (k : Nat) : Nat → Int
  | 0 => xs.getD k 0
  | i + 1 => (qRest xs ys out k i - out.getD i 0 * ys.getD (k - i) 0) % 1000003
def qL (xs ys : List Int) : Nat → List Int
  | 0 => []
  | k + 1 => qL xs ys k ++ [qRest xs ys (qL xs ys k) k k * inv (ys.getD 0 0) % 1000003]
def divL (xs ys : List Int) : List Int := qL xs ys xs.length
theorem qL_length (xs ys : List Int) (k : Nat) : (qL xs ys k).length = k := by
  induction k with
  | zero => rfl
  | succ k ih => simp [qL, ih]
theorem divL_length (xs ys : List Int) : (divL xs ys).length = xs.length := qL_length _ _ _
theorem qL_take (xs ys : List Int) (k m : Nat) : (qL xs ys (k + m)).take k = qL xs ys k := by
  induction m with
  | zero => rw [Nat.add_zero, List.take_of_length_le (by rw [qL_length]; omega)]
  | succ m ih =>
    rw [← Nat.add_assoc, qL, List.take_append_of_le_length (by rw [qL_length]; omega), ih]
theorem divL_take (xs ys : List Int) (k : Nat) (h : k ≤ xs.length) : (divL xs ys).take k = qL xs ys k := by
  have := qL_take xs ys k (xs.length - k)
  rwa [show k + (xs.length - k) = xs.length from by omega] at this
theorem qRest_congr (xs ys a b : List Int) (k i : Nat) (h : ∀ j, j < i → a.getD j 0 = b.getD j 0) : qRest xs ys a k i = qRest xs ys b k i := by
  induction i with
  | zero => rfl
  | succ i ih => simp only [qRest]; rw [ih fun j hj => h j (by omega), h i (by omega)]
theorem getD_take {xs : List Int} {k j : Nat} (h : j < k) : (xs.take k).getD j 0 = xs.getD j 0 := by
  simp [h]
theorem divL_get (xs ys : List Int) (k : Nat) (h : k < xs.length) : (divL xs ys).getD k 0 = qRest xs ys (divL xs ys) k k * inv (ys.getD 0 0) % 1000003 := by
  have e := divL_take xs ys (k + 1) h
  have e2 := divL_take xs ys k (by omega)
  rw [← getD_take (show k < k + 1 by omega), e, qL]
  rw [List.getD_eq_getElem?_getD, List.getElem?_append_right (by rw [qL_length]; exact Nat.le_refl _), qL_length, Nat.sub_self]
  simp only [List.getElem?_cons_zero, Option.getD_some]
  congr 2
  refine qRest_congr _ _ _ _ _ _ fun j hj => ?_
  rw [← e2, getD_take hj]
theorem qRest_bounds {xs ys out : List Int} {k : Nat} (nx : nums xs = true) (i : Nat) : 0 ≤ qRest xs ys out k i ∧ qRest xs ys out k i < 1000003 := by
  cases i with
  | zero => exact num_getD nx k
  | succ i => simp only [qRest]; omega
theorem nums_divL {xs ys : List Int} : nums (divL xs ys) = true := by
  refine all_of_lt fun i hi => ?_
  rw [divL_length] at hi
  rw [divL_get xs ys i hi]
  unfold isNum inB
  exact decide_eq_true (by omega)

theorem implQuotient (A B : Option Addr) (c d : Nat) (xs ys : List Int) (w : World) (hx : Rd w A (ints xs)) (hy : Rd w B (ints ys)) (hl : xs.length ≤ ys.length) (h0 : 0 < ys.length) (hn : xs.length ≤ 1000) (nx : nums xs = true) (ny : nums ys = true) :
    CallsR Try.prog 143 [.slice A xs.length c, .slice B ys.length d] w fun v w' => OwnI w.heap.size w' v (divL xs ys) ∧ Ext w w' := by
  refine CallsR.enter Try.func143 (by decide +kernel) rfl Try.ntmps143 rfl ?_
  obtain ⟨b2, o2, rfl, hd0⟩ := hy.all (by rw [ints_length]; omega)
  have hd := hd0 0 _ (ints_get h0)
  have hl0 := divL_length xs ys
  have hib := inv_bounds (ys.getD 0 0)
  refine EW.seq ?_
  refine EW.region ?_
  refine EL.f (FV.assign rfl) rfl rfl ?_
  refine EL.nil ?_
  refine EW.seqM (fun ρ' w' => ∃ g, Sub [(0, .slice A xs.length c), (1, .slice (some ⟨b2, o2, none⟩) ys.length d), (5, .slice (some ⟨g, 0, none⟩) xs.length xs.length), (6, .int .i64 (inv (ys.getD 0 0)))] ρ' ∧ w.heap.size ≤ g ∧ AtI w' g xs.length (List.replicate xs.length 0) ∧ Ext w w') ?_ ?_
  · refine EW.draw (fun w' => Ext w w') (pl 0 2 ++ [(3, true), (4, true), (5, true), (1206, false), (7, true), (8, true)]) mixed (by decide +kernel) (Ext.drew _) ?_
    repeat' (first
      | refine EP.f rfl (FV.load rfl rfl rfl (fun _ h' => h'.cell hd)) rfl rfl ?_
      | refine EP.f rfl (FV.move rfl) rfl rfl ?_
      | refine EP.f rfl (FV.len rfl rfl) rfl rfl ?_
      | refine EP.f rfl (FV.idx1 rfl rfl rfl rfl (by omega) (by omega)) rfl rfl ?_)
    refine EP.pair (i := 2) (j := 6) rfl rfl rfl rfl rfl rfl rfl (fun _ => rfl) (fun _ => rfl) (fun _ => rfl) (fun _ => rfl) (fun _ _ => rfl) (fun _ _ => rfl) ?_ ?_
    · refine (Hv.make (kl := .i64) rfl rfl rfl rfl (by omega) (by omega)).mono ?_
      rintro _ w1 ⟨g, rfl, hg, hat, he⟩
      refine ⟨(Ext.drew _).trans he, (Hv.call (implInverse0 _ _) rfl).mono ?_⟩
      rintro _ _ ⟨rfl, rfl⟩
      refine ⟨(Ext.drew _).trans he, ?_⟩
      rw [madeInts] at hat
      repeat' (first
        | refine EP.nil ?_
        | refine EP.f rfl (FV.assign rfl) rfl rfl ?_)
      exact ⟨g, ⟨rfl, rfl, rfl, rfl, trivial⟩, Nat.le_of_eq hg.symm, by unfold AtI; rw [List.length_replicate]; exact hat, (Ext.drew w).trans he⟩
    · refine (Hv.call (implInverse0 _ _) rfl).mono ?_
      rintro _ _ ⟨rfl, rfl⟩
      refine ⟨Ext.drew _, (Hv.make (kl := .i64) rfl rfl rfl rfl (by omega) (by omega)).mono ?_⟩
      rintro _ w1 ⟨g, rfl, hg, hat, he⟩
      refine ⟨(Ext.drew _).trans he, ?_⟩
      rw [madeInts] at hat
      repeat' (first
        | refine EP.nil ?_
        | refine EP.f rfl (FV.assign rfl) rfl rfl ?_)
      exact ⟨g, ⟨rfl, rfl, rfl, rfl, trivial⟩, Nat.le_of_eq hg.symm, by unfold AtI; rw [List.length_replicate]; exact hat, (Ext.drew w).trans he⟩
  rintro ρ' w1 ⟨g, hs, hg, hat, he⟩
  refine EW.weaken ?_ hs
  clear hs
  repeat' (first
    | refine EL.f (FV.move rfl) rfl rfl ?_
    | refine EL.f (FV.len rfl rfl) rfl rfl ?_
    | refine EL.nil ?_
    | refine EW.seq ?_
    | refine EW.region ?_
    | refine EW.block ?_)
  refine EW.loop (fun k wr => k ≤ xs.length ∧ AtI wr g xs.length (filled (divL xs ys) k xs.length) ∧ Below w.heap.size w wr) (fun k => [(0, .slice A xs.length c), (1, .slice (some ⟨b2, o2, none⟩) ys.length d), (5, .slice (some ⟨g, 0, none⟩) xs.length xs.length), (6, .int .i64 (inv (ys.getD 0 0))), (18, .int .i64 xs.length), (19, .int .i64 k)]) (fun k => xs.length - k) 0 ⟨Nat.zero_le _, by rw [filled_zero]; exact hat, he⟩ ⟨rfl, rfl, rfl, rfl, rfl, rfl, trivial⟩ ?_
  rintro k wr ⟨hk, hat, hb⟩
  have hlen := filled_length (divL xs ys) k xs.length (by omega) hk
  by_cases hlt : k < xs.length
  · obtain ⟨b, o, rfl, hc⟩ := hx.int hlt
    have hc' := (hb.cell (World.block_lt_of_cell? w _ hc)).trans hc
    repeat' (first
      | (show EL _ _ _ _ (_ :: _) _ _
         first
         | (show EL _ _ _ _ (⟨_, .load _ _, _, _, _, _⟩ :: _) _ _; refine EL.f (FV.load1 rfl rfl rfl hc') rfl rfl ?_)
         | (show EL _ _ _ _ (⟨_, .move _, _, _, _, _⟩ :: _) _ _; refine EL.f (FV.move rfl) rfl rfl ?_)
         | (show EL _ _ _ _ (⟨_, .assign _, _, _, _, _⟩ :: _) _ _; refine EL.f (FV.assign rfl) rfl rfl ?_)
         | (show EL _ _ _ _ (⟨_, .binOp .lss _ _ _ _, _, _, _, _⟩ :: _) _ _; refine EL.fT (FV.lss rfl rfl) rfl (fun _ => rfl) (by omega) ?_)
         | (show EL _ _ _ _ (⟨_, .indexAddr _ _ _, _, _, _, _⟩ :: _) _ _; refine EL.f (FV.idx1 rfl rfl rfl rfl (by omega) (by omega)) rfl rfl ?_))
      | refine EL.nil ?_
      | refine EW.seq ?_
      | refine EW.region ?_
      | refine EW.block ?_
      | refine EW.skip ?_
      | refine EW.condT rfl ?_)
    refine EW.loop (fun i wi => i ≤ k ∧ Ext wr wi) (fun i => [(0, .slice (some ⟨b, o, none⟩) xs.length c), (1, .slice (some ⟨b2, o2, none⟩) ys.length d), (5, .slice (some ⟨g, 0, none⟩) xs.length xs.length), (6, .int .i64 (inv (ys.getD 0 0))), (7, .int .i64 k), (8, .int .i64 (qRest xs ys (divL xs ys) k i)), (9, .int .i64 i), (18, .int .i64 xs.length), (19, .int .i64 k)]) (fun i => k - i) 0 ⟨Nat.zero_le _, Ext.refl _⟩ ⟨rfl, rfl, rfl, rfl, rfl, rfl, rfl, rfl, rfl, trivial⟩ ?_
    rintro i wi ⟨hi, hei⟩
    have hbi : Below w.heap.size w wi := Below.then_ hb (Nat.le_refl _) hei
    have hati := At.ext hat hei
    by_cases hik : i < k
    · have hd := hd0 (k - i) _ (ints_get (show k - i < ys.length by omega))
      have hd' := (hbi.cell (World.block_lt_of_cell? w _ hd)).trans hd
      have hd'' : wi.cell? ⟨b2, o2 + ((k : Int) - (i : Int)).toNat, none⟩ = some (.int .i64 (ys.getD (k - i) 0)) := by
        rw [show ((k : Int) - (i : Int)).toNat = k - i from by omega]; exact hd'
      have ho := AtI.int hati (show i < (filled (divL xs ys) k xs.length).length by omega)
      have e0 : (filled (divL xs ys) k xs.length).getD i 0 = (divL xs ys).getD i 0 := by
        unfold filled
        rw [List.getD_eq_getElem?_getD, List.getElem?_append_left (by rw [List.length_take, divL_length]; omega), ← List.getD_eq_getElem?_getD, getD_take hik]
      rw [e0] at ho
      have hm := mul_bounds (num_getD (nums_divL (xs := xs) (ys := ys)) i) (num_getD ny (k - i))
      repeat' (first
        | refine EL.f (FV.move rfl) rfl rfl ?_
        | refine EL.fT (FV.lss rfl rfl) rfl (fun _ => rfl) (by omega) ?_
        | refine EL.nil ?_
        | refine EW.seq ?_
        | refine EW.region ?_
        | refine EW.block ?_
        | refine EW.skip ?_
        | refine EW.condT rfl ?_)
      refine EW.draw (fun w' => w' = wi.drew) (pl 0 12 ++ [(12, false), (13, true)]) mixed (by decide +kernel) rfl ?_
      repeat' (first
        | refine EP.f rfl (FV.load rfl rfl rfl (fun _ h' => atDrew h' ho)) rfl rfl ?_
        | refine EP.f rfl (FV.load rfl rfl rfl (fun _ h' => atDrew h' hd'')) rfl rfl ?_
        | refine EP.f rfl (FV.mulI rfl rfl (by omega)) rfl rfl ?_
        | (refine EP.h rfl rfl (Hv.call (implMinus _ _ _) rfl) rfl (fun _ => rfl) ?_; rintro _ _ ⟨rfl, rfl⟩; refine ⟨rfl, ?_⟩)
        | refine EP.nil ?_
        | refine EP.f rfl (FV.move rfl) rfl rfl ?_
        | refine EP.f rfl (FV.assign rfl) rfl rfl ?_
        | refine EP.f rfl (FV.subI rfl rfl (by omega)) rfl rfl ?_
        | refine EP.f rfl (FV.idx0 rfl rfl rfl rfl (by omega) (by omega)) rfl rfl ?_
        | refine EP.f rfl (FV.idx1 rfl rfl rfl rfl (by omega) (by omega)) rfl rfl ?_)
      repeat' (first
        | refine EL.f (FV.move rfl) rfl rfl ?_
        | refine EL.f (FV.assign rfl) rfl rfl ?_
        | refine EL.f (FV.addI rfl rfl (by omega)) rfl rfl ?_
        | refine EL.nil ?_
        | refine EW.region ?_)
      exact ⟨i + 1, ⟨rfl, rfl, rfl, rfl, rfl, rfl, rfl, rfl, rfl, trivial⟩, ⟨by omega, hei.trans (Ext.drew _)⟩, by omega⟩
    · obtain rfl : i = k := by omega
      have hq := qRest_bounds (ys := ys) (out := divL xs ys) (k := i) nx i
      have hm := mul_bounds hq hib
      have hkk : i < (filled (divL xs ys) i xs.length).length := by omega
      repeat' (first
        | (show EL _ _ _ _ (_ :: _) _ _
           first
           | (show EL _ _ _ _ (⟨_, .binOp .mul _ _ _ _, _, _, _, _⟩ :: _) _ _; refine EL.f (FV.mulI rfl rfl (by omega)) rfl rfl ?_)
           | (show EL _ _ _ _ (⟨_, .store _ _ _, _, _, _, _⟩ :: _) _ _; (refine EL.h (Hv.storeAt rfl rfl rfl rfl rfl hati (ints_get hkk)) rfl (fun _ => rfl) ?_; rintro _ _ ⟨rfl, _⟩))
           | (show EL _ _ _ _ (⟨_, .move _, _, _, _, _⟩ :: _) _ _; refine EL.f (FV.move rfl) rfl rfl ?_)
           | (show EL _ _ _ _ (⟨_, .binOp .add _ _ _ _, _, _, _, _⟩ :: _) _ _; refine EL.f (FV.addI rfl rfl (by omega)) rfl rfl ?_)
           | (show EL _ _ _ _ (⟨_, .binOp .rem _ _ _ _, _, _, _, _⟩ :: _) _ _; refine EL.f (FV.remI rfl rfl (by decide) (by omega)) rfl rfl ?_)
           | (show EL _ _ _ _ (⟨_, .binOp .lss _ _ _ _, _, _, _, _⟩ :: _) _ _; refine EL.fF (FV.lss rfl rfl) rfl (fun _ => rfl) (by omega) ?_)
           | (show EL _ _ _ _ (⟨_, .indexAddr _ _ _, _, _, _, _⟩ :: _) _ _; refine EL.f (FV.idx0 rfl rfl rfl rfl (by omega) (by omega)) rfl rfl ?_))
        | refine EL.nil ?_
        | refine EW.seq ?_
        | refine EW.region ?_
        | refine EW.exit ?_
        | refine EW.condF rfl ?_)
      refine ⟨i + 1, ⟨rfl, rfl, rfl, rfl, rfl, rfl, trivial⟩, ⟨by omega, ?_, Below.set_ hbi (by omega) _⟩, by omega⟩
      have e := filled_set (divL xs ys) i xs.length (by omega) hlt
      rw [divL_get xs ys i hlt] at e
      rw [← e]
      exact AtI.set_ hati _
  · obtain rfl : k = xs.length := by omega
    have e := filled_full (divL xs ys)
    rw [hl0] at e
    rw [e] at hat
    repeat' (first
      | refine EL.f (FV.move rfl) rfl rfl ?_
      | refine EL.f (FV.assign rfl) rfl rfl ?_
      | refine EL.fF (FV.lss rfl rfl) rfl (fun _ => rfl) (by omega) ?_
      | refine EL.nil ?_
      | refine EW.seq ?_
      | refine EW.region ?_
      | refine EW.exit ?_
      | refine EW.ret ?_
      | refine EW.condF rfl ?_)
    refine ⟨_, rfl, ?_, hb⟩
    have := AtI.own (B := w.heap.size) hat (by omega)
    rwa [hl0] at this

theorem specDiv (A B : Option Addr) (c d : Nat) (xs ys : List Int) (w : World) (hx : Rd w A (ints xs)) (hy : Rd w B (ints ys)) (hl : xs.length ≤ ys.length) (h0 : 0 < ys.length) (hn : xs.length ≤ 1000) (nx : nums xs = true) :
    CallsR Try.prog 150 [.slice A xs.length c, .slice B ys.length d] w fun v w' => OwnI w.heap.size w' v (divL xs ys) ∧ Ext w w' := by
  refine CallsR.enter Try.func150 (by decide +kernel) rfl Try.ntmps150 rfl ?_
  obtain ⟨b2, o2, rfl, hd0⟩ := hy.all (by rw [ints_length]; omega)
  have hd := hd0 0 _ (ints_get h0)
  repeat' (first
    | refine EL.f (FV.assign rfl) rfl rfl ?_
    | refine EL.nil ?_
    | refine EW.seq ?_
    | refine EW.region ?_)
  refine EL.h (Hv.build0 rfl rfl) rfl (fun _ => rfl) ?_
  rintro v1 w1 ⟨hown, he⟩
  have hd1 := he.cell hd
  repeat' (first
    | (show EL _ _ _ _ (_ :: _) _ _
       first
       | (show EL _ _ _ _ (⟨_, .call _, _, _, _, _⟩ :: _) _ _; (refine EL.h (Hv.call (specInverse0 _ _) rfl) rfl (fun _ => rfl) ?_; rintro _ _ ⟨rfl, rfl⟩))
       | (show EL _ _ _ _ (⟨_, .move _, _, _, _, _⟩ :: _) _ _; refine EL.f (FV.move rfl) rfl rfl ?_)
       | (show EL _ _ _ _ (⟨_, .assign _, _, _, _, _⟩ :: _) _ _; refine EL.f (FV.assign rfl) rfl rfl ?_)
       | (show EL _ _ _ _ (⟨_, .indexAddr _ _ _, _, _, _, _⟩ :: _) _ _; refine EL.f (FV.idx1 rfl rfl rfl rfl (by omega) (by omega)) rfl rfl ?_)
       | (show EL _ _ _ _ (⟨_, .load _ _, _, _, _, _⟩ :: _) _ _; refine EL.f (FV.load1 rfl rfl rfl (by assumption)) rfl rfl ?_))
    | refine EL.nil ?_
    | refine EW.seq ?_
    | refine EW.region ?_
    | refine EW.block ?_)
  refine EW.loop (fun (s : Nat × Value) wr => s.1 ≤ xs.length ∧ OwnI w.heap.size wr s.2 (qL xs ys s.1) ∧ Below w.heap.size w wr) (fun s => [(0, .slice A xs.length c), (1, .slice (some ⟨b2, o2, none⟩) ys.length d), (5, s.2), (6, .int .i64 (inv (ys.getD 0 0))), (7, .int .i64 s.1)]) (fun s => xs.length - s.1) (0, v1) ⟨Nat.zero_le _, hown, he⟩ ⟨rfl, rfl, rfl, rfl, rfl, trivial⟩ ?_
  rintro ⟨k, v⟩ wr ⟨hk, hown, hb⟩
  dsimp only at *
  by_cases hlt : k < xs.length
  · obtain ⟨b, o, rfl, hc⟩ := hx.int hlt
    have hc' := (hb.cell (World.block_lt_of_cell? w _ hc)).trans hc
    have hql := qL_length xs ys k
    repeat' (first
      | (show EL _ _ _ _ (_ :: _) _ _
         first
         | (show EL _ _ _ _ (⟨_, .load _ _, _, _, _, _⟩ :: _) _ _; refine EL.f (FV.load1 rfl rfl rfl hc') rfl rfl ?_)
         | (show EL _ _ _ _ (⟨_, .move _, _, _, _, _⟩ :: _) _ _; refine EL.f (FV.move rfl) rfl rfl ?_)
         | (show EL _ _ _ _ (⟨_, .assign _, _, _, _, _⟩ :: _) _ _; refine EL.f (FV.assign rfl) rfl rfl ?_)
         | (show EL _ _ _ _ (⟨_, .call _, _, _, _, _⟩ :: _) _ _; refine EL.f (FV.len rfl rfl) rfl rfl ?_)
         | (show EL _ _ _ _ (⟨_, .binOp .lss _ _ _ _, _, _, _, _⟩ :: _) _ _; refine EL.fT (FV.lss rfl rfl) rfl (fun _ => rfl) (by omega) ?_)
         | (show EL _ _ _ _ (⟨_, .indexAddr _ _ _, _, _, _, _⟩ :: _) _ _; refine EL.f (FV.idx1 rfl rfl rfl rfl (by omega) (by omega)) rfl rfl ?_))
      | refine EL.nil ?_
      | refine EW.seq ?_
      | refine EW.region ?_
      | refine EW.block ?_
      | refine EW.skip ?_
      | refine EW.condT rfl ?_)
    refine EW.loop (fun i wi => i ≤ k ∧ Ext wr wi) (fun i => [(0, .slice (some ⟨b, o, none⟩) xs.length c), (1, .slice (some ⟨b2, o2, none⟩) ys.length d), (5, v), (6, .int .i64 (inv (ys.getD 0 0))), (7, .int .i64 k), (8, .int .i64 (qRest xs ys (qL xs ys k) k i)), (9, .int .i64 i)]) (fun i => k - i) 0 ⟨Nat.zero_le _, Ext.refl _⟩ ⟨rfl, rfl, rfl, rfl, rfl, rfl, rfl, trivial⟩ ?_
    rintro i wi ⟨hi, hei⟩
    have hbi : Below w.heap.size w wi := Below.then_ hb (Nat.le_refl _) hei
    by_cases hik : i < k
    · have hd := hd0 (k - i) _ (ints_get (show k - i < ys.length by omega))
      have hd' := (hbi.cell (World.block_lt_of_cell? w _ hd)).trans hd
      have hd'' : wi.cell? ⟨b2, o2 + ((k : Int) - (i : Int)).toNat, none⟩ = some (.int .i64 (ys.getD (k - i) 0)) := by
        rw [show ((k : Int) - (i : Int)).toNat = k - i from by omega]; exact hd'
      obtain ⟨g, cc, rfl, hB, hat⟩ := own_at hown (by omega)
      have ho := (At.ext hat hei).cell (ints_get (show i < (qL xs ys k).length by omega))
      have hm : 0 ≤ (qL xs ys k).getD i 0 * ys.getD (k - i) 0 % 1000003 ∧ (qL xs ys k).getD i 0 * ys.getD (k - i) 0 % 1000003 < 1000003 := by omega
      have hq := qRest_bounds (ys := ys) (out := qL xs ys k) (k := k) nx i
      rw [hql]
      repeat' (first
        | refine EL.f (FV.move rfl) rfl rfl ?_
        | refine EL.fT (FV.lss rfl rfl) rfl (fun _ => rfl) (by omega) ?_
        | refine EL.nil ?_
        | refine EW.seq ?_
        | refine EW.region ?_
        | refine EW.block ?_
        | refine EW.skip ?_
        | refine EW.condT rfl ?_)
      refine EW.draw (fun w' => w' = wi.drew) (pl 0 11 ++ [(11, false), (12, false), (13, true)]) mixed (by decide +kernel) rfl ?_
      repeat' (first
        | refine EP.f rfl (FV.load rfl rfl rfl (fun _ h' => atDrew h' ho)) rfl rfl ?_
        | refine EP.f rfl (FV.load rfl rfl rfl (fun _ h' => atDrew h' hd'')) rfl rfl ?_
        | (refine EP.h rfl rfl (Hv.call (specTimes _ _ _) rfl) rfl (fun _ => rfl) ?_; rintro _ _ ⟨rfl, rfl⟩; refine ⟨rfl, ?_⟩)
        | (refine EP.h rfl rfl (Hv.call (specMinus _ _ (by omega) (by omega) _) rfl) rfl (fun _ => rfl) ?_; rintro _ _ ⟨rfl, rfl⟩; refine ⟨rfl, ?_⟩)
        | refine EP.nil ?_
        | refine EP.f rfl (FV.move rfl) rfl rfl ?_
        | refine EP.f rfl (FV.assign rfl) rfl rfl ?_
        | refine EP.f rfl (FV.subI rfl rfl (by omega)) rfl rfl ?_
        | refine EP.f rfl (FV.idx0 rfl rfl rfl rfl (by omega) (by omega)) rfl rfl ?_
        | refine EP.f rfl (FV.idx1 rfl rfl rfl rfl (by omega) (by omega)) rfl rfl ?_)
      repeat' (first
        | refine EL.f (FV.move rfl) rfl rfl ?_
        | refine EL.f (FV.assign rfl) rfl rfl ?_
        | refine EL.f (FV.addI rfl rfl (by omega)) rfl rfl ?_
        | refine EL.nil ?_
        | refine EW.region ?_)
      have e : qRest xs ys (qL xs ys k) k (i + 1) = (qRest xs ys (qL xs ys k) k i - (qL xs ys k).getD i 0 * ys.getD (k - i) 0 % 1000003) % 1000003 := by
        simp only [qRest]
        omega
      exact ⟨i + 1, ⟨rfl, rfl, rfl, rfl, rfl, by rw [e]; rfl, rfl, trivial⟩, ⟨by omega, hei.trans (Ext.drew _)⟩, by omega⟩
    · obtain rfl : i = k := by omega
      repeat' (first
        | (refine EL.h (Hv.call (specTimes _ _ _) rfl) rfl (fun _ => rfl) ?_; rintro _ _ ⟨rfl, rfl⟩)
        | refine EL.f (FV.move rfl) rfl rfl ?_
        | refine EL.fF (FV.lss rfl rfl) rfl (fun _ => rfl) (by omega) ?_
        | refine EL.nil ?_
        | refine EW.seq ?_
        | refine EW.region ?_
        | refine EW.exit ?_
        | refine EW.condF rfl ?_)
      refine EL.h (Hv.build1 rfl rfl rfl rfl) rfl (fun _ => rfl) ?_
      rintro _ _ ⟨rfl, rfl⟩
      refine EL.h (Hv.append1 (B := w.heap.size) rfl rfl rfl rfl rfl (own_ext hown (hei.trans (Ext.alloc _ _))) (World.cell?_alloc_new _ _ _ _) rfl (by omega) (by omega) (by have := hbi.size; simp; omega)) rfl (fun _ => rfl) ?_
      rintro v' w' ⟨hown', _, hbel⟩
      repeat' (first
        | refine EL.f (FV.move rfl) rfl rfl ?_
        | refine EL.f (FV.assign rfl) rfl rfl ?_
        | refine EL.f (FV.addI rfl rfl (by omega)) rfl rfl ?_
        | refine EL.nil ?_
        | refine EW.region ?_)
      refine ⟨(i + 1, v'), ⟨rfl, rfl, rfl, rfl, rfl, trivial⟩, ⟨by omega, ?_, (hbi.alloc hbi.size _).trans hbel⟩, by simp only; omega⟩
      unfold OwnI
      rw [qL, ints_append, List.length_append]
      exact hown'
  · obtain rfl : k = xs.length := by omega
    repeat' (first
      | (show EL _ _ _ _ (_ :: _) _ _
         first
         | (show EL _ _ _ _ (⟨_, .move _, _, _, _, _⟩ :: _) _ _; refine EL.f (FV.move rfl) rfl rfl ?_)
         | (show EL _ _ _ _ (⟨_, .assign _, _, _, _, _⟩ :: _) _ _; refine EL.f (FV.assign rfl) rfl rfl ?_)
         | (show EL _ _ _ _ (⟨_, .call _, _, _, _, _⟩ :: _) _ _; refine EL.f (FV.len rfl rfl) rfl rfl ?_)
         | (show EL _ _ _ _ (⟨_, .binOp .lss _ _ _ _, _, _, _, _⟩ :: _) _ _; refine EL.fF (FV.lss rfl rfl) rfl (fun _ => rfl) (by omega) ?_))
      | refine EL.nil ?_
      | refine EW.seq ?_
      | refine EW.region ?_
      | refine EW.exit ?_
      | refine EW.ret ?_
      | refine EW.condF rfl ?_)
    exact ⟨_, rfl, hown, hb⟩
end Eng
end Go.Proofs.Ytfkohgfcchhlpaa
