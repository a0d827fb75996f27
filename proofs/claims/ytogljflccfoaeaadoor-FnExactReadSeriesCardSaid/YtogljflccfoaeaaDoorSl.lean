/- Contracts of the verifier's functions on slices of int64: copy, compare, mark, look at marks. Conditions: the lengths. -/
import Derived.Test.YtogljflccfoaeaaDoorTab
import Derived.Test.YtogljflccfoaeaaDoorMem
namespace Go.Proofs.YtogljflccfoaeaaDoor
open Go Go.RowKit
namespace Eng

/-- A slice of numbers of the call's own. -/
def OwnI (B : Nat) (w : World) (v : Value) (xs : List Int) : Prop := w.ownsRow B 2 1 v xs.length (ints xs)
def AtI (w : World) (g : Nat) (c : Nat) (xs : List Int) : Prop := At w 2 1 g xs.length c (ints xs)
theorem OwnI.form {B : Nat} {w : World} {v : Value} {xs : List Int} (h : OwnI B w v xs) : ∃ A c, v = .slice A xs.length c ∧ Rd w A (ints xs) := own_form h
theorem OwnI.ext {B : Nat} {w w' : World} {v : Value} {xs : List Int} (h : OwnI B w v xs) (he : Ext w w') : OwnI B w' v xs := own_ext h he
theorem OwnI.lower {B B' : Nat} {w : World} {v : Value} {xs : List Int} (h : OwnI B w v xs) (hB : B' ≤ B) : OwnI B' w v xs := own_lower h hB
theorem AtI.own {B : Nat} {w : World} {g c : Nat} {xs : List Int} (h : AtI w g c xs) (hB : B ≤ g) : OwnI B w (.slice (some ⟨g, 0, none⟩) xs.length c) xs := At.own h hB
theorem AtI.int {w : World} {g c k : Nat} {xs : List Int} (h : AtI w g c xs) (hk : k < xs.length) : w.cell? ⟨g, k, none⟩ = some (.int .i64 (xs.getD k 0)) := h.cell (ints_get hk)
theorem AtI.set_ {w : World} {g c k : Nat} {xs : List Int} (h : AtI w g c xs) (x : Int) : AtI (w.setCell ⟨g, k, none⟩ (.int .i64 x)) g c (xs.set k x) := by
  unfold AtI
  rw [ints_set, List.length_set]
  exact At.set_ h k _

/-- behind a make, k cells filled -/
def filled (xs : List Int) (k n : Nat) : List Int := xs.take k ++ List.replicate (n - k) 0
theorem filled_zero (xs : List Int) (n : Nat) : filled xs 0 n = List.replicate n 0 := by simp [filled]
theorem filled_full (xs : List Int) : filled xs xs.length xs.length = xs := by simp [filled]
theorem filled_length (xs : List Int) (k n : Nat) (h : k ≤ xs.length) (h2 : k ≤ n) : (filled xs k n).length = n := by
  simp [filled]; omega
theorem filled_set (xs : List Int) (k n : Nat) (h : k < xs.length) (h2 : k < n) : (filled xs k n).set k (xs.getD k 0) = filled xs (k + 1) n := by
  unfold filled
  rw [List.set_append_right _ _ (by simp; omega), List.take_succ_eq_append_getElem h, List.append_assoc]
  rw [show n - k = (n - (k + 1)) + 1 from by omega, List.replicate_succ, List.length_take, Nat.min_eq_left (Nat.le_of_lt h), Nat.sub_self, List.set_cons_zero]
  simp [h]

theorem toInts (A : Option Addr) (c : Nat) (xs : List Int) (w : World) (h : Rd w A (ints xs)) (hn : xs.length ≤ 1048576) :
    CallsR Tryd.prog 12 [.slice A xs.length c] w fun v w' => ∃ g, v = .slice (some ⟨g, 0, none⟩) xs.length xs.length ∧ w.heap.size ≤ g ∧ AtI w' g xs.length xs ∧ Ext w w' := by
  refine CallsR.enter Tryd.func12 (by decide +kernel) rfl Tryd.ntmps12 rfl ?_
  repeat' (first
    | (show EL _ _ _ _ (_ :: _) _ _
       first
       | (show EL _ _ _ _ (⟨_, .makeSlice _ _ _, _, _, _, _⟩ :: _) _ _; (refine EL.h (Hv.make (kl := .i64) rfl rfl rfl rfl (by omega) (by omega)) rfl (fun _ => rfl) ?_; rintro _ w1 ⟨g, rfl, hg, hat, he⟩))
       | (show EL _ _ _ _ (⟨_, .move _, _, _, _, _⟩ :: _) _ _; refine EL.f (FV.move rfl) rfl rfl ?_)
       | (show EL _ _ _ _ (⟨_, .assign _, _, _, _, _⟩ :: _) _ _; refine EL.f (FV.assign rfl) rfl rfl ?_)
       | (show EL _ _ _ _ (⟨_, .call _, _, _, _, _⟩ :: _) _ _; refine EL.f (FV.len rfl rfl) rfl rfl ?_))
    | refine EL.nil ?_
    | refine EW.seq ?_
    | refine EW.region ?_
    | refine EW.block ?_)
  rw [madeInts] at hat
  refine EW.loop (fun k wr => k ≤ xs.length ∧ AtI wr g xs.length (filled xs k xs.length) ∧ Below w.heap.size w wr) (fun k => [(0, .slice A xs.length c), (3, .slice (some ⟨g, 0, none⟩) xs.length xs.length), (4, .int .i64 k)]) (fun k => xs.length - k) 0 ⟨Nat.zero_le _, ?_, he⟩ ⟨rfl, rfl, rfl, trivial⟩ ?_
  · rw [filled_zero]
    unfold AtI
    rw [List.length_replicate]
    exact hat
  rintro k wr ⟨hk, hat, hb⟩
  have hlen := filled_length xs k xs.length hk hk
  by_cases hlt : k < xs.length
  · obtain ⟨b, o, rfl, hc⟩ := h.int hlt
    have hc' := (hb.cell (World.block_lt_of_cell? w _ hc)).trans hc
    have hkk : k < (filled xs k xs.length).length := by omega
    repeat' (first
      | (show EL _ _ _ _ (_ :: _) _ _
         first
         | (show EL _ _ _ _ (⟨_, .load _ _, _, _, _, _⟩ :: _) _ _; refine EL.f (FV.load1 rfl rfl rfl hc') rfl rfl ?_)
         | (show EL _ _ _ _ (⟨_, .store _ _ _, _, _, _, _⟩ :: _) _ _; (refine EL.h (Hv.storeAt rfl rfl rfl rfl rfl hat (ints_get hkk)) rfl (fun _ => rfl) ?_; rintro _ _ ⟨rfl, hat2⟩))
         | (show EL _ _ _ _ (⟨_, .move _, _, _, _, _⟩ :: _) _ _; refine EL.f (FV.move rfl) rfl rfl ?_)
         | (show EL _ _ _ _ (⟨_, .assign _, _, _, _, _⟩ :: _) _ _; refine EL.f (FV.assign rfl) rfl rfl ?_)
         | (show EL _ _ _ _ (⟨_, .binOp .add _ _ _ _, _, _, _, _⟩ :: _) _ _; refine EL.f (FV.addI rfl rfl (by omega)) rfl rfl ?_)
         | (show EL _ _ _ _ (⟨_, .call _, _, _, _, _⟩ :: _) _ _; refine EL.f (FV.len rfl rfl) rfl rfl ?_)
         | (show EL _ _ _ _ (⟨_, .binOp .lss _ _ _ _, _, _, _, _⟩ :: _) _ _; refine EL.fT (FV.lss rfl rfl) rfl (fun _ => rfl) (by omega) ?_)
         | (show EL _ _ _ _ (⟨_, .indexAddr _ _ _, _, _, _, _⟩ :: _) _ _; first | refine EL.f (FV.idx0 rfl rfl rfl rfl (by omega) (by omega)) rfl rfl ?_ | refine EL.f (FV.idx1 rfl rfl rfl rfl (by omega) (by omega)) rfl rfl ?_))
      | refine EL.nil ?_
      | refine EW.seq ?_
      | refine EW.region ?_
      | refine EW.block ?_
      | refine EW.skip ?_
      | refine EW.condT rfl ?_)
    refine ⟨k + 1, ⟨rfl, rfl, rfl, trivial⟩, ⟨by omega, ?_, Below.set_ hb (by omega) _⟩, by omega⟩
    have := hat.set_ (k := k) (xs.getD k 0)
    rwa [filled_set xs k _ hlt hlt] at this
  · obtain rfl : k = xs.length := by omega
    rw [filled_full] at hat
    repeat' (first
      | (show EL _ _ _ _ (_ :: _) _ _
         first
         | (show EL _ _ _ _ (⟨_, .move _, _, _, _, _⟩ :: _) _ _; refine EL.f (FV.move rfl) rfl rfl ?_)
         | (show EL _ _ _ _ (⟨_, .assign _, _, _, _, _⟩ :: _) _ _; refine EL.f (FV.assign rfl) rfl rfl ?_)
         | (show EL _ _ _ _ (⟨_, .call _, _, _, _, _⟩ :: _) _ _; refine EL.f (FV.len rfl rfl) rfl rfl ?_)
         | (show EL _ _ _ _ (⟨_, .binOp .lss _ _ _ _, _, _, _, _⟩ :: _) _ _; refine EL.fF (FV.lss rfl rfl) rfl (fun _ => rfl) (by omega) ?_))
      | refine EL.nil ?_
      | refine EW.seq ?_
      | refine EW.region ?_
      | refine EW.exit ?_
      | refine EW.ret ?_
      | refine EW.condF rfl ?_)
    exact ⟨_, rfl, g, rfl, by omega, hat, hb⟩

/-- The marks k, k + 1, .. -/
def marks (k n : Nat) : List Int := (List.range n).map fun i => ((k + i : Nat) : Int)
theorem marks_length (k n : Nat) : (marks k n).length = n := by simp [marks]
theorem marks_getD (k n i : Nat) (h : i < n) : (marks k n).getD i 0 = ((k + i : Nat) : Int) := by simp [marks, h]

theorem eqInts (A B : Option Addr) (c d : Nat) (xs ys : List Int) (w : World) (hx : Rd w A (ints xs)) (hy : Rd w B (ints ys)) (hn : xs.length ≤ 1048576) :
    CallsR Tryd.prog 8 [.slice A xs.length c, .slice B ys.length d] w fun v w' => v = .bool (decide (xs = ys)) ∧ Ext w w' := by
  refine CallsR.enter Tryd.func8 (by decide +kernel) rfl Tryd.ntmps8 rfl ?_
  by_cases hl : xs.length = ys.length
  · repeat' (first
      | (show EL _ _ _ _ (_ :: _) _ _
         first
         | (show EL _ _ _ _ (⟨_, .move _, _, _, _, _⟩ :: _) _ _; refine EL.f (FV.move rfl) rfl rfl ?_)
         | (show EL _ _ _ _ (⟨_, .assign _, _, _, _, _⟩ :: _) _ _; refine EL.f (FV.assign rfl) rfl rfl ?_)
         | (show EL _ _ _ _ (⟨_, .call _, _, _, _, _⟩ :: _) _ _; refine EL.f (FV.len rfl rfl) rfl rfl ?_)
         | (show EL _ _ _ _ (⟨_, .binOp .neq _ _ _ _, _, _, _, _⟩ :: _) _ _; refine EL.fF (FV.neq rfl rfl) rfl (fun _ => rfl) (by omega) ?_))
      | refine EL.nil ?_
      | refine EW.seq ?_
      | refine EW.region ?_
      | refine EW.block ?_
      | refine EW.skip ?_
      | refine EW.condF rfl ?_)
    refine EW.loop (fun k wr => k ≤ xs.length ∧ (∀ i, i < k → xs.getD i 0 = ys.getD i 0) ∧ Ext w wr) (fun k => [(0, .slice A xs.length c), (1, .slice B ys.length d), (5, .int .i64 k)]) (fun k => xs.length - k) 0 ⟨Nat.zero_le _, fun i h => absurd h (Nat.not_lt_zero _), Ext.refl w⟩ ⟨rfl, rfl, rfl, trivial⟩ ?_
    rintro k wr ⟨hk, heq, he⟩
    by_cases hlt : k < xs.length
    · obtain ⟨b, o, rfl, hc⟩ := hx.int hlt
      obtain ⟨b2, o2, rfl, hc2⟩ := hy.int (show k < ys.length by omega)
      repeat' (first
        | refine EL.f (FV.move rfl) rfl rfl ?_
        | refine EL.f (FV.len rfl rfl) rfl rfl ?_
        | refine EL.fT (FV.lss rfl rfl) rfl (fun _ => rfl) (by omega) ?_
        | refine EL.nil ?_
        | refine EW.seq ?_
        | refine EW.region ?_
        | refine EW.block ?_
        | refine EW.skip ?_
        | refine EW.condT rfl ?_)
      refine EW.draw (fun w' => Ext wr w') (pl 0 9) mixed (by decide +kernel) (Ext.drew _) ?_
      repeat' (first
        | refine EP.f rfl (FV.load rfl rfl rfl (fun w' h' => (he.trans h').cell hc)) rfl rfl ?_
        | refine EP.f rfl (FV.load rfl rfl rfl (fun w' h' => (he.trans h').cell hc2)) rfl rfl ?_
        | refine EP.f rfl (FV.neq rfl rfl) rfl rfl ?_
        | refine EP.nil ?_
        | refine EP.f rfl (FV.move rfl) rfl rfl ?_
        | refine EP.f rfl (FV.idx1 rfl rfl rfl rfl (by omega) (by omega)) rfl rfl ?_)
      refine EW.condP rfl (fun hne => ?_) (fun hne => ?_)
      · repeat' (first
          | refine EL.f (FV.assign rfl) rfl rfl ?_
          | refine EL.nil ?_
          | refine EW.seq ?_
          | refine EW.region ?_
          | refine EW.ret ?_)
        exact ⟨_, rfl, by rw [decide_eq_false]; intro h; exact hne (by rw [h]), he.trans (Ext.drew _)⟩
      · repeat' (first
          | refine EL.f (FV.move rfl) rfl rfl ?_
          | refine EL.f (FV.assign rfl) rfl rfl ?_
          | refine EL.f (FV.addI rfl rfl (by omega)) rfl rfl ?_
          | refine EL.nil ?_
          | refine EW.region ?_
          | refine EW.skip ?_)
        refine ⟨k + 1, ⟨rfl, rfl, rfl, trivial⟩, ⟨by omega, fun i hi => ?_, he.trans (Ext.drew _)⟩, by omega⟩
        by_cases hik : i = k
        · subst hik; exact Decidable.not_not.1 hne
        · exact heq i (by omega)
    · obtain rfl : k = xs.length := by omega
      repeat' (first
        | (show EL _ _ _ _ (_ :: _) _ _
           first
           | (show EL _ _ _ _ (⟨_, .move _, _, _, _, _⟩ :: _) _ _; refine EL.f (FV.move rfl) rfl rfl ?_)
           | (show EL _ _ _ _ (⟨_, .assign _, _, _, _, _⟩ :: _) _ _; refine EL.f (FV.assign rfl) rfl rfl ?_)
           | (show EL _ _ _ _ (⟨_, .call _, _, _, _, _⟩ :: _) _ _; refine EL.f (FV.len rfl rfl) rfl rfl ?_)
           | (show EL _ _ _ _ (⟨_, .binOp .lss _ _ _ _, _, _, _, _⟩ :: _) _ _; refine EL.fF (FV.lss rfl rfl) rfl (fun _ => rfl) (by omega) ?_))
        | refine EL.nil ?_
        | refine EW.seq ?_
        | refine EW.region ?_
        | refine EW.exit ?_
        | refine EW.ret ?_
        | refine EW.condF rfl ?_)
      refine ⟨_, rfl, ?_, he⟩
      rw [decide_eq_true]
      exact List.ext_getElem hl fun i h1 h2 => by
        have := heq i h1
        simpa [h1, h2] using this
  · repeat' (first
      | (show EL _ _ _ _ (_ :: _) _ _
         first
         | (show EL _ _ _ _ (⟨_, .move _, _, _, _, _⟩ :: _) _ _; refine EL.f (FV.move rfl) rfl rfl ?_)
         | (show EL _ _ _ _ (⟨_, .assign _, _, _, _, _⟩ :: _) _ _; refine EL.f (FV.assign rfl) rfl rfl ?_)
         | (show EL _ _ _ _ (⟨_, .call _, _, _, _, _⟩ :: _) _ _; refine EL.f (FV.len rfl rfl) rfl rfl ?_)
         | (show EL _ _ _ _ (⟨_, .binOp .neq _ _ _ _, _, _, _, _⟩ :: _) _ _; refine EL.fT (FV.neq rfl rfl) rfl (fun _ => rfl) (by omega) ?_))
      | refine EL.nil ?_
      | refine EW.seq ?_
      | refine EW.region ?_
      | refine EW.ret ?_
      | refine EW.condT rfl ?_)
    exact ⟨_, rfl, by rw [decide_eq_false]; intro h; exact hl (by rw [h]), Ext.refl w⟩

theorem markInts (v0 : Value) (B : Nat) (xs : List Int) (k : Nat) (w : World) (h : OwnI B w v0 xs) (hn : xs.length ≤ 1048576) (hk : k ≤ 1073741824) :
    CallsR Tryd.prog 9 [v0, .int .i64 k] w fun v w' => v = .int .i64 ((k + xs.length : Nat) : Int) ∧ OwnI B w' v0 (marks k xs.length) ∧ w.grownBy w' v0.ownBlock := by
  refine CallsR.enter Tryd.func9 (by decide +kernel) rfl Tryd.ntmps9 rfl ?_
  by_cases h0 : xs.length = 0
  · obtain ⟨A, c, rfl, hr⟩ := h.form
    rw [h0]
    repeat' (first
      | refine EL.f (FV.assign rfl) rfl rfl ?_
      | refine EL.nil ?_
      | refine EW.seq ?_
      | refine EW.region ?_
      | refine EW.block ?_)
    refine EW.loop (fun (_ : Unit) wr => wr = w) (fun _ => [(0, .slice A 0 c), (1, .int .i64 k), (5, .int .i64 0)]) (fun _ => 0) () rfl ⟨rfl, rfl, rfl, trivial⟩ ?_
    rintro _ wr rfl
    repeat' (first
      | (show EL _ _ _ _ (_ :: _) _ _
         first
         | (show EL _ _ _ _ (⟨_, .move _, _, _, _, _⟩ :: _) _ _; refine EL.f (FV.move rfl) rfl rfl ?_)
         | (show EL _ _ _ _ (⟨_, .assign _, _, _, _, _⟩ :: _) _ _; refine EL.f (FV.assign rfl) rfl rfl ?_)
         | (show EL _ _ _ _ (⟨_, .call _, _, _, _, _⟩ :: _) _ _; refine EL.f (FV.len rfl rfl) rfl rfl ?_)
         | (show EL _ _ _ _ (⟨_, .binOp .lss _ _ _ _, _, _, _, _⟩ :: _) _ _; refine EL.fF (FV.lss rfl rfl) rfl (fun _ => rfl) (by omega) ?_))
      | refine EL.nil ?_
      | refine EW.seq ?_
      | refine EW.region ?_
      | refine EW.exit ?_
      | refine EW.ret ?_
      | refine EW.condF rfl ?_)
    refine ⟨_, rfl, by simp, ?_, World.grownBy.refl _ _⟩
    obtain rfl : xs = [] := List.eq_nil_of_length_eq_zero h0
    exact h
  · obtain ⟨g, c, rfl, hB, hat⟩ := own_at h (by omega)
    repeat' (first
      | refine EL.f (FV.assign rfl) rfl rfl ?_
      | refine EL.nil ?_
      | refine EW.seq ?_
      | refine EW.region ?_
      | refine EW.block ?_)
    refine EW.loop (fun i wr => i ≤ xs.length ∧ AtI wr g c (marks k i ++ xs.drop i) ∧ w.grownBy wr (some g)) (fun i => [(0, .slice (some ⟨g, 0, none⟩) xs.length c), (1, .int .i64 ((k + i : Nat) : Int)), (5, .int .i64 i)]) (fun i => xs.length - i) 0 ⟨Nat.zero_le _, hat, World.grownBy.refl _ _⟩ ⟨rfl, rfl, rfl, trivial⟩ ?_
    rintro i wr ⟨hi, hat, hg⟩
    have hlen : (marks k i ++ xs.drop i).length = xs.length := by simp [marks]; omega
    by_cases hlt : i < xs.length
    · have hii : i < (marks k i ++ xs.drop i).length := by omega
      repeat' (first
        | (show EL _ _ _ _ (_ :: _) _ _
           first
           | (show EL _ _ _ _ (⟨_, .store _ _ _, _, _, _, _⟩ :: _) _ _; (refine EL.h (Hv.storeAt rfl rfl rfl rfl rfl hat (ints_get hii)) rfl (fun _ => rfl) ?_; rintro _ _ ⟨rfl, hat2⟩))
           | (show EL _ _ _ _ (⟨_, .move _, _, _, _, _⟩ :: _) _ _; refine EL.f (FV.move rfl) rfl rfl ?_)
           | (show EL _ _ _ _ (⟨_, .assign _, _, _, _, _⟩ :: _) _ _; refine EL.f (FV.assign rfl) rfl rfl ?_)
           | (show EL _ _ _ _ (⟨_, .binOp .add _ _ _ _, _, _, _, _⟩ :: _) _ _; refine EL.f (FV.addI rfl rfl (by omega)) rfl rfl ?_)
           | (show EL _ _ _ _ (⟨_, .call _, _, _, _, _⟩ :: _) _ _; refine EL.f (FV.len rfl rfl) rfl rfl ?_)
           | (show EL _ _ _ _ (⟨_, .binOp .lss _ _ _ _, _, _, _, _⟩ :: _) _ _; refine EL.fT (FV.lss rfl rfl) rfl (fun _ => rfl) (by omega) ?_)
           | (show EL _ _ _ _ (⟨_, .indexAddr _ _ _, _, _, _, _⟩ :: _) _ _; refine EL.f (FV.idx0 rfl rfl rfl rfl (by omega) (by omega)) rfl rfl ?_))
        | refine EL.nil ?_
        | refine EW.seq ?_
        | refine EW.region ?_
        | refine EW.block ?_
        | refine EW.skip ?_
        | refine EW.condT rfl ?_)
      refine ⟨i + 1, ⟨rfl, rfl, rfl, trivial⟩, ⟨by omega, ?_, ?_⟩, by omega⟩
      · have := hat.set_ (k := i) ((k + i : Nat) : Int)
        have e : (marks k i ++ xs.drop i).set i ((k + i : Nat) : Int) = marks k (i + 1) ++ xs.drop (i + 1) := by
          rw [List.set_append_right _ _ (by simp [marks]), marks_length, Nat.sub_self, List.drop_eq_getElem_cons hlt, List.set_cons_zero]
          simp [marks, List.range_succ]
        rwa [e] at this
      · exact ⟨hg.os, hg.tape, hg.output, by simpa [World.setCell] using hg.size, fun j hj hne => (Below.heap_setCell wr _ _ j (fun e => hne (by rw [e]))).trans (hg.block j hj hne)⟩
    · obtain rfl : i = xs.length := by omega
      repeat' (first
        | (show EL _ _ _ _ (_ :: _) _ _
           first
           | (show EL _ _ _ _ (⟨_, .move _, _, _, _, _⟩ :: _) _ _; refine EL.f (FV.move rfl) rfl rfl ?_)
           | (show EL _ _ _ _ (⟨_, .assign _, _, _, _, _⟩ :: _) _ _; refine EL.f (FV.assign rfl) rfl rfl ?_)
           | (show EL _ _ _ _ (⟨_, .call _, _, _, _, _⟩ :: _) _ _; refine EL.f (FV.len rfl rfl) rfl rfl ?_)
           | (show EL _ _ _ _ (⟨_, .binOp .lss _ _ _ _, _, _, _, _⟩ :: _) _ _; refine EL.fF (FV.lss rfl rfl) rfl (fun _ => rfl) (by omega) ?_))
        | refine EL.nil ?_
        | refine EW.seq ?_
        | refine EW.region ?_
        | refine EW.exit ?_
        | refine EW.ret ?_
        | refine EW.condF rfl ?_)
      refine ⟨_, rfl, rfl, ?_, hg⟩
      rw [List.drop_length, List.append_nil] at hat
      have := hat.own hB
      unfold OwnI at this ⊢
      rw [marks_length] at this ⊢
      exact this

theorem heldInts (A : Option Addr) (c n k : Nat) (w : World) (h : Rd w A (ints (marks k n))) (hn : n ≤ 1048576) (hk : k ≤ 1073741824) :
    CallsR Tryd.prog 10 [.slice A n c, .int .i64 k] w fun v w' => v = .int .i64 ((k + n : Nat) : Int) ∧ w = w' := by
  refine CallsR.enter Tryd.func10 (by decide +kernel) rfl Tryd.ntmps10 rfl ?_
  repeat' (first
    | refine EL.f (FV.assign rfl) rfl rfl ?_
    | refine EL.nil ?_
    | refine EW.seq ?_
    | refine EW.region ?_
    | refine EW.block ?_)
  refine EW.loop (fun i wr => i ≤ n ∧ w = wr) (fun i => [(0, .slice A n c), (1, .int .i64 ((k + i : Nat) : Int)), (5, .int .i64 i)]) (fun i => n - i) 0 ⟨Nat.zero_le _, rfl⟩ ⟨rfl, rfl, rfl, trivial⟩ ?_
  rintro i wr ⟨hi, rfl⟩
  by_cases hlt : i < n
  · obtain ⟨b, o, rfl, hc⟩ := h.int (k := i) (by rw [marks_length]; exact hlt)
    rw [marks_getD k n i hlt] at hc
    repeat' (first
      | (show EL _ _ _ _ (_ :: _) _ _
         first
         | (show EL _ _ _ _ (⟨_, .move _, _, _, _, _⟩ :: _) _ _; refine EL.f (FV.move rfl) rfl rfl ?_)
         | (show EL _ _ _ _ (⟨_, .assign _, _, _, _, _⟩ :: _) _ _; refine EL.f (FV.assign rfl) rfl rfl ?_)
         | (show EL _ _ _ _ (⟨_, .binOp .add _ _ _ _, _, _, _, _⟩ :: _) _ _; refine EL.f (FV.addI rfl rfl (by omega)) rfl rfl ?_)
         | (show EL _ _ _ _ (⟨_, .call _, _, _, _, _⟩ :: _) _ _; refine EL.f (FV.len rfl rfl) rfl rfl ?_)
         | (show EL _ _ _ _ (⟨_, .binOp .lss _ _ _ _, _, _, _, _⟩ :: _) _ _; refine EL.fT (FV.lss rfl rfl) rfl (fun _ => rfl) (by omega) ?_)
         | (show EL _ _ _ _ (⟨_, .binOp .neq _ _ _ _, _, _, _, _⟩ :: _) _ _; refine EL.fF (FV.neq rfl rfl) rfl (fun _ => rfl) (by omega) ?_)
         | (show EL _ _ _ _ (⟨_, .indexAddr _ _ _, _, _, _, _⟩ :: _) _ _; refine EL.f (FV.idx1 rfl rfl rfl rfl (by omega) (by omega)) rfl rfl ?_)
         | (show EL _ _ _ _ (⟨_, .load _ _, _, _, _, _⟩ :: _) _ _; refine EL.f (FV.load1 rfl rfl rfl (by assumption)) rfl rfl ?_))
      | refine EL.nil ?_
      | refine EW.seq ?_
      | refine EW.region ?_
      | refine EW.block ?_
      | refine EW.skip ?_
      | refine EW.condT rfl ?_
      | refine EW.condF rfl ?_)
    exact ⟨i + 1, ⟨rfl, rfl, rfl, trivial⟩, ⟨by omega, rfl⟩, by omega⟩
  · obtain rfl : i = n := by omega
    repeat' (first
      | (show EL _ _ _ _ (_ :: _) _ _
         first
         | (show EL _ _ _ _ (⟨_, .move _, _, _, _, _⟩ :: _) _ _; refine EL.f (FV.move rfl) rfl rfl ?_)
         | (show EL _ _ _ _ (⟨_, .assign _, _, _, _, _⟩ :: _) _ _; refine EL.f (FV.assign rfl) rfl rfl ?_)
         | (show EL _ _ _ _ (⟨_, .call _, _, _, _, _⟩ :: _) _ _; refine EL.f (FV.len rfl rfl) rfl rfl ?_)
         | (show EL _ _ _ _ (⟨_, .binOp .lss _ _ _ _, _, _, _, _⟩ :: _) _ _; refine EL.fF (FV.lss rfl rfl) rfl (fun _ => rfl) (by omega) ?_))
      | refine EL.nil ?_
      | refine EW.seq ?_
      | refine EW.region ?_
      | refine EW.exit ?_
      | refine EW.ret ?_
      | refine EW.condF rfl ?_)
    exact ⟨_, rfl, rfl, rfl⟩

/-! for the laws -/
theorem eqSame (A B : Option Addr) (c d : Nat) (xs : List Int) (w : World) (hx : Rd w A (ints xs)) (hy : Rd w B (ints xs)) (hn : xs.length ≤ 1048576) :
    CallsR Tryd.prog 8 [.slice A xs.length c, .slice B xs.length d] w fun v w' => v = .bool true ∧ Ext w w' :=
  (eqInts A B c d xs xs w hx hy hn).mono fun v w' h => ⟨by rw [h.1, decide_eq_true rfl], h.2⟩
theorem OwnI.rd {B n : Nat} {w : World} {A : Option Addr} {c : Nat} {xs : List Int} (h : OwnI B w (.slice A n c) xs) : Rd w A (ints xs) := by
  obtain ⟨A', c', e, hr⟩ := h.form
  injection e with e1 _ _
  rw [e1]
  exact hr
theorem Ext.mark {u w w' : World} {g : Nat} (h : Ext u w) (hg : w.grownBy w' (some g)) (hle : u.heap.size ≤ g) : Ext u w' :=
  ⟨hg.os.trans h.os, hg.tape.trans h.tape, hg.output.trans h.output, Nat.le_trans h.size hg.size, fun k hk => (hg.block k (Nat.lt_of_lt_of_le hk h.size) (by simp; omega)).trans (h.block k hk)⟩
theorem Ext.markO {u w w' : World} {B : Nat} {v : Value} {xs : List Int} (h : Ext u w) (hown : OwnI B w v xs) (hg : w.grownBy w' v.ownBlock) (hle : u.heap.size ≤ B) : Ext u w' :=
  ⟨hg.os.trans h.os, hg.tape.trans h.tape, hg.output.trans h.output, Nat.le_trans h.size hg.size, fun k hk => (hg.block k (Nat.lt_of_lt_of_le hk h.size) (fun e => by have := (World.ownsRow.lt hown k e.symm).1; omega)).trans (h.block k hk)⟩
theorem OwnI.keep {w w' : World} {B g : Nat} {v : Value} {xs : List Int} (h : OwnI B w v xs) (hg : w.grownBy w' (some g)) (hlt : g < B) : OwnI B w' v xs :=
  own_far h hg (.inr fun e => by have := (World.ownsRow.lt h g e).1; omega)
/-- What a function of series hands back: a series of its own and a code. -/
def SerOut (w : World) (r : List Int × Int) (v : Value) (w' : World) : Prop := ∃ sv, v = .tuple #[sv, .int .i64 r.2] ∧ OwnI w.heap.size w' sv r.1 ∧ Ext w w'
theorem rowRd {w : World} {x : Addr} {zs : List Int} {len : Nat} (hl : len ≤ zs.length) (h : ∀ i, i < zs.length → w.cell? (x.add i) = some (.int .i64 (zs.getD i 0))) : Rd w (some x) (ints (zs.take len)) := by
  intro j v hj
  have hjl : j < (zs.take len).length := by
    have := (List.getElem?_eq_some_iff.1 hj).1
    rwa [ints_length] at this
  rw [ints_get hjl] at hj
  rw [List.length_take] at hjl
  have h0 := h 0 (by omega)
  obtain ⟨b, o, s⟩ := x
  have hs : s = none := by
    cases s with
    | none => rfl
    | some q =>
      simp [Addr.add, World.cell?] at h0
      split at h0 <;> cases h0
  subst hs
  refine ⟨b, o, rfl, ?_⟩
  have hc := h j (by omega)
  have e : (⟨b, o, none⟩ : Addr).add j = ⟨b, o + j, none⟩ := by
    unfold Addr.add
    split
    · simp_all
    · rfl
  rw [e] at hc
  rw [hc, ← hj]
  congr 2
  simp [show j < len by omega]
end Eng
end Go.Proofs.YtogljflccfoaeaaDoor
