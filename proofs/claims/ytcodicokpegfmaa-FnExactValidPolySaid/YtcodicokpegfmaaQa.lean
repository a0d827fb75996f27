/- Polynomials: how they lie in the world; the verifier's counts, copies and comparisons of them. Conditions: the number of exponents and terms. (Never beside part Sl.) -/
import Derived.Test.YtcodicokpegfmaaEb
namespace Go.Proofs.Ytcodicokpegfmaa
open Go Go.RowKit
namespace Eng
structure Tm where
  exps : List Int
  coef : Int
structure Po where
  vars : Int
  terms : List Tm
def dTm : Tm := ⟨[], 0⟩
def Tm.cnt (f : Tm) : Nat := f.exps.length
def tmL : List Tm → Nat
  | [] => 0
  | f :: fs => f.cnt + 1 + tmL fs
def Po.cnt (p : Po) : Nat := tmL p.terms
theorem tmL_append (xs ys : List Tm) : tmL (xs ++ ys) = tmL xs + tmL ys := by
  induction xs with
  | nil => simp [tmL]
  | cons x xs ih => simp only [List.cons_append, tmL, ih]; omega
theorem tmL_ge (xs : List Tm) : xs.length ≤ tmL xs := by
  induction xs with
  | nil => simp
  | cons x xs ih => simp only [List.length_cons, tmL]; omega
theorem tmL_take {ks : List Tm} {i : Nat} (h : i < ks.length) : tmL (ks.take (i + 1)) = tmL (ks.take i) + ((ks.getD i dTm).cnt + 1) := by
  rw [take_next (d := dTm) h, tmL_append]
  simp [tmL]
theorem tmL_split (ks : List Tm) (i : Nat) : tmL ks = tmL (ks.take i) + tmL (ks.drop i) := by
  rw [← tmL_append, List.take_append_drop]
theorem tmL_kid {ks : List Tm} {i : Nat} (h : i < ks.length) : tmL (ks.take i) + ((ks.getD i dTm).cnt + 1) ≤ tmL ks := by
  rw [tmL_split ks (i + 1), tmL_take h]
  omega
/-! slices of numbers -/
def AtI (w : World) (g : Nat) (c : Nat) (xs : List Int) : Prop := At w 2 1 g xs.length c (ints xs)
theorem AtI.int {w : World} {g c k : Nat} {xs : List Int} (h : AtI w g c xs) (hk : k < xs.length) : w.cell? ⟨g, k, none⟩ = some (.int .i64 (xs.getD k 0)) := h.cell (ints_get hk)
theorem AtI.set_ {w : World} {g c k : Nat} {xs : List Int} (h : AtI w g c xs) (x : Int) : AtI (w.setCell ⟨g, k, none⟩ (.int .i64 x)) g c (xs.set k x) := by
  unfold AtI
  rw [ints_set, List.length_set]
  exact At.set_ h k _

/-- behind a make, k cells filled -/
def filled (xs : List Int) (k n : Nat) : List Int := xs.take k ++ List.replicate (n - k) 0
theorem filled_zero (xs : List Int) (n : Nat) : filled xs 0 n = List.replicate n 0 := by simp [filled]
theorem filled_full (xs : List Int) : filled xs xs.length xs.length = xs := by simp [filled]
theorem filled_length (xs : List Int) (k n : Nat) (h : k ≤ xs.length) (h2 : k ≤ n) : (filled xs k n).length = n := by
  simp [filled]; omega
theorem filled_set (xs : List Int) (k n : Nat) (h : k < xs.length) (h2 : k < n) : (filled xs k n).set k (xs.getD k 0) = filled xs (k + 1) n := by
  unfold filled
  rw [List.set_append_right _ _ (by simp; omega), List.take_succ_eq_append_getElem h, List.append_assoc]
  rw [show n - k = (n - (k + 1)) + 1 from by omega, List.replicate_succ, List.length_take, Nat.min_eq_left (Nat.le_of_lt h), Nat.sub_self, List.set_cons_zero]
  simp [h]

theorem toInts (A : Option Addr) (c : Nat) (xs : List Int) (w : World) (h : Rd w A (ints xs)) (hn : xs.length ≤ 1048576) :
    CallsR Try.prog 95 [.slice A xs.length c] w fun v w' => ∃ g, v = .slice (some ⟨g, 0, none⟩) xs.length xs.length ∧ w.heap.size ≤ g ∧ AtI w' g xs.length xs ∧ Ext w w' := by
  refine CallsR.enter Try.func95 (by decide +kernel) rfl Try.ntmps95 rfl ?_
  repeat' (first
    | (show EL _ _ _ _ (_ :: _) _ _
       first
       | (show EL _ _ _ _ (⟨_, .makeSlice _ _ _, _, _, _, _⟩ :: _) _ _; (refine EL.h (Hv.make (kl := .i64) rfl rfl rfl rfl (by omega) (by omega)) rfl (fun _ => rfl) ?_; rintro _ w1 ⟨g, rfl, hg, hat, he⟩))
       | (show EL _ _ _ _ (⟨_, .move _, _, _, _, _⟩ :: _) _ _; refine EL.f (FV.move rfl) rfl rfl ?_)
       | (show EL _ _ _ _ (⟨_, .assign _, _, _, _, _⟩ :: _) _ _; refine EL.f (FV.assign rfl) rfl rfl ?_)
       | (show EL _ _ _ _ (⟨_, .call _, _, _, _, _⟩ :: _) _ _; refine EL.f (FV.len rfl rfl) rfl rfl ?_))
    | refine EL.nil ?_
    | refine EW.seq ?_
    | refine EW.region ?_
    | refine EW.block ?_)
  rw [madeInts] at hat
  refine EW.loop (fun k wr => k ≤ xs.length ∧ AtI wr g xs.length (filled xs k xs.length) ∧ Below w.heap.size w wr) (fun k => [(0, .slice A xs.length c), (3, .slice (some ⟨g, 0, none⟩) xs.length xs.length), (4, .int .i64 k)]) (fun k => xs.length - k) 0 ⟨Nat.zero_le _, ?_, he⟩ ⟨rfl, rfl, rfl, trivial⟩ ?_
  · rw [filled_zero]
    unfold AtI
    rw [List.length_replicate]
    exact hat
  rintro k wr ⟨hk, hat, hb⟩
  have hlen := filled_length xs k xs.length hk hk
  by_cases hlt : k < xs.length
  · obtain ⟨b, o, rfl, hc⟩ := h.int hlt
    have hc' := (hb.cell (World.block_lt_of_cell? w _ hc)).trans hc
    have hkk : k < (filled xs k xs.length).length := by omega
    repeat' (first
      | (show EL _ _ _ _ (_ :: _) _ _
         first
         | (show EL _ _ _ _ (⟨_, .load _ _, _, _, _, _⟩ :: _) _ _; refine EL.f (FV.load1 rfl rfl rfl hc') rfl rfl ?_)
         | (show EL _ _ _ _ (⟨_, .store _ _ _, _, _, _, _⟩ :: _) _ _; (refine EL.h (Hv.storeAt rfl rfl rfl rfl rfl hat (ints_get hkk)) rfl (fun _ => rfl) ?_; rintro _ _ ⟨rfl, hat2⟩))
         | (show EL _ _ _ _ (⟨_, .move _, _, _, _, _⟩ :: _) _ _; refine EL.f (FV.move rfl) rfl rfl ?_)
         | (show EL _ _ _ _ (⟨_, .assign _, _, _, _, _⟩ :: _) _ _; refine EL.f (FV.assign rfl) rfl rfl ?_)
         | (show EL _ _ _ _ (⟨_, .binOp .add _ _ _ _, _, _, _, _⟩ :: _) _ _; refine EL.f (FV.addI rfl rfl (by omega)) rfl rfl ?_)
         | (show EL _ _ _ _ (⟨_, .call _, _, _, _, _⟩ :: _) _ _; refine EL.f (FV.len rfl rfl) rfl rfl ?_)
         | (show EL _ _ _ _ (⟨_, .binOp .lss _ _ _ _, _, _, _, _⟩ :: _) _ _; refine EL.fT (FV.lss rfl rfl) rfl (fun _ => rfl) (by omega) ?_)
         | (show EL _ _ _ _ (⟨_, .indexAddr _ _ _, _, _, _, _⟩ :: _) _ _; first | refine EL.f (FV.idx0 rfl rfl rfl rfl (by omega) (by omega)) rfl rfl ?_ | refine EL.f (FV.idx1 rfl rfl rfl rfl (by omega) (by omega)) rfl rfl ?_))
      | refine EL.nil ?_
      | refine EW.seq ?_
      | refine EW.region ?_
      | refine EW.block ?_
      | refine EW.skip ?_
      | refine EW.condT rfl ?_)
    refine ⟨k + 1, ⟨rfl, rfl, rfl, trivial⟩, ⟨by omega, ?_, Below.set_ hb (by omega) _⟩, by omega⟩
    have := hat.set_ (k := k) (xs.getD k 0)
    rwa [filled_set xs k _ hlt hlt] at this
  · obtain rfl : k = xs.length := by omega
    rw [filled_full] at hat
    repeat' (first
      | (show EL _ _ _ _ (_ :: _) _ _
         first
         | (show EL _ _ _ _ (⟨_, .move _, _, _, _, _⟩ :: _) _ _; refine EL.f (FV.move rfl) rfl rfl ?_)
         | (show EL _ _ _ _ (⟨_, .assign _, _, _, _, _⟩ :: _) _ _; refine EL.f (FV.assign rfl) rfl rfl ?_)
         | (show EL _ _ _ _ (⟨_, .call _, _, _, _, _⟩ :: _) _ _; refine EL.f (FV.len rfl rfl) rfl rfl ?_)
         | (show EL _ _ _ _ (⟨_, .binOp .lss _ _ _ _, _, _, _, _⟩ :: _) _ _; refine EL.fF (FV.lss rfl rfl) rfl (fun _ => rfl) (by omega) ?_))
      | refine EL.nil ?_
      | refine EW.seq ?_
      | refine EW.region ?_
      | refine EW.exit ?_
      | refine EW.ret ?_
      | refine EW.condF rfl ?_)
    exact ⟨_, rfl, g, rfl, by omega, hat, hb⟩

theorem eqInts (A B : Option Addr) (c d : Nat) (xs ys : List Int) (w : World) (hx : Rd w A (ints xs)) (hy : Rd w B (ints ys)) (hn : xs.length ≤ 1048576) :
    CallsR Try.prog 97 [.slice A xs.length c, .slice B ys.length d] w fun v w' => v = .bool (decide (xs = ys)) ∧ Ext w w' := by
  refine CallsR.enter Try.func97 (by decide +kernel) rfl Try.ntmps97 rfl ?_
  by_cases hl : xs.length = ys.length
  · repeat' (first
      | (show EL _ _ _ _ (_ :: _) _ _
         first
         | (show EL _ _ _ _ (⟨_, .move _, _, _, _, _⟩ :: _) _ _; refine EL.f (FV.move rfl) rfl rfl ?_)
         | (show EL _ _ _ _ (⟨_, .assign _, _, _, _, _⟩ :: _) _ _; refine EL.f (FV.assign rfl) rfl rfl ?_)
         | (show EL _ _ _ _ (⟨_, .call _, _, _, _, _⟩ :: _) _ _; refine EL.f (FV.len rfl rfl) rfl rfl ?_)
         | (show EL _ _ _ _ (⟨_, .binOp .neq _ _ _ _, _, _, _, _⟩ :: _) _ _; refine EL.fF (FV.neq rfl rfl) rfl (fun _ => rfl) (by omega) ?_))
      | refine EL.nil ?_
      | refine EW.seq ?_
      | refine EW.region ?_
      | refine EW.block ?_
      | refine EW.skip ?_
      | refine EW.condF rfl ?_)
    refine EW.loop (fun k wr => k ≤ xs.length ∧ (∀ i, i < k → xs.getD i 0 = ys.getD i 0) ∧ Ext w wr) (fun k => [(0, .slice A xs.length c), (1, .slice B ys.length d), (5, .int .i64 k)]) (fun k => xs.length - k) 0 ⟨Nat.zero_le _, fun i h => absurd h (Nat.not_lt_zero _), Ext.refl w⟩ ⟨rfl, rfl, rfl, trivial⟩ ?_
    rintro k wr ⟨hk, heq, he⟩
    by_cases hlt : k < xs.length
    · obtain ⟨b, o, rfl, hc⟩ := hx.int hlt
      obtain ⟨b2, o2, rfl, hc2⟩ := hy.int (show k < ys.length by omega)
      repeat' (first
        | refine EL.f (FV.move rfl) rfl rfl ?_
        | refine EL.f (FV.len rfl rfl) rfl rfl ?_
        | refine EL.fT (FV.lss rfl rfl) rfl (fun _ => rfl) (by omega) ?_
        | refine EL.nil ?_
        | refine EW.seq ?_
        | refine EW.region ?_
        | refine EW.block ?_
        | refine EW.skip ?_
        | refine EW.condT rfl ?_)
      refine EW.draw (fun w' => Ext wr w') (pl 0 9) mixed (by decide +kernel) (Ext.drew _) ?_
      repeat' (first
        | refine EP.f rfl (FV.load rfl rfl rfl (fun w' h' => (he.trans h').cell hc)) rfl rfl ?_
        | refine EP.f rfl (FV.load rfl rfl rfl (fun w' h' => (he.trans h').cell hc2)) rfl rfl ?_
        | refine EP.f rfl (FV.neq rfl rfl) rfl rfl ?_
        | refine EP.nil ?_
        | refine EP.f rfl (FV.move rfl) rfl rfl ?_
        | refine EP.f rfl (FV.idx1 rfl rfl rfl rfl (by omega) (by omega)) rfl rfl ?_)
      refine EW.condP rfl (fun hne => ?_) (fun hne => ?_)
      · repeat' (first
          | refine EL.f (FV.assign rfl) rfl rfl ?_
          | refine EL.nil ?_
          | refine EW.seq ?_
          | refine EW.region ?_
          | refine EW.ret ?_)
        exact ⟨_, rfl, by rw [decide_eq_false]; intro h; exact hne (by rw [h]), he.trans (Ext.drew _)⟩
      · repeat' (first
          | refine EL.f (FV.move rfl) rfl rfl ?_
          | refine EL.f (FV.assign rfl) rfl rfl ?_
          | refine EL.f (FV.addI rfl rfl (by omega)) rfl rfl ?_
          | refine EL.nil ?_
          | refine EW.region ?_
          | refine EW.skip ?_)
        refine ⟨k + 1, ⟨rfl, rfl, rfl, trivial⟩, ⟨by omega, fun i hi => ?_, he.trans (Ext.drew _)⟩, by omega⟩
        by_cases hik : i = k
        · subst hik; exact Decidable.not_not.1 hne
        · exact heq i (by omega)
    · obtain rfl : k = xs.length := by omega
      repeat' (first
        | (show EL _ _ _ _ (_ :: _) _ _
           first
           | (show EL _ _ _ _ (⟨_, .move _, _, _, _, _⟩ :: _) _ _; refine EL.f (FV.move rfl) rfl rfl ?_)
           | (show EL _ _ _ _ (⟨_, .assign _, _, _, _, _⟩ :: _) _ _; refine EL.f (FV.assign rfl) rfl rfl ?_)
           | (show EL _ _ _ _ (⟨_, .call _, _, _, _, _⟩ :: _) _ _; refine EL.f (FV.len rfl rfl) rfl rfl ?_)
           | (show EL _ _ _ _ (⟨_, .binOp .lss _ _ _ _, _, _, _, _⟩ :: _) _ _; refine EL.fF (FV.lss rfl rfl) rfl (fun _ => rfl) (by omega) ?_))
        | refine EL.nil ?_
        | refine EW.seq ?_
        | refine EW.region ?_
        | refine EW.exit ?_
        | refine EW.ret ?_
        | refine EW.condF rfl ?_)
      refine ⟨_, rfl, ?_, he⟩
      rw [decide_eq_true]
      exact List.ext_getElem hl fun i h1 h2 => by
        have := heq i h1
        simpa [h1, h2] using this
  · repeat' (first
      | (show EL _ _ _ _ (_ :: _) _ _
         first
         | (show EL _ _ _ _ (⟨_, .move _, _, _, _, _⟩ :: _) _ _; refine EL.f (FV.move rfl) rfl rfl ?_)
         | (show EL _ _ _ _ (⟨_, .assign _, _, _, _, _⟩ :: _) _ _; refine EL.f (FV.assign rfl) rfl rfl ?_)
         | (show EL _ _ _ _ (⟨_, .call _, _, _, _, _⟩ :: _) _ _; refine EL.f (FV.len rfl rfl) rfl rfl ?_)
         | (show EL _ _ _ _ (⟨_, .binOp .neq _ _ _ _, _, _, _, _⟩ :: _) _ _; refine EL.fT (FV.neq rfl rfl) rfl (fun _ => rfl) (by omega) ?_))
      | refine EL.nil ?_
      | refine EW.seq ?_
      | refine EW.region ?_
      | refine EW.ret ?_
      | refine EW.condT rfl ?_)
    exact ⟨_, rfl, by rw [decide_eq_false]; intro h; exact hl (by rw [h]), Ext.refl w⟩

theorem eqSame (A B : Option Addr) (c d : Nat) (xs : List Int) (w : World) (hx : Rd w A (ints xs)) (hy : Rd w B (ints xs)) (hn : xs.length ≤ 1048576) :
    CallsR Try.prog 97 [.slice A xs.length c, .slice B xs.length d] w fun v w' => v = .bool true ∧ Ext w w' :=
  (eqInts A B c d xs xs w hx hy hn).mono fun v w' h => ⟨by rw [h.1, decide_eq_true rfl], h.2⟩
/-- A slice of numbers whose row lies in a block from B on. -/
def IsB (w : World) (B : Nat) (A : Option Addr) (xs : List Int) : Prop := xs.length ≤ 9223372036854775807 ∧ ∀ j v, (ints xs)[j]? = some v → ∃ b o, A = some ⟨b, o, none⟩ ∧ B ≤ b ∧ b < w.heap.size ∧ w.cell? ⟨b, o + j, none⟩ = some v
theorem IsB.rd {w : World} {B : Nat} {A : Option Addr} {xs : List Int} (h : IsB w B A xs) : Rd w A (ints xs) := fun j v hj => by
  obtain ⟨b, o, hA, _, _, hc⟩ := h.2 j v hj
  exact ⟨b, o, hA, hc⟩
theorem IsB.keep {w w' : World} {B : Nat} {A : Option Addr} {xs : List Int} (h : IsB w B A xs) (hs : w.heap.size ≤ w'.heap.size) (hb : ∀ k, B ≤ k → k < w.heap.size → w'.heap[k]? = w.heap[k]?) : IsB w' B A xs := ⟨h.1, fun j v hj => by
  obtain ⟨b, o, hA, hB, hl, hc⟩ := h.2 j v hj
  refine ⟨b, o, hA, hB, by omega, ?_⟩
  rw [← hc]
  unfold World.cell?
  rw [hb b hB hl]⟩
theorem IsB.ext {w w' : World} {B : Nat} {A : Option Addr} {xs : List Int} (h : IsB w B A xs) (he : Ext w w') : IsB w' B A xs := h.keep he.size fun k _ hk => he.block k hk
theorem IsB.far {w w' : World} {B g : Nat} {A : Option Addr} {xs : List Int} (h : IsB w B A xs) (hg : w.grownBy w' (some g)) (hB : g < B) : IsB w' B A xs := h.keep hg.size fun k hk hl => hg.block k hl (by intro q; injection q; omega)
theorem IsB.lower {w : World} {B B' : Nat} {A : Option Addr} {xs : List Int} (h : IsB w B A xs) (hB : B' ≤ B) : IsB w B' A xs := ⟨h.1, fun j v hj => by
  obtain ⟨b, o, hA, hb, hl, hc⟩ := h.2 j v hj
  exact ⟨b, o, hA, by omega, hl, hc⟩⟩
theorem AtI.isB {w : World} {g B : Nat} {xs : List Int} (h : AtI w g xs.length xs) (hB : B ≤ g) (hl : xs.length ≤ 1048576) : IsB w B (some ⟨g, 0, none⟩) xs :=
  ⟨by omega, fun j v hj => ⟨g, 0, rfl, hB, At.lt h, by rw [Nat.zero_add]; exact At.cell h hj⟩⟩
/-- The cells of a term; what hangs below lies in blocks from B on. -/
def TmB (w : World) (B : Nat) (cs : List Value) (f : Tm) : Prop := ∃ A cap, cs = [.slice A f.exps.length cap, .int .i64 f.coef] ∧ IsB w B A f.exps
theorem TmB.len {w : World} {B : Nat} {cs : List Value} {f : Tm} (h : TmB w B cs f) : cs.length = 2 := by
  obtain ⟨A, cap, rfl, _⟩ := h; rfl
theorem TmB.one {w : World} {B : Nat} {cs : List Value} {f : Tm} (h : TmB w B cs f) : ∀ v ∈ cs, v.oneCell' = true := by
  obtain ⟨A, cap, rfl, _⟩ := h
  intro v hv
  simp only [List.mem_cons, List.not_mem_nil, or_false] at hv
  rcases hv with rfl | rfl <;> rfl
theorem TmB.keep {w w' : World} {B : Nat} {cs : List Value} {f : Tm} (hs : w.heap.size ≤ w'.heap.size) (hb : ∀ k, B ≤ k → k < w.heap.size → w'.heap[k]? = w.heap[k]?) (h : TmB w B cs f) : TmB w' B cs f := by
  obtain ⟨A, cap, e, h1⟩ := h
  exact ⟨A, cap, e, h1.keep hs hb⟩
theorem TmB.ext {w w' : World} {B : Nat} {cs : List Value} {f : Tm} (h : TmB w B cs f) (he : Ext w w') : TmB w' B cs f := h.keep he.size fun k _ hk => he.block k hk
theorem TmB.far {w w' : World} {B g : Nat} {cs : List Value} {f : Tm} (h : TmB w B cs f) (hg : w.grownBy w' (some g)) (hB : g < B) : TmB w' B cs f := h.keep hg.size fun k hk hl => hg.block k hl (by intro q; injection q; omega)
theorem TmB.lower {w : World} {B B' : Nat} {cs : List Value} {f : Tm} (h : TmB w B cs f) (hB : B' ≤ B) : TmB w B' cs f := by
  obtain ⟨A, cap, e, h1⟩ := h
  exact ⟨A, cap, e, h1.lower hB⟩
def TsB (w : World) (B : Nat) (A : Option Addr) (ks : List Tm) : Prop := ks.length ≤ 9223372036854775807 ∧ ∃ cells : Nat → List Value, (∀ i, i < ks.length → ∃ b o, A = some ⟨b, o, none⟩ ∧ B ≤ b ∧ b < w.heap.size ∧ Lies w b (o + i * 2) (cells i)) ∧ ∀ i, i < ks.length → TmB w B (cells i) (ks.getD i dTm)
theorem TsB.keep {w w' : World} {B : Nat} {A : Option Addr} {ks : List Tm} (h : TsB w B A ks) (hs : w.heap.size ≤ w'.heap.size) (hb : ∀ k, B ≤ k → k < w.heap.size → w'.heap[k]? = w.heap[k]?) : TsB w' B A ks := by
  obtain ⟨h0, cells, h1, h2⟩ := h
  refine ⟨h0, cells, fun i hi => ?_, fun i hi => (h2 i hi).keep hs hb⟩
  obtain ⟨b, o, hA, hB, hl, hr⟩ := h1 i hi
  exact ⟨b, o, hA, hB, by omega, hr.block (hb b hB hl)⟩
theorem TsB.ext {w w' : World} {B : Nat} {A : Option Addr} {ks : List Tm} (h : TsB w B A ks) (he : Ext w w') : TsB w' B A ks := h.keep he.size fun k _ hk => he.block k hk
theorem TsB.far {w w' : World} {B g : Nat} {A : Option Addr} {ks : List Tm} (h : TsB w B A ks) (hg : w.grownBy w' (some g)) (hB : g < B) : TsB w' B A ks := h.keep hg.size fun k hk hl => hg.block k hl (by intro q; injection q; omega)
theorem TsB.lower {w : World} {B B' : Nat} {A : Option Addr} {ks : List Tm} (h : TsB w B A ks) (hB : B' ≤ B) : TsB w B' A ks := by
  obtain ⟨h0, cells, h1, h2⟩ := h
  refine ⟨h0, cells, fun i hi => ?_, fun i hi => (h2 i hi).lower hB⟩
  obtain ⟨b, o, hA, hb, hl, hr⟩ := h1 i hi
  exact ⟨b, o, hA, by omega, hl, hr⟩
theorem TsB.kid {w : World} {B : Nat} {A : Option Addr} {ks : List Tm} (h : TsB w B A ks) {i : Nat} (hi : i < ks.length) : ∃ b o cs, A = some ⟨b, o, none⟩ ∧ Lies w b (o + i * 2) cs ∧ TmB w B cs (ks.getD i dTm) ∧ cs.length = 2 := by
  obtain ⟨_, cells, h1, h2⟩ := h
  obtain ⟨b, o, hA, _, _, hr⟩ := h1 i hi
  exact ⟨b, o, cells i, hA, hr, h2 i hi, (h2 i hi).len⟩
theorem TsB.nil (w : World) (B : Nat) (A : Option Addr) : TsB w B A [] := ⟨by simp, fun _ => [], fun i hi => by simp at hi, fun i hi => by simp at hi⟩
/-- The cells of a polynomial. -/
def PoB (w : World) (B : Nat) (cs : List Value) (p : Po) : Prop := ∃ A cap, cs = [.int .i64 p.vars, .slice A p.terms.length cap] ∧ TsB w B A p.terms
theorem PoB.len {w : World} {B : Nat} {cs : List Value} {p : Po} (h : PoB w B cs p) : cs.length = 2 := by
  obtain ⟨A, cap, rfl, _⟩ := h; rfl
theorem PoB.one {w : World} {B : Nat} {cs : List Value} {p : Po} (h : PoB w B cs p) : ∀ v ∈ cs, v.oneCell' = true := by
  obtain ⟨A, cap, rfl, _⟩ := h
  intro v hv
  simp only [List.mem_cons, List.not_mem_nil, or_false] at hv
  rcases hv with rfl | rfl <;> rfl
theorem PoB.ext {w w' : World} {B : Nat} {cs : List Value} {p : Po} (h : PoB w B cs p) (he : Ext w w') : PoB w' B cs p := by
  obtain ⟨A, cap, e, h1⟩ := h
  exact ⟨A, cap, e, h1.ext he⟩
theorem PoB.far {w w' : World} {B g : Nat} {cs : List Value} {p : Po} (h : PoB w B cs p) (hg : w.grownBy w' (some g)) (hB : g < B) : PoB w' B cs p := by
  obtain ⟨A, cap, e, h1⟩ := h
  exact ⟨A, cap, e, h1.far hg hB⟩
theorem PoB.lower {w : World} {B B' : Nat} {cs : List Value} {p : Po} (h : PoB w B cs p) (hB : B' ≤ B) : PoB w B' cs p := by
  obtain ⟨A, cap, e, h1⟩ := h
  exact ⟨A, cap, e, h1.lower hB⟩
theorem szIntsC (xs : List Int) (A : Option Addr) (cap : Nat) (left : Int) (w : World) (hr : xs.length ≤ 9223372036854775807) (hl : 0 ≤ left ∧ left ≤ 1048576) : CallsR Try.prog 93 [.slice A xs.length cap, .int .i64 left] w fun v w' => v = .int .i64 (szV xs.length left) ∧ Ext w w' := by
  refine CallsR.enter Try.func93 (by decide +kernel) rfl Try.ntmps93 rfl ?_
  by_cases hn : (xs.length : Int) ≤ left
  · rw [szV_le hn]
    repeat' (first
      | (show EL _ _ _ _ (_ :: _) _ _
         first
         | (show EL _ _ _ _ (⟨_, .move _, _, _, _, _⟩ :: _) _ _; refine EL.f (FV.move rfl) rfl rfl ?_)
         | (show EL _ _ _ _ (⟨_, .assign _, _, _, _, _⟩ :: _) _ _; refine EL.f (FV.assign rfl) rfl rfl ?_)
         | (show EL _ _ _ _ (⟨_, .binOp .sub _ _ _ _, _, _, _, _⟩ :: _) _ _; refine EL.f (FV.subI rfl rfl (by omega)) rfl rfl ?_)
         | (show EL _ _ _ _ (⟨_, .call _, _, _, _, _⟩ :: _) _ _; refine EL.f (FV.len rfl rfl) rfl rfl ?_)
         | (show EL _ _ _ _ (⟨_, .binOp .lss _ _ _ _, _, _, _, _⟩ :: _) _ _; refine EL.fF (FV.lss rfl rfl) rfl (fun _ => rfl) (by omega) ?_))
      | refine EL.nil ?_
      | refine EW.seq ?_
      | refine EW.region ?_
      | refine EW.skip ?_
      | refine EW.ret ?_
      | refine EW.condF rfl ?_)
    exact ⟨_, rfl, rfl, Ext.refl _⟩
  · rw [szV_gt hn]
    repeat' (first
      | (show EL _ _ _ _ (_ :: _) _ _
         first
         | (show EL _ _ _ _ (⟨_, .move _, _, _, _, _⟩ :: _) _ _; refine EL.f (FV.move rfl) rfl rfl ?_)
         | (show EL _ _ _ _ (⟨_, .assign _, _, _, _, _⟩ :: _) _ _; refine EL.f (FV.assign rfl) rfl rfl ?_)
         | (show EL _ _ _ _ (⟨_, .binOp .sub _ _ _ _, _, _, _, _⟩ :: _) _ _; refine EL.f (FV.subI rfl rfl (by omega)) rfl rfl ?_)
         | (show EL _ _ _ _ (⟨_, .call _, _, _, _, _⟩ :: _) _ _; refine EL.f (FV.len rfl rfl) rfl rfl ?_)
         | (show EL _ _ _ _ (⟨_, .binOp .lss _ _ _ _, _, _, _, _⟩ :: _) _ _; refine EL.fT (FV.lss rfl rfl) rfl (fun _ => rfl) (by omega) ?_))
      | refine EL.nil ?_
      | refine EW.seq ?_
      | refine EW.region ?_
      | refine EW.ret ?_
      | refine EW.condT rfl ?_)
    exact ⟨_, rfl, rfl, Ext.refl _⟩
theorem szTermC (f : Tm) (cs : List Value) (w : World) (left : Int) (hx : TmB w 0 cs f) (hl : 0 ≤ left ∧ left ≤ 1048576) : CallsR Try.prog 81 [.agg cs.toArray, .int .i64 left] w fun v w' => v = .int .i64 (szV f.cnt left) ∧ Ext w w' := by
  obtain ⟨A, cap, rfl, hks⟩ := hx
  refine CallsR.enter Try.func81 (by decide +kernel) rfl Try.ntmps81 rfl ?_
  repeat' (first
    | refine EW.seq ?_
    | refine EW.region ?_)
  refine EL.h (Hv.boxA (sz := 2) rfl rfl) rfl (fun _ => rfl) ?_
  rintro _ w1 ⟨g1, rfl, hg1, hb, he1⟩
  repeat' (first
    | (show EL _ _ _ _ (_ :: _) _ _
       first
       | (show EL _ _ _ _ (⟨_, .fieldAddr _ _ _, _, _, _, _⟩ :: _) _ _; refine EL.f (FV.fieldAddr rfl rfl rfl rfl rfl) rfl rfl ?_)
       | (show EL _ _ _ _ (⟨_, .load _ _, _, _, _, _⟩ :: _) _ _; refine EL.f (FV.load1 rfl rfl rfl (At.cell hb rfl)) rfl rfl ?_)
       | (show EL _ _ _ _ (⟨_, .move _, _, _, _, _⟩ :: _) _ _; refine EL.f (FV.move rfl) rfl rfl ?_)
       | (show EL _ _ _ _ (⟨_, .assign _, _, _, _, _⟩ :: _) _ _; refine EL.f (FV.assign rfl) rfl rfl ?_))
    | refine EL.nil ?_
    | refine EW.seq ?_
    | refine EW.region ?_)
  refine EL.h (Hv.call (szIntsC f.exps A cap left w1 hks.1 hl) rfl) rfl (fun _ => rfl) ?_
  rintro _ w2 ⟨rfl, he2⟩
  show EL _ _ _ _ _ _ _
  unfold Tm.cnt
  by_cases hn : ((f.exps.length : Nat) : Int) ≤ left
  · rw [szV_le hn]
    repeat' (first
      | refine EL.f (FV.move rfl) rfl rfl ?_
      | refine EL.f (FV.assign rfl) rfl rfl ?_
      | refine EL.fF (FV.lss rfl rfl) rfl (fun _ => rfl) (by omega) ?_
      | refine EL.nil ?_
      | refine EW.seq ?_
      | refine EW.region ?_
      | refine EW.skip ?_
      | refine EW.ret ?_
      | refine EW.condF rfl ?_)
    exact ⟨_, rfl, rfl, he1.trans he2⟩
  · rw [szV_gt hn]
    repeat' (first
      | refine EL.f (FV.move rfl) rfl rfl ?_
      | refine EL.f (FV.assign rfl) rfl rfl ?_
      | refine EL.fT (FV.lss rfl rfl) rfl (fun _ => rfl) (by omega) ?_
      | refine EL.nil ?_
      | refine EW.seq ?_
      | refine EW.region ?_
      | refine EW.ret ?_
      | refine EW.condT rfl ?_)
    exact ⟨_, rfl, rfl, he1.trans he2⟩
theorem szTermSC (ks : List Tm) (A : Option Addr) (cap : Nat) (left : Int) (w : World) (h : TsB w 0 A ks) (hl : 0 ≤ left ∧ left ≤ 1048576) :
    CallsR Try.prog 59 [.slice A ks.length cap, .int .i64 left] w fun v w' => v = .int .i64 (szV (tmL ks) left) ∧ Ext w w' := by
  have hr := h.1
  have hge := tmL_ge ks
  refine CallsR.enter Try.func59 (by decide +kernel) rfl Try.ntmps59 rfl ?_
  by_cases h0 : left - (ks.length : Int) < 0
  · repeat' (first
      | (show EL _ _ _ _ (_ :: _) _ _
         first
         | (show EL _ _ _ _ (⟨_, .move _, _, _, _, _⟩ :: _) _ _; refine EL.f (FV.move rfl) rfl rfl ?_)
         | (show EL _ _ _ _ (⟨_, .assign _, _, _, _, _⟩ :: _) _ _; refine EL.f (FV.assign rfl) rfl rfl ?_)
         | (show EL _ _ _ _ (⟨_, .binOp .sub _ _ _ _, _, _, _, _⟩ :: _) _ _; refine EL.f (FV.subI rfl rfl (by omega)) rfl rfl ?_)
         | (show EL _ _ _ _ (⟨_, .call _, _, _, _, _⟩ :: _) _ _; refine EL.f (FV.len rfl rfl) rfl rfl ?_)
         | (show EL _ _ _ _ (⟨_, .binOp .lss _ _ _ _, _, _, _, _⟩ :: _) _ _; refine EL.fT (FV.lss rfl rfl) rfl (fun _ => rfl) (by omega) ?_))
      | refine EL.nil ?_
      | refine EW.seq ?_
      | refine EW.region ?_
      | refine EW.ret ?_
      | refine EW.condT rfl ?_)
    exact ⟨_, rfl, by rw [szV_gt (by omega)], Ext.refl _⟩
  repeat' (first
    | (show EL _ _ _ _ (_ :: _) _ _
       first
       | (show EL _ _ _ _ (⟨_, .move _, _, _, _, _⟩ :: _) _ _; refine EL.f (FV.move rfl) rfl rfl ?_)
       | (show EL _ _ _ _ (⟨_, .assign _, _, _, _, _⟩ :: _) _ _; refine EL.f (FV.assign rfl) rfl rfl ?_)
       | (show EL _ _ _ _ (⟨_, .binOp .sub _ _ _ _, _, _, _, _⟩ :: _) _ _; refine EL.f (FV.subI rfl rfl (by omega)) rfl rfl ?_)
       | (show EL _ _ _ _ (⟨_, .call _, _, _, _, _⟩ :: _) _ _; refine EL.f (FV.len rfl rfl) rfl rfl ?_)
       | (show EL _ _ _ _ (⟨_, .binOp .lss _ _ _ _, _, _, _, _⟩ :: _) _ _; refine EL.fF (FV.lss rfl rfl) rfl (fun _ => rfl) (by omega) ?_))
    | refine EL.nil ?_
    | refine EW.seq ?_
    | refine EW.region ?_
    | refine EW.block ?_
    | refine EW.skip ?_
    | refine EW.condF rfl ?_)
  refine EW.loop (X := Nat × Int) (fun y wr => y.1 ≤ ks.length ∧ (0 ≤ y.2 ∧ y.2 ≤ 1048576) ∧ y.2 = left - ks.length + y.1 - tmL (ks.take y.1) ∧ Ext w wr) (fun y => [(0, .slice A ks.length cap), (1, .int .i64 y.2), (5, .int .i64 y.1)]) (fun y => ks.length - y.1) (0, left - ks.length) ⟨Nat.zero_le _, by dsimp only; omega, by simp [tmL], Ext.refl _⟩ ⟨rfl, rfl, rfl, trivial⟩ ?_
  rintro ⟨i, l⟩ wr ⟨hi, hb, he, hE⟩
  dsimp only at *
  by_cases hlt : i < ks.length
  · obtain ⟨b, o, cs, rfl, hL, hX, hc⟩ := (h.ext hE).kid hlt
    have hst := tmL_take hlt
    have hsp := tmL_split ks (i + 1)
    have hdr := tmL_ge (ks.drop (i + 1))
    rw [List.length_drop] at hdr
    have hcall := szTermC _ cs wr l hX hb
    generalize ks.getD i dTm = x at *
    repeat' (first
      | (show EL _ _ _ _ (_ :: _) _ _
         first
         | (show EL _ _ _ _ (⟨_, .indexAddr _ _ _, _, _, _, _⟩ :: _) _ _; refine EL.f (FV.idx rfl rfl rfl rfl (by omega) (by omega)) rfl rfl ?_)
         | (show EL _ _ _ _ (⟨_, .load _ _, _, _, _, _⟩ :: _) _ _; refine EL.f (FV.loadAgg (cs := cs) rfl rfl rfl hc rfl (fun _ e => e ▸ hL)) rfl rfl ?_)
         | (show EL _ _ _ _ (⟨_, .move _, _, _, _, _⟩ :: _) _ _; refine EL.f (FV.move rfl) rfl rfl ?_)
         | (show EL _ _ _ _ (⟨_, .call _, _, _, _, _⟩ :: _) _ _; refine EL.f (FV.len rfl rfl) rfl rfl ?_)
         | (show EL _ _ _ _ (⟨_, .binOp .lss _ _ _ _, _, _, _, _⟩ :: _) _ _; refine EL.fT (FV.lss rfl rfl) rfl (fun _ => rfl) (by omega) ?_))
      | refine EL.nil ?_
      | refine EW.seq ?_
      | refine EW.region ?_
      | refine EW.block ?_
      | refine EW.skip ?_
      | refine EW.condT rfl ?_)
    refine EL.h (Hv.call hcall rfl) rfl (fun _ => rfl) ?_
    rintro _ w1 ⟨rfl, he1⟩
    by_cases hn : (x.cnt : Int) ≤ l
    · rw [szV_le hn]
      repeat' (first
        | (show EL _ _ _ _ (_ :: _) _ _
           first
           | (show EL _ _ _ _ (⟨_, .move _, _, _, _, _⟩ :: _) _ _; refine EL.f (FV.move rfl) rfl rfl ?_)
           | (show EL _ _ _ _ (⟨_, .assign _, _, _, _, _⟩ :: _) _ _; refine EL.f (FV.assign rfl) rfl rfl ?_)
           | (show EL _ _ _ _ (⟨_, .binOp .add _ _ _ _, _, _, _, _⟩ :: _) _ _; refine EL.f (FV.addI rfl rfl (by omega)) rfl rfl ?_)
           | (show EL _ _ _ _ (⟨_, .binOp .lss _ _ _ _, _, _, _, _⟩ :: _) _ _; refine EL.fF (FV.lss rfl rfl) rfl (fun _ => rfl) (by omega) ?_))
        | refine EL.nil ?_
        | refine EW.seq ?_
        | refine EW.region ?_
        | refine EW.skip ?_
        | refine EW.condF rfl ?_)
      exact ⟨(i + 1, l - x.cnt), ⟨rfl, rfl, rfl, trivial⟩, ⟨by dsimp only; omega, by dsimp only; omega, by dsimp only; omega, hE.trans he1⟩, by dsimp only; omega⟩
    · rw [szV_gt hn]
      repeat' (first
        | refine EL.f (FV.move rfl) rfl rfl ?_
        | refine EL.f (FV.assign rfl) rfl rfl ?_
        | refine EL.fT (FV.lss rfl rfl) rfl (fun _ => rfl) (by omega) ?_
        | refine EL.nil ?_
        | refine EW.seq ?_
        | refine EW.region ?_
        | refine EW.ret ?_
        | refine EW.condT rfl ?_)
      exact ⟨_, rfl, by rw [szV_gt (by omega)], hE.trans he1⟩
  · obtain rfl : i = ks.length := by omega
    rw [List.take_length] at he
    repeat' (first
      | (show EL _ _ _ _ (_ :: _) _ _
         first
         | (show EL _ _ _ _ (⟨_, .move _, _, _, _, _⟩ :: _) _ _; refine EL.f (FV.move rfl) rfl rfl ?_)
         | (show EL _ _ _ _ (⟨_, .assign _, _, _, _, _⟩ :: _) _ _; refine EL.f (FV.assign rfl) rfl rfl ?_)
         | (show EL _ _ _ _ (⟨_, .call _, _, _, _, _⟩ :: _) _ _; refine EL.f (FV.len rfl rfl) rfl rfl ?_)
         | (show EL _ _ _ _ (⟨_, .binOp .lss _ _ _ _, _, _, _, _⟩ :: _) _ _; refine EL.fF (FV.lss rfl rfl) rfl (fun _ => rfl) (by omega) ?_))
      | refine EL.nil ?_
      | refine EW.seq ?_
      | refine EW.region ?_
      | refine EW.exit ?_
      | refine EW.ret ?_
      | refine EW.condF rfl ?_)
    exact ⟨_, rfl, by rw [szV_le (by omega), he]; congr 1; omega, hE⟩
theorem szPolyC (e : Po) (cs : List Value) (w : World) (left : Int) (hx : PoB w 0 cs e) (hl : 0 ≤ left ∧ left ≤ 1048576) : CallsR Try.prog 31 [.agg cs.toArray, .int .i64 left] w fun v w' => v = .int .i64 (szV e.cnt left) ∧ Ext w w' := by
  obtain ⟨A, cap, rfl, hks⟩ := hx
  refine CallsR.enter Try.func31 (by decide +kernel) rfl Try.ntmps31 rfl ?_
  repeat' (first
    | refine EW.seq ?_
    | refine EW.region ?_)
  refine EL.h (Hv.boxA (sz := 2) rfl rfl) rfl (fun _ => rfl) ?_
  rintro _ w1 ⟨g1, rfl, hg1, hb, he1⟩
  repeat' (first
    | (show EL _ _ _ _ (_ :: _) _ _
       first
       | (show EL _ _ _ _ (⟨_, .fieldAddr _ _ _, _, _, _, _⟩ :: _) _ _; refine EL.f (FV.fieldAddr rfl rfl rfl rfl rfl) rfl rfl ?_)
       | (show EL _ _ _ _ (⟨_, .load _ _, _, _, _, _⟩ :: _) _ _; refine EL.f (FV.load1 rfl rfl rfl (At.cell hb rfl)) rfl rfl ?_)
       | (show EL _ _ _ _ (⟨_, .move _, _, _, _, _⟩ :: _) _ _; refine EL.f (FV.move rfl) rfl rfl ?_)
       | (show EL _ _ _ _ (⟨_, .assign _, _, _, _, _⟩ :: _) _ _; refine EL.f (FV.assign rfl) rfl rfl ?_))
    | refine EL.nil ?_
    | refine EW.seq ?_
    | refine EW.region ?_)
  refine EL.h (Hv.call (szTermSC e.terms A cap left w1 (hks.ext he1) hl) rfl) rfl (fun _ => rfl) ?_
  rintro _ w2 ⟨rfl, he2⟩
  show EL _ _ _ _ _ _ _
  unfold Po.cnt
  by_cases hn : (tmL e.terms : Int) ≤ left
  · rw [szV_le hn]
    repeat' (first
      | refine EL.f (FV.move rfl) rfl rfl ?_
      | refine EL.f (FV.assign rfl) rfl rfl ?_
      | refine EL.fF (FV.lss rfl rfl) rfl (fun _ => rfl) (by omega) ?_
      | refine EL.nil ?_
      | refine EW.seq ?_
      | refine EW.region ?_
      | refine EW.skip ?_
      | refine EW.ret ?_
      | refine EW.condF rfl ?_)
    exact ⟨_, rfl, rfl, he1.trans he2⟩
  · rw [szV_gt hn]
    repeat' (first
      | refine EL.f (FV.move rfl) rfl rfl ?_
      | refine EL.f (FV.assign rfl) rfl rfl ?_
      | refine EL.fT (FV.lss rfl rfl) rfl (fun _ => rfl) (by omega) ?_
      | refine EL.nil ?_
      | refine EW.seq ?_
      | refine EW.region ?_
      | refine EW.ret ?_
      | refine EW.condT rfl ?_)
    exact ⟨_, rfl, rfl, he1.trans he2⟩
/-! copies -/
structure Duo where
  val : List Value
  ok : val.length = 2
def z2 : Duo := ⟨[.slice none 0 0, .int .i64 0], rfl⟩
theorem toTermC (f : Tm) (hs : f.cnt ≤ 1048576) (cs : List Value) (w : World) (hx : TmB w 0 cs f) : CallsR Try.prog 84 [.agg cs.toArray] w fun v w' => ∃ ds, v = .agg ds.toArray ∧ TmB w' w.heap.size ds f ∧ Ext w w' := by
  obtain ⟨A, cap, rfl, hks⟩ := hx
  unfold Tm.cnt at hs
  refine CallsR.enterC Try.func84 (by decide +kernel) rfl Try.ntmps84 rfl rfl rfl rfl rfl ?_
  repeat' (first
    | refine EW.seq ?_
    | refine EW.region ?_)
  refine EL.h (Hv.boxA (sz := 2) rfl rfl) rfl (fun _ => rfl) ?_
  rintro _ w1 ⟨g1, rfl, hg1, hb, he1⟩
  skip
  refine EL.h (Hv.allocA rfl rfl) rfl (fun _ => rfl) ?_
  rintro _ w2 ⟨g2, rfl, hg2, h2, he2⟩
  repeat' (first
    | refine EL.nil ?_
    | refine EW.seq ?_
    | refine EW.region ?_)
  refine EL.h (Hv.allocA rfl rfl) rfl (fun _ => rfl) ?_
  rintro _ w3 ⟨g3, rfl, hg3, h3, he3⟩
  have s1 := he1.size
  have s2 := he2.size
  have l2 := At.lt h2
  replace hb := At.ext hb (he2.trans he3)
  replace h2 := At.ext h2 he3
  have n13 : g1 ≠ g3 := by have := At.lt hb; omega
  have n23 : g2 ≠ g3 := by omega
  have hw3 := (he1.trans he2).trans he3
  repeat' (first
    | refine EL.f (FV.fieldAddr rfl rfl rfl rfl rfl) rfl rfl ?_
    | refine EL.f (FV.load1 rfl rfl rfl (At.cell hb rfl)) rfl rfl ?_
    | refine EL.nil ?_
    | refine EW.seq ?_
    | refine EW.region ?_)
  refine EL.h (Hv.call (toInts A cap f.exps w3 (hks.ext hw3).rd hs) rfl) rfl (fun _ => rfl) ?_
  rintro _ w4 ⟨gi, rfl, hgi, hai, he4⟩
  replace hb := At.ext hb he4
  replace h2 := At.ext h2 he4
  have l3 := At.lt h3
  replace h3 := At.ext h3 he4
  have hw4 := hw3.trans he4
  repeat' (first
    | refine EL.f (FV.fieldAddr rfl rfl rfl rfl rfl) rfl rfl ?_)
  refine EL.h (Hv.storeG rfl rfl rfl rfl rfl h3 rfl) rfl (fun _ => rfl) ?_
  rintro _ w5 ⟨h3', hr5⟩
  replace hb := At.kept hb hr5 (by simp; exact n13)
  replace h2 := At.kept h2 hr5 (by simp; exact n23)
  have hw5 : Ext w w5 := Below.wr hw4 hr5 (by omega) (Nat.le_refl _)
  have hI : IsB w5 w3.heap.size (some ⟨gi, 0, none⟩) f.exps := (AtI.isB hai hgi hs).far hr5 l3
  have l35 := At.lt h3'
  repeat' (first
    | refine EL.f (FV.fieldAddr rfl rfl rfl rfl rfl) rfl rfl ?_
    | refine EL.f (FV.load1 rfl rfl rfl (At.cell hb rfl)) rfl rfl ?_
    | refine EL.nil ?_
    | refine EW.seq ?_
    | refine EW.region ?_)
  refine EL.h (Hv.storeG rfl rfl rfl rfl rfl h3' rfl) rfl (fun _ => rfl) ?_
  rintro _ w6 ⟨h9, hr6⟩
  replace h9 : At w6 89 2 g3 1 1 [.slice (some ⟨gi, 0, none⟩) f.exps.length f.exps.length, .int .i64 f.coef] := h9
  replace h2 := At.kept h2 hr6 (by simp; exact n23)
  have hw6 : Ext w w6 := Below.wr hw5 hr6 (by omega) (Nat.le_refl _)
  have hX9 : TmB w6 w3.heap.size [.slice (some ⟨gi, 0, none⟩) f.exps.length f.exps.length, .int .i64 f.coef] f := ⟨_, _, rfl, hI.far hr6 l3⟩
  repeat' (first
    | refine EL.f (FV.loadAgg (cs := [.slice (some ⟨gi, 0, none⟩) f.exps.length f.exps.length, .int .i64 f.coef]) rfl rfl rfl rfl rfl (fun _ e => e ▸ At.lies h9)) rfl rfl ?_
    | refine EL.nil ?_
    | refine EW.seq ?_
    | refine EW.region ?_)
  refine EL.h (Hv.storeAggG (vs := [.slice (some ⟨gi, 0, none⟩) f.exps.length f.exps.length, .int .i64 f.coef]) rfl rfl rfl rfl hX9.one h2 (Nat.le_refl _)) rfl (fun _ => rfl) ?_
  rintro _ wA ⟨hA, hrA⟩
  repeat' (first
    | refine EL.nil ?_
    | refine EW.ret ?_)
  have s3 := hw3.size
  exact ⟨g2, 0, [.slice (some ⟨gi, 0, none⟩) f.exps.length f.exps.length, .int .i64 f.coef], rfl, rfl, At.lies hA, _, rfl, (hX9.far hrA (by omega)).lower s3, Below.wr hw6 hrA (by omega) (Nat.le_refl _)⟩
theorem toTermSC (ks : List Tm) (A : Option Addr) (cap : Nat) (w : World) (h : TsB w 0 A ks) (hs : tmL ks ≤ 1048576) :
    CallsR Try.prog 61 [.slice A ks.length cap] w fun v w' => ∃ B cap', v = .slice B ks.length cap' ∧ TsB w' w.heap.size B ks ∧ ks.length ≤ cap' ∧ Ext w w' := by
  have hn : ks.length ≤ 1048576 := Nat.le_trans (tmL_ge ks) hs
  refine CallsR.enter Try.func61 (by decide +kernel) rfl Try.ntmps61 rfl ?_
  repeat' (first
    | refine EL.f (FV.move rfl) rfl rfl ?_
    | refine EL.f (FV.assign rfl) rfl rfl ?_
    | refine EL.f (FV.len rfl rfl) rfl rfl ?_
    | refine EL.nil ?_
    | refine EW.seq ?_
    | refine EW.region ?_)
  refine EL.h (Hv.make (kl := .i64) rfl rfl rfl rfl (by omega) (by omega)) rfl (fun _ => rfl) ?_
  rintro _ w1 ⟨g, rfl, hg, hat, he1⟩
  rw [made_flat (f := Duo.val) (s := 2) (fun x : Duo => x.ok) z2 (Value.agg #[.slice none 0 0, .int .i64 0]).cells rfl (by decide) ks.length] at hat
  repeat' (first
    | refine EL.f (FV.assign rfl) rfl rfl ?_
    | refine EL.nil ?_
    | refine EW.seq ?_
    | refine EW.region ?_
    | refine EW.block ?_)
  refine EW.loop (X := Nat) (fun i wr => i ≤ ks.length ∧ (∃ xs : List Duo, xs.length = ks.length ∧ At wr 89 2 g ks.length ks.length (xs.flatMap Duo.val) ∧ ∀ j, j < i → TmB wr (g + 1) (xs.getD j z2).val (ks.getD j dTm)) ∧ Ext w wr) (fun i => [(0, .slice A ks.length cap), (3, .slice (some ⟨g, 0, none⟩) ks.length ks.length), (4, .int .i64 i)]) (fun i => ks.length - i) 0 ⟨Nat.zero_le _, ⟨_, by simp, hat, fun j hj => by omega⟩, he1⟩ ⟨rfl, rfl, rfl, trivial⟩ ?_
  clear hat
  rintro i wr ⟨hi, ⟨xs, hxl, hat, hxs⟩, hE⟩
  by_cases hlt : i < ks.length
  · obtain ⟨b, o, cs, rfl, hL, hX, hc⟩ := (h.ext hE).kid hlt
    have hkd := tmL_kid hlt
    repeat' (first
      | (show EL _ _ _ _ (_ :: _) _ _
         first
         | (show EL _ _ _ _ (⟨_, .indexAddr _ _ _, _, _, _, _⟩ :: _) _ _; refine EL.f (FV.idx rfl rfl rfl rfl (by omega) (by omega)) rfl rfl ?_)
         | (show EL _ _ _ _ (⟨_, .load _ _, _, _, _, _⟩ :: _) _ _; refine EL.f (FV.loadAgg (cs := cs) rfl rfl rfl hc rfl (fun _ e => e ▸ hL)) rfl rfl ?_)
         | (show EL _ _ _ _ (⟨_, .move _, _, _, _, _⟩ :: _) _ _; refine EL.f (FV.move rfl) rfl rfl ?_)
         | (show EL _ _ _ _ (⟨_, .call _, _, _, _, _⟩ :: _) _ _; refine EL.f (FV.len rfl rfl) rfl rfl ?_)
         | (show EL _ _ _ _ (⟨_, .binOp .lss _ _ _ _, _, _, _, _⟩ :: _) _ _; refine EL.fT (FV.lss rfl rfl) rfl (fun _ => rfl) (by omega) ?_))
      | refine EL.nil ?_
      | refine EW.seq ?_
      | refine EW.region ?_
      | refine EW.block ?_
      | refine EW.skip ?_
      | refine EW.condT rfl ?_)
    refine EL.h (Hv.call (toTermC _ (by omega) cs wr hX) rfl) rfl (fun _ => rfl) ?_
    rintro _ w2 ⟨ds, rfl, hds, he2⟩
    have hlg := At.lt hat
    have hat2 := At.ext hat he2
    have hroom := flat_room (f := Duo.val) (s := 2) (fun x : Duo => x.ok) ⟨ds, hds.len⟩ xs i (by omega)
    repeat' (first
      | refine EL.f (FV.idx rfl rfl rfl rfl (by omega) (by omega)) rfl rfl ?_)
    refine EL.h (Hv.storeAggG (vs := ds) rfl rfl rfl hds.len hds.one hat2 (by simpa using hroom)) rfl (fun _ => rfl) ?_
    rintro _ w3 ⟨hat3, hr3⟩
    have hE3 : Ext w w3 := Below.wr (hE.trans he2) hr3 (by omega) (Nat.le_refl _)
    have e3 := setL_flat (f := Duo.val) (s := 2) (fun x : Duo => x.ok) ⟨ds, hds.len⟩ xs i (by omega)
    rw [Nat.zero_add, show setL (xs.flatMap Duo.val) ((i : Int).toNat * 2) ds = _ from e3] at hat3
    repeat' (first
      | refine EL.f (FV.move rfl) rfl rfl ?_
      | refine EL.f (FV.assign rfl) rfl rfl ?_
      | refine EL.f (FV.addI rfl rfl (by omega)) rfl rfl ?_
      | refine EL.nil ?_
      | refine EW.region ?_)
    refine ⟨i + 1, ⟨rfl, rfl, rfl, trivial⟩, ⟨by omega, ⟨_, by simpa using hxl, hat3, fun j hj => ?_⟩, hE3⟩, by omega⟩
    by_cases hji : j = i
    · subst hji
      rw [show (xs.set j ⟨ds, hds.len⟩).getD j z2 = ⟨ds, hds.len⟩ from by simp [List.getD_eq_getElem?_getD, show j < xs.length from by omega]]
      exact (hds.lower (by omega)).far hr3 (by omega)
    · rw [show (xs.set i ⟨ds, hds.len⟩).getD j z2 = xs.getD j z2 from by rw [List.getD_eq_getElem?_getD, List.getElem?_set_ne (Ne.symm hji), ← List.getD_eq_getElem?_getD]]
      exact ((hxs j (by omega)).ext he2).far hr3 (by omega)
  · obtain rfl : i = ks.length := by omega
    repeat' (first
      | (show EL _ _ _ _ (_ :: _) _ _
         first
         | (show EL _ _ _ _ (⟨_, .move _, _, _, _, _⟩ :: _) _ _; refine EL.f (FV.move rfl) rfl rfl ?_)
         | (show EL _ _ _ _ (⟨_, .assign _, _, _, _, _⟩ :: _) _ _; refine EL.f (FV.assign rfl) rfl rfl ?_)
         | (show EL _ _ _ _ (⟨_, .call _, _, _, _, _⟩ :: _) _ _; refine EL.f (FV.len rfl rfl) rfl rfl ?_)
         | (show EL _ _ _ _ (⟨_, .binOp .lss _ _ _ _, _, _, _, _⟩ :: _) _ _; refine EL.fF (FV.lss rfl rfl) rfl (fun _ => rfl) (by omega) ?_))
      | refine EL.nil ?_
      | refine EW.seq ?_
      | refine EW.region ?_
      | refine EW.exit ?_
      | refine EW.ret ?_
      | refine EW.condF rfl ?_)
    refine ⟨_, rfl, _, _, rfl, ⟨by omega, fun i => (xs.getD i z2).val, fun i hi => ?_, fun i hi => (hxs i hi).lower (by omega)⟩, Nat.le_refl _, hE⟩
    refine ⟨g, 0, rfl, by omega, At.lt hat, ?_⟩
    exact (At.lies hat).part (flat_part (f := Duo.val) (s := 2) (fun x : Duo => x.ok) z2 xs i (by omega))
theorem toPolyC (e : Po) (hs : e.cnt ≤ 1048576) (cs : List Value) (w : World) (hx : PoB w 0 cs e) : CallsR Try.prog 33 [.agg cs.toArray] w fun v w' => ∃ ds, v = .agg ds.toArray ∧ PoB w' w.heap.size ds e ∧ Ext w w' := by
  obtain ⟨A, cap, rfl, hks⟩ := hx
  refine CallsR.enterC Try.func33 (by decide +kernel) rfl Try.ntmps33 rfl rfl rfl rfl rfl ?_
  repeat' (first
    | refine EW.seq ?_
    | refine EW.region ?_)
  refine EL.h (Hv.boxA (sz := 2) rfl rfl) rfl (fun _ => rfl) ?_
  rintro _ w1 ⟨g1, rfl, hg1, hb, he1⟩
  skip
  refine EL.h (Hv.allocA rfl rfl) rfl (fun _ => rfl) ?_
  rintro _ w2 ⟨g2, rfl, hg2, h2, he2⟩
  repeat' (first
    | refine EL.nil ?_
    | refine EW.seq ?_
    | refine EW.region ?_)
  refine EL.h (Hv.allocA rfl rfl) rfl (fun _ => rfl) ?_
  rintro _ w3 ⟨g3, rfl, hg3, h3, he3⟩
  have s1 := he1.size
  have s2 := he2.size
  have l2 := At.lt h2
  replace hb := At.ext hb (he2.trans he3)
  replace h2 := At.ext h2 he3
  have n13 : g1 ≠ g3 := by have := At.lt hb; omega
  have n23 : g2 ≠ g3 := by omega
  have hw3 := (he1.trans he2).trans he3
  repeat' (first
    | refine EL.f (FV.fieldAddr rfl rfl rfl rfl rfl) rfl rfl ?_
    | refine EL.f (FV.load1 rfl rfl rfl (At.cell hb rfl)) rfl rfl ?_
    | refine EL.nil ?_
    | refine EW.seq ?_
    | refine EW.region ?_)
  refine EL.h (Hv.storeG rfl rfl rfl rfl rfl h3 rfl) rfl (fun _ => rfl) ?_
  rintro _ w4 ⟨h3', hr4⟩
  replace hb := At.kept hb hr4 (by simp; exact n13)
  replace h2 := At.kept h2 hr4 (by simp; exact n23)
  have hw4 : Ext w w4 := Below.wr hw3 hr4 (by omega) (Nat.le_refl _)
  have l3 := At.lt h3'
  repeat' (first
    | refine EL.f (FV.fieldAddr rfl rfl rfl rfl rfl) rfl rfl ?_
    | refine EL.f (FV.load1 rfl rfl rfl (At.cell hb rfl)) rfl rfl ?_
    | refine EL.nil ?_
    | refine EW.seq ?_
    | refine EW.region ?_)
  refine EL.h (Hv.call (toTermSC e.terms A cap w4 (hks.ext hw4) hs) rfl) rfl (fun _ => rfl) ?_
  rintro _ w8 ⟨B, cap', rfl, hK, hcp, he8⟩
  replace h3' := At.ext h3' he8
  replace h2 := At.ext h2 he8
  have hw8 := hw4.trans he8
  have s7 := hw4.size
  repeat' (first
    | refine EL.f (FV.fieldAddr rfl rfl rfl rfl rfl) rfl rfl ?_)
  refine EL.h (Hv.storeG rfl rfl rfl rfl rfl h3' rfl) rfl (fun _ => rfl) ?_
  rintro _ w9 ⟨h9, hr9⟩
  replace h9 : At w9 53 2 g3 1 1 [.int .i64 e.vars, .slice B e.terms.length cap'] := h9
  replace h2 := At.kept h2 hr9 (by simp; exact n23)
  have hw9 : Ext w w9 := Below.wr hw8 hr9 (by omega) (Nat.le_refl _)
  have hX9 : PoB w9 w4.heap.size [.int .i64 e.vars, .slice B e.terms.length cap'] e := PoB.far ⟨B, cap', rfl, hK⟩ hr9 l3
  repeat' (first
    | refine EL.f (FV.loadAgg (cs := [.int .i64 e.vars, .slice B e.terms.length cap']) rfl rfl rfl rfl rfl (fun _ e => e ▸ At.lies h9)) rfl rfl ?_
    | refine EL.nil ?_
    | refine EW.seq ?_
    | refine EW.region ?_)
  refine EL.h (Hv.storeAggG (vs := [.int .i64 e.vars, .slice B e.terms.length cap']) rfl rfl rfl rfl hX9.one h2 (Nat.le_refl _)) rfl (fun _ => rfl) ?_
  rintro _ wA ⟨hA, hrA⟩
  repeat' (first
    | refine EL.nil ?_
    | refine EW.ret ?_)
  exact ⟨g2, 0, [.int .i64 e.vars, .slice B e.terms.length cap'], rfl, rfl, At.lies hA, _, rfl, (hX9.far hrA (by have := hr4.size; omega)).lower s7, Below.wr hw9 hrA (by omega) (Nat.le_refl _)⟩
/-! comparisons of what is the same -/
theorem eqTermC (f : Tm) (hs : f.cnt ≤ 1048576) (cs ds : List Value) (w : World) (hx : TmB w 0 cs f) (hy : TmB w 0 ds f) : CallsR Try.prog 87 [.agg cs.toArray, .agg ds.toArray] w fun v w' => v = .bool true ∧ Ext w w' := by
  obtain ⟨A, cap, rfl, hks⟩ := hx
  obtain ⟨B, dap, rfl, hls⟩ := hy
  unfold Tm.cnt at hs
  refine CallsR.enter Try.func87 (by decide +kernel) rfl Try.ntmps87 rfl ?_
  repeat' (first
    | refine EW.seq ?_
    | refine EW.region ?_)
  refine EL.h (Hv.boxA (sz := 2) rfl rfl) rfl (fun _ => rfl) ?_
  rintro _ w1 ⟨g1, rfl, hg1, hb, he1⟩
  skip
  refine EL.h (Hv.boxA (sz := 2) rfl rfl) rfl (fun _ => rfl) ?_
  rintro _ w2 ⟨g2, rfl, hg2, h2, he2⟩
  replace hb := At.ext hb he2
  have hw2 := he1.trans he2
  repeat' (first
    | refine EL.f (FV.fieldAddr rfl rfl rfl rfl rfl) rfl rfl ?_
    | refine EL.f (FV.load1 rfl rfl rfl (At.cell hb rfl)) rfl rfl ?_
    | refine EL.f (FV.load1 rfl rfl rfl (At.cell h2 rfl)) rfl rfl ?_
    | refine EL.f (FV.assign rfl) rfl rfl ?_
    | refine EL.nil ?_
    | refine EW.seq ?_
    | refine EW.region ?_)
  refine EL.h (Hv.call (eqSame A B cap dap f.exps w2 (hks.ext hw2).rd (hls.ext hw2).rd hs) rfl) rfl (fun _ => rfl) ?_
  rintro _ w3 ⟨rfl, he3⟩
  replace hb := At.ext hb he3
  replace h2 := At.ext h2 he3
  repeat' (first
    | (show EL _ _ _ _ (_ :: _) _ _
       first
       | (show EL _ _ _ _ (⟨_, .fieldAddr _ _ _, _, _, _, _⟩ :: _) _ _; refine EL.f (FV.fieldAddr rfl rfl rfl rfl rfl) rfl rfl ?_)
       | (show EL _ _ _ _ (⟨_, .load _ _, _, _, _, _⟩ :: _) _ _; first | refine EL.f (FV.load1 rfl rfl rfl (At.cell hb rfl)) rfl rfl ?_ | refine EL.f (FV.load1 rfl rfl rfl (At.cell h2 rfl)) rfl rfl ?_)
       | (show EL _ _ _ _ (⟨_, .assign _, _, _, _, _⟩ :: _) _ _; refine EL.f (FV.assign rfl) rfl rfl ?_)
       | (show EL _ _ _ _ (⟨_, .unOp .not _ _, _, _, _, _⟩ :: _) _ _; refine EL.f (FV.not rfl) rfl rfl ?_)
       | (show EL _ _ _ _ (⟨_, .binOp .neq _ _ _ _, _, _, _, _⟩ :: _) _ _; refine EL.fF (FV.neq rfl rfl) rfl (fun _ => rfl) (by omega) ?_))
    | refine EL.nil ?_
    | refine EW.seq ?_
    | refine EW.region ?_
    | refine EW.skip ?_
    | refine EW.ret ?_
    | refine EW.condF rfl ?_)
  exact ⟨_, rfl, rfl, hw2.trans he3⟩
theorem eqTermSC (ks : List Tm) (A B : Option Addr) (cap dap : Nat) (w : World) (h : TsB w 0 A ks) (h' : TsB w 0 B ks) (hs : tmL ks ≤ 1048576) :
    CallsR Try.prog 67 [.slice A ks.length cap, .slice B ks.length dap] w fun v w' => v = .bool true ∧ Ext w w' := by
  have hn : ks.length ≤ 1048576 := Nat.le_trans (tmL_ge ks) hs
  refine CallsR.enter Try.func67 (by decide +kernel) rfl Try.ntmps67 rfl ?_
  repeat' (first
    | (show EL _ _ _ _ (_ :: _) _ _
       first
       | (show EL _ _ _ _ (⟨_, .move _, _, _, _, _⟩ :: _) _ _; refine EL.f (FV.move rfl) rfl rfl ?_)
       | (show EL _ _ _ _ (⟨_, .assign _, _, _, _, _⟩ :: _) _ _; refine EL.f (FV.assign rfl) rfl rfl ?_)
       | (show EL _ _ _ _ (⟨_, .call _, _, _, _, _⟩ :: _) _ _; refine EL.f (FV.len rfl rfl) rfl rfl ?_)
       | (show EL _ _ _ _ (⟨_, .binOp .neq _ _ _ _, _, _, _, _⟩ :: _) _ _; refine EL.fF (FV.neq rfl rfl) rfl (fun _ => rfl) (by omega) ?_))
    | refine EL.nil ?_
    | refine EW.seq ?_
    | refine EW.region ?_
    | refine EW.block ?_
    | refine EW.skip ?_
    | refine EW.condF rfl ?_)
  refine EW.loop (X := Nat) (fun i wr => i ≤ ks.length ∧ Ext w wr) (fun i => [(0, .slice A ks.length cap), (1, .slice B ks.length dap), (5, .int .i64 i)]) (fun i => ks.length - i) 0 ⟨Nat.zero_le _, Ext.refl _⟩ ⟨rfl, rfl, rfl, trivial⟩ ?_
  rintro i wr ⟨hi, hE⟩
  by_cases hlt : i < ks.length
  · obtain ⟨b, o, cs, rfl, hL, hX, hc⟩ := (h.ext hE).kid hlt
    obtain ⟨b', o', ds, rfl, hL', hX', hc'⟩ := (h'.ext hE).kid hlt
    have hkd := tmL_kid hlt
    repeat' (first
      | refine EL.f (FV.move rfl) rfl rfl ?_
      | refine EL.f (FV.len rfl rfl) rfl rfl ?_
      | refine EL.fT (FV.lss rfl rfl) rfl (fun _ => rfl) (by omega) ?_
      | refine EL.nil ?_
      | refine EW.seq ?_
      | refine EW.region ?_
      | refine EW.block ?_
      | refine EW.skip ?_
      | refine EW.condT rfl ?_)
    refine EW.draw (fun w' => Ext wr w') (pl 0 8 ++ [(8, false), (9, true)]) mixed (by decide +kernel) (Ext.drew _) ?_
    repeat' (first
      | refine EP.f rfl (FV.idx (s := 2) rfl rfl rfl rfl (by omega) (by omega)) rfl rfl ?_
      | refine EP.f rfl (FV.loadAgg (cs := cs) rfl rfl rfl hc rfl (fun _ e => hL.ext e)) rfl rfl ?_
      | refine EP.f rfl (FV.loadAgg (cs := ds) rfl rfl rfl hc' rfl (fun _ e => hL'.ext e)) rfl rfl ?_
      | refine EP.f rfl (FV.move rfl) rfl rfl ?_)
    have ed := Ext.drew wr
    refine EP.h rfl rfl (Hv.call (eqTermC _ (by omega) cs ds wr.drew (hX.ext ed) (hX'.ext ed)) rfl) rfl (fun _ => rfl) ?_
    rintro _ w1 ⟨rfl, he1⟩
    refine ⟨ed.trans he1, ?_⟩
    repeat' (first
      | refine EP.nil ?_
      | refine EP.f rfl (FV.not rfl) rfl rfl ?_)
    repeat' (first
      | refine EL.f (FV.move rfl) rfl rfl ?_
      | refine EL.f (FV.assign rfl) rfl rfl ?_
      | refine EL.f (FV.addI rfl rfl (by omega)) rfl rfl ?_
      | refine EL.nil ?_
      | refine EW.region ?_
      | refine EW.skip ?_
      | refine EW.condF rfl ?_)
    exact ⟨i + 1, ⟨rfl, rfl, rfl, trivial⟩, ⟨by omega, (hE.trans ed).trans he1⟩, by omega⟩
  · obtain rfl : i = ks.length := by omega
    repeat' (first
      | (show EL _ _ _ _ (_ :: _) _ _
         first
         | (show EL _ _ _ _ (⟨_, .move _, _, _, _, _⟩ :: _) _ _; refine EL.f (FV.move rfl) rfl rfl ?_)
         | (show EL _ _ _ _ (⟨_, .assign _, _, _, _, _⟩ :: _) _ _; refine EL.f (FV.assign rfl) rfl rfl ?_)
         | (show EL _ _ _ _ (⟨_, .call _, _, _, _, _⟩ :: _) _ _; refine EL.f (FV.len rfl rfl) rfl rfl ?_)
         | (show EL _ _ _ _ (⟨_, .binOp .lss _ _ _ _, _, _, _, _⟩ :: _) _ _; refine EL.fF (FV.lss rfl rfl) rfl (fun _ => rfl) (by omega) ?_))
      | refine EL.nil ?_
      | refine EW.seq ?_
      | refine EW.region ?_
      | refine EW.exit ?_
      | refine EW.ret ?_
      | refine EW.condF rfl ?_)
    exact ⟨_, rfl, rfl, hE⟩
theorem eqPolyC (e : Po) (hs : e.cnt ≤ 1048576) (cs ds : List Value) (w : World) (hx : PoB w 0 cs e) (hy : PoB w 0 ds e) : CallsR Try.prog 35 [.agg cs.toArray, .agg ds.toArray] w fun v w' => v = .bool true ∧ Ext w w' := by
  obtain ⟨A, cap, rfl, hks⟩ := hx
  obtain ⟨B, dap, rfl, hls⟩ := hy
  refine CallsR.enter Try.func35 (by decide +kernel) rfl Try.ntmps35 rfl ?_
  repeat' (first
    | refine EW.seq ?_
    | refine EW.region ?_)
  refine EL.h (Hv.boxA (sz := 2) rfl rfl) rfl (fun _ => rfl) ?_
  rintro _ w1 ⟨g1, rfl, hg1, hb, he1⟩
  skip
  refine EL.h (Hv.boxA (sz := 2) rfl rfl) rfl (fun _ => rfl) ?_
  rintro _ w2 ⟨g2, rfl, hg2, h2, he2⟩
  replace hb := At.ext hb he2
  have hw2 := he1.trans he2
  repeat' (first
    | (show EL _ _ _ _ (_ :: _) _ _
       first
       | (show EL _ _ _ _ (⟨_, .fieldAddr _ _ _, _, _, _, _⟩ :: _) _ _; refine EL.f (FV.fieldAddr rfl rfl rfl rfl rfl) rfl rfl ?_)
       | (show EL _ _ _ _ (⟨_, .load _ _, _, _, _, _⟩ :: _) _ _; first | refine EL.f (FV.load1 rfl rfl rfl (At.cell hb rfl)) rfl rfl ?_ | refine EL.f (FV.load1 rfl rfl rfl (At.cell h2 rfl)) rfl rfl ?_)
       | (show EL _ _ _ _ (⟨_, .assign _, _, _, _, _⟩ :: _) _ _; refine EL.f (FV.assign rfl) rfl rfl ?_)
       | (show EL _ _ _ _ (⟨_, .binOp .neq _ _ _ _, _, _, _, _⟩ :: _) _ _; refine EL.fF (FV.neq rfl rfl) rfl (fun _ => rfl) (by omega) ?_))
    | refine EL.nil ?_
    | refine EW.seq ?_
    | refine EW.region ?_
    | refine EW.skip ?_
    | refine EW.condF rfl ?_)
  refine EL.h (Hv.call (eqTermSC e.terms A B cap dap w2 (hks.ext hw2) (hls.ext hw2) hs) rfl) rfl (fun _ => rfl) ?_
  rintro _ w3 ⟨rfl, he3⟩
  repeat' (first
    | refine EL.f (FV.assign rfl) rfl rfl ?_
    | refine EL.f (FV.not rfl) rfl rfl ?_
    | refine EL.nil ?_
    | refine EW.seq ?_
    | refine EW.region ?_
    | refine EW.skip ?_
    | refine EW.ret ?_
    | refine EW.condF rfl ?_)
  exact ⟨_, rfl, rfl, hw2.trans he3⟩
end Eng
end Go.Proofs.Ytcodicokpegfmaa
