/- Contracts of sums, multiples, products and quotients of series. Conditions: numbers, equal lengths of at most 13. -/
import Derived.Test.YtfkohgfcchhlpaaVal
namespace Go.Proofs.Ytfkohgfcchhlpaa
open Go Go.RowKit
namespace Eng

theorem num_getD {xs : List Int} (h : nums xs = true) (k : Nat) : 0 ≤ xs.getD k 0 ∧ xs.getD k 0 < 1000003 := by
  by_cases hk : k < xs.length
  · have := (List.all_eq_true.1 h) xs[k] (List.getElem_mem hk)
    unfold isNum inB at this
    have := of_decide_eq_true this
    simp [hk]
    omega
  · simp [Nat.le_of_not_lt hk]
/-- f 0, f 1, .. -/
def mapR (f : Nat → Int) (n : Nat) : List Int := (List.range n).map f
theorem mapR_length (f : Nat → Int) (n : Nat) : (mapR f n).length = n := by simp [mapR]
theorem mapR_getD (f : Nat → Int) (n k : Nat) (h : k < n) : (mapR f n).getD k 0 = f k := by simp [mapR, h]
theorem mapR_succ (f : Nat → Int) (n : Nat) : mapR f (n + 1) = mapR f n ++ [f n] := by simp [mapR, List.range_succ]
theorem nums_mapR (f : Nat → Int) (n : Nat) (h : ∀ k, k < n → 0 ≤ f k ∧ f k < 1000003) : nums (mapR f n) = true := by
  refine all_of_lt fun i hi => ?_
  rw [mapR_length] at hi
  rw [mapR_getD f n i hi]
  have := h i hi
  unfold isNum inB
  exact decide_eq_true (by omega)
theorem mapR_congr {f g : Nat → Int} {n : Nat} (h : ∀ k, k < n → f k = g k) : mapR f n = mapR g n := by
  unfold mapR
  exact List.map_congr_left fun k hk => h k (List.mem_range.1 hk)

def addL (xs ys : List Int) : List Int := mapR (fun k => (xs.getD k 0 + ys.getD k 0) % 1000003) xs.length
def scaleL (xs : List Int) (n : Int) : List Int := mapR (fun k => xs.getD k 0 * n % 1000003) xs.length
theorem nums_addL (xs ys : List Int) : nums (addL xs ys) = true := nums_mapR _ _ fun k _ => by omega
theorem nums_scaleL (xs : List Int) (n : Int) : nums (scaleL xs n) = true := nums_mapR _ _ fun k _ => by omega
theorem addL_length (xs ys : List Int) : (addL xs ys).length = xs.length := mapR_length _ _
theorem scaleL_length (xs : List Int) (n : Int) : (scaleL xs n).length = xs.length := mapR_length _ _

/-- The end of a filling loop whose round stores f k. -/
theorem At.fill {w : World} {g n k : Nat} {f : Nat → Int} (h : AtI w g n (filled (mapR f n) k n)) (hk : k < n) : AtI (w.setCell ⟨g, k, none⟩ (.int .i64 (f k))) g n (filled (mapR f n) (k + 1) n) := by
  have := AtI.set_ h (k := k) (f k)
  have e := filled_set (mapR f n) k n (by rw [mapR_length]; exact hk) hk
  rw [mapR_getD f n k hk] at e
  rwa [e] at this

theorem implAdded (A B : Option Addr) (c d : Nat) (xs ys : List Int) (w : World) (hx : Rd w A (ints xs)) (hy : Rd w B (ints ys)) (hl : xs.length ≤ ys.length) (hn : xs.length ≤ 1000) (nx : nums xs = true) (ny : nums ys = true) :
    CallsR Try.prog 139 [.slice A xs.length c, .slice B ys.length d] w fun v w' => OwnI w.heap.size w' v (addL xs ys) ∧ Ext w w' := by
  refine CallsR.enter Try.func139 (by decide +kernel) rfl Try.ntmps139 rfl ?_
  repeat' (first
    | (show EL _ _ _ _ (_ :: _) _ _
       first
       | (show EL _ _ _ _ (⟨_, .makeSlice _ _ _, _, _, _, _⟩ :: _) _ _; (refine EL.h (Hv.make (kl := .i64) rfl rfl rfl rfl (by omega) (by omega)) rfl (fun _ => rfl) ?_; rintro _ w1 ⟨g, rfl, hg, hat, he⟩))
       | (show EL _ _ _ _ (⟨_, .move _, _, _, _, _⟩ :: _) _ _; refine EL.f (FV.move rfl) rfl rfl ?_)
       | (show EL _ _ _ _ (⟨_, .assign _, _, _, _, _⟩ :: _) _ _; refine EL.f (FV.assign rfl) rfl rfl ?_)
       | (show EL _ _ _ _ (⟨_, .call _, _, _, _, _⟩ :: _) _ _; refine EL.f (FV.len rfl rfl) rfl rfl ?_))
    | refine EL.nil ?_
    | refine EW.seq ?_
    | refine EW.region ?_
    | refine EW.block ?_)
  rw [madeInts] at hat
  have hl0 := addL_length xs ys
  refine EW.loop (fun k wr => k ≤ xs.length ∧ AtI wr g xs.length (filled (addL xs ys) k xs.length) ∧ Below w.heap.size w wr) (fun k => [(0, .slice A xs.length c), (1, .slice B ys.length d), (5, .slice (some ⟨g, 0, none⟩) xs.length xs.length), (11, .int .i64 xs.length), (12, .int .i64 k)]) (fun k => xs.length - k) 0 ⟨Nat.zero_le _, ?_, he⟩ ⟨rfl, rfl, rfl, rfl, rfl, trivial⟩ ?_
  · rw [filled_zero]
    unfold AtI
    rw [List.length_replicate]
    exact hat
  rintro k wr ⟨hk, hat, hb⟩
  have hlen := filled_length (addL xs ys) k xs.length (by omega) hk
  by_cases hlt : k < xs.length
  · obtain ⟨b, o, rfl, hc⟩ := hx.int hlt
    obtain ⟨b2, o2, rfl, hc2⟩ := hy.int (show k < ys.length by omega)
    have bx := num_getD nx k
    have by_ := num_getD ny k
    have hkk : k < (filled (addL xs ys) k xs.length).length := by omega
    repeat' (first
      | refine EL.f (FV.move rfl) rfl rfl ?_
      | refine EL.f (FV.assign rfl) rfl rfl ?_
      | refine EL.fT (FV.lss rfl rfl) rfl (fun _ => rfl) (by omega) ?_
      | refine EL.nil ?_
      | refine EW.seq ?_
      | refine EW.region ?_
      | refine EW.block ?_
      | refine EW.skip ?_
      | refine EW.condT rfl ?_)
    refine EW.draw (fun w' => Below w.heap.size w w') (pl 0 13 ++ [(13, false)]) mixed (by decide +kernel) hb.drew ?_
    repeat' (first
      | refine EP.f rfl (FV.load rfl rfl rfl (fun w' h' => (h'.cell (World.block_lt_of_cell? w _ hc)).trans hc)) rfl rfl ?_
      | refine EP.f rfl (FV.load rfl rfl rfl (fun w' h' => (h'.cell (World.block_lt_of_cell? w _ hc2)).trans hc2)) rfl rfl ?_
      | refine EP.f rfl (FV.move rfl) rfl rfl ?_
      | refine EP.f rfl (FV.addI rfl rfl (by omega)) rfl rfl ?_
      | refine EP.f rfl (FV.remI rfl rfl (by decide) (by omega)) rfl rfl ?_
      | refine EP.f rfl (FV.idx0 rfl rfl rfl rfl (by omega) (by omega)) rfl rfl ?_
      | refine EP.f rfl (FV.idx1 rfl rfl rfl rfl (by omega) (by omega)) rfl rfl ?_)
    refine EP.last rfl rfl (by decide +kernel) (Hv.storeAt rfl rfl rfl rfl rfl (At.ext hat (Ext.drew _)) (ints_get hkk)) rfl (fun _ => rfl) ?_
    rintro _ _ ⟨rfl, _⟩
    repeat' (first
      | refine EL.f (FV.move rfl) rfl rfl ?_
      | refine EL.f (FV.addI rfl rfl (by omega)) rfl rfl ?_
      | refine EL.nil ?_
      | refine EW.region ?_)
    exact ⟨k + 1, ⟨rfl, rfl, rfl, rfl, rfl, trivial⟩, ⟨by omega, At.fill (At.ext hat (Ext.drew _)) hlt, Below.set_ hb.drew (by omega) _⟩, by omega⟩
  · obtain rfl : k = xs.length := by omega
    have e := filled_full (addL xs ys)
    rw [hl0] at e
    rw [e] at hat
    repeat' (first
      | refine EL.f (FV.move rfl) rfl rfl ?_
      | refine EL.f (FV.assign rfl) rfl rfl ?_
      | refine EL.fF (FV.lss rfl rfl) rfl (fun _ => rfl) (by omega) ?_
      | refine EL.nil ?_
      | refine EW.seq ?_
      | refine EW.region ?_
      | refine EW.exit ?_
      | refine EW.ret ?_
      | refine EW.condF rfl ?_)
    refine ⟨_, rfl, ?_, hb⟩
    have := AtI.own (B := w.heap.size) hat (by omega)
    rwa [hl0] at this

theorem specAdd (A B : Option Addr) (c d : Nat) (xs ys : List Int) (w : World) (hx : Rd w A (ints xs)) (hy : Rd w B (ints ys)) (hl : xs.length ≤ ys.length) (hn : xs.length ≤ 1000) :
    CallsR Try.prog 146 [.slice A xs.length c, .slice B ys.length d] w fun v w' => OwnI w.heap.size w' v (addL xs ys) ∧ Ext w w' := by
  refine CallsR.enter Try.func146 (by decide +kernel) rfl Try.ntmps146 rfl ?_
  repeat' (first
    | refine EL.f (FV.assign rfl) rfl rfl ?_
    | refine EL.nil ?_
    | refine EW.seq ?_
    | refine EW.region ?_)
  refine EL.h (Hv.build0 rfl rfl) rfl (fun _ => rfl) ?_
  rintro v1 w1 ⟨hown, he⟩
  repeat' (first
    | refine EL.f (FV.assign rfl) rfl rfl ?_
    | refine EL.nil ?_
    | refine EW.seq ?_
    | refine EW.region ?_
    | refine EW.block ?_)
  refine EW.loop (fun (s : Nat × Value) wr => s.1 ≤ xs.length ∧ OwnI w.heap.size wr s.2 (mapR (fun k => (xs.getD k 0 + ys.getD k 0) % 1000003) s.1) ∧ Below w.heap.size w wr) (fun s => [(0, .slice A xs.length c), (1, .slice B ys.length d), (5, s.2), (6, .int .i64 s.1)]) (fun s => xs.length - s.1) (0, v1) ⟨Nat.zero_le _, hown, he⟩ ⟨rfl, rfl, rfl, rfl, trivial⟩ ?_
  rintro ⟨k, v⟩ wr ⟨hk, hown, hb⟩
  dsimp only at *
  by_cases hlt : k < xs.length
  · obtain ⟨b, o, rfl, hc⟩ := hx.int hlt
    obtain ⟨b2, o2, rfl, hc2⟩ := hy.int (show k < ys.length by omega)
    repeat' (first
      | refine EL.f (FV.move rfl) rfl rfl ?_
      | refine EL.f (FV.len rfl rfl) rfl rfl ?_
      | refine EL.fT (FV.lss rfl rfl) rfl (fun _ => rfl) (by omega) ?_
      | refine EL.nil ?_
      | refine EW.seq ?_
      | refine EW.region ?_
      | refine EW.block ?_
      | refine EW.skip ?_
      | refine EW.condT rfl ?_)
    refine EW.draw (fun w' => Below w.heap.size w w') (pl 0 9 ++ [(9, false), (10, false), (11, false), (12, true)]) mixed (by decide +kernel) hb.drew ?_
    repeat' (first
      | refine EP.f rfl (FV.load rfl rfl rfl (fun w' h' => (h'.cell (World.block_lt_of_cell? w _ hc)).trans hc)) rfl rfl ?_
      | refine EP.f rfl (FV.load rfl rfl rfl (fun w' h' => (h'.cell (World.block_lt_of_cell? w _ hc2)).trans hc2)) rfl rfl ?_
      | refine EP.f rfl (FV.move rfl) rfl rfl ?_
      | refine EP.f rfl (FV.idx1 rfl rfl rfl rfl (by omega) (by omega)) rfl rfl ?_)
    refine EP.h rfl rfl (Hv.call (specPlus _ _ _) rfl) rfl (fun _ => rfl) ?_
    rintro _ _ ⟨rfl, rfl⟩
    refine ⟨hb.drew, ?_⟩
    refine EP.h rfl rfl (Hv.build1 rfl rfl rfl rfl) rfl (fun _ => rfl) ?_
    rintro _ _ ⟨rfl, rfl⟩
    refine ⟨hb.drew.alloc hb.size _, ?_⟩
    have hmr := mapR_length (fun k => (xs.getD k 0 + ys.getD k 0) % 1000003) k
    refine EP.h rfl rfl (Hv.append1 (B := w.heap.size) rfl rfl rfl rfl rfl (own_ext hown ((Ext.drew _).trans (Ext.alloc _ _))) (World.cell?_alloc_new _ _ _ _) rfl (by omega) (by omega) (by have := hb.size; simp; omega)) rfl (fun _ => rfl) ?_
    rintro v' w' ⟨hown', _, hbel⟩
    refine ⟨(hb.drew.alloc hb.size _).trans hbel, ?_⟩
    repeat' (first
      | refine EP.nil ?_
      | refine EP.f rfl (FV.assign rfl) rfl rfl ?_)
    repeat' (first
      | refine EL.f (FV.move rfl) rfl rfl ?_
      | refine EL.f (FV.assign rfl) rfl rfl ?_
      | refine EL.f (FV.addI rfl rfl (by omega)) rfl rfl ?_
      | refine EL.nil ?_
      | refine EW.region ?_)
    refine ⟨(k + 1, v'), ⟨rfl, rfl, rfl, rfl, trivial⟩, ⟨by omega, ?_, (hb.drew.alloc hb.size _).trans hbel⟩, by simp only; omega⟩
    unfold OwnI
    rw [mapR_succ, ints_append, List.length_append]
    exact hown'
  · obtain rfl : k = xs.length := by omega
    repeat' (first
      | (show EL _ _ _ _ (_ :: _) _ _
         first
         | (show EL _ _ _ _ (⟨_, .move _, _, _, _, _⟩ :: _) _ _; refine EL.f (FV.move rfl) rfl rfl ?_)
         | (show EL _ _ _ _ (⟨_, .assign _, _, _, _, _⟩ :: _) _ _; refine EL.f (FV.assign rfl) rfl rfl ?_)
         | (show EL _ _ _ _ (⟨_, .call _, _, _, _, _⟩ :: _) _ _; refine EL.f (FV.len rfl rfl) rfl rfl ?_)
         | (show EL _ _ _ _ (⟨_, .binOp .lss _ _ _ _, _, _, _, _⟩ :: _) _ _; refine EL.fF (FV.lss rfl rfl) rfl (fun _ => rfl) (by omega) ?_))
      | refine EL.nil ?_
      | refine EW.seq ?_
      | refine EW.region ?_
      | refine EW.exit ?_
      | refine EW.ret ?_
      | refine EW.condF rfl ?_)
    exact ⟨_, rfl, hown, hb⟩

/-! multiples -/
theorem implScaled (A : Option Addr) (c : Nat) (xs : List Int) (n : Int) (w : World) (hx : Rd w A (ints xs)) (hn : xs.length ≤ 1000) (nx : nums xs = true) (h0 : 0 ≤ n ∧ n < 1000003) :
    CallsR Try.prog 142 [.slice A xs.length c, .int .i64 n] w fun v w' => OwnI w.heap.size w' v (scaleL xs n) ∧ Ext w w' := by
  refine CallsR.enter Try.func142 (by decide +kernel) rfl Try.ntmps142 rfl ?_
  repeat' (first
    | (show EL _ _ _ _ (_ :: _) _ _
       first
       | (show EL _ _ _ _ (⟨_, .makeSlice _ _ _, _, _, _, _⟩ :: _) _ _; (refine EL.h (Hv.make (kl := .i64) rfl rfl rfl rfl (by omega) (by omega)) rfl (fun _ => rfl) ?_; rintro _ w1 ⟨g, rfl, hg, hat, he⟩))
       | (show EL _ _ _ _ (⟨_, .move _, _, _, _, _⟩ :: _) _ _; refine EL.f (FV.move rfl) rfl rfl ?_)
       | (show EL _ _ _ _ (⟨_, .assign _, _, _, _, _⟩ :: _) _ _; refine EL.f (FV.assign rfl) rfl rfl ?_)
       | (show EL _ _ _ _ (⟨_, .call _, _, _, _, _⟩ :: _) _ _; refine EL.f (FV.len rfl rfl) rfl rfl ?_))
    | refine EL.nil ?_
    | refine EW.seq ?_
    | refine EW.region ?_
    | refine EW.block ?_)
  rw [madeInts] at hat
  have hl0 := scaleL_length xs n
  refine EW.loop (fun k wr => k ≤ xs.length ∧ AtI wr g xs.length (filled (scaleL xs n) k xs.length) ∧ Below w.heap.size w wr) (fun k => [(0, .slice A xs.length c), (1, .int .i64 n), (5, .slice (some ⟨g, 0, none⟩) xs.length xs.length), (11, .int .i64 xs.length), (12, .int .i64 k)]) (fun k => xs.length - k) 0 ⟨Nat.zero_le _, ?_, he⟩ ⟨rfl, rfl, rfl, rfl, rfl, trivial⟩ ?_
  · rw [filled_zero]
    unfold AtI
    rw [List.length_replicate]
    exact hat
  rintro k wr ⟨hk, hat, hb⟩
  have hlen := filled_length (scaleL xs n) k xs.length (by omega) hk
  by_cases hlt : k < xs.length
  · obtain ⟨b, o, rfl, hc⟩ := hx.int hlt
    have hc' := (hb.cell (World.block_lt_of_cell? w _ hc)).trans hc
    have bx := num_getD nx k
    have hm := mul_bounds bx h0
    have hkk : k < (filled (scaleL xs n) k xs.length).length := by omega
    repeat' (first
      | (show EL _ _ _ _ (_ :: _) _ _
         first
         | (show EL _ _ _ _ (⟨_, .load _ _, _, _, _, _⟩ :: _) _ _; refine EL.f (FV.load1 rfl rfl rfl hc') rfl rfl ?_)
         | (show EL _ _ _ _ (⟨_, .binOp .mul _ _ _ _, _, _, _, _⟩ :: _) _ _; refine EL.f (FV.mulI rfl rfl (by omega)) rfl rfl ?_)
         | (show EL _ _ _ _ (⟨_, .store _ _ _, _, _, _, _⟩ :: _) _ _; (refine EL.h (Hv.storeAt rfl rfl rfl rfl rfl hat (ints_get hkk)) rfl (fun _ => rfl) ?_; rintro _ _ ⟨rfl, _⟩))
         | (show EL _ _ _ _ (⟨_, .move _, _, _, _, _⟩ :: _) _ _; refine EL.f (FV.move rfl) rfl rfl ?_)
         | (show EL _ _ _ _ (⟨_, .assign _, _, _, _, _⟩ :: _) _ _; refine EL.f (FV.assign rfl) rfl rfl ?_)
         | (show EL _ _ _ _ (⟨_, .binOp .add _ _ _ _, _, _, _, _⟩ :: _) _ _; refine EL.f (FV.addI rfl rfl (by omega)) rfl rfl ?_)
         | (show EL _ _ _ _ (⟨_, .binOp .rem _ _ _ _, _, _, _, _⟩ :: _) _ _; refine EL.f (FV.remI rfl rfl (by decide) (by omega)) rfl rfl ?_)
         | (show EL _ _ _ _ (⟨_, .binOp .lss _ _ _ _, _, _, _, _⟩ :: _) _ _; refine EL.fT (FV.lss rfl rfl) rfl (fun _ => rfl) (by omega) ?_)
         | (show EL _ _ _ _ (⟨_, .indexAddr _ _ _, _, _, _, _⟩ :: _) _ _; first | refine EL.f (FV.idx0 rfl rfl rfl rfl (by omega) (by omega)) rfl rfl ?_ | refine EL.f (FV.idx1 rfl rfl rfl rfl (by omega) (by omega)) rfl rfl ?_))
      | refine EL.nil ?_
      | refine EW.seq ?_
      | refine EW.region ?_
      | refine EW.block ?_
      | refine EW.skip ?_
      | refine EW.condT rfl ?_)
    exact ⟨k + 1, ⟨rfl, rfl, rfl, rfl, rfl, trivial⟩, ⟨by omega, At.fill hat hlt, Below.set_ hb (by omega) _⟩, by omega⟩
  · obtain rfl : k = xs.length := by omega
    have e := filled_full (scaleL xs n)
    rw [hl0] at e
    rw [e] at hat
    repeat' (first
      | refine EL.f (FV.move rfl) rfl rfl ?_
      | refine EL.f (FV.assign rfl) rfl rfl ?_
      | refine EL.fF (FV.lss rfl rfl) rfl (fun _ => rfl) (by omega) ?_
      | refine EL.nil ?_
      | refine EW.seq ?_
      | refine EW.region ?_
      | refine EW.exit ?_
      | refine EW.ret ?_
      | refine EW.condF rfl ?_)
    refine ⟨_, rfl, ?_, hb⟩
    have := AtI.own (B := w.heap.size) hat (by omega)
    rwa [hl0] at this
theorem specScale (A : Option Addr) (c : Nat) (xs : List Int) (n : Int) (w : World) (hx : Rd w A (ints xs)) (hn : xs.length ≤ 1000) :
    CallsR Try.prog 149 [.slice A xs.length c, .int .i64 n] w fun v w' => OwnI w.heap.size w' v (scaleL xs n) ∧ Ext w w' := by
  refine CallsR.enter Try.func149 (by decide +kernel) rfl Try.ntmps149 rfl ?_
  repeat' (first
    | refine EL.f (FV.assign rfl) rfl rfl ?_
    | refine EL.nil ?_
    | refine EW.seq ?_
    | refine EW.region ?_)
  refine EL.h (Hv.build0 rfl rfl) rfl (fun _ => rfl) ?_
  rintro v1 w1 ⟨hown, he⟩
  repeat' (first
    | refine EL.f (FV.assign rfl) rfl rfl ?_
    | refine EL.nil ?_
    | refine EW.seq ?_
    | refine EW.region ?_
    | refine EW.block ?_)
  refine EW.loop (fun (s : Nat × Value) wr => s.1 ≤ xs.length ∧ OwnI w.heap.size wr s.2 (mapR (fun k => xs.getD k 0 * n % 1000003) s.1) ∧ Below w.heap.size w wr) (fun s => [(0, .slice A xs.length c), (1, .int .i64 n), (5, s.2), (6, .int .i64 s.1)]) (fun s => xs.length - s.1) (0, v1) ⟨Nat.zero_le _, hown, he⟩ ⟨rfl, rfl, rfl, rfl, trivial⟩ ?_
  rintro ⟨k, v⟩ wr ⟨hk, hown, hb⟩
  dsimp only at *
  by_cases hlt : k < xs.length
  · obtain ⟨b, o, rfl, hc⟩ := hx.int hlt
    have hc' := (hb.cell (World.block_lt_of_cell? w _ hc)).trans hc
    have hmr := mapR_length (fun k => xs.getD k 0 * n % 1000003) k
    repeat' (first
      | (show EL _ _ _ _ (_ :: _) _ _
         first
         | (show EL _ _ _ _ (⟨_, .load _ _, _, _, _, _⟩ :: _) _ _; refine EL.f (FV.load1 rfl rfl rfl hc') rfl rfl ?_)
         | (show EL _ _ _ _ (⟨_, .call _, _, _, _, _⟩ :: _) _ _; first | (refine EL.h (Hv.call (specTimes _ _ _) rfl) rfl (fun _ => rfl) ?_; rintro _ _ ⟨rfl, rfl⟩) | refine EL.f (FV.len rfl rfl) rfl rfl ?_)
         | (show EL _ _ _ _ (⟨_, .move _, _, _, _, _⟩ :: _) _ _; refine EL.f (FV.move rfl) rfl rfl ?_)
         | (show EL _ _ _ _ (⟨_, .binOp .lss _ _ _ _, _, _, _, _⟩ :: _) _ _; refine EL.fT (FV.lss rfl rfl) rfl (fun _ => rfl) (by omega) ?_)
         | (show EL _ _ _ _ (⟨_, .indexAddr _ _ _, _, _, _, _⟩ :: _) _ _; refine EL.f (FV.idx1 rfl rfl rfl rfl (by omega) (by omega)) rfl rfl ?_))
      | refine EL.nil ?_
      | refine EW.seq ?_
      | refine EW.region ?_
      | refine EW.block ?_
      | refine EW.skip ?_
      | refine EW.condT rfl ?_)
    refine EL.h (Hv.build1 rfl rfl rfl rfl) rfl (fun _ => rfl) ?_
    rintro _ _ ⟨rfl, rfl⟩
    refine EL.h (Hv.append1 (B := w.heap.size) rfl rfl rfl rfl rfl (own_ext hown (Ext.alloc _ _)) (World.cell?_alloc_new _ _ _ _) rfl (by omega) (by omega) (by have := hb.size; simp; omega)) rfl (fun _ => rfl) ?_
    rintro v' w' ⟨hown', _, hbel⟩
    repeat' (first
      | refine EL.f (FV.move rfl) rfl rfl ?_
      | refine EL.f (FV.assign rfl) rfl rfl ?_
      | refine EL.f (FV.addI rfl rfl (by omega)) rfl rfl ?_
      | refine EL.nil ?_
      | refine EW.region ?_)
    refine ⟨(k + 1, v'), ⟨rfl, rfl, rfl, rfl, trivial⟩, ⟨by omega, ?_, (hb.alloc hb.size _).trans hbel⟩, by simp only; omega⟩
    unfold OwnI
    rw [mapR_succ, ints_append, List.length_append]
    exact hown'
  · obtain rfl : k = xs.length := by omega
    repeat' (first
      | (show EL _ _ _ _ (_ :: _) _ _
         first
         | (show EL _ _ _ _ (⟨_, .move _, _, _, _, _⟩ :: _) _ _; refine EL.f (FV.move rfl) rfl rfl ?_)
         | (show EL _ _ _ _ (⟨_, .assign _, _, _, _, _⟩ :: _) _ _; refine EL.f (FV.assign rfl) rfl rfl ?_)
         | (show EL _ _ _ _ (⟨_, .call _, _, _, _, _⟩ :: _) _ _; refine EL.f (FV.len rfl rfl) rfl rfl ?_)
         | (show EL _ _ _ _ (⟨_, .binOp .lss _ _ _ _, _, _, _, _⟩ :: _) _ _; refine EL.fF (FV.lss rfl rfl) rfl (fun _ => rfl) (by omega) ?_))
      | refine EL.nil ?_
      | refine EW.seq ?_
      | refine EW.region ?_
      | refine EW.exit ?_
      | refine EW.ret ?_
      | refine EW.condF rfl ?_)
    exact ⟨_, rfl, hown, hb⟩

/-! products -/
/-- f 0 + .. + f (i - 1), reduced at each step. -/
def psum (f : Nat → Int) : Nat → Int
  | 0 => 0
  | i + 1 => (psum f i + f i) % 1000003
theorem psum_bounds (f : Nat → Int) (i : Nat) : 0 ≤ psum f i ∧ psum f i < 1000003 := by
  cases i with
  | zero => simp [psum]
  | succ i => simp only [psum]; omega
def mulC (xs ys : List Int) (k i : Nat) : Int := xs.getD i 0 * ys.getD (k - i) 0
def mulL (xs ys : List Int) : List Int := mapR (fun k => psum (mulC xs ys k) (k + 1)) xs.length
theorem mulL_length (xs ys : List Int) : (mulL xs ys).length = xs.length := mapR_length _ _
theorem nums_mulL (xs ys : List Int) : nums (mulL xs ys) = true := nums_mapR _ _ fun _ _ => psum_bounds _ _

theorem implProduct (A B : Option Addr) (c d : Nat) (xs ys : List Int) (w : World) (hx : Rd w A (ints xs)) (hy : Rd w B (ints ys)) (hl : xs.length ≤ ys.length) (hn : xs.length ≤ 1000) (nx : nums xs = true) (ny : nums ys = true) :
    CallsR Try.prog 141 [.slice A xs.length c, .slice B ys.length d] w fun v w' => OwnI w.heap.size w' v (mulL xs ys) ∧ Ext w w' := by
  refine CallsR.enter Try.func141 (by decide +kernel) rfl Try.ntmps141 rfl ?_
  repeat' (first
    | (show EL _ _ _ _ (_ :: _) _ _
       first
       | (show EL _ _ _ _ (⟨_, .makeSlice _ _ _, _, _, _, _⟩ :: _) _ _; (refine EL.h (Hv.make (kl := .i64) rfl rfl rfl rfl (by omega) (by omega)) rfl (fun _ => rfl) ?_; rintro _ w1 ⟨g, rfl, hg, hat, he⟩))
       | (show EL _ _ _ _ (⟨_, .move _, _, _, _, _⟩ :: _) _ _; refine EL.f (FV.move rfl) rfl rfl ?_)
       | (show EL _ _ _ _ (⟨_, .assign _, _, _, _, _⟩ :: _) _ _; refine EL.f (FV.assign rfl) rfl rfl ?_)
       | (show EL _ _ _ _ (⟨_, .call _, _, _, _, _⟩ :: _) _ _; refine EL.f (FV.len rfl rfl) rfl rfl ?_))
    | refine EL.nil ?_
    | refine EW.seq ?_
    | refine EW.region ?_
    | refine EW.block ?_)
  rw [madeInts] at hat
  have hl0 := mulL_length xs ys
  refine EW.loop (fun k wr => k ≤ xs.length ∧ AtI wr g xs.length (filled (mulL xs ys) k xs.length) ∧ Below w.heap.size w wr) (fun k => [(0, .slice A xs.length c), (1, .slice B ys.length d), (5, .slice (some ⟨g, 0, none⟩) xs.length xs.length), (12, .int .i64 xs.length), (13, .int .i64 k)]) (fun k => xs.length - k) 0 ⟨Nat.zero_le _, ?_, he⟩ ⟨rfl, rfl, rfl, rfl, rfl, trivial⟩ ?_
  · rw [filled_zero]
    unfold AtI
    rw [List.length_replicate]
    exact hat
  rintro k wr ⟨hk, hat, hb⟩
  have hlen := filled_length (mulL xs ys) k xs.length (by omega) hk
  by_cases hlt : k < xs.length
  · obtain ⟨b, o, rfl, hc0⟩ := hx.all (by rw [ints_length]; omega)
    obtain ⟨b2, o2, rfl, hd0⟩ := hy.all (by rw [ints_length]; omega)
    repeat' (first
      | refine EL.f (FV.move rfl) rfl rfl ?_
      | refine EL.f (FV.assign rfl) rfl rfl ?_
      | refine EL.fT (FV.lss rfl rfl) rfl (fun _ => rfl) (by omega) ?_
      | refine EL.nil ?_
      | refine EW.seq ?_
      | refine EW.region ?_
      | refine EW.block ?_
      | refine EW.skip ?_
      | refine EW.condT rfl ?_)
    refine EW.loop (fun i wi => i ≤ k + 1 ∧ AtI wi g xs.length ((filled (mulL xs ys) k xs.length).set k (psum (mulC xs ys k) i)) ∧ Below w.heap.size w wi) (fun i => [(0, .slice (some ⟨b, o, none⟩) xs.length c), (1, .slice (some ⟨b2, o2, none⟩) ys.length d), (5, .slice (some ⟨g, 0, none⟩) xs.length xs.length), (6, .int .i64 k), (7, .int .i64 i), (12, .int .i64 xs.length), (13, .int .i64 k)]) (fun i => k + 1 - i) 0 ⟨Nat.zero_le _, ?_, hb⟩ ⟨rfl, rfl, rfl, rfl, rfl, rfl, rfl, trivial⟩ ?_
    · have : (filled (mulL xs ys) k xs.length).set k (psum (mulC xs ys k) 0) = filled (mulL xs ys) k xs.length := by
        apply List.ext_getElem
        · simp
        · intro i h1 h2
          rw [List.getElem_set]
          split
          · rename_i e
            subst e
            simp [filled, psum, hl0, Nat.min_eq_left hk]
          · rfl
      rw [this]
      exact hat
    rintro i wi ⟨hi, hat, hb⟩
    have hlen2 : ((filled (mulL xs ys) k xs.length).set k (psum (mulC xs ys k) i)).length = xs.length := by simpa using hlen
    by_cases hik : i < k + 1
    · have hc := hc0 i _ (ints_get (show i < xs.length by omega))
      have hd := hd0 (k - i) _ (ints_get (show k - i < ys.length by omega))
      rw [show k - i = ((k : Int) - (i : Int)).toNat from by omega] at hd
      have hc' := (hb.cell (World.block_lt_of_cell? w _ hc)).trans hc
      have hd' := (hb.cell (World.block_lt_of_cell? w _ hd)).trans hd
      rw [show ((k : Int) - (i : Int)).toNat = k - i from by omega] at hd'
      have hd'' : wi.cell? ⟨b2, o2 + ((k : Int) - (i : Int)).toNat, none⟩ = some (.int .i64 (ys.getD (k - i) 0)) := by
        rw [show ((k : Int) - (i : Int)).toNat = k - i from by omega]; exact hd'
      have hkk : k < ((filled (mulL xs ys) k xs.length).set k (psum (mulC xs ys k) i)).length := by omega
      have ho := hat.int hkk
      have e0 : ((filled (mulL xs ys) k xs.length).set k (psum (mulC xs ys k) i)).getD k 0 = psum (mulC xs ys k) i := by
        rw [List.getD_eq_getElem?_getD, List.getElem?_set_self (by omega)]; rfl
      rw [e0] at ho
      have hm := mul_bounds (num_getD nx i) (num_getD ny (k - i))
      have hp := psum_bounds (mulC xs ys k) i
      repeat' (first
        | refine EL.f (FV.move rfl) rfl rfl ?_
        | refine EL.fT (FV.leq rfl rfl) rfl (fun _ => rfl) (by omega) ?_
        | refine EL.nil ?_
        | refine EW.seq ?_
        | refine EW.region ?_
        | refine EW.block ?_
        | refine EW.skip ?_
        | refine EW.condT rfl ?_)
      refine EW.draw (fun w' => w' = wi.drew) (pl 0 20 ++ [(20, false)]) mixed (by decide +kernel) rfl ?_
      repeat' (first
        | refine EP.f rfl (FV.load rfl rfl rfl (fun _ h' => atDrew h' ho)) rfl rfl ?_
        | refine EP.f rfl (FV.load rfl rfl rfl (fun _ h' => atDrew h' hc')) rfl rfl ?_
        | refine EP.f rfl (FV.load rfl rfl rfl (fun _ h' => atDrew h' hd'')) rfl rfl ?_
        | refine EP.f rfl (FV.mulI rfl rfl (by omega)) rfl rfl ?_
        | refine EP.f rfl (FV.move rfl) rfl rfl ?_
        | refine EP.f rfl (FV.addI rfl rfl (by omega)) rfl rfl ?_
        | refine EP.f rfl (FV.subI rfl rfl (by omega)) rfl rfl ?_
        | refine EP.f rfl (FV.remI rfl rfl (by decide) (by omega)) rfl rfl ?_
        | refine EP.f rfl (FV.idx0 rfl rfl rfl rfl (by omega) (by omega)) rfl rfl ?_
        | refine EP.f rfl (FV.idx1 rfl rfl rfl rfl (by omega) (by omega)) rfl rfl ?_)
      refine EP.last rfl rfl (by decide +kernel) (Hv.storeAt rfl rfl rfl rfl rfl (At.ext hat (Ext.drew _)) (ints_get hkk)) rfl (fun _ => rfl) ?_
      rintro _ _ ⟨rfl, _⟩
      repeat' (first
        | refine EL.f (FV.move rfl) rfl rfl ?_
        | refine EL.f (FV.assign rfl) rfl rfl ?_
        | refine EL.f (FV.addI rfl rfl (by omega)) rfl rfl ?_
        | refine EL.nil ?_
        | refine EW.region ?_)
      refine ⟨i + 1, ⟨rfl, rfl, rfl, rfl, rfl, rfl, rfl, trivial⟩, ⟨by omega, ?_, Below.set_ hb.drew (by omega) _⟩, by omega⟩
      have := AtI.set_ (k := k) (At.ext hat (Ext.drew _)) ((psum (mulC xs ys k) i + xs.getD i 0 * ys.getD (k - i) 0) % 1000003)
      rw [List.set_set] at this
      exact this
    · obtain rfl : i = k + 1 := by omega
      repeat' (first
        | refine EL.f (FV.move rfl) rfl rfl ?_
        | refine EL.f (FV.addI rfl rfl (by omega)) rfl rfl ?_
        | refine EL.fF (FV.leq rfl rfl) rfl (fun _ => rfl) (by omega) ?_
        | refine EL.nil ?_
        | refine EW.seq ?_
        | refine EW.region ?_
        | refine EW.exit ?_
        | refine EW.condF rfl ?_)
      refine ⟨k + 1, ⟨rfl, rfl, rfl, rfl, rfl, trivial⟩, ⟨by omega, ?_, hb⟩, by omega⟩
      have e := filled_set (mulL xs ys) k xs.length (by omega) hlt
      rw [show (mulL xs ys).getD k 0 = psum (mulC xs ys k) (k + 1) from mapR_getD _ _ _ hlt] at e
      rw [← e]
      exact hat
  · obtain rfl : k = xs.length := by omega
    have e := filled_full (mulL xs ys)
    rw [hl0] at e
    rw [e] at hat
    repeat' (first
      | refine EL.f (FV.move rfl) rfl rfl ?_
      | refine EL.f (FV.assign rfl) rfl rfl ?_
      | refine EL.fF (FV.lss rfl rfl) rfl (fun _ => rfl) (by omega) ?_
      | refine EL.nil ?_
      | refine EW.seq ?_
      | refine EW.region ?_
      | refine EW.exit ?_
      | refine EW.ret ?_
      | refine EW.condF rfl ?_)
    refine ⟨_, rfl, ?_, hb⟩
    have := AtI.own (B := w.heap.size) hat (by omega)
    rwa [hl0] at this

theorem specMul (A B : Option Addr) (c d : Nat) (xs ys : List Int) (w : World) (hx : Rd w A (ints xs)) (hy : Rd w B (ints ys)) (hl : xs.length ≤ ys.length) (hn : xs.length ≤ 1000) :
    CallsR Try.prog 148 [.slice A xs.length c, .slice B ys.length d] w fun v w' => OwnI w.heap.size w' v (mulL xs ys) ∧ Ext w w' := by
  refine CallsR.enter Try.func148 (by decide +kernel) rfl Try.ntmps148 rfl ?_
  repeat' (first
    | refine EL.f (FV.assign rfl) rfl rfl ?_
    | refine EL.nil ?_
    | refine EW.seq ?_
    | refine EW.region ?_)
  refine EL.h (Hv.build0 rfl rfl) rfl (fun _ => rfl) ?_
  rintro v1 w1 ⟨hown, he⟩
  repeat' (first
    | refine EL.f (FV.assign rfl) rfl rfl ?_
    | refine EL.nil ?_
    | refine EW.seq ?_
    | refine EW.region ?_
    | refine EW.block ?_)
  refine EW.loop (fun (s : Nat × Value) wr => s.1 ≤ xs.length ∧ OwnI w.heap.size wr s.2 (mapR (fun k => psum (mulC xs ys k) (k + 1)) s.1) ∧ Below w.heap.size w wr) (fun s => [(0, .slice A xs.length c), (1, .slice B ys.length d), (5, s.2), (6, .int .i64 s.1)]) (fun s => xs.length - s.1) (0, v1) ⟨Nat.zero_le _, hown, he⟩ ⟨rfl, rfl, rfl, rfl, trivial⟩ ?_
  rintro ⟨k, v⟩ wr ⟨hk, hown, hb⟩
  dsimp only at *
  by_cases hlt : k < xs.length
  · obtain ⟨b, o, rfl, hc0⟩ := hx.all (by rw [ints_length]; omega)
    obtain ⟨b2, o2, rfl, hd0⟩ := hy.all (by rw [ints_length]; omega)
    have hmr := mapR_length (fun k => psum (mulC xs ys k) (k + 1)) k
    repeat' (first
      | (show EL _ _ _ _ (_ :: _) _ _
         first
         | (show EL _ _ _ _ (⟨_, .move _, _, _, _, _⟩ :: _) _ _; refine EL.f (FV.move rfl) rfl rfl ?_)
         | (show EL _ _ _ _ (⟨_, .assign _, _, _, _, _⟩ :: _) _ _; refine EL.f (FV.assign rfl) rfl rfl ?_)
         | (show EL _ _ _ _ (⟨_, .call _, _, _, _, _⟩ :: _) _ _; refine EL.f (FV.len rfl rfl) rfl rfl ?_)
         | (show EL _ _ _ _ (⟨_, .binOp .lss _ _ _ _, _, _, _, _⟩ :: _) _ _; refine EL.fT (FV.lss rfl rfl) rfl (fun _ => rfl) (by omega) ?_))
      | refine EL.nil ?_
      | refine EW.seq ?_
      | refine EW.region ?_
      | refine EW.block ?_
      | refine EW.skip ?_
      | refine EW.condT rfl ?_)
    refine EW.loop (fun i wi => i ≤ k + 1 ∧ Ext wr wi) (fun i => [(0, .slice (some ⟨b, o, none⟩) xs.length c), (1, .slice (some ⟨b2, o2, none⟩) ys.length d), (5, v), (6, .int .i64 k), (7, .int .i64 (psum (mulC xs ys k) i)), (8, .int .i64 i)]) (fun i => k + 1 - i) 0 ⟨Nat.zero_le _, Ext.refl _⟩ ⟨rfl, rfl, rfl, rfl, rfl, rfl, trivial⟩ ?_
    rintro i wi ⟨hi, hei⟩
    have hbi : Below w.heap.size w wi := Below.then_ hb (Nat.le_refl _) hei
    by_cases hik : i < k + 1
    · have hc := hc0 i _ (ints_get (show i < xs.length by omega))
      have hd := hd0 (k - i) _ (ints_get (show k - i < ys.length by omega))
      have hc' := (hbi.cell (World.block_lt_of_cell? w _ hc)).trans hc
      have hd' := (hbi.cell (World.block_lt_of_cell? w _ hd)).trans hd
      have hd'' : wi.cell? ⟨b2, o2 + ((k : Int) - (i : Int)).toNat, none⟩ = some (.int .i64 (ys.getD (k - i) 0)) := by
        rw [show ((k : Int) - (i : Int)).toNat = k - i from by omega]; exact hd'
      repeat' (first
        | refine EL.f (FV.move rfl) rfl rfl ?_
        | refine EL.fT (FV.leq rfl rfl) rfl (fun _ => rfl) (by omega) ?_
        | refine EL.nil ?_
        | refine EW.seq ?_
        | refine EW.region ?_
        | refine EW.block ?_
        | refine EW.skip ?_
        | refine EW.condT rfl ?_)
      refine EW.draw (fun w' => w' = wi.drew) (pl 0 11 ++ [(11, false), (12, false), (13, true)]) mixed (by decide +kernel) rfl ?_
      repeat' (first
        | refine EP.f rfl (FV.load rfl rfl rfl (fun _ h' => atDrew h' hc')) rfl rfl ?_
        | refine EP.f rfl (FV.load rfl rfl rfl (fun _ h' => atDrew h' hd'')) rfl rfl ?_
        | (refine EP.h rfl rfl (Hv.call (specTimes _ _ _) rfl) rfl (fun _ => rfl) ?_; rintro _ _ ⟨rfl, rfl⟩; refine ⟨rfl, ?_⟩)
        | (refine EP.h rfl rfl (Hv.call (specPlus _ _ _) rfl) rfl (fun _ => rfl) ?_; rintro _ _ ⟨rfl, rfl⟩; refine ⟨rfl, ?_⟩)
        | refine EP.nil ?_
        | refine EP.f rfl (FV.move rfl) rfl rfl ?_
        | refine EP.f rfl (FV.assign rfl) rfl rfl ?_
        | refine EP.f rfl (FV.subI rfl rfl (by omega)) rfl rfl ?_
        | refine EP.f rfl (FV.idx1 rfl rfl rfl rfl (by omega) (by omega)) rfl rfl ?_)
      repeat' (first
        | refine EL.f (FV.move rfl) rfl rfl ?_
        | refine EL.f (FV.assign rfl) rfl rfl ?_
        | refine EL.f (FV.addI rfl rfl (by omega)) rfl rfl ?_
        | refine EL.nil ?_
        | refine EW.region ?_)
      have e : psum (mulC xs ys k) (i + 1) = (psum (mulC xs ys k) i + xs.getD i 0 * ys.getD (k - i) 0 % 1000003) % 1000003 := by
        simp only [psum, mulC]
        omega
      exact ⟨i + 1, ⟨rfl, rfl, rfl, rfl, by rw [e]; rfl, rfl, trivial⟩, ⟨by omega, hei.trans (Ext.drew _)⟩, by omega⟩
    · obtain rfl : i = k + 1 := by omega
      repeat' (first
        | refine EL.f (FV.move rfl) rfl rfl ?_
        | refine EL.fF (FV.leq rfl rfl) rfl (fun _ => rfl) (by omega) ?_
        | refine EL.nil ?_
        | refine EW.seq ?_
        | refine EW.region ?_
        | refine EW.exit ?_
        | refine EW.condF rfl ?_)
      refine EL.h (Hv.build1 rfl rfl rfl rfl) rfl (fun _ => rfl) ?_
      rintro _ _ ⟨rfl, rfl⟩
      refine EL.h (Hv.append1 (B := w.heap.size) rfl rfl rfl rfl rfl (own_ext hown (hei.trans (Ext.alloc _ _))) (World.cell?_alloc_new _ _ _ _) rfl (by omega) (by omega) (by have := hbi.size; simp; omega)) rfl (fun _ => rfl) ?_
      rintro v' w' ⟨hown', _, hbel⟩
      repeat' (first
        | refine EL.f (FV.move rfl) rfl rfl ?_
        | refine EL.f (FV.assign rfl) rfl rfl ?_
        | refine EL.f (FV.addI rfl rfl (by omega)) rfl rfl ?_
        | refine EL.nil ?_
        | refine EW.region ?_)
      refine ⟨(k + 1, v'), ⟨rfl, rfl, rfl, rfl, trivial⟩, ⟨by omega, ?_, (hbi.alloc hbi.size _).trans hbel⟩, by simp only; omega⟩
      unfold OwnI
      rw [mapR_succ, ints_append, List.length_append]
      exact hown'
  · obtain rfl : k = xs.length := by omega
    repeat' (first
      | (show EL _ _ _ _ (_ :: _) _ _
         first
         | (show EL _ _ _ _ (⟨_, .move _, _, _, _, _⟩ :: _) _ _; refine EL.f (FV.move rfl) rfl rfl ?_)
         | (show EL _ _ _ _ (⟨_, .assign _, _, _, _, _⟩ :: _) _ _; refine EL.f (FV.assign rfl) rfl rfl ?_)
         | (show EL _ _ _ _ (⟨_, .call _, _, _, _, _⟩ :: _) _ _; refine EL.f (FV.len rfl rfl) rfl rfl ?_)
         | (show EL _ _ _ _ (⟨_, .binOp .lss _ _ _ _, _, _, _, _⟩ :: _) _ _; refine EL.fF (FV.lss rfl rfl) rfl (fun _ => rfl) (by omega) ?_))
      | refine EL.nil ?_
      | refine EW.seq ?_
      | refine EW.region ?_
      | refine EW.exit ?_
      | refine EW.ret ?_
      | refine EW.condF rfl ?_)
    exact ⟨_, rfl, hown, hb⟩
end Eng
end Go.Proofs.Ytfkohgfcchhlpaa
