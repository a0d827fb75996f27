/- slices.Sort at []int64, a set in ascending order, a number put to its place: contracts. Conditions: the lengths. -/
import Derived.Test.YtgahkbcfjibjaaaMsg
import Derived.Test.YtgahkbcfjibjaaaSl
namespace Go.Proofs.Ytgahkbcfjibjaaa
open Go Go.RowKit
namespace Eng
theorem Ext.afterS {w w1 w2 : World} (h : Ext w w1) (k : Below w.heap.size w1 w2) : Ext w w2 := Below.trans h k
theorem OwnI.snoc {B : Nat} {w : World} {v : Value} {xs : List Int} {x : Int} (h : w.ownsRow B 2 1 v (xs.length + 1) (ints xs ++ [.int .i64 x])) : OwnI B w v (xs ++ [x]) := by
  unfold OwnI
  rw [show ints (xs ++ [x]) = ints xs ++ [.int .i64 x] from by simp [ints], List.length_append, List.length_singleton]
  exact h
section
variable {P : Program} [UTab P] {n : Nat} {ρ : Env} {dst : Option Tmp} {ty : TypeId} {pos : String} {af : Array Edge} {gd : Option (Nat × Bool)}
theorem Hv.build0S {w : World} {t e : TypeId} {z : Value} {size by_ : Nat} (ht : UTab.und P t = some (.slice e)) (hi : UTab.inf P e = some (z, size, by_)) :
    Hv P n ρ ⟨dst, .buildSlice t 0 #[], ty, pos, af, gd⟩ w (fun v w' => ∃ g, v = .slice (some ⟨g, 0, none⟩) 0 0 ∧ g = w.heap.size ∧ At w' e size g 0 0 [] ∧ Ext w w') :=
  ⟨fun a ha K' Q' h => by
    obtain ⟨hs, _⟩ := run_inf hi w
    have hrun' : (execOp a.eval ⟨dst, .buildSlice t 0 #[], ty, pos, af, gd⟩).run P w = .ok (.value (.slice (some ⟨w.heap.size, 0, none⟩) 0 0)) (w.alloc (.cells #[] e)) := by
      simp [execOp, Instr.buildSlice, run_und ht, hs, Instr.fill, newRow, Array.range_zero']
    unfold Oper.wp
    rw [hrun']
    refine h _ _ ⟨_, rfl, rfl, ⟨by simp, #[], heap_alloc_new w _, Nat.le_refl _, Nat.zero_le _, by simp, by simp⟩, Ext.alloc w _⟩⟩
end
section
variable {n : Nat} {ρ : Env} {dst : Option Tmp} {ty : TypeId} {pos : String} {af : Array Edge} {gd : Option (Nat × Bool)}
theorem Hv.build1S {w : World} {x : Operand} {u : Value} {t e : TypeId} {z : Value} {by_ : Nat} (ht : UTab.und Try.prog t = some (.slice e)) (hi : UTab.inf Try.prog e = some (z, 1, by_)) (hx : ev ρ x = some u) (hu : u.cells = #[u]) :
    Hv Try.prog n ρ ⟨dst, .buildSlice t 1 #[(0, x)], ty, pos, af, gd⟩ w (fun v w' => ∃ g, v = .slice (some ⟨g, 0, none⟩) 1 1 ∧ At w' e 1 g 1 1 [u] ∧ g = w.heap.size ∧ Ext w w') :=
  (Hv.build1 ht hi hx hu).mono fun _ _ h => ⟨_, h.1, h.2 ▸ At.fresh w e #[u] 1 rfl, rfl, h.2 ▸ Ext.alloc w _⟩
end
def sortI (xs : List Int) : List Int := xs.mergeSort fun x y => decide (x ≤ y)
theorem sortI_length (xs : List Int) : (sortI xs).length = xs.length := (List.mergeSort_perm xs _).length_eq
theorem sorted_world {w : World} {g c : Nat} {zs ys : List Int} (hat : At w 2 1 g zs.length c (ints zs)) (hl : ys.length = zs.length) (k : Nat) (os : Array Obj) :
    At (Sort.grow (Sort.putRow (Value.int .i64) (Sort.ahead w k) g 0 ys.toArray) os) 2 1 g zs.length c (ints ys) ∧ w.grownBy (Sort.grow (Sort.putRow (Value.int .i64) (Sort.ahead w k) g 0 ys.toArray) os) (some g) := by
  obtain ⟨cur, h1, h2, h3, h4, h5⟩ := hat.row
  have hlt := (Array.getElem?_eq_some_iff.1 h1).1
  have hlen : zs.length ≤ cur.size := by rw [h4]; omega
  refine ⟨⟨by rw [ints_length, hl, Nat.mul_one], Sort.putCells (Value.int .i64) 0 ys.toArray cur, ?_, h2, h3, by simp [Sort.putCells, h4], ?_⟩, ⟨rfl, rfl, rfl, by simp [Sort.grow, Sort.putRow, Sort.mapBlock, Sort.ahead], fun j hj hne => ?_⟩⟩
  · simp only [Sort.grow, Sort.putRow, Sort.mapBlock, Sort.ahead]
    rw [Array.getElem?_append_left (by simpa using hlt)]
    simp [Array.getElem?_modify, h1, Sort.onCells]
  · apply List.ext_getElem
    · rw [List.length_take, Array.length_toList, ints_length, hl]
      simp [Sort.putCells]
      omega
    · intro j hj1 hj2
      rw [ints_length] at hj2
      simp only [List.getElem_take, Array.getElem_toList]
      simp [Sort.putCells, hj2, ints]
  · have hgj : g ≠ j := fun e => hne (by rw [e])
    simp only [Sort.grow, Sort.putRow, Sort.mapBlock, Sort.ahead]
    rw [Array.getElem?_append_left (by simpa using hj)]
    simp [Array.getElem?_modify, hgj]
theorem implSort (g c : Nat) (zs : List Int) (w : World) (hat : At w 2 1 g zs.length c (ints zs)) (hn : zs.length ≤ 1048577) :
    CallsR Try.prog 68 [.slice (some ⟨g, 0, none⟩) zs.length c] w fun v w' => v = .tuple #[] ∧ At w' 2 1 g zs.length c (ints (sortI zs)) ∧ w.grownBy w' (some g) := by
  have hH : Sort.Holds (Value.int .i64) w g 0 zs.toArray := fun j hj => by
    have hj' : j < zs.length := by simpa using hj
    have hc := At.cell hat (ints_get hj')
    rw [Nat.zero_add]
    exact ⟨by rw [hc]; simp [hj'], At.frozen hat j⟩
  have hcon := AnyM.slices_Sort_int laySort g 0 c zs w hH (At.lt hat) (by omega)
  refine ⟨Calls.mono hcon fun e w' he => ?_, ⟨_, Try.func68, by decide +kernel, by rfl⟩⟩
  obtain ⟨rfl, k, os, rfl⟩ := he
  have h := sorted_world (ys := sortI zs) hat (sortI_length zs) k os
  exact ⟨rfl, h⟩
theorem IterAt.ext {w w' : World} {r m : Nat} {ks done : List Int} (h : IterAt w r m ks done) (he : Ext w w') : IterAt w' r m ks done := h.kept (he.grown none) (by simp) (by simp)
set_option maxHeartbeats 4000000 in
theorem implAscending (m : Nat) (ks : List Int) (w : World) (h : SetAt w m ks) (hn : ks.length ≤ 1048577) :
    CallsR Try.prog 40 [.map (some m)] w fun v w' => ∃ L, (Rising L ∧ (∀ x, x ∈ L ↔ x ∈ ks) ∧ L.length = ks.length) ∧ OwnI w.heap.size w' v L ∧ Ext w w' := by
  have hm := h.lt
  have hnd := h.nd
  refine CallsR.enter Try.func40 (by decide +kernel) rfl Try.ntmps40 rfl ?_
  repeat' (first
    | refine EL.f (FV.assign rfl) rfl rfl ?_
    | refine EL.nil ?_
    | refine EW.seq ?_
    | refine EW.region ?_)
  refine EL.h (Hv.build0S rfl rfl) rfl (fun _ => rfl) ?_
  rintro _ w1 ⟨g1, rfl, hg1, hat1, he1⟩
  repeat' (first
    | refine EL.f (FV.move rfl) rfl rfl ?_
    | refine EL.f (FV.assign rfl) rfl rfl ?_
    | refine EL.nil ?_
    | refine EW.seq ?_
    | refine EW.region ?_)
  refine EL.h (Hv.rangeS rfl (h.ext he1)) rfl (fun _ => rfl) ?_
  rintro _ w2 ⟨r, rfl, hr, hI2, he2⟩
  have hat2 := At.ext hat1 he2
  repeat' (first
    | refine EL.nil ?_
    | refine EW.block ?_)
  refine EW.loop (X := List Int × List Int × Nat × Nat) (fun y wr => IterAt wr r m ks y.1 ∧ At wr 2 1 y.2.2.1 y.1.length y.2.2.2 (ints y.1) ∧ (y.1 ++ y.2.1).Perm ks ∧ w.heap.size ≤ y.2.2.1 ∧ Ext w wr) (fun y => [(3, .slice (some ⟨y.2.2.1, 0, none⟩) y.1.length y.2.2.2), (7, .pointer (some ⟨r, 0, none⟩))]) (fun y => y.2.1.length) ([], ks, g1, 0) ⟨hI2, hat2, List.Perm.refl _, by dsimp only; omega, he1.trans he2⟩ ⟨rfl, rfl, trivial⟩ ?_
  rintro ⟨done, rest, g, c⟩ wr ⟨hI, hat, hperm, hgB, hE⟩
  dsimp only at *
  have hlen := hperm.length_eq
  rw [List.length_append] at hlen
  have hap := hI.apart hat
  repeat' (first
    | refine EW.seq ?_
    | refine EW.region ?_)
  refine EL.h (Hv.nextS rfl hI) rfl (fun _ => rfl) ?_
  rintro _ w3 (⟨rfl, rfl, hall⟩ | ⟨k, rfl, hk, hnk, hI3, hC3, hg3⟩)
  · have hr0 : rest = [] := by
      cases rest with
      | nil => rfl
      | cons x xs =>
        exfalso
        have h1 : x ∈ ks := hperm.mem_iff.1 (by simp)
        have h2 := hall x h1
        have h3 := hperm.nodup_iff.2 hnd
        exact (List.nodup_append.1 h3).2.2 x h2 x (by simp) rfl
    subst hr0
    rw [List.append_nil] at hperm
    have hdn : done.Nodup := hperm.nodup_iff.2 hnd
    repeat' (first
      | refine EL.f (FV.move rfl) rfl rfl ?_
      | refine EL.f (FV.extract rfl rfl) rfl rfl ?_
      | refine EL.nil ?_
      | refine EW.seq ?_
      | refine EW.region ?_
      | refine EW.exit ?_
      | refine EW.condF rfl ?_)
    refine EL.h (Hv.call (implSort g c done wr hat (by omega)) rfl) rfl (fun _ => rfl) ?_
    rintro _ w4 ⟨rfl, hat4, hg4⟩
    repeat' (first
      | refine EL.f (FV.move rfl) rfl rfl ?_
      | refine EL.f (FV.assign rfl) rfl rfl ?_
      | refine EL.nil ?_
      | refine EW.seq ?_
      | refine EW.region ?_
      | refine EW.ret ?_)
    have hE4 : Ext w w4 := Below.wr hE hg4 hgB (Nat.le_refl _)
    refine ⟨_, rfl, sortI done, ⟨rising_sort hdn, fun x => mem_sort.trans hperm.mem_iff, by rw [sortI_length]; simpa using hlen⟩, ?_, hE4⟩
    have hown := At.own hat4 hgB
    unfold OwnI
    rw [sortI_length]
    exact hown
  have hke : k ∈ rest := by
    rcases List.mem_append.1 (hperm.mem_iff.2 hk) with q | q
    · exact absurd q hnk
    · exact q
  have hat3 := At.kept hat hg3 (by simp; exact fun e => hap.1 e.symm)
  have hE3 : Ext w w3 := Below.wr hE hg3 (by have := he1.size; omega) (Nat.le_refl _)
  repeat' (first
    | refine EL.f (FV.extract rfl rfl) rfl rfl ?_
    | refine EL.nil ?_
    | refine EW.seq ?_
    | refine EW.region ?_
    | refine EW.block ?_
    | refine EW.skip ?_
    | refine EW.condT rfl ?_)
  refine EL.f (FV.entryS rfl (fun _ e => e ▸ hC3)) rfl rfl ?_
  repeat' (first
    | refine EL.f (FV.move rfl) rfl rfl ?_
    | refine EL.f (FV.assign rfl) rfl rfl ?_
    | refine EL.f (FV.extract rfl rfl) rfl rfl ?_
    | refine EL.nil ?_
    | refine EW.region ?_)
  refine EL.h (Hv.build1S rfl rfl rfl rfl) rfl (fun _ => rfl) ?_
  rintro _ a1 ⟨ga, rfl, hga, hgga, ea1⟩
  have oa := own_ext (At.own hat3 hgB) ea1
  skip
  refine EL.h (Hv.append1 (B := w.heap.size) rfl rfl rfl rfl rfl oa (At.cell hga rfl) rfl (by  omega) (by  omega) (Nat.le_trans (hE3).size ea1.size)) rfl (fun _ => rfl) ?_
  rintro s9 a2 ⟨h9, gra, bla⟩
  have hE9 := Ext.afterS ((hE3).trans ea1) bla
  replace h9 := OwnI.snoc h9
  have hk3 := List.length_erase_of_mem hke
  have hpos : 0 < rest.length := List.length_pos_of_mem hke
  obtain ⟨g9, c9, rfl, hB9, hat9⟩ := own_at h9 (by simp)
  have hI9 : IterAt a2 r m ks (done ++ [k]) := (hI3.ext ea1).kept gra (by simp [Value.ownBlock]; exact hap.1) (by simp [Value.ownBlock]; exact hap.2)
  repeat' (first
    | refine EL.f (FV.assign rfl) rfl rfl ?_
    | refine EL.nil ?_)
  refine ⟨(done ++ [k], rest.erase k, g9, c9), ⟨rfl, rfl, trivial⟩, ⟨hI9, hat9, ?_, hB9, hE9⟩, by dsimp only; omega⟩
  dsimp only
  rw [List.append_assoc]
  exact (List.Perm.append_left done (List.perm_cons_erase hke).symm).trans hperm
set_option maxHeartbeats 4000000 in
theorem specPut (A : Option Addr) (cp : Nat) (xs : List Int) (n : Int) (w : World) (hx : Rd w A (ints xs)) (hn : xs.length ≤ 1048577) :
    CallsR Try.prog 33 [.slice A xs.length cp, .int .i64 n] w fun v w' => OwnI w.heap.size w' v (putR n xs) ∧ Ext w w' := by
  refine CallsR.enter Try.func33 (by decide +kernel) rfl Try.ntmps33 rfl ?_
  repeat' (first
    | refine EL.f (FV.assign rfl) rfl rfl ?_
    | refine EL.nil ?_
    | refine EW.seq ?_
    | refine EW.region ?_)
  refine EL.h (Hv.build0S rfl rfl) rfl (fun _ => rfl) ?_
  rintro _ w1 ⟨g1, rfl, hg1, hat1, he1⟩
  repeat' (first
    | refine EL.f (FV.assign rfl) rfl rfl ?_
    | refine EL.nil ?_
    | refine EW.seq ?_
    | refine EW.region ?_
    | refine EW.block ?_)
  refine EW.loop (X := Nat × Value × Bool × List Int) (fun y wr => y.1 ≤ xs.length ∧ OwnI w.heap.size wr y.2.1 y.2.2.2 ∧ (if y.2.2.1 = true then y.2.2.2 = putR n (xs.take y.1) ∧ ∃ z ∈ xs.take y.1, n ≤ z else y.2.2.2 = xs.take y.1 ∧ ∀ z ∈ xs.take y.1, z < n) ∧ Ext w wr) (fun y => [(0, .slice A xs.length cp), (1, .int .i64 n), (5, y.2.1), (6, .bool y.2.2.1), (7, .int .i64 y.1)]) (fun y => xs.length - y.1) (0, .slice (some ⟨g1, 0, none⟩) 0 0, false, []) ⟨Nat.zero_le _, At.own hat1 (by omega), by simp, he1⟩ ⟨rfl, rfl, rfl, rfl, rfl, trivial⟩ ?_
  rintro ⟨i, s, d, out⟩ wr ⟨hi, hown, hst, hE⟩
  dsimp only at *
  have hol : out.length ≤ xs.length + 1 := by
    cases d
    · rw [if_neg (by decide)] at hst
      rw [hst.1, List.length_take]; omega
    · rw [if_pos rfl] at hst
      have := putR_length (n := n) (xs := xs.take i)
      rw [List.length_take] at this
      rw [hst.1]; omega
  by_cases hlt : i < xs.length
  rotate_left
  · obtain rfl : i = xs.length := by omega
    rw [List.take_length] at hst
    cases d
    · rw [if_neg (by decide)] at hst
      obtain ⟨rfl, hless⟩ := hst
      repeat' (first
        | (show EL _ _ _ _ (_ :: _) _ _
           first
           | (show EL _ _ _ _ (⟨_, .move _, _, _, _, _⟩ :: _) _ _; refine EL.f (FV.move rfl) rfl rfl ?_)
           | (show EL _ _ _ _ (⟨_, .call _, _, _, _, _⟩ :: _) _ _; refine EL.f (FV.len rfl rfl) rfl rfl ?_)
           | (show EL _ _ _ _ (⟨_, .unOp .not _ _, _, _, _, _⟩ :: _) _ _; refine EL.f (FV.not rfl) rfl rfl ?_)
           | (show EL _ _ _ _ (⟨_, .binOp .lss _ _ _ _, _, _, _, _⟩ :: _) _ _; refine EL.fF (FV.lss rfl rfl) rfl (fun _ => rfl) (by omega) ?_))
        | refine EL.nil ?_
        | refine EW.seq ?_
        | refine EW.region ?_
        | refine EW.exit ?_
        | refine EW.condT rfl ?_
        | refine EW.condF rfl ?_)
      refine EL.h (Hv.build1S rfl rfl rfl rfl) rfl (fun _ => rfl) ?_
      rintro _ a1 ⟨ga, rfl, hga, hgga, ea1⟩
      have oa := own_ext hown ea1
      skip
      refine EL.h (Hv.append1 (B := w.heap.size) rfl rfl rfl rfl rfl oa (At.cell hga rfl) rfl (by  omega) (by  omega) (Nat.le_trans (hE).size ea1.size)) rfl (fun _ => rfl) ?_
      rintro s8 a2 ⟨h8, gra, bla⟩
      have hE8 := Ext.afterS ((hE).trans ea1) bla
      replace h8 := OwnI.snoc h8
      repeat' (first
        | refine EL.f (FV.move rfl) rfl rfl ?_
        | refine EL.f (FV.assign rfl) rfl rfl ?_
        | refine EL.nil ?_
        | refine EW.seq ?_
        | refine EW.region ?_
        | refine EW.ret ?_)
      exact ⟨_, rfl, by rw [putR_less hless]; exact h8, hE8⟩
    · rw [if_pos rfl] at hst
      obtain ⟨rfl, _⟩ := hst
      repeat' (first
        | (show EL _ _ _ _ (_ :: _) _ _
           first
           | (show EL _ _ _ _ (⟨_, .move _, _, _, _, _⟩ :: _) _ _; refine EL.f (FV.move rfl) rfl rfl ?_)
           | (show EL _ _ _ _ (⟨_, .assign _, _, _, _, _⟩ :: _) _ _; refine EL.f (FV.assign rfl) rfl rfl ?_)
           | (show EL _ _ _ _ (⟨_, .call _, _, _, _, _⟩ :: _) _ _; refine EL.f (FV.len rfl rfl) rfl rfl ?_)
           | (show EL _ _ _ _ (⟨_, .unOp .not _ _, _, _, _, _⟩ :: _) _ _; refine EL.f (FV.not rfl) rfl rfl ?_)
           | (show EL _ _ _ _ (⟨_, .binOp .lss _ _ _ _, _, _, _, _⟩ :: _) _ _; refine EL.fF (FV.lss rfl rfl) rfl (fun _ => rfl) (by omega) ?_))
        | refine EL.nil ?_
        | refine EW.seq ?_
        | refine EW.region ?_
        | refine EW.skip ?_
        | refine EW.exit ?_
        | refine EW.ret ?_
        | refine EW.condF rfl ?_)
      exact ⟨_, rfl, hown, hE⟩
  obtain ⟨b, o, rfl, hc⟩ := hx.int hlt
  have q0 := hE.cell hc
  have htk : xs.take (i + 1) = xs.take i ++ [xs.getD i 0] := by
    rw [List.take_succ_eq_append_getElem hlt]
    simp [hlt]
  cases d
  · rw [if_neg (by decide)] at hst
    obtain ⟨rfl, hless⟩ := hst
    by_cases h1 : n ≤ xs.getD i 0
    · by_cases h2 : n < xs.getD i 0
      · repeat' (first
          | (show EL _ _ _ _ (_ :: _) _ _
             first
             | (show EL _ _ _ _ (⟨_, .load _ _, _, _, _, _⟩ :: _) _ _; refine EL.f (FV.load1 rfl rfl rfl (q0)) rfl rfl ?_)
             | (show EL _ _ _ _ (⟨_, .move _, _, _, _, _⟩ :: _) _ _; refine EL.f (FV.move rfl) rfl rfl ?_)
             | (show EL _ _ _ _ (⟨_, .assign _, _, _, _, _⟩ :: _) _ _; refine EL.f (FV.assign rfl) rfl rfl ?_)
             | (show EL _ _ _ _ (⟨_, .call _, _, _, _, _⟩ :: _) _ _; refine EL.f (FV.len rfl rfl) rfl rfl ?_)
             | (show EL _ _ _ _ (⟨_, .unOp .not _ _, _, _, _, _⟩ :: _) _ _; refine EL.f (FV.not rfl) rfl rfl ?_)
             | (show EL _ _ _ _ (⟨_, .pick _ _ _, _, _, _, _⟩ :: _) _ _; refine EL.f (FV.pickT rfl rfl) rfl rfl ?_)
             | (show EL _ _ _ _ (⟨_, .binOp .lss _ _ _ _, _, _, _, _⟩ :: _) _ _; refine EL.fT (FV.lss rfl rfl) rfl (fun _ => rfl) (by omega) ?_)
             | (show EL _ _ _ _ (⟨_, .binOp .gtr _ _ _ _, _, _, _, _⟩ :: _) _ _; refine EL.fT (FV.gtr rfl rfl) rfl (fun _ => rfl) (by omega) ?_)
             | (show EL _ _ _ _ (⟨_, .binOp .geq _ _ _ _, _, _, _, _⟩ :: _) _ _; refine EL.fT (FV.geq rfl rfl) rfl (fun _ => rfl) (by omega) ?_)
             | (show EL _ _ _ _ (⟨_, .indexAddr _ _ _, _, _, _, _⟩ :: _) _ _; refine EL.f (FV.idx1 rfl rfl rfl rfl (by omega) (by omega)) rfl rfl ?_))
          | refine EL.nil ?_
          | refine EW.seq ?_
          | refine EW.region ?_
          | refine EW.block ?_
          | refine EW.skip ?_
          | refine EW.condT rfl ?_)
        skip
        refine EL.h (Hv.build1S rfl rfl rfl rfl) rfl (fun _ => rfl) ?_
        rintro _ a1 ⟨ga, rfl, hga, hgga, ea1⟩
        have oa := own_ext hown ea1
        skip
        refine EL.h (Hv.append1 (B := w.heap.size) rfl rfl rfl rfl rfl oa (At.cell hga rfl) rfl (by  omega) (by  omega) (Nat.le_trans (hE).size ea1.size)) rfl (fun _ => rfl) ?_
        rintro s8 a2 ⟨h8, gra, bla⟩
        have hE8 := Ext.afterS ((hE).trans ea1) bla
        replace h8 := OwnI.snoc h8
        have q1 := hE8.cell hc
        have hl8 : (xs.take i ++ [n]).length ≤ xs.length + 1 := by rw [List.length_append, List.length_take]; simp; omega
        repeat' (first
          | (show EL _ _ _ _ (_ :: _) _ _
             first
             | (show EL _ _ _ _ (⟨_, .load _ _, _, _, _, _⟩ :: _) _ _; refine EL.f (FV.load1 rfl rfl rfl (q1)) rfl rfl ?_)
             | (show EL _ _ _ _ (⟨_, .move _, _, _, _, _⟩ :: _) _ _; refine EL.f (FV.move rfl) rfl rfl ?_)
             | (show EL _ _ _ _ (⟨_, .assign _, _, _, _, _⟩ :: _) _ _; refine EL.f (FV.assign rfl) rfl rfl ?_)
             | (show EL _ _ _ _ (⟨_, .indexAddr _ _ _, _, _, _, _⟩ :: _) _ _; refine EL.f (FV.idx1 rfl rfl rfl rfl (by omega) (by omega)) rfl rfl ?_))
          | refine EL.nil ?_
          | refine EW.region ?_)
        skip
        refine EL.h (Hv.build1S rfl rfl rfl rfl) rfl (fun _ => rfl) ?_
        rintro _ b1 ⟨gb, rfl, hgb, hggb, eb1⟩
        have ob := own_ext h8 eb1
        skip
        refine EL.h (Hv.append1 (B := w.heap.size) rfl rfl rfl rfl rfl ob (At.cell hgb rfl) rfl (by have := hl8; omega) (by have := hl8; omega) (Nat.le_trans (hE8).size eb1.size)) rfl (fun _ => rfl) ?_
        rintro s9 b2 ⟨h9, grb, blb⟩
        have hE9 := Ext.afterS ((hE8).trans eb1) blb
        replace h9 := OwnI.snoc h9
        repeat' (first
          | refine EL.f (FV.move rfl) rfl rfl ?_
          | refine EL.f (FV.assign rfl) rfl rfl ?_
          | refine EL.f (FV.addI rfl rfl (by omega)) rfl rfl ?_
          | refine EL.nil ?_
          | refine EW.region ?_)
        exact ⟨(i + 1, s9, true, xs.take i ++ [n] ++ [xs.getD i 0]), ⟨rfl, rfl, rfl, rfl, rfl, trivial⟩, ⟨by dsimp only; omega, h9, by dsimp only; rw [if_pos rfl, htk, putR_first hless h1, if_pos h2]; exact ⟨rfl, _, by simp, h1⟩, hE9⟩, by dsimp only; omega⟩
      · repeat' (first
          | (show EL _ _ _ _ (_ :: _) _ _
             first
             | (show EL _ _ _ _ (⟨_, .load _ _, _, _, _, _⟩ :: _) _ _; refine EL.f (FV.load1 rfl rfl rfl (q0)) rfl rfl ?_)
             | (show EL _ _ _ _ (⟨_, .move _, _, _, _, _⟩ :: _) _ _; refine EL.f (FV.move rfl) rfl rfl ?_)
             | (show EL _ _ _ _ (⟨_, .assign _, _, _, _, _⟩ :: _) _ _; refine EL.f (FV.assign rfl) rfl rfl ?_)
             | (show EL _ _ _ _ (⟨_, .call _, _, _, _, _⟩ :: _) _ _; refine EL.f (FV.len rfl rfl) rfl rfl ?_)
             | (show EL _ _ _ _ (⟨_, .unOp .not _ _, _, _, _, _⟩ :: _) _ _; refine EL.f (FV.not rfl) rfl rfl ?_)
             | (show EL _ _ _ _ (⟨_, .pick _ _ _, _, _, _, _⟩ :: _) _ _; refine EL.f (FV.pickT rfl rfl) rfl rfl ?_)
             | (show EL _ _ _ _ (⟨_, .binOp .lss _ _ _ _, _, _, _, _⟩ :: _) _ _; refine EL.fT (FV.lss rfl rfl) rfl (fun _ => rfl) (by omega) ?_)
             | (show EL _ _ _ _ (⟨_, .binOp .geq _ _ _ _, _, _, _, _⟩ :: _) _ _; refine EL.fT (FV.geq rfl rfl) rfl (fun _ => rfl) (by omega) ?_)
             | (show EL _ _ _ _ (⟨_, .binOp .gtr _ _ _ _, _, _, _, _⟩ :: _) _ _; refine EL.fF (FV.gtr rfl rfl) rfl (fun _ => rfl) (by omega) ?_)
             | (show EL _ _ _ _ (⟨_, .indexAddr _ _ _, _, _, _, _⟩ :: _) _ _; refine EL.f (FV.idx1 rfl rfl rfl rfl (by omega) (by omega)) rfl rfl ?_))
          | refine EL.nil ?_
          | refine EW.seq ?_
          | refine EW.region ?_
          | refine EW.block ?_
          | refine EW.skip ?_
          | refine EW.condT rfl ?_
          | refine EW.condF rfl ?_)
        skip
        refine EL.h (Hv.build1S rfl rfl rfl rfl) rfl (fun _ => rfl) ?_
        rintro _ a1 ⟨ga, rfl, hga, hgga, ea1⟩
        have oa := own_ext hown ea1
        skip
        refine EL.h (Hv.append1 (B := w.heap.size) rfl rfl rfl rfl rfl oa (At.cell hga rfl) rfl (by  omega) (by  omega) (Nat.le_trans (hE).size ea1.size)) rfl (fun _ => rfl) ?_
        rintro s9 a2 ⟨h9, gra, bla⟩
        have hE9 := Ext.afterS ((hE).trans ea1) bla
        replace h9 := OwnI.snoc h9
        repeat' (first
          | refine EL.f (FV.move rfl) rfl rfl ?_
          | refine EL.f (FV.assign rfl) rfl rfl ?_
          | refine EL.f (FV.addI rfl rfl (by omega)) rfl rfl ?_
          | refine EL.nil ?_
          | refine EW.region ?_)
        exact ⟨(i + 1, s9, true, xs.take i ++ [xs.getD i 0]), ⟨rfl, rfl, rfl, rfl, rfl, trivial⟩, ⟨by dsimp only; omega, h9, by dsimp only; rw [if_pos rfl, htk, putR_first hless h1, if_neg h2]; exact ⟨rfl, _, by simp, h1⟩, hE9⟩, by dsimp only; omega⟩
    · repeat' (first
        | (show EL _ _ _ _ (_ :: _) _ _
           first
           | (show EL _ _ _ _ (⟨_, .load _ _, _, _, _, _⟩ :: _) _ _; refine EL.f (FV.load1 rfl rfl rfl (q0)) rfl rfl ?_)
           | (show EL _ _ _ _ (⟨_, .move _, _, _, _, _⟩ :: _) _ _; refine EL.f (FV.move rfl) rfl rfl ?_)
           | (show EL _ _ _ _ (⟨_, .call _, _, _, _, _⟩ :: _) _ _; refine EL.f (FV.len rfl rfl) rfl rfl ?_)
           | (show EL _ _ _ _ (⟨_, .unOp .not _ _, _, _, _, _⟩ :: _) _ _; refine EL.f (FV.not rfl) rfl rfl ?_)
           | (show EL _ _ _ _ (⟨_, .pick _ _ _, _, _, _, _⟩ :: _) _ _; refine EL.f (FV.pickT rfl rfl) rfl rfl ?_)
           | (show EL _ _ _ _ (⟨_, .binOp .lss _ _ _ _, _, _, _, _⟩ :: _) _ _; refine EL.fT (FV.lss rfl rfl) rfl (fun _ => rfl) (by omega) ?_)
           | (show EL _ _ _ _ (⟨_, .binOp .geq _ _ _ _, _, _, _, _⟩ :: _) _ _; refine EL.fF (FV.geq rfl rfl) rfl (fun _ => rfl) (by omega) ?_)
           | (show EL _ _ _ _ (⟨_, .indexAddr _ _ _, _, _, _, _⟩ :: _) _ _; refine EL.f (FV.idx1 rfl rfl rfl rfl (by omega) (by omega)) rfl rfl ?_))
        | refine EL.nil ?_
        | refine EW.seq ?_
        | refine EW.region ?_
        | refine EW.block ?_
        | refine EW.skip ?_
        | refine EW.condT rfl ?_
        | refine EW.condF rfl ?_)
      skip
      refine EL.h (Hv.build1S rfl rfl rfl rfl) rfl (fun _ => rfl) ?_
      rintro _ a1 ⟨ga, rfl, hga, hgga, ea1⟩
      have oa := own_ext hown ea1
      skip
      refine EL.h (Hv.append1 (B := w.heap.size) rfl rfl rfl rfl rfl oa (At.cell hga rfl) rfl (by  omega) (by  omega) (Nat.le_trans (hE).size ea1.size)) rfl (fun _ => rfl) ?_
      rintro s9 a2 ⟨h9, gra, bla⟩
      have hE9 := Ext.afterS ((hE).trans ea1) bla
      replace h9 := OwnI.snoc h9
      repeat' (first
        | refine EL.f (FV.move rfl) rfl rfl ?_
        | refine EL.f (FV.assign rfl) rfl rfl ?_
        | refine EL.f (FV.addI rfl rfl (by omega)) rfl rfl ?_
        | refine EL.nil ?_
        | refine EW.region ?_)
      exact ⟨(i + 1, s9, false, xs.take i ++ [xs.getD i 0]), ⟨rfl, rfl, rfl, rfl, rfl, trivial⟩, ⟨by dsimp only; omega, h9, by dsimp only; rw [if_neg (by decide), htk]; exact ⟨rfl, fun z hz => by rcases List.mem_append.1 hz with hz | hz; exact hless z hz; rw [List.mem_singleton.1 hz]; omega⟩, hE9⟩, by dsimp only; omega⟩
  · rw [if_pos rfl] at hst
    obtain ⟨rfl, hd⟩ := hst
    repeat' (first
      | (show EL _ _ _ _ (_ :: _) _ _
         first
         | (show EL _ _ _ _ (⟨_, _, _, _, _, some _⟩ :: _) _ _; refine EL.skip rfl rfl ?_)
         | (show EL _ _ _ _ (⟨_, .load _ _, _, _, _, _⟩ :: _) _ _; refine EL.f (FV.load1 rfl rfl rfl (q0)) rfl rfl ?_)
         | (show EL _ _ _ _ (⟨_, .move _, _, _, _, _⟩ :: _) _ _; refine EL.f (FV.move rfl) rfl rfl ?_)
         | (show EL _ _ _ _ (⟨_, .call _, _, _, _, _⟩ :: _) _ _; refine EL.f (FV.len rfl rfl) rfl rfl ?_)
         | (show EL _ _ _ _ (⟨_, .unOp .not _ _, _, _, _, _⟩ :: _) _ _; refine EL.f (FV.not rfl) rfl rfl ?_)
         | (show EL _ _ _ _ (⟨_, .pick _ _ _, _, _, _, _⟩ :: _) _ _; refine EL.f (FV.pickF rfl rfl) rfl rfl ?_)
         | (show EL _ _ _ _ (⟨_, .binOp .lss _ _ _ _, _, _, _, _⟩ :: _) _ _; refine EL.fT (FV.lss rfl rfl) rfl (fun _ => rfl) (by omega) ?_)
         | (show EL _ _ _ _ (⟨_, .indexAddr _ _ _, _, _, _, _⟩ :: _) _ _; refine EL.f (FV.idx1 rfl rfl rfl rfl (by omega) (by omega)) rfl rfl ?_))
      | refine EL.nil ?_
      | refine EW.seq ?_
      | refine EW.region ?_
      | refine EW.block ?_
      | refine EW.skip ?_
      | refine EW.condT rfl ?_
      | refine EW.condF rfl ?_)
    skip
    refine EL.h (Hv.build1S rfl rfl rfl rfl) rfl (fun _ => rfl) ?_
    rintro _ a1 ⟨ga, rfl, hga, hgga, ea1⟩
    have oa := own_ext hown ea1
    skip
    refine EL.h (Hv.append1 (B := w.heap.size) rfl rfl rfl rfl rfl oa (At.cell hga rfl) rfl (by  omega) (by  omega) (Nat.le_trans (hE).size ea1.size)) rfl (fun _ => rfl) ?_
    rintro s9 a2 ⟨h9, gra, bla⟩
    have hE9 := Ext.afterS ((hE).trans ea1) bla
    replace h9 := OwnI.snoc h9
    repeat' (first
      | refine EL.f (FV.move rfl) rfl rfl ?_
      | refine EL.f (FV.assign rfl) rfl rfl ?_
      | refine EL.f (FV.addI rfl rfl (by omega)) rfl rfl ?_
      | refine EL.nil ?_
      | refine EW.region ?_)
    exact ⟨(i + 1, s9, true, putR n (xs.take i) ++ [xs.getD i 0]), ⟨rfl, rfl, rfl, rfl, rfl, trivial⟩, ⟨by dsimp only; omega, h9, by dsimp only; rw [if_pos rfl, htk, putR_done hd]; exact ⟨rfl, by obtain ⟨z, hz, hz2⟩ := hd; exact ⟨z, List.mem_append_left _ hz, hz2⟩⟩, hE9⟩, by dsimp only; omega⟩
end Eng
end Go.Proofs.Ytgahkbcfjibjaaa
