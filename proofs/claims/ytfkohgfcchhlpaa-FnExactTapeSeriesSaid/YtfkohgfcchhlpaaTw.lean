/- Equality of rows and of tapes. Conditions: the lengths. -/
import Derived.Test.YtfkohgfcchhlpaaTv
namespace Go.Proofs.Ytfkohgfcchhlpaa
open Go Go.RowKit
namespace Eng
theorem insE_iff (x y : Ins) : insE x y = true ↔ x = y := by
  obtain ⟨a, b, c, d⟩ := x
  obtain ⟨a', b', c', d'⟩ := y
  simp [insE]
theorem gdE_iff (x y : Gd) : gdE x y = true ↔ x = y := by
  obtain ⟨a, b⟩ := x
  obtain ⟨a', b'⟩ := y
  simp [gdE]
instance : DecidableEq Ins := fun x y => decidable_of_iff _ (insE_iff x y)
instance : DecidableEq Gd := fun x y => decidable_of_iff _ (gdE_iff x y)
theorem notIns (x y : Ins) : (!insE x y) = decide (x ≠ y) := by
  by_cases h : x = y
  · rw [(insE_iff x y).2 h]; simp [h]
  · have : insE x y = false := by cases e : insE x y <;> simp_all [insE_iff]
    rw [this]; simp [h]
theorem notGd (x y : Gd) : (!gdE x y) = decide (x ≠ y) := by
  by_cases h : x = y
  · rw [(gdE_iff x y).2 h]; simp [h]
  · have : gdE x y = false := by cases e : gdE x y <;> simp_all [gdE_iff]
    rw [this]; simp [h]
theorem list_same {α : Type} {d : α} {xs ys : List α} (hl : xs.length = ys.length) (h : ∀ i, i < xs.length → xs.getD i d = ys.getD i d) : xs = ys :=
  List.ext_getElem hl fun i h1 h2 => by
    have := h i h1
    simpa [h1, h2] using this

section
variable {n : Nat} {S : World → Prop} {ρ : Env} {dst : Option Tmp} {ty : TypeId} {pos : String} {af : Array Edge} {gd : Option (Nat × Bool)}
theorem FV.neIns {a b : Operand} {u : TypeId} {x y : Ins} (ha : ev ρ a = some (.agg (insV x).toArray)) (hb : ev ρ b = some (.agg (insV y).toArray)) : FV Try.prog n S ρ ⟨dst, .binOp .neq 65 a b u, ty, pos, af, gd⟩ (.bool (decide (x ≠ y))) := by
  rw [← notIns]; exact FV.neqIns ha hb
theorem FV.neGd {a b : Operand} {u : TypeId} {x y : Gd} (ha : ev ρ a = some (.agg (gdV x).toArray)) (hb : ev ρ b = some (.agg (gdV y).toArray)) : FV Try.prog n S ρ ⟨dst, .binOp .neq 67 a b u, ty, pos, af, gd⟩ (.bool (decide (x ≠ y))) := by
  rw [← notGd]; exact FV.neqGd ha hb
end

theorem equalInts (A B : Option Addr) (c e : Nat) (xs ys : List Int) (w : World) (hx : Rd w A (ints xs)) (hy : Rd w B (ints ys)) (hn : xs.length ≤ 1048576) :
    CallsR Try.prog 70 [.slice A xs.length c, .slice B ys.length e] w fun v w' => v = .bool (decide (xs = ys)) ∧ Ext w w' := by
  refine CallsR.enter Try.func70 (by decide +kernel) rfl Try.ntmps70 rfl ?_
  by_cases hl : xs.length = ys.length
  · repeat' (first
      | (show EL _ _ _ _ (_ :: _) _ _
         first
         | (show EL _ _ _ _ (⟨_, .move _, _, _, _, _⟩ :: _) _ _; refine EL.f (FV.move rfl) rfl rfl ?_)
         | (show EL _ _ _ _ (⟨_, .assign _, _, _, _, _⟩ :: _) _ _; refine EL.f (FV.assign rfl) rfl rfl ?_)
         | (show EL _ _ _ _ (⟨_, .call _, _, _, _, _⟩ :: _) _ _; refine EL.f (FV.len rfl rfl) rfl rfl ?_)
         | (show EL _ _ _ _ (⟨_, .binOp .neq _ _ _ _, _, _, _, _⟩ :: _) _ _; refine EL.fF (FV.neq rfl rfl) rfl (fun _ => rfl) (by omega) ?_))
      | refine EL.nil ?_
      | refine EW.seq ?_
      | refine EW.region ?_
      | refine EW.block ?_
      | refine EW.skip ?_
      | refine EW.condF rfl ?_)
    refine EW.loop (fun k wr => k ≤ xs.length ∧ (∀ i, i < k → xs.getD i 0 = ys.getD i 0) ∧ Ext w wr) (fun k => [(0, .slice A xs.length c), (1, .slice B ys.length e), (12, .int .i64 xs.length), (13, .int .i64 k)]) (fun k => xs.length - k) 0 ⟨Nat.zero_le _, fun i h => absurd h (Nat.not_lt_zero _), Ext.refl w⟩ ⟨rfl, rfl, rfl, rfl, trivial⟩ ?_
    rintro k wr ⟨hk, heq, he⟩
    by_cases hlt : k < xs.length
    · obtain ⟨b, o, rfl, hc⟩ := hx.int hlt
      obtain ⟨b2, o2, rfl, hc2⟩ := hy.int (show k < ys.length by omega)
      repeat' (first
        | refine EL.f (FV.move rfl) rfl rfl ?_
        | refine EL.f (FV.assign rfl) rfl rfl ?_
        | refine EL.fT (FV.lss rfl rfl) rfl (fun _ => rfl) (by omega) ?_
        | refine EL.nil ?_
        | refine EW.seq ?_
        | refine EW.region ?_
        | refine EW.block ?_
        | refine EW.skip ?_
        | refine EW.condT rfl ?_)
      refine EW.draw (fun w' => Ext wr w') (pl 0 9) mixed (by decide +kernel) (Ext.drew _) ?_
      repeat' (first
        | refine EP.f rfl (FV.load rfl rfl rfl (fun w' h' => (he.trans h').cell hc)) rfl rfl ?_
        | refine EP.f rfl (FV.load rfl rfl rfl (fun w' h' => (he.trans h').cell hc2)) rfl rfl ?_
        | refine EP.f rfl (FV.neq rfl rfl) rfl rfl ?_
        | refine EP.nil ?_
        | refine EP.f rfl (FV.move rfl) rfl rfl ?_
        | refine EP.f rfl (FV.idx1 rfl rfl rfl rfl (by omega) (by omega)) rfl rfl ?_)
      refine EW.condP rfl (fun hne => ?_) (fun hne => ?_)
      · repeat' (first
          | refine EL.f (FV.assign rfl) rfl rfl ?_
          | refine EL.nil ?_
          | refine EW.seq ?_
          | refine EW.region ?_
          | refine EW.ret ?_)
        exact ⟨_, rfl, by rw [decide_eq_false]; intro h; exact hne (by rw [h]), he.trans (Ext.drew _)⟩
      · repeat' (first
          | refine EL.f (FV.move rfl) rfl rfl ?_
          | refine EL.f (FV.addI rfl rfl (by omega)) rfl rfl ?_
          | refine EL.nil ?_
          | refine EW.region ?_
          | refine EW.skip ?_)
        refine ⟨k + 1, ⟨rfl, rfl, rfl, rfl, trivial⟩, ⟨by omega, fun i hi => ?_, he.trans (Ext.drew _)⟩, by omega⟩
        by_cases hik : i = k
        · subst hik; exact Decidable.not_not.1 hne
        · exact heq i (by omega)
    · obtain rfl : k = xs.length := by omega
      repeat' (first
        | refine EL.f (FV.assign rfl) rfl rfl ?_
        | refine EL.fF (FV.lss rfl rfl) rfl (fun _ => rfl) (by omega) ?_
        | refine EL.nil ?_
        | refine EW.seq ?_
        | refine EW.region ?_
        | refine EW.exit ?_
        | refine EW.ret ?_
        | refine EW.condF rfl ?_)
      exact ⟨_, rfl, by rw [decide_eq_true (list_same hl heq)], he⟩
  · repeat' (first
      | (show EL _ _ _ _ (_ :: _) _ _
         first
         | (show EL _ _ _ _ (⟨_, .move _, _, _, _, _⟩ :: _) _ _; refine EL.f (FV.move rfl) rfl rfl ?_)
         | (show EL _ _ _ _ (⟨_, .assign _, _, _, _, _⟩ :: _) _ _; refine EL.f (FV.assign rfl) rfl rfl ?_)
         | (show EL _ _ _ _ (⟨_, .call _, _, _, _, _⟩ :: _) _ _; refine EL.f (FV.len rfl rfl) rfl rfl ?_)
         | (show EL _ _ _ _ (⟨_, .binOp .neq _ _ _ _, _, _, _, _⟩ :: _) _ _; refine EL.fT (FV.neq rfl rfl) rfl (fun _ => rfl) (by omega) ?_))
      | refine EL.nil ?_
      | refine EW.seq ?_
      | refine EW.region ?_
      | refine EW.ret ?_
      | refine EW.condT rfl ?_)
    exact ⟨_, rfl, by rw [decide_eq_false]; intro h; exact hl (by rw [h]), Ext.refl w⟩

theorem specSame (A B : Option Addr) (c e : Nat) (xs ys : List Int) (w : World) (hx : Rd w A (ints xs)) (hy : Rd w B (ints ys)) (hn : xs.length ≤ 1048576) :
    CallsR Try.prog 65 [.slice A xs.length c, .slice B ys.length e] w fun v w' => v = .bool (decide (xs = ys)) ∧ Ext w w' := by
  refine CallsR.enter Try.func65 (by decide +kernel) rfl Try.ntmps65 rfl ?_
  by_cases hl : xs.length = ys.length
  · repeat' (first
      | (show EL _ _ _ _ (_ :: _) _ _
         first
         | (show EL _ _ _ _ (⟨_, .move _, _, _, _, _⟩ :: _) _ _; refine EL.f (FV.move rfl) rfl rfl ?_)
         | (show EL _ _ _ _ (⟨_, .assign _, _, _, _, _⟩ :: _) _ _; refine EL.f (FV.assign rfl) rfl rfl ?_)
         | (show EL _ _ _ _ (⟨_, .call _, _, _, _, _⟩ :: _) _ _; refine EL.f (FV.len rfl rfl) rfl rfl ?_)
         | (show EL _ _ _ _ (⟨_, .binOp .neq _ _ _ _, _, _, _, _⟩ :: _) _ _; refine EL.fF (FV.neq rfl rfl) rfl (fun _ => rfl) (by omega) ?_))
      | refine EL.nil ?_
      | refine EW.seq ?_
      | refine EW.region ?_
      | refine EW.block ?_
      | refine EW.skip ?_
      | refine EW.condF rfl ?_)
    refine EW.loop (fun k wr => k ≤ xs.length ∧ (∀ i, i < k → xs.getD i 0 = ys.getD i 0) ∧ Ext w wr) (fun k => [(0, .slice A xs.length c), (1, .slice B ys.length e), (5, .int .i64 k)]) (fun k => xs.length - k) 0 ⟨Nat.zero_le _, fun i h => absurd h (Nat.not_lt_zero _), Ext.refl w⟩ ⟨rfl, rfl, rfl, trivial⟩ ?_
    rintro k wr ⟨hk, heq, he⟩
    by_cases hlt : k < xs.length
    · obtain ⟨b, o, rfl, hc⟩ := hx.int hlt
      obtain ⟨b2, o2, rfl, hc2⟩ := hy.int (show k < ys.length by omega)
      repeat' (first
        | refine EL.f (FV.move rfl) rfl rfl ?_
        | refine EL.f (FV.len rfl rfl) rfl rfl ?_
        | refine EL.fT (FV.lss rfl rfl) rfl (fun _ => rfl) (by omega) ?_
        | refine EL.nil ?_
        | refine EW.seq ?_
        | refine EW.region ?_
        | refine EW.block ?_
        | refine EW.skip ?_
        | refine EW.condT rfl ?_)
      refine EW.draw (fun w' => Ext wr w') (pl 0 9) mixed (by decide +kernel) (Ext.drew _) ?_
      repeat' (first
        | refine EP.f rfl (FV.load rfl rfl rfl (fun w' h' => (he.trans h').cell hc)) rfl rfl ?_
        | refine EP.f rfl (FV.load rfl rfl rfl (fun w' h' => (he.trans h').cell hc2)) rfl rfl ?_
        | refine EP.f rfl (FV.neq rfl rfl) rfl rfl ?_
        | refine EP.nil ?_
        | refine EP.f rfl (FV.move rfl) rfl rfl ?_
        | refine EP.f rfl (FV.idx1 rfl rfl rfl rfl (by omega) (by omega)) rfl rfl ?_)
      refine EW.condP rfl (fun hne => ?_) (fun hne => ?_)
      · repeat' (first
          | refine EL.f (FV.assign rfl) rfl rfl ?_
          | refine EL.nil ?_
          | refine EW.seq ?_
          | refine EW.region ?_
          | refine EW.ret ?_)
        exact ⟨_, rfl, by rw [decide_eq_false]; intro h; exact hne (by rw [h]), he.trans (Ext.drew _)⟩
      · repeat' (first
          | refine EL.f (FV.move rfl) rfl rfl ?_
          | refine EL.f (FV.assign rfl) rfl rfl ?_
          | refine EL.f (FV.addI rfl rfl (by omega)) rfl rfl ?_
          | refine EL.nil ?_
          | refine EW.region ?_
          | refine EW.skip ?_)
        refine ⟨k + 1, ⟨rfl, rfl, rfl, trivial⟩, ⟨by omega, fun i hi => ?_, he.trans (Ext.drew _)⟩, by omega⟩
        by_cases hik : i = k
        · subst hik; exact Decidable.not_not.1 hne
        · exact heq i (by omega)
    · obtain rfl : k = xs.length := by omega
      repeat' (first
        | (show EL _ _ _ _ (_ :: _) _ _
           first
           | (show EL _ _ _ _ (⟨_, .move _, _, _, _, _⟩ :: _) _ _; refine EL.f (FV.move rfl) rfl rfl ?_)
           | (show EL _ _ _ _ (⟨_, .assign _, _, _, _, _⟩ :: _) _ _; refine EL.f (FV.assign rfl) rfl rfl ?_)
           | (show EL _ _ _ _ (⟨_, .call _, _, _, _, _⟩ :: _) _ _; refine EL.f (FV.len rfl rfl) rfl rfl ?_)
           | (show EL _ _ _ _ (⟨_, .binOp .lss _ _ _ _, _, _, _, _⟩ :: _) _ _; refine EL.fF (FV.lss rfl rfl) rfl (fun _ => rfl) (by omega) ?_))
        | refine EL.nil ?_
        | refine EW.seq ?_
        | refine EW.region ?_
        | refine EW.exit ?_
        | refine EW.ret ?_
        | refine EW.condF rfl ?_)
      exact ⟨_, rfl, by rw [decide_eq_true (list_same hl heq)], he⟩
  · repeat' (first
      | (show EL _ _ _ _ (_ :: _) _ _
         first
         | (show EL _ _ _ _ (⟨_, .move _, _, _, _, _⟩ :: _) _ _; refine EL.f (FV.move rfl) rfl rfl ?_)
         | (show EL _ _ _ _ (⟨_, .assign _, _, _, _, _⟩ :: _) _ _; refine EL.f (FV.assign rfl) rfl rfl ?_)
         | (show EL _ _ _ _ (⟨_, .call _, _, _, _, _⟩ :: _) _ _; refine EL.f (FV.len rfl rfl) rfl rfl ?_)
         | (show EL _ _ _ _ (⟨_, .binOp .neq _ _ _ _, _, _, _, _⟩ :: _) _ _; refine EL.fT (FV.neq rfl rfl) rfl (fun _ => rfl) (by omega) ?_))
      | refine EL.nil ?_
      | refine EW.seq ?_
      | refine EW.region ?_
      | refine EW.ret ?_
      | refine EW.condT rfl ?_)
    exact ⟨_, rfl, by rw [decide_eq_false]; intro h; exact hl (by rw [h]), Ext.refl w⟩

theorem equalIns (A B : Option Addr) (c e : Nat) (xs ys : List Ins) (w : World) (hx : Rd w A (insL xs)) (hy : Rd w B (insL ys)) (hn : xs.length ≤ 1048576) :
    CallsR Try.prog 68 [.slice A xs.length c, .slice B ys.length e] w fun v w' => v = .bool (decide (xs = ys)) ∧ Ext w w' := by
  refine CallsR.enter Try.func68 (by decide +kernel) rfl Try.ntmps68 rfl ?_
  by_cases hl : xs.length = ys.length
  · repeat' (first
      | (show EL _ _ _ _ (_ :: _) _ _
         first
         | (show EL _ _ _ _ (⟨_, .move _, _, _, _, _⟩ :: _) _ _; refine EL.f (FV.move rfl) rfl rfl ?_)
         | (show EL _ _ _ _ (⟨_, .assign _, _, _, _, _⟩ :: _) _ _; refine EL.f (FV.assign rfl) rfl rfl ?_)
         | (show EL _ _ _ _ (⟨_, .call _, _, _, _, _⟩ :: _) _ _; refine EL.f (FV.len rfl rfl) rfl rfl ?_)
         | (show EL _ _ _ _ (⟨_, .binOp .neq _ _ _ _, _, _, _, _⟩ :: _) _ _; refine EL.fF (FV.neq rfl rfl) rfl (fun _ => rfl) (by omega) ?_))
      | refine EL.nil ?_
      | refine EW.seq ?_
      | refine EW.region ?_
      | refine EW.block ?_
      | refine EW.skip ?_
      | refine EW.condF rfl ?_)
    refine EW.loop (fun k wr => k ≤ xs.length ∧ (∀ i, i < k → xs.getD i dIns = ys.getD i dIns) ∧ Ext w wr) (fun k => [(0, .slice A xs.length c), (1, .slice B ys.length e), (12, .int .i64 xs.length), (13, .int .i64 k)]) (fun k => xs.length - k) 0 ⟨Nat.zero_le _, fun i h => absurd h (Nat.not_lt_zero _), Ext.refl w⟩ ⟨rfl, rfl, rfl, rfl, trivial⟩ ?_
    rintro k wr ⟨hk, heq, he⟩
    by_cases hlt : k < xs.length
    · obtain ⟨b, o, rfl, hc⟩ := Rd.elem insV_length (by decide) dIns (hx.ext he) hlt
      obtain ⟨b2, o2, rfl, hd⟩ := Rd.elem insV_length (by decide) dIns (hy.ext he) (show k < ys.length by omega)
      repeat' (first
        | refine EL.f (FV.move rfl) rfl rfl ?_
        | refine EL.f (FV.assign rfl) rfl rfl ?_
        | refine EL.fT (FV.lss rfl rfl) rfl (fun _ => rfl) (by omega) ?_
        | refine EL.nil ?_
        | refine EW.seq ?_
        | refine EW.region ?_
        | refine EW.block ?_
        | refine EW.skip ?_
        | refine EW.condT rfl ?_)
      refine EW.draw (fun w' => Ext wr w') (pl 0 9) mixed (by decide +kernel) (Ext.drew _) ?_
      repeat' (first
        | refine EP.f rfl (FV.idx rfl rfl rfl rfl (by omega) (by omega)) rfl rfl ?_
        | refine EP.f rfl (FV.loadAgg (cs := insV (xs.getD k dIns)) rfl rfl rfl rfl rfl (fun _ h' => hc.ext h')) rfl rfl ?_
        | refine EP.f rfl (FV.loadAgg (cs := insV (ys.getD k dIns)) rfl rfl rfl rfl rfl (fun _ h' => hd.ext h')) rfl rfl ?_
        | refine EP.f rfl (FV.neIns rfl rfl) rfl rfl ?_
        | refine EP.nil ?_
        | refine EP.f rfl (FV.move rfl) rfl rfl ?_)
      refine EW.condP rfl (fun hne => ?_) (fun hne => ?_)
      · repeat' (first
          | refine EL.f (FV.assign rfl) rfl rfl ?_
          | refine EL.nil ?_
          | refine EW.seq ?_
          | refine EW.region ?_
          | refine EW.ret ?_)
        exact ⟨_, rfl, by rw [decide_eq_false]; intro h; exact hne (by rw [h]), he.trans (Ext.drew _)⟩
      · repeat' (first
          | refine EL.f (FV.move rfl) rfl rfl ?_
          | refine EL.f (FV.addI rfl rfl (by omega)) rfl rfl ?_
          | refine EL.nil ?_
          | refine EW.region ?_
          | refine EW.skip ?_)
        refine ⟨k + 1, ⟨rfl, rfl, rfl, rfl, trivial⟩, ⟨by omega, fun i hi => ?_, he.trans (Ext.drew _)⟩, by omega⟩
        by_cases hik : i = k
        · subst hik; exact Decidable.not_not.1 hne
        · exact heq i (by omega)
    · obtain rfl : k = xs.length := by omega
      repeat' (first
        | refine EL.f (FV.assign rfl) rfl rfl ?_
        | refine EL.fF (FV.lss rfl rfl) rfl (fun _ => rfl) (by omega) ?_
        | refine EL.nil ?_
        | refine EW.seq ?_
        | refine EW.region ?_
        | refine EW.exit ?_
        | refine EW.ret ?_
        | refine EW.condF rfl ?_)
      exact ⟨_, rfl, by rw [decide_eq_true (list_same hl heq)], he⟩
  · repeat' (first
      | (show EL _ _ _ _ (_ :: _) _ _
         first
         | (show EL _ _ _ _ (⟨_, .move _, _, _, _, _⟩ :: _) _ _; refine EL.f (FV.move rfl) rfl rfl ?_)
         | (show EL _ _ _ _ (⟨_, .assign _, _, _, _, _⟩ :: _) _ _; refine EL.f (FV.assign rfl) rfl rfl ?_)
         | (show EL _ _ _ _ (⟨_, .call _, _, _, _, _⟩ :: _) _ _; refine EL.f (FV.len rfl rfl) rfl rfl ?_)
         | (show EL _ _ _ _ (⟨_, .binOp .neq _ _ _ _, _, _, _, _⟩ :: _) _ _; refine EL.fT (FV.neq rfl rfl) rfl (fun _ => rfl) (by omega) ?_))
      | refine EL.nil ?_
      | refine EW.seq ?_
      | refine EW.region ?_
      | refine EW.ret ?_
      | refine EW.condT rfl ?_)
    exact ⟨_, rfl, by rw [decide_eq_false]; intro h; exact hl (by rw [h]), Ext.refl w⟩

theorem equalGds (A B : Option Addr) (c e : Nat) (xs ys : List Gd) (w : World) (hx : Rd w A (gdL xs)) (hy : Rd w B (gdL ys)) (hn : xs.length ≤ 1048576) :
    CallsR Try.prog 69 [.slice A xs.length c, .slice B ys.length e] w fun v w' => v = .bool (decide (xs = ys)) ∧ Ext w w' := by
  refine CallsR.enter Try.func69 (by decide +kernel) rfl Try.ntmps69 rfl ?_
  by_cases hl : xs.length = ys.length
  · repeat' (first
      | (show EL _ _ _ _ (_ :: _) _ _
         first
         | (show EL _ _ _ _ (⟨_, .move _, _, _, _, _⟩ :: _) _ _; refine EL.f (FV.move rfl) rfl rfl ?_)
         | (show EL _ _ _ _ (⟨_, .assign _, _, _, _, _⟩ :: _) _ _; refine EL.f (FV.assign rfl) rfl rfl ?_)
         | (show EL _ _ _ _ (⟨_, .call _, _, _, _, _⟩ :: _) _ _; refine EL.f (FV.len rfl rfl) rfl rfl ?_)
         | (show EL _ _ _ _ (⟨_, .binOp .neq _ _ _ _, _, _, _, _⟩ :: _) _ _; refine EL.fF (FV.neq rfl rfl) rfl (fun _ => rfl) (by omega) ?_))
      | refine EL.nil ?_
      | refine EW.seq ?_
      | refine EW.region ?_
      | refine EW.block ?_
      | refine EW.skip ?_
      | refine EW.condF rfl ?_)
    refine EW.loop (fun k wr => k ≤ xs.length ∧ (∀ i, i < k → xs.getD i dGd = ys.getD i dGd) ∧ Ext w wr) (fun k => [(0, .slice A xs.length c), (1, .slice B ys.length e), (12, .int .i64 xs.length), (13, .int .i64 k)]) (fun k => xs.length - k) 0 ⟨Nat.zero_le _, fun i h => absurd h (Nat.not_lt_zero _), Ext.refl w⟩ ⟨rfl, rfl, rfl, rfl, trivial⟩ ?_
    rintro k wr ⟨hk, heq, he⟩
    by_cases hlt : k < xs.length
    · obtain ⟨b, o, rfl, hc⟩ := Rd.elem gdV_length (by decide) dGd (hx.ext he) hlt
      obtain ⟨b2, o2, rfl, hd⟩ := Rd.elem gdV_length (by decide) dGd (hy.ext he) (show k < ys.length by omega)
      repeat' (first
        | refine EL.f (FV.move rfl) rfl rfl ?_
        | refine EL.f (FV.assign rfl) rfl rfl ?_
        | refine EL.fT (FV.lss rfl rfl) rfl (fun _ => rfl) (by omega) ?_
        | refine EL.nil ?_
        | refine EW.seq ?_
        | refine EW.region ?_
        | refine EW.block ?_
        | refine EW.skip ?_
        | refine EW.condT rfl ?_)
      refine EW.draw (fun w' => Ext wr w') (pl 0 9) mixed (by decide +kernel) (Ext.drew _) ?_
      repeat' (first
        | refine EP.f rfl (FV.idx rfl rfl rfl rfl (by omega) (by omega)) rfl rfl ?_
        | refine EP.f rfl (FV.loadAgg (cs := gdV (xs.getD k dGd)) rfl rfl rfl rfl rfl (fun _ h' => hc.ext h')) rfl rfl ?_
        | refine EP.f rfl (FV.loadAgg (cs := gdV (ys.getD k dGd)) rfl rfl rfl rfl rfl (fun _ h' => hd.ext h')) rfl rfl ?_
        | refine EP.f rfl (FV.neGd rfl rfl) rfl rfl ?_
        | refine EP.nil ?_
        | refine EP.f rfl (FV.move rfl) rfl rfl ?_)
      refine EW.condP rfl (fun hne => ?_) (fun hne => ?_)
      · repeat' (first
          | refine EL.f (FV.assign rfl) rfl rfl ?_
          | refine EL.nil ?_
          | refine EW.seq ?_
          | refine EW.region ?_
          | refine EW.ret ?_)
        exact ⟨_, rfl, by rw [decide_eq_false]; intro h; exact hne (by rw [h]), he.trans (Ext.drew _)⟩
      · repeat' (first
          | refine EL.f (FV.move rfl) rfl rfl ?_
          | refine EL.f (FV.addI rfl rfl (by omega)) rfl rfl ?_
          | refine EL.nil ?_
          | refine EW.region ?_
          | refine EW.skip ?_)
        refine ⟨k + 1, ⟨rfl, rfl, rfl, rfl, trivial⟩, ⟨by omega, fun i hi => ?_, he.trans (Ext.drew _)⟩, by omega⟩
        by_cases hik : i = k
        · subst hik; exact Decidable.not_not.1 hne
        · exact heq i (by omega)
    · obtain rfl : k = xs.length := by omega
      repeat' (first
        | refine EL.f (FV.assign rfl) rfl rfl ?_
        | refine EL.fF (FV.lss rfl rfl) rfl (fun _ => rfl) (by omega) ?_
        | refine EL.nil ?_
        | refine EW.seq ?_
        | refine EW.region ?_
        | refine EW.exit ?_
        | refine EW.ret ?_
        | refine EW.condF rfl ?_)
      exact ⟨_, rfl, by rw [decide_eq_true (list_same hl heq)], he⟩
  · repeat' (first
      | (show EL _ _ _ _ (_ :: _) _ _
         first
         | (show EL _ _ _ _ (⟨_, .move _, _, _, _, _⟩ :: _) _ _; refine EL.f (FV.move rfl) rfl rfl ?_)
         | (show EL _ _ _ _ (⟨_, .assign _, _, _, _, _⟩ :: _) _ _; refine EL.f (FV.assign rfl) rfl rfl ?_)
         | (show EL _ _ _ _ (⟨_, .call _, _, _, _, _⟩ :: _) _ _; refine EL.f (FV.len rfl rfl) rfl rfl ?_)
         | (show EL _ _ _ _ (⟨_, .binOp .neq _ _ _ _, _, _, _, _⟩ :: _) _ _; refine EL.fT (FV.neq rfl rfl) rfl (fun _ => rfl) (by omega) ?_))
      | refine EL.nil ?_
      | refine EW.seq ?_
      | refine EW.region ?_
      | refine EW.ret ?_
      | refine EW.condT rfl ?_)
    exact ⟨_, rfl, by rw [decide_eq_false]; intro h; exact hl (by rw [h]), Ext.refl w⟩

/-- Two tapes alike. -/
def sameT (a b : Tp) : Prop := a.inputs = b.inputs ∧ a.code = b.code ∧ a.guards = b.guards ∧ a.outs = b.outs
instance (a b : Tp) : Decidable (sameT a b) := inferInstanceAs (Decidable (_ ∧ _ ∧ _ ∧ _))
/-- No row longer than the verifier's budget. -/
structure Fit (t : Tp) : Prop where
  c : t.code.length ≤ 1048576
  g : t.guards.length ≤ 1048576
  o : t.outs.length ≤ 1048576
theorem implSame (v u : Value) (a b : Tp) (w : World) (h : TapeV w v a) (h' : TapeV w u b) (na : Fit a) (_nb : Fit b) :
    CallsR Try.prog 21 [v, u] w fun r w' => r = .bool (decide (sameT a b)) ∧ Ext w w' := by
  obtain ⟨A, c, B, d, C, e, rfl, r1, r2, r3⟩ := h
  obtain ⟨A', c', B', d', C', e', rfl, q1, q2, q3⟩ := h'
  refine CallsR.enter Try.func21 (by decide +kernel) rfl Try.ntmps21 rfl ?_
  repeat' (first
    | refine EW.seq ?_
    | refine EW.region ?_)
  refine EL.h (Hv.boxA (sz := 4) rfl rfl) rfl (fun _ => rfl) ?_
  rintro _ w1 ⟨g1, rfl, hg1, hb, he1⟩
  skip
  refine EL.h (Hv.boxA (sz := 4) rfl rfl) rfl (fun _ => rfl) ?_
  rintro _ w2 ⟨g2, rfl, hg2, hc, he2⟩
  replace hb := At.ext hb he2
  have hw2 := he1.trans he2
  by_cases k1 : a.inputs = b.inputs
  · repeat' (first
      | (show EL _ _ _ _ (_ :: _) _ _
         first
         | (show EL _ _ _ _ (⟨_, .fieldAddr _ _ _, _, _, _, _⟩ :: _) _ _; refine EL.f (FV.fieldAddr rfl rfl rfl rfl rfl) rfl rfl ?_)
         | (show EL _ _ _ _ (⟨_, .load _ _, _, _, _, _⟩ :: _) _ _; first | refine EL.f (FV.load1 rfl rfl rfl (At.cell hb rfl)) rfl rfl ?_ | refine EL.f (FV.load1 rfl rfl rfl (At.cell hc rfl)) rfl rfl ?_)
         | (show EL _ _ _ _ (⟨_, .move _, _, _, _, _⟩ :: _) _ _; refine EL.f (FV.move rfl) rfl rfl ?_)
         | (show EL _ _ _ _ (⟨_, .assign _, _, _, _, _⟩ :: _) _ _; refine EL.f (FV.assign rfl) rfl rfl ?_)
         | (show EL _ _ _ _ (⟨_, .binOp .eql _ _ _ _, _, _, _, _⟩ :: _) _ _; refine EL.fT (FV.eql rfl rfl) rfl (fun _ => rfl) (by omega) ?_))
      | refine EL.nil ?_
      | refine EW.seq ?_
      | refine EW.region ?_)
    refine EL.h (Hv.call (equalIns _ _ _ _ _ _ w2 (r1.ext hw2) (q1.ext hw2) na.c) rfl) rfl (fun _ => rfl) ?_
    rintro _ w3 ⟨rfl, he3⟩
    replace hb := At.ext hb he3
    replace hc := At.ext hc he3
    have hw3 := hw2.trans he3
    by_cases k2 : a.code = b.code
    · rw [decide_eq_true k2]
      repeat' (first
        | (show EL _ _ _ _ (_ :: _) _ _
           first
           | (show EL _ _ _ _ (⟨_, .fieldAddr _ _ _, _, _, _, _⟩ :: _) _ _; refine EL.f (FV.fieldAddr rfl rfl rfl rfl rfl) rfl rfl ?_)
           | (show EL _ _ _ _ (⟨_, .load _ _, _, _, _, _⟩ :: _) _ _; first | refine EL.f (FV.load1 rfl rfl rfl (At.cell hb rfl)) rfl rfl ?_ | refine EL.f (FV.load1 rfl rfl rfl (At.cell hc rfl)) rfl rfl ?_)
           | (show EL _ _ _ _ (⟨_, .move _, _, _, _, _⟩ :: _) _ _; refine EL.f (FV.move rfl) rfl rfl ?_)
           | (show EL _ _ _ _ (⟨_, .pick _ _ _, _, _, _, _⟩ :: _) _ _; refine EL.f (FV.pickT rfl rfl) rfl rfl ?_)))
      refine EL.h (Hv.call (equalGds _ _ _ _ _ _ w3 (r2.ext hw3) (q2.ext hw3) na.g) rfl) rfl (fun _ => rfl) ?_
      rintro _ w4 ⟨rfl, he4⟩
      replace hb := At.ext hb he4
      replace hc := At.ext hc he4
      have hw4 := hw3.trans he4
      by_cases k3 : a.guards = b.guards
      · rw [decide_eq_true k3]
        repeat' (first
          | (show EL _ _ _ _ (_ :: _) _ _
             first
             | (show EL _ _ _ _ (⟨_, .fieldAddr _ _ _, _, _, _, _⟩ :: _) _ _; refine EL.f (FV.fieldAddr rfl rfl rfl rfl rfl) rfl rfl ?_)
             | (show EL _ _ _ _ (⟨_, .load _ _, _, _, _, _⟩ :: _) _ _; first | refine EL.f (FV.load1 rfl rfl rfl (At.cell hb rfl)) rfl rfl ?_ | refine EL.f (FV.load1 rfl rfl rfl (At.cell hc rfl)) rfl rfl ?_)
             | (show EL _ _ _ _ (⟨_, .move _, _, _, _, _⟩ :: _) _ _; refine EL.f (FV.move rfl) rfl rfl ?_)
             | (show EL _ _ _ _ (⟨_, .pick _ _ _, _, _, _, _⟩ :: _) _ _; refine EL.f (FV.pickT rfl rfl) rfl rfl ?_)))
        refine EL.h (Hv.call (equalInts _ _ _ _ _ _ w4 (r3.ext hw4) (q3.ext hw4) na.o) rfl) rfl (fun _ => rfl) ?_
        rintro _ w5 ⟨rfl, he5⟩
        repeat' (first
          | refine EL.f (FV.assign rfl) rfl rfl ?_
          | refine EL.f (FV.pickT rfl rfl) rfl rfl ?_
          | refine EL.nil ?_
          | refine EW.ret ?_)
        exact ⟨_, rfl, by simp [sameT, k1, k2, k3], hw4.trans he5⟩
      · rw [decide_eq_false k3]
        repeat' (first
          | (show EL _ _ _ _ (_ :: _) _ _
             first
             | (show EL _ _ _ _ (⟨_, _, _, _, _, some _⟩ :: _) _ _; refine EL.skip rfl rfl ?_)
             | (show EL _ _ _ _ (⟨_, .move _, _, _, _, _⟩ :: _) _ _; refine EL.f (FV.move rfl) rfl rfl ?_)
             | (show EL _ _ _ _ (⟨_, .assign _, _, _, _, _⟩ :: _) _ _; refine EL.f (FV.assign rfl) rfl rfl ?_)
             | (show EL _ _ _ _ (⟨_, .pick _ _ _, _, _, _, _⟩ :: _) _ _; first | refine EL.f (FV.pickT rfl rfl) rfl rfl ?_ | refine EL.f (FV.pickF rfl rfl) rfl rfl ?_))
          | refine EL.nil ?_
          | refine EW.ret ?_)
        exact ⟨_, rfl, by simp [sameT, k3], hw4⟩
    · rw [decide_eq_false k2]
      repeat' (first
        | (show EL _ _ _ _ (_ :: _) _ _
           first
           | (show EL _ _ _ _ (⟨_, _, _, _, _, some _⟩ :: _) _ _; refine EL.skip rfl rfl ?_)
           | (show EL _ _ _ _ (⟨_, .move _, _, _, _, _⟩ :: _) _ _; refine EL.f (FV.move rfl) rfl rfl ?_)
           | (show EL _ _ _ _ (⟨_, .assign _, _, _, _, _⟩ :: _) _ _; refine EL.f (FV.assign rfl) rfl rfl ?_)
           | (show EL _ _ _ _ (⟨_, .pick _ _ _, _, _, _, _⟩ :: _) _ _; first | refine EL.f (FV.pickT rfl rfl) rfl rfl ?_ | refine EL.f (FV.pickF rfl rfl) rfl rfl ?_))
        | refine EL.nil ?_
        | refine EW.ret ?_)
      exact ⟨_, rfl, by simp [sameT, k2], hw3⟩
  · repeat' (first
      | (show EL _ _ _ _ (_ :: _) _ _
         first
         | (show EL _ _ _ _ (⟨_, _, _, _, _, some _⟩ :: _) _ _; refine EL.skip rfl rfl ?_)
         | (show EL _ _ _ _ (⟨_, .fieldAddr _ _ _, _, _, _, _⟩ :: _) _ _; refine EL.f (FV.fieldAddr rfl rfl rfl rfl rfl) rfl rfl ?_)
         | (show EL _ _ _ _ (⟨_, .load _ _, _, _, _, _⟩ :: _) _ _; first | refine EL.f (FV.load1 rfl rfl rfl (At.cell hb rfl)) rfl rfl ?_ | refine EL.f (FV.load1 rfl rfl rfl (At.cell hc rfl)) rfl rfl ?_)
         | (show EL _ _ _ _ (⟨_, .move _, _, _, _, _⟩ :: _) _ _; refine EL.f (FV.move rfl) rfl rfl ?_)
         | (show EL _ _ _ _ (⟨_, .assign _, _, _, _, _⟩ :: _) _ _; refine EL.f (FV.assign rfl) rfl rfl ?_)
         | (show EL _ _ _ _ (⟨_, .pick _ _ _, _, _, _, _⟩ :: _) _ _; refine EL.f (FV.pickF rfl rfl) rfl rfl ?_)
         | (show EL _ _ _ _ (⟨_, .binOp .eql _ _ _ _, _, _, _, _⟩ :: _) _ _; refine EL.fF (FV.eql rfl rfl) rfl (fun _ => rfl) (by omega) ?_))
      | refine EL.nil ?_
      | refine EW.seq ?_
      | refine EW.region ?_
      | refine EW.ret ?_)
    exact ⟨_, rfl, by simp [sameT, k1], hw2⟩

set_option maxHeartbeats 4000000 in
theorem specSameT (v u : Value) (a b : Tp) (w : World) (h : TapeV w v a) (h' : TapeV w u b) (na : Fit a) (nb : Fit b) :
    CallsR Try.prog 19 [v, u] w fun r w' => r = .bool (decide (sameT a b)) ∧ Ext w w' := by
  obtain ⟨A, c, B, d, C, e, rfl, r1, r2, r3⟩ := h
  obtain ⟨A', c', B', d', C', e', rfl, q1, q2, q3⟩ := h'
  have na1 := na.c
  have na2 := na.g
  have nb1 := nb.c
  have nb2 := nb.g
  refine CallsR.enter Try.func19 (by decide +kernel) rfl Try.ntmps19 rfl ?_
  repeat' (first
    | refine EW.seq ?_
    | refine EW.region ?_)
  refine EL.h (Hv.boxA (sz := 4) rfl rfl) rfl (fun _ => rfl) ?_
  rintro _ w1 ⟨g1, rfl, hg1, hb, he1⟩
  skip
  refine EL.h (Hv.boxA (sz := 4) rfl rfl) rfl (fun _ => rfl) ?_
  rintro _ w2 ⟨g2, rfl, hg2, hc, he2⟩
  replace hb := At.ext hb he2
  have hw2 := he1.trans he2
  by_cases k1 : a.inputs = b.inputs
  rotate_left
  · repeat' (first
      | (show EL _ _ _ _ (_ :: _) _ _
         first
         | (show EL _ _ _ _ (⟨_, _, _, _, _, some _⟩ :: _) _ _; refine EL.skip rfl rfl ?_)
         | (show EL _ _ _ _ (⟨_, .fieldAddr _ _ _, _, _, _, _⟩ :: _) _ _; refine EL.f (FV.fieldAddr rfl rfl rfl rfl rfl) rfl rfl ?_)
         | (show EL _ _ _ _ (⟨_, .load _ _, _, _, _, _⟩ :: _) _ _; first | refine EL.f (FV.load1 rfl rfl rfl (At.cell hb rfl)) rfl rfl ?_ | refine EL.f (FV.load1 rfl rfl rfl (At.cell hc rfl)) rfl rfl ?_)
         | (show EL _ _ _ _ (⟨_, .move _, _, _, _, _⟩ :: _) _ _; refine EL.f (FV.move rfl) rfl rfl ?_)
         | (show EL _ _ _ _ (⟨_, .assign _, _, _, _, _⟩ :: _) _ _; refine EL.f (FV.assign rfl) rfl rfl ?_)
         | (show EL _ _ _ _ (⟨_, .pick _ _ _, _, _, _, _⟩ :: _) _ _; refine EL.f (FV.pickT rfl rfl) rfl rfl ?_)
         | (show EL _ _ _ _ (⟨_, .binOp .neq _ _ _ _, _, _, _, _⟩ :: _) _ _; refine EL.fT (FV.neq rfl rfl) rfl (fun _ => rfl) (by omega) ?_))
      | refine EL.nil ?_
      | refine EW.seq ?_
      | refine EW.region ?_
      | refine EW.ret ?_
      | refine EW.condT rfl ?_)
    exact ⟨_, rfl, by simp [sameT, k1], hw2⟩
  by_cases k2 : a.code.length = b.code.length
  rotate_left
  · repeat' (first
      | (show EL _ _ _ _ (_ :: _) _ _
         first
         | (show EL _ _ _ _ (⟨_, _, _, _, _, some _⟩ :: _) _ _; refine EL.skip rfl rfl ?_)
         | (show EL _ _ _ _ (⟨_, .fieldAddr _ _ _, _, _, _, _⟩ :: _) _ _; refine EL.f (FV.fieldAddr rfl rfl rfl rfl rfl) rfl rfl ?_)
         | (show EL _ _ _ _ (⟨_, .load _ _, _, _, _, _⟩ :: _) _ _; first | refine EL.f (FV.load1 rfl rfl rfl (At.cell hb rfl)) rfl rfl ?_ | refine EL.f (FV.load1 rfl rfl rfl (At.cell hc rfl)) rfl rfl ?_)
         | (show EL _ _ _ _ (⟨_, .move _, _, _, _, _⟩ :: _) _ _; refine EL.f (FV.move rfl) rfl rfl ?_)
         | (show EL _ _ _ _ (⟨_, .assign _, _, _, _, _⟩ :: _) _ _; refine EL.f (FV.assign rfl) rfl rfl ?_)
         | (show EL _ _ _ _ (⟨_, .call _, _, _, _, _⟩ :: _) _ _; refine EL.f (FV.len rfl rfl) rfl rfl ?_)
         | (show EL _ _ _ _ (⟨_, .pick _ _ _, _, _, _, _⟩ :: _) _ _; first | refine EL.f (FV.pickT rfl rfl) rfl rfl ?_ | refine EL.f (FV.pickF rfl rfl) rfl rfl ?_)
         | (show EL _ _ _ _ (⟨_, .binOp .neq _ _ _ _, _, _, _, _⟩ :: _) _ _; first | refine EL.fT (FV.neq rfl rfl) rfl (fun _ => rfl) (by omega) ?_ | refine EL.fF (FV.neq rfl rfl) rfl (fun _ => rfl) (by omega) ?_))
      | refine EL.nil ?_
      | refine EW.seq ?_
      | refine EW.region ?_
      | refine EW.ret ?_
      | refine EW.condT rfl ?_)
    refine ⟨_, rfl, ?_, hw2⟩
    rw [decide_eq_false]
    rintro ⟨_, z1, _, _⟩
    exact k2 (by rw [z1])
  by_cases k3 : a.guards.length = b.guards.length
  rotate_left
  · repeat' (first
      | (show EL _ _ _ _ (_ :: _) _ _
         first
         | (show EL _ _ _ _ (⟨_, _, _, _, _, some _⟩ :: _) _ _; refine EL.skip rfl rfl ?_)
         | (show EL _ _ _ _ (⟨_, .fieldAddr _ _ _, _, _, _, _⟩ :: _) _ _; refine EL.f (FV.fieldAddr rfl rfl rfl rfl rfl) rfl rfl ?_)
         | (show EL _ _ _ _ (⟨_, .load _ _, _, _, _, _⟩ :: _) _ _; first | refine EL.f (FV.load1 rfl rfl rfl (At.cell hb rfl)) rfl rfl ?_ | refine EL.f (FV.load1 rfl rfl rfl (At.cell hc rfl)) rfl rfl ?_)
         | (show EL _ _ _ _ (⟨_, .move _, _, _, _, _⟩ :: _) _ _; refine EL.f (FV.move rfl) rfl rfl ?_)
         | (show EL _ _ _ _ (⟨_, .assign _, _, _, _, _⟩ :: _) _ _; refine EL.f (FV.assign rfl) rfl rfl ?_)
         | (show EL _ _ _ _ (⟨_, .call _, _, _, _, _⟩ :: _) _ _; refine EL.f (FV.len rfl rfl) rfl rfl ?_)
         | (show EL _ _ _ _ (⟨_, .pick _ _ _, _, _, _, _⟩ :: _) _ _; first | refine EL.f (FV.pickT rfl rfl) rfl rfl ?_ | refine EL.f (FV.pickF rfl rfl) rfl rfl ?_)
         | (show EL _ _ _ _ (⟨_, .binOp .neq _ _ _ _, _, _, _, _⟩ :: _) _ _; first | refine EL.fT (FV.neq rfl rfl) rfl (fun _ => rfl) (by omega) ?_ | refine EL.fF (FV.neq rfl rfl) rfl (fun _ => rfl) (by omega) ?_))
      | refine EL.nil ?_
      | refine EW.seq ?_
      | refine EW.region ?_
      | refine EW.ret ?_
      | refine EW.condT rfl ?_)
    refine ⟨_, rfl, ?_, hw2⟩
    rw [decide_eq_false]
    rintro ⟨_, _, z1, _⟩
    exact k3 (by rw [z1])
  repeat' (first
    | (show EL _ _ _ _ (_ :: _) _ _
       first
       | (show EL _ _ _ _ (⟨_, .fieldAddr _ _ _, _, _, _, _⟩ :: _) _ _; refine EL.f (FV.fieldAddr rfl rfl rfl rfl rfl) rfl rfl ?_)
       | (show EL _ _ _ _ (⟨_, .load _ _, _, _, _, _⟩ :: _) _ _; first | refine EL.f (FV.load1 rfl rfl rfl (At.cell hb rfl)) rfl rfl ?_ | refine EL.f (FV.load1 rfl rfl rfl (At.cell hc rfl)) rfl rfl ?_)
       | (show EL _ _ _ _ (⟨_, .move _, _, _, _, _⟩ :: _) _ _; refine EL.f (FV.move rfl) rfl rfl ?_)
       | (show EL _ _ _ _ (⟨_, .assign _, _, _, _, _⟩ :: _) _ _; refine EL.f (FV.assign rfl) rfl rfl ?_)
       | (show EL _ _ _ _ (⟨_, .call _, _, _, _, _⟩ :: _) _ _; refine EL.f (FV.len rfl rfl) rfl rfl ?_)
       | (show EL _ _ _ _ (⟨_, .pick _ _ _, _, _, _, _⟩ :: _) _ _; refine EL.f (FV.pickF rfl rfl) rfl rfl ?_)
       | (show EL _ _ _ _ (⟨_, .binOp .neq _ _ _ _, _, _, _, _⟩ :: _) _ _; refine EL.fF (FV.neq rfl rfl) rfl (fun _ => rfl) (by omega) ?_))
    | refine EL.nil ?_
    | refine EW.seq ?_
    | refine EW.region ?_)
  refine EL.h (Hv.call (specSame _ _ _ _ _ _ w2 (r3.ext hw2) (q3.ext hw2) na.o) rfl) rfl (fun _ => rfl) ?_
  rintro _ w3 ⟨rfl, he3⟩
  replace hb := At.ext hb he3
  replace hc := At.ext hc he3
  have hw3 := hw2.trans he3
  by_cases k4 : a.outs = b.outs
  rotate_left
  · rw [decide_eq_false k4]
    repeat' (first
      | refine EL.f (FV.assign rfl) rfl rfl ?_
      | refine EL.f (FV.not rfl) rfl rfl ?_
      | refine EL.f (FV.pickF rfl rfl) rfl rfl ?_
      | refine EL.nil ?_
      | refine EW.seq ?_
      | refine EW.region ?_
      | refine EW.ret ?_
      | refine EW.condT rfl ?_)
    exact ⟨_, rfl, by simp [sameT, k4], hw3⟩
  rw [decide_eq_true k4]
  repeat' (first
    | refine EL.f (FV.assign rfl) rfl rfl ?_
    | refine EL.f (FV.not rfl) rfl rfl ?_
    | refine EL.f (FV.pickF rfl rfl) rfl rfl ?_
    | refine EL.nil ?_
    | refine EW.seq ?_
    | refine EW.region ?_
    | refine EW.block ?_
    | refine EW.skip ?_
    | refine EW.condF rfl ?_)
  refine EW.loop (fun k wr => k ≤ a.code.length ∧ (∀ i, i < k → a.code.getD i dIns = b.code.getD i dIns) ∧ Ext w3 wr) (fun k => [(2, .pointer (some ⟨g1, 0, none⟩)), (3, .pointer (some ⟨g2, 0, none⟩)), (5, .int .i64 k)]) (fun k => a.code.length - k) 0 ⟨Nat.zero_le _, fun i h => absurd h (Nat.not_lt_zero _), Ext.refl _⟩ ⟨rfl, rfl, rfl, trivial⟩ ?_
  rintro k wr ⟨hk, heq, he⟩
  have hb0 := At.ext hb he
  have hc0 := At.ext hc he
  by_cases hlt : k < a.code.length
  · obtain ⟨x1, o1, rfl, hp⟩ := Rd.elem insV_length (by decide) dIns (r1.ext (hw3.trans he)) hlt
    obtain ⟨x2, o2, rfl, hq⟩ := Rd.elem insV_length (by decide) dIns (q1.ext (hw3.trans he)) (show k < b.code.length by omega)
    repeat' (first
      | (show EL _ _ _ _ (_ :: _) _ _
         first
         | (show EL _ _ _ _ (⟨_, .fieldAddr _ _ _, _, _, _, _⟩ :: _) _ _; refine EL.f (FV.fieldAddr rfl rfl rfl rfl rfl) rfl rfl ?_)
         | (show EL _ _ _ _ (⟨_, .load _ _, _, _, _, _⟩ :: _) _ _; refine EL.f (FV.load1 rfl rfl rfl (At.cell hb0 rfl)) rfl rfl ?_)
         | (show EL _ _ _ _ (⟨_, .move _, _, _, _, _⟩ :: _) _ _; refine EL.f (FV.move rfl) rfl rfl ?_)
         | (show EL _ _ _ _ (⟨_, .call _, _, _, _, _⟩ :: _) _ _; refine EL.f (FV.len rfl rfl) rfl rfl ?_)
         | (show EL _ _ _ _ (⟨_, .binOp .lss _ _ _ _, _, _, _, _⟩ :: _) _ _; refine EL.fT (FV.lss rfl rfl) rfl (fun _ => rfl) (by omega) ?_))
      | refine EL.nil ?_
      | refine EW.seq ?_
      | refine EW.region ?_
      | refine EW.block ?_
      | refine EW.skip ?_
      | refine EW.condT rfl ?_)
    refine EW.draw (fun w' => Ext wr w') (pl 0 11) mixed (by decide +kernel) (Ext.drew _) ?_
    repeat' (first
      | refine EP.f rfl (FV.fieldAddr rfl rfl rfl rfl rfl) rfl rfl ?_
      | refine EP.f rfl (FV.idx rfl rfl rfl rfl (by omega) (by omega)) rfl rfl ?_
      | refine EP.f rfl (FV.load rfl rfl rfl (fun w' h' => At.cell (At.ext hb0 h') rfl)) rfl rfl ?_
      | refine EP.f rfl (FV.load rfl rfl rfl (fun w' h' => At.cell (At.ext hc0 h') rfl)) rfl rfl ?_
      | refine EP.f rfl (FV.loadAgg (cs := insV (a.code.getD k dIns)) rfl rfl rfl rfl rfl (fun _ h' => hp.ext h')) rfl rfl ?_
      | refine EP.f rfl (FV.loadAgg (cs := insV (b.code.getD k dIns)) rfl rfl rfl rfl rfl (fun _ h' => hq.ext h')) rfl rfl ?_
      | refine EP.f rfl (FV.neIns rfl rfl) rfl rfl ?_
      | refine EP.nil ?_
      | refine EP.f rfl (FV.move rfl) rfl rfl ?_)
    refine EW.condP rfl (fun hne => ?_) (fun hne => ?_)
    · repeat' (first
        | refine EL.f (FV.assign rfl) rfl rfl ?_
        | refine EL.nil ?_
        | refine EW.seq ?_
        | refine EW.region ?_
        | refine EW.ret ?_)
      refine ⟨_, rfl, ?_, (hw3.trans he).trans (Ext.drew _)⟩
      rw [decide_eq_false]
      rintro ⟨_, z1, z2, _⟩
      exact hne (by rw [z1])
    · repeat' (first
        | refine EL.f (FV.move rfl) rfl rfl ?_
        | refine EL.f (FV.assign rfl) rfl rfl ?_
        | refine EL.f (FV.addI rfl rfl (by omega)) rfl rfl ?_
        | refine EL.nil ?_
        | refine EW.region ?_
        | refine EW.skip ?_)
      refine ⟨k + 1, ⟨rfl, rfl, rfl, trivial⟩, ⟨by omega, fun i hi => ?_, he.trans (Ext.drew _)⟩, by omega⟩
      by_cases hik : i = k
      · subst hik; exact Decidable.not_not.1 hne
      · exact heq i (by omega)
  · obtain rfl : k = a.code.length := by omega
    have e1 := list_same k2 heq
    repeat' (first
      | (show EL _ _ _ _ (_ :: _) _ _
         first
         | (show EL _ _ _ _ (⟨_, .fieldAddr _ _ _, _, _, _, _⟩ :: _) _ _; refine EL.f (FV.fieldAddr rfl rfl rfl rfl rfl) rfl rfl ?_)
         | (show EL _ _ _ _ (⟨_, .load _ _, _, _, _, _⟩ :: _) _ _; refine EL.f (FV.load1 rfl rfl rfl (At.cell hb0 rfl)) rfl rfl ?_)
         | (show EL _ _ _ _ (⟨_, .move _, _, _, _, _⟩ :: _) _ _; refine EL.f (FV.move rfl) rfl rfl ?_)
         | (show EL _ _ _ _ (⟨_, .assign _, _, _, _, _⟩ :: _) _ _; refine EL.f (FV.assign rfl) rfl rfl ?_)
         | (show EL _ _ _ _ (⟨_, .call _, _, _, _, _⟩ :: _) _ _; refine EL.f (FV.len rfl rfl) rfl rfl ?_)
         | (show EL _ _ _ _ (⟨_, .binOp .lss _ _ _ _, _, _, _, _⟩ :: _) _ _; refine EL.fF (FV.lss rfl rfl) rfl (fun _ => rfl) (by omega) ?_))
      | refine EL.nil ?_
      | refine EW.seq ?_
      | refine EW.region ?_
      | refine EW.block ?_
      | refine EW.exit ?_
      | refine EW.condF rfl ?_)
    have hw4 := hw3.trans he
    replace hb := hb0
    replace hc := hc0
    clear hb0 hc0
    refine EW.loop (fun k wz => k ≤ a.guards.length ∧ (∀ i, i < k → a.guards.getD i dGd = b.guards.getD i dGd) ∧ Ext wr wz) (fun k => [(2, .pointer (some ⟨g1, 0, none⟩)), (3, .pointer (some ⟨g2, 0, none⟩)), (6, .int .i64 k)]) (fun k => a.guards.length - k) 0 ⟨Nat.zero_le _, fun i h => absurd h (Nat.not_lt_zero _), Ext.refl _⟩ ⟨rfl, rfl, rfl, trivial⟩ ?_
    rintro k wz ⟨hk,  heg, he⟩
    have hb0 := At.ext hb he
    have hc0 := At.ext hc he
    by_cases hlt2 : k < a.guards.length
    · obtain ⟨x1, o1, rfl, hp⟩ := Rd.elem gdV_length (by decide) dGd (r2.ext (hw4.trans he)) hlt2
      obtain ⟨x2, o2, rfl, hq⟩ := Rd.elem gdV_length (by decide) dGd (q2.ext (hw4.trans he)) (show k < b.guards.length by omega)
      repeat' (first
        | (show EL _ _ _ _ (_ :: _) _ _
           first
           | (show EL _ _ _ _ (⟨_, .fieldAddr _ _ _, _, _, _, _⟩ :: _) _ _; refine EL.f (FV.fieldAddr rfl rfl rfl rfl rfl) rfl rfl ?_)
           | (show EL _ _ _ _ (⟨_, .load _ _, _, _, _, _⟩ :: _) _ _; refine EL.f (FV.load1 rfl rfl rfl (At.cell hb0 rfl)) rfl rfl ?_)
           | (show EL _ _ _ _ (⟨_, .move _, _, _, _, _⟩ :: _) _ _; refine EL.f (FV.move rfl) rfl rfl ?_)
           | (show EL _ _ _ _ (⟨_, .call _, _, _, _, _⟩ :: _) _ _; refine EL.f (FV.len rfl rfl) rfl rfl ?_)
           | (show EL _ _ _ _ (⟨_, .binOp .lss _ _ _ _, _, _, _, _⟩ :: _) _ _; refine EL.fT (FV.lss rfl rfl) rfl (fun _ => rfl) (by omega) ?_))
        | refine EL.nil ?_
        | refine EW.seq ?_
        | refine EW.region ?_
        | refine EW.block ?_
        | refine EW.skip ?_
        | refine EW.condT rfl ?_)
      refine EW.draw (fun w' => Ext wz w') (pl 0 11) mixed (by decide +kernel) (Ext.drew _) ?_
      repeat' (first
        | refine EP.f rfl (FV.fieldAddr rfl rfl rfl rfl rfl) rfl rfl ?_
        | refine EP.f rfl (FV.idx rfl rfl rfl rfl (by omega) (by omega)) rfl rfl ?_
        | refine EP.f rfl (FV.load rfl rfl rfl (fun w' h' => At.cell (At.ext hb0 h') rfl)) rfl rfl ?_
        | refine EP.f rfl (FV.load rfl rfl rfl (fun w' h' => At.cell (At.ext hc0 h') rfl)) rfl rfl ?_
        | refine EP.f rfl (FV.loadAgg (cs := gdV (a.guards.getD k dGd)) rfl rfl rfl rfl rfl (fun _ h' => hp.ext h')) rfl rfl ?_
        | refine EP.f rfl (FV.loadAgg (cs := gdV (b.guards.getD k dGd)) rfl rfl rfl rfl rfl (fun _ h' => hq.ext h')) rfl rfl ?_
        | refine EP.f rfl (FV.neGd rfl rfl) rfl rfl ?_
        | refine EP.nil ?_
        | refine EP.f rfl (FV.move rfl) rfl rfl ?_)
      refine EW.condP rfl (fun hne => ?_) (fun hne => ?_)
      · repeat' (first
          | refine EL.f (FV.assign rfl) rfl rfl ?_
          | refine EL.nil ?_
          | refine EW.seq ?_
          | refine EW.region ?_
          | refine EW.ret ?_)
        refine ⟨_, rfl, ?_, (hw4.trans he).trans (Ext.drew _)⟩
        rw [decide_eq_false]
        rintro ⟨_, z1, z2, _⟩
        exact hne (by rw [z2])
      · repeat' (first
          | refine EL.f (FV.move rfl) rfl rfl ?_
          | refine EL.f (FV.assign rfl) rfl rfl ?_
          | refine EL.f (FV.addI rfl rfl (by omega)) rfl rfl ?_
          | refine EL.nil ?_
          | refine EW.region ?_
          | refine EW.skip ?_)
        refine ⟨k + 1, ⟨rfl, rfl, rfl, trivial⟩, ⟨by omega, fun i hi => ?_, he.trans (Ext.drew _)⟩, by omega⟩
        by_cases hik : i = k
        · subst hik; exact Decidable.not_not.1 hne
        · exact  heg i (by omega)
    · obtain rfl : k = a.guards.length := by omega
      have e2 := list_same k3 heg
      repeat' (first
        | (show EL _ _ _ _ (_ :: _) _ _
           first
           | (show EL _ _ _ _ (⟨_, .fieldAddr _ _ _, _, _, _, _⟩ :: _) _ _; refine EL.f (FV.fieldAddr rfl rfl rfl rfl rfl) rfl rfl ?_)
           | (show EL _ _ _ _ (⟨_, .load _ _, _, _, _, _⟩ :: _) _ _; refine EL.f (FV.load1 rfl rfl rfl (At.cell hb0 rfl)) rfl rfl ?_)
           | (show EL _ _ _ _ (⟨_, .move _, _, _, _, _⟩ :: _) _ _; refine EL.f (FV.move rfl) rfl rfl ?_)
           | (show EL _ _ _ _ (⟨_, .assign _, _, _, _, _⟩ :: _) _ _; refine EL.f (FV.assign rfl) rfl rfl ?_)
           | (show EL _ _ _ _ (⟨_, .call _, _, _, _, _⟩ :: _) _ _; refine EL.f (FV.len rfl rfl) rfl rfl ?_)
           | (show EL _ _ _ _ (⟨_, .binOp .lss _ _ _ _, _, _, _, _⟩ :: _) _ _; refine EL.fF (FV.lss rfl rfl) rfl (fun _ => rfl) (by omega) ?_))
        | refine EL.nil ?_
        | refine EW.seq ?_
        | refine EW.region ?_
        | refine EW.exit ?_
        | refine EW.ret ?_
        | refine EW.condF rfl ?_)
      exact ⟨_, rfl, by simp [sameT, k1, k4, e1, e2], hw4.trans he⟩

end Eng
end Go.Proofs.Ytfkohgfcchhlpaa
