/- Slices of instructions and guards: the verifier's copies. Conditions: the lengths. -/
import Derived.Test.YtogljflccfoaeaaDoorTp
import Derived.Test.YtogljflccfoaeaaDoorSl
namespace Go.Proofs.YtogljflccfoaeaaDoor
open Go Go.RowKit
namespace Eng
/-! lists whose elements take s cells each -/
theorem flat_length {α : Type} {f : α → List Value} {s : Nat} (hs : ∀ x, (f x).length = s) (xs : List α) : (xs.flatMap f).length = xs.length * s := by
  induction xs with
  | nil => simp
  | cons x r ih => rw [List.flatMap_cons, List.length_append, ih, hs, List.length_cons, Nat.add_mul]; omega
theorem flat_part {α : Type} {f : α → List Value} {s : Nat} (hs : ∀ x, (f x).length = s) (d : α) : ∀ (xs : List α) (k : Nat), k < xs.length → ((xs.flatMap f).drop (k * s)).take s = f (xs.getD k d)
  | [], k, h => by simp at h
  | x :: r, 0, _ => by
    rw [List.flatMap_cons, Nat.zero_mul, List.drop_zero, List.take_left' (hs x)]
    rfl
  | x :: r, k + 1, h => by
    rw [List.flatMap_cons, Nat.succ_mul, Nat.add_comm, ← List.drop_drop, List.drop_left' (hs x)]
    exact flat_part hs d r k (by simpa using h)
theorem flat_set {α : Type} {f : α → List Value} {s : Nat} (hs : ∀ x, (f x).length = s) (y : α) : ∀ (xs : List α) (k : Nat), k < xs.length → (xs.flatMap f).take (k * s) ++ f y ++ (xs.flatMap f).drop (k * s + s) = (xs.set k y).flatMap f
  | [], k, h => by simp at h
  | x :: r, 0, _ => by
    rw [List.flatMap_cons, Nat.zero_mul, List.take_zero, Nat.zero_add, List.drop_left' (hs x), List.set_cons_zero, List.flatMap_cons, List.nil_append]
  | x :: r, k + 1, h => by
    have ih := flat_set hs y r k (by simpa using h)
    rw [List.flatMap_cons, Nat.succ_mul, List.set_cons_succ, List.flatMap_cons, ← ih]
    have e1 : (f x ++ r.flatMap f).take (k * s + s) = f x ++ (r.flatMap f).take (k * s) := by
      rw [show k * s + s = (f x).length + k * s from by rw [hs]; omega, List.take_length_add_append]
    have e2 : (f x ++ r.flatMap f).drop (k * s + s + s) = (r.flatMap f).drop (k * s + s) := by
      rw [show k * s + s + s = (f x).length + (k * s + s) from by rw [hs]; omega, List.drop_length_add_append]
    rw [e1, e2]
    simp only [List.append_assoc]
theorem setL_eq : ∀ (vs : List Value) (o : Nat) (cs : List Value), o + vs.length ≤ cs.length → setL cs o vs = cs.take o ++ vs ++ cs.drop (o + vs.length)
  | [], o, cs, _ => by simp [setL]
  | v :: r, o, cs, h => by
    simp only [List.length_cons] at h
    have ho : o < cs.length := by omega
    rw [setL, setL_eq r (o + 1) (cs.set o v) (by rw [List.length_set]; omega)]
    rw [List.take_succ_eq_append_getElem (by rw [List.length_set]; exact ho), List.take_set_of_le (Nat.le_refl _), List.getElem_set_self, List.drop_set_of_lt (by omega)]
    simp [show o + 1 + r.length = o + (r.length + 1) from by omega]
theorem setL_flat {α : Type} {f : α → List Value} {s : Nat} (hs : ∀ x, (f x).length = s) (y : α) (xs : List α) (k : Nat) (h : k < xs.length) : setL (xs.flatMap f) (k * s) (f y) = (xs.set k y).flatMap f := by
  have hl := flat_length hs xs
  have hk : k * s + s ≤ xs.length * s := by
    have := Nat.mul_le_mul_right s (show k + 1 ≤ xs.length from h)
    rw [Nat.add_mul, Nat.one_mul] at this
    exact this
  rw [setL_eq _ _ _ (by rw [hs, hl]; exact hk), hs]
  exact flat_set hs y xs k h
theorem flat_room {α : Type} {f : α → List Value} {s : Nat} (hs : ∀ x, (f x).length = s) (y : α) (xs : List α) (k : Nat) (h : k < xs.length) : k * s + (f y).length ≤ (xs.flatMap f).length := by
  rw [flat_length hs, hs]
  have := Nat.mul_le_mul_right s (show k + 1 ≤ xs.length from h)
  rw [Nat.add_mul, Nat.one_mul] at this
  exact this
theorem made_flat {α : Type} {f : α → List Value} {s : Nat} (hs : ∀ x, (f x).length = s) (d : α) (zc : Array Value) (hz : zc.toList = f d) (h0 : 0 < s) (m : Nat) : (madeCells zc (m * s)).toList = (List.replicate m d).flatMap f := by
  have hzs : zc.size = s := by rw [← Array.length_toList, hz, hs]
  apply List.ext_getElem
  · rw [flat_length hs]
    simp [madeCells]
  · intro i h1 h2
    have hi : i < m * s := by simpa [madeCells] using h1
    have hq : i / s < m := Nat.div_lt_of_lt_mul (by rw [Nat.mul_comm]; exact hi)
    have hr : i % s < s := Nat.mod_lt _ h0
    have hp := flat_part hs d (List.replicate m d) (i / s) (by simpa using hq)
    have hd : (List.replicate m d).getD (i / s) d = d := by rw [List.getD_eq_getElem?_getD, List.getElem?_replicate, if_pos hq]; rfl
    rw [hd] at hp
    have e : ((List.replicate m d).flatMap f)[i]? = (f d)[i % s]? := by
      rw [← hp, List.getElem?_take, if_pos hr, List.getElem?_drop, Nat.mul_comm, Nat.div_add_mod]
    have e2 : (madeCells zc (m * s)).toList[i]? = zc.toList[i % s]? := by
      simp [madeCells, hi, hzs, hr]
    rw [hz, ← e, List.getElem?_eq_getElem h1, List.getElem?_eq_getElem h2] at e2
    exact Option.some.inj e2
def filledA {α : Type} (d : α) (xs : List α) (k n : Nat) : List α := xs.take k ++ List.replicate (n - k) d
theorem filledA_length {α : Type} {d : α} (xs : List α) (k : Nat) (h : k ≤ xs.length) : (filledA d xs k xs.length).length = xs.length := by
  simp [filledA]; omega
theorem filledA_set {α : Type} {d : α} (xs : List α) (k : Nat) (h : k < xs.length) : (filledA d xs k xs.length).set k (xs.getD k d) = filledA d xs (k + 1) xs.length := by
  unfold filledA
  rw [List.set_append_right _ _ (by rw [List.length_take]; omega), List.take_succ_eq_append_getElem h, List.append_assoc]
  rw [show xs.length - k = (xs.length - (k + 1)) + 1 from by omega, List.replicate_succ, List.length_take, Nat.min_eq_left (Nat.le_of_lt h), Nat.sub_self, List.set_cons_zero]
  simp [h]
theorem filledA_full {α : Type} {d : α} (xs : List α) : filledA d xs xs.length xs.length = xs := by simp [filledA]
theorem Rd.elem {α : Type} {f : α → List Value} {s : Nat} (hs : ∀ x, (f x).length = s) (h0 : 0 < s) (d : α) {w : World} {A : Option Addr} {xs : List α} (h : Rd w A (xs.flatMap f)) {k : Nat} (hk : k < xs.length) : ∃ b o, A = some ⟨b, o, none⟩ ∧ Lies w b (o + k * s) (f (xs.getD k d)) := by
  have hl := flat_length hs xs
  have hp : 0 < (xs.flatMap f).length := by rw [hl]; exact Nat.mul_pos (by omega) h0
  obtain ⟨b, o, rfl, hc⟩ := h.all hp
  exact ⟨b, o, rfl, Lies.part (fun j v hj => hc j v hj) (flat_part hs d xs k hk)⟩
theorem insV_length (x : Ins) : (insV x).length = 4 := rfl
theorem gdV_length (x : Gd) : (gdV x).length = 2 := rfl
def dIns : Ins := ⟨0, 0, 0, 0⟩
def dGd : Gd := ⟨0, false⟩
def insL (xs : List Ins) : List Value := xs.flatMap insV
def gdL (xs : List Gd) : List Value := xs.flatMap gdV
theorem toInstrS (A : Option Addr) (c : Nat) (xs : List Ins) (w : World) (h : Rd w A (insL xs)) (hn : xs.length ≤ 1048576) :
    CallsR Tryd.prog 30 [.slice A xs.length c] w fun v w' => ∃ g, v = .slice (some ⟨g, 0, none⟩) xs.length xs.length ∧ w.heap.size ≤ g ∧ At w' 66 4 g xs.length xs.length (insL xs) ∧ Ext w w' := by
  refine CallsR.enter Tryd.func30 (by decide +kernel) rfl Tryd.ntmps30 rfl ?_
  repeat' (first
    | (show EL _ _ _ _ (_ :: _) _ _
       first
       | (show EL _ _ _ _ (⟨_, .makeSlice _ _ _, _, _, _, _⟩ :: _) _ _; (refine EL.h (Hv.make (kl := .i64) rfl rfl rfl rfl (by omega) (by omega)) rfl (fun _ => rfl) ?_; rintro _ w1 ⟨g, rfl, hg, hat, he⟩))
       | (show EL _ _ _ _ (⟨_, .move _, _, _, _, _⟩ :: _) _ _; refine EL.f (FV.move rfl) rfl rfl ?_)
       | (show EL _ _ _ _ (⟨_, .assign _, _, _, _, _⟩ :: _) _ _; refine EL.f (FV.assign rfl) rfl rfl ?_)
       | (show EL _ _ _ _ (⟨_, .call _, _, _, _, _⟩ :: _) _ _; refine EL.f (FV.len rfl rfl) rfl rfl ?_))
    | refine EL.nil ?_
    | refine EW.seq ?_
    | refine EW.region ?_
    | refine EW.block ?_)
  replace hat : At w1 66 4 g xs.length xs.length ((List.replicate xs.length dIns).flatMap insV) := by
    rw [← made_flat insV_length dIns (insV dIns).toArray rfl (by decide)]
    exact hat
  refine EW.loop (fun k wr => k ≤ xs.length ∧ At wr 66 4 g xs.length xs.length (insL (filledA dIns xs k xs.length)) ∧ Below w.heap.size w wr) (fun k => [(0, .slice A xs.length c), (3, .slice (some ⟨g, 0, none⟩) xs.length xs.length), (4, .int .i64 k)]) (fun k => xs.length - k) 0 ⟨Nat.zero_le _, hat, he⟩ ⟨rfl, rfl, rfl, trivial⟩ ?_
  rintro k wr ⟨hk, hat, hb⟩
  by_cases hlt : k < xs.length
  · have hlen := filledA_length (d := dIns) xs k hk
    obtain ⟨b, o, rfl, hc⟩ := Rd.elem insV_length (by decide) dIns (h.ext hb) hlt
    repeat' (first
      | (show EL _ _ _ _ (_ :: _) _ _
         first
         | (show EL _ _ _ _ (⟨_, .indexAddr _ _ _, _, _, _, _⟩ :: _) _ _; refine EL.f (FV.idx rfl rfl rfl rfl (by omega) (by omega)) rfl rfl ?_)
         | (show EL _ _ _ _ (⟨_, .move _, _, _, _, _⟩ :: _) _ _; refine EL.f (FV.move rfl) rfl rfl ?_)
         | (show EL _ _ _ _ (⟨_, .call _, _, _, _, _⟩ :: _) _ _; refine EL.f (FV.len rfl rfl) rfl rfl ?_)
         | (show EL _ _ _ _ (⟨_, .binOp .lss _ _ _ _, _, _, _, _⟩ :: _) _ _; refine EL.fT (FV.lss rfl rfl) rfl (fun _ => rfl) (by omega) ?_))
      | refine EL.nil ?_
      | refine EW.seq ?_
      | refine EW.region ?_
      | refine EW.block ?_
      | refine EW.skip ?_
      | refine EW.condT rfl ?_)
    refine EL.f (FV.loadAgg (cs := insV (xs.getD k dIns)) rfl rfl rfl rfl rfl (fun _ e => e ▸ hc)) rfl rfl ?_
    refine EL.h (Hv.call (toInstr _ _) rfl) rfl (fun _ => rfl) ?_
    rintro _ w2 ⟨rfl, he2⟩
    have hat2 := At.ext hat he2
    repeat' (first
      | refine EL.f (FV.idx rfl rfl rfl rfl (by omega) (by omega)) rfl rfl ?_)
    have hroom := flat_room insV_length (xs.getD k dIns) (filledA dIns xs k xs.length) k (by omega)
    refine EL.h (Hv.storeAggG (vs := insV (xs.getD k dIns)) (o := 0 + k * 4) rfl rfl rfl rfl (insV_one _) hat2 (by rw [Nat.zero_add]; exact hroom)) rfl (fun _ => rfl) ?_
    rintro _ w3 ⟨hat3, hr⟩
    repeat' (first
      | refine EL.f (FV.move rfl) rfl rfl ?_
      | refine EL.f (FV.assign rfl) rfl rfl ?_
      | refine EL.f (FV.addI rfl rfl (by omega)) rfl rfl ?_
      | refine EL.nil ?_
      | refine EW.region ?_)
    refine ⟨k + 1, ⟨rfl, rfl, rfl, trivial⟩, ⟨by omega, ?_, Below.wr (Below.then_ hb (Nat.le_refl _) he2) hr (by omega) (Nat.le_refl _)⟩, by omega⟩
    rw [Nat.zero_add] at hat3
    unfold insL at hat3 ⊢
    rw [setL_flat insV_length _ _ _ (by omega), filledA_set xs k hlt] at hat3
    exact hat3
  · obtain rfl : k = xs.length := by omega
    rw [filledA_full] at hat
    repeat' (first
      | (show EL _ _ _ _ (_ :: _) _ _
         first
         | (show EL _ _ _ _ (⟨_, .move _, _, _, _, _⟩ :: _) _ _; refine EL.f (FV.move rfl) rfl rfl ?_)
         | (show EL _ _ _ _ (⟨_, .assign _, _, _, _, _⟩ :: _) _ _; refine EL.f (FV.assign rfl) rfl rfl ?_)
         | (show EL _ _ _ _ (⟨_, .call _, _, _, _, _⟩ :: _) _ _; refine EL.f (FV.len rfl rfl) rfl rfl ?_)
         | (show EL _ _ _ _ (⟨_, .binOp .lss _ _ _ _, _, _, _, _⟩ :: _) _ _; refine EL.fF (FV.lss rfl rfl) rfl (fun _ => rfl) (by omega) ?_))
      | refine EL.nil ?_
      | refine EW.seq ?_
      | refine EW.region ?_
      | refine EW.exit ?_
      | refine EW.ret ?_
      | refine EW.condF rfl ?_)
    exact ⟨_, rfl, g, rfl, by omega, hat, hb⟩
theorem toGuardS (A : Option Addr) (c : Nat) (xs : List Gd) (w : World) (h : Rd w A (gdL xs)) (hn : xs.length ≤ 1048576) :
    CallsR Tryd.prog 31 [.slice A xs.length c] w fun v w' => ∃ g, v = .slice (some ⟨g, 0, none⟩) xs.length xs.length ∧ w.heap.size ≤ g ∧ At w' 71 2 g xs.length xs.length (gdL xs) ∧ Ext w w' := by
  refine CallsR.enter Tryd.func31 (by decide +kernel) rfl Tryd.ntmps31 rfl ?_
  repeat' (first
    | (show EL _ _ _ _ (_ :: _) _ _
       first
       | (show EL _ _ _ _ (⟨_, .makeSlice _ _ _, _, _, _, _⟩ :: _) _ _; (refine EL.h (Hv.make (kl := .i64) rfl rfl rfl rfl (by omega) (by omega)) rfl (fun _ => rfl) ?_; rintro _ w1 ⟨g, rfl, hg, hat, he⟩))
       | (show EL _ _ _ _ (⟨_, .move _, _, _, _, _⟩ :: _) _ _; refine EL.f (FV.move rfl) rfl rfl ?_)
       | (show EL _ _ _ _ (⟨_, .assign _, _, _, _, _⟩ :: _) _ _; refine EL.f (FV.assign rfl) rfl rfl ?_)
       | (show EL _ _ _ _ (⟨_, .call _, _, _, _, _⟩ :: _) _ _; refine EL.f (FV.len rfl rfl) rfl rfl ?_))
    | refine EL.nil ?_
    | refine EW.seq ?_
    | refine EW.region ?_
    | refine EW.block ?_)
  replace hat : At w1 71 2 g xs.length xs.length ((List.replicate xs.length dGd).flatMap gdV) := by
    rw [← made_flat gdV_length dGd (gdV dGd).toArray rfl (by decide)]
    exact hat
  refine EW.loop (fun k wr => k ≤ xs.length ∧ At wr 71 2 g xs.length xs.length (gdL (filledA dGd xs k xs.length)) ∧ Below w.heap.size w wr) (fun k => [(0, .slice A xs.length c), (3, .slice (some ⟨g, 0, none⟩) xs.length xs.length), (4, .int .i64 k)]) (fun k => xs.length - k) 0 ⟨Nat.zero_le _, hat, he⟩ ⟨rfl, rfl, rfl, trivial⟩ ?_
  rintro k wr ⟨hk, hat, hb⟩
  by_cases hlt : k < xs.length
  · have hlen := filledA_length (d := dGd) xs k hk
    obtain ⟨b, o, rfl, hc⟩ := Rd.elem gdV_length (by decide) dGd (h.ext hb) hlt
    repeat' (first
      | (show EL _ _ _ _ (_ :: _) _ _
         first
         | (show EL _ _ _ _ (⟨_, .indexAddr _ _ _, _, _, _, _⟩ :: _) _ _; refine EL.f (FV.idx rfl rfl rfl rfl (by omega) (by omega)) rfl rfl ?_)
         | (show EL _ _ _ _ (⟨_, .move _, _, _, _, _⟩ :: _) _ _; refine EL.f (FV.move rfl) rfl rfl ?_)
         | (show EL _ _ _ _ (⟨_, .call _, _, _, _, _⟩ :: _) _ _; refine EL.f (FV.len rfl rfl) rfl rfl ?_)
         | (show EL _ _ _ _ (⟨_, .binOp .lss _ _ _ _, _, _, _, _⟩ :: _) _ _; refine EL.fT (FV.lss rfl rfl) rfl (fun _ => rfl) (by omega) ?_))
      | refine EL.nil ?_
      | refine EW.seq ?_
      | refine EW.region ?_
      | refine EW.block ?_
      | refine EW.skip ?_
      | refine EW.condT rfl ?_)
    refine EL.f (FV.loadAgg (cs := gdV (xs.getD k dGd)) rfl rfl rfl rfl rfl (fun _ e => e ▸ hc)) rfl rfl ?_
    refine EL.h (Hv.call (toGuard _ _) rfl) rfl (fun _ => rfl) ?_
    rintro _ w2 ⟨rfl, he2⟩
    have hat2 := At.ext hat he2
    repeat' (first
      | refine EL.f (FV.idx rfl rfl rfl rfl (by omega) (by omega)) rfl rfl ?_)
    have hroom := flat_room gdV_length (xs.getD k dGd) (filledA dGd xs k xs.length) k (by omega)
    refine EL.h (Hv.storeAggG (vs := gdV (xs.getD k dGd)) (o := 0 + k * 2) rfl rfl rfl rfl (gdV_one _) hat2 (by rw [Nat.zero_add]; exact hroom)) rfl (fun _ => rfl) ?_
    rintro _ w3 ⟨hat3, hr⟩
    repeat' (first
      | refine EL.f (FV.move rfl) rfl rfl ?_
      | refine EL.f (FV.assign rfl) rfl rfl ?_
      | refine EL.f (FV.addI rfl rfl (by omega)) rfl rfl ?_
      | refine EL.nil ?_
      | refine EW.region ?_)
    refine ⟨k + 1, ⟨rfl, rfl, rfl, trivial⟩, ⟨by omega, ?_, Below.wr (Below.then_ hb (Nat.le_refl _) he2) hr (by omega) (Nat.le_refl _)⟩, by omega⟩
    rw [Nat.zero_add] at hat3
    unfold gdL at hat3 ⊢
    rw [setL_flat gdV_length _ _ _ (by omega), filledA_set xs k hlt] at hat3
    exact hat3
  · obtain rfl : k = xs.length := by omega
    rw [filledA_full] at hat
    repeat' (first
      | (show EL _ _ _ _ (_ :: _) _ _
         first
         | (show EL _ _ _ _ (⟨_, .move _, _, _, _, _⟩ :: _) _ _; refine EL.f (FV.move rfl) rfl rfl ?_)
         | (show EL _ _ _ _ (⟨_, .assign _, _, _, _, _⟩ :: _) _ _; refine EL.f (FV.assign rfl) rfl rfl ?_)
         | (show EL _ _ _ _ (⟨_, .call _, _, _, _, _⟩ :: _) _ _; refine EL.f (FV.len rfl rfl) rfl rfl ?_)
         | (show EL _ _ _ _ (⟨_, .binOp .lss _ _ _ _, _, _, _, _⟩ :: _) _ _; refine EL.fF (FV.lss rfl rfl) rfl (fun _ => rfl) (by omega) ?_))
      | refine EL.nil ?_
      | refine EW.seq ?_
      | refine EW.region ?_
      | refine EW.exit ?_
      | refine EW.ret ?_
      | refine EW.condF rfl ?_)
    exact ⟨_, rfl, g, rfl, by omega, hat, hb⟩
end Eng
end Go.Proofs.YtogljflccfoaeaaDoor
