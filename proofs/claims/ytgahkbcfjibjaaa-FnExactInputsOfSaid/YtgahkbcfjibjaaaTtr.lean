/- What a tape needs, in the program and in the reference; a copy of numbers. Conditions: as each says. -/
import Derived.Test.YtgahkbcfjibjaaaTtq
namespace Go.Proofs.Ytgahkbcfjibjaaa
open Go Go.RowKit
namespace Eng
theorem implOperands (x : Ins) (w : World) (hop : 1 ≤ x.op ∧ x.op ≤ 7) :
    CallsR Try.prog 67 [.agg (insV x).toArray] w fun v w' => OwnI w.heap.size w' v (opsL x) ∧ Ext w w' := by
  refine CallsR.enter Try.func67 (by decide +kernel) rfl Try.ntmps67 rfl ?_
  repeat' (first
    | refine EW.seq ?_
    | refine EW.region ?_)
  refine EL.h (Hv.boxA (sz := 4) rfl rfl) rfl (fun _ => rfl) ?_
  rintro _ w1 ⟨g1, rfl, hg1, hb, he1⟩
  have s1 := he1.size
  by_cases h3 : x.op = 3 ∨ x.op = 4 ∨ x.op = 5 ∨ x.op = 6
  · have e : opsL x = [x.a, x.b] := if_pos h3
    rw [e]
    repeat' (first
      | (show EL _ _ _ _ (_ :: _) _ _
         first
         | (show EL _ _ _ _ (⟨_, .fieldAddr _ _ _, _, _, _, _⟩ :: _) _ _; refine EL.f (FV.fieldAddr rfl rfl rfl rfl rfl) rfl rfl ?_)
         | (show EL _ _ _ _ (⟨_, .load _ _, _, _, _, _⟩ :: _) _ _; refine EL.f (FV.load1 rfl rfl rfl (At.cell hb rfl)) rfl rfl ?_)
         | (show EL _ _ _ _ (⟨_, .call _, _, _, _, _⟩ :: _) _ _; (refine EL.h (Hv.call (implWithinR (r := true) (by simp [inB]; omega) _) rfl) rfl (fun _ => rfl) ?_; rintro _ _ ⟨rfl, rfl⟩))
         | (show EL _ _ _ _ (⟨_, .assign _, _, _, _, _⟩ :: _) _ _; refine EL.f (FV.assign rfl) rfl rfl ?_))
      | refine EL.nil ?_
      | refine EW.seq ?_
      | refine EW.region ?_
      | refine EW.block ?_
      | refine EW.condT rfl ?_)
    refine EL.h (Hv.build2 rfl rfl rfl rfl rfl rfl) rfl (fun _ => rfl) ?_
    rintro _ w2 ⟨g, rfl, hat, hg, he2⟩
    repeat' (first
      | refine EL.f (FV.assign rfl) rfl rfl ?_
      | refine EL.nil ?_
      | refine EW.ret ?_)
    exact ⟨_, rfl, AtI.own (show AtI w2 g 2 [x.a, x.b] from hat) (by omega), he1.trans he2⟩
  · by_cases h7 : x.op = 7
    · have e : opsL x = [x.a] := by unfold opsL; rw [if_neg h3, if_pos h7]
      rw [e]
      repeat' (first
        | (show EL _ _ _ _ (_ :: _) _ _
           first
           | (show EL _ _ _ _ (⟨_, .fieldAddr _ _ _, _, _, _, _⟩ :: _) _ _; refine EL.f (FV.fieldAddr rfl rfl rfl rfl rfl) rfl rfl ?_)
           | (show EL _ _ _ _ (⟨_, .load _ _, _, _, _, _⟩ :: _) _ _; refine EL.f (FV.load1 rfl rfl rfl (At.cell hb rfl)) rfl rfl ?_)
           | (show EL _ _ _ _ (⟨_, .call _, _, _, _, _⟩ :: _) _ _; (refine EL.h (Hv.call (implWithinR (r := false) (by simp [inB]; omega) _) rfl) rfl (fun _ => rfl) ?_; rintro _ _ ⟨rfl, rfl⟩))
           | (show EL _ _ _ _ (⟨_, .assign _, _, _, _, _⟩ :: _) _ _; refine EL.f (FV.assign rfl) rfl rfl ?_)
           | (show EL _ _ _ _ (⟨_, .binOp .eql _ _ _ _, _, _, _, _⟩ :: _) _ _; refine EL.fT (FV.eql rfl rfl) rfl (fun _ => rfl) (by omega) ?_))
        | refine EL.nil ?_
        | refine EW.seq ?_
        | refine EW.region ?_
        | refine EW.block ?_
        | refine EW.condT rfl ?_
        | refine EW.condF rfl ?_)
      refine EL.h (Hv.build1A rfl rfl rfl rfl) rfl (fun _ => rfl) ?_
      rintro _ w2 ⟨g, rfl, hat, hg, he2⟩
      repeat' (first
        | refine EL.f (FV.assign rfl) rfl rfl ?_
        | refine EL.nil ?_
        | refine EW.ret ?_)
      exact ⟨_, rfl, AtI.own (show AtI w2 g 1 [x.a] from hat) (by omega), he1.trans he2⟩
    · have e : opsL x = [] := by unfold opsL; rw [if_neg h3, if_neg h7]
      rw [e]
      repeat' (first
        | (show EL _ _ _ _ (_ :: _) _ _
           first
           | (show EL _ _ _ _ (⟨_, .fieldAddr _ _ _, _, _, _, _⟩ :: _) _ _; refine EL.f (FV.fieldAddr rfl rfl rfl rfl rfl) rfl rfl ?_)
           | (show EL _ _ _ _ (⟨_, .load _ _, _, _, _, _⟩ :: _) _ _; refine EL.f (FV.load1 rfl rfl rfl (At.cell hb rfl)) rfl rfl ?_)
           | (show EL _ _ _ _ (⟨_, .call _, _, _, _, _⟩ :: _) _ _; (refine EL.h (Hv.call (implWithinR (r := false) (by simp [inB]; omega) _) rfl) rfl (fun _ => rfl) ?_; rintro _ _ ⟨rfl, rfl⟩))
           | (show EL _ _ _ _ (⟨_, .assign _, _, _, _, _⟩ :: _) _ _; refine EL.f (FV.assign rfl) rfl rfl ?_)
           | (show EL _ _ _ _ (⟨_, .binOp .eql _ _ _ _, _, _, _, _⟩ :: _) _ _; refine EL.fF (FV.eql rfl rfl) rfl (fun _ => rfl) (by omega) ?_))
        | refine EL.nil ?_
        | refine EW.seq ?_
        | refine EW.region ?_
        | refine EW.block ?_
        | refine EW.skip ?_
        | refine EW.ret ?_
        | refine EW.condF rfl ?_)
      exact ⟨_, rfl, OwnI.none _ _, he1⟩
theorem opsL_length (x : Ins) : (opsL x).length ≤ 2 := by
  unfold opsL
  repeat' split
  all_goals simp
theorem opsL_reg {inp : Int} {k : Nat} {x : Ins} (ok : okI inp x k = true) (i : Nat) (hi : i < (opsL x).length) : 0 ≤ (opsL x).getD i 0 ∧ (opsL x).getD i 0 < k := by
  unfold opsL at hi ⊢
  by_cases hb : x.op = 3 ∨ x.op = 4 ∨ x.op = 5 ∨ x.op = 6
  · obtain ⟨ha, hb'⟩ := okI_bin' ok hb
    rw [if_pos hb] at hi ⊢
    rcases i with _ | _ | i
    · exact ha
    · exact hb'
    · have hi : i + 1 + 1 < 2 := hi
      omega
  · rw [if_neg hb] at hi ⊢
    by_cases h7 : x.op = 7
    · rw [if_pos h7] at hi ⊢
      rcases i with _ | i
      · exact okI_neg ok h7
      · simp at hi
    · rw [if_neg h7] at hi
      simp at hi
section
variable {n : Nat} {ρ : Env} {dst : Option Tmp} {ty : TypeId} {pos : String} {af : Array Edge} {gd : Option (Nat × Bool)}
/-- 'marks[k] = b' -/
theorem Hv.storeB {w : World} {g m c k : Nat} {x y : Operand} {u : Bool} {xs : List Bool} (hx : ev ρ x = some (.pointer (some ⟨g, k, none⟩))) (hy : ev ρ y = some (.bool u)) (hat : At w 4 1 g m c (bools xs)) (hk : k < xs.length) :
    Hv Try.prog n ρ ⟨none, .store 4 x y, ty, pos, af, gd⟩ w (fun _ w' => At w' 4 1 g m c (bools (xs.set k u)) ∧ Only [some g] w w') :=
  (Hv.storeG rfl hx hy rfl rfl hat (bools_get hk)).mono fun _ _ h => ⟨by rw [bools_set]; exact h.1, Only.one h.2⟩
end
set_option maxHeartbeats 4000000 in
theorem implNeeded (v : Value) (t : Tp) (A : Option Addr) (c : Nat) (ends : List Int) (w : World) (h : TapeV w v t) (okc : ∀ k, k < t.code.length → okI t.inputs (t.code.getD k dIns) k = true) (hcl : t.code.length ≤ 3200) (hr : Rd w A (ints ends)) (hle : ends.length ≤ 1048576) (hend : ∀ i, i < ends.length → 0 ≤ ends.getD i 0 ∧ ends.getD i 0 < t.code.length) :
    CallsR Try.prog 39 [v, .slice A ends.length c] w fun r w' => ∃ g, r = .slice (some ⟨g, 0, none⟩) t.code.length t.code.length ∧ At w' 4 1 g t.code.length t.code.length (bools (nS t (markB (List.replicate t.code.length false) ends) t.code.length)) ∧ w.heap.size ≤ g ∧ Ext w w' := by
  obtain ⟨P, p, Q, q, R, r, rfl, r1, r2, r3⟩ := h
  refine CallsR.enter Try.func39 (by decide +kernel) rfl Try.ntmps39 rfl ?_
  repeat' (first
    | refine EW.seq ?_
    | refine EW.region ?_)
  refine EL.h (Hv.boxA (sz := 4) rfl rfl) rfl (fun _ => rfl) ?_
  rintro _ w1 ⟨g1, rfl, hg1, hb, he1⟩
  have l1 := At.lt hb
  have s1 := he1.size
  repeat' (first
    | (show EL _ _ _ _ (_ :: _) _ _
       first
       | (show EL _ _ _ _ (⟨_, .fieldAddr _ _ _, _, _, _, _⟩ :: _) _ _; refine EL.f (FV.fieldAddr rfl rfl rfl rfl rfl) rfl rfl ?_)
       | (show EL _ _ _ _ (⟨_, .load _ _, _, _, _, _⟩ :: _) _ _; refine EL.f (FV.load1 rfl rfl rfl (At.cell hb rfl)) rfl rfl ?_)
       | (show EL _ _ _ _ (⟨_, .assign _, _, _, _, _⟩ :: _) _ _; refine EL.f (FV.assign rfl) rfl rfl ?_)
       | (show EL _ _ _ _ (⟨_, .call _, _, _, _, _⟩ :: _) _ _; refine EL.f (FV.len rfl rfl) rfl rfl ?_))
    | refine EL.nil ?_
    | refine EW.seq ?_
    | refine EW.region ?_)
  refine EL.h (Hv.make (kl := .i64) rfl rfl rfl rfl (by omega) (by omega)) rfl (fun _ => rfl) ?_
  rintro _ w2 ⟨g, rfl, hg, hat, he2⟩
  rw [madeBools] at hat
  replace hb := At.ext hb he2
  have hw2 := he1.trans he2
  have hgw : w.heap.size ≤ g := by omega
  have n1 : g1 ≠ g := by omega
  repeat' (first
    | refine EL.f (FV.move rfl) rfl rfl ?_
    | refine EL.f (FV.assign rfl) rfl rfl ?_
    | refine EL.f (FV.len rfl rfl) rfl rfl ?_
    | refine EL.nil ?_
    | refine EW.seq ?_
    | refine EW.region ?_
    | refine EW.block ?_)
  refine EW.loop (fun k wr => k ≤ ends.length ∧ At wr 4 1 g t.code.length t.code.length (bools (markB (List.replicate t.code.length false) (ends.take k))) ∧ At wr 33 4 g1 1 1 [.int .i64 t.inputs, .slice P t.code.length p, .slice Q t.guards.length q, .slice R t.outs.length r] ∧ Ext w wr) (fun k => [(2, .pointer (some ⟨g1, 0, none⟩)), (5, .slice (some ⟨g, 0, none⟩) t.code.length t.code.length), (15, .slice A ends.length c), (16, .int .i64 ends.length), (17, .int .i64 k)]) (fun k => ends.length - k) 0 ⟨Nat.zero_le _, hat, hb, hw2⟩ ⟨rfl, rfl, rfl, rfl, rfl, trivial⟩ ?_
  clear hat hb
  rintro k wr ⟨hk, hat, hb, he⟩
  by_cases hlt : k < ends.length
  · have hk0 := hend k hlt
    obtain ⟨b3, o3, rfl, hc3⟩ := (hr.ext he).int hlt
    have hml : (markB (List.replicate t.code.length false) (ends.take k)).length = t.code.length := by rw [markB_length, List.length_replicate]
    repeat' (first
      | (show EL _ _ _ _ (_ :: _) _ _
         first
         | (show EL _ _ _ _ (⟨_, .load _ _, _, _, _, _⟩ :: _) _ _; refine EL.f (FV.load1 rfl rfl rfl hc3) rfl rfl ?_)
         | (show EL _ _ _ _ (⟨_, .move _, _, _, _, _⟩ :: _) _ _; refine EL.f (FV.move rfl) rfl rfl ?_)
         | (show EL _ _ _ _ (⟨_, .assign _, _, _, _, _⟩ :: _) _ _; refine EL.f (FV.assign rfl) rfl rfl ?_)
         | (show EL _ _ _ _ (⟨_, .binOp .lss _ _ _ _, _, _, _, _⟩ :: _) _ _; refine EL.fT (FV.lss rfl rfl) rfl (fun _ => rfl) (by omega) ?_)
         | (show EL _ _ _ _ (⟨_, .indexAddr _ _ _, _, _, _, _⟩ :: _) _ _; first | refine EL.f (FV.idx0 rfl rfl rfl rfl (by omega) (by omega)) rfl rfl ?_ | refine EL.f (FV.idx1 rfl rfl rfl rfl (by omega) (by omega)) rfl rfl ?_))
      | refine EL.nil ?_
      | refine EW.seq ?_
      | refine EW.region ?_
      | refine EW.block ?_
      | refine EW.skip ?_
      | refine EW.condT rfl ?_)
    refine EL.h (Hv.storeB rfl rfl hat (by rw [hml]; omega)) rfl (fun _ => rfl) ?_
    rintro _ w4 ⟨hat4, on4⟩
    repeat' (first
      | refine EL.f (FV.move rfl) rfl rfl ?_
      | refine EL.f (FV.addI rfl rfl (by omega)) rfl rfl ?_
      | refine EL.nil ?_
      | refine EW.region ?_)
    exact ⟨k + 1, ⟨rfl, rfl, rfl, rfl, rfl, trivial⟩, ⟨by omega, by rw [markB_take _ _ _ hlt]; exact hat4, At.only hb on4 (by simp; exact n1), Ext.only he on4 hgw⟩, by omega⟩
  obtain rfl : k = ends.length := by omega
  rw [List.take_length] at hat
  have hndl : (markB (List.replicate t.code.length false) ends).length = t.code.length := by rw [markB_length, List.length_replicate]
  generalize markB (List.replicate t.code.length false) ends = nd at *
  repeat' (first
    | (show EL _ _ _ _ (_ :: _) _ _
       first
       | (show EL _ _ _ _ (⟨_, .fieldAddr _ _ _, _, _, _, _⟩ :: _) _ _; refine EL.f (FV.fieldAddr rfl rfl rfl rfl rfl) rfl rfl ?_)
       | (show EL _ _ _ _ (⟨_, .load _ _, _, _, _, _⟩ :: _) _ _; refine EL.f (FV.load1 rfl rfl rfl (At.cell hb rfl)) rfl rfl ?_)
       | (show EL _ _ _ _ (⟨_, .assign _, _, _, _, _⟩ :: _) _ _; refine EL.f (FV.assign rfl) rfl rfl ?_)
       | (show EL _ _ _ _ (⟨_, .binOp .sub _ _ _ _, _, _, _, _⟩ :: _) _ _; refine EL.f (FV.subI rfl rfl (by omega)) rfl rfl ?_)
       | (show EL _ _ _ _ (⟨_, .call _, _, _, _, _⟩ :: _) _ _; refine EL.f (FV.len rfl rfl) rfl rfl ?_)
       | (show EL _ _ _ _ (⟨_, .binOp .lss _ _ _ _, _, _, _, _⟩ :: _) _ _; refine EL.fF (FV.lss rfl rfl) rfl (fun _ => rfl) (by omega) ?_))
    | refine EL.nil ?_
    | refine EW.seq ?_
    | refine EW.region ?_
    | refine EW.block ?_
    | refine EW.exit ?_
    | refine EW.condF rfl ?_)
  refine EW.loop (fun m wr => m ≤ t.code.length ∧ At wr 4 1 g t.code.length t.code.length (bools (nS t nd (t.code.length - m))) ∧ At wr 33 4 g1 1 1 [.int .i64 t.inputs, .slice P t.code.length p, .slice Q t.guards.length q, .slice R t.outs.length r] ∧ Ext w wr) (fun m => [(2, .pointer (some ⟨g1, 0, none⟩)), (5, .slice (some ⟨g, 0, none⟩) t.code.length t.code.length), (8, .int .i64 ((m : Int) - 1))]) (fun m => m) t.code.length ⟨Nat.le_refl _, by rw [Nat.sub_self]; exact hat, hb, he⟩ ⟨rfl, rfl, rfl, trivial⟩ ?_
  clear hat hb he
  rintro m wr ⟨hm, hat, hb, he⟩
  cases m with
  | zero =>
    repeat' (first
      | refine EL.f (FV.move rfl) rfl rfl ?_
      | refine EL.f (FV.assign rfl) rfl rfl ?_
      | refine EL.fF (FV.geq rfl rfl) rfl (fun _ => rfl) (by omega) ?_
      | refine EL.nil ?_
      | refine EW.seq ?_
      | refine EW.region ?_
      | refine EW.exit ?_
      | refine EW.ret ?_
      | refine EW.condF rfl ?_)
    exact ⟨_, rfl, g, rfl, hat, hgw, he⟩
  | succ m =>
  rw [show (((m + 1 : Nat)) : Int) - 1 = (m : Int) from by omega]
  obtain ⟨x1, p1, rfl, hp⟩ := Rd.elem insV_length (by decide) dIns (r1.ext he) (k := m) (by omega)
  have okk := okc m (by omega)
  have hop := okI_op okk
  have hnext := nS_next (t := t) (nd := nd) (m := m) (by omega)
  have hal := nS_length t nd (t.code.length - (m + 1))
  have hreg := opsL_reg okk
  have hstep := orS_step (need := nS t nd (t.code.length - (m + 1))) okk
  have hlo := opsL_length (t.code.getD m dIns)
  generalize nS t nd (t.code.length - (m + 1)) = a at *
  generalize t.code.getD m dIns = x at *
  repeat' (first
    | (show EL _ _ _ _ (_ :: _) _ _
       first
       | (show EL _ _ _ _ (⟨_, .fieldAddr _ _ _, _, _, _, _⟩ :: _) _ _; refine EL.f (FV.fieldAddr rfl rfl rfl rfl rfl) rfl rfl ?_)
       | (show EL _ _ _ _ (⟨_, .load _ _, _, _, _, _⟩ :: _) _ _; first | refine EL.f (FV.load1 rfl rfl rfl (At.cell hb rfl)) rfl rfl ?_ | refine EL.f (FV.loadAgg (cs := insV x) rfl rfl rfl rfl rfl (fun _ e => hp.ext (e ▸ Ext.refl _))) rfl rfl ?_)
       | (show EL _ _ _ _ (⟨_, .indexAddr _ _ _, _, _, _, _⟩ :: _) _ _; refine EL.f (FV.idx rfl rfl rfl rfl (by omega) (by omega)) rfl rfl ?_)
       | (show EL _ _ _ _ (⟨_, .move _, _, _, _, _⟩ :: _) _ _; refine EL.f (FV.move rfl) rfl rfl ?_)
       | (show EL _ _ _ _ (⟨_, .binOp .geq _ _ _ _, _, _, _, _⟩ :: _) _ _; refine EL.fT (FV.geq rfl rfl) rfl (fun _ => rfl) (by omega) ?_))
    | refine EL.nil ?_
    | refine EW.seq ?_
    | refine EW.region ?_
    | refine EW.block ?_
    | refine EW.skip ?_
    | refine EW.condT rfl ?_)
  refine EL.h (Hv.call (implOperands x wr hop) rfl) rfl (fun _ => rfl) ?_
  rintro _ w5 ⟨hown, he5⟩
  obtain ⟨A5, c5, rfl, hrd5⟩ := OwnI.form hown
  repeat' (first
    | refine EL.f (FV.move rfl) rfl rfl ?_
    | refine EL.f (FV.len rfl rfl) rfl rfl ?_
    | refine EL.nil ?_
    | refine EW.block ?_)
  refine EW.loop (fun i wi => i ≤ (opsL x).length ∧ At wi 4 1 g t.code.length t.code.length (bools (orS a m (opsL x) i)) ∧ At wi 33 4 g1 1 1 [.int .i64 t.inputs, .slice (some ⟨x1, p1, none⟩) t.code.length p, .slice Q t.guards.length q, .slice R t.outs.length r] ∧ Only [some g] w5 wi) (fun i => [(2, .pointer (some ⟨g1, 0, none⟩)), (5, .slice (some ⟨g, 0, none⟩) t.code.length t.code.length), (8, .int .i64 m), (38, .slice A5 (opsL x).length c5), (39, .int .i64 (opsL x).length), (40, .int .i64 i)]) (fun i => (opsL x).length - i) 0 ⟨Nat.zero_le _, At.ext hat he5, At.ext hb he5, (Only.ext (Ext.refl _)).mono (by simp)⟩ ⟨rfl, rfl, rfl, rfl, rfl, rfl, trivial⟩ ?_
  have hw5 := he.trans he5
  have lg := At.lt hat
  clear hat hb
  rintro i wi ⟨hi, hat, hb, hon⟩
  by_cases hlt : i < (opsL x).length
  · have hri := hreg i hlt
    have hne5 : ∀ j, some j ∈ [some g] → (Value.slice A5 (opsL x).length c5).ownBlock ≠ some j := fun j hj => by
      obtain rfl : j = g := by simpa using hj
      intro e
      have := own_block hown e
      have := At.lt hat
      omega
    obtain ⟨A6, c6, e6, hrd6⟩ := OwnI.form (own_only hown hon hne5)
    injection e6 with e6 _ _
    subst e6
    obtain ⟨b6, o6, rfl, hc6⟩ := hrd6.int hlt
    have hol : (orS a m (opsL x) i).length = t.code.length := by rw [orS_length, hal, hndl]
    have hcr := At.cell hat (bools_get (k := ((opsL x).getD i 0).toNat) (by rw [hol]; omega))
    have hcm := At.cell hat (bools_get (k := m) (by rw [hol]; omega))
    have hset : orS a m (opsL x) (i + 1) = (orS a m (opsL x) i).set ((opsL x).getD i 0).toNat ((orS a m (opsL x) i).getD ((opsL x).getD i 0).toNat false || (orS a m (opsL x) i).getD m false) := rfl
    cases hv : (orS a m (opsL x) i).getD ((opsL x).getD i 0).toNat false
    · rw [hv] at hcr
      rw [hv, Bool.false_or] at hset
      repeat' (first
        | (show EL _ _ _ _ (_ :: _) _ _
           first
           | (show EL _ _ _ _ (⟨_, .load _ _, _, _, _, _⟩ :: _) _ _; first | refine EL.f (FV.load1 rfl rfl rfl hc6) rfl rfl ?_ | refine EL.f (FV.load1 rfl rfl rfl hcr) rfl rfl ?_ | refine EL.f (FV.load1 rfl rfl rfl hcm) rfl rfl ?_)
           | (show EL _ _ _ _ (⟨_, .move _, _, _, _, _⟩ :: _) _ _; refine EL.f (FV.move rfl) rfl rfl ?_)
           | (show EL _ _ _ _ (⟨_, .assign _, _, _, _, _⟩ :: _) _ _; refine EL.f (FV.assign rfl) rfl rfl ?_)
           | (show EL _ _ _ _ (⟨_, .pick _ _ _, _, _, _, _⟩ :: _) _ _; refine EL.f (FV.pickF rfl rfl) rfl rfl ?_)
           | (show EL _ _ _ _ (⟨_, .binOp .lss _ _ _ _, _, _, _, _⟩ :: _) _ _; refine EL.fT (FV.lss rfl rfl) rfl (fun _ => rfl) (by omega) ?_)
           | (show EL _ _ _ _ (⟨_, .indexAddr _ _ _, _, _, _, _⟩ :: _) _ _; first | refine EL.f (FV.idx0 rfl rfl rfl rfl (by omega) (by omega)) rfl rfl ?_ | refine EL.f (FV.idx1 rfl rfl rfl rfl (by omega) (by omega)) rfl rfl ?_))
        | refine EL.nil ?_
        | refine EW.seq ?_
        | refine EW.region ?_
        | refine EW.block ?_
        | refine EW.skip ?_
        | refine EW.condT rfl ?_)
      refine EL.h (Hv.storeB rfl rfl hat (by rw [hol]; omega)) rfl (fun _ => rfl) ?_
      rintro _ w7 ⟨hat7, on7⟩
      repeat' (first
        | refine EL.f (FV.move rfl) rfl rfl ?_
        | refine EL.f (FV.addI rfl rfl (by omega)) rfl rfl ?_
        | refine EL.nil ?_
        | refine EW.region ?_)
      exact ⟨i + 1, ⟨rfl, rfl, rfl, rfl, rfl, rfl, trivial⟩, ⟨by omega, by rw [hset]; exact hat7, At.only hb on7 (by simp; exact n1), Only.both hon on7⟩, by omega⟩
    · rw [hv] at hcr
      rw [hv, Bool.true_or] at hset
      repeat' (first
        | (show EL _ _ _ _ (_ :: _) _ _
           first
           | (show EL _ _ _ _ (⟨_, _, _, _, _, some _⟩ :: _) _ _; refine EL.skip rfl rfl ?_)
           | (show EL _ _ _ _ (⟨_, .load _ _, _, _, _, _⟩ :: _) _ _; first | refine EL.f (FV.load1 rfl rfl rfl hc6) rfl rfl ?_ | refine EL.f (FV.load1 rfl rfl rfl hcr) rfl rfl ?_)
           | (show EL _ _ _ _ (⟨_, .move _, _, _, _, _⟩ :: _) _ _; refine EL.f (FV.move rfl) rfl rfl ?_)
           | (show EL _ _ _ _ (⟨_, .assign _, _, _, _, _⟩ :: _) _ _; refine EL.f (FV.assign rfl) rfl rfl ?_)
           | (show EL _ _ _ _ (⟨_, .pick _ _ _, _, _, _, _⟩ :: _) _ _; refine EL.f (FV.pickT rfl rfl) rfl rfl ?_)
           | (show EL _ _ _ _ (⟨_, .binOp .lss _ _ _ _, _, _, _, _⟩ :: _) _ _; refine EL.fT (FV.lss rfl rfl) rfl (fun _ => rfl) (by omega) ?_)
           | (show EL _ _ _ _ (⟨_, .indexAddr _ _ _, _, _, _, _⟩ :: _) _ _; first | refine EL.f (FV.idx0 rfl rfl rfl rfl (by omega) (by omega)) rfl rfl ?_ | refine EL.f (FV.idx1 rfl rfl rfl rfl (by omega) (by omega)) rfl rfl ?_))
        | refine EL.nil ?_
        | refine EW.seq ?_
        | refine EW.region ?_
        | refine EW.block ?_
        | refine EW.skip ?_
        | refine EW.condT rfl ?_)
      refine EL.h (Hv.storeB rfl rfl hat (by rw [hol]; omega)) rfl (fun _ => rfl) ?_
      rintro _ w7 ⟨hat7, on7⟩
      repeat' (first
        | refine EL.f (FV.move rfl) rfl rfl ?_
        | refine EL.f (FV.addI rfl rfl (by omega)) rfl rfl ?_
        | refine EL.nil ?_
        | refine EW.region ?_)
      exact ⟨i + 1, ⟨rfl, rfl, rfl, rfl, rfl, rfl, trivial⟩, ⟨by omega, by rw [hset]; exact hat7, At.only hb on7 (by simp; exact n1), Only.both hon on7⟩, by omega⟩
  obtain rfl : i = (opsL x).length := by omega
  rw [hstep] at hat
  repeat' (first
    | (show EL _ _ _ _ (_ :: _) _ _
       first
       | (show EL _ _ _ _ (⟨_, .move _, _, _, _, _⟩ :: _) _ _; refine EL.f (FV.move rfl) rfl rfl ?_)
       | (show EL _ _ _ _ (⟨_, .assign _, _, _, _, _⟩ :: _) _ _; refine EL.f (FV.assign rfl) rfl rfl ?_)
       | (show EL _ _ _ _ (⟨_, .binOp .sub _ _ _ _, _, _, _, _⟩ :: _) _ _; refine EL.f (FV.subI rfl rfl (by omega)) rfl rfl ?_)
       | (show EL _ _ _ _ (⟨_, .binOp .lss _ _ _ _, _, _, _, _⟩ :: _) _ _; refine EL.fF (FV.lss rfl rfl) rfl (fun _ => rfl) (by omega) ?_))
    | refine EL.nil ?_
    | refine EW.seq ?_
    | refine EW.region ?_
    | refine EW.exit ?_
    | refine EW.condF rfl ?_)
  exact ⟨m, ⟨rfl, rfl, rfl, trivial⟩, ⟨by omega, by rw [hnext]; exact hat, hb, Ext.only hw5 hon hgw⟩, by omega⟩
set_option maxHeartbeats 4000000 in
theorem specNeeds (b o : Nat) (t : Tp) (g : Nat) (nd : List Bool) (w0 w : World) (h : TapeP w0 b o t) (he0 : Ext w0 w) (hg : w0.heap.size ≤ g) (okc : ∀ k, k < t.code.length → okI t.inputs (t.code.getD k dIns) k = true) (hcl : t.code.length ≤ 3200) (hat : At w 4 1 g t.code.length t.code.length (bools nd)) (hndl : nd.length = t.code.length) :
    CallsR Try.prog 32 [.pointer (some ⟨b, o, none⟩), .slice (some ⟨g, 0, none⟩) t.code.length t.code.length] w fun r w' => r = .tuple #[] ∧ At w' 4 1 g t.code.length t.code.length (bools (nS t nd t.code.length)) ∧ Only [some g] w w' := by
  obtain ⟨P, p, Q, q, R, r, hb0, r1, r2, r3⟩ := h
  refine CallsR.enter Try.func32 (by decide +kernel) rfl Try.ntmps32 rfl ?_
  repeat' (first
    | (show EL _ _ _ _ (_ :: _) _ _
       first
       | (show EL _ _ _ _ (⟨_, .nilCheck _, _, _, _, _⟩ :: _) _ _; refine EL.f (FV.nilChk rfl) rfl rfl ?_)
       | (show EL _ _ _ _ (⟨_, .fieldAddr _ _ _, _, _, _, _⟩ :: _) _ _; refine EL.f (FV.fieldAddr rfl rfl rfl rfl rfl) rfl rfl ?_)
       | (show EL _ _ _ _ (⟨_, .load _ _, _, _, _, _⟩ :: _) _ _; refine EL.f (FV.load1 rfl rfl rfl ((hb0.ext he0) 1 _ rfl)) rfl rfl ?_)
       | (show EL _ _ _ _ (⟨_, .move _, _, _, _, _⟩ :: _) _ _; refine EL.f (FV.move rfl) rfl rfl ?_)
       | (show EL _ _ _ _ (⟨_, .assign _, _, _, _, _⟩ :: _) _ _; refine EL.f (FV.assign rfl) rfl rfl ?_)
       | (show EL _ _ _ _ (⟨_, .binOp .sub _ _ _ _, _, _, _, _⟩ :: _) _ _; refine EL.f (FV.subI rfl rfl (by omega)) rfl rfl ?_)
       | (show EL _ _ _ _ (⟨_, .call _, _, _, _, _⟩ :: _) _ _; refine EL.f (FV.len rfl rfl) rfl rfl ?_))
    | refine EL.nil ?_
    | refine EW.seq ?_
    | refine EW.region ?_
    | refine EW.block ?_)
  refine EW.loop (fun m wr => m ≤ t.code.length ∧ At wr 4 1 g t.code.length t.code.length (bools (nS t nd (t.code.length - m))) ∧ Only [some g] w wr) (fun m => [(0, .pointer (some ⟨b, o, none⟩)), (1, .slice (some ⟨g, 0, none⟩) t.code.length t.code.length), (4, .int .i64 ((m : Int) - 1))]) (fun m => m) t.code.length ⟨Nat.le_refl _, by rw [Nat.sub_self]; exact hat, (Only.ext (Ext.refl _)).mono (by simp)⟩ ⟨rfl, rfl, rfl, trivial⟩ ?_
  clear hat
  rintro m wr ⟨hm, hat, hon⟩
  cases m with
  | zero =>
    repeat' (first
      | refine EL.f (FV.move rfl) rfl rfl ?_
      | refine EL.fF (FV.geq rfl rfl) rfl (fun _ => rfl) (by omega) ?_
      | refine EL.nil ?_
      | refine EW.seq ?_
      | refine EW.region ?_
      | refine EW.exit ?_
      | refine EW.condF rfl ?_)
    exact ⟨_, rfl, rfl, hat, hon⟩
  | succ m =>
  rw [show (((m + 1 : Nat)) : Int) - 1 = (m : Int) from by omega]
  have hwr := Ext.only he0 hon hg
  have hbr := hb0.ext hwr
  obtain ⟨x1, p1, rfl, hp⟩ := Rd.elem insV_length (by decide) dIns (r1.ext hwr) (k := m) (by omega)
  have okk := okc m (by omega)
  have hop := okI_op okk
  have hnext := nS_next (t := t) (nd := nd) (m := m) (by omega)
  have hal := nS_length t nd (t.code.length - (m + 1))
  generalize nS t nd (t.code.length - (m + 1)) = a at *
  generalize t.code.getD m dIns = x at *
  repeat' (first
    | (show EL _ _ _ _ (_ :: _) _ _
       first
       | (show EL _ _ _ _ (⟨_, .nilCheck _, _, _, _, _⟩ :: _) _ _; refine EL.f (FV.nilChk rfl) rfl rfl ?_)
       | (show EL _ _ _ _ (⟨_, .fieldAddr _ _ _, _, _, _, _⟩ :: _) _ _; refine EL.f (FV.fieldAddr rfl rfl rfl rfl rfl) rfl rfl ?_)
       | (show EL _ _ _ _ (⟨_, .load _ _, _, _, _, _⟩ :: _) _ _; first | refine EL.f (FV.load1 rfl rfl rfl (hbr 1 _ rfl)) rfl rfl ?_ | refine EL.f (FV.loadAgg (cs := insV x) rfl rfl rfl rfl rfl (fun _ e => hp.ext (e ▸ Ext.refl _))) rfl rfl ?_)
       | (show EL _ _ _ _ (⟨_, .indexAddr _ _ _, _, _, _, _⟩ :: _) _ _; refine EL.f (FV.idx rfl rfl rfl rfl (by omega) (by omega)) rfl rfl ?_)
       | (show EL _ _ _ _ (⟨_, .move _, _, _, _, _⟩ :: _) _ _; refine EL.f (FV.move rfl) rfl rfl ?_)
       | (show EL _ _ _ _ (⟨_, .binOp .geq _ _ _ _, _, _, _, _⟩ :: _) _ _; refine EL.fT (FV.geq rfl rfl) rfl (fun _ => rfl) (by omega) ?_))
    | refine EL.nil ?_
    | refine EW.seq ?_
    | refine EW.region ?_
    | refine EW.block ?_
    | refine EW.skip ?_
    | refine EW.condT rfl ?_)
  refine EL.h (Hv.allocA rfl rfl) rfl (fun _ => rfl) ?_
  rintro _ w4 ⟨g4, rfl, hg4, h4, he4⟩
  skip
  refine EL.h (Hv.storeAggG (vs := insV x) rfl rfl rfl rfl (insV_one _) h4 (Nat.le_refl _)) rfl (fun _ => rfl) ?_
  rintro _ w5 ⟨h5, hr5⟩
  replace h5 : At w5 72 4 g4 1 1 (insV x) := h5
  have hw5 : Ext wr w5 := Below.wr he4 hr5 (by omega) (Nat.le_refl _)
  replace hat := At.ext hat hw5
  have hcm := At.cell hat (bools_get (k := m) (by omega))
  have on5 := Only.fore hon hw5
  cases hv : a.getD m false
  · rw [hv] at hcm
    have e : nStep m x a = a := by unfold nStep; rw [hv, if_neg (by decide)]
    repeat' (first
      | (show EL _ _ _ _ (_ :: _) _ _
         first
         | (show EL _ _ _ _ (⟨_, _, _, _, _, some _⟩ :: _) _ _; refine EL.skip rfl rfl ?_)
         | (show EL _ _ _ _ (⟨_, .load _ _, _, _, _, _⟩ :: _) _ _; refine EL.f (FV.load1 rfl rfl rfl hcm) rfl rfl ?_)
         | (show EL _ _ _ _ (⟨_, .move _, _, _, _, _⟩ :: _) _ _; refine EL.f (FV.move rfl) rfl rfl ?_)
         | (show EL _ _ _ _ (⟨_, .assign _, _, _, _, _⟩ :: _) _ _; refine EL.f (FV.assign rfl) rfl rfl ?_)
         | (show EL _ _ _ _ (⟨_, .binOp .sub _ _ _ _, _, _, _, _⟩ :: _) _ _; refine EL.f (FV.subI rfl rfl (by omega)) rfl rfl ?_)
         | (show EL _ _ _ _ (⟨_, .unOp .not _ _, _, _, _, _⟩ :: _) _ _; refine EL.f (FV.not rfl) rfl rfl ?_)
         | (show EL _ _ _ _ (⟨_, .pick _ _ _, _, _, _, _⟩ :: _) _ _; refine EL.f (FV.pickT rfl rfl) rfl rfl ?_)
         | (show EL _ _ _ _ (⟨_, .indexAddr _ _ _, _, _, _, _⟩ :: _) _ _; refine EL.f (FV.idx0 rfl rfl rfl rfl (by omega) (by omega)) rfl rfl ?_))
      | refine EL.nil ?_
      | refine EW.seq ?_
      | refine EW.region ?_
      | refine EW.exit ?_
      | refine EW.condT rfl ?_)
    exact ⟨m, ⟨rfl, rfl, rfl, trivial⟩, ⟨by omega, by rw [hnext, e]; exact hat, on5⟩, by omega⟩
  rw [hv] at hcm
  by_cases h2 : x.op ≤ 2
  · have e : nStep m x a = a := by unfold nStep; rw [hv, if_pos rfl, if_neg (by omega), if_neg (by omega)]
    repeat' (first
      | (show EL _ _ _ _ (_ :: _) _ _
         first
         | (show EL _ _ _ _ (⟨_, .fieldAddr _ _ _, _, _, _, _⟩ :: _) _ _; refine EL.f (FV.fieldAddr rfl rfl rfl rfl rfl) rfl rfl ?_)
         | (show EL _ _ _ _ (⟨_, .load _ _, _, _, _, _⟩ :: _) _ _; first | refine EL.f (FV.load1 rfl rfl rfl (At.cell h5 rfl)) rfl rfl ?_ | refine EL.f (FV.load1 rfl rfl rfl hcm) rfl rfl ?_)
         | (show EL _ _ _ _ (⟨_, .move _, _, _, _, _⟩ :: _) _ _; refine EL.f (FV.move rfl) rfl rfl ?_)
         | (show EL _ _ _ _ (⟨_, .assign _, _, _, _, _⟩ :: _) _ _; refine EL.f (FV.assign rfl) rfl rfl ?_)
         | (show EL _ _ _ _ (⟨_, .binOp .sub _ _ _ _, _, _, _, _⟩ :: _) _ _; refine EL.f (FV.subI rfl rfl (by omega)) rfl rfl ?_)
         | (show EL _ _ _ _ (⟨_, .unOp .not _ _, _, _, _, _⟩ :: _) _ _; refine EL.f (FV.not rfl) rfl rfl ?_)
         | (show EL _ _ _ _ (⟨_, .pick _ _ _, _, _, _, _⟩ :: _) _ _; refine EL.f (FV.pickF rfl rfl) rfl rfl ?_)
         | (show EL _ _ _ _ (⟨_, .binOp .leq _ _ _ _, _, _, _, _⟩ :: _) _ _; refine EL.fT (FV.leq rfl rfl) rfl (fun _ => rfl) (by omega) ?_)
         | (show EL _ _ _ _ (⟨_, .indexAddr _ _ _, _, _, _, _⟩ :: _) _ _; refine EL.f (FV.idx0 rfl rfl rfl rfl (by omega) (by omega)) rfl rfl ?_))
      | refine EL.nil ?_
      | refine EW.seq ?_
      | refine EW.region ?_
      | refine EW.exit ?_
      | refine EW.condT rfl ?_)
    exact ⟨m, ⟨rfl, rfl, rfl, trivial⟩, ⟨by omega, by rw [hnext, e]; exact hat, on5⟩, by omega⟩
  have oa : 0 ≤ x.a ∧ x.a < m := by
    by_cases o7 : x.op = 7
    · exact okI_neg okk o7
    · exact (okI_bin okk (by omega)).1
  have n4 := At.ne h5 hat (by decide)
  repeat' (first
    | (show EL _ _ _ _ (_ :: _) _ _
       first
       | (show EL _ _ _ _ (⟨_, .fieldAddr _ _ _, _, _, _, _⟩ :: _) _ _; refine EL.f (FV.fieldAddr rfl rfl rfl rfl rfl) rfl rfl ?_)
       | (show EL _ _ _ _ (⟨_, .load _ _, _, _, _, _⟩ :: _) _ _; first | refine EL.f (FV.load1 rfl rfl rfl (At.cell h5 rfl)) rfl rfl ?_ | refine EL.f (FV.load1 rfl rfl rfl hcm) rfl rfl ?_)
       | (show EL _ _ _ _ (⟨_, .move _, _, _, _, _⟩ :: _) _ _; refine EL.f (FV.move rfl) rfl rfl ?_)
       | (show EL _ _ _ _ (⟨_, .unOp .not _ _, _, _, _, _⟩ :: _) _ _; refine EL.f (FV.not rfl) rfl rfl ?_)
       | (show EL _ _ _ _ (⟨_, .pick _ _ _, _, _, _, _⟩ :: _) _ _; refine EL.f (FV.pickF rfl rfl) rfl rfl ?_)
       | (show EL _ _ _ _ (⟨_, .binOp .leq _ _ _ _, _, _, _, _⟩ :: _) _ _; refine EL.fF (FV.leq rfl rfl) rfl (fun _ => rfl) (by omega) ?_)
       | (show EL _ _ _ _ (⟨_, .indexAddr _ _ _, _, _, _, _⟩ :: _) _ _; refine EL.f (FV.idx0 rfl rfl rfl rfl (by omega) (by omega)) rfl rfl ?_))
    | refine EL.nil ?_
    | refine EW.seq ?_
    | refine EW.region ?_
    | refine EW.skip ?_
    | refine EW.condF rfl ?_)
  refine EL.h (Hv.storeB rfl rfl hat (by omega)) rfl (fun _ => rfl) ?_
  rintro _ w6 ⟨hat6, on6⟩
  replace h5 := At.only h5 on6 (by simp; exact n4)
  by_cases h7 : x.op = 7
  · have e : nStep m x a = a.set x.a.toNat true := by unfold nStep; rw [hv, if_pos rfl, if_neg (by omega), if_pos h7]
    repeat' (first
      | (show EL _ _ _ _ (_ :: _) _ _
         first
         | (show EL _ _ _ _ (⟨_, .fieldAddr _ _ _, _, _, _, _⟩ :: _) _ _; refine EL.f (FV.fieldAddr rfl rfl rfl rfl rfl) rfl rfl ?_)
         | (show EL _ _ _ _ (⟨_, .load _ _, _, _, _, _⟩ :: _) _ _; refine EL.f (FV.load1 rfl rfl rfl (At.cell h5 rfl)) rfl rfl ?_)
         | (show EL _ _ _ _ (⟨_, .move _, _, _, _, _⟩ :: _) _ _; refine EL.f (FV.move rfl) rfl rfl ?_)
         | (show EL _ _ _ _ (⟨_, .assign _, _, _, _, _⟩ :: _) _ _; refine EL.f (FV.assign rfl) rfl rfl ?_)
         | (show EL _ _ _ _ (⟨_, .binOp .sub _ _ _ _, _, _, _, _⟩ :: _) _ _; refine EL.f (FV.subI rfl rfl (by omega)) rfl rfl ?_)
         | (show EL _ _ _ _ (⟨_, .binOp .neq _ _ _ _, _, _, _, _⟩ :: _) _ _; refine EL.fF (FV.neq rfl rfl) rfl (fun _ => rfl) (by omega) ?_))
      | refine EL.nil ?_
      | refine EW.seq ?_
      | refine EW.region ?_
      | refine EW.skip ?_
      | refine EW.condF rfl ?_)
    exact ⟨m, ⟨rfl, rfl, rfl, trivial⟩, ⟨by omega, by rw [hnext, e]; exact hat6, Only.both on5 on6⟩, by omega⟩
  · have ob := (okI_bin okk (by omega)).2
    have e : nStep m x a = (a.set x.a.toNat true).set x.b.toNat true := by unfold nStep; rw [hv, if_pos rfl, if_pos (by omega)]
    repeat' (first
      | (show EL _ _ _ _ (_ :: _) _ _
         first
         | (show EL _ _ _ _ (⟨_, .fieldAddr _ _ _, _, _, _, _⟩ :: _) _ _; refine EL.f (FV.fieldAddr rfl rfl rfl rfl rfl) rfl rfl ?_)
         | (show EL _ _ _ _ (⟨_, .load _ _, _, _, _, _⟩ :: _) _ _; refine EL.f (FV.load1 rfl rfl rfl (At.cell h5 rfl)) rfl rfl ?_)
         | (show EL _ _ _ _ (⟨_, .move _, _, _, _, _⟩ :: _) _ _; refine EL.f (FV.move rfl) rfl rfl ?_)
         | (show EL _ _ _ _ (⟨_, .binOp .neq _ _ _ _, _, _, _, _⟩ :: _) _ _; refine EL.fT (FV.neq rfl rfl) rfl (fun _ => rfl) (by omega) ?_)
         | (show EL _ _ _ _ (⟨_, .indexAddr _ _ _, _, _, _, _⟩ :: _) _ _; refine EL.f (FV.idx0 rfl rfl rfl rfl (by omega) (by omega)) rfl rfl ?_))
      | refine EL.nil ?_
      | refine EW.seq ?_
      | refine EW.region ?_
      | refine EW.condT rfl ?_)
    refine EL.h (Hv.storeB rfl rfl hat6 (by rw [List.length_set]; omega)) rfl (fun _ => rfl) ?_
    rintro _ w7 ⟨hat7, on7⟩
    repeat' (first
      | refine EL.f (FV.move rfl) rfl rfl ?_
      | refine EL.f (FV.assign rfl) rfl rfl ?_
      | refine EL.f (FV.subI rfl rfl (by omega)) rfl rfl ?_
      | refine EL.nil ?_
      | refine EW.region ?_)
    exact ⟨m, ⟨rfl, rfl, rfl, trivial⟩, ⟨by omega, by rw [hnext, e]; exact hat7, Only.both (Only.both on5 on6) on7⟩, by omega⟩
section
variable {P : Program} [UTab P] {n : Nat} {S : World → Prop} {ρ : Env} {dst : Option Tmp} {ty : TypeId} {pos : String} {af : Array Edge} {gd : Option (Nat × Bool)}
theorem run_slice_nil {t e : TypeId} (ht : UTab.und P t = some (.slice e)) (A : Addr) (l c : Nat) (w : World) : (Op.equal t (.slice (some A) l c) (.slice none 0 0)).run P w = .ok false w := by
  have h : ∀ d : Nat, (Op.equalIn (d + 1) t (.slice (some A) l c) (.slice none 0 0)).run P w = .ok false w := fun d => by
    simp [Op.equalIn, run_und ht]
  exact h 9999
theorem FV.eqlNil {x y : Operand} {t u e : TypeId} {A : Addr} {l c : Nat} (ht : UTab.und P t = some (.slice e)) (hx : ev ρ x = some (.slice (some A) l c)) (hy : ev ρ y = some (.slice none 0 0)) : FV P n S ρ ⟨dst, .binOp .eql t x y u, ty, pos, af, gd⟩ (.bool false) :=
  ⟨fun a ha w _ => by
    have h := run_slice_nil ht A l c w
    simp [execOp, ha.eval hx, ha.eval hy, eqGuard, binOp, h]⟩
end
end Eng
end Go.Proofs.Ytgahkbcfjibjaaa
