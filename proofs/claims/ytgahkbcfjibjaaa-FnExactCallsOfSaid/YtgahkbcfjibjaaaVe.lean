/- ValidExpr: the contracts of both sides. Conditions: the number of nodes. -/
import Derived.Test.YtgahkbcfjibjaaaVp
namespace Go.Proofs.Ytgahkbcfjibjaaa
open Go Go.RowKit
namespace Eng
theorem run_zero {t : TypeId} {z : Value} {s b : Nat} (h : UTab.inf Try.prog t = some (z, s, b)) (w : World) : (zeroValue t).run Try.prog w = .ok z w := (run_inf h w).2.1
theorem run_size {t : TypeId} {z : Value} {s b : Nat} (h : UTab.inf Try.prog t = some (z, s, b)) (w : World) : (sizeOf t).run Try.prog w = .ok s w := (run_inf h w).1
section
variable {P : Program} {n : Nat} {S : World → Prop} {ρ : Env} {dst : Option Tmp} {ty : TypeId} {pos : String} {af : Array Edge} {gd : Option (Nat × Bool)}
/-- a checker put together -/
theorem FV.buildC {x y : Operand} {A : Option Addr} {l cap : Nat} {v : Int} (hx : ev ρ x = some (.agg #[.slice A l cap])) (hy : ev ρ y = some (.int .i64 v)) : FV Try.prog n S ρ ⟨dst, .build 157 #[(0, x), (1, y)], ty, pos, af, gd⟩ (.agg #[.slice A l cap, .int .i64 v]) :=
  ⟨fun c hc w _ => by
    have h0 := run_zero (t := 157) rfl w
    simp [execOp, Instr.build, h0, Instr.fill, hc.eval hx, hc.eval hy, Value.cells]⟩
end
/-- a call that says whether a number lies in a range -/
theorem EL.inS {P : Program} {n : Nat} {ops : Array Oper} {Q : Env → World → Prop} {rest : List Oper} {o : Oper} {ρ : Env} {ρ' : Value → Env} {w : World} {x a b : Int} (hv : Hv P n ρ o w fun v w' => v = .bool (inB x a b) ∧ w = w') (hg : wantE ops ρ o = some true) (hd : ∀ v, putE n o.dst v ρ = some (ρ' v))
    (kt : a ≤ x ∧ x ≤ b → EL P n ops Q rest (ρ' (.bool true)) w) (kf : ¬ (a ≤ x ∧ x ≤ b) → EL P n ops Q rest (ρ' (.bool false)) w) : EL P n ops Q (o :: rest) ρ w := by
  refine EL.h hv hg hd ?_
  rintro _ _ ⟨rfl, rfl⟩
  cases h : inB x a b
  · exact kf fun e => by rw [inB_iff.2 e] at h; cases h
  · exact kt (inB_iff.1 h)
/-- An assertion ahead of the last of four. -/
theorem EW.seq3 {P : Program} {n : Nat} {Q : Exit → Env → World → Prop} {ρ : Env} {w : World} {a b c d : Code} (M : Env → World → Prop) (h : EW P n a (thenE (fun ρ w => EW P n b (thenE (fun ρ w => EW P n c (thenE M Q) ρ w) Q) ρ w) Q) ρ w) (h2 : ∀ ρ' w', M ρ' w' → EW P n d Q ρ' w') : EW P n (.seq a (.seq b (.seq c d))) Q ρ w :=
  EW.seqR h fun _ _ h => EW.seqR h fun _ _ h => EW.seqR h h2
theorem implWithin (x a b : Int) (w : World) : CallsR Try.prog 38 [.int .i64 x, .int .i64 a, .int .i64 b] w fun v w' => v = .bool (inB x a b) ∧ w = w' := by
  refine CallsR.enter Try.func38 (by decide +kernel) rfl Try.ntmps38 rfl ?_
  unfold inB
  repeat' (first
    | (show EL _ _ _ _ (_ :: _) _ _
       first
       | (show EL _ _ _ _ (⟨_, _, _, _, _, some _⟩ :: _) _ _; refine EL.skip rfl rfl ?_)
       | (show EL _ _ _ _ (⟨_, .move _, _, _, _, _⟩ :: _) _ _; refine EL.f (FV.move rfl) rfl rfl ?_)
       | (show EL _ _ _ _ (⟨_, .assign _, _, _, _, _⟩ :: _) _ _; refine EL.f (FV.assign rfl) rfl rfl ?_)
       | (show EL _ _ _ _ (⟨_, .pick _ _ _, _, _, _, _⟩ :: _) _ _; first | refine EL.f (FV.pickT rfl rfl) rfl rfl ?_ | refine EL.f (FV.pickF rfl rfl) rfl rfl ?_)
       | (show EL _ _ _ _ (⟨_, .binOp .leq _ _ _ _, _, _, _, _⟩ :: _) _ _; refine EL.fS (FV.leq rfl rfl) rfl (fun _ => rfl) (fun _ => ?_) (fun _ => ?_))
       | (show EL _ _ _ _ (⟨_, .binOp .geq _ _ _ _, _, _, _, _⟩ :: _) _ _; refine EL.fS (FV.geq rfl rfl) rfl (fun _ => rfl) (fun _ => ?_) (fun _ => ?_)))
    | refine EL.nil ?_
    | refine EW.seq ?_
    | refine EW.region ?_
    | refine EW.ret ?_)
  all_goals first
    | exact ⟨_, rfl, by rw [decide_eq_true]; omega, rfl⟩
    | exact ⟨_, rfl, by rw [decide_eq_false]; omega, rfl⟩
theorem implWithinR {x a b : Int} {r : Bool} (h : inB x a b = r) (w : World) : CallsR Try.prog 38 [.int .i64 x, .int .i64 a, .int .i64 b] w fun v w' => v = .bool r ∧ w = w' := h ▸ implWithin x a b w
theorem implNumber (x : Int) (w : World) : CallsR Try.prog 80 [.int .i64 x] w fun v w' => v = .bool (inB x 0 1000002) ∧ w = w' := by
  refine CallsR.enter Try.func80 (by decide +kernel) rfl Try.ntmps80 rfl ?_
  repeat' (first
    | (refine EL.h (Hv.call (implWithin _ _ _ _) rfl) rfl (fun _ => rfl) ?_; rintro _ _ ⟨rfl, rfl⟩)
    | refine EL.f (FV.move rfl) rfl rfl ?_
    | refine EL.f (FV.assign rfl) rfl rfl ?_
    | refine EL.nil ?_
    | refine EW.seq ?_
    | refine EW.region ?_
    | refine EW.ret ?_)
  exact ⟨_, rfl, rfl, rfl⟩
theorem implVars (x : Int) (w : World) : CallsR Try.prog 57 [.int .i64 x] w fun v w' => v = .bool (inB x 0 412) ∧ w = w' := by
  refine CallsR.enter Try.func57 (by decide +kernel) rfl Try.ntmps57 rfl ?_
  repeat' (first
    | (refine EL.h (Hv.call (implWithin _ _ _ _) rfl) rfl (fun _ => rfl) ?_; rintro _ _ ⟨rfl, rfl⟩)
    | refine EL.f (FV.move rfl) rfl rfl ?_
    | refine EL.f (FV.assign rfl) rfl rfl ?_
    | refine EL.nil ?_
    | refine EW.seq ?_
    | refine EW.region ?_
    | refine EW.ret ?_)
  exact ⟨_, rfl, rfl, rfl⟩
theorem specNumber (x : Int) (w : World) : CallsR Try.prog 79 [.int .i64 x] w fun v w' => v = .bool (inB x 0 1000002) ∧ w = w' := by
  refine CallsR.enter Try.func79 (by decide +kernel) rfl Try.ntmps79 rfl ?_
  repeat' (first
    | (refine EL.h (Hv.call (specIn _ _ _ _) rfl) rfl (fun _ => rfl) ?_; rintro _ _ ⟨rfl, rfl⟩)
    | refine EL.f (FV.move rfl) rfl rfl ?_
    | refine EL.f (FV.assign rfl) rfl rfl ?_
    | refine EL.nil ?_
    | refine EW.seq ?_
    | refine EW.region ?_
    | refine EW.ret ?_)
  exact ⟨_, rfl, rfl, rfl⟩
theorem specVars (x : Int) (w : World) : CallsR Try.prog 54 [.int .i64 x] w fun v w' => v = .bool (inB x 0 412) ∧ w = w' := by
  refine CallsR.enter Try.func54 (by decide +kernel) rfl Try.ntmps54 rfl ?_
  repeat' (first
    | (refine EL.h (Hv.call (specIn _ _ _ _) rfl) rfl (fun _ => rfl) ?_; rintro _ _ ⟨rfl, rfl⟩)
    | refine EL.f (FV.move rfl) rfl rfl ?_
    | refine EL.f (FV.assign rfl) rfl rfl ?_
    | refine EL.nil ?_
    | refine EW.seq ?_
    | refine EW.region ?_
    | refine EW.ret ?_)
  exact ⟨_, rfl, rfl, rfl⟩
theorem specKids (k : Int) (w : World) : CallsR Try.prog 118 [.int .i64 k] w fun v w' => v = .int .i64 (kidsN k) ∧ w = w' := by
  refine CallsR.enter Try.func118 (by decide +kernel) rfl Try.ntmps118 rfl ?_
  repeat' (first
    | refine EL.f (FV.move rfl) rfl rfl ?_
    | refine EL.f (FV.assign rfl) rfl rfl ?_
    | refine EL.fS (FV.eql rfl rfl) rfl (fun _ => rfl) (fun _ => ?_) (fun _ => ?_)
    | refine EL.nil ?_
    | refine EW.seq ?_
    | refine EW.region ?_
    | refine EW.block ?_
    | refine EW.skip ?_
    | refine EW.ret ?_
    | refine EW.condT rfl ?_
    | refine EW.condF rfl ?_)
  all_goals exact ⟨_, rfl, by
    congr 1
    unfold kidsN
    repeat' split
    all_goals omega, rfl⟩
set_option maxHeartbeats 16000000 in
theorem implFormed (fs : List Fu) (A : Option Addr) (cap : Nat) (funcs : Int) (hf : 0 ≤ funcs ∧ funcs ≤ fs.length) (e : Ex) : ∀ vars cs w, 0 ≤ vars → vars + (e.depth : Int) ≤ 10000000 → FsB w 0 A fs → ExB w 0 cs e → CallsR Try.prog 106 [.agg #[.slice A fs.length cap, .int .i64 funcs], .agg cs.toArray, .int .i64 vars] w fun v w' => v = .bool (e.formed fs funcs vars) ∧ Ext w w' := by
  induction e using Ex.ind with
  | h k n p c ks ih =>
  intro vars cs w hv0 hv1 hfs hx
  have hge := hfs.1
  obtain ⟨B, bap, rfl, hks⟩ := hx.inv
  have hr := hks.1
  have hdk := fun i (hi : i < ks.length) => depth_kid hi
  simp only [Ex.depth] at hv1
  refine CallsR.enter Try.func106 (by decide +kernel) rfl Try.ntmps106 rfl ?_
  repeat' (first
    | refine EW.seq ?_
    | refine EW.region ?_)
  refine EL.h (Hv.boxA (sz := 2) rfl rfl) rfl (fun _ => rfl) ?_
  rintro _ w1 ⟨g1, rfl, hg1, hb1, he1⟩
  skip
  refine EL.h (Hv.boxA (sz := 5) rfl rfl) rfl (fun _ => rfl) ?_
  rintro _ w2 ⟨g2, rfl, hg2, hb, he2⟩
  replace hb1 := At.ext hb1 he2
  have hw2 := he1.trans he2
  refine EL.f (FV.assign rfl) rfl rfl ?_
  refine EL.nil ?_
  refine EW.seq3 (fun ρ' w' => Sub [(2, .int .i64 vars), (3, .pointer (some ⟨g1, 0, none⟩)), (4, .pointer (some ⟨g2, 0, none⟩))] ρ' ∧ Ext w2 w' ∧ NodeOk (fs.getD n.toNat dFu).params (fs.getD n.toNat dFu).outs.length funcs vars k n p c ks.length) ?_ ?_
  · by_cases hk : k = 10 ∨ k = 11
    · by_cases hn : 0 ≤ n ∧ n ≤ funcs - 1
      rotate_left
      · repeat' (first
          | (show EL _ _ _ _ (_ :: _) _ _
             first
             | (show EL _ _ _ _ (⟨_, _, _, _, _, some _⟩ :: _) _ _; refine EL.skip rfl rfl ?_)
             | (show EL _ _ _ _ (⟨_, .fieldAddr _ _ _, _, _, _, _⟩ :: _) _ _; refine EL.f (FV.fieldAddr rfl rfl rfl rfl rfl) rfl rfl ?_)
             | (show EL _ _ _ _ (⟨_, .load _ _, _, _, _, _⟩ :: _) _ _; first | refine EL.f (FV.load1 rfl rfl rfl (At.cell hb rfl)) rfl rfl ?_ | refine EL.f (FV.load1 rfl rfl rfl (At.cell hb1 rfl)) rfl rfl ?_)
             | (show EL _ _ _ _ (⟨_, .call _, _, _, _, _⟩ :: _) _ _; first | (refine EL.h (Hv.call (implWithinR (r := false) (by unfold inB; exact decide_eq_false (by omega)) _) rfl) rfl (fun _ => rfl) ?_; rintro _ _ ⟨rfl, rfl⟩) | refine EL.f (FV.len rfl rfl) rfl rfl ?_)
             | (show EL _ _ _ _ (⟨_, .move _, _, _, _, _⟩ :: _) _ _; refine EL.f (FV.move rfl) rfl rfl ?_)
             | (show EL _ _ _ _ (⟨_, .assign _, _, _, _, _⟩ :: _) _ _; refine EL.f (FV.assign rfl) rfl rfl ?_)
             | (show EL _ _ _ _ (⟨_, .binOp .sub _ _ _ _, _, _, _, _⟩ :: _) _ _; refine EL.f (FV.subI rfl rfl (by omega)) rfl rfl ?_)
             | (show EL _ _ _ _ (⟨_, .unOp .not _ _, _, _, _, _⟩ :: _) _ _; refine EL.f (FV.not rfl) rfl rfl ?_)
             | (show EL _ _ _ _ (⟨_, .pick _ _ _, _, _, _, _⟩ :: _) _ _; first | refine EL.f (FV.pickT rfl rfl) rfl rfl ?_ | refine EL.f (FV.pickF rfl rfl) rfl rfl ?_)
             | (show EL _ _ _ _ (⟨_, .binOp .eql _ _ _ _, _, _, _, _⟩ :: _) _ _; first | refine EL.fT (FV.eql rfl rfl) rfl (fun _ => rfl) (by omega) ?_ | refine EL.fF (FV.eql rfl rfl) rfl (fun _ => rfl) (by omega) ?_ | refine EL.fS (FV.eql rfl rfl) rfl (fun _ => rfl) (fun _ => ?_) (fun _ => ?_)))
          | refine EL.nil ?_
          | refine EW.seq ?_
          | refine EW.region ?_
          | refine EW.block ?_
          | refine EW.skip ?_
          | refine EW.ret ?_
          | refine EW.condT rfl ?_
          | refine EW.condF rfl ?_)
        all_goals exact ⟨_, rfl, by rw [formed_not (by unfold NodeOk KidsOk; omega)], hw2⟩
      obtain ⟨bf, of, cf, rfl, hL, hX, hc⟩ := (hfs.ext hw2).kid (i := n.toNat) (by omega)
      repeat' (first
        | (show EL _ _ _ _ (_ :: _) _ _
           first
           | (show EL _ _ _ _ (⟨_, _, _, _, _, some _⟩ :: _) _ _; refine EL.skip rfl rfl ?_)
           | (show EL _ _ _ _ (⟨_, .fieldAddr _ _ _, _, _, _, _⟩ :: _) _ _; refine EL.f (FV.fieldAddr rfl rfl rfl rfl rfl) rfl rfl ?_)
           | (show EL _ _ _ _ (⟨_, .load _ _, _, _, _, _⟩ :: _) _ _; first | refine EL.f (FV.load1 rfl rfl rfl (At.cell hb rfl)) rfl rfl ?_ | refine EL.f (FV.load1 rfl rfl rfl (At.cell hb1 rfl)) rfl rfl ?_ | refine EL.f (FV.loadAgg (cs := cf) rfl rfl rfl hc rfl (fun _ e => e ▸ hL)) rfl rfl ?_)
           | (show EL _ _ _ _ (⟨_, .call _, _, _, _, _⟩ :: _) _ _; first | (refine EL.h (Hv.call (implWithinR (r := true) (by unfold inB; exact decide_eq_true (by omega)) _) rfl) rfl (fun _ => rfl) ?_; rintro _ _ ⟨rfl, rfl⟩) | refine EL.f (FV.len rfl rfl) rfl rfl ?_)
           | (show EL _ _ _ _ (⟨_, .indexAddr _ _ _, _, _, _, _⟩ :: _) _ _; refine EL.f (FV.idx rfl rfl rfl rfl (by omega) (by omega)) rfl rfl ?_)
           | (show EL _ _ _ _ (⟨_, .move _, _, _, _, _⟩ :: _) _ _; refine EL.f (FV.move rfl) rfl rfl ?_)
           | (show EL _ _ _ _ (⟨_, .assign _, _, _, _, _⟩ :: _) _ _; refine EL.f (FV.assign rfl) rfl rfl ?_)
           | (show EL _ _ _ _ (⟨_, .binOp .sub _ _ _ _, _, _, _, _⟩ :: _) _ _; refine EL.f (FV.subI rfl rfl (by omega)) rfl rfl ?_)
           | (show EL _ _ _ _ (⟨_, .unOp .not _ _, _, _, _, _⟩ :: _) _ _; refine EL.f (FV.not rfl) rfl rfl ?_)
           | (show EL _ _ _ _ (⟨_, .pick _ _ _, _, _, _, _⟩ :: _) _ _; first | refine EL.f (FV.pickT rfl rfl) rfl rfl ?_ | refine EL.f (FV.pickF rfl rfl) rfl rfl ?_)
           | (show EL _ _ _ _ (⟨_, .binOp .eql _ _ _ _, _, _, _, _⟩ :: _) _ _; first | refine EL.fT (FV.eql rfl rfl) rfl (fun _ => rfl) (by omega) ?_ | refine EL.fF (FV.eql rfl rfl) rfl (fun _ => rfl) (by omega) ?_ | refine EL.fS (FV.eql rfl rfl) rfl (fun _ => rfl) (fun _ => ?_) (fun _ => ?_)))
        | refine EL.nil ?_
        | refine EW.seq ?_
        | refine EW.region ?_
        | refine EW.block ?_
        | refine EW.skip ?_
        | refine EW.condT rfl ?_
        | refine EW.condF rfl ?_)
      all_goals (
        refine EL.h (Hv.allocA rfl rfl) rfl (fun _ => rfl) ?_
        rintro _ w3 ⟨g3, rfl, hg3, h3, he3⟩
        skip
        refine EL.h (Hv.storeAggG (vs := cf) rfl rfl rfl hc hX.one h3 (by rw [hc]; exact Nat.le_refl _)) rfl (fun _ => rfl) ?_
        rintro _ w4 ⟨h4, hr4⟩
        rw [setL_all (by rw [hc]; rfl)] at h4
        have hw4 : Ext w2 w4 := Below.wr he3 hr4 (by omega) (Nat.le_refl _)
        replace hb := At.ext hb hw4
        obtain ⟨A', cap', rfl, hos, _⟩ := hX
        have hr5 := hos.1
        generalize hfe : fs.getD n.toNat dFu = f at *
        repeat' (first
          | (show EL _ _ _ _ (_ :: _) _ _
             first
             | (show EL _ _ _ _ (⟨_, _, _, _, _, some _⟩ :: _) _ _; first | refine EL.skipU rfl rfl ?_ | refine EL.skip rfl rfl ?_)
             | (show EL _ _ _ _ (⟨_, .fieldAddr _ _ _, _, _, _, _⟩ :: _) _ _; refine EL.f (FV.fieldAddr rfl rfl rfl rfl rfl) rfl rfl ?_)
             | (show EL _ _ _ _ (⟨_, .load _ _, _, _, _, _⟩ :: _) _ _; first | refine EL.f (FV.load1 rfl rfl rfl (At.cell hb rfl)) rfl rfl ?_ | refine EL.f (FV.load1 rfl rfl rfl (At.cell h4 rfl)) rfl rfl ?_)
             | (show EL _ _ _ _ (⟨_, .call _, _, _, _, _⟩ :: _) _ _; first | refine EL.inS (Hv.call (implWithin _ _ _ _) rfl) rfl (fun _ => rfl) (fun _ => ?_) (fun _ => ?_) | refine EL.f (FV.len rfl rfl) rfl rfl ?_)
             | (show EL _ _ _ _ (⟨_, .move _, _, _, _, _⟩ :: _) _ _; refine EL.f (FV.move rfl) rfl rfl ?_)
             | (show EL _ _ _ _ (⟨_, .assign _, _, _, _, _⟩ :: _) _ _; refine EL.f (FV.assign rfl) rfl rfl ?_)
             | (show EL _ _ _ _ (⟨_, .binOp .sub _ _ _ _, _, _, _, _⟩ :: _) _ _; refine EL.f (FV.subI rfl rfl (by omega)) rfl rfl ?_)
             | (show EL _ _ _ _ (⟨_, .unOp .not _ _, _, _, _, _⟩ :: _) _ _; refine EL.f (FV.not rfl) rfl rfl ?_)
             | (show EL _ _ _ _ (⟨_, .pick _ _ _, _, _, _, _⟩ :: _) _ _; first | refine EL.f (FV.pickT rfl rfl) rfl rfl ?_ | refine EL.f (FV.pickF rfl rfl) rfl rfl ?_)
             | (show EL _ _ _ _ (⟨_, .binOp .eql _ _ _ _, _, _, _, _⟩ :: _) _ _; first | refine EL.fT (FV.eql rfl rfl) rfl (fun _ => rfl) (by omega) ?_ | refine EL.fF (FV.eql rfl rfl) rfl (fun _ => rfl) (by omega) ?_)
             | (show EL _ _ _ _ (⟨_, .binOp .neq _ _ _ _, _, _, _, _⟩ :: _) _ _; first | refine EL.fT (FV.neq rfl rfl) rfl (fun _ => rfl) (by omega) ?_ | refine EL.fF (FV.neq rfl rfl) rfl (fun _ => rfl) (by omega) ?_ | refine EL.fS (FV.neq rfl rfl) rfl (fun _ => rfl) (fun _ => ?_) (fun _ => ?_)))
          | refine EL.nil ?_
          | refine EW.seq ?_
          | refine EW.region ?_
          | refine EW.skip ?_
          | refine EW.ret ?_
          | refine EW.condT rfl ?_
          | refine EW.condF rfl ?_)
        all_goals first
          | exact ⟨_, rfl, by rw [formed_not (by rw [hfe]; unfold NodeOk KidsOk; omega)], hw2.trans hw4⟩
          | exact ⟨⟨rfl, rfl, rfl, trivial⟩, hw4, by unfold NodeOk KidsOk; omega⟩)
    · repeat' (first
        | (show EL _ _ _ _ (_ :: _) _ _
           first
           | (show EL _ _ _ _ (⟨_, _, _, _, _, some _⟩ :: _) _ _; refine EL.skip rfl rfl ?_)
           | (show EL _ _ _ _ (⟨_, .fieldAddr _ _ _, _, _, _, _⟩ :: _) _ _; refine EL.f (FV.fieldAddr rfl rfl rfl rfl rfl) rfl rfl ?_)
           | (show EL _ _ _ _ (⟨_, .load _ _, _, _, _, _⟩ :: _) _ _; refine EL.f (FV.load1 rfl rfl rfl (At.cell hb rfl)) rfl rfl ?_)
           | (show EL _ _ _ _ (⟨_, .call _, _, _, _, _⟩ :: _) _ _; first | refine EL.inS (Hv.call (implWithin _ _ _ _) rfl) rfl (fun _ => rfl) (fun _ => ?_) (fun _ => ?_) | refine EL.inS (Hv.call (implNumber _ _) rfl) rfl (fun _ => rfl) (fun _ => ?_) (fun _ => ?_) | refine EL.f (FV.len rfl rfl) rfl rfl ?_)
           | (show EL _ _ _ _ (⟨_, .move _, _, _, _, _⟩ :: _) _ _; refine EL.f (FV.move rfl) rfl rfl ?_)
           | (show EL _ _ _ _ (⟨_, .assign _, _, _, _, _⟩ :: _) _ _; refine EL.f (FV.assign rfl) rfl rfl ?_)
           | (show EL _ _ _ _ (⟨_, .binOp .sub _ _ _ _, _, _, _, _⟩ :: _) _ _; refine EL.f (FV.subI rfl rfl (by omega)) rfl rfl ?_)
           | (show EL _ _ _ _ (⟨_, .unOp .not _ _, _, _, _, _⟩ :: _) _ _; refine EL.f (FV.not rfl) rfl rfl ?_)
           | (show EL _ _ _ _ (⟨_, .pick _ _ _, _, _, _, _⟩ :: _) _ _; first | refine EL.f (FV.pickT rfl rfl) rfl rfl ?_ | refine EL.f (FV.pickF rfl rfl) rfl rfl ?_)
           | (show EL _ _ _ _ (⟨_, .binOp .eql _ _ _ _, _, _, _, _⟩ :: _) _ _; first | refine EL.fF (FV.eql rfl rfl) rfl (fun _ => rfl) (by omega) ?_ | refine EL.fS (FV.eql rfl rfl) rfl (fun _ => rfl) (fun _ => ?_) (fun _ => ?_))
           | (show EL _ _ _ _ (⟨_, .binOp .neq _ _ _ _, _, _, _, _⟩ :: _) _ _; refine EL.fS (FV.neq rfl rfl) rfl (fun _ => rfl) (fun _ => ?_) (fun _ => ?_)))
        | refine EL.nil ?_
        | refine EW.seq ?_
        | refine EW.region ?_
        | refine EW.block ?_
        | refine EW.skip ?_
        | refine EW.ret ?_
        | refine EW.condT rfl ?_
        | refine EW.condF rfl ?_)
      all_goals first
        | exact ⟨_, rfl, by rw [formed_not (by unfold NodeOk KidsOk; omega)], hw2⟩
        | exact ⟨_, rfl, by rw [formed_leaf (by unfold NodeOk KidsOk; omega) (by omega)], hw2⟩
        | exact ⟨⟨rfl, rfl, rfl, trivial⟩, Ext.refl _, by unfold NodeOk KidsOk; omega⟩
  rintro ρ' w3 ⟨hsub, he3, hnode⟩
  refine EW.weaken ?_ hsub
  rw [formed_kids hnode]
  replace hb := At.ext hb he3
  have hw3 := hw2.trans he3
  repeat' (first
    | (show EL _ _ _ _ (_ :: _) _ _
       first
       | (show EL _ _ _ _ (⟨_, .fieldAddr _ _ _, _, _, _, _⟩ :: _) _ _; refine EL.f (FV.fieldAddr rfl rfl rfl rfl rfl) rfl rfl ?_)
       | (show EL _ _ _ _ (⟨_, .load _ _, _, _, _, _⟩ :: _) _ _; refine EL.f (FV.load1 rfl rfl rfl (At.cell hb rfl)) rfl rfl ?_)
       | (show EL _ _ _ _ (⟨_, .move _, _, _, _, _⟩ :: _) _ _; refine EL.f (FV.move rfl) rfl rfl ?_)
       | (show EL _ _ _ _ (⟨_, .call _, _, _, _, _⟩ :: _) _ _; refine EL.f (FV.len rfl rfl) rfl rfl ?_))
    | refine EL.nil ?_
    | refine EW.seq ?_
    | refine EW.region ?_
    | refine EW.block ?_)
  refine EW.loop (X := Nat) (fun i wr => i ≤ ks.length ∧ (∀ j, j < i → (ks.getD j dEx).formed fs funcs (ownV k (0 + j) vars) = true) ∧ Ext w3 wr) (fun i => [(2, .int .i64 vars), (3, .pointer (some ⟨g1, 0, none⟩)), (4, .pointer (some ⟨g2, 0, none⟩)), (154, .slice B ks.length bap), (155, .int .i64 ks.length), (156, .int .i64 i)]) (fun i => ks.length - i) 0 ⟨Nat.zero_le _, fun j hj => by omega, Ext.refl _⟩ ⟨rfl, rfl, rfl, rfl, rfl, rfl, trivial⟩ ?_
  rintro i wr ⟨hi, hall, hE⟩
  have hWr := hw3.trans hE
  by_cases hlt : i < ks.length
  rotate_left
  · obtain rfl : i = ks.length := by omega
    repeat' (first
      | refine EL.f (FV.assign rfl) rfl rfl ?_
      | refine EL.fF (FV.lss rfl rfl) rfl (fun _ => rfl) (by omega) ?_
      | refine EL.nil ?_
      | refine EW.seq ?_
      | refine EW.region ?_
      | refine EW.exit ?_
      | refine EW.ret ?_
      | refine EW.condF rfl ?_)
    exact ⟨_, rfl, by rw [formedL_true hall], hWr⟩
  obtain ⟨b, o, cs, rfl, hL, hX, hc⟩ := (hks.ext hWr).kid hlt
  have hdi := hdk i hlt
  have hob := ownV_bound k i vars
  have hcall := fun u => ih i hlt (ownV k i vars) cs u (by omega) (by omega)
  repeat' (first
    | (show EL _ _ _ _ (_ :: _) _ _
       first
       | (show EL _ _ _ _ (⟨_, .indexAddr _ _ _, _, _, _, _⟩ :: _) _ _; refine EL.f (FV.idx rfl rfl rfl rfl (by omega) (by omega)) rfl rfl ?_)
       | (show EL _ _ _ _ (⟨_, .load _ _, _, _, _, _⟩ :: _) _ _; refine EL.f (FV.loadAgg (cs := cs) rfl rfl rfl hc rfl (fun _ e => e ▸ hL)) rfl rfl ?_)
       | (show EL _ _ _ _ (⟨_, .move _, _, _, _, _⟩ :: _) _ _; refine EL.f (FV.move rfl) rfl rfl ?_)
       | (show EL _ _ _ _ (⟨_, .binOp .lss _ _ _ _, _, _, _, _⟩ :: _) _ _; refine EL.fT (FV.lss rfl rfl) rfl (fun _ => rfl) (by omega) ?_))
    | refine EL.nil ?_
    | refine EW.seq ?_
    | refine EW.region ?_
    | refine EW.block ?_
    | refine EW.skip ?_
    | refine EW.condT rfl ?_)
  refine EL.h (Hv.allocA rfl rfl) rfl (fun _ => rfl) ?_
  rintro _ u1 ⟨g5, rfl, hg5, h5, he5⟩
  repeat' (first
    | refine EL.f (FV.assign rfl) rfl rfl ?_)
  refine EL.h (Hv.storeAggG (vs := cs) rfl rfl rfl hc hX.one h5 (by rw [hc]; exact Nat.le_refl _)) rfl (fun _ => rfl) ?_
  rintro _ u2 ⟨h6, hr6⟩
  rw [setL_all (by rw [hc]; rfl)] at h6
  have hu2 : Ext wr u2 := Below.wr he5 hr6 (by omega) (Nat.le_refl _)
  replace hb := At.ext hb (hE.trans hu2)
  replace hb1 := At.ext hb1 ((he3.trans hE).trans hu2)
  have hWu := hWr.trans hu2
  by_cases h9 : k = 9 ∧ i = 1
  · have hov : ownV k i vars = vars + 1 := if_pos h9
    rw [hov] at hcall hob
    repeat' (first
      | (show EL _ _ _ _ (_ :: _) _ _
         first
         | (show EL _ _ _ _ (⟨_, .fieldAddr _ _ _, _, _, _, _⟩ :: _) _ _; refine EL.f (FV.fieldAddr rfl rfl rfl rfl rfl) rfl rfl ?_)
         | (show EL _ _ _ _ (⟨_, .load _ _, _, _, _, _⟩ :: _) _ _; first | refine EL.f (FV.load1 rfl rfl rfl (At.cell hb rfl)) rfl rfl ?_ | refine EL.f (FV.loadAgg (cs := [.slice A fs.length cap, .int .i64 funcs]) rfl rfl rfl rfl rfl (fun _ e => e ▸ At.lies hb1)) rfl rfl ?_ | refine EL.f (FV.loadAgg (cs := cs) rfl rfl rfl hc rfl (fun _ e => e ▸ At.lies h6)) rfl rfl ?_)
         | (show EL _ _ _ _ (⟨_, .move _, _, _, _, _⟩ :: _) _ _; refine EL.f (FV.move rfl) rfl rfl ?_)
         | (show EL _ _ _ _ (⟨_, .assign _, _, _, _, _⟩ :: _) _ _; refine EL.f (FV.assign rfl) rfl rfl ?_)
         | (show EL _ _ _ _ (⟨_, .binOp .add _ _ _ _, _, _, _, _⟩ :: _) _ _; refine EL.f (FV.addI rfl rfl (by omega)) rfl rfl ?_)
         | (show EL _ _ _ _ (⟨_, .pick _ _ _, _, _, _, _⟩ :: _) _ _; refine EL.f (FV.pickT rfl rfl) rfl rfl ?_)
         | (show EL _ _ _ _ (⟨_, .binOp .eql _ _ _ _, _, _, _, _⟩ :: _) _ _; refine EL.fT (FV.eql rfl rfl) rfl (fun _ => rfl) (by omega) ?_))
      | refine EL.nil ?_
      | refine EW.seq ?_
      | refine EW.region ?_
      | refine EW.condT rfl ?_)
    refine EL.h (Hv.call (hcall u2 (hfs.ext hWu) (hX.ext hu2)) rfl) rfl (fun _ => rfl) ?_
    rintro _ u3 ⟨rfl, he7⟩
    have hE3 := (hE.trans hu2).trans he7
    cases hp : (ks.getD i dEx).formed fs funcs (vars + 1)
    · repeat' (first
        | refine EL.f (FV.assign rfl) rfl rfl ?_
        | refine EL.f (FV.not rfl) rfl rfl ?_
        | refine EL.nil ?_
        | refine EW.seq ?_
        | refine EW.region ?_
        | refine EW.ret ?_
        | refine EW.condT rfl ?_)
      exact ⟨_, rfl, by rw [formedL_false (i := 0) (j := i) hlt (by rw [Nat.zero_add, hov]; exact hp)], hw3.trans hE3⟩
    · repeat' (first
        | refine EL.f (FV.move rfl) rfl rfl ?_
        | refine EL.f (FV.addI rfl rfl (by omega)) rfl rfl ?_
        | refine EL.f (FV.not rfl) rfl rfl ?_
        | refine EL.nil ?_
        | refine EW.region ?_
        | refine EW.skip ?_
        | refine EW.condF rfl ?_)
      exact ⟨i + 1, ⟨rfl, rfl, rfl, rfl, rfl, rfl, trivial⟩, ⟨by omega, fun j hj => by
        by_cases e : j = i
        · subst e; rw [Nat.zero_add, hov]; exact hp
        · exact hall j (by omega), hE3⟩, by omega⟩
  · have hov : ownV k i vars = vars := if_neg h9
    rw [hov] at hcall hob
    by_cases hk9 : k = 9
    · have hi1 : ¬ i = 1 := fun e => h9 ⟨hk9, e⟩
      repeat' (first
        | (show EL _ _ _ _ (_ :: _) _ _
           first
           | (show EL _ _ _ _ (⟨_, .fieldAddr _ _ _, _, _, _, _⟩ :: _) _ _; refine EL.f (FV.fieldAddr rfl rfl rfl rfl rfl) rfl rfl ?_)
           | (show EL _ _ _ _ (⟨_, .load _ _, _, _, _, _⟩ :: _) _ _; first | refine EL.f (FV.load1 rfl rfl rfl (At.cell hb rfl)) rfl rfl ?_ | refine EL.f (FV.loadAgg (cs := [.slice A fs.length cap, .int .i64 funcs]) rfl rfl rfl rfl rfl (fun _ e => e ▸ At.lies hb1)) rfl rfl ?_ | refine EL.f (FV.loadAgg (cs := cs) rfl rfl rfl hc rfl (fun _ e => e ▸ At.lies h6)) rfl rfl ?_)
           | (show EL _ _ _ _ (⟨_, .move _, _, _, _, _⟩ :: _) _ _; refine EL.f (FV.move rfl) rfl rfl ?_)
           | (show EL _ _ _ _ (⟨_, .assign _, _, _, _, _⟩ :: _) _ _; refine EL.f (FV.assign rfl) rfl rfl ?_)
           | (show EL _ _ _ _ (⟨_, .pick _ _ _, _, _, _, _⟩ :: _) _ _; refine EL.f (FV.pickT rfl rfl) rfl rfl ?_)
           | (show EL _ _ _ _ (⟨_, .binOp .eql _ _ _ _, _, _, _, _⟩ :: _) _ _; first | refine EL.fT (FV.eql rfl rfl) rfl (fun _ => rfl) (by omega) ?_ | refine EL.fF (FV.eql rfl rfl) rfl (fun _ => rfl) (by omega) ?_))
        | refine EL.nil ?_
        | refine EW.seq ?_
        | refine EW.region ?_
        | refine EW.skip ?_
        | refine EW.condF rfl ?_)
      refine EL.h (Hv.call (hcall u2 (hfs.ext hWu) (hX.ext hu2)) rfl) rfl (fun _ => rfl) ?_
      rintro _ u3 ⟨rfl, he7⟩
      have hE3 := (hE.trans hu2).trans he7
      cases hp : (ks.getD i dEx).formed fs funcs (vars)
      · repeat' (first
          | refine EL.f (FV.assign rfl) rfl rfl ?_
          | refine EL.f (FV.not rfl) rfl rfl ?_
          | refine EL.nil ?_
          | refine EW.seq ?_
          | refine EW.region ?_
          | refine EW.ret ?_
          | refine EW.condT rfl ?_)
        exact ⟨_, rfl, by rw [formedL_false (i := 0) (j := i) hlt (by rw [Nat.zero_add, hov]; exact hp)], hw3.trans hE3⟩
      · repeat' (first
          | refine EL.f (FV.move rfl) rfl rfl ?_
          | refine EL.f (FV.addI rfl rfl (by omega)) rfl rfl ?_
          | refine EL.f (FV.not rfl) rfl rfl ?_
          | refine EL.nil ?_
          | refine EW.region ?_
          | refine EW.skip ?_
          | refine EW.condF rfl ?_)
        exact ⟨i + 1, ⟨rfl, rfl, rfl, rfl, rfl, rfl, trivial⟩, ⟨by omega, fun j hj => by
          by_cases e : j = i
          · subst e; rw [Nat.zero_add, hov]; exact hp
          · exact hall j (by omega), hE3⟩, by omega⟩
    · repeat' (first
        | (show EL _ _ _ _ (_ :: _) _ _
           first
           | (show EL _ _ _ _ (⟨_, _, _, _, _, some _⟩ :: _) _ _; refine EL.skip rfl rfl ?_)
           | (show EL _ _ _ _ (⟨_, .fieldAddr _ _ _, _, _, _, _⟩ :: _) _ _; refine EL.f (FV.fieldAddr rfl rfl rfl rfl rfl) rfl rfl ?_)
           | (show EL _ _ _ _ (⟨_, .load _ _, _, _, _, _⟩ :: _) _ _; first | refine EL.f (FV.load1 rfl rfl rfl (At.cell hb rfl)) rfl rfl ?_ | refine EL.f (FV.loadAgg (cs := [.slice A fs.length cap, .int .i64 funcs]) rfl rfl rfl rfl rfl (fun _ e => e ▸ At.lies hb1)) rfl rfl ?_ | refine EL.f (FV.loadAgg (cs := cs) rfl rfl rfl hc rfl (fun _ e => e ▸ At.lies h6)) rfl rfl ?_)
           | (show EL _ _ _ _ (⟨_, .move _, _, _, _, _⟩ :: _) _ _; refine EL.f (FV.move rfl) rfl rfl ?_)
           | (show EL _ _ _ _ (⟨_, .assign _, _, _, _, _⟩ :: _) _ _; refine EL.f (FV.assign rfl) rfl rfl ?_)
           | (show EL _ _ _ _ (⟨_, .pick _ _ _, _, _, _, _⟩ :: _) _ _; refine EL.f (FV.pickF rfl rfl) rfl rfl ?_)
           | (show EL _ _ _ _ (⟨_, .binOp .eql _ _ _ _, _, _, _, _⟩ :: _) _ _; refine EL.fF (FV.eql rfl rfl) rfl (fun _ => rfl) (by omega) ?_))
        | refine EL.nil ?_
        | refine EW.seq ?_
        | refine EW.region ?_
        | refine EW.skip ?_
        | refine EW.condF rfl ?_)
      refine EL.h (Hv.call (hcall u2 (hfs.ext hWu) (hX.ext hu2)) rfl) rfl (fun _ => rfl) ?_
      rintro _ u3 ⟨rfl, he7⟩
      have hE3 := (hE.trans hu2).trans he7
      cases hp : (ks.getD i dEx).formed fs funcs (vars)
      · repeat' (first
          | refine EL.f (FV.assign rfl) rfl rfl ?_
          | refine EL.f (FV.not rfl) rfl rfl ?_
          | refine EL.nil ?_
          | refine EW.seq ?_
          | refine EW.region ?_
          | refine EW.ret ?_
          | refine EW.condT rfl ?_)
        exact ⟨_, rfl, by rw [formedL_false (i := 0) (j := i) hlt (by rw [Nat.zero_add, hov]; exact hp)], hw3.trans hE3⟩
      · repeat' (first
          | refine EL.f (FV.move rfl) rfl rfl ?_
          | refine EL.f (FV.addI rfl rfl (by omega)) rfl rfl ?_
          | refine EL.f (FV.not rfl) rfl rfl ?_
          | refine EL.nil ?_
          | refine EW.region ?_
          | refine EW.skip ?_
          | refine EW.condF rfl ?_)
        exact ⟨i + 1, ⟨rfl, rfl, rfl, rfl, rfl, rfl, trivial⟩, ⟨by omega, fun j hj => by
          by_cases e : j = i
          · subst e; rw [Nat.zero_add, hov]; exact hp
          · exact hall j (by omega), hE3⟩, by omega⟩
theorem fit_validE (fs : List Fu) (e : Ex) (vars funcs : Int) : validE fs e vars funcs = (inB vars 0 412 && (inB funcs 0 fs.length && (decide (e.size ≤ 400) && (decide (e.depth ≤ 60) && e.formed fs funcs vars)))) := rfl
set_option maxHeartbeats 4000000 in
theorem implValidE (fs : List Fu) (e : Ex) (hs : e.size ≤ 1048577) (A : Option Addr) (cap : Nat) (cs : List Value) (vars funcs : Int) (w : World) (hx : FsB w 0 A fs) (hy : ExB w 0 cs e) : CallsR Try.prog 88 [.agg #[.slice A fs.length cap], .agg cs.toArray, .int .i64 vars, .int .i64 funcs] w fun v w' => v = .bool (validE fs e vars funcs) ∧ Ext w w' := by
  have hge := hx.1
  have hdl := depth_le e
  rw [fit_validE]
  refine CallsR.enter Try.func88 (by decide +kernel) rfl Try.ntmps88 rfl ?_
  repeat' (first
    | refine EW.seq ?_
    | refine EW.region ?_)
  refine EL.h (Hv.boxA (sz := 1) rfl rfl) rfl (fun _ => rfl) ?_
  rintro _ w1 ⟨g1, rfl, hg1, hb1, he1⟩
  skip
  refine EL.h (Hv.boxA (sz := 5) rfl hy.len) rfl (fun _ => rfl) ?_
  rintro _ w2 ⟨g2, rfl, hg2, hb, he2⟩
  replace hb1 := At.ext hb1 he2
  have hw2 := he1.trans he2
  by_cases q1 : 0 ≤ vars ∧ vars ≤ 412
  rotate_left
  · have i1 : inB vars 0 412 = false := by unfold inB; exact decide_eq_false q1
    rw [i1]
    repeat' (first
      | (show EL _ _ _ _ (_ :: _) _ _
         first
         | (show EL _ _ _ _ (⟨_, _, _, _, _, some _⟩ :: _) _ _; refine EL.skip rfl rfl ?_)
         | (show EL _ _ _ _ (⟨_, .call _, _, _, _, _⟩ :: _) _ _; (refine EL.h (Hv.call (implVars _ _) rfl) rfl (fun _ => rfl) ?_; rintro _ _ ⟨rfl, rfl⟩; rw [i1]))
         | (show EL _ _ _ _ (⟨_, .move _, _, _, _, _⟩ :: _) _ _; refine EL.f (FV.move rfl) rfl rfl ?_)
         | (show EL _ _ _ _ (⟨_, .assign _, _, _, _, _⟩ :: _) _ _; refine EL.f (FV.assign rfl) rfl rfl ?_)
         | (show EL _ _ _ _ (⟨_, .pick _ _ _, _, _, _, _⟩ :: _) _ _; refine EL.f (FV.pickF rfl rfl) rfl rfl ?_))
      | refine EL.nil ?_
      | refine EW.seq ?_
      | refine EW.region ?_
      | refine EW.ret ?_)
    exact ⟨_, rfl, rfl, hw2⟩
  have i1 : inB vars 0 412 = true := inB_iff.2 q1
  rw [i1]
  by_cases q2 : 0 ≤ funcs ∧ funcs ≤ fs.length
  rotate_left
  · have i2 : inB funcs 0 fs.length = false := by unfold inB; exact decide_eq_false q2
    rw [i2]
    repeat' (first
      | (show EL _ _ _ _ (_ :: _) _ _
         first
         | (show EL _ _ _ _ (⟨_, _, _, _, _, some _⟩ :: _) _ _; refine EL.skip rfl rfl ?_)
         | (show EL _ _ _ _ (⟨_, .fieldAddr _ _ _, _, _, _, _⟩ :: _) _ _; refine EL.f (FV.fieldAddr rfl rfl rfl rfl rfl) rfl rfl ?_)
         | (show EL _ _ _ _ (⟨_, .load _ _, _, _, _, _⟩ :: _) _ _; refine EL.f (FV.load1 rfl rfl rfl (At.cell hb1 rfl)) rfl rfl ?_)
         | (show EL _ _ _ _ (⟨_, .call _, _, _, _, _⟩ :: _) _ _; first | (refine EL.h (Hv.call (implVars _ _) rfl) rfl (fun _ => rfl) ?_; rintro _ _ ⟨rfl, rfl⟩; rw [i1]) | (refine EL.h (Hv.call (implWithinR i2 _) rfl) rfl (fun _ => rfl) ?_; rintro _ _ ⟨rfl, rfl⟩) | refine EL.f (FV.len rfl rfl) rfl rfl ?_)
         | (show EL _ _ _ _ (⟨_, .move _, _, _, _, _⟩ :: _) _ _; refine EL.f (FV.move rfl) rfl rfl ?_)
         | (show EL _ _ _ _ (⟨_, .assign _, _, _, _, _⟩ :: _) _ _; refine EL.f (FV.assign rfl) rfl rfl ?_)
         | (show EL _ _ _ _ (⟨_, .pick _ _ _, _, _, _, _⟩ :: _) _ _; first | refine EL.f (FV.pickT rfl rfl) rfl rfl ?_ | refine EL.f (FV.pickF rfl rfl) rfl rfl ?_))
      | refine EL.nil ?_
      | refine EW.seq ?_
      | refine EW.region ?_
      | refine EW.ret ?_)
    exact ⟨_, rfl, rfl, hw2⟩
  have i2 : inB funcs 0 fs.length = true := inB_iff.2 q2
  rw [i2]
  repeat' (first
    | (show EL _ _ _ _ (_ :: _) _ _
       first
       | (show EL _ _ _ _ (⟨_, .fieldAddr _ _ _, _, _, _, _⟩ :: _) _ _; refine EL.f (FV.fieldAddr rfl rfl rfl rfl rfl) rfl rfl ?_)
       | (show EL _ _ _ _ (⟨_, .load _ _, _, _, _, _⟩ :: _) _ _; first | refine EL.f (FV.load1 rfl rfl rfl (At.cell hb1 rfl)) rfl rfl ?_ | refine EL.f (FV.loadAgg (cs := cs) rfl rfl rfl hy.len rfl (fun _ e => e ▸ At.lies hb)) rfl rfl ?_)
       | (show EL _ _ _ _ (⟨_, .call _, _, _, _, _⟩ :: _) _ _; first | (refine EL.h (Hv.call (implVars _ _) rfl) rfl (fun _ => rfl) ?_; rintro _ _ ⟨rfl, rfl⟩; rw [i1]) | (refine EL.h (Hv.call (implWithinR i2 _) rfl) rfl (fun _ => rfl) ?_; rintro _ _ ⟨rfl, rfl⟩) | refine EL.f (FV.len rfl rfl) rfl rfl ?_)
       | (show EL _ _ _ _ (⟨_, .move _, _, _, _, _⟩ :: _) _ _; refine EL.f (FV.move rfl) rfl rfl ?_)
       | (show EL _ _ _ _ (⟨_, .assign _, _, _, _, _⟩ :: _) _ _; refine EL.f (FV.assign rfl) rfl rfl ?_)
       | (show EL _ _ _ _ (⟨_, .pick _ _ _, _, _, _, _⟩ :: _) _ _; refine EL.f (FV.pickT rfl rfl) rfl rfl ?_))
    | refine EL.nil ?_
    | refine EW.seq ?_
    | refine EW.region ?_)
  refine EL.h (Hv.call (implSize e hs cs w2 (hy.ext hw2)) rfl) rfl (fun _ => rfl) ?_
  rintro _ w3 ⟨rfl, he3⟩
  replace hb := At.ext hb he3
  replace hb1 := At.ext hb1 he3
  have hw3 := hw2.trans he3
  by_cases q3 : e.size ≤ 400
  rotate_left
  · rw [decide_eq_false q3]
    repeat' (first
      | (show EL _ _ _ _ (_ :: _) _ _
         first
         | (show EL _ _ _ _ (⟨_, _, _, _, _, some _⟩ :: _) _ _; refine EL.skip rfl rfl ?_)
         | (show EL _ _ _ _ (⟨_, .move _, _, _, _, _⟩ :: _) _ _; refine EL.f (FV.move rfl) rfl rfl ?_)
         | (show EL _ _ _ _ (⟨_, .assign _, _, _, _, _⟩ :: _) _ _; refine EL.f (FV.assign rfl) rfl rfl ?_)
         | (show EL _ _ _ _ (⟨_, .pick _ _ _, _, _, _, _⟩ :: _) _ _; first | refine EL.f (FV.pickT rfl rfl) rfl rfl ?_ | refine EL.f (FV.pickF rfl rfl) rfl rfl ?_)
         | (show EL _ _ _ _ (⟨_, .binOp .leq _ _ _ _, _, _, _, _⟩ :: _) _ _; refine EL.fF (FV.leq rfl rfl) rfl (fun _ => rfl) (by omega) ?_))
      | refine EL.nil ?_
      | refine EW.ret ?_)
    exact ⟨_, rfl, rfl, hw3⟩
  rw [decide_eq_true q3]
  repeat' (first
    | (show EL _ _ _ _ (_ :: _) _ _
       first
       | (show EL _ _ _ _ (⟨_, .load _ _, _, _, _, _⟩ :: _) _ _; refine EL.f (FV.loadAgg (cs := cs) rfl rfl rfl hy.len rfl (fun _ e => e ▸ At.lies hb)) rfl rfl ?_)
       | (show EL _ _ _ _ (⟨_, .move _, _, _, _, _⟩ :: _) _ _; refine EL.f (FV.move rfl) rfl rfl ?_)
       | (show EL _ _ _ _ (⟨_, .pick _ _ _, _, _, _, _⟩ :: _) _ _; refine EL.f (FV.pickT rfl rfl) rfl rfl ?_)
       | (show EL _ _ _ _ (⟨_, .binOp .leq _ _ _ _, _, _, _, _⟩ :: _) _ _; refine EL.fT (FV.leq rfl rfl) rfl (fun _ => rfl) (by omega) ?_)))
  refine EL.h (Hv.call (implDepth e hs cs w3 (hy.ext hw3)) rfl) rfl (fun _ => rfl) ?_
  rintro _ w4 ⟨rfl, he4⟩
  replace hb := At.ext hb he4
  replace hb1 := At.ext hb1 he4
  have hw4 := hw3.trans he4
  by_cases q4 : e.depth ≤ 60
  rotate_left
  · rw [decide_eq_false q4]
    repeat' (first
      | (show EL _ _ _ _ (_ :: _) _ _
         first
         | (show EL _ _ _ _ (⟨_, _, _, _, _, some _⟩ :: _) _ _; refine EL.skip rfl rfl ?_)
         | (show EL _ _ _ _ (⟨_, .move _, _, _, _, _⟩ :: _) _ _; refine EL.f (FV.move rfl) rfl rfl ?_)
         | (show EL _ _ _ _ (⟨_, .assign _, _, _, _, _⟩ :: _) _ _; refine EL.f (FV.assign rfl) rfl rfl ?_)
         | (show EL _ _ _ _ (⟨_, .pick _ _ _, _, _, _, _⟩ :: _) _ _; first | refine EL.f (FV.pickT rfl rfl) rfl rfl ?_ | refine EL.f (FV.pickF rfl rfl) rfl rfl ?_)
         | (show EL _ _ _ _ (⟨_, .binOp .leq _ _ _ _, _, _, _, _⟩ :: _) _ _; refine EL.fF (FV.leq rfl rfl) rfl (fun _ => rfl) (by omega) ?_))
      | refine EL.nil ?_
      | refine EW.ret ?_)
    exact ⟨_, rfl, rfl, hw4⟩
  rw [decide_eq_true q4]
  repeat' (first
    | (show EL _ _ _ _ (_ :: _) _ _
       first
       | (show EL _ _ _ _ (⟨_, .load _ _, _, _, _, _⟩ :: _) _ _; first | refine EL.f (FV.loadAgg (cs := cs) rfl rfl rfl hy.len rfl (fun _ e => e ▸ At.lies hb)) rfl rfl ?_ | refine EL.f (FV.loadAgg (cs := [.slice A fs.length cap]) rfl rfl rfl rfl rfl (fun _ e => e ▸ At.lies hb1)) rfl rfl ?_)
       | (show EL _ _ _ _ (⟨_, .build _ _, _, _, _, _⟩ :: _) _ _; refine EL.f (FV.buildC rfl rfl) rfl rfl ?_)
       | (show EL _ _ _ _ (⟨_, .move _, _, _, _, _⟩ :: _) _ _; refine EL.f (FV.move rfl) rfl rfl ?_)
       | (show EL _ _ _ _ (⟨_, .pick _ _ _, _, _, _, _⟩ :: _) _ _; refine EL.f (FV.pickT rfl rfl) rfl rfl ?_)
       | (show EL _ _ _ _ (⟨_, .binOp .leq _ _ _ _, _, _, _, _⟩ :: _) _ _; refine EL.fT (FV.leq rfl rfl) rfl (fun _ => rfl) (by omega) ?_)))
  refine EL.h (Hv.call (implFormed fs A cap funcs q2 e vars cs w4 (by omega) (by omega) (hx.ext hw4) (hy.ext hw4)) rfl) rfl (fun _ => rfl) ?_
  rintro _ w5 ⟨rfl, he5⟩
  repeat' (first
    | refine EL.f (FV.assign rfl) rfl rfl ?_
    | refine EL.f (FV.pickT rfl rfl) rfl rfl ?_
    | refine EL.nil ?_
    | refine EW.ret ?_)
  exact ⟨_, rfl, rfl, hw4.trans he5⟩
end Eng
end Go.Proofs.Ytgahkbcfjibjaaa
