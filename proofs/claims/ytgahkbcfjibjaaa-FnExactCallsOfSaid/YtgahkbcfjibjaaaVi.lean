/- ValidProgram: the program's contract. Conditions: the number of nodes. -/
import Derived.Test.YtgahkbcfjibjaaaVh
namespace Go.Proofs.Ytgahkbcfjibjaaa
open Go Go.RowKit
namespace Eng
section
variable {P : Program} [UTab P] {n : Nat} {S : World → Prop} {ρ : Env} {dst : Option Tmp} {ty : TypeId} {pos : String} {af : Array Edge} {gd : Option (Nat × Bool)}
/-- 's[:y]'. -/
theorem FV.sliceTo {x y : Operand} {t e : TypeId} {b o l c : Nat} {k : IntKind} {j : Int} {z : Value} {s by_ : Nat} (ht : UTab.und P t = some (.slice e)) (hi : UTab.inf P e = some (z, s, by_)) (hx : ev ρ x = some (.slice (some ⟨b, o, none⟩) l c)) (hj : ev ρ y = some (.int k j)) (h0 : 0 ≤ j) (h1 : j ≤ c) :
    FV P n S ρ ⟨dst, .slice t x none (some y) none, ty, pos, af, gd⟩ (.slice (some ⟨b, o, none⟩) j.toNat c) :=
  ⟨fun a ha w _ => by
    have e1 := (run_inf hi w).1
    simp [execOp, ha.eval hx, ha.eval hj, Instr.sliceAt, Instr.slice, Instr.sliceBounds, Instr.sliceBound, run_und ht, asIntOf, h0, h1, e1, Addr.add]⟩
end
/-- The closure that compares a name with the one that it has captured. -/
theorem implDup (f g : Fu) (cs fc : List Value) (g4 : Nat) (w : World) (hX : FuB w 0 cs g) (h4 : At w 92 3 g4 1 1 fc) (hF : ∃ v c, fc = [.string f.name, v, c]) : CallsR Try.prog 87 ([.agg cs.toArray] ++ [.pointer (some ⟨g4, 0, none⟩)]) w fun v w' => v = .bool (g.name.toList == f.name.toList) ∧ Ext w w' := by
  obtain ⟨v1, v2, rfl⟩ := hF
  obtain ⟨A, cap, rfl, _, _⟩ := hX
  refine CallsR.enter Try.func87 (by decide +kernel) rfl Try.ntmps87 rfl ?_
  repeat' (first
    | refine EW.seq ?_
    | refine EW.region ?_)
  refine EL.h (Hv.boxA (sz := 3) rfl rfl) rfl (fun _ => rfl) ?_
  rintro _ w1 ⟨g1, rfl, hg1, hb, he1⟩
  replace h4 := At.ext h4 he1
  repeat' (first
    | (show EL _ _ _ _ (_ :: _) _ _
       first
       | (show EL _ _ _ _ (⟨_, .fieldAddr _ _ _, _, _, _, _⟩ :: _) _ _; refine EL.f (FV.fieldAddr rfl rfl rfl rfl rfl) rfl rfl ?_)
       | (show EL _ _ _ _ (⟨_, .load _ _, _, _, _, _⟩ :: _) _ _; first | refine EL.f (FV.load1 rfl rfl rfl (At.cell hb rfl)) rfl rfl ?_ | refine EL.f (FV.load1 rfl rfl rfl (At.cell h4 rfl)) rfl rfl ?_)
       | (show EL _ _ _ _ (⟨_, .binOp .eql _ _ _ _, _, _, _, _⟩ :: _) _ _; refine EL.f (FV.eqlS rfl rfl) rfl rfl ?_)
       | (show EL _ _ _ _ (⟨_, .assign _, _, _, _, _⟩ :: _) _ _; refine EL.f (FV.assign rfl) rfl rfl ?_))
    | refine EL.nil ?_
    | refine EW.seq ?_
    | refine EW.region ?_
    | refine EW.ret ?_)
  exact ⟨_, rfl, rfl, he1⟩
set_option maxHeartbeats 32000000 in
theorem implValidP (q : Pr) (hs : q.cnt ≤ 1048576) (qs : List Value) (w : World) (hx : PrB w 0 qs q) : CallsR Try.prog 76 [.agg qs.toArray] w fun v w' => v = .bool (validP q.funcs) ∧ Ext w w' := by
  obtain ⟨A, cap, rfl, hfs, hcap⟩ := hx
  obtain ⟨fs⟩ := q
  replace hs : fuL fs ≤ 1048576 := hs
  dsimp only at *
  have hge := hfs.1
  refine CallsR.enter Try.func76 (by decide +kernel) rfl Try.ntmps76 rfl ?_
  repeat' (first
    | refine EW.seq ?_
    | refine EW.region ?_)
  refine EL.h (Hv.boxA (sz := 1) rfl rfl) rfl (fun _ => rfl) ?_
  rintro _ w1 ⟨g1, rfl, hg1, hb1, he1⟩
  by_cases h16 : fs.length ≤ 16
  rotate_left
  · repeat' (first
      | (show EL _ _ _ _ (_ :: _) _ _
         first
         | (show EL _ _ _ _ (⟨_, .fieldAddr _ _ _, _, _, _, _⟩ :: _) _ _; refine EL.f (FV.fieldAddr rfl rfl rfl rfl rfl) rfl rfl ?_)
         | (show EL _ _ _ _ (⟨_, .load _ _, _, _, _, _⟩ :: _) _ _; refine EL.f (FV.load1 rfl rfl rfl (At.cell hb1 rfl)) rfl rfl ?_)
         | (show EL _ _ _ _ (⟨_, .assign _, _, _, _, _⟩ :: _) _ _; refine EL.f (FV.assign rfl) rfl rfl ?_)
         | (show EL _ _ _ _ (⟨_, .call _, _, _, _, _⟩ :: _) _ _; refine EL.f (FV.len rfl rfl) rfl rfl ?_)
         | (show EL _ _ _ _ (⟨_, .binOp .gtr _ _ _ _, _, _, _, _⟩ :: _) _ _; refine EL.fT (FV.gtr rfl rfl) rfl (fun _ => rfl) (by omega) ?_))
      | refine EL.nil ?_
      | refine EW.seq ?_
      | refine EW.region ?_
      | refine EW.ret ?_
      | refine EW.condT rfl ?_)
    exact ⟨_, rfl, by rw [validP_long h16], he1⟩
  repeat' (first
    | (show EL _ _ _ _ (_ :: _) _ _
       first
       | (show EL _ _ _ _ (⟨_, .fieldAddr _ _ _, _, _, _, _⟩ :: _) _ _; refine EL.f (FV.fieldAddr rfl rfl rfl rfl rfl) rfl rfl ?_)
       | (show EL _ _ _ _ (⟨_, .load _ _, _, _, _, _⟩ :: _) _ _; refine EL.f (FV.load1 rfl rfl rfl (At.cell hb1 rfl)) rfl rfl ?_)
       | (show EL _ _ _ _ (⟨_, .move _, _, _, _, _⟩ :: _) _ _; refine EL.f (FV.move rfl) rfl rfl ?_)
       | (show EL _ _ _ _ (⟨_, .assign _, _, _, _, _⟩ :: _) _ _; refine EL.f (FV.assign rfl) rfl rfl ?_)
       | (show EL _ _ _ _ (⟨_, .call _, _, _, _, _⟩ :: _) _ _; refine EL.f (FV.len rfl rfl) rfl rfl ?_)
       | (show EL _ _ _ _ (⟨_, .binOp .gtr _ _ _ _, _, _, _, _⟩ :: _) _ _; refine EL.fF (FV.gtr rfl rfl) rfl (fun _ => rfl) (by omega) ?_))
    | refine EL.nil ?_
    | refine EW.seq ?_
    | refine EW.region ?_
    | refine EW.block ?_
    | refine EW.skip ?_
    | refine EW.condF rfl ?_)
  refine EW.loop (X := Nat) (fun i wr => i ≤ fs.length ∧ (∀ j, j < i → fOk fs j (fs.getD j dFu) = true) ∧ Ext w1 wr) (fun i => [(1, .pointer (some ⟨g1, 0, none⟩)), (13, .slice A fs.length cap), (14, .int .i64 fs.length), (15, .int .i64 i)]) (fun i => fs.length - i) 0 ⟨Nat.zero_le _, fun j hj => by omega, Ext.refl _⟩ ⟨rfl, rfl, rfl, rfl, trivial⟩ ?_
  rintro i wr ⟨hi, hall, hE⟩
  have hWr := he1.trans hE
  by_cases hlt : i < fs.length
  rotate_left
  · obtain rfl : i = fs.length := by omega
    repeat' (first
      | refine EL.f (FV.assign rfl) rfl rfl ?_
      | refine EL.fF (FV.lss rfl rfl) rfl (fun _ => rfl) (by omega) ?_
      | refine EL.nil ?_
      | refine EW.seq ?_
      | refine EW.region ?_
      | refine EW.exit ?_
      | refine EW.ret ?_
      | refine EW.condF rfl ?_)
    exact ⟨_, rfl, by rw [validP_all h16 hall], hWr⟩
  have hfit := fun j hj => out_fit (j := j) hs hlt hj
  have hvat := validP_at hlt
  obtain ⟨bf, of, cs, rfl, hL, hX, hc⟩ := (hfs.ext hWr).kid hlt
  replace hb1 := At.ext hb1 hE
  repeat' (first
    | (show EL _ _ _ _ (_ :: _) _ _
       first
       | (show EL _ _ _ _ (⟨_, .indexAddr _ _ _, _, _, _, _⟩ :: _) _ _; refine EL.f (FV.idx rfl rfl rfl rfl (by omega) (by omega)) rfl rfl ?_)
       | (show EL _ _ _ _ (⟨_, .load _ _, _, _, _, _⟩ :: _) _ _; refine EL.f (FV.loadAgg (cs := cs) rfl rfl rfl hc rfl (fun _ e => e ▸ hL)) rfl rfl ?_)
       | (show EL _ _ _ _ (⟨_, .move _, _, _, _, _⟩ :: _) _ _; refine EL.f (FV.move rfl) rfl rfl ?_)
       | (show EL _ _ _ _ (⟨_, .binOp .lss _ _ _ _, _, _, _, _⟩ :: _) _ _; refine EL.fT (FV.lss rfl rfl) rfl (fun _ => rfl) (by omega) ?_))
    | refine EL.nil ?_
    | refine EW.seq ?_
    | refine EW.region ?_
    | refine EW.block ?_
    | refine EW.skip ?_
    | refine EW.condT rfl ?_)
  refine EL.h (Hv.allocA rfl rfl) rfl (fun _ => rfl) ?_
  rintro _ u1 ⟨g4, rfl, hg4, h4, he4⟩
  repeat' (first
    | refine EL.f (FV.assign rfl) rfl rfl ?_)
  refine EL.h (Hv.storeAggG (vs := cs) rfl rfl rfl hc hX.one h4 (by rw [hc]; exact Nat.le_refl _)) rfl (fun _ => rfl) ?_
  rintro _ u2 ⟨h5, hr5⟩
  rw [setL_all (by rw [hc]; rfl)] at h5
  have hu2 : Ext wr u2 := Below.wr he4 hr5 (by omega) (Nat.le_refl _)
  clear h4
  replace hb1 := At.ext hb1 hu2
  have hW2 := hWr.trans hu2
  obtain ⟨B, bap, rfl, hos, hnm⟩ := hX
  have hr := hos.1
  have hosW := hos.ext hu2
  generalize hfe : fs.getD i dFu = f at *
  repeat' (first
    | refine EL.f (FV.fieldAddr rfl rfl rfl rfl rfl) rfl rfl ?_
    | refine EL.f (FV.load1 rfl rfl rfl (At.cell h5 rfl)) rfl rfl ?_
    | refine EL.nil ?_
    | refine EW.seq ?_
    | refine EW.region ?_)
  refine EL.h (Hv.call (implIsName f.name u2 hnm) rfl) rfl (fun _ => rfl) ?_
  rintro _ u3 ⟨rfl, he6⟩
  have hW3 := hW2.trans he6
  replace h5 := At.ext h5 he6
  replace hb1 := At.ext hb1 he6
  replace hosW := hosW.ext he6
  cases hn : nameOk f.name
  · repeat' (first
      | (show EL _ _ _ _ (_ :: _) _ _
         first
         | (show EL _ _ _ _ (⟨_, _, _, _, _, some _⟩ :: _) _ _; refine EL.skip rfl rfl ?_)
         | (show EL _ _ _ _ (⟨_, .move _, _, _, _, _⟩ :: _) _ _; refine EL.f (FV.move rfl) rfl rfl ?_)
         | (show EL _ _ _ _ (⟨_, .assign _, _, _, _, _⟩ :: _) _ _; refine EL.f (FV.assign rfl) rfl rfl ?_)
         | (show EL _ _ _ _ (⟨_, .unOp .not _ _, _, _, _, _⟩ :: _) _ _; refine EL.f (FV.not rfl) rfl rfl ?_)
         | (show EL _ _ _ _ (⟨_, .pick _ _ _, _, _, _, _⟩ :: _) _ _; refine EL.f (FV.pickT rfl rfl) rfl rfl ?_))
      | refine EL.nil ?_
      | refine EW.seq ?_
      | refine EW.region ?_
      | refine EW.ret ?_
      | refine EW.condT rfl ?_)
    exact ⟨_, rfl, by rw [hvat (fOk_name hn)], hW3⟩
  have hcall := containsFuncFc 87 (.pointer (some ⟨g4, 0, none⟩)) (fun g => g.name.toList == f.name.toList) (fs.take i) (some ⟨bf, of, none⟩) cap u3 ((hfs.ext hW3).take i) (fun j hj cs u hu hX => implDup f _ cs _ g4 u hX (At.ext h5 hu) ⟨_, _, rfl⟩)
  rw [List.length_take, Nat.min_eq_left hi] at hcall
  repeat' (first
    | (show EL _ _ _ _ (_ :: _) _ _
       first
       | (show EL _ _ _ _ (⟨_, .fieldAddr _ _ _, _, _, _, _⟩ :: _) _ _; refine EL.f (FV.fieldAddr rfl rfl rfl rfl rfl) rfl rfl ?_)
       | (show EL _ _ _ _ (⟨_, .load _ _, _, _, _, _⟩ :: _) _ _; refine EL.f (FV.load1 rfl rfl rfl (At.cell hb1 rfl)) rfl rfl ?_)
       | (show EL _ _ _ _ (⟨_, .makeFunc _ _ _, _, _, _, _⟩ :: _) _ _; refine EL.f (FV.makeFn rfl) rfl rfl ?_)
       | (show EL _ _ _ _ (⟨_, .move _, _, _, _, _⟩ :: _) _ _; refine EL.f (FV.move rfl) rfl rfl ?_)
       | (show EL _ _ _ _ (⟨_, .unOp .not _ _, _, _, _, _⟩ :: _) _ _; refine EL.f (FV.not rfl) rfl rfl ?_))
    | refine EL.f (FV.sliceTo rfl rfl rfl rfl (by omega) (by omega)) rfl rfl ?_)
  refine EL.h (Hv.call hcall rfl) rfl (fun _ => rfl) ?_
  rintro _ u4 ⟨rfl, he7⟩
  rw [show (fs.take i).any (fun g => g.name.toList == f.name.toList) = dupF fs i f.name from rfl]
  have hW4 := hW3.trans he7
  replace h5 := At.ext h5 he7
  replace hb1 := At.ext hb1 he7
  replace hosW := hosW.ext he7
  cases hdup : dupF fs i f.name
  rotate_left
  · repeat' (first
      | refine EL.f (FV.assign rfl) rfl rfl ?_
      | refine EL.f (FV.pickF rfl rfl) rfl rfl ?_
      | refine EL.nil ?_
      | refine EW.seq ?_
      | refine EW.region ?_
      | refine EW.ret ?_
      | refine EW.condT rfl ?_)
    exact ⟨_, rfl, by rw [hvat (fOk_dup hdup)], hW4⟩
  by_cases q1 : 0 ≤ f.params ∧ f.params ≤ 12
  rotate_left
  · have i1 : inB f.params 0 12 = false := by unfold inB; exact decide_eq_false q1
    repeat' (first
      | (show EL _ _ _ _ (_ :: _) _ _
         first
         | (show EL _ _ _ _ (⟨_, _, _, _, _, some _⟩ :: _) _ _; refine EL.skip rfl rfl ?_)
         | (show EL _ _ _ _ (⟨_, .fieldAddr _ _ _, _, _, _, _⟩ :: _) _ _; refine EL.f (FV.fieldAddr rfl rfl rfl rfl rfl) rfl rfl ?_)
         | (show EL _ _ _ _ (⟨_, .load _ _, _, _, _, _⟩ :: _) _ _; refine EL.f (FV.load1 rfl rfl rfl (At.cell h5 rfl)) rfl rfl ?_)
         | (show EL _ _ _ _ (⟨_, .call _, _, _, _, _⟩ :: _) _ _; (refine EL.h (Hv.call (implWithinR i1 _) rfl) rfl (fun _ => rfl) ?_; rintro _ _ ⟨rfl, rfl⟩))
         | (show EL _ _ _ _ (⟨_, .move _, _, _, _, _⟩ :: _) _ _; refine EL.f (FV.move rfl) rfl rfl ?_)
         | (show EL _ _ _ _ (⟨_, .assign _, _, _, _, _⟩ :: _) _ _; refine EL.f (FV.assign rfl) rfl rfl ?_)
         | (show EL _ _ _ _ (⟨_, .unOp .not _ _, _, _, _, _⟩ :: _) _ _; refine EL.f (FV.not rfl) rfl rfl ?_)
         | (show EL _ _ _ _ (⟨_, .pick _ _ _, _, _, _, _⟩ :: _) _ _; first | refine EL.f (FV.pickT rfl rfl) rfl rfl ?_ | refine EL.f (FV.pickF rfl rfl) rfl rfl ?_))
      | refine EL.nil ?_
      | refine EW.seq ?_
      | refine EW.region ?_
      | refine EW.skip ?_
      | refine EW.ret ?_
      | refine EW.condT rfl ?_
      | refine EW.condF rfl ?_)
    exact ⟨_, rfl, by rw [hvat (fOk_par i1)], hW4⟩
  have i1 : inB f.params 0 12 = true := inB_iff.2 q1
  by_cases q2 : 1 ≤ (f.outs.length : Int) ∧ (f.outs.length : Int) ≤ 12
  rotate_left
  · have i2 : inB (f.outs.length : Nat) 1 12 = false := by unfold inB; exact decide_eq_false q2
    repeat' (first
      | (show EL _ _ _ _ (_ :: _) _ _
         first
         | (show EL _ _ _ _ (⟨_, .fieldAddr _ _ _, _, _, _, _⟩ :: _) _ _; refine EL.f (FV.fieldAddr rfl rfl rfl rfl rfl) rfl rfl ?_)
         | (show EL _ _ _ _ (⟨_, .load _ _, _, _, _, _⟩ :: _) _ _; refine EL.f (FV.load1 rfl rfl rfl (At.cell h5 rfl)) rfl rfl ?_)
         | (show EL _ _ _ _ (⟨_, .call _, _, _, _, _⟩ :: _) _ _; first | (refine EL.h (Hv.call (implWithinR i1 _) rfl) rfl (fun _ => rfl) ?_; rintro _ _ ⟨rfl, rfl⟩) | (refine EL.h (Hv.call (implWithinR i2 _) rfl) rfl (fun _ => rfl) ?_; rintro _ _ ⟨rfl, rfl⟩) | refine EL.f (FV.len rfl rfl) rfl rfl ?_)
         | (show EL _ _ _ _ (⟨_, .move _, _, _, _, _⟩ :: _) _ _; refine EL.f (FV.move rfl) rfl rfl ?_)
         | (show EL _ _ _ _ (⟨_, .assign _, _, _, _, _⟩ :: _) _ _; refine EL.f (FV.assign rfl) rfl rfl ?_)
         | (show EL _ _ _ _ (⟨_, .unOp .not _ _, _, _, _, _⟩ :: _) _ _; refine EL.f (FV.not rfl) rfl rfl ?_)
         | (show EL _ _ _ _ (⟨_, .pick _ _ _, _, _, _, _⟩ :: _) _ _; refine EL.f (FV.pickF rfl rfl) rfl rfl ?_))
      | refine EL.nil ?_
      | refine EW.seq ?_
      | refine EW.region ?_
      | refine EW.skip ?_
      | refine EW.ret ?_
      | refine EW.condT rfl ?_
      | refine EW.condF rfl ?_)
    exact ⟨_, rfl, by rw [hvat (fOk_len i2)], hW4⟩
  have i2 : inB (f.outs.length : Nat) 1 12 = true := inB_iff.2 q2
  repeat' (first
    | (show EL _ _ _ _ (_ :: _) _ _
       first
       | (show EL _ _ _ _ (⟨_, .fieldAddr _ _ _, _, _, _, _⟩ :: _) _ _; refine EL.f (FV.fieldAddr rfl rfl rfl rfl rfl) rfl rfl ?_)
       | (show EL _ _ _ _ (⟨_, .load _ _, _, _, _, _⟩ :: _) _ _; refine EL.f (FV.load1 rfl rfl rfl (At.cell h5 rfl)) rfl rfl ?_)
       | (show EL _ _ _ _ (⟨_, .call _, _, _, _, _⟩ :: _) _ _; first | (refine EL.h (Hv.call (implWithinR i1 _) rfl) rfl (fun _ => rfl) ?_; rintro _ _ ⟨rfl, rfl⟩) | (refine EL.h (Hv.call (implWithinR i2 _) rfl) rfl (fun _ => rfl) ?_; rintro _ _ ⟨rfl, rfl⟩) | refine EL.f (FV.len rfl rfl) rfl rfl ?_)
       | (show EL _ _ _ _ (⟨_, .move _, _, _, _, _⟩ :: _) _ _; refine EL.f (FV.move rfl) rfl rfl ?_)
       | (show EL _ _ _ _ (⟨_, .assign _, _, _, _, _⟩ :: _) _ _; refine EL.f (FV.assign rfl) rfl rfl ?_)
       | (show EL _ _ _ _ (⟨_, .unOp .not _ _, _, _, _, _⟩ :: _) _ _; refine EL.f (FV.not rfl) rfl rfl ?_)
       | (show EL _ _ _ _ (⟨_, .pick _ _ _, _, _, _, _⟩ :: _) _ _; refine EL.f (FV.pickF rfl rfl) rfl rfl ?_))
    | refine EL.nil ?_
    | refine EW.seq ?_
    | refine EW.region ?_
    | refine EW.block ?_
    | refine EW.skip ?_
    | refine EW.condF rfl ?_)
  refine EW.loop (X := Nat) (fun j w2 => j ≤ f.outs.length ∧ (∀ n, n < j → validE fs (f.outs.getD n dEx) f.params i = true) ∧ Ext u4 w2) (fun j => [(1, .pointer (some ⟨g1, 0, none⟩)), (13, .slice (some ⟨bf, of, none⟩) fs.length cap), (14, .int .i64 fs.length), (15, .int .i64 i), (3, .int .i64 i), (4, .pointer (some ⟨g4, 0, none⟩)), (5, .int .i64 (Ex.sizeL (f.outs.take j) : Nat)), (44, .slice B f.outs.length bap), (45, .int .i64 f.outs.length), (46, .int .i64 j)]) (fun j => f.outs.length - j) 0 ⟨Nat.zero_le _, fun n hn => by omega, Ext.refl _⟩ ⟨rfl, rfl, rfl, rfl, rfl, rfl, rfl, rfl, rfl, rfl, trivial⟩ ?_
  rintro j w2 ⟨hj, hall2, hE2⟩
  have hW5 := hW4.trans hE2
  by_cases hlj : j < f.outs.length
  rotate_left
  · obtain rfl : j = f.outs.length := by omega
    rw [List.take_length]
    by_cases h400 : Ex.sizeL f.outs ≤ 400
    · repeat' (first
        | (show EL _ _ _ _ (_ :: _) _ _
           first
           | (show EL _ _ _ _ (⟨_, .move _, _, _, _, _⟩ :: _) _ _; refine EL.f (FV.move rfl) rfl rfl ?_)
           | (show EL _ _ _ _ (⟨_, .binOp .add _ _ _ _, _, _, _, _⟩ :: _) _ _; refine EL.f (FV.addI rfl rfl (by omega)) rfl rfl ?_)
           | (show EL _ _ _ _ (⟨_, .binOp .lss _ _ _ _, _, _, _, _⟩ :: _) _ _; refine EL.fF (FV.lss rfl rfl) rfl (fun _ => rfl) (by omega) ?_)
           | (show EL _ _ _ _ (⟨_, .binOp .gtr _ _ _ _, _, _, _, _⟩ :: _) _ _; refine EL.fF (FV.gtr rfl rfl) rfl (fun _ => rfl) (by omega) ?_))
        | refine EL.nil ?_
        | refine EW.seq ?_
        | refine EW.region ?_
        | refine EW.skip ?_
        | refine EW.exit ?_
        | refine EW.condF rfl ?_)
      exact ⟨i + 1, ⟨rfl, rfl, rfl, rfl, trivial⟩, ⟨by omega, fun n hq => by
        by_cases e : n = i
        · subst e; rw [hfe]; exact fOk_true hn hdup i1 i2 hall2 h400
        · exact hall n (by omega), ((hE.trans hu2).trans he6).trans (he7.trans hE2)⟩, by omega⟩
    · repeat' (first
        | (show EL _ _ _ _ (_ :: _) _ _
           first
           | (show EL _ _ _ _ (⟨_, .move _, _, _, _, _⟩ :: _) _ _; refine EL.f (FV.move rfl) rfl rfl ?_)
           | (show EL _ _ _ _ (⟨_, .assign _, _, _, _, _⟩ :: _) _ _; refine EL.f (FV.assign rfl) rfl rfl ?_)
           | (show EL _ _ _ _ (⟨_, .binOp .gtr _ _ _ _, _, _, _, _⟩ :: _) _ _; refine EL.fT (FV.gtr rfl rfl) rfl (fun _ => rfl) (by omega) ?_)
           | (show EL _ _ _ _ (⟨_, .binOp .lss _ _ _ _, _, _, _, _⟩ :: _) _ _; refine EL.fF (FV.lss rfl rfl) rfl (fun _ => rfl) (by omega) ?_))
        | refine EL.nil ?_
        | refine EW.seq ?_
        | refine EW.region ?_
        | refine EW.exit ?_
        | refine EW.ret ?_
        | refine EW.condT rfl ?_
        | refine EW.condF rfl ?_)
      exact ⟨_, rfl, by rw [hvat (fOk_size h400)], hW5⟩
  obtain ⟨b1, o1, c1, rfl, hL1, hX1, hc1⟩ := (hosW.ext hE2).kid hlj
  have hfj := hfit j hlj
  have hst := sizeL_take hlj
  have hsp := sizeL_split f.outs (j + 1)
  replace h5 := At.ext h5 hE2
  replace hb1 := At.ext hb1 hE2
  repeat' (first
    | refine EL.f (FV.idx rfl rfl rfl rfl (by omega) (by omega)) rfl rfl ?_
    | refine EL.f (FV.loadAgg (cs := c1) rfl rfl rfl hc1 rfl (fun _ e => e ▸ hL1)) rfl rfl ?_
    | refine EL.fT (FV.lss rfl rfl) rfl (fun _ => rfl) (by omega) ?_
    | refine EL.nil ?_
    | refine EW.seq ?_
    | refine EW.region ?_
    | refine EW.block ?_
    | refine EW.skip ?_
    | refine EW.condT rfl ?_)
  refine EL.h (Hv.allocA rfl rfl) rfl (fun _ => rfl) ?_
  rintro _ v1 ⟨g7, rfl, hg7, h7, he8⟩
  skip
  refine EL.h (Hv.storeAggG (vs := c1) rfl rfl rfl hc1 hX1.one h7 (by rw [hc1]; exact Nat.le_refl _)) rfl (fun _ => rfl) ?_
  rintro _ v2 ⟨h8, hr8⟩
  rw [setL_all (by rw [hc1]; rfl)] at h8
  have hv2 : Ext w2 v2 := Below.wr he8 hr8 (by omega) (Nat.le_refl _)
  clear h7
  replace h5 := At.ext h5 hv2
  replace hb1 := At.ext hb1 hv2
  have hW6 := hW5.trans hv2
  repeat' (first
    | refine EL.f (FV.fieldAddr rfl rfl rfl rfl rfl) rfl rfl ?_
    | refine EL.f (FV.load1 rfl rfl rfl (At.cell h5 rfl)) rfl rfl ?_
    | refine EL.f (FV.loadAgg (cs := [.slice (some ⟨bf, of, none⟩) fs.length cap]) rfl rfl rfl rfl rfl (fun _ e => e ▸ At.lies hb1)) rfl rfl ?_
    | refine EL.f (FV.loadAgg (cs := c1) rfl rfl rfl hc1 rfl (fun _ e => e ▸ At.lies h8)) rfl rfl ?_
    | refine EL.f (FV.move rfl) rfl rfl ?_
    | refine EL.nil ?_
    | refine EW.seq ?_
    | refine EW.region ?_)
  refine EL.h (Hv.call (implValidE fs (f.outs.getD j dEx) hfj.1 _ cap c1 f.params i v2 (hfs.ext hW6) (hX1.ext hv2)) rfl) rfl (fun _ => rfl) ?_
  rintro _ v3 ⟨rfl, he9⟩
  have hW7 := hW6.trans he9
  cases hv : validE fs (f.outs.getD j dEx) f.params i
  · repeat' (first
      | refine EL.f (FV.assign rfl) rfl rfl ?_
      | refine EL.f (FV.not rfl) rfl rfl ?_
      | refine EL.nil ?_
      | refine EW.seq ?_
      | refine EW.region ?_
      | refine EW.ret ?_
      | refine EW.condT rfl ?_)
    exact ⟨_, rfl, by rw [hvat (fOk_out hlj hv)], hW7⟩
  replace h8 := At.ext h8 he9
  repeat' (first
    | refine EL.f (FV.loadAgg (cs := c1) rfl rfl rfl hc1 rfl (fun _ e => e ▸ At.lies h8)) rfl rfl ?_
    | refine EL.f (FV.move rfl) rfl rfl ?_
    | refine EL.f (FV.not rfl) rfl rfl ?_
    | refine EL.nil ?_
    | refine EW.region ?_
    | refine EW.skip ?_
    | refine EW.condF rfl ?_)
  refine EL.h (Hv.call (implSize (f.outs.getD j dEx) hfj.1 c1 v3 (hX1.ext (hv2.trans he9))) rfl) rfl (fun _ => rfl) ?_
  rintro _ v4 ⟨rfl, heA⟩
  repeat' (first
    | refine EL.f (FV.move rfl) rfl rfl ?_
    | refine EL.f (FV.assign rfl) rfl rfl ?_
    | refine EL.f (FV.addI rfl rfl (by omega)) rfl rfl ?_
    | refine EL.nil ?_
    | refine EW.region ?_)
  exact ⟨j + 1, ⟨rfl, rfl, rfl, rfl, rfl, rfl, (show some (Value.int .i64 _) = some (Value.int .i64 _) from by congr 2; omega), rfl, rfl, rfl, trivial⟩, ⟨by omega, fun n hn => by
    by_cases e : n = j
    · subst e; exact hv
    · exact hall2 n (by omega), ((hE2.trans hv2).trans he9).trans heA⟩, by omega⟩
end Eng
end Go.Proofs.Ytgahkbcfjibjaaa
