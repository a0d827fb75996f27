/- CallsOf: the contracts of both sides. Conditions: the number of nodes. -/
import Derived.Test.YtgahkbcfjibjaaaKp
import Derived.Test.YtgahkbcfjibjaaaVi
import Derived.Test.YtgahkbcfjibjaaaMtg
namespace Go.Proofs.Ytgahkbcfjibjaaa
open Go Go.RowKit
namespace Eng
theorem Only.bothV {a b c : World} {x : Option Nat} (h : Only [x] a b) (k : Only [x] b c) : Only [x] a c := (h.trans k).mono fun y hy => by simpa using hy
theorem Only.weakV {a b : World} {x : Option Nat} (h : Ext a b) : Only [x] a b := (Only.ext h).mono fun y hy => by cases hy
theorem Only.afterV {a b c : World} {m : Nat} (h : Ext a b) (k : Only [some m] b c) (hm : a.heap.size ≤ m) : Ext a c := Only.after h k fun j hj => by simp at hj; omega
theorem OwnI.block {w : World} {B : Nat} {v : Value} {xs : List Int} (h : OwnI B w v xs) {k : Nat} (hk : some k ∈ [v.ownBlock]) : B ≤ k ∧ k < w.heap.size := own_block h (by simpa using (List.mem_singleton.1 hk).symm)
theorem FV.lookT {n : Nat} {S : World → Prop} {ρ : Env} {dst : Option Tmp} {ty : TypeId} {pos : String} {af : Array Edge} {gd : Option (Nat × Bool)} {x y : Operand} {m : Nat} {ks : List Int} {k : Int} {b : Bool} (hx : ev ρ x = some (.map (some m))) (hy : ev ρ y = some (.int .i64 k)) (hm : ∀ w, S w → SetAt w m ks) (hb : decide (k ∈ ks) = b) :
    FV Try.prog n S ρ ⟨dst, .lookup 78 x y false, ty, pos, af, gd⟩ (.bool b) := hb ▸ FV.lookS hx hy hm
theorem Vis.iff {fs : List Fu} {P Q : Int → Prop} {a b : List Int} (h : Vis fs P a b) (e : ∀ x, P x ↔ Q x) : Vis fs Q a b :=
  ⟨h.old, fun x hx => h.all x ((e x).2 hx), fun x hx => (h.new x hx).imp_right fun q => q.imp (e x).1 fun ⟨y, r, t⟩ => ⟨y, (e y).1 r, t⟩, h.whole⟩
/-! the program -/
theorem implAsked (q : Pr) (hs : q.cnt ≤ 1048576) (qs : List Value) (f : Int) (w : World) (hx : PrB w 0 qs q) : CallsR Try.prog 49 [.agg qs.toArray, .int .i64 f] w fun v w' => v = .int .i64 (fCalls q.funcs f).2 ∧ Ext w w' := by
  have hx0 := hx
  obtain ⟨A, cap, rfl, hfs, hcap⟩ := hx
  have hge := hfs.1
  refine CallsR.enter Try.func49 (by decide +kernel) rfl Try.ntmps49 rfl ?_
  repeat' (first
    | refine EW.seq ?_
    | refine EW.region ?_)
  refine EL.h (Hv.boxA (sz := 1) rfl rfl) rfl (fun _ => rfl) ?_
  rintro _ w1 ⟨g1, rfl, hg1, hb, he1⟩
  repeat' (first
    | refine EL.f (FV.loadAgg (cs := [.slice A q.funcs.length cap]) rfl rfl rfl rfl rfl (fun _ e => e ▸ At.lies hb)) rfl rfl ?_
    | refine EL.f (FV.assign rfl) rfl rfl ?_
    | refine EL.nil ?_
    | refine EW.seq ?_
    | refine EW.region ?_
    | refine EW.block ?_)
  refine EL.h (Hv.call (implValidP q hs _ w1 (hx0.ext he1)) rfl) rfl (fun _ => rfl) ?_
  rintro _ w2 ⟨rfl, he2⟩
  replace hb := At.ext hb he2
  have hw2 := he1.trans he2
  cases ok : validP q.funcs
  · repeat' (first
      | refine EL.f (FV.assign rfl) rfl rfl ?_
      | refine EL.f (FV.not rfl) rfl rfl ?_
      | refine EL.nil ?_
      | refine EW.seq ?_
      | refine EW.region ?_
      | refine EW.ret ?_
      | refine EW.condT rfl ?_)
    exact ⟨_, rfl, by rw [fCalls_bad ok], hw2⟩
  by_cases hr : 0 ≤ f ∧ f ≤ (q.funcs.length : Int) - 1
  · have i1 : inB f 0 ((q.funcs.length : Int) - 1) = true := inB_iff.2 hr
    repeat' (first
      | (show EL _ _ _ _ (_ :: _) _ _
         first
         | (show EL _ _ _ _ (⟨_, .fieldAddr _ _ _, _, _, _, _⟩ :: _) _ _; refine EL.f (FV.fieldAddr rfl rfl rfl rfl rfl) rfl rfl ?_)
         | (show EL _ _ _ _ (⟨_, .load _ _, _, _, _, _⟩ :: _) _ _; refine EL.f (FV.load1 rfl rfl rfl (At.cell hb rfl)) rfl rfl ?_)
         | (show EL _ _ _ _ (⟨_, .call _, _, _, _, _⟩ :: _) _ _; first | (refine EL.h (Hv.call (implWithinR i1 _) rfl) rfl (fun _ => rfl) ?_; rintro _ _ ⟨rfl, rfl⟩) | refine EL.f (FV.len rfl rfl) rfl rfl ?_)
         | (show EL _ _ _ _ (⟨_, .move _, _, _, _, _⟩ :: _) _ _; refine EL.f (FV.move rfl) rfl rfl ?_)
         | (show EL _ _ _ _ (⟨_, .assign _, _, _, _, _⟩ :: _) _ _; refine EL.f (FV.assign rfl) rfl rfl ?_)
         | (show EL _ _ _ _ (⟨_, .binOp .sub _ _ _ _, _, _, _, _⟩ :: _) _ _; refine EL.f (FV.subI rfl rfl (by omega)) rfl rfl ?_)
         | (show EL _ _ _ _ (⟨_, .unOp .not _ _, _, _, _, _⟩ :: _) _ _; refine EL.f (FV.not rfl) rfl rfl ?_))
      | refine EL.nil ?_
      | refine EW.seq ?_
      | refine EW.region ?_
      | refine EW.skip ?_
      | refine EW.ret ?_
      | refine EW.condF rfl ?_)
    exact ⟨_, rfl, by rw [fCalls_ok ok hr], hw2⟩
  · have i1 : inB f 0 ((q.funcs.length : Int) - 1) = false := by unfold inB; exact decide_eq_false hr
    repeat' (first
      | (show EL _ _ _ _ (_ :: _) _ _
         first
         | (show EL _ _ _ _ (⟨_, .fieldAddr _ _ _, _, _, _, _⟩ :: _) _ _; refine EL.f (FV.fieldAddr rfl rfl rfl rfl rfl) rfl rfl ?_)
         | (show EL _ _ _ _ (⟨_, .load _ _, _, _, _, _⟩ :: _) _ _; refine EL.f (FV.load1 rfl rfl rfl (At.cell hb rfl)) rfl rfl ?_)
         | (show EL _ _ _ _ (⟨_, .call _, _, _, _, _⟩ :: _) _ _; first | (refine EL.h (Hv.call (implWithinR i1 _) rfl) rfl (fun _ => rfl) ?_; rintro _ _ ⟨rfl, rfl⟩) | refine EL.f (FV.len rfl rfl) rfl rfl ?_)
         | (show EL _ _ _ _ (⟨_, .move _, _, _, _, _⟩ :: _) _ _; refine EL.f (FV.move rfl) rfl rfl ?_)
         | (show EL _ _ _ _ (⟨_, .assign _, _, _, _, _⟩ :: _) _ _; refine EL.f (FV.assign rfl) rfl rfl ?_)
         | (show EL _ _ _ _ (⟨_, .binOp .sub _ _ _ _, _, _, _, _⟩ :: _) _ _; refine EL.f (FV.subI rfl rfl (by omega)) rfl rfl ?_)
         | (show EL _ _ _ _ (⟨_, .unOp .not _ _, _, _, _, _⟩ :: _) _ _; refine EL.f (FV.not rfl) rfl rfl ?_))
      | refine EL.nil ?_
      | refine EW.seq ?_
      | refine EW.region ?_
      | refine EW.ret ?_
      | refine EW.condT rfl ?_
      | refine EW.condF rfl ?_)
    exact ⟨_, rfl, by rw [fCalls_out ok hr], hw2⟩
set_option maxHeartbeats 16000000 in
theorem implCalls (fs : List Fu) (hv : validP fs = true) (A : Option Addr) (cap m : Nat) (w0 : World) (hm0 : w0.heap.size ≤ m) (hF : FsB w0 0 A fs) : ∀ (g : Nat), g ≤ fs.length → ∀ (e : Ex), (∀ x, e.calls x → 0 ≤ x ∧ x < g) → ∀ ks cs w, ExB w0 0 cs e → Ext w0 w → SetAt w m ks →
    CallsR Try.prog 50 [.agg #[.slice A fs.length cap], .agg cs.toArray, .map (some m)] w fun v w' => v = .tuple #[] ∧ (∃ ks', SetAt w' m ks' ∧ Vis fs (fun x => e.calls x) ks ks') ∧ Only [some m] w w' := by
  have h16 := (fun h => (validP_fOk hv (i := 0) h).1 : 0 < fs.length → fs.length ≤ 16)
  intro g
  induction g using Nat.strongRecOn with
  | ind g ihg =>
  intro hg e
  induction e using Ex.ind with
  | h k n p c es ih =>
  intro hcalls ks cs w hx hE0 hS
  obtain ⟨B, bap, rfl, hks⟩ := hx.inv
  have hr := hks.1
  refine CallsR.enter Try.func50 (by decide +kernel) rfl Try.ntmps50 rfl ?_
  repeat' (first
    | refine EW.seq ?_
    | refine EW.region ?_)
  refine EL.h (Hv.boxA (sz := 1) rfl rfl) rfl (fun _ => rfl) ?_
  rintro _ w1 ⟨g1, rfl, hg1, hb1, he1⟩
  skip
  refine EL.h (Hv.boxA (sz := 5) rfl rfl) rfl (fun _ => rfl) ?_
  rintro _ w2 ⟨g2, rfl, hg2, hb2, he2⟩
  refine EL.nil ?_
  have e02 := he1.trans he2
  have hS2 := hS.ext e02
  replace hb1 := At.ext hb1 he2
  have hm1 := hS2.apart hb1
  have hm2 := hS2.apart hb2
  have hE2 := hE0.trans e02
  refine EW.seqR (K := fun ρ' w' => Sub [(2, .map (some m)), (3, .pointer (some ⟨g1, 0, none⟩)), (4, .pointer (some ⟨g2, 0, none⟩))] ρ' ∧ (∃ ks1, SetAt w' m ks1 ∧ Vis fs (fun x => (k = 10 ∨ k = 11) ∧ n = x) ks ks1) ∧ Only [some m] w2 w') ?_ ?_
  · by_cases hk : k = 10 ∨ k = 11
    rotate_left
    · repeat' (first
        | (show EL _ _ _ _ (_ :: _) _ _
           first
           | (show EL _ _ _ _ (⟨_, _, _, _, _, some _⟩ :: _) _ _; refine EL.skip rfl rfl ?_)
           | (show EL _ _ _ _ (⟨_, .fieldAddr _ _ _, _, _, _, _⟩ :: _) _ _; refine EL.f (FV.fieldAddr rfl rfl rfl rfl rfl) rfl rfl ?_)
           | (show EL _ _ _ _ (⟨_, .load _ _, _, _, _, _⟩ :: _) _ _; refine EL.f (FV.load1 rfl rfl rfl (At.cell hb2 rfl)) rfl rfl ?_)
           | (show EL _ _ _ _ (⟨_, .move _, _, _, _, _⟩ :: _) _ _; refine EL.f (FV.move rfl) rfl rfl ?_)
           | (show EL _ _ _ _ (⟨_, .pick _ _ _, _, _, _, _⟩ :: _) _ _; refine EL.f (FV.pickF rfl rfl) rfl rfl ?_)
           | (show EL _ _ _ _ (⟨_, .binOp .eql _ _ _ _, _, _, _, _⟩ :: _) _ _; refine EL.fF (FV.eql rfl rfl) rfl (fun _ => rfl) (by omega) ?_))
        | refine EL.nil ?_
        | refine EW.seq ?_
        | refine EW.region ?_
        | refine EW.skip ?_
        | refine EW.condF rfl ?_)
      exact ⟨⟨rfl, rfl, rfl, trivial⟩, ⟨ks, hS2, Vis.refl fun x q => hk q.1⟩, Only.weakV (Ext.refl _)⟩
    have hn := hcalls n (.inl ⟨hk, rfl⟩)
    by_cases hin : n ∈ ks
    · have hd := decide_eq_true hin
      have hvis : Vis fs (fun x => (k = 10 ∨ k = 11) ∧ n = x) ks ks := (Vis.have_ hin).iff fun x => ⟨fun q => ⟨hk, q⟩, fun q => q.2⟩
      rcases hk with k10 | k11
      · repeat' (first
          | (show EL _ _ _ _ (_ :: _) _ _
             first
             | (show EL _ _ _ _ (⟨_, _, _, _, _, some _⟩ :: _) _ _; refine EL.skip rfl rfl ?_)
             | (show EL _ _ _ _ (⟨_, .fieldAddr _ _ _, _, _, _, _⟩ :: _) _ _; refine EL.f (FV.fieldAddr rfl rfl rfl rfl rfl) rfl rfl ?_)
             | (show EL _ _ _ _ (⟨_, .load _ _, _, _, _, _⟩ :: _) _ _; refine EL.f (FV.load1 rfl rfl rfl (At.cell hb2 rfl)) rfl rfl ?_)
             | (show EL _ _ _ _ (⟨_, .move _, _, _, _, _⟩ :: _) _ _; refine EL.f (FV.move rfl) rfl rfl ?_)
             | (show EL _ _ _ _ (⟨_, .unOp .not _ _, _, _, _, _⟩ :: _) _ _; refine EL.f (FV.not rfl) rfl rfl ?_)
             | (show EL _ _ _ _ (⟨_, .pick _ _ _, _, _, _, _⟩ :: _) _ _; refine EL.f (FV.pickT rfl rfl) rfl rfl ?_)
             | (show EL _ _ _ _ (⟨_, .binOp .eql _ _ _ _, _, _, _, _⟩ :: _) _ _; refine EL.fT (FV.eql rfl rfl) rfl (fun _ => rfl) (by omega) ?_))
          | refine EL.nil ?_
          | refine EL.f (FV.lookT rfl rfl (fun _ e => e ▸ hS2) hd) rfl rfl ?_
          | refine EW.seq ?_
          | refine EW.region ?_
          | refine EW.skip ?_
          | refine EW.condF rfl ?_)
        exact ⟨⟨rfl, rfl, rfl, trivial⟩, ⟨ks, hS2, hvis⟩, Only.weakV (Ext.refl _)⟩
      · have k10 : ¬ k = 10 := by omega
        repeat' (first
          | (show EL _ _ _ _ (_ :: _) _ _
             first
             | (show EL _ _ _ _ (⟨_, .fieldAddr _ _ _, _, _, _, _⟩ :: _) _ _; refine EL.f (FV.fieldAddr rfl rfl rfl rfl rfl) rfl rfl ?_)
             | (show EL _ _ _ _ (⟨_, .load _ _, _, _, _, _⟩ :: _) _ _; refine EL.f (FV.load1 rfl rfl rfl (At.cell hb2 rfl)) rfl rfl ?_)
             | (show EL _ _ _ _ (⟨_, .move _, _, _, _, _⟩ :: _) _ _; refine EL.f (FV.move rfl) rfl rfl ?_)
             | (show EL _ _ _ _ (⟨_, .unOp .not _ _, _, _, _, _⟩ :: _) _ _; refine EL.f (FV.not rfl) rfl rfl ?_)
             | (show EL _ _ _ _ (⟨_, .pick _ _ _, _, _, _, _⟩ :: _) _ _; first | refine EL.f (FV.pickT rfl rfl) rfl rfl ?_ | refine EL.f (FV.pickF rfl rfl) rfl rfl ?_)
             | (show EL _ _ _ _ (⟨_, .binOp .eql _ _ _ _, _, _, _, _⟩ :: _) _ _; first | refine EL.fT (FV.eql rfl rfl) rfl (fun _ => rfl) (by omega) ?_ | refine EL.fF (FV.eql rfl rfl) rfl (fun _ => rfl) (by omega) ?_))
          | refine EL.nil ?_
          | refine EL.f (FV.lookT rfl rfl (fun _ e => e ▸ hS2) hd) rfl rfl ?_
          | refine EW.seq ?_
          | refine EW.region ?_
          | refine EW.skip ?_
          | refine EW.condF rfl ?_)
        exact ⟨⟨rfl, rfl, rfl, trivial⟩, ⟨ks, hS2, hvis⟩, Only.weakV (Ext.refl _)⟩
    have hd := decide_eq_false hin
    have hng : n.toNat < g := by omega
    obtain ⟨bf, of, fc, rfl, hLf, ⟨Bo, bo, rfl, hko, _⟩, hcf⟩ := hF.kid (i := n.toNat) (by omega)
    have hro := hko.1
    have hnn : (n.toNat : Int) = n := by omega
    rcases hk with k10 | k11
    · repeat' (first
        | (show EL _ _ _ _ (_ :: _) _ _
           first
           | (show EL _ _ _ _ (⟨_, _, _, _, _, some _⟩ :: _) _ _; refine EL.skip rfl rfl ?_)
           | (show EL _ _ _ _ (⟨_, .fieldAddr _ _ _, _, _, _, _⟩ :: _) _ _; refine EL.f (FV.fieldAddr rfl rfl rfl rfl rfl) rfl rfl ?_)
           | (show EL _ _ _ _ (⟨_, .load _ _, _, _, _, _⟩ :: _) _ _; refine EL.f (FV.load1 rfl rfl rfl (At.cell hb2 rfl)) rfl rfl ?_)
           | (show EL _ _ _ _ (⟨_, .move _, _, _, _, _⟩ :: _) _ _; refine EL.f (FV.move rfl) rfl rfl ?_)
           | (show EL _ _ _ _ (⟨_, .unOp .not _ _, _, _, _, _⟩ :: _) _ _; refine EL.f (FV.not rfl) rfl rfl ?_)
           | (show EL _ _ _ _ (⟨_, .pick _ _ _, _, _, _, _⟩ :: _) _ _; refine EL.f (FV.pickT rfl rfl) rfl rfl ?_)
           | (show EL _ _ _ _ (⟨_, .binOp .eql _ _ _ _, _, _, _, _⟩ :: _) _ _; refine EL.fT (FV.eql rfl rfl) rfl (fun _ => rfl) (by omega) ?_))
        | refine EL.nil ?_
        | refine EL.f (FV.lookT rfl rfl (fun _ e => e ▸ hS2) hd) rfl rfl ?_
        | refine EW.seq ?_
        | refine EW.region ?_
        | refine EW.condT rfl ?_)
      refine EL.h (Hv.putS rfl rfl rfl hS2) rfl (fun _ => rfl) ?_
      rintro _ w3 ⟨hS3, hg3⟩
      have hO3 := Only.one hg3
      have hb13 := At.only hb1 hO3 (by simp; exact fun e => hm1 e.symm)
      have hb23 := At.only hb2 hO3 (by simp; exact fun e => hm2 e.symm)
      have hE3 := Only.afterV hE2 hO3 hm0
      have f2 := (hLf.ext hE3) 2 _ rfl
      repeat' (first
        | (show EL _ _ _ _ (_ :: _) _ _
           first
           | (show EL _ _ _ _ (⟨_, .fieldAddr _ _ _, _, _, _, _⟩ :: _) _ _; refine EL.f (FV.fieldAddr rfl rfl rfl rfl rfl) rfl rfl ?_)
           | (show EL _ _ _ _ (⟨_, .load _ _, _, _, _, _⟩ :: _) _ _; first | refine EL.f (FV.load1 rfl rfl rfl (At.cell hb13 rfl)) rfl rfl ?_ | refine EL.f (FV.load1 rfl rfl rfl (At.cell hb23 rfl)) rfl rfl ?_ | refine EL.f (FV.load1 rfl rfl rfl (f2)) rfl rfl ?_)
           | (show EL _ _ _ _ (⟨_, .indexAddr _ _ _, _, _, _, _⟩ :: _) _ _; refine EL.f (FV.idx rfl rfl rfl rfl (by omega) (by omega)) rfl rfl ?_)
           | (show EL _ _ _ _ (⟨_, .move _, _, _, _, _⟩ :: _) _ _; refine EL.f (FV.move rfl) rfl rfl ?_)
           | (show EL _ _ _ _ (⟨_, .call _, _, _, _, _⟩ :: _) _ _; refine EL.f (FV.len rfl rfl) rfl rfl ?_))
        | refine EL.nil ?_
        | refine EW.seq ?_
        | refine EW.region ?_
        | refine EW.block ?_)
      refine EW.loop (X := Nat × List Int) (fun y wr => y.1 ≤ (fs.getD n.toNat dFu).outs.length ∧ (SetAt wr m y.2 ∧ Vis fs (fun x => Ex.callsL x ((fs.getD n.toNat dFu).outs.take y.1)) (addS ks n) y.2) ∧ Only [some m] w3 wr) (fun y => [(2, .map (some m)), (3, .pointer (some ⟨g1, 0, none⟩)), (4, .pointer (some ⟨g2, 0, none⟩)), (34, .slice Bo (fs.getD n.toNat dFu).outs.length bo), (35, .int .i64 (fs.getD n.toNat dFu).outs.length), (36, .int .i64 y.1)]) (fun y => (fs.getD n.toNat dFu).outs.length - y.1) (0, addS ks n) ⟨Nat.zero_le _, ⟨hS3, Vis.refl (by simp [Ex.callsL])⟩, Only.weakV (Ext.refl _)⟩ ⟨rfl, rfl, rfl, rfl, rfl, rfl, trivial⟩ ?_
      rintro ⟨j, kq⟩ wr ⟨hj, ⟨hSr, hvr⟩, hOr⟩
      dsimp only at *
      by_cases hlt : j < (fs.getD n.toNat dFu).outs.length
      rotate_left
      · obtain rfl : j = (fs.getD n.toNat dFu).outs.length := by omega
        rw [List.take_length] at hvr
        repeat' (first
          | refine EL.fF (FV.lss rfl rfl) rfl (fun _ => rfl) (by omega) ?_
          | refine EL.nil ?_
          | refine EW.seq ?_
          | refine EW.region ?_
          | refine EW.exit ?_
          | refine EW.condF rfl ?_)
        exact ⟨⟨rfl, rfl, rfl, trivial⟩, ⟨kq, hSr, (Vis.note (fun x => mem_addS) hvr).iff fun x => ⟨fun q => ⟨.inl k10, q⟩, fun q => q.2⟩⟩, Only.bothV hO3 hOr⟩
      obtain ⟨bk, ok_, cs, rfl, hL, hX, hc⟩ := hko.kid hlt
      have hEr := Only.afterV hE3 hOr hm0
      have hLr := hL.ext hEr
      have hbp := At.only hb13 hOr (by simp; exact fun e => hm1 e.symm)
      have hbr := At.only hb23 hOr (by simp; exact fun e => hm2 e.symm)
      repeat' (first
        | refine EL.f (FV.idx rfl rfl rfl rfl (by omega) (by omega)) rfl rfl ?_
        | refine EL.f (FV.loadAgg (cs := cs) rfl rfl rfl hc rfl (fun _ e => e ▸ hLr)) rfl rfl ?_
        | refine EL.fT (FV.lss rfl rfl) rfl (fun _ => rfl) (by omega) ?_
        | refine EL.nil ?_
        | refine EW.seq ?_
        | refine EW.region ?_
        | refine EW.block ?_
        | refine EW.skip ?_
        | refine EW.condT rfl ?_)
      refine EL.h (Hv.allocA rfl rfl) rfl (fun _ => rfl) ?_
      rintro _ u1 ⟨g5, rfl, hg5, h5, he5⟩
      skip
      refine EL.h (Hv.storeAggG (vs := cs) rfl rfl rfl hc hX.one h5 (by rw [hc]; exact Nat.le_refl _)) rfl (fun _ => rfl) ?_
      rintro _ u2 ⟨h6, hr6⟩
      rw [setL_all (by rw [hc]; rfl)] at h6
      have hu2 : Ext wr u2 := Below.wr he5 hr6 (by omega) (Nat.le_refl _)
      have hbu := At.ext hbr hu2
      have hbq := At.ext hbp hu2
      have hcall := ihg n.toNat hng (by omega) ((fs.getD n.toNat dFu).outs.getD j dEx) (fun x q => valid_calls hv (by omega) (callsL_kid hlt q)) kq cs u2 hX (hEr.trans hu2) (hSr.ext hu2)
      repeat' (first
        | refine EL.f (FV.loadAgg (cs := [.slice _ fs.length cap]) rfl rfl rfl rfl rfl (fun _ e => e ▸ At.lies hbq)) rfl rfl ?_
        | refine EL.f (FV.loadAgg (cs := cs) rfl rfl rfl hc rfl (fun _ e => e ▸ At.lies h6)) rfl rfl ?_
        | refine EL.f (FV.move rfl) rfl rfl ?_
        | refine EL.nil ?_
        | refine EW.region ?_)
      refine EL.h (Hv.call hcall rfl) rfl (fun _ => rfl) ?_
      rintro _ u3 ⟨rfl, ⟨kq2, hS4, hv4⟩, hO4⟩
      repeat' (first
        | refine EL.f (FV.move rfl) rfl rfl ?_
        | refine EL.f (FV.addI rfl rfl (by omega)) rfl rfl ?_
        | refine EL.nil ?_
        | refine EW.region ?_)
      exact ⟨(j + 1, kq2), ⟨rfl, rfl, rfl, rfl, rfl, rfl, trivial⟩, ⟨by dsimp only; omega, ⟨hS4, hvr.trans hv4 fun x => callsL_next hlt⟩, Only.bothV hOr (Only.bothV (Only.weakV hu2) hO4)⟩, by dsimp only; omega⟩
    · have k10 : ¬ k = 10 := by omega
      repeat' (first
        | (show EL _ _ _ _ (_ :: _) _ _
           first
           | (show EL _ _ _ _ (⟨_, .fieldAddr _ _ _, _, _, _, _⟩ :: _) _ _; refine EL.f (FV.fieldAddr rfl rfl rfl rfl rfl) rfl rfl ?_)
           | (show EL _ _ _ _ (⟨_, .load _ _, _, _, _, _⟩ :: _) _ _; refine EL.f (FV.load1 rfl rfl rfl (At.cell hb2 rfl)) rfl rfl ?_)
           | (show EL _ _ _ _ (⟨_, .move _, _, _, _, _⟩ :: _) _ _; refine EL.f (FV.move rfl) rfl rfl ?_)
           | (show EL _ _ _ _ (⟨_, .unOp .not _ _, _, _, _, _⟩ :: _) _ _; refine EL.f (FV.not rfl) rfl rfl ?_)
           | (show EL _ _ _ _ (⟨_, .pick _ _ _, _, _, _, _⟩ :: _) _ _; first | refine EL.f (FV.pickT rfl rfl) rfl rfl ?_ | refine EL.f (FV.pickF rfl rfl) rfl rfl ?_)
           | (show EL _ _ _ _ (⟨_, .binOp .eql _ _ _ _, _, _, _, _⟩ :: _) _ _; first | refine EL.fT (FV.eql rfl rfl) rfl (fun _ => rfl) (by omega) ?_ | refine EL.fF (FV.eql rfl rfl) rfl (fun _ => rfl) (by omega) ?_))
        | refine EL.nil ?_
        | refine EL.f (FV.lookT rfl rfl (fun _ e => e ▸ hS2) hd) rfl rfl ?_
        | refine EW.seq ?_
        | refine EW.region ?_
        | refine EW.condT rfl ?_)
      refine EL.h (Hv.putS rfl rfl rfl hS2) rfl (fun _ => rfl) ?_
      rintro _ w3 ⟨hS3, hg3⟩
      have hO3 := Only.one hg3
      have hb13 := At.only hb1 hO3 (by simp; exact fun e => hm1 e.symm)
      have hb23 := At.only hb2 hO3 (by simp; exact fun e => hm2 e.symm)
      have hE3 := Only.afterV hE2 hO3 hm0
      have f2 := (hLf.ext hE3) 2 _ rfl
      repeat' (first
        | (show EL _ _ _ _ (_ :: _) _ _
           first
           | (show EL _ _ _ _ (⟨_, .fieldAddr _ _ _, _, _, _, _⟩ :: _) _ _; refine EL.f (FV.fieldAddr rfl rfl rfl rfl rfl) rfl rfl ?_)
           | (show EL _ _ _ _ (⟨_, .load _ _, _, _, _, _⟩ :: _) _ _; first | refine EL.f (FV.load1 rfl rfl rfl (At.cell hb13 rfl)) rfl rfl ?_ | refine EL.f (FV.load1 rfl rfl rfl (At.cell hb23 rfl)) rfl rfl ?_ | refine EL.f (FV.load1 rfl rfl rfl (f2)) rfl rfl ?_)
           | (show EL _ _ _ _ (⟨_, .indexAddr _ _ _, _, _, _, _⟩ :: _) _ _; refine EL.f (FV.idx rfl rfl rfl rfl (by omega) (by omega)) rfl rfl ?_)
           | (show EL _ _ _ _ (⟨_, .move _, _, _, _, _⟩ :: _) _ _; refine EL.f (FV.move rfl) rfl rfl ?_)
           | (show EL _ _ _ _ (⟨_, .call _, _, _, _, _⟩ :: _) _ _; refine EL.f (FV.len rfl rfl) rfl rfl ?_))
        | refine EL.nil ?_
        | refine EW.seq ?_
        | refine EW.region ?_
        | refine EW.block ?_)
      refine EW.loop (X := Nat × List Int) (fun y wr => y.1 ≤ (fs.getD n.toNat dFu).outs.length ∧ (SetAt wr m y.2 ∧ Vis fs (fun x => Ex.callsL x ((fs.getD n.toNat dFu).outs.take y.1)) (addS ks n) y.2) ∧ Only [some m] w3 wr) (fun y => [(2, .map (some m)), (3, .pointer (some ⟨g1, 0, none⟩)), (4, .pointer (some ⟨g2, 0, none⟩)), (34, .slice Bo (fs.getD n.toNat dFu).outs.length bo), (35, .int .i64 (fs.getD n.toNat dFu).outs.length), (36, .int .i64 y.1)]) (fun y => (fs.getD n.toNat dFu).outs.length - y.1) (0, addS ks n) ⟨Nat.zero_le _, ⟨hS3, Vis.refl (by simp [Ex.callsL])⟩, Only.weakV (Ext.refl _)⟩ ⟨rfl, rfl, rfl, rfl, rfl, rfl, trivial⟩ ?_
      rintro ⟨j, kq⟩ wr ⟨hj, ⟨hSr, hvr⟩, hOr⟩
      dsimp only at *
      by_cases hlt : j < (fs.getD n.toNat dFu).outs.length
      rotate_left
      · obtain rfl : j = (fs.getD n.toNat dFu).outs.length := by omega
        rw [List.take_length] at hvr
        repeat' (first
          | refine EL.fF (FV.lss rfl rfl) rfl (fun _ => rfl) (by omega) ?_
          | refine EL.nil ?_
          | refine EW.seq ?_
          | refine EW.region ?_
          | refine EW.exit ?_
          | refine EW.condF rfl ?_)
        exact ⟨⟨rfl, rfl, rfl, trivial⟩, ⟨kq, hSr, (Vis.note (fun x => mem_addS) hvr).iff fun x => ⟨fun q => ⟨.inr k11, q⟩, fun q => q.2⟩⟩, Only.bothV hO3 hOr⟩
      obtain ⟨bk, ok_, cs, rfl, hL, hX, hc⟩ := hko.kid hlt
      have hEr := Only.afterV hE3 hOr hm0
      have hLr := hL.ext hEr
      have hbp := At.only hb13 hOr (by simp; exact fun e => hm1 e.symm)
      have hbr := At.only hb23 hOr (by simp; exact fun e => hm2 e.symm)
      repeat' (first
        | refine EL.f (FV.idx rfl rfl rfl rfl (by omega) (by omega)) rfl rfl ?_
        | refine EL.f (FV.loadAgg (cs := cs) rfl rfl rfl hc rfl (fun _ e => e ▸ hLr)) rfl rfl ?_
        | refine EL.fT (FV.lss rfl rfl) rfl (fun _ => rfl) (by omega) ?_
        | refine EL.nil ?_
        | refine EW.seq ?_
        | refine EW.region ?_
        | refine EW.block ?_
        | refine EW.skip ?_
        | refine EW.condT rfl ?_)
      refine EL.h (Hv.allocA rfl rfl) rfl (fun _ => rfl) ?_
      rintro _ u1 ⟨g5, rfl, hg5, h5, he5⟩
      skip
      refine EL.h (Hv.storeAggG (vs := cs) rfl rfl rfl hc hX.one h5 (by rw [hc]; exact Nat.le_refl _)) rfl (fun _ => rfl) ?_
      rintro _ u2 ⟨h6, hr6⟩
      rw [setL_all (by rw [hc]; rfl)] at h6
      have hu2 : Ext wr u2 := Below.wr he5 hr6 (by omega) (Nat.le_refl _)
      have hbu := At.ext hbr hu2
      have hbq := At.ext hbp hu2
      have hcall := ihg n.toNat hng (by omega) ((fs.getD n.toNat dFu).outs.getD j dEx) (fun x q => valid_calls hv (by omega) (callsL_kid hlt q)) kq cs u2 hX (hEr.trans hu2) (hSr.ext hu2)
      repeat' (first
        | refine EL.f (FV.loadAgg (cs := [.slice _ fs.length cap]) rfl rfl rfl rfl rfl (fun _ e => e ▸ At.lies hbq)) rfl rfl ?_
        | refine EL.f (FV.loadAgg (cs := cs) rfl rfl rfl hc rfl (fun _ e => e ▸ At.lies h6)) rfl rfl ?_
        | refine EL.f (FV.move rfl) rfl rfl ?_
        | refine EL.nil ?_
        | refine EW.region ?_)
      refine EL.h (Hv.call hcall rfl) rfl (fun _ => rfl) ?_
      rintro _ u3 ⟨rfl, ⟨kq2, hS4, hv4⟩, hO4⟩
      repeat' (first
        | refine EL.f (FV.move rfl) rfl rfl ?_
        | refine EL.f (FV.addI rfl rfl (by omega)) rfl rfl ?_
        | refine EL.nil ?_
        | refine EW.region ?_)
      exact ⟨(j + 1, kq2), ⟨rfl, rfl, rfl, rfl, rfl, rfl, trivial⟩, ⟨by dsimp only; omega, ⟨hS4, hvr.trans hv4 fun x => callsL_next hlt⟩, Only.bothV hOr (Only.bothV (Only.weakV hu2) hO4)⟩, by dsimp only; omega⟩
  rintro ρ' w5 ⟨hsub, ⟨ks5, hS5, hvis5⟩, hO5⟩
  refine EW.weaken ?_ hsub
  have hO02 : Only [some m] w w5 := Only.bothV (Only.weakV e02) hO5
  replace hb1 := At.only hb1 hO5 (by simp; exact fun e => hm1 e.symm)
  replace hb2 := At.only hb2 hO5 (by simp; exact fun e => hm2 e.symm)
  repeat' (first
    | (show EL _ _ _ _ (_ :: _) _ _
       first
       | (show EL _ _ _ _ (⟨_, .fieldAddr _ _ _, _, _, _, _⟩ :: _) _ _; refine EL.f (FV.fieldAddr rfl rfl rfl rfl rfl) rfl rfl ?_)
       | (show EL _ _ _ _ (⟨_, .load _ _, _, _, _, _⟩ :: _) _ _; refine EL.f (FV.load1 rfl rfl rfl (At.cell hb2 rfl)) rfl rfl ?_)
       | (show EL _ _ _ _ (⟨_, .move _, _, _, _, _⟩ :: _) _ _; refine EL.f (FV.move rfl) rfl rfl ?_)
       | (show EL _ _ _ _ (⟨_, .call _, _, _, _, _⟩ :: _) _ _; refine EL.f (FV.len rfl rfl) rfl rfl ?_))
    | refine EL.nil ?_
    | refine EW.seq ?_
    | refine EW.region ?_
    | refine EW.block ?_)
  refine EW.loop (X := Nat × List Int) (fun y wr => y.1 ≤ es.length ∧ (SetAt wr m y.2 ∧ Vis fs (fun x => Ex.callsL x (es.take y.1)) ks5 y.2) ∧ Only [some m] w5 wr) (fun y => [(2, .map (some m)), (3, .pointer (some ⟨g1, 0, none⟩)), (4, .pointer (some ⟨g2, 0, none⟩)), (46, .slice B es.length bap), (47, .int .i64 es.length), (48, .int .i64 y.1)]) (fun y => es.length - y.1) (0, ks5) ⟨Nat.zero_le _, ⟨hS5, Vis.refl (by simp [Ex.callsL])⟩, Only.weakV (Ext.refl _)⟩ ⟨rfl, rfl, rfl, rfl, rfl, rfl, trivial⟩ ?_
  rintro ⟨j, kq⟩ wr ⟨hj, ⟨hSr, hvr⟩, hOr⟩
  dsimp only at *
  have hOw := Only.bothV hO02 hOr
  by_cases hlt : j < es.length
  rotate_left
  · obtain rfl : j = es.length := by omega
    rw [List.take_length] at hvr
    repeat' (first
      | refine EL.fF (FV.lss rfl rfl) rfl (fun _ => rfl) (by omega) ?_
      | refine EL.nil ?_
      | refine EW.seq ?_
      | refine EW.region ?_
      | refine EW.exit ?_
      | refine EW.condF rfl ?_)
    exact ⟨_, rfl, rfl, ⟨kq, hSr, hvis5.trans hvr fun x => by rw [Ex.calls]⟩, hOw⟩
  obtain ⟨bk, ok_, cs, rfl, hL, hX, hc⟩ := hks.kid hlt
  have hEr := Only.afterV hE0 hOw hm0
  have hLr := hL.ext hEr
  have hbp := At.only hb1 hOr (by simp; exact fun e => hm1 e.symm)
  have hbr := At.only hb2 hOr (by simp; exact fun e => hm2 e.symm)
  repeat' (first
    | refine EL.f (FV.idx rfl rfl rfl rfl (by omega) (by omega)) rfl rfl ?_
    | refine EL.f (FV.loadAgg (cs := cs) rfl rfl rfl hc rfl (fun _ e => e ▸ hLr)) rfl rfl ?_
    | refine EL.fT (FV.lss rfl rfl) rfl (fun _ => rfl) (by omega) ?_
    | refine EL.nil ?_
    | refine EW.seq ?_
    | refine EW.region ?_
    | refine EW.block ?_
    | refine EW.skip ?_
    | refine EW.condT rfl ?_)
  refine EL.h (Hv.allocA rfl rfl) rfl (fun _ => rfl) ?_
  rintro _ u1 ⟨g5, rfl, hg5, h5, he5⟩
  skip
  refine EL.h (Hv.storeAggG (vs := cs) rfl rfl rfl hc hX.one h5 (by rw [hc]; exact Nat.le_refl _)) rfl (fun _ => rfl) ?_
  rintro _ u2 ⟨h6, hr6⟩
  rw [setL_all (by rw [hc]; rfl)] at h6
  have hu2 : Ext wr u2 := Below.wr he5 hr6 (by omega) (Nat.le_refl _)
  have hbu := At.ext hbr hu2
  have hbq := At.ext hbp hu2
  have hcall := ih j hlt (fun x q => hcalls x (.inr (callsL_kid hlt q))) kq cs u2 hX (hEr.trans hu2) (hSr.ext hu2)
  repeat' (first
    | refine EL.f (FV.loadAgg (cs := [.slice _ fs.length cap]) rfl rfl rfl rfl rfl (fun _ e => e ▸ At.lies hbq)) rfl rfl ?_
    | refine EL.f (FV.loadAgg (cs := cs) rfl rfl rfl hc rfl (fun _ e => e ▸ At.lies h6)) rfl rfl ?_
    | refine EL.f (FV.move rfl) rfl rfl ?_
    | refine EL.nil ?_
    | refine EW.region ?_)
  refine EL.h (Hv.call hcall rfl) rfl (fun _ => rfl) ?_
  rintro _ u3 ⟨rfl, ⟨kq2, hS3, hv3⟩, hO3⟩
  repeat' (first
    | refine EL.f (FV.move rfl) rfl rfl ?_
    | refine EL.f (FV.addI rfl rfl (by omega)) rfl rfl ?_
    | refine EL.nil ?_
    | refine EW.region ?_)
  exact ⟨(j + 1, kq2), ⟨rfl, rfl, rfl, rfl, rfl, rfl, trivial⟩, ⟨by dsimp only; omega, ⟨hS3, hvr.trans hv3 fun x => callsL_next hlt⟩, Only.bothV hOr (Only.bothV (Only.weakV hu2) hO3)⟩, by dsimp only; omega⟩
/-! the reference -/
theorem specHas (A : Option Addr) (cp : Nat) (xs : List Int) (n : Int) (w : World) (hx : Rd w A (ints xs)) (hn : xs.length ≤ 1048577) : CallsR Try.prog 74 [.slice A xs.length cp, .int .i64 n] w fun v w' => v = .bool (decide (n ∈ xs)) ∧ w = w' := by
  refine CallsR.enter Try.func74 (by decide +kernel) rfl Try.ntmps74 rfl ?_
  repeat' (first
    | refine EL.f (FV.assign rfl) rfl rfl ?_
    | refine EL.nil ?_
    | refine EW.seq ?_
    | refine EW.region ?_
    | refine EW.block ?_)
  refine EW.loop (X := Nat) (fun i wr => i ≤ xs.length ∧ (∀ j, j < i → xs.getD j 0 ≠ n) ∧ w = wr) (fun i => [(0, .slice A xs.length cp), (1, .int .i64 n), (5, .int .i64 i)]) (fun i => xs.length - i) 0 ⟨Nat.zero_le _, fun j hj => by omega, rfl⟩ ⟨rfl, rfl, rfl, trivial⟩ ?_
  rintro i wr ⟨hi, hno, rfl⟩
  by_cases hlt : i < xs.length
  · obtain ⟨b, o, rfl, hc⟩ := hx.int hlt
    by_cases he : xs.getD i 0 = n
    · repeat' (first
        | (show EL _ _ _ _ (_ :: _) _ _
           first
           | (show EL _ _ _ _ (⟨_, .move _, _, _, _, _⟩ :: _) _ _; refine EL.f (FV.move rfl) rfl rfl ?_)
           | (show EL _ _ _ _ (⟨_, .assign _, _, _, _, _⟩ :: _) _ _; refine EL.f (FV.assign rfl) rfl rfl ?_)
           | (show EL _ _ _ _ (⟨_, .call _, _, _, _, _⟩ :: _) _ _; refine EL.f (FV.len rfl rfl) rfl rfl ?_)
           | (show EL _ _ _ _ (⟨_, .binOp .lss _ _ _ _, _, _, _, _⟩ :: _) _ _; refine EL.fT (FV.lss rfl rfl) rfl (fun _ => rfl) (by omega) ?_)
           | (show EL _ _ _ _ (⟨_, .binOp .eql _ _ _ _, _, _, _, _⟩ :: _) _ _; refine EL.fT (FV.eql rfl rfl) rfl (fun _ => rfl) (by omega) ?_)
           | (show EL _ _ _ _ (⟨_, .indexAddr _ _ _, _, _, _, _⟩ :: _) _ _; refine EL.f (FV.idx1 rfl rfl rfl rfl (by omega) (by omega)) rfl rfl ?_)
           | (show EL _ _ _ _ (⟨_, .load _ _, _, _, _, _⟩ :: _) _ _; refine EL.f (FV.load1 rfl rfl rfl (by assumption)) rfl rfl ?_))
        | refine EL.nil ?_
        | refine EW.seq ?_
        | refine EW.region ?_
        | refine EW.block ?_
        | refine EW.skip ?_
        | refine EW.ret ?_
        | refine EW.condT rfl ?_)
      exact ⟨_, rfl, by rw [decide_eq_true]; exact he ▸ getD_mem hlt, rfl⟩
    · repeat' (first
        | (show EL _ _ _ _ (_ :: _) _ _
           first
           | (show EL _ _ _ _ (⟨_, .move _, _, _, _, _⟩ :: _) _ _; refine EL.f (FV.move rfl) rfl rfl ?_)
           | (show EL _ _ _ _ (⟨_, .assign _, _, _, _, _⟩ :: _) _ _; refine EL.f (FV.assign rfl) rfl rfl ?_)
           | (show EL _ _ _ _ (⟨_, .binOp .add _ _ _ _, _, _, _, _⟩ :: _) _ _; refine EL.f (FV.addI rfl rfl (by omega)) rfl rfl ?_)
           | (show EL _ _ _ _ (⟨_, .call _, _, _, _, _⟩ :: _) _ _; refine EL.f (FV.len rfl rfl) rfl rfl ?_)
           | (show EL _ _ _ _ (⟨_, .binOp .lss _ _ _ _, _, _, _, _⟩ :: _) _ _; refine EL.fT (FV.lss rfl rfl) rfl (fun _ => rfl) (by omega) ?_)
           | (show EL _ _ _ _ (⟨_, .binOp .eql _ _ _ _, _, _, _, _⟩ :: _) _ _; refine EL.fF (FV.eql rfl rfl) rfl (fun _ => rfl) (by omega) ?_)
           | (show EL _ _ _ _ (⟨_, .indexAddr _ _ _, _, _, _, _⟩ :: _) _ _; refine EL.f (FV.idx1 rfl rfl rfl rfl (by omega) (by omega)) rfl rfl ?_)
           | (show EL _ _ _ _ (⟨_, .load _ _, _, _, _, _⟩ :: _) _ _; refine EL.f (FV.load1 rfl rfl rfl (by assumption)) rfl rfl ?_))
        | refine EL.nil ?_
        | refine EW.seq ?_
        | refine EW.region ?_
        | refine EW.block ?_
        | refine EW.skip ?_
        | refine EW.condT rfl ?_
        | refine EW.condF rfl ?_)
      exact ⟨i + 1, ⟨rfl, rfl, rfl, trivial⟩, ⟨by omega, fun j hj => by
        by_cases e : j = i
        · subst e; exact he
        · exact hno j (by omega), rfl⟩, by omega⟩
  · obtain rfl : i = xs.length := by omega
    repeat' (first
      | (show EL _ _ _ _ (_ :: _) _ _
         first
         | (show EL _ _ _ _ (⟨_, .move _, _, _, _, _⟩ :: _) _ _; refine EL.f (FV.move rfl) rfl rfl ?_)
         | (show EL _ _ _ _ (⟨_, .assign _, _, _, _, _⟩ :: _) _ _; refine EL.f (FV.assign rfl) rfl rfl ?_)
         | (show EL _ _ _ _ (⟨_, .call _, _, _, _, _⟩ :: _) _ _; refine EL.f (FV.len rfl rfl) rfl rfl ?_)
         | (show EL _ _ _ _ (⟨_, .binOp .lss _ _ _ _, _, _, _, _⟩ :: _) _ _; refine EL.fF (FV.lss rfl rfl) rfl (fun _ => rfl) (by omega) ?_))
      | refine EL.nil ?_
      | refine EW.seq ?_
      | refine EW.region ?_
      | refine EW.exit ?_
      | refine EW.ret ?_
      | refine EW.condF rfl ?_)
    refine ⟨_, rfl, ?_, rfl⟩
    rw [decide_eq_false]
    intro hm
    obtain ⟨j, hj, e⟩ := List.mem_iff_getElem.1 hm
    exact hno j hj (by simp [hj, e])
set_option maxHeartbeats 4000000 in
theorem specCalls (Q : Nat) (hQ : Q ≤ 16) (e : Ex) : (∀ x, e.calls x → 0 ≤ x ∧ x < Q) → ∀ (B : Nat) (acc : List Int) (s : Value) b o w, B ≤ w.heap.size → ExP w b o e → OwnI B w s acc → Rising acc → (∀ x ∈ acc, 0 ≤ x ∧ x < Q) →
    CallsR Try.prog 73 [.pointer (some ⟨b, o, none⟩), s] w fun v w' => OwnI B w' v (e.into acc) ∧ Ext w w' := by
  induction e using Ex.ind with
  | h k n p c es ih =>
  intro hcalls B acc s b o w hB hx hown hri hra
  obtain ⟨cs0, hL0, hX0⟩ := hx
  obtain ⟨Bk, bap, rfl, hks⟩ := hX0.inv
  have hr := hks.1
  have l0 := hL0 0 _ rfl
  have l1 := hL0 1 _ rfl
  have l4 := hL0 4 _ rfl
  have hal := rising_room (a := 0) (b := Q) hri hra (by omega)
  obtain ⟨As, cp, rfl, hrd⟩ := hown.form
  refine CallsR.enter Try.func73 (by decide +kernel) rfl Try.ntmps73 rfl ?_
  refine EW.seq ?_
  refine EW.region ?_
  refine EL.f (FV.assign rfl) rfl rfl ?_
  refine EL.nil ?_
  refine EW.seqR (K := fun ρ' w' => ∃ s1, Sub [(0, .pointer (some ⟨b, o, none⟩)), (1, s1)] ρ' ∧ OwnI B w' s1 (if k = 10 ∨ k = 11 then putR n acc else acc) ∧ Ext w w') ?_ ?_
  · by_cases hk : k = 10 ∨ k = 11
    · rw [if_pos hk]
      rcases hk with k10 | k11
      · repeat' (first
          | (show EL _ _ _ _ (_ :: _) _ _
             first
             | (show EL _ _ _ _ (⟨_, _, _, _, _, some _⟩ :: _) _ _; refine EL.skip rfl rfl ?_)
             | (show EL _ _ _ _ (⟨_, .nilCheck _, _, _, _, _⟩ :: _) _ _; refine EL.f (FV.nilChk rfl) rfl rfl ?_)
             | (show EL _ _ _ _ (⟨_, .fieldAddr _ _ _, _, _, _, _⟩ :: _) _ _; refine EL.f (FV.fieldAddr rfl rfl rfl rfl rfl) rfl rfl ?_)
             | (show EL _ _ _ _ (⟨_, .load _ _, _, _, _, _⟩ :: _) _ _; first | refine EL.f (FV.load1 rfl rfl rfl (l0)) rfl rfl ?_ | refine EL.f (FV.load1 rfl rfl rfl (l1)) rfl rfl ?_)
             | (show EL _ _ _ _ (⟨_, .move _, _, _, _, _⟩ :: _) _ _; refine EL.f (FV.move rfl) rfl rfl ?_)
             | (show EL _ _ _ _ (⟨_, .pick _ _ _, _, _, _, _⟩ :: _) _ _; refine EL.f (FV.pickT rfl rfl) rfl rfl ?_)
             | (show EL _ _ _ _ (⟨_, .binOp .eql _ _ _ _, _, _, _, _⟩ :: _) _ _; refine EL.fT (FV.eql rfl rfl) rfl (fun _ => rfl) (by omega) ?_))
          | refine EL.nil ?_
          | refine EW.seq ?_
          | refine EW.region ?_
          | refine EW.condT rfl ?_)
        refine EL.h (Hv.call (specPut As cp acc n w hrd (by omega)) rfl) rfl (fun _ => rfl) ?_
        rintro s1 w1 ⟨ho1, he1⟩
        repeat' (first
          | refine EL.f (FV.assign rfl) rfl rfl ?_
          | refine EL.nil ?_)
        exact ⟨s1, ⟨rfl, rfl, trivial⟩, OwnI.lower ho1 hB, he1⟩
      · have k10 : ¬ k = 10 := by omega
        repeat' (first
          | (show EL _ _ _ _ (_ :: _) _ _
             first
             | (show EL _ _ _ _ (⟨_, .nilCheck _, _, _, _, _⟩ :: _) _ _; refine EL.f (FV.nilChk rfl) rfl rfl ?_)
             | (show EL _ _ _ _ (⟨_, .fieldAddr _ _ _, _, _, _, _⟩ :: _) _ _; refine EL.f (FV.fieldAddr rfl rfl rfl rfl rfl) rfl rfl ?_)
             | (show EL _ _ _ _ (⟨_, .load _ _, _, _, _, _⟩ :: _) _ _; first | refine EL.f (FV.load1 rfl rfl rfl (l0)) rfl rfl ?_ | refine EL.f (FV.load1 rfl rfl rfl (l1)) rfl rfl ?_)
             | (show EL _ _ _ _ (⟨_, .move _, _, _, _, _⟩ :: _) _ _; refine EL.f (FV.move rfl) rfl rfl ?_)
             | (show EL _ _ _ _ (⟨_, .pick _ _ _, _, _, _, _⟩ :: _) _ _; refine EL.f (FV.pickF rfl rfl) rfl rfl ?_)
             | (show EL _ _ _ _ (⟨_, .binOp .eql _ _ _ _, _, _, _, _⟩ :: _) _ _; first | refine EL.fT (FV.eql rfl rfl) rfl (fun _ => rfl) (by omega) ?_ | refine EL.fF (FV.eql rfl rfl) rfl (fun _ => rfl) (by omega) ?_))
          | refine EL.nil ?_
          | refine EW.seq ?_
          | refine EW.region ?_
          | refine EW.condT rfl ?_)
        refine EL.h (Hv.call (specPut As cp acc n w hrd (by omega)) rfl) rfl (fun _ => rfl) ?_
        rintro s1 w1 ⟨ho1, he1⟩
        repeat' (first
          | refine EL.f (FV.assign rfl) rfl rfl ?_
          | refine EL.nil ?_)
        exact ⟨s1, ⟨rfl, rfl, trivial⟩, OwnI.lower ho1 hB, he1⟩
    · rw [if_neg hk]
      repeat' (first
        | (show EL _ _ _ _ (_ :: _) _ _
           first
           | (show EL _ _ _ _ (⟨_, .nilCheck _, _, _, _, _⟩ :: _) _ _; refine EL.f (FV.nilChk rfl) rfl rfl ?_)
           | (show EL _ _ _ _ (⟨_, .fieldAddr _ _ _, _, _, _, _⟩ :: _) _ _; refine EL.f (FV.fieldAddr rfl rfl rfl rfl rfl) rfl rfl ?_)
           | (show EL _ _ _ _ (⟨_, .load _ _, _, _, _, _⟩ :: _) _ _; refine EL.f (FV.load1 rfl rfl rfl (l0)) rfl rfl ?_)
           | (show EL _ _ _ _ (⟨_, .move _, _, _, _, _⟩ :: _) _ _; refine EL.f (FV.move rfl) rfl rfl ?_)
           | (show EL _ _ _ _ (⟨_, .pick _ _ _, _, _, _, _⟩ :: _) _ _; refine EL.f (FV.pickF rfl rfl) rfl rfl ?_)
           | (show EL _ _ _ _ (⟨_, .binOp .eql _ _ _ _, _, _, _, _⟩ :: _) _ _; refine EL.fF (FV.eql rfl rfl) rfl (fun _ => rfl) (by omega) ?_))
        | refine EL.nil ?_
        | refine EW.seq ?_
        | refine EW.region ?_
        | refine EW.skip ?_
        | refine EW.condF rfl ?_)
      exact ⟨_, ⟨rfl, rfl, trivial⟩, hown, Ext.refl _⟩
  rintro ρ' w2 ⟨s1, hsub, hown2, hE2⟩
  refine EW.weaken ?_ hsub
  have hri2 : Rising (if k = 10 ∨ k = 11 then putR n acc else acc) := by split; exact putR_rising hri; exact hri
  have hra2 : ∀ x ∈ (if k = 10 ∨ k = 11 then putR n acc else acc), 0 ≤ x ∧ x < Q := by
    split
    · rename_i hk
      intro x hx
      rcases mem_putR.1 hx with rfl | q
      · exact hcalls _ (.inl ⟨hk, rfl⟩)
      · exact hra x q
    · exact hra
  rw [Ex.into]
  generalize (if k = 10 ∨ k = 11 then putR n acc else acc) = a1 at *
  replace l4 := hE2.cell l4
  repeat' (first
    | refine EL.f (FV.assign rfl) rfl rfl ?_
    | refine EL.nil ?_
    | refine EW.seq ?_
    | refine EW.region ?_
    | refine EW.block ?_)
  refine EW.loop (X := Nat × Value) (fun y wr => y.1 ≤ es.length ∧ OwnI B wr y.2 (Ex.intoL (es.take y.1) a1) ∧ Ext w2 wr) (fun y => [(0, .pointer (some ⟨b, o, none⟩)), (1, y.2), (5, .int .i64 y.1)]) (fun y => es.length - y.1) (0, s1) ⟨Nat.zero_le _, by simpa [Ex.intoL] using hown2, Ext.refl _⟩ ⟨rfl, rfl, rfl, trivial⟩ ?_
  rintro ⟨i, s⟩ wr ⟨hi, hownr, hEr⟩
  dsimp only at *
  have hWr := hE2.trans hEr
  replace l4 := hEr.cell l4
  by_cases hlt : i < es.length
  rotate_left
  · obtain rfl : i = es.length := by omega
    rw [List.take_length] at hownr
    repeat' (first
      | (show EL _ _ _ _ (_ :: _) _ _
         first
         | (show EL _ _ _ _ (⟨_, .nilCheck _, _, _, _, _⟩ :: _) _ _; refine EL.f (FV.nilChk rfl) rfl rfl ?_)
         | (show EL _ _ _ _ (⟨_, .fieldAddr _ _ _, _, _, _, _⟩ :: _) _ _; refine EL.f (FV.fieldAddr rfl rfl rfl rfl rfl) rfl rfl ?_)
         | (show EL _ _ _ _ (⟨_, .load _ _, _, _, _, _⟩ :: _) _ _; refine EL.f (FV.load1 rfl rfl rfl (l4)) rfl rfl ?_)
         | (show EL _ _ _ _ (⟨_, .move _, _, _, _, _⟩ :: _) _ _; refine EL.f (FV.move rfl) rfl rfl ?_)
         | (show EL _ _ _ _ (⟨_, .assign _, _, _, _, _⟩ :: _) _ _; refine EL.f (FV.assign rfl) rfl rfl ?_)
         | (show EL _ _ _ _ (⟨_, .call _, _, _, _, _⟩ :: _) _ _; refine EL.f (FV.len rfl rfl) rfl rfl ?_)
         | (show EL _ _ _ _ (⟨_, .binOp .lss _ _ _ _, _, _, _, _⟩ :: _) _ _; refine EL.fF (FV.lss rfl rfl) rfl (fun _ => rfl) (by omega) ?_))
      | refine EL.nil ?_
      | refine EW.seq ?_
      | refine EW.region ?_
      | refine EW.exit ?_
      | refine EW.ret ?_
      | refine EW.condF rfl ?_)
    exact ⟨_, rfl, hownr, hWr⟩
  obtain ⟨b1, o1, cs, rfl, hL, hX, hc⟩ := hks.kid hlt
  have hcall := ih i hlt (fun x q => hcalls x (.inr (callsL_kid hlt q))) B _ s b1 (o1 + i * 5) wr (by have := hWr.size; omega) ⟨cs, hL.ext hWr, hX.ext hWr⟩ hownr (intoL_rising hri2) (fun x hx => by
    rcases mem_intoL.1 hx with q | q
    · exact hra2 x q
    · obtain ⟨j, hj, q⟩ := callsL_iff.1 q
      rw [List.length_take] at hj
      rw [take_getD (by omega)] at q
      exact hcalls x (.inr (callsL_kid (by omega) q)))
  repeat' (first
    | (show EL _ _ _ _ (_ :: _) _ _
       first
       | (show EL _ _ _ _ (⟨_, .nilCheck _, _, _, _, _⟩ :: _) _ _; refine EL.f (FV.nilChk rfl) rfl rfl ?_)
       | (show EL _ _ _ _ (⟨_, .fieldAddr _ _ _, _, _, _, _⟩ :: _) _ _; refine EL.f (FV.fieldAddr rfl rfl rfl rfl rfl) rfl rfl ?_)
       | (show EL _ _ _ _ (⟨_, .load _ _, _, _, _, _⟩ :: _) _ _; refine EL.f (FV.load1 rfl rfl rfl (l4)) rfl rfl ?_)
       | (show EL _ _ _ _ (⟨_, .indexAddr _ _ _, _, _, _, _⟩ :: _) _ _; refine EL.f (FV.idx rfl rfl rfl rfl (by omega) (by omega)) rfl rfl ?_)
       | (show EL _ _ _ _ (⟨_, .move _, _, _, _, _⟩ :: _) _ _; refine EL.f (FV.move rfl) rfl rfl ?_)
       | (show EL _ _ _ _ (⟨_, .call _, _, _, _, _⟩ :: _) _ _; refine EL.f (FV.len rfl rfl) rfl rfl ?_)
       | (show EL _ _ _ _ (⟨_, .binOp .lss _ _ _ _, _, _, _, _⟩ :: _) _ _; refine EL.fT (FV.lss rfl rfl) rfl (fun _ => rfl) (by omega) ?_))
    | refine EL.nil ?_
    | refine EW.seq ?_
    | refine EW.region ?_
    | refine EW.block ?_
    | refine EW.skip ?_
    | refine EW.condT rfl ?_)
  refine EL.h (Hv.call hcall rfl) rfl (fun _ => rfl) ?_
  rintro s3 w3 ⟨ho3, he3⟩
  repeat' (first
    | refine EL.f (FV.move rfl) rfl rfl ?_
    | refine EL.f (FV.assign rfl) rfl rfl ?_
    | refine EL.f (FV.addI rfl rfl (by omega)) rfl rfl ?_
    | refine EL.nil ?_
    | refine EW.region ?_)
  exact ⟨(i + 1, s3), ⟨rfl, rfl, rfl, trivial⟩, ⟨by dsimp only; omega, by dsimp only; rw [intoL_take hlt]; exact ho3, hEr.trans he3⟩, by dsimp only; omega⟩
set_option maxHeartbeats 16000000 in
theorem specAll (fs : List Fu) (hv : validP fs = true) (f : Nat) (hf : f < fs.length) (b o : Nat) (w : World) (hp : PrP w b o fs) : CallsR Try.prog 47 [.pointer (some ⟨b, o, none⟩), .int .i64 f] w fun v w' => OwnI w.heap.size w' v (allC fs f) ∧ Ext w w' := by
  have h16 := (validP_fOk hv hf).1
  obtain ⟨A, cap, hLp, hfs⟩ := hp
  have lp := hLp 0 _ rfl
  refine CallsR.enter Try.func47 (by decide +kernel) rfl Try.ntmps47 rfl ?_
  repeat' (first
    | refine EL.f (FV.assign rfl) rfl rfl ?_
    | refine EL.nil ?_
    | refine EW.seq ?_
    | refine EW.region ?_)
  refine EL.h (Hv.build0 rfl rfl) rfl (fun _ => rfl) ?_
  rintro s0 w1 ⟨ho1, he1⟩
  obtain ⟨bf, of, fc, rfl, hLf, ⟨Bo, bo, rfl, hko, _⟩, hcf⟩ := hfs.kid hf
  have hro := hko.1
  have f2 := hLf 2 _ rfl
  have inA : ∀ x, Ex.callsL x (fs.getD f dFu).outs → 0 ≤ x ∧ x < (fs.length : Nat) := fun x q => by have := valid_calls hv hf q; omega
  repeat' (first
    | refine EL.f (FV.assign rfl) rfl rfl ?_
    | refine EL.nil ?_
    | refine EW.seq ?_
    | refine EW.region ?_
    | refine EW.block ?_)
  refine EW.loop (X := Nat × Value) (fun y wr => y.1 ≤ (fs.getD f dFu).outs.length ∧ OwnI w.heap.size wr y.2 (Ex.intoL ((fs.getD f dFu).outs.take y.1) []) ∧ Ext w wr) (fun y => [(0, .pointer (some ⟨b, o, none⟩)), (1, .int .i64 f), (5, y.2), (6, .int .i64 y.1)]) (fun y => (fs.getD f dFu).outs.length - y.1) (0, s0) ⟨Nat.zero_le _, by rw [List.take_zero, Ex.intoL]; exact ho1, he1⟩ ⟨rfl, rfl, rfl, rfl, trivial⟩ ?_
  rintro ⟨i, s⟩ wr ⟨hi, hownr, hEr⟩
  dsimp only at *
  have lpr := hEr.cell lp
  have f2r := hEr.cell f2
  by_cases hlt : i < (fs.getD f dFu).outs.length
  · obtain ⟨b1, o1, cs, rfl, hL, hX, hc⟩ := hko.kid hlt
    have hcall := specCalls fs.length h16 ((fs.getD f dFu).outs.getD i dEx) (fun x q => inA x (callsL_kid hlt q)) w.heap.size _ s b1 (o1 + i * 5) wr hEr.size ⟨cs, hL.ext hEr, hX.ext hEr⟩ hownr (intoL_rising (by simp [Rising])) (fun x hx => by
      rcases mem_intoL.1 hx with q | q
      · cases q
      · obtain ⟨j, hj, q⟩ := callsL_iff.1 q
        rw [List.length_take] at hj
        rw [take_getD (by omega)] at q
        exact inA x (callsL_kid (by omega) q))
    repeat' (first
      | (show EL _ _ _ _ (_ :: _) _ _
         first
         | (show EL _ _ _ _ (⟨_, .nilCheck _, _, _, _, _⟩ :: _) _ _; refine EL.f (FV.nilChk rfl) rfl rfl ?_)
         | (show EL _ _ _ _ (⟨_, .fieldAddr _ _ _, _, _, _, _⟩ :: _) _ _; refine EL.f (FV.fieldAddr rfl rfl rfl rfl rfl) rfl rfl ?_)
         | (show EL _ _ _ _ (⟨_, .load _ _, _, _, _, _⟩ :: _) _ _; first | refine EL.f (FV.load1 rfl rfl rfl (lpr)) rfl rfl ?_ | refine EL.f (FV.load1 rfl rfl rfl (f2r)) rfl rfl ?_)
         | (show EL _ _ _ _ (⟨_, .indexAddr _ _ _, _, _, _, _⟩ :: _) _ _; refine EL.f (FV.idx rfl rfl rfl rfl (by omega) (by omega)) rfl rfl ?_)
         | (show EL _ _ _ _ (⟨_, .move _, _, _, _, _⟩ :: _) _ _; refine EL.f (FV.move rfl) rfl rfl ?_)
         | (show EL _ _ _ _ (⟨_, .call _, _, _, _, _⟩ :: _) _ _; refine EL.f (FV.len rfl rfl) rfl rfl ?_)
         | (show EL _ _ _ _ (⟨_, .binOp .lss _ _ _ _, _, _, _, _⟩ :: _) _ _; refine EL.fT (FV.lss rfl rfl) rfl (fun _ => rfl) (by omega) ?_))
      | refine EL.nil ?_
      | refine EW.seq ?_
      | refine EW.region ?_
      | refine EW.block ?_
      | refine EW.skip ?_
      | refine EW.condT rfl ?_)
    refine EL.h (Hv.call hcall rfl) rfl (fun _ => rfl) ?_
    rintro s3 w3 ⟨ho3, he3⟩
    repeat' (first
      | refine EL.f (FV.move rfl) rfl rfl ?_
      | refine EL.f (FV.assign rfl) rfl rfl ?_
      | refine EL.f (FV.addI rfl rfl (by omega)) rfl rfl ?_
      | refine EL.nil ?_
      | refine EW.region ?_)
    exact ⟨(i + 1, s3), ⟨rfl, rfl, rfl, rfl, trivial⟩, ⟨by dsimp only; omega, by dsimp only; rw [intoL_take hlt]; exact ho3, hEr.trans he3⟩, by dsimp only; omega⟩
  obtain rfl : i = (fs.getD f dFu).outs.length := by omega
  rw [List.take_length] at hownr
  have hst := AtC.start hv hf
  have hri0 : Rising (Ex.intoL (fs.getD f dFu).outs []) := intoL_rising (by simp [Rising])
  repeat' (first
    | (show EL _ _ _ _ (_ :: _) _ _
       first
       | (show EL _ _ _ _ (⟨_, .nilCheck _, _, _, _, _⟩ :: _) _ _; refine EL.f (FV.nilChk rfl) rfl rfl ?_)
       | (show EL _ _ _ _ (⟨_, .fieldAddr _ _ _, _, _, _, _⟩ :: _) _ _; refine EL.f (FV.fieldAddr rfl rfl rfl rfl rfl) rfl rfl ?_)
       | (show EL _ _ _ _ (⟨_, .load _ _, _, _, _, _⟩ :: _) _ _; first | refine EL.f (FV.load1 rfl rfl rfl (lpr)) rfl rfl ?_ | refine EL.f (FV.load1 rfl rfl rfl (f2r)) rfl rfl ?_)
       | (show EL _ _ _ _ (⟨_, .indexAddr _ _ _, _, _, _, _⟩ :: _) _ _; refine EL.f (FV.idx rfl rfl rfl rfl (by omega) (by omega)) rfl rfl ?_)
       | (show EL _ _ _ _ (⟨_, .move _, _, _, _, _⟩ :: _) _ _; refine EL.f (FV.move rfl) rfl rfl ?_)
       | (show EL _ _ _ _ (⟨_, .assign _, _, _, _, _⟩ :: _) _ _; refine EL.f (FV.assign rfl) rfl rfl ?_)
       | (show EL _ _ _ _ (⟨_, .binOp .sub _ _ _ _, _, _, _, _⟩ :: _) _ _; refine EL.f (FV.subI rfl rfl (by omega)) rfl rfl ?_)
       | (show EL _ _ _ _ (⟨_, .call _, _, _, _, _⟩ :: _) _ _; refine EL.f (FV.len rfl rfl) rfl rfl ?_)
       | (show EL _ _ _ _ (⟨_, .binOp .lss _ _ _ _, _, _, _, _⟩ :: _) _ _; refine EL.fF (FV.lss rfl rfl) rfl (fun _ => rfl) (by omega) ?_))
    | refine EL.nil ?_
    | refine EW.seq ?_
    | refine EW.region ?_
    | refine EW.block ?_
    | refine EW.exit ?_
    | refine EW.condF rfl ?_)
  refine EW.loop (X := Nat × Value × List Int) (fun y wr => y.1 ≤ f ∧ (OwnI w.heap.size wr y.2.1 y.2.2 ∧ AtC fs f y.1 y.2.2 ∧ Rising y.2.2 ∧ downC fs y.1 y.2.2 = allC fs f) ∧ Ext w wr) (fun y => [(0, .pointer (some ⟨b, o, none⟩)), (5, y.2.1), (7, .int .i64 ((y.1 : Int) - 1))]) (fun y => y.1) (f, s, Ex.intoL (fs.getD f dFu).outs []) ⟨Nat.le_refl _, ⟨hownr, hst, hri0, rfl⟩, hEr⟩ ⟨rfl, rfl, rfl, trivial⟩ ?_
  clear hi hlt lpr f2r hownr hEr
  rintro ⟨g, s, acc⟩ wr ⟨hgf, ⟨hownr, hat, hri, hdn⟩, hEr⟩
  dsimp only at *
  have lpr := hEr.cell lp
  by_cases hg0 : g = 0
  · subst hg0
    repeat' (first
      | refine EL.f (FV.move rfl) rfl rfl ?_
      | refine EL.f (FV.assign rfl) rfl rfl ?_
      | refine EL.fF (FV.geq rfl rfl) rfl (fun _ => rfl) (by omega) ?_
      | refine EL.nil ?_
      | refine EW.seq ?_
      | refine EW.region ?_
      | refine EW.exit ?_
      | refine EW.ret ?_
      | refine EW.condF rfl ?_)
    exact ⟨_, rfl, by rw [← hdn]; exact hownr, hEr⟩
  obtain ⟨g, rfl⟩ : ∃ g', g = g' + 1 := ⟨g - 1, by omega⟩
  have hra : ∀ x ∈ acc, 0 ≤ x ∧ x < (f : Int) := fun x hx => (hat.1 x hx).range hv hf
  have hal := rising_room (a := 0) (b := f) hri hra (by omega)
  have hnx := hat.next hv hf (by omega)
  have egg : ((g + 1 : Nat) : Int) - 1 = (g : Int) := by omega
  rw [egg]
  obtain ⟨As, cp, rfl, hrd⟩ := hownr.form
  repeat' (first
    | refine EL.f (FV.move rfl) rfl rfl ?_
    | refine EL.fT (FV.geq rfl rfl) rfl (fun _ => rfl) (by omega) ?_
    | refine EL.nil ?_
    | refine EW.seq ?_
    | refine EW.region ?_
    | refine EW.block ?_
    | refine EW.skip ?_
    | refine EW.condT rfl ?_)
  refine EL.h (Hv.call (specHas As cp acc g wr hrd (by omega)) rfl) rfl (fun _ => rfl) ?_
  rintro _ _ ⟨rfl, rfl⟩
  by_cases hin : (g : Int) ∈ acc
  rotate_left
  · rw [decide_eq_false hin]
    rw [if_neg hin] at hnx
    repeat' (first
      | refine EL.f (FV.move rfl) rfl rfl ?_
      | refine EL.f (FV.assign rfl) rfl rfl ?_
      | refine EL.f (FV.subI rfl rfl (by omega)) rfl rfl ?_
      | refine EL.nil ?_
      | refine EW.region ?_
      | refine EW.skip ?_
      | refine EW.condF rfl ?_)
    exact ⟨(g, _, acc), ⟨rfl, rfl, rfl, trivial⟩, ⟨by dsimp only; omega, ⟨hownr, hnx, hri, by rw [downC, if_neg hin] at hdn; exact hdn⟩, hEr⟩, by dsimp only; omega⟩
  rw [decide_eq_true hin]
  rw [if_pos hin] at hnx
  rw [downC, if_pos hin] at hdn
  obtain ⟨bg, og, gc, eA, hLg, ⟨Bg, bgp, rfl, hkg, _⟩, hcg⟩ := hfs.kid (show g < fs.length by omega)
  injection eA with eA
  injection eA with e1 e2 _
  subst e1 e2
  have hrg := hkg.1
  have g2 := hLg 2 _ rfl
  have inB_ : ∀ x, Ex.callsL x (fs.getD g dFu).outs → 0 ≤ x ∧ x < (fs.length : Nat) := fun x q => by have := valid_calls hv (show g < fs.length by omega) q; omega
  repeat' (first
    | refine EL.f (FV.assign rfl) rfl rfl ?_
    | refine EL.nil ?_
    | refine EW.seq ?_
    | refine EW.region ?_
    | refine EW.block ?_
    | refine EW.condT rfl ?_)
  refine EW.loop (X := Nat × Value) (fun y wq => y.1 ≤ (fs.getD g dFu).outs.length ∧ OwnI w.heap.size wq y.2 (Ex.intoL ((fs.getD g dFu).outs.take y.1) acc) ∧ Ext wr wq) (fun y => [(0, .pointer (some ⟨b, o, none⟩)), (5, y.2), (7, .int .i64 g), (8, .int .i64 y.1)]) (fun y => (fs.getD g dFu).outs.length - y.1) (0, _) ⟨Nat.zero_le _, by simpa [Ex.intoL] using hownr, Ext.refl _⟩ ⟨rfl, rfl, rfl, rfl, trivial⟩ ?_
  rintro ⟨i, sq⟩ wq ⟨hi, hownq, hEq⟩
  dsimp only at *
  have hWq := hEr.trans hEq
  have lpq := hWq.cell lp
  have g2q := hWq.cell g2
  by_cases hlt : i < (fs.getD g dFu).outs.length
  · obtain ⟨b1, o1, cs, rfl, hL, hX, hc⟩ := hkg.kid hlt
    have hcall := specCalls fs.length h16 ((fs.getD g dFu).outs.getD i dEx) (fun x q => inB_ x (callsL_kid hlt q)) w.heap.size _ sq b1 (o1 + i * 5) wq hWq.size ⟨cs, hL.ext hWq, hX.ext hWq⟩ hownq (intoL_rising hri) (fun x hx => by
      rcases mem_intoL.1 hx with q | q
      · have := hra x q; omega
      · obtain ⟨j, hj, q⟩ := callsL_iff.1 q
        rw [List.length_take] at hj
        rw [take_getD (by omega)] at q
        exact inB_ x (callsL_kid (by omega) q))
    repeat' (first
      | (show EL _ _ _ _ (_ :: _) _ _
         first
         | (show EL _ _ _ _ (⟨_, .nilCheck _, _, _, _, _⟩ :: _) _ _; refine EL.f (FV.nilChk rfl) rfl rfl ?_)
         | (show EL _ _ _ _ (⟨_, .fieldAddr _ _ _, _, _, _, _⟩ :: _) _ _; refine EL.f (FV.fieldAddr rfl rfl rfl rfl rfl) rfl rfl ?_)
         | (show EL _ _ _ _ (⟨_, .load _ _, _, _, _, _⟩ :: _) _ _; first | refine EL.f (FV.load1 rfl rfl rfl (lpq)) rfl rfl ?_ | refine EL.f (FV.load1 rfl rfl rfl (g2q)) rfl rfl ?_)
         | (show EL _ _ _ _ (⟨_, .indexAddr _ _ _, _, _, _, _⟩ :: _) _ _; refine EL.f (FV.idx rfl rfl rfl rfl (by omega) (by omega)) rfl rfl ?_)
         | (show EL _ _ _ _ (⟨_, .move _, _, _, _, _⟩ :: _) _ _; refine EL.f (FV.move rfl) rfl rfl ?_)
         | (show EL _ _ _ _ (⟨_, .call _, _, _, _, _⟩ :: _) _ _; refine EL.f (FV.len rfl rfl) rfl rfl ?_)
         | (show EL _ _ _ _ (⟨_, .binOp .lss _ _ _ _, _, _, _, _⟩ :: _) _ _; refine EL.fT (FV.lss rfl rfl) rfl (fun _ => rfl) (by omega) ?_))
      | refine EL.nil ?_
      | refine EW.seq ?_
      | refine EW.region ?_
      | refine EW.block ?_
      | refine EW.skip ?_
      | refine EW.condT rfl ?_)
    refine EL.h (Hv.call hcall rfl) rfl (fun _ => rfl) ?_
    rintro s3 w3 ⟨ho3, he3⟩
    repeat' (first
      | refine EL.f (FV.move rfl) rfl rfl ?_
      | refine EL.f (FV.assign rfl) rfl rfl ?_
      | refine EL.f (FV.addI rfl rfl (by omega)) rfl rfl ?_
      | refine EL.nil ?_
      | refine EW.region ?_)
    exact ⟨(i + 1, s3), ⟨rfl, rfl, rfl, rfl, trivial⟩, ⟨by dsimp only; omega, by dsimp only; rw [intoL_take hlt]; exact ho3, hEq.trans he3⟩, by dsimp only; omega⟩
  obtain rfl : i = (fs.getD g dFu).outs.length := by omega
  rw [List.take_length] at hownq
  repeat' (first
    | (show EL _ _ _ _ (_ :: _) _ _
       first
       | (show EL _ _ _ _ (⟨_, .nilCheck _, _, _, _, _⟩ :: _) _ _; refine EL.f (FV.nilChk rfl) rfl rfl ?_)
       | (show EL _ _ _ _ (⟨_, .fieldAddr _ _ _, _, _, _, _⟩ :: _) _ _; refine EL.f (FV.fieldAddr rfl rfl rfl rfl rfl) rfl rfl ?_)
       | (show EL _ _ _ _ (⟨_, .load _ _, _, _, _, _⟩ :: _) _ _; first | refine EL.f (FV.load1 rfl rfl rfl (lpq)) rfl rfl ?_ | refine EL.f (FV.load1 rfl rfl rfl (g2q)) rfl rfl ?_)
       | (show EL _ _ _ _ (⟨_, .indexAddr _ _ _, _, _, _, _⟩ :: _) _ _; refine EL.f (FV.idx rfl rfl rfl rfl (by omega) (by omega)) rfl rfl ?_)
       | (show EL _ _ _ _ (⟨_, .move _, _, _, _, _⟩ :: _) _ _; refine EL.f (FV.move rfl) rfl rfl ?_)
       | (show EL _ _ _ _ (⟨_, .assign _, _, _, _, _⟩ :: _) _ _; refine EL.f (FV.assign rfl) rfl rfl ?_)
       | (show EL _ _ _ _ (⟨_, .binOp .sub _ _ _ _, _, _, _, _⟩ :: _) _ _; refine EL.f (FV.subI rfl rfl (by omega)) rfl rfl ?_)
       | (show EL _ _ _ _ (⟨_, .call _, _, _, _, _⟩ :: _) _ _; refine EL.f (FV.len rfl rfl) rfl rfl ?_)
       | (show EL _ _ _ _ (⟨_, .binOp .lss _ _ _ _, _, _, _, _⟩ :: _) _ _; refine EL.fF (FV.lss rfl rfl) rfl (fun _ => rfl) (by omega) ?_))
    | refine EL.nil ?_
    | refine EW.seq ?_
    | refine EW.region ?_
    | refine EW.exit ?_
    | refine EW.condF rfl ?_)
  exact ⟨(g, sq, _), ⟨rfl, rfl, rfl, trivial⟩, ⟨by dsimp only; omega, ⟨hownq, hnx, intoL_rising hri, hdn⟩, hWq⟩, by dsimp only; omega⟩
theorem specAskedK (fs : List Fu) (hs : fuL fs ≤ 1048576) (f : Int) (b o : Nat) (w : World) (hp : PrP w b o fs) : CallsR Try.prog 46 [.pointer (some ⟨b, o, none⟩), .int .i64 f] w fun v w' => v = .int .i64 (fCalls fs f).2 ∧ Ext w w' := by
  have hp0 := hp
  obtain ⟨A, cap, hLp, hfs⟩ := hp
  have lp := hLp 0 _ rfl
  have hge := hfs.1
  refine CallsR.enter Try.func46 (by decide +kernel) rfl Try.ntmps46 rfl ?_
  repeat' (first
    | refine EL.f (FV.move rfl) rfl rfl ?_
    | refine EL.f (FV.assign rfl) rfl rfl ?_
    | refine EL.nil ?_
    | refine EW.seq ?_
    | refine EW.region ?_)
  refine EL.h (Hv.call (specOkP fs hs b o w hp0) rfl) rfl (fun _ => rfl) ?_
  rintro _ w2 ⟨rfl, he2⟩
  replace lp := he2.cell lp
  cases ok : validP fs
  · repeat' (first
      | refine EL.f (FV.assign rfl) rfl rfl ?_
      | refine EL.f (FV.not rfl) rfl rfl ?_
      | refine EL.nil ?_
      | refine EW.seq ?_
      | refine EW.region ?_
      | refine EW.ret ?_
      | refine EW.condT rfl ?_)
    exact ⟨_, rfl, by rw [fCalls_bad ok], he2⟩
  by_cases hr : 0 ≤ f ∧ f ≤ (fs.length : Int) - 1
  · have i1 : inB f 0 ((fs.length : Int) - 1) = true := inB_iff.2 hr
    repeat' (first
      | (show EL _ _ _ _ (_ :: _) _ _
         first
         | (show EL _ _ _ _ (⟨_, .nilCheck _, _, _, _, _⟩ :: _) _ _; refine EL.f (FV.nilChk rfl) rfl rfl ?_)
         | (show EL _ _ _ _ (⟨_, .fieldAddr _ _ _, _, _, _, _⟩ :: _) _ _; refine EL.f (FV.fieldAddr rfl rfl rfl rfl rfl) rfl rfl ?_)
         | (show EL _ _ _ _ (⟨_, .load _ _, _, _, _, _⟩ :: _) _ _; refine EL.f (FV.load1 rfl rfl rfl (lp)) rfl rfl ?_)
         | (show EL _ _ _ _ (⟨_, .call _, _, _, _, _⟩ :: _) _ _; first | (refine EL.h (Hv.call (specInR i1 _) rfl) rfl (fun _ => rfl) ?_; rintro _ _ ⟨rfl, rfl⟩) | refine EL.f (FV.len rfl rfl) rfl rfl ?_)
         | (show EL _ _ _ _ (⟨_, .move _, _, _, _, _⟩ :: _) _ _; refine EL.f (FV.move rfl) rfl rfl ?_)
         | (show EL _ _ _ _ (⟨_, .assign _, _, _, _, _⟩ :: _) _ _; refine EL.f (FV.assign rfl) rfl rfl ?_)
         | (show EL _ _ _ _ (⟨_, .binOp .sub _ _ _ _, _, _, _, _⟩ :: _) _ _; refine EL.f (FV.subI rfl rfl (by omega)) rfl rfl ?_)
         | (show EL _ _ _ _ (⟨_, .unOp .not _ _, _, _, _, _⟩ :: _) _ _; refine EL.f (FV.not rfl) rfl rfl ?_))
      | refine EL.nil ?_
      | refine EW.seq ?_
      | refine EW.region ?_
      | refine EW.skip ?_
      | refine EW.ret ?_
      | refine EW.condF rfl ?_)
    exact ⟨_, rfl, by rw [fCalls_ok ok hr], he2⟩
  · have i1 : inB f 0 ((fs.length : Int) - 1) = false := by unfold inB; exact decide_eq_false hr
    repeat' (first
      | (show EL _ _ _ _ (_ :: _) _ _
         first
         | (show EL _ _ _ _ (⟨_, .nilCheck _, _, _, _, _⟩ :: _) _ _; refine EL.f (FV.nilChk rfl) rfl rfl ?_)
         | (show EL _ _ _ _ (⟨_, .fieldAddr _ _ _, _, _, _, _⟩ :: _) _ _; refine EL.f (FV.fieldAddr rfl rfl rfl rfl rfl) rfl rfl ?_)
         | (show EL _ _ _ _ (⟨_, .load _ _, _, _, _, _⟩ :: _) _ _; refine EL.f (FV.load1 rfl rfl rfl (lp)) rfl rfl ?_)
         | (show EL _ _ _ _ (⟨_, .call _, _, _, _, _⟩ :: _) _ _; first | (refine EL.h (Hv.call (specInR i1 _) rfl) rfl (fun _ => rfl) ?_; rintro _ _ ⟨rfl, rfl⟩) | refine EL.f (FV.len rfl rfl) rfl rfl ?_)
         | (show EL _ _ _ _ (⟨_, .move _, _, _, _, _⟩ :: _) _ _; refine EL.f (FV.move rfl) rfl rfl ?_)
         | (show EL _ _ _ _ (⟨_, .assign _, _, _, _, _⟩ :: _) _ _; refine EL.f (FV.assign rfl) rfl rfl ?_)
         | (show EL _ _ _ _ (⟨_, .binOp .sub _ _ _ _, _, _, _, _⟩ :: _) _ _; refine EL.f (FV.subI rfl rfl (by omega)) rfl rfl ?_)
         | (show EL _ _ _ _ (⟨_, .unOp .not _ _, _, _, _, _⟩ :: _) _ _; refine EL.f (FV.not rfl) rfl rfl ?_))
      | refine EL.nil ?_
      | refine EW.seq ?_
      | refine EW.region ?_
      | refine EW.skip ?_
      | refine EW.ret ?_
      | refine EW.condT rfl ?_
      | refine EW.condF rfl ?_)
    exact ⟨_, rfl, by rw [fCalls_out ok hr], he2⟩
theorem fCalls_code {fs : List Fu} {f : Int} (h : (fCalls fs f).2 = 0) : validP fs = true ∧ (0 ≤ f ∧ f ≤ (fs.length : Int) - 1) := by
  cases ok : validP fs
  · rw [fCalls_bad ok] at h; cases h
  by_cases hr : 0 ≤ f ∧ f ≤ (fs.length : Int) - 1
  · exact ⟨rfl, hr⟩
  · rw [fCalls_out ok hr] at h; cases h
theorem fCalls_none {fs : List Fu} {f : Int} (h : ¬ (fCalls fs f).2 = 0) : (fCalls fs f).1 = [] := by
  cases ok : validP fs
  · rw [fCalls_bad ok]
  by_cases hr : 0 ≤ f ∧ f ≤ (fs.length : Int) - 1
  · rw [fCalls_ok ok hr] at h; exact absurd rfl h
  · rw [fCalls_out ok hr]
theorem specCallsOf (q : Pr) (hs : q.cnt ≤ 1048576) (qs : List Value) (f : Int) (w : World) (hx : PrB w 0 qs q) : CallsR Try.prog 16 [.agg qs.toArray, .int .i64 f] w (SerOut w (fCalls q.funcs f)) := by
  obtain ⟨A, cap, rfl, hfs, hcap⟩ := hx
  refine CallsR.enter Try.func16 (by decide +kernel) rfl Try.ntmps16 rfl ?_
  repeat' (first
    | refine EW.seq ?_
    | refine EW.region ?_)
  refine EL.h (Hv.boxA (sz := 1) rfl rfl) rfl (fun _ => rfl) ?_
  rintro _ w1 ⟨g1, rfl, hg1, hb, he1⟩
  have hP : PrP w1 g1 0 q.funcs := ⟨A, cap, At.lies hb, hfs.ext he1⟩
  repeat' (first
    | refine EL.f (FV.move rfl) rfl rfl ?_
    | refine EL.f (FV.assign rfl) rfl rfl ?_
    | refine EL.nil ?_
    | refine EW.seq ?_
    | refine EW.region ?_)
  refine EL.h (Hv.call (specAskedK q.funcs hs f g1 0 w1 hP) rfl) rfl (fun _ => rfl) ?_
  rintro _ w2 ⟨rfl, he2⟩
  have hw2 := he1.trans he2
  by_cases hz : (fCalls q.funcs f).2 = 0
  · obtain ⟨ok, hr⟩ := fCalls_code hz
    rw [hz]
    obtain ⟨f, rfl⟩ : ∃ n : Nat, f = n := ⟨f.toNat, by omega⟩
    repeat' (first
      | refine EL.f (FV.move rfl) rfl rfl ?_
      | refine EL.f (FV.assign rfl) rfl rfl ?_
      | refine EL.fF (FV.neq rfl rfl) rfl (fun _ => rfl) (by omega) ?_
      | refine EL.nil ?_
      | refine EW.seq ?_
      | refine EW.region ?_
      | refine EW.skip ?_
      | refine EW.condF rfl ?_)
    refine EL.h (Hv.call (specAll q.funcs ok f (by omega) g1 0 w2 (hP.ext he2)) rfl) rfl (fun _ => rfl) ?_
    rintro v w3 ⟨ho3, he3⟩
    repeat' (first
      | refine EL.f (FV.assign rfl) rfl rfl ?_
      | refine EL.nil ?_
      | refine EW.ret ?_)
    rw [fCalls_ok ok hr]
    exact ⟨_, rfl, _, rfl, OwnI.lower ho3 hw2.size, hw2.trans he3⟩
  · repeat' (first
      | (show EL _ _ _ _ (_ :: _) _ _
         first
         | (show EL _ _ _ _ (⟨_, .buildSlice _ _ _, _, _, _, _⟩ :: _) _ _; (refine EL.h (Hv.build0 rfl rfl) rfl (fun _ => rfl) ?_; rintro v w' ⟨ho, he⟩))
         | (show EL _ _ _ _ (⟨_, .move _, _, _, _, _⟩ :: _) _ _; refine EL.f (FV.move rfl) rfl rfl ?_)
         | (show EL _ _ _ _ (⟨_, .assign _, _, _, _, _⟩ :: _) _ _; refine EL.f (FV.assign rfl) rfl rfl ?_)
         | (show EL _ _ _ _ (⟨_, .binOp .neq _ _ _ _, _, _, _, _⟩ :: _) _ _; refine EL.fT (FV.neq rfl rfl) rfl (fun _ => rfl) (by omega) ?_))
      | refine EL.nil ?_
      | refine EW.seq ?_
      | refine EW.region ?_
      | refine EW.ret ?_
      | refine EW.condT rfl ?_)
    exact ⟨_, rfl, v, rfl, by rw [fCalls_none hz]; exact OwnI.lower ho hw2.size, hw2.trans he⟩
set_option maxHeartbeats 4000000 in
theorem implCallsOf (q : Pr) (hs : q.cnt ≤ 1048576) (qs : List Value) (f : Int) (w : World) (hx : PrB w 0 qs q) : CallsR Try.prog 18 [.agg qs.toArray, .int .i64 f] w (SerOut w (fCalls q.funcs f)) := by
  have hx0 := hx
  obtain ⟨A, cap, rfl, hfs, hcap⟩ := hx
  refine CallsR.enter Try.func18 (by decide +kernel) rfl Try.ntmps18 rfl ?_
  repeat' (first
    | refine EW.seq ?_
    | refine EW.region ?_)
  refine EL.h (Hv.boxA (sz := 1) rfl rfl) rfl (fun _ => rfl) ?_
  rintro _ w1 ⟨g1, rfl, hg1, hb, he1⟩
  repeat' (first
    | refine EL.f (FV.loadAgg (cs := [.slice A q.funcs.length cap]) rfl rfl rfl rfl rfl (fun _ e => e ▸ At.lies hb)) rfl rfl ?_
    | refine EL.f (FV.move rfl) rfl rfl ?_
    | refine EL.f (FV.assign rfl) rfl rfl ?_
    | refine EL.nil ?_
    | refine EW.seq ?_
    | refine EW.region ?_)
  refine EL.h (Hv.call (implAsked q hs _ f w1 (hx0.ext he1)) rfl) rfl (fun _ => rfl) ?_
  rintro _ w2 ⟨rfl, he2⟩
  replace hb := At.ext hb he2
  have hw2 := he1.trans he2
  by_cases hz : (fCalls q.funcs f).2 = 0
  rotate_left
  · repeat' (first
      | refine EL.f (FV.move rfl) rfl rfl ?_
      | refine EL.f (FV.assign rfl) rfl rfl ?_
      | refine EL.fT (FV.neq rfl rfl) rfl (fun _ => rfl) (by omega) ?_
      | refine EL.nil ?_
      | refine EW.seq ?_
      | refine EW.region ?_
      | refine EW.ret ?_
      | refine EW.condT rfl ?_)
    have e := fCalls_none hz
    generalize fCalls q.funcs f = z at *
    obtain ⟨z1, z2⟩ := z
    dsimp only at *
    subst e
    exact ⟨_, rfl, _, rfl, ⟨rfl, .inl ⟨rfl, rfl⟩⟩, hw2⟩
  obtain ⟨ok, hr⟩ := fCalls_code hz
  rw [hz]
  obtain ⟨f, rfl⟩ : ∃ n : Nat, f = n := ⟨f.toNat, by omega⟩
  have hf : f < q.funcs.length := by omega
  have h16 := (validP_fOk ok hf).1
  repeat' (first
    | refine EL.f (FV.move rfl) rfl rfl ?_
    | refine EL.f (FV.assign rfl) rfl rfl ?_
    | refine EL.fF (FV.neq rfl rfl) rfl (fun _ => rfl) (by omega) ?_
    | refine EL.nil ?_
    | refine EW.seq ?_
    | refine EW.region ?_
    | refine EW.skip ?_
    | refine EW.condF rfl ?_)
  refine EL.h Hv.makeS rfl (fun _ => rfl) ?_
  rintro _ w3 ⟨m, rfl, hm, hS0, he3⟩
  have hw3 := hw2.trans he3
  replace hb := At.ext hb he3
  have hmg := hS0.apart hb
  obtain ⟨bf, of, fc, rfl, hLf, ⟨Bo, bo, rfl, hko, _⟩, hcf⟩ := (hfs.ext hw2).kid hf
  have hro := hko.1
  have f2 := (hLf.ext he3) 2 _ rfl
  repeat' (first
    | (show EL _ _ _ _ (_ :: _) _ _
       first
       | (show EL _ _ _ _ (⟨_, .fieldAddr _ _ _, _, _, _, _⟩ :: _) _ _; refine EL.f (FV.fieldAddr rfl rfl rfl rfl rfl) rfl rfl ?_)
       | (show EL _ _ _ _ (⟨_, .load _ _, _, _, _, _⟩ :: _) _ _; first | refine EL.f (FV.load1 rfl rfl rfl (At.cell hb rfl)) rfl rfl ?_ | refine EL.f (FV.load1 rfl rfl rfl (f2)) rfl rfl ?_)
       | (show EL _ _ _ _ (⟨_, .indexAddr _ _ _, _, _, _, _⟩ :: _) _ _; refine EL.f (FV.idx rfl rfl rfl rfl (by omega) (by omega)) rfl rfl ?_)
       | (show EL _ _ _ _ (⟨_, .move _, _, _, _, _⟩ :: _) _ _; refine EL.f (FV.move rfl) rfl rfl ?_)
       | (show EL _ _ _ _ (⟨_, .assign _, _, _, _, _⟩ :: _) _ _; refine EL.f (FV.assign rfl) rfl rfl ?_)
       | (show EL _ _ _ _ (⟨_, .call _, _, _, _, _⟩ :: _) _ _; refine EL.f (FV.len rfl rfl) rfl rfl ?_))
    | refine EL.nil ?_
    | refine EW.seq ?_
    | refine EW.region ?_
    | refine EW.block ?_)
  refine EW.loop (X := Nat × List Int) (fun y wr => y.1 ≤ (q.funcs.getD f dFu).outs.length ∧ (SetAt wr m y.2 ∧ Vis q.funcs (fun x => Ex.callsL x ((q.funcs.getD f dFu).outs.take y.1)) [] y.2) ∧ Only [some m] w3 wr) (fun y => [(2, .pointer (some ⟨g1, 0, none⟩)), (7, .map (some m)), (22, .slice Bo (q.funcs.getD f dFu).outs.length bo), (23, .int .i64 (q.funcs.getD f dFu).outs.length), (24, .int .i64 y.1)]) (fun y => (q.funcs.getD f dFu).outs.length - y.1) (0, []) ⟨Nat.zero_le _, ⟨hS0, Vis.refl (by simp [Ex.callsL])⟩, Only.weakV (Ext.refl _)⟩ ⟨rfl, rfl, rfl, rfl, rfl, trivial⟩ ?_
  rintro ⟨j, kq⟩ wr ⟨hj, ⟨hSr, hvr⟩, hOr⟩
  dsimp only at *
  have hEr := Only.afterV he3 hOr (by omega)
  have hWr := hw2.trans hEr
  have hbr := At.only hb hOr (by simp; exact fun e => hmg e.symm)
  by_cases hlt : j < (q.funcs.getD f dFu).outs.length
  rotate_left
  · obtain rfl : j = (q.funcs.getD f dFu).outs.length := by omega
    rw [List.take_length] at hvr
    have hmem := fun x => hvr.done ok hf x
    have hkl := nodup_room (b := f) hSr.nd fun x hx => ((mem_allC ok hf).1 ((hmem x).1 hx)).range ok hf
    repeat' (first
      | refine EL.f (FV.move rfl) rfl rfl ?_
      | refine EL.fF (FV.lss rfl rfl) rfl (fun _ => rfl) (by omega) ?_
      | refine EL.nil ?_
      | refine EW.seq ?_
      | refine EW.region ?_
      | refine EW.exit ?_
      | refine EW.condF rfl ?_)
    refine EL.h (Hv.call (implAscending m kq wr hSr (by omega)) rfl) rfl (fun _ => rfl) ?_
    rintro v4 w4 ⟨L, ⟨hL1, hL2, hL3⟩, ho4, he4⟩
    repeat' (first
      | refine EL.f (FV.assign rfl) rfl rfl ?_
      | refine EL.nil ?_
      | refine EW.ret ?_)
    have hLe : L = allC q.funcs f := rising_ext hL1 (allC_rising _ _) fun x => (hL2 x).trans (hmem x)
    subst hLe
    rw [fCalls_ok ok hr]
    exact ⟨_, rfl, _, rfl, OwnI.lower ho4 hWr.size, hWr.trans he4⟩
  obtain ⟨bk, ok_, cs, rfl, hL, hX, hc⟩ := hko.kid hlt
  have hLr := hL.ext hEr
  repeat' (first
    | refine EL.f (FV.idx rfl rfl rfl rfl (by omega) (by omega)) rfl rfl ?_
    | refine EL.f (FV.loadAgg (cs := cs) rfl rfl rfl hc rfl (fun _ e => e ▸ hLr)) rfl rfl ?_
    | refine EL.fT (FV.lss rfl rfl) rfl (fun _ => rfl) (by omega) ?_
    | refine EL.nil ?_
    | refine EW.seq ?_
    | refine EW.region ?_
    | refine EW.block ?_
    | refine EW.skip ?_
    | refine EW.condT rfl ?_)
  refine EL.h (Hv.allocA rfl rfl) rfl (fun _ => rfl) ?_
  rintro _ u1 ⟨g5, rfl, hg5, h5, he5⟩
  skip
  refine EL.h (Hv.storeAggG (vs := cs) rfl rfl rfl hc hX.one h5 (by rw [hc]; exact Nat.le_refl _)) rfl (fun _ => rfl) ?_
  rintro _ u2 ⟨h6, hr6⟩
  rw [setL_all (by rw [hc]; rfl)] at h6
  have hu2 : Ext wr u2 := Below.wr he5 hr6 (by omega) (Nat.le_refl _)
  have hbu := At.ext hbr hu2
  have hcall := implCalls q.funcs ok (some ⟨bf, of, none⟩) cap m w2 (by omega) (hfs.ext hw2) f (by omega) ((q.funcs.getD f dFu).outs.getD j dEx) (fun x q => valid_calls ok hf (callsL_kid hlt q)) kq cs u2 hX (hEr.trans hu2) (hSr.ext hu2)
  repeat' (first
    | refine EL.f (FV.loadAgg (cs := [.slice (some ⟨bf, of, none⟩) q.funcs.length cap]) rfl rfl rfl rfl rfl (fun _ e => e ▸ At.lies (At.ext hbr hu2))) rfl rfl ?_
    | refine EL.f (FV.loadAgg (cs := cs) rfl rfl rfl hc rfl (fun _ e => e ▸ At.lies h6)) rfl rfl ?_
    | refine EL.f (FV.move rfl) rfl rfl ?_
    | refine EL.nil ?_
    | refine EW.region ?_)
  refine EL.h (Hv.call hcall rfl) rfl (fun _ => rfl) ?_
  rintro _ u3 ⟨rfl, ⟨kq2, hS3, hv3⟩, hO3⟩
  repeat' (first
    | refine EL.f (FV.move rfl) rfl rfl ?_
    | refine EL.f (FV.addI rfl rfl (by omega)) rfl rfl ?_
    | refine EL.nil ?_
    | refine EW.region ?_)
  exact ⟨(j + 1, kq2), ⟨rfl, rfl, rfl, rfl, rfl, trivial⟩, ⟨by dsimp only; omega, ⟨hS3, hvr.trans hv3 fun x => callsL_next hlt⟩, Only.bothV hOr (Only.bothV (Only.weakV hu2) hO3)⟩, by dsimp only; omega⟩
end Eng
end Go.Proofs.Ytgahkbcfjibjaaa
