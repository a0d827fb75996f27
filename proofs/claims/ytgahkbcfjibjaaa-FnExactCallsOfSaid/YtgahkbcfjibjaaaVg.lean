/- ValidExpr: the contracts of the reference. Conditions: the number of nodes. -/
import Derived.Test.YtgahkbcfjibjaaaVe
namespace Go.Proofs.Ytgahkbcfjibjaaa
open Go Go.RowKit
namespace Eng
/-- A program that a pointer leads to. -/
def PrP (w : World) (b o : Nat) (fs : List Fu) : Prop := ∃ A cap, Lies w b o [.slice A fs.length cap] ∧ FsB w 0 A fs
theorem PrP.ext {w w' : World} {b o : Nat} {fs : List Fu} (h : PrP w b o fs) (he : Ext w w') : PrP w' b o fs := by
  obtain ⟨A, cap, h1, h2⟩ := h
  exact ⟨A, cap, h1.ext he, h2.ext he⟩
set_option maxHeartbeats 32000000 in
theorem specNode (fs : List Fu) (pb po : Nat) (funcs : Int) (hf : 0 ≤ funcs ∧ funcs ≤ fs.length) (k n p c : Int) (ks : List Ex) (b o : Nat) (vars : Int) (w : World) (hv : 0 ≤ vars ∧ vars ≤ 10000000) (hp : PrP w pb po fs) (hx : ExP w b o (.node k n p c ks)) :
    CallsR Try.prog 117 [.pointer (some ⟨pb, po, none⟩), .pointer (some ⟨b, o, none⟩), .int .i64 vars, .int .i64 funcs] w fun v w' => v = .bool (nodeOk fs funcs vars k n p c ks.length) ∧ Ext w w' := by
  obtain ⟨cs0, hL0, hX0⟩ := hx
  obtain ⟨B, bap, rfl, hks⟩ := hX0.inv
  obtain ⟨A, cap, hP0, hfs⟩ := hp
  have hr := hks.1
  have hge := hfs.1
  have l0 := hL0 0 _ rfl
  have l1 := hL0 1 _ rfl
  have l2 := hL0 2 _ rfl
  have l3 := hL0 3 _ rfl
  have l4 := hL0 4 _ rfl
  refine CallsR.enter Try.func117 (by decide +kernel) rfl Try.ntmps117 rfl ?_
  unfold nodeOk
  by_cases hk : k = 10 ∨ k = 11
  · by_cases hn : 0 ≤ n ∧ n ≤ funcs - 1
    rotate_left
    · have hin : inB n 0 (funcs - 1) = false := by unfold inB; exact decide_eq_false hn
      rcases hk with rfl | rfl
      · repeat' (first
          | (show EL _ _ _ _ (_ :: _) _ _
             first
             | (show EL _ _ _ _ (⟨_, _, _, _, _, some _⟩ :: _) _ _; refine EL.skip rfl rfl ?_)
             | (show EL _ _ _ _ (⟨_, .nilCheck _, _, _, _, _⟩ :: _) _ _; refine EL.f (FV.nilChk rfl) rfl rfl ?_)
             | (show EL _ _ _ _ (⟨_, .fieldAddr _ _ _, _, _, _, _⟩ :: _) _ _; refine EL.f (FV.fieldAddr rfl rfl rfl rfl rfl) rfl rfl ?_)
             | (show EL _ _ _ _ (⟨_, .load _ _, _, _, _, _⟩ :: _) _ _; first | refine EL.f (FV.load1 rfl rfl rfl ((Ext.refl w).cell l0)) rfl rfl ?_ | refine EL.f (FV.load1 rfl rfl rfl ((Ext.refl w).cell l1)) rfl rfl ?_)
             | (show EL _ _ _ _ (⟨_, .call _, _, _, _, _⟩ :: _) _ _; (refine EL.h (Hv.call (specInR hin _) rfl) rfl (fun _ => rfl) ?_; rintro _ _ ⟨rfl, rfl⟩))
             | (show EL _ _ _ _ (⟨_, .move _, _, _, _, _⟩ :: _) _ _; refine EL.f (FV.move rfl) rfl rfl ?_)
             | (show EL _ _ _ _ (⟨_, .assign _, _, _, _, _⟩ :: _) _ _; refine EL.f (FV.assign rfl) rfl rfl ?_)
             | (show EL _ _ _ _ (⟨_, .binOp .sub _ _ _ _, _, _, _, _⟩ :: _) _ _; refine EL.f (FV.subI rfl rfl (by omega)) rfl rfl ?_)
             | (show EL _ _ _ _ (⟨_, .unOp .not _ _, _, _, _, _⟩ :: _) _ _; refine EL.f (FV.not rfl) rfl rfl ?_)
             | (show EL _ _ _ _ (⟨_, .pick _ _ _, _, _, _, _⟩ :: _) _ _; refine EL.f (FV.pickT rfl rfl) rfl rfl ?_)
             | (show EL _ _ _ _ (⟨_, .binOp .eql _ _ _ _, _, _, _, _⟩ :: _) _ _; refine EL.fT (FV.eql rfl rfl) rfl (fun _ => rfl) (by omega) ?_))
          | refine EL.nil ?_
          | refine EW.seq ?_
          | refine EW.region ?_
          | refine EW.ret ?_
          | refine EW.condT rfl ?_)
        exact ⟨_, rfl, by rw [decide_eq_false (by unfold NodeOk KidsOk; omega)], Ext.refl _⟩
      · repeat' (first
          | (show EL _ _ _ _ (_ :: _) _ _
             first
             | (show EL _ _ _ _ (⟨_, .nilCheck _, _, _, _, _⟩ :: _) _ _; refine EL.f (FV.nilChk rfl) rfl rfl ?_)
             | (show EL _ _ _ _ (⟨_, .fieldAddr _ _ _, _, _, _, _⟩ :: _) _ _; refine EL.f (FV.fieldAddr rfl rfl rfl rfl rfl) rfl rfl ?_)
             | (show EL _ _ _ _ (⟨_, .load _ _, _, _, _, _⟩ :: _) _ _; first | refine EL.f (FV.load1 rfl rfl rfl ((Ext.refl w).cell l0)) rfl rfl ?_ | refine EL.f (FV.load1 rfl rfl rfl ((Ext.refl w).cell l1)) rfl rfl ?_)
             | (show EL _ _ _ _ (⟨_, .call _, _, _, _, _⟩ :: _) _ _; (refine EL.h (Hv.call (specInR hin _) rfl) rfl (fun _ => rfl) ?_; rintro _ _ ⟨rfl, rfl⟩))
             | (show EL _ _ _ _ (⟨_, .move _, _, _, _, _⟩ :: _) _ _; refine EL.f (FV.move rfl) rfl rfl ?_)
             | (show EL _ _ _ _ (⟨_, .assign _, _, _, _, _⟩ :: _) _ _; refine EL.f (FV.assign rfl) rfl rfl ?_)
             | (show EL _ _ _ _ (⟨_, .binOp .sub _ _ _ _, _, _, _, _⟩ :: _) _ _; refine EL.f (FV.subI rfl rfl (by omega)) rfl rfl ?_)
             | (show EL _ _ _ _ (⟨_, .unOp .not _ _, _, _, _, _⟩ :: _) _ _; refine EL.f (FV.not rfl) rfl rfl ?_)
             | (show EL _ _ _ _ (⟨_, .pick _ _ _, _, _, _, _⟩ :: _) _ _; refine EL.f (FV.pickF rfl rfl) rfl rfl ?_)
             | (show EL _ _ _ _ (⟨_, .binOp .eql _ _ _ _, _, _, _, _⟩ :: _) _ _; first | refine EL.fT (FV.eql rfl rfl) rfl (fun _ => rfl) (by omega) ?_ | refine EL.fF (FV.eql rfl rfl) rfl (fun _ => rfl) (by omega) ?_))
          | refine EL.nil ?_
          | refine EW.seq ?_
          | refine EW.region ?_
          | refine EW.ret ?_
          | refine EW.condT rfl ?_)
        exact ⟨_, rfl, by rw [decide_eq_false (by unfold NodeOk KidsOk; omega)], Ext.refl _⟩
    have hin : inB n 0 (funcs - 1) = true := inB_iff.2 hn
    obtain ⟨bf, of, cf, rfl, hL, hX, hc⟩ := hfs.kid (i := n.toNat) (by omega)
    obtain ⟨A', cap', rfl, hos, _⟩ := hX
    have hr5 := hos.1
    have p0 := hP0 0 _ rfl
    clear hP0 hX0 hL0
    generalize fs.getD n.toNat dFu = f at *
    have f1 := hL 1 _ rfl
    have f2 := hL 2 _ rfl
    rcases hk with rfl | rfl
    · repeat' (first
        | (show EL _ _ _ _ (_ :: _) _ _
           first
           | (show EL _ _ _ _ (⟨_, _, _, _, _, some _⟩ :: _) _ _; refine EL.skip rfl rfl ?_)
           | (show EL _ _ _ _ (⟨_, .nilCheck _, _, _, _, _⟩ :: _) _ _; refine EL.f (FV.nilChk rfl) rfl rfl ?_)
           | (show EL _ _ _ _ (⟨_, .fieldAddr _ _ _, _, _, _, _⟩ :: _) _ _; refine EL.f (FV.fieldAddr rfl rfl rfl rfl rfl) rfl rfl ?_)
           | (show EL _ _ _ _ (⟨_, .load _ _, _, _, _, _⟩ :: _) _ _; first | refine EL.f (FV.load1 rfl rfl rfl (((Ext.refl w)).cell l0)) rfl rfl ?_ | refine EL.f (FV.load1 rfl rfl rfl (((Ext.refl w)).cell l1)) rfl rfl ?_)
           | (show EL _ _ _ _ (⟨_, .call _, _, _, _, _⟩ :: _) _ _; (refine EL.h (Hv.call (specInR hin _) rfl) rfl (fun _ => rfl) ?_; rintro _ _ ⟨rfl, rfl⟩))
           | (show EL _ _ _ _ (⟨_, .move _, _, _, _, _⟩ :: _) _ _; refine EL.f (FV.move rfl) rfl rfl ?_)
           | (show EL _ _ _ _ (⟨_, .assign _, _, _, _, _⟩ :: _) _ _; refine EL.f (FV.assign rfl) rfl rfl ?_)
           | (show EL _ _ _ _ (⟨_, .binOp .sub _ _ _ _, _, _, _, _⟩ :: _) _ _; refine EL.f (FV.subI rfl rfl (by omega)) rfl rfl ?_)
           | (show EL _ _ _ _ (⟨_, .unOp .not _ _, _, _, _, _⟩ :: _) _ _; refine EL.f (FV.not rfl) rfl rfl ?_)
           | (show EL _ _ _ _ (⟨_, .pick _ _ _, _, _, _, _⟩ :: _) _ _; refine EL.f (FV.pickT rfl rfl) rfl rfl ?_)
           | (show EL _ _ _ _ (⟨_, .binOp .eql _ _ _ _, _, _, _, _⟩ :: _) _ _; refine EL.fT (FV.eql rfl rfl) rfl (fun _ => rfl) (by omega) ?_))
        | refine EL.nil ?_
        | refine EW.seq ?_
        | refine EW.region ?_
        | refine EW.skip ?_
        | refine EW.condT rfl ?_
        | refine EW.condF rfl ?_)
      refine EW.draw (fun w' => Ext w w') (pl 0 10) mixed (by decide +kernel) ((Ext.refl w).trans (Ext.drew _)) ?_
      repeat' (first
        | refine EP.f rfl (FV.nilChk rfl) rfl rfl ?_
        | refine EP.f rfl (FV.fieldAddr rfl rfl rfl rfl rfl) rfl rfl ?_
        | refine EP.f rfl (FV.load rfl rfl rfl (fun w' h' => h'.cell l1)) rfl rfl ?_
        | refine EP.f rfl (FV.load rfl rfl rfl (fun w' h' => h'.cell p0)) rfl rfl ?_
        | refine EP.f rfl (FV.idx (s := 3) rfl rfl rfl rfl (by omega) (by omega)) rfl rfl ?_
        | refine EP.nil ?_
        | refine EP.f rfl (FV.move rfl) rfl rfl ?_
        | refine EP.f rfl (FV.assign rfl) rfl rfl ?_)
      repeat' (first
        | refine EW.seq ?_)
      by_cases hpp : 0 ≤ p ∧ p ≤ (f.outs.length : Int) - 1
      rotate_left
      · have hip : inB p 0 ((f.outs.length : Int) - 1) = false := by unfold inB; exact decide_eq_false hpp
        refine EW.draw (fun w' => Ext w w') (pl 0 10 ++ [(10, false)] ++ pl 11 13) mixed (by decide +kernel) ((Ext.drew w).trans (Ext.drew _)) ?_
        repeat' (first
          | refine EP.f rfl (FV.nilChk rfl) rfl rfl ?_
          | refine EP.f rfl (FV.fieldAddr rfl rfl rfl rfl rfl) rfl rfl ?_
          | refine EP.f rfl (FV.load rfl rfl rfl (fun w' h' => h'.cell l2)) rfl rfl ?_
          | refine EP.f rfl (FV.load rfl rfl rfl (fun w' h' => h'.cell f2)) rfl rfl ?_
          | refine EP.f rfl (FV.move rfl) rfl rfl ?_
          | refine EP.f rfl (FV.subI rfl rfl (by omega)) rfl rfl ?_
          | refine EP.f rfl (FV.len rfl rfl) rfl rfl ?_)
        refine EP.h rfl rfl (Hv.call (specInR hip _) rfl) rfl (fun _ => rfl) ?_
        rintro _ _ ⟨rfl, rfl⟩
        refine ⟨(Ext.drew w).trans (Ext.drew _), ?_⟩
        repeat' (first
          | refine EP.f rfl (FV.pickT rfl rfl) rfl rfl ?_
          | refine EP.skip rfl rfl rfl ?_
          | refine EP.nil ?_
          | refine EP.f rfl (FV.move rfl) rfl rfl ?_
          | refine EP.f rfl (FV.not rfl) rfl rfl ?_)
        repeat' (first
          | refine EL.f (FV.assign rfl) rfl rfl ?_
          | refine EL.nil ?_
          | refine EW.seq ?_
          | refine EW.region ?_
          | refine EW.ret ?_
          | refine EW.condT rfl ?_)
        exact ⟨_, rfl, by rw [decide_eq_false (by unfold NodeOk KidsOk; omega)], ((Ext.drew w).trans (Ext.drew _))⟩
      have hip : inB p 0 ((f.outs.length : Int) - 1) = true := inB_iff.2 hpp
      by_cases hm : (ks.length : Int) = f.params
      rotate_left
      · refine EW.draw (fun w' => Ext w w') (pl 0 10 ++ [(10, false)] ++ pl 11 13) mixed (by decide +kernel) ((Ext.drew w).trans (Ext.drew _)) ?_
        repeat' (first
          | refine EP.f rfl (FV.nilChk rfl) rfl rfl ?_
          | refine EP.f rfl (FV.fieldAddr rfl rfl rfl rfl rfl) rfl rfl ?_
          | refine EP.f rfl (FV.load rfl rfl rfl (fun w' h' => h'.cell l2)) rfl rfl ?_
          | refine EP.f rfl (FV.load rfl rfl rfl (fun w' h' => h'.cell f2)) rfl rfl ?_
          | refine EP.f rfl (FV.move rfl) rfl rfl ?_
          | refine EP.f rfl (FV.subI rfl rfl (by omega)) rfl rfl ?_
          | refine EP.f rfl (FV.len rfl rfl) rfl rfl ?_)
        refine EP.h rfl rfl (Hv.call (specInR hip _) rfl) rfl (fun _ => rfl) ?_
        rintro _ _ ⟨rfl, rfl⟩
        refine ⟨(Ext.drew w).trans (Ext.drew _), ?_⟩
        repeat' (first
          | refine EP.f rfl (FV.nilChk rfl) rfl rfl ?_
          | refine EP.f rfl (FV.fieldAddr rfl rfl rfl rfl rfl) rfl rfl ?_
          | refine EP.f rfl (FV.pickF rfl rfl) rfl rfl ?_
          | refine EP.fT rfl (FV.neq rfl rfl) rfl (fun _ => rfl) (by omega) ?_
          | refine EP.f rfl (FV.load rfl rfl rfl (fun w' h' => h'.cell l4)) rfl rfl ?_
          | refine EP.f rfl (FV.load rfl rfl rfl (fun w' h' => h'.cell f1)) rfl rfl ?_
          | refine EP.nil ?_
          | refine EP.f rfl (FV.move rfl) rfl rfl ?_
          | refine EP.f rfl (FV.len rfl rfl) rfl rfl ?_
          | refine EP.f rfl (FV.not rfl) rfl rfl ?_)
        repeat' (first
          | refine EL.f (FV.assign rfl) rfl rfl ?_
          | refine EL.nil ?_
          | refine EW.seq ?_
          | refine EW.region ?_
          | refine EW.ret ?_
          | refine EW.condT rfl ?_)
        exact ⟨_, rfl, by rw [decide_eq_false (by unfold NodeOk KidsOk; omega)], ((Ext.drew w).trans (Ext.drew _))⟩
      refine EW.draw (fun w' => Ext w w') (pl 0 10 ++ [(10, false)] ++ pl 11 13) mixed (by decide +kernel) ((Ext.drew w).trans (Ext.drew _)) ?_
      repeat' (first
        | refine EP.f rfl (FV.nilChk rfl) rfl rfl ?_
        | refine EP.f rfl (FV.fieldAddr rfl rfl rfl rfl rfl) rfl rfl ?_
        | refine EP.f rfl (FV.load rfl rfl rfl (fun w' h' => h'.cell l2)) rfl rfl ?_
        | refine EP.f rfl (FV.load rfl rfl rfl (fun w' h' => h'.cell f2)) rfl rfl ?_
        | refine EP.f rfl (FV.move rfl) rfl rfl ?_
        | refine EP.f rfl (FV.subI rfl rfl (by omega)) rfl rfl ?_
        | refine EP.f rfl (FV.len rfl rfl) rfl rfl ?_)
      refine EP.h rfl rfl (Hv.call (specInR hip _) rfl) rfl (fun _ => rfl) ?_
      rintro _ _ ⟨rfl, rfl⟩
      refine ⟨(Ext.drew w).trans (Ext.drew _), ?_⟩
      repeat' (first
        | refine EP.f rfl (FV.nilChk rfl) rfl rfl ?_
        | refine EP.f rfl (FV.fieldAddr rfl rfl rfl rfl rfl) rfl rfl ?_
        | refine EP.f rfl (FV.pickF rfl rfl) rfl rfl ?_
        | refine EP.fF rfl (FV.neq rfl rfl) rfl (fun _ => rfl) (by omega) ?_
        | refine EP.f rfl (FV.load rfl rfl rfl (fun w' h' => h'.cell l4)) rfl rfl ?_
        | refine EP.f rfl (FV.load rfl rfl rfl (fun w' h' => h'.cell f1)) rfl rfl ?_
        | refine EP.nil ?_
        | refine EP.f rfl (FV.move rfl) rfl rfl ?_
        | refine EP.f rfl (FV.len rfl rfl) rfl rfl ?_
        | refine EP.f rfl (FV.not rfl) rfl rfl ?_)
      by_cases c0 : c = 0
      · repeat' (first
          | (show EL _ _ _ _ (_ :: _) _ _
             first
             | (show EL _ _ _ _ (⟨_, .nilCheck _, _, _, _, _⟩ :: _) _ _; refine EL.f (FV.nilChk rfl) rfl rfl ?_)
             | (show EL _ _ _ _ (⟨_, .fieldAddr _ _ _, _, _, _, _⟩ :: _) _ _; refine EL.f (FV.fieldAddr rfl rfl rfl rfl rfl) rfl rfl ?_)
             | (show EL _ _ _ _ (⟨_, .load _ _, _, _, _, _⟩ :: _) _ _; first | refine EL.f (FV.load1 rfl rfl rfl ((((Ext.drew w).trans (Ext.drew _))).cell l0)) rfl rfl ?_ | refine EL.f (FV.load1 rfl rfl rfl ((((Ext.drew w).trans (Ext.drew _))).cell l3)) rfl rfl ?_)
             | (show EL _ _ _ _ (⟨_, .move _, _, _, _, _⟩ :: _) _ _; refine EL.f (FV.move rfl) rfl rfl ?_)
             | (show EL _ _ _ _ (⟨_, .assign _, _, _, _, _⟩ :: _) _ _; refine EL.f (FV.assign rfl) rfl rfl ?_)
             | (show EL _ _ _ _ (⟨_, .binOp .eql _ _ _ _, _, _, _, _⟩ :: _) _ _; refine EL.fT (FV.eql rfl rfl) rfl (fun _ => rfl) (by omega) ?_))
          | refine EL.nil ?_
          | refine EW.seq ?_
          | refine EW.region ?_
          | refine EW.skip ?_
          | refine EW.ret ?_
          | refine EW.condT rfl ?_
          | refine EW.condF rfl ?_)
        exact ⟨_, rfl, by rw [decide_eq_true (by unfold NodeOk KidsOk; omega)], ((Ext.drew w).trans (Ext.drew _))⟩
      · repeat' (first
          | (show EL _ _ _ _ (_ :: _) _ _
             first
             | (show EL _ _ _ _ (⟨_, .nilCheck _, _, _, _, _⟩ :: _) _ _; refine EL.f (FV.nilChk rfl) rfl rfl ?_)
             | (show EL _ _ _ _ (⟨_, .fieldAddr _ _ _, _, _, _, _⟩ :: _) _ _; refine EL.f (FV.fieldAddr rfl rfl rfl rfl rfl) rfl rfl ?_)
             | (show EL _ _ _ _ (⟨_, .load _ _, _, _, _, _⟩ :: _) _ _; first | refine EL.f (FV.load1 rfl rfl rfl ((((Ext.drew w).trans (Ext.drew _))).cell l0)) rfl rfl ?_ | refine EL.f (FV.load1 rfl rfl rfl ((((Ext.drew w).trans (Ext.drew _))).cell l3)) rfl rfl ?_)
             | (show EL _ _ _ _ (⟨_, .move _, _, _, _, _⟩ :: _) _ _; refine EL.f (FV.move rfl) rfl rfl ?_)
             | (show EL _ _ _ _ (⟨_, .assign _, _, _, _, _⟩ :: _) _ _; refine EL.f (FV.assign rfl) rfl rfl ?_)
             | (show EL _ _ _ _ (⟨_, .binOp .eql _ _ _ _, _, _, _, _⟩ :: _) _ _; first | refine EL.fT (FV.eql rfl rfl) rfl (fun _ => rfl) (by omega) ?_ | refine EL.fF (FV.eql rfl rfl) rfl (fun _ => rfl) (by omega) ?_))
          | refine EL.nil ?_
          | refine EW.seq ?_
          | refine EW.region ?_
          | refine EW.skip ?_
          | refine EW.ret ?_
          | refine EW.condT rfl ?_
          | refine EW.condF rfl ?_)
        exact ⟨_, rfl, by rw [decide_eq_false (by unfold NodeOk KidsOk; omega)], ((Ext.drew w).trans (Ext.drew _))⟩
    · repeat' (first
        | (show EL _ _ _ _ (_ :: _) _ _
           first
           | (show EL _ _ _ _ (⟨_, .nilCheck _, _, _, _, _⟩ :: _) _ _; refine EL.f (FV.nilChk rfl) rfl rfl ?_)
           | (show EL _ _ _ _ (⟨_, .fieldAddr _ _ _, _, _, _, _⟩ :: _) _ _; refine EL.f (FV.fieldAddr rfl rfl rfl rfl rfl) rfl rfl ?_)
           | (show EL _ _ _ _ (⟨_, .load _ _, _, _, _, _⟩ :: _) _ _; first | refine EL.f (FV.load1 rfl rfl rfl (((Ext.refl w)).cell l0)) rfl rfl ?_ | refine EL.f (FV.load1 rfl rfl rfl (((Ext.refl w)).cell l1)) rfl rfl ?_)
           | (show EL _ _ _ _ (⟨_, .call _, _, _, _, _⟩ :: _) _ _; (refine EL.h (Hv.call (specInR hin _) rfl) rfl (fun _ => rfl) ?_; rintro _ _ ⟨rfl, rfl⟩))
           | (show EL _ _ _ _ (⟨_, .move _, _, _, _, _⟩ :: _) _ _; refine EL.f (FV.move rfl) rfl rfl ?_)
           | (show EL _ _ _ _ (⟨_, .assign _, _, _, _, _⟩ :: _) _ _; refine EL.f (FV.assign rfl) rfl rfl ?_)
           | (show EL _ _ _ _ (⟨_, .binOp .sub _ _ _ _, _, _, _, _⟩ :: _) _ _; refine EL.f (FV.subI rfl rfl (by omega)) rfl rfl ?_)
           | (show EL _ _ _ _ (⟨_, .unOp .not _ _, _, _, _, _⟩ :: _) _ _; refine EL.f (FV.not rfl) rfl rfl ?_)
           | (show EL _ _ _ _ (⟨_, .pick _ _ _, _, _, _, _⟩ :: _) _ _; refine EL.f (FV.pickF rfl rfl) rfl rfl ?_)
           | (show EL _ _ _ _ (⟨_, .binOp .eql _ _ _ _, _, _, _, _⟩ :: _) _ _; first | refine EL.fT (FV.eql rfl rfl) rfl (fun _ => rfl) (by omega) ?_ | refine EL.fF (FV.eql rfl rfl) rfl (fun _ => rfl) (by omega) ?_))
        | refine EL.nil ?_
        | refine EW.seq ?_
        | refine EW.region ?_
        | refine EW.skip ?_
        | refine EW.condT rfl ?_
        | refine EW.condF rfl ?_)
      refine EW.draw (fun w' => Ext w w') (pl 0 10) mixed (by decide +kernel) ((Ext.refl w).trans (Ext.drew _)) ?_
      repeat' (first
        | refine EP.f rfl (FV.nilChk rfl) rfl rfl ?_
        | refine EP.f rfl (FV.fieldAddr rfl rfl rfl rfl rfl) rfl rfl ?_
        | refine EP.f rfl (FV.load rfl rfl rfl (fun w' h' => h'.cell l1)) rfl rfl ?_
        | refine EP.f rfl (FV.load rfl rfl rfl (fun w' h' => h'.cell p0)) rfl rfl ?_
        | refine EP.f rfl (FV.idx (s := 3) rfl rfl rfl rfl (by omega) (by omega)) rfl rfl ?_
        | refine EP.nil ?_
        | refine EP.f rfl (FV.move rfl) rfl rfl ?_
        | refine EP.f rfl (FV.assign rfl) rfl rfl ?_)
      repeat' (first
        | refine EW.seq ?_)
      by_cases hpp : 0 ≤ p ∧ p ≤ (f.outs.length : Int) - 1
      rotate_left
      · have hip : inB p 0 ((f.outs.length : Int) - 1) = false := by unfold inB; exact decide_eq_false hpp
        refine EW.draw (fun w' => Ext w w') (pl 0 10 ++ [(10, false)] ++ pl 11 13) mixed (by decide +kernel) ((Ext.drew w).trans (Ext.drew _)) ?_
        repeat' (first
          | refine EP.f rfl (FV.nilChk rfl) rfl rfl ?_
          | refine EP.f rfl (FV.fieldAddr rfl rfl rfl rfl rfl) rfl rfl ?_
          | refine EP.f rfl (FV.load rfl rfl rfl (fun w' h' => h'.cell l2)) rfl rfl ?_
          | refine EP.f rfl (FV.load rfl rfl rfl (fun w' h' => h'.cell f2)) rfl rfl ?_
          | refine EP.f rfl (FV.move rfl) rfl rfl ?_
          | refine EP.f rfl (FV.subI rfl rfl (by omega)) rfl rfl ?_
          | refine EP.f rfl (FV.len rfl rfl) rfl rfl ?_)
        refine EP.h rfl rfl (Hv.call (specInR hip _) rfl) rfl (fun _ => rfl) ?_
        rintro _ _ ⟨rfl, rfl⟩
        refine ⟨(Ext.drew w).trans (Ext.drew _), ?_⟩
        repeat' (first
          | refine EP.f rfl (FV.pickT rfl rfl) rfl rfl ?_
          | refine EP.skip rfl rfl rfl ?_
          | refine EP.nil ?_
          | refine EP.f rfl (FV.move rfl) rfl rfl ?_
          | refine EP.f rfl (FV.not rfl) rfl rfl ?_)
        repeat' (first
          | refine EL.f (FV.assign rfl) rfl rfl ?_
          | refine EL.nil ?_
          | refine EW.seq ?_
          | refine EW.region ?_
          | refine EW.ret ?_
          | refine EW.condT rfl ?_)
        exact ⟨_, rfl, by rw [decide_eq_false (by unfold NodeOk KidsOk; omega)], ((Ext.drew w).trans (Ext.drew _))⟩
      have hip : inB p 0 ((f.outs.length : Int) - 1) = true := inB_iff.2 hpp
      by_cases hm : (ks.length : Int) = f.params
      rotate_left
      · refine EW.draw (fun w' => Ext w w') (pl 0 10 ++ [(10, false)] ++ pl 11 13) mixed (by decide +kernel) ((Ext.drew w).trans (Ext.drew _)) ?_
        repeat' (first
          | refine EP.f rfl (FV.nilChk rfl) rfl rfl ?_
          | refine EP.f rfl (FV.fieldAddr rfl rfl rfl rfl rfl) rfl rfl ?_
          | refine EP.f rfl (FV.load rfl rfl rfl (fun w' h' => h'.cell l2)) rfl rfl ?_
          | refine EP.f rfl (FV.load rfl rfl rfl (fun w' h' => h'.cell f2)) rfl rfl ?_
          | refine EP.f rfl (FV.move rfl) rfl rfl ?_
          | refine EP.f rfl (FV.subI rfl rfl (by omega)) rfl rfl ?_
          | refine EP.f rfl (FV.len rfl rfl) rfl rfl ?_)
        refine EP.h rfl rfl (Hv.call (specInR hip _) rfl) rfl (fun _ => rfl) ?_
        rintro _ _ ⟨rfl, rfl⟩
        refine ⟨(Ext.drew w).trans (Ext.drew _), ?_⟩
        repeat' (first
          | refine EP.f rfl (FV.nilChk rfl) rfl rfl ?_
          | refine EP.f rfl (FV.fieldAddr rfl rfl rfl rfl rfl) rfl rfl ?_
          | refine EP.f rfl (FV.pickF rfl rfl) rfl rfl ?_
          | refine EP.fT rfl (FV.neq rfl rfl) rfl (fun _ => rfl) (by omega) ?_
          | refine EP.f rfl (FV.load rfl rfl rfl (fun w' h' => h'.cell l4)) rfl rfl ?_
          | refine EP.f rfl (FV.load rfl rfl rfl (fun w' h' => h'.cell f1)) rfl rfl ?_
          | refine EP.nil ?_
          | refine EP.f rfl (FV.move rfl) rfl rfl ?_
          | refine EP.f rfl (FV.len rfl rfl) rfl rfl ?_
          | refine EP.f rfl (FV.not rfl) rfl rfl ?_)
        repeat' (first
          | refine EL.f (FV.assign rfl) rfl rfl ?_
          | refine EL.nil ?_
          | refine EW.seq ?_
          | refine EW.region ?_
          | refine EW.ret ?_
          | refine EW.condT rfl ?_)
        exact ⟨_, rfl, by rw [decide_eq_false (by unfold NodeOk KidsOk; omega)], ((Ext.drew w).trans (Ext.drew _))⟩
      refine EW.draw (fun w' => Ext w w') (pl 0 10 ++ [(10, false)] ++ pl 11 13) mixed (by decide +kernel) ((Ext.drew w).trans (Ext.drew _)) ?_
      repeat' (first
        | refine EP.f rfl (FV.nilChk rfl) rfl rfl ?_
        | refine EP.f rfl (FV.fieldAddr rfl rfl rfl rfl rfl) rfl rfl ?_
        | refine EP.f rfl (FV.load rfl rfl rfl (fun w' h' => h'.cell l2)) rfl rfl ?_
        | refine EP.f rfl (FV.load rfl rfl rfl (fun w' h' => h'.cell f2)) rfl rfl ?_
        | refine EP.f rfl (FV.move rfl) rfl rfl ?_
        | refine EP.f rfl (FV.subI rfl rfl (by omega)) rfl rfl ?_
        | refine EP.f rfl (FV.len rfl rfl) rfl rfl ?_)
      refine EP.h rfl rfl (Hv.call (specInR hip _) rfl) rfl (fun _ => rfl) ?_
      rintro _ _ ⟨rfl, rfl⟩
      refine ⟨(Ext.drew w).trans (Ext.drew _), ?_⟩
      repeat' (first
        | refine EP.f rfl (FV.nilChk rfl) rfl rfl ?_
        | refine EP.f rfl (FV.fieldAddr rfl rfl rfl rfl rfl) rfl rfl ?_
        | refine EP.f rfl (FV.pickF rfl rfl) rfl rfl ?_
        | refine EP.fF rfl (FV.neq rfl rfl) rfl (fun _ => rfl) (by omega) ?_
        | refine EP.f rfl (FV.load rfl rfl rfl (fun w' h' => h'.cell l4)) rfl rfl ?_
        | refine EP.f rfl (FV.load rfl rfl rfl (fun w' h' => h'.cell f1)) rfl rfl ?_
        | refine EP.nil ?_
        | refine EP.f rfl (FV.move rfl) rfl rfl ?_
        | refine EP.f rfl (FV.len rfl rfl) rfl rfl ?_
        | refine EP.f rfl (FV.not rfl) rfl rfl ?_)
      repeat' (first
        | (show EL _ _ _ _ (_ :: _) _ _
           first
           | (show EL _ _ _ _ (⟨_, .nilCheck _, _, _, _, _⟩ :: _) _ _; refine EL.f (FV.nilChk rfl) rfl rfl ?_)
           | (show EL _ _ _ _ (⟨_, .fieldAddr _ _ _, _, _, _, _⟩ :: _) _ _; refine EL.f (FV.fieldAddr rfl rfl rfl rfl rfl) rfl rfl ?_)
           | (show EL _ _ _ _ (⟨_, .load _ _, _, _, _, _⟩ :: _) _ _; refine EL.f (FV.load1 rfl rfl rfl ((((Ext.drew w).trans (Ext.drew _))).cell l0)) rfl rfl ?_)
           | (show EL _ _ _ _ (⟨_, .move _, _, _, _, _⟩ :: _) _ _; refine EL.f (FV.move rfl) rfl rfl ?_)
           | (show EL _ _ _ _ (⟨_, .binOp .eql _ _ _ _, _, _, _, _⟩ :: _) _ _; refine EL.fF (FV.eql rfl rfl) rfl (fun _ => rfl) (by omega) ?_))
        | refine EL.nil ?_
        | refine EW.seq ?_
        | refine EW.region ?_
        | refine EW.skip ?_
        | refine EW.condF rfl ?_)
      by_cases hcc : 0 ≤ c ∧ c ≤ 8
      rotate_left
      · have hic : inB c 0 8 = false := by unfold inB; exact decide_eq_false hcc
        refine EW.draw (fun w' => Ext w w') (pl 0 4 ++ [(4, false)] ++ pl 5 13) mixed (by decide +kernel) (((Ext.drew w).trans (Ext.drew _)).trans (Ext.drew _)) ?_
        repeat' (first
          | refine EP.f rfl (FV.nilChk rfl) rfl rfl ?_
          | refine EP.f rfl (FV.fieldAddr rfl rfl rfl rfl rfl) rfl rfl ?_
          | refine EP.f rfl (FV.load rfl rfl rfl (fun w' h' => h'.cell l3)) rfl rfl ?_
          | refine EP.f rfl (FV.move rfl) rfl rfl ?_)
        refine EP.h rfl rfl (Hv.call (specInR hic _) rfl) rfl (fun _ => rfl) ?_
        rintro _ _ ⟨rfl, rfl⟩
        refine ⟨((Ext.drew w).trans (Ext.drew _)).trans (Ext.drew _), ?_⟩
        repeat' (first
          | refine EP.f rfl (FV.pickF rfl rfl) rfl rfl ?_
          | refine EP.skip rfl rfl rfl ?_
          | refine EP.nil ?_
          | refine EP.f rfl (FV.move rfl) rfl rfl ?_
          | refine EP.f rfl (FV.assign rfl) rfl rfl ?_)
        repeat' (first
          | refine EW.ret ?_)
        exact ⟨_, rfl, by rw [decide_eq_false (by unfold NodeOk KidsOk; omega)], (((Ext.drew w).trans (Ext.drew _)).trans (Ext.drew _))⟩
      have hic : inB c 0 8 = true := inB_iff.2 hcc
      by_cases hfo : (f.outs.length : Int) = f.params
      · refine EW.draw (fun w' => Ext w w') (pl 0 4 ++ [(4, false)] ++ pl 5 13) mixed (by decide +kernel) (((Ext.drew w).trans (Ext.drew _)).trans (Ext.drew _)) ?_
        repeat' (first
          | refine EP.f rfl (FV.nilChk rfl) rfl rfl ?_
          | refine EP.f rfl (FV.fieldAddr rfl rfl rfl rfl rfl) rfl rfl ?_
          | refine EP.f rfl (FV.load rfl rfl rfl (fun w' h' => h'.cell l3)) rfl rfl ?_
          | refine EP.f rfl (FV.move rfl) rfl rfl ?_)
        refine EP.h rfl rfl (Hv.call (specInR hic _) rfl) rfl (fun _ => rfl) ?_
        rintro _ _ ⟨rfl, rfl⟩
        refine ⟨((Ext.drew w).trans (Ext.drew _)).trans (Ext.drew _), ?_⟩
        repeat' (first
          | refine EP.f rfl (FV.nilChk rfl) rfl rfl ?_
          | refine EP.f rfl (FV.fieldAddr rfl rfl rfl rfl rfl) rfl rfl ?_
          | refine EP.f rfl (FV.pickT rfl rfl) rfl rfl ?_
          | refine EP.fT rfl (FV.eql rfl rfl) rfl (fun _ => rfl) (by omega) ?_
          | refine EP.f rfl (FV.load rfl rfl rfl (fun w' h' => h'.cell f1)) rfl rfl ?_
          | refine EP.f rfl (FV.load rfl rfl rfl (fun w' h' => h'.cell f2)) rfl rfl ?_
          | refine EP.nil ?_
          | refine EP.f rfl (FV.move rfl) rfl rfl ?_
          | refine EP.f rfl (FV.assign rfl) rfl rfl ?_
          | refine EP.f rfl (FV.len rfl rfl) rfl rfl ?_)
        repeat' (first
          | refine EW.ret ?_)
        exact ⟨_, rfl, by rw [decide_eq_true (by unfold NodeOk KidsOk; omega)], (((Ext.drew w).trans (Ext.drew _)).trans (Ext.drew _))⟩
      · refine EW.draw (fun w' => Ext w w') (pl 0 4 ++ [(4, false)] ++ pl 5 13) mixed (by decide +kernel) (((Ext.drew w).trans (Ext.drew _)).trans (Ext.drew _)) ?_
        repeat' (first
          | refine EP.f rfl (FV.nilChk rfl) rfl rfl ?_
          | refine EP.f rfl (FV.fieldAddr rfl rfl rfl rfl rfl) rfl rfl ?_
          | refine EP.f rfl (FV.load rfl rfl rfl (fun w' h' => h'.cell l3)) rfl rfl ?_
          | refine EP.f rfl (FV.move rfl) rfl rfl ?_)
        refine EP.h rfl rfl (Hv.call (specInR hic _) rfl) rfl (fun _ => rfl) ?_
        rintro _ _ ⟨rfl, rfl⟩
        refine ⟨((Ext.drew w).trans (Ext.drew _)).trans (Ext.drew _), ?_⟩
        repeat' (first
          | refine EP.f rfl (FV.nilChk rfl) rfl rfl ?_
          | refine EP.f rfl (FV.fieldAddr rfl rfl rfl rfl rfl) rfl rfl ?_
          | refine EP.f rfl (FV.pickT rfl rfl) rfl rfl ?_
          | refine EP.fF rfl (FV.eql rfl rfl) rfl (fun _ => rfl) (by omega) ?_
          | refine EP.f rfl (FV.load rfl rfl rfl (fun w' h' => h'.cell f1)) rfl rfl ?_
          | refine EP.f rfl (FV.load rfl rfl rfl (fun w' h' => h'.cell f2)) rfl rfl ?_
          | refine EP.nil ?_
          | refine EP.f rfl (FV.move rfl) rfl rfl ?_
          | refine EP.f rfl (FV.assign rfl) rfl rfl ?_
          | refine EP.f rfl (FV.len rfl rfl) rfl rfl ?_)
        repeat' (first
          | refine EW.ret ?_)
        exact ⟨_, rfl, by rw [decide_eq_false (by unfold NodeOk KidsOk; omega)], (((Ext.drew w).trans (Ext.drew _)).trans (Ext.drew _))⟩
  · repeat' (first
      | (show EL _ _ _ _ (_ :: _) _ _
         first
         | (show EL _ _ _ _ (⟨_, .nilCheck _, _, _, _, _⟩ :: _) _ _; refine EL.f (FV.nilChk rfl) rfl rfl ?_)
         | (show EL _ _ _ _ (⟨_, .fieldAddr _ _ _, _, _, _, _⟩ :: _) _ _; refine EL.f (FV.fieldAddr rfl rfl rfl rfl rfl) rfl rfl ?_)
         | (show EL _ _ _ _ (⟨_, .load _ _, _, _, _, _⟩ :: _) _ _; refine EL.f (FV.load1 rfl rfl rfl (((Ext.refl w)).cell l0)) rfl rfl ?_)
         | (show EL _ _ _ _ (⟨_, .move _, _, _, _, _⟩ :: _) _ _; refine EL.f (FV.move rfl) rfl rfl ?_)
         | (show EL _ _ _ _ (⟨_, .assign _, _, _, _, _⟩ :: _) _ _; refine EL.f (FV.assign rfl) rfl rfl ?_)
         | (show EL _ _ _ _ (⟨_, .pick _ _ _, _, _, _, _⟩ :: _) _ _; refine EL.f (FV.pickF rfl rfl) rfl rfl ?_)
         | (show EL _ _ _ _ (⟨_, .binOp .eql _ _ _ _, _, _, _, _⟩ :: _) _ _; refine EL.fF (FV.eql rfl rfl) rfl (fun _ => rfl) (by omega) ?_))
      | refine EL.nil ?_
      | refine EW.seq ?_
      | refine EW.region ?_
      | refine EW.skip ?_
      | refine EW.condF rfl ?_)
    by_cases hq : KidsOk k ks.length
    rotate_left
    · have hkn : kidsN k ≠ ks.length := fun e => hq ((kidsN_iff _ _).1 e)
      refine EW.draw (fun w' => Ext w w') (pl 0 4 ++ pl 5 5 ++ [(4, false)] ++ pl 10 15) mixed (by decide +kernel) ((Ext.refl w).trans (Ext.drew _)) ?_
      repeat' (first
        | refine EP.f rfl (FV.nilChk rfl) rfl rfl ?_
        | refine EP.f rfl (FV.fieldAddr rfl rfl rfl rfl rfl) rfl rfl ?_
        | refine EP.f rfl (FV.load rfl rfl rfl (fun w' h' => h'.cell l0)) rfl rfl ?_
        | refine EP.f rfl (FV.load rfl rfl rfl (fun w' h' => h'.cell l4)) rfl rfl ?_
        | refine EP.f rfl (FV.move rfl) rfl rfl ?_
        | refine EP.f rfl (FV.len rfl rfl) rfl rfl ?_)
      refine EP.h rfl rfl (Hv.call (specKids _ _) rfl) rfl (fun _ => rfl) ?_
      rintro _ _ ⟨rfl, rfl⟩
      refine ⟨(Ext.refl w).trans (Ext.drew _), ?_⟩
      repeat' (first
        | refine EP.f rfl (FV.pickT rfl rfl) rfl rfl ?_
        | refine EP.skip rfl rfl rfl ?_
        | refine EP.fT rfl (FV.neq rfl rfl) rfl (fun _ => rfl) (by omega) ?_
        | refine EP.nil ?_
        | refine EP.f rfl (FV.move rfl) rfl rfl ?_)
      repeat' (first
        | refine EL.f (FV.assign rfl) rfl rfl ?_
        | refine EL.nil ?_
        | refine EW.seq ?_
        | refine EW.region ?_
        | refine EW.ret ?_
        | refine EW.condT rfl ?_)
      exact ⟨_, rfl, by rw [decide_eq_false (by unfold NodeOk; rintro (⟨e, _⟩ | ⟨e, _⟩); exact hk e; exact hq e)], (Ext.drew w)⟩
    have hkn : kidsN k = ks.length := (kidsN_iff _ _).2 hq
    by_cases hp0 : p = 0
    rotate_left
    · refine EW.draw (fun w' => Ext w w') (pl 0 4 ++ pl 5 5 ++ [(4, false)] ++ pl 10 15) mixed (by decide +kernel) ((Ext.refl w).trans (Ext.drew _)) ?_
      repeat' (first
        | refine EP.f rfl (FV.nilChk rfl) rfl rfl ?_
        | refine EP.f rfl (FV.fieldAddr rfl rfl rfl rfl rfl) rfl rfl ?_
        | refine EP.f rfl (FV.load rfl rfl rfl (fun w' h' => h'.cell l0)) rfl rfl ?_
        | refine EP.f rfl (FV.load rfl rfl rfl (fun w' h' => h'.cell l4)) rfl rfl ?_
        | refine EP.f rfl (FV.move rfl) rfl rfl ?_
        | refine EP.f rfl (FV.len rfl rfl) rfl rfl ?_)
      refine EP.h rfl rfl (Hv.call (specKids _ _) rfl) rfl (fun _ => rfl) ?_
      rintro _ _ ⟨rfl, rfl⟩
      refine ⟨(Ext.refl w).trans (Ext.drew _), ?_⟩
      repeat' (first
        | refine EP.f rfl (FV.nilChk rfl) rfl rfl ?_
        | refine EP.f rfl (FV.fieldAddr rfl rfl rfl rfl rfl) rfl rfl ?_
        | refine EP.f rfl (FV.pickT rfl rfl) rfl rfl ?_
        | refine EP.f rfl (FV.pickF rfl rfl) rfl rfl ?_
        | refine EP.skip rfl rfl rfl ?_
        | refine EP.fT rfl (FV.neq rfl rfl) rfl (fun _ => rfl) (by omega) ?_
        | refine EP.fF rfl (FV.neq rfl rfl) rfl (fun _ => rfl) (by omega) ?_
        | refine EP.f rfl (FV.load rfl rfl rfl (fun w' h' => h'.cell l2)) rfl rfl ?_
        | refine EP.nil ?_
        | refine EP.f rfl (FV.move rfl) rfl rfl ?_)
      repeat' (first
        | refine EL.f (FV.assign rfl) rfl rfl ?_
        | refine EL.nil ?_
        | refine EW.seq ?_
        | refine EW.region ?_
        | refine EW.ret ?_
        | refine EW.condT rfl ?_)
      exact ⟨_, rfl, by rw [decide_eq_false (by unfold NodeOk KidsOk; omega)], (Ext.drew w)⟩
    by_cases hc0 : c = 0
    rotate_left
    · refine EW.draw (fun w' => Ext w w') (pl 0 4 ++ pl 5 5 ++ [(4, false)] ++ pl 10 15) mixed (by decide +kernel) ((Ext.refl w).trans (Ext.drew _)) ?_
      repeat' (first
        | refine EP.f rfl (FV.nilChk rfl) rfl rfl ?_
        | refine EP.f rfl (FV.fieldAddr rfl rfl rfl rfl rfl) rfl rfl ?_
        | refine EP.f rfl (FV.load rfl rfl rfl (fun w' h' => h'.cell l0)) rfl rfl ?_
        | refine EP.f rfl (FV.load rfl rfl rfl (fun w' h' => h'.cell l4)) rfl rfl ?_
        | refine EP.f rfl (FV.move rfl) rfl rfl ?_
        | refine EP.f rfl (FV.len rfl rfl) rfl rfl ?_)
      refine EP.h rfl rfl (Hv.call (specKids _ _) rfl) rfl (fun _ => rfl) ?_
      rintro _ _ ⟨rfl, rfl⟩
      refine ⟨(Ext.refl w).trans (Ext.drew _), ?_⟩
      repeat' (first
        | refine EP.f rfl (FV.nilChk rfl) rfl rfl ?_
        | refine EP.f rfl (FV.fieldAddr rfl rfl rfl rfl rfl) rfl rfl ?_
        | refine EP.f rfl (FV.pickF rfl rfl) rfl rfl ?_
        | refine EP.fT rfl (FV.neq rfl rfl) rfl (fun _ => rfl) (by omega) ?_
        | refine EP.fF rfl (FV.neq rfl rfl) rfl (fun _ => rfl) (by omega) ?_
        | refine EP.f rfl (FV.load rfl rfl rfl (fun w' h' => h'.cell l2)) rfl rfl ?_
        | refine EP.f rfl (FV.load rfl rfl rfl (fun w' h' => h'.cell l3)) rfl rfl ?_
        | refine EP.nil ?_
        | refine EP.f rfl (FV.move rfl) rfl rfl ?_)
      repeat' (first
        | refine EL.f (FV.assign rfl) rfl rfl ?_
        | refine EL.nil ?_
        | refine EW.seq ?_
        | refine EW.region ?_
        | refine EW.ret ?_
        | refine EW.condT rfl ?_)
      exact ⟨_, rfl, by rw [decide_eq_false (by unfold NodeOk KidsOk; omega)], (Ext.drew w)⟩
    subst hp0 hc0
    have hq2 := hq
    unfold KidsOk at hq2
    refine EW.draw (fun w' => Ext w w') (pl 0 4 ++ pl 5 5 ++ [(4, false)] ++ pl 10 15) mixed (by decide +kernel) ((Ext.refl w).trans (Ext.drew _)) ?_
    repeat' (first
      | refine EP.f rfl (FV.nilChk rfl) rfl rfl ?_
      | refine EP.f rfl (FV.fieldAddr rfl rfl rfl rfl rfl) rfl rfl ?_
      | refine EP.f rfl (FV.load rfl rfl rfl (fun w' h' => h'.cell l0)) rfl rfl ?_
      | refine EP.f rfl (FV.load rfl rfl rfl (fun w' h' => h'.cell l4)) rfl rfl ?_
      | refine EP.f rfl (FV.move rfl) rfl rfl ?_
      | refine EP.f rfl (FV.len rfl rfl) rfl rfl ?_)
    refine EP.h rfl rfl (Hv.call (specKids _ _) rfl) rfl (fun _ => rfl) ?_
    rintro _ _ ⟨rfl, rfl⟩
    refine ⟨(Ext.refl w).trans (Ext.drew _), ?_⟩
    repeat' (first
      | refine EP.f rfl (FV.nilChk rfl) rfl rfl ?_
      | refine EP.f rfl (FV.fieldAddr rfl rfl rfl rfl rfl) rfl rfl ?_
      | refine EP.f rfl (FV.pickF rfl rfl) rfl rfl ?_
      | refine EP.fF rfl (FV.neq rfl rfl) rfl (fun _ => rfl) (by omega) ?_
      | refine EP.f rfl (FV.load rfl rfl rfl (fun w' h' => h'.cell l2)) rfl rfl ?_
      | refine EP.f rfl (FV.load rfl rfl rfl (fun w' h' => h'.cell l3)) rfl rfl ?_
      | refine EP.nil ?_
      | refine EP.f rfl (FV.move rfl) rfl rfl ?_)
    repeat' (first
      | (show EL _ _ _ _ (_ :: _) _ _
         first
         | (show EL _ _ _ _ (⟨_, .nilCheck _, _, _, _, _⟩ :: _) _ _; refine EL.f (FV.nilChk rfl) rfl rfl ?_)
         | (show EL _ _ _ _ (⟨_, .fieldAddr _ _ _, _, _, _, _⟩ :: _) _ _; refine EL.f (FV.fieldAddr rfl rfl rfl rfl rfl) rfl rfl ?_)
         | (show EL _ _ _ _ (⟨_, .load _ _, _, _, _, _⟩ :: _) _ _; first | refine EL.f (FV.load1 rfl rfl rfl (((Ext.drew w)).cell l0)) rfl rfl ?_ | refine EL.f (FV.load1 rfl rfl rfl (((Ext.drew w)).cell l1)) rfl rfl ?_)
         | (show EL _ _ _ _ (⟨_, .call _, _, _, _, _⟩ :: _) _ _; first | refine EL.inS (Hv.call (specIn _ _ _ _) rfl) rfl (fun _ => rfl) (fun _ => ?_) (fun _ => ?_) | refine EL.inS (Hv.call (specNumber _ _) rfl) rfl (fun _ => rfl) (fun _ => ?_) (fun _ => ?_))
         | (show EL _ _ _ _ (⟨_, .move _, _, _, _, _⟩ :: _) _ _; refine EL.f (FV.move rfl) rfl rfl ?_)
         | (show EL _ _ _ _ (⟨_, .assign _, _, _, _, _⟩ :: _) _ _; refine EL.f (FV.assign rfl) rfl rfl ?_)
         | (show EL _ _ _ _ (⟨_, .binOp .sub _ _ _ _, _, _, _, _⟩ :: _) _ _; refine EL.f (FV.subI rfl rfl (by omega)) rfl rfl ?_)
         | (show EL _ _ _ _ (⟨_, .binOp .eql _ _ _ _, _, _, _, _⟩ :: _) _ _; refine EL.fS (FV.eql rfl rfl) rfl (fun _ => rfl) (fun _ => ?_) (fun _ => ?_)))
      | refine EL.nil ?_
      | refine EW.seq ?_
      | refine EW.region ?_
      | refine EW.block ?_
      | refine EW.skip ?_
      | refine EW.ret ?_
      | refine EW.condT rfl ?_
      | refine EW.condF rfl ?_)
    all_goals first
      | exact ⟨_, rfl, by rw [decide_eq_true (by unfold NodeOk KidsOk; omega)], (Ext.drew w)⟩
      | exact ⟨_, rfl, by rw [decide_eq_false (by unfold NodeOk KidsOk; omega)], (Ext.drew w)⟩
end Eng
end Go.Proofs.Ytgahkbcfjibjaaa
