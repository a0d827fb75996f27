/- The reverse sweep in the reference, continued. Conditions: as each says. -/
import Derived.Test.YtfkohgfcchhlpaaTg
namespace Go.Proofs.Ytfkohgfcchhlpaa
open Go Go.RowKit
namespace Eng
theorem EW.viaN {P : Program} {n : Nat} {Q : Exit → Env → World → Prop} {ρ : Env} {w : World} {x : Code} (M : Env → World → Prop) (h : EW P n x (thenE M Q) ρ w) (h2 : ∀ ρ' w', M ρ' w' → Q .normal ρ' w') : EW P n x Q ρ w :=
  EW.mono h fun e ρ' w' hq => by cases e <;> first | exact h2 _ _ hq | exact hq
theorem swS_next {t : Tp} {regs : List (List Int)} {ws : List Int} {sz m : Nat} (h : m < t.code.length) : swS t regs ws sz (t.code.length - m) = swStep regs m (t.code.getD m dIns) (swS t regs ws sz (t.code.length - (m + 1))) := by
  rw [show t.code.length - m = (t.code.length - (m + 1)) + 1 from by omega, swS, show t.code.length - 1 - (t.code.length - (m + 1)) = m from by omega]
theorem constL_zeros (m : Nat) : constL 0 m = List.replicate m 0 := by
  cases m with
  | zero => rfl
  | succ m => simp [constL, List.replicate_succ]
set_option maxHeartbeats 16000000 in
theorem specSweep (b o : Nat) (t : Tp) (A C : Option Addr) (cR cW : Nat) (regs : List (List Int)) (ws : List Int) (m1 : Nat) (w : World) (h : TapeP w b o t) (_hf : Fit t) (ok : okT t = true) (hr : Rows w A regs) (hrl : regs.length = t.code.length) (hgr : Good (m1 + 1) regs) (hw : Rd w C (ints ws)) (hwl : ws.length = t.outs.length) (hm : m1 ≤ 100) :
    CallsR Try.prog 153 [.pointer (some ⟨b, o, none⟩), .slice A regs.length cR, .slice C ws.length cW, .int .i64 ((m1 + 1 : Nat) : Int)] w fun v w' => OutR w.heap.size w' v (swS t regs ws (m1 + 1) t.code.length) ∧ Ext w w' := by
  obtain ⟨E, d, F, d2, G, d3, hb, r1, r2, r3⟩ := h
  have okc := (okT_iff.1 ok).2.2.2.2.1
  have hcl := (okT_iff.1 ok).2.1
  have hou := (okT_iff.1 ok).2.2.2
  have hn0 : 0 < t.code.length := by have := hou.2.2.2 0 (by omega); omega
  rw [hrl]
  obtain ⟨b8, o8, rfl, hregs⟩ := hr.all (by omega)
  refine CallsR.enter Try.func153 (by decide +kernel) rfl Try.ntmps153 rfl ?_
  repeat' (first
    | refine EL.f (FV.assign rfl) rfl rfl ?_
    | refine EL.nil ?_
    | refine EW.seq ?_
    | refine EW.region ?_)
  refine EL.h (Hv.build0 rfl rfl) rfl (fun _ => rfl) ?_
  rintro s0 w1 ⟨ho1, he1⟩
  repeat' (first
    | refine EL.f (FV.assign rfl) rfl rfl ?_
    | refine EL.nil ?_
    | refine EW.seq ?_
    | refine EW.region ?_
    | refine EW.block ?_)
  refine EW.loop (X := Nat × Value) (fun q wr => q.1 ≤ t.code.length ∧ OutR w.heap.size wr q.2 (List.replicate q.1 (List.replicate (m1 + 1) 0)) ∧ Ext w wr) (fun q => [(0, .pointer (some ⟨b, o, none⟩)), (1, .slice (some ⟨b8, o8, none⟩) t.code.length cR), (2, .slice C ws.length cW), (3, .int .i64 ((m1 + 1 : Nat) : Int)), (9, q.2), (10, .int .i64 q.1)]) (fun q => t.code.length - q.1) (0, s0) ⟨Nat.zero_le _, OutR.nil ho1, he1⟩ ⟨rfl, rfl, rfl, rfl, rfl, rfl, trivial⟩ ?_
  rintro ⟨k, s⟩ wr ⟨hk, hout, he⟩
  dsimp only at *
  have hbr := hb.ext he
  by_cases hlt : k < t.code.length
  · repeat' (first
      | (show EL _ _ _ _ (_ :: _) _ _
         first
         | (show EL _ _ _ _ (⟨_, .nilCheck _, _, _, _, _⟩ :: _) _ _; refine EL.f (FV.nilChk rfl) rfl rfl ?_)
         | (show EL _ _ _ _ (⟨_, .fieldAddr _ _ _, _, _, _, _⟩ :: _) _ _; refine EL.f (FV.fieldAddr rfl rfl rfl rfl rfl) rfl rfl ?_)
         | (show EL _ _ _ _ (⟨_, .load _ _, _, _, _, _⟩ :: _) _ _; refine EL.f (FV.load1 rfl rfl rfl (hbr 1 _ rfl)) rfl rfl ?_)
         | (show EL _ _ _ _ (⟨_, .move _, _, _, _, _⟩ :: _) _ _; refine EL.f (FV.move rfl) rfl rfl ?_)
         | (show EL _ _ _ _ (⟨_, .call _, _, _, _, _⟩ :: _) _ _; refine EL.f (FV.len rfl rfl) rfl rfl ?_)
         | (show EL _ _ _ _ (⟨_, .binOp .lss _ _ _ _, _, _, _, _⟩ :: _) _ _; refine EL.fT (FV.lss rfl rfl) rfl (fun _ => rfl) (by omega) ?_))
      | refine EL.nil ?_
      | refine EW.seq ?_
      | refine EW.region ?_
      | refine EW.block ?_
      | refine EW.skip ?_
      | refine EW.condT rfl ?_)
    refine EL.h (Hv.call (specConst 0 (m1 + 1) (by omega) wr) rfl) rfl (fun _ => rfl) ?_
    rintro _ w2 ⟨g2, rfl, hg2, hat2, he2⟩
    rw [constL_zeros] at hat2
    have hrow : RowB w2 w.heap.size (.slice (some ⟨g2, 0, none⟩) (m1 + 1) (m1 + 1)) (List.replicate (m1 + 1) 0) := RowB.own (AtI.own' (B := 0) hat2 (by simp) (Nat.zero_le _))
    skip
    refine EL.h (Hv.build1A rfl rfl rfl rfl) rfl (fun _ => rfl) ?_
    rintro _ w3 ⟨g3, rfl, h3, hg3, he3⟩
    have e03 := (he.trans he2).trans he3
    skip
    refine EL.h (Hv.push rfl rfl (At.cell h3 rfl) (hout.ext (he2.trans he3)) (hrow.ext he3) (by rw [List.length_replicate]; omega) e03.size) rfl (fun _ => rfl) ?_
    rintro s9 w9 ⟨hout9, hgr9, hbl⟩
    repeat' (first
      | refine EL.f (FV.move rfl) rfl rfl ?_
      | refine EL.f (FV.assign rfl) rfl rfl ?_
      | refine EL.f (FV.addI rfl rfl (by omega)) rfl rfl ?_
      | refine EL.nil ?_
      | refine EW.region ?_)
    exact ⟨(k + 1, s9), ⟨rfl, rfl, rfl, rfl, rfl, rfl, trivial⟩, ⟨by dsimp only; omega, by rw [replicate_snoc]; exact hout9, Ext.after e03 hbl⟩, by dsimp only; omega⟩
  obtain rfl : k = t.code.length := by omega
  obtain ⟨g, c, rfl, hO⟩ := hout.outA (by rw [List.length_replicate]; exact hn0)
  rw [List.length_replicate] at hO ⊢
  repeat' (first
    | (show EL _ _ _ _ (_ :: _) _ _
       first
       | (show EL _ _ _ _ (⟨_, .nilCheck _, _, _, _, _⟩ :: _) _ _; refine EL.f (FV.nilChk rfl) rfl rfl ?_)
       | (show EL _ _ _ _ (⟨_, .fieldAddr _ _ _, _, _, _, _⟩ :: _) _ _; refine EL.f (FV.fieldAddr rfl rfl rfl rfl rfl) rfl rfl ?_)
       | (show EL _ _ _ _ (⟨_, .load _ _, _, _, _, _⟩ :: _) _ _; refine EL.f (FV.load1 rfl rfl rfl (hbr 1 _ rfl)) rfl rfl ?_)
       | (show EL _ _ _ _ (⟨_, .move _, _, _, _, _⟩ :: _) _ _; refine EL.f (FV.move rfl) rfl rfl ?_)
       | (show EL _ _ _ _ (⟨_, .assign _, _, _, _, _⟩ :: _) _ _; refine EL.f (FV.assign rfl) rfl rfl ?_)
       | (show EL _ _ _ _ (⟨_, .call _, _, _, _, _⟩ :: _) _ _; refine EL.f (FV.len rfl rfl) rfl rfl ?_)
       | (show EL _ _ _ _ (⟨_, .binOp .lss _ _ _ _, _, _, _, _⟩ :: _) _ _; refine EL.fF (FV.lss rfl rfl) rfl (fun _ => rfl) (by omega) ?_))
    | refine EL.nil ?_
    | refine EW.seq ?_
    | refine EW.region ?_
    | refine EW.block ?_
    | refine EW.exit ?_
    | refine EW.condF rfl ?_)
  refine EW.loop (fun k wz => k ≤ t.outs.length ∧ OutA w.heap.size wz g c t.code.length (outS t ws (m1 + 1) k) ∧ Ext w wz) (fun k => [(0, .pointer (some ⟨b, o, none⟩)), (1, .slice (some ⟨b8, o8, none⟩) t.code.length cR), (2, .slice C ws.length cW), (3, .int .i64 ((m1 + 1 : Nat) : Int)), (9, .slice (some ⟨g, 0, none⟩) t.code.length c), (11, .int .i64 k)]) (fun k => t.outs.length - k) 0 ⟨Nat.zero_le _, hO, he⟩ ⟨rfl, rfl, rfl, rfl, rfl, rfl, trivial⟩ ?_
  clear hO hout hbr he
  rintro k wr ⟨hk, hO, he⟩
  have hbr := hb.ext he
  by_cases hlt : k < t.outs.length
  · have hko := hou.2.2.2 k hlt
    obtain ⟨b3, o3, rfl, hc3⟩ := (r3.ext he).int hlt
    obtain ⟨b4, o4, rfl, hc4⟩ := (hw.ext he).int (show k < ws.length by omega)
    obtain ⟨Ar, cr, hcr, _, hrd⟩ := hO.get (i := (t.outs.getD k 0).toNat) (by omega)
    have lr := (outS_good t ws (m1 + 1) k (t.outs.getD k 0).toNat (by rw [outS_length]; omega)).1
    repeat' (first
      | (show EL _ _ _ _ (_ :: _) _ _
         first
         | (show EL _ _ _ _ (⟨_, .nilCheck _, _, _, _, _⟩ :: _) _ _; refine EL.f (FV.nilChk rfl) rfl rfl ?_)
         | (show EL _ _ _ _ (⟨_, .fieldAddr _ _ _, _, _, _, _⟩ :: _) _ _; refine EL.f (FV.fieldAddr rfl rfl rfl rfl rfl) rfl rfl ?_)
         | (show EL _ _ _ _ (⟨_, .load _ _, _, _, _, _⟩ :: _) _ _; refine EL.f (FV.load1 rfl rfl rfl (hbr 3 _ rfl)) rfl rfl ?_)
         | (show EL _ _ _ _ (⟨_, .move _, _, _, _, _⟩ :: _) _ _; refine EL.f (FV.move rfl) rfl rfl ?_)
         | (show EL _ _ _ _ (⟨_, .call _, _, _, _, _⟩ :: _) _ _; refine EL.f (FV.len rfl rfl) rfl rfl ?_)
         | (show EL _ _ _ _ (⟨_, .binOp .lss _ _ _ _, _, _, _, _⟩ :: _) _ _; refine EL.fT (FV.lss rfl rfl) rfl (fun _ => rfl) (by omega) ?_))
      | refine EL.nil ?_
      | refine EW.seq ?_
      | refine EW.region ?_
      | refine EW.block ?_
      | refine EW.skip ?_
      | refine EW.condT rfl ?_)
    refine EW.draw (fun w' => Ext wr w') (pl 0 23 ++ [(23, false), (24, false), (25, true), (26, false)]) mixed (by decide +kernel) (Ext.drew _) ?_
    repeat' (first
      | refine EP.f rfl (FV.nilChk rfl) rfl rfl ?_
      | refine EP.f rfl (FV.fieldAddr rfl rfl rfl rfl rfl) rfl rfl ?_
      | refine EP.f rfl (FV.load rfl rfl rfl (fun w' h' => (hbr.ext h') 3 _ rfl)) rfl rfl ?_
      | refine EP.f rfl (FV.load rfl rfl rfl (fun w' h' => h'.cell hc3)) rfl rfl ?_
      | refine EP.f rfl (FV.load rfl rfl rfl (fun w' h' => h'.cell hc4)) rfl rfl ?_
      | refine EP.f rfl (FV.load rfl rfl rfl (fun w' h' => h'.cell hcr)) rfl rfl ?_
      | refine EP.f rfl (FV.move rfl) rfl rfl ?_
      | refine EP.f rfl (FV.idx0 rfl rfl rfl rfl (by omega) (by omega)) rfl rfl ?_
      | refine EP.f rfl (FV.idx1 rfl rfl rfl rfl (by omega) (by omega)) rfl rfl ?_)
    have ed := Ext.drew wr
    refine EP.h rfl rfl (Hv.call (specConst (ws.getD k 0) (m1 + 1) (by omega) wr.drew) rfl) rfl (fun _ => rfl) ?_
    rintro _ w2 ⟨g2, rfl, hg2, hat2, he2⟩
    have e2 := ed.trans he2
    refine ⟨e2, ?_⟩
    have hcl2 := constL_length (ws.getD k 0) (m1 + 1)
    have hrc := At.rd hat2
    refine EP.h rfl rfl (Hv.call (specAdd Ar (some ⟨g2, 0, none⟩) cr (m1 + 1) _ (constL (ws.getD k 0) (m1 + 1)) w2 (hrd.ext e2) hrc (by omega) (by omega)) (by rw [hcl2]; rfl)) rfl (fun _ => rfl) ?_
    rintro v3 w3 ⟨hs3, he3⟩
    have e3 := e2.trans he3
    refine ⟨e3, ?_⟩
    repeat' (first
      | refine EP.f rfl (FV.idx0 rfl rfl rfl rfl (by omega) (by omega)) rfl rfl ?_)
    refine EP.last rfl rfl (by decide +kernel) (Hv.putRow rfl rfl (hO.ext e3) (by omega) (RowB.own hs3)) rfl (fun _ => rfl) ?_
    rintro _ w4 ⟨hO4, hon4⟩
    replace hon4 := Only.then_ e3 hon4
    repeat' (first
      | refine EL.f (FV.move rfl) rfl rfl ?_
      | refine EL.f (FV.assign rfl) rfl rfl ?_
      | refine EL.f (FV.addI rfl rfl (by omega)) rfl rfl ?_
      | refine EL.nil ?_
      | refine EW.region ?_)
    exact ⟨k + 1, ⟨rfl, rfl, rfl, rfl, rfl, rfl, trivial⟩, ⟨by omega, hO4, Ext.only he hon4 hO.lo⟩, by omega⟩
  obtain rfl : k = t.outs.length := by omega
  repeat' (first
    | (show EL _ _ _ _ (_ :: _) _ _
       first
       | (show EL _ _ _ _ (⟨_, .nilCheck _, _, _, _, _⟩ :: _) _ _; refine EL.f (FV.nilChk rfl) rfl rfl ?_)
       | (show EL _ _ _ _ (⟨_, .fieldAddr _ _ _, _, _, _, _⟩ :: _) _ _; refine EL.f (FV.fieldAddr rfl rfl rfl rfl rfl) rfl rfl ?_)
       | (show EL _ _ _ _ (⟨_, .load _ _, _, _, _, _⟩ :: _) _ _; first | refine EL.f (FV.load1 rfl rfl rfl (hbr 3 _ rfl)) rfl rfl ?_ | refine EL.f (FV.load1 rfl rfl rfl (hbr 1 _ rfl)) rfl rfl ?_)
       | (show EL _ _ _ _ (⟨_, .move _, _, _, _, _⟩ :: _) _ _; refine EL.f (FV.move rfl) rfl rfl ?_)
       | (show EL _ _ _ _ (⟨_, .assign _, _, _, _, _⟩ :: _) _ _; refine EL.f (FV.assign rfl) rfl rfl ?_)
       | (show EL _ _ _ _ (⟨_, .binOp .sub _ _ _ _, _, _, _, _⟩ :: _) _ _; refine EL.f (FV.subI rfl rfl (by omega)) rfl rfl ?_)
       | (show EL _ _ _ _ (⟨_, .call _, _, _, _, _⟩ :: _) _ _; refine EL.f (FV.len rfl rfl) rfl rfl ?_)
       | (show EL _ _ _ _ (⟨_, .binOp .lss _ _ _ _, _, _, _, _⟩ :: _) _ _; refine EL.fF (FV.lss rfl rfl) rfl (fun _ => rfl) (by omega) ?_))
    | refine EL.nil ?_
    | refine EW.seq ?_
    | refine EW.region ?_
    | refine EW.block ?_
    | refine EW.exit ?_
    | refine EW.condF rfl ?_)
  refine EW.loop (fun q wz => q ≤ t.code.length ∧ OutA w.heap.size wz g c t.code.length (swS t regs ws (m1 + 1) (t.code.length - q)) ∧ Ext w wz) (fun q => [(0, .pointer (some ⟨b, o, none⟩)), (1, .slice (some ⟨b8, o8, none⟩) t.code.length cR), (2, .slice C ws.length cW), (3, .int .i64 ((m1 + 1 : Nat) : Int)), (9, .slice (some ⟨g, 0, none⟩) t.code.length c), (12, .int .i64 ((q : Int) - 1))]) (fun q => q) t.code.length ⟨Nat.le_refl _, by rw [Nat.sub_self]; exact hO, he⟩ ⟨rfl, rfl, rfl, rfl, rfl, rfl, trivial⟩ ?_
  clear hO hbr he
  rintro q wr ⟨hq, hO, he⟩
  cases q with
  | zero =>
    repeat' (first
      | refine EL.f (FV.move rfl) rfl rfl ?_
      | refine EL.f (FV.assign rfl) rfl rfl ?_
      | refine EL.fF (FV.geq rfl rfl) rfl (fun _ => rfl) (by omega) ?_
      | refine EL.nil ?_
      | refine EW.seq ?_
      | refine EW.region ?_
      | refine EW.exit ?_
      | refine EW.ret ?_
      | refine EW.condF rfl ?_)
    exact ⟨_, rfl, hO.outR, he⟩
  | succ m =>
  rw [show (((m + 1 : Nat)) : Int) - 1 = (m : Int) from by omega]
  have hbr := hb.ext he
  obtain ⟨x1, p1, rfl, hp⟩ := Rd.elem insV_length (by decide) dIns (r1.ext he) (k := m) (by omega)
  have okk := okc m (by omega)
  have hop := okI_op okk
  have hnext := swS_next (t := t) (regs := regs) (ws := ws) (sz := m1 + 1) (m := m) (by omega)
  have hgood := swS_good t regs ws (m1 + 1) (t.code.length - (m + 1))
  have hal := swS_length t regs ws (m1 + 1) (t.code.length - (m + 1))
  generalize swS t regs ws (m1 + 1) (t.code.length - (m + 1)) = a at *
  generalize t.code.getD m dIns = x at *
  repeat' (first
    | refine EL.f (FV.move rfl) rfl rfl ?_
    | refine EL.fT (FV.geq rfl rfl) rfl (fun _ => rfl) (by omega) ?_
    | refine EL.nil ?_
    | refine EW.seq ?_
    | refine EW.region ?_
    | refine EW.skip ?_
    | refine EW.condT rfl ?_)
  refine EW.block ?_
  repeat' (first
    | (show EL _ _ _ _ (_ :: _) _ _
       first
       | (show EL _ _ _ _ (⟨_, .nilCheck _, _, _, _, _⟩ :: _) _ _; refine EL.f (FV.nilChk rfl) rfl rfl ?_)
       | (show EL _ _ _ _ (⟨_, .fieldAddr _ _ _, _, _, _, _⟩ :: _) _ _; refine EL.f (FV.fieldAddr rfl rfl rfl rfl rfl) rfl rfl ?_)
       | (show EL _ _ _ _ (⟨_, .load _ _, _, _, _, _⟩ :: _) _ _; first | refine EL.f (FV.load1 rfl rfl rfl (hbr 1 _ rfl)) rfl rfl ?_ | refine EL.f (FV.loadAgg (cs := insV x) rfl rfl rfl rfl rfl (fun _ e => hp.ext (e ▸ Ext.refl _))) rfl rfl ?_)
       | (show EL _ _ _ _ (⟨_, .indexAddr _ _ _, _, _, _, _⟩ :: _) _ _; refine EL.f (FV.idx rfl rfl rfl rfl (by omega) (by omega)) rfl rfl ?_)
       | (show EL _ _ _ _ (⟨_, .move _, _, _, _, _⟩ :: _) _ _; refine EL.f (FV.move rfl) rfl rfl ?_))
    | refine EW.seq ?_
    | refine EW.region ?_)
  refine EL.h (Hv.allocA rfl rfl) rfl (fun _ => rfl) ?_
  rintro _ w4 ⟨g4, rfl, hg4, h4, he4⟩
  skip
  refine EL.h (Hv.storeAggG (vs := insV x) rfl rfl rfl rfl (insV_one _) h4 (Nat.le_refl _)) rfl (fun _ => rfl) ?_
  rintro _ w6 ⟨h5, hr5⟩
  have hw5 : Ext wr w6 := Below.wr he4 hr5 (by omega) (Nat.le_refl _)
  replace h5 : At w6 65 4 g4 1 1 (insV x) := h5
  replace hO := hO.ext hw5
  have hW := he.trans hw5
  obtain ⟨Aw, cw, hcw, hown, _⟩ := hO.get (i := m) (by omega)
  have hgood' : ∀ i, i < t.code.length → (a.getD i []).length = m1 + 1 ∧ nums (a.getD i []) = true := fun i hi => hgood i (by omega)
  repeat' (first
    | (show EL _ _ _ _ (_ :: _) _ _
       first
       | (show EL _ _ _ _ (⟨_, .fieldAddr _ _ _, _, _, _, _⟩ :: _) _ _; refine EL.f (FV.fieldAddr rfl rfl rfl rfl rfl) rfl rfl ?_)
       | (show EL _ _ _ _ (⟨_, .load _ _, _, _, _, _⟩ :: _) _ _; first | refine EL.f (FV.load1 rfl rfl rfl (At.cell h5 rfl)) rfl rfl ?_ | refine EL.f (FV.load1 rfl rfl rfl hcw) rfl rfl ?_)
       | (show EL _ _ _ _ (⟨_, .move _, _, _, _, _⟩ :: _) _ _; refine EL.f (FV.move rfl) rfl rfl ?_)
       | (show EL _ _ _ _ (⟨_, .assign _, _, _, _, _⟩ :: _) _ _; refine EL.f (FV.assign rfl) rfl rfl ?_)
       | (show EL _ _ _ _ (⟨_, .indexAddr _ _ _, _, _, _, _⟩ :: _) _ _; refine EL.f (FV.idx0 rfl rfl rfl rfl (by omega) (by omega)) rfl rfl ?_))
    | refine EL.nil ?_
    | refine EW.seq ?_
    | refine EW.region ?_)
  refine EW.viaN (fun ρ' w' => Sub [(0, .pointer (some ⟨b, o, none⟩)), (1, .slice (some ⟨b8, o8, none⟩) t.code.length cR), (2, .slice C ws.length cW), (3, .int .i64 ((m1 + 1 : Nat) : Int)), (9, .slice (some ⟨g, 0, none⟩) t.code.length c), (12, .int .i64 m)] ρ' ∧ OutA w.heap.size w' g c t.code.length (swStep regs m x a) ∧ Ext w w') ?_ ?_
  · refine EW.block ?_
    generalize hov : Value.slice Aw (a.getD m []).length cw = ownv at *
    by_cases o3 : x.op = 3
    · obtain ⟨⟨oa0, oa1⟩, ob0, ob1⟩ := okI_bin okk (by omega)
      have hO_good := hgood
      obtain ⟨lo, no⟩ := hgood m (by omega)
      obtain ⟨Ao, co, rfl, hro⟩ : ∃ A c, ownv = .slice A (a.getD m []).length c ∧ Rd w6 A (ints (a.getD m [])) := hown.rd
      obtain ⟨Ar31, cr31, hcr31, _, hrd31⟩ := hO.get (i := x.a.toNat) (by omega)
      have lr31 := (hO_good x.a.toNat (by omega)).1
      repeat' (first
        | refine EL.f (FV.assign rfl) rfl rfl ?_
        | refine EL.fT (FV.eql rfl rfl) rfl (fun _ => rfl) (by omega) ?_
        | refine EL.nil ?_
        | refine EW.seq ?_
        | refine EW.region ?_
        | refine EW.condT rfl ?_)
      refine EW.draw (fun w' => Ext w6 w') (pl 0 9 ++ [(9, false), (10, true), (11, false)]) mixed (by decide +kernel) (Ext.drew _) ?_
      repeat' (first
        | refine EP.f rfl (FV.fieldAddr rfl rfl rfl rfl rfl) rfl rfl ?_
        | refine EP.f rfl (FV.load rfl rfl rfl (fun w' h' => At.cell (At.ext h5 h') rfl)) rfl rfl ?_
        | refine EP.f rfl (FV.load rfl rfl rfl (fun w' h' => h'.cell hcr31)) rfl rfl ?_
        | refine EP.f rfl (FV.move rfl) rfl rfl ?_
        | refine EP.f rfl (FV.idx0 rfl rfl rfl rfl (by omega) (by omega)) rfl rfl ?_)
      have ed31 := Ext.drew w6
      refine EP.h rfl rfl (Hv.call (specAdd Ar31 Ao cr31 co _ _ w6.drew (hrd31.ext ed31) (hro.ext ed31) (by omega) (by omega)) rfl) rfl (fun _ => rfl) ?_
      rintro v31 us31 ⟨hs31, es31⟩
      have e31s := ed31.trans es31
      refine ⟨e31s, ?_⟩
      repeat' (first
        | refine EP.f rfl (FV.idx0 rfl rfl rfl rfl (by omega) (by omega)) rfl rfl ?_)
      refine EP.last rfl rfl (by decide +kernel) (Hv.putRow rfl rfl (hO.ext e31s) (by omega) (RowB.own hs31)) rfl (fun _ => rfl) ?_
      rintro _ u31 ⟨hO31, hon31⟩
      replace hon31 := Only.then_ e31s hon31
      replace h5 := At.only h5 hon31 (hO.apart h5 (by decide))
      replace hown := RowB.onlyA hown hO hon31
      replace hW := Ext.only hW hon31 hO.lo
      clear hO
      have hO : OutA w.heap.size u31 g c t.code.length (putL a x.a (a.getD m [])) := hO31
      clear hO31
      replace hO_good := putL_good hgood x.a (a.getD m [])
      obtain ⟨Ao2, co2, eo2, hro2⟩ := hown.rd
      injection eo2 with eo2 _ _
      subst eo2
      obtain ⟨Ar32, cr32, hcr32, _, hrd32⟩ := hO.get (i := x.b.toNat) (by omega)
      have lr32 := (hO_good x.b.toNat (by rw [putL_length]; omega)).1
      skip
      refine EW.draw (fun w' => Ext u31 w') (pl 0 9 ++ [(9, false), (10, true), (11, false)]) mixed (by decide +kernel) (Ext.drew _) ?_
      repeat' (first
        | refine EP.f rfl (FV.fieldAddr rfl rfl rfl rfl rfl) rfl rfl ?_
        | refine EP.f rfl (FV.load rfl rfl rfl (fun w' h' => At.cell (At.ext h5 h') rfl)) rfl rfl ?_
        | refine EP.f rfl (FV.load rfl rfl rfl (fun w' h' => h'.cell hcr32)) rfl rfl ?_
        | refine EP.f rfl (FV.move rfl) rfl rfl ?_
        | refine EP.f rfl (FV.idx0 rfl rfl rfl rfl (by omega) (by omega)) rfl rfl ?_)
      have ed32 := Ext.drew u31
      refine EP.h rfl rfl (Hv.call (specAdd Ar32 Ao cr32 co _ _ u31.drew (hrd32.ext ed32) (hro2.ext ed32) (by omega) (by omega)) rfl) rfl (fun _ => rfl) ?_
      rintro v32 us32 ⟨hs32, es32⟩
      have e32s := ed32.trans es32
      refine ⟨e32s, ?_⟩
      repeat' (first
        | refine EP.f rfl (FV.idx0 rfl rfl rfl rfl (by omega) (by omega)) rfl rfl ?_)
      refine EP.last rfl rfl (by decide +kernel) (Hv.putRow rfl rfl (hO.ext e32s) (by omega) (RowB.own hs32)) rfl (fun _ => rfl) ?_
      rintro _ u32 ⟨hO32, hon32⟩
      replace hon32 := Only.then_ e32s hon32
      replace h5 := At.only h5 hon32 (hO.apart h5 (by decide))
      replace hown := RowB.onlyA hown hO hon32
      replace hW := Ext.only hW hon32 hO.lo
      clear hO
      have hO : OutA w.heap.size u32 g c t.code.length (putL (putL a x.a (a.getD m [])) x.b (a.getD m [])) := hO32
      clear hO32
      skip
      exact ⟨⟨rfl, rfl, rfl, rfl, rfl, rfl, trivial⟩, by unfold swStep; rw [if_pos o3]; exact hO, hW⟩
    by_cases o4 : x.op = 4
    · obtain ⟨⟨oa0, oa1⟩, ob0, ob1⟩ := okI_bin okk (by omega)
      have hO_good := hgood
      obtain ⟨lo, no⟩ := hgood m (by omega)
      obtain ⟨Ao, co, rfl, hro⟩ : ∃ A c, ownv = .slice A (a.getD m []).length c ∧ Rd w6 A (ints (a.getD m [])) := hown.rd
      obtain ⟨Ar41, cr41, hcr41, _, hrd41⟩ := hO.get (i := x.a.toNat) (by omega)
      have lr41 := (hO_good x.a.toNat (by omega)).1
      repeat' (first
        | refine EL.f (FV.assign rfl) rfl rfl ?_
        | refine EL.fT (FV.eql rfl rfl) rfl (fun _ => rfl) (by omega) ?_
        | refine EL.fF (FV.eql rfl rfl) rfl (fun _ => rfl) (by omega) ?_
        | refine EL.nil ?_
        | refine EW.seq ?_
        | refine EW.region ?_
        | refine EW.condT rfl ?_
        | refine EW.condF rfl ?_)
      refine EW.draw (fun w' => Ext w6 w') (pl 0 9 ++ [(9, false), (10, true), (11, false)]) mixed (by decide +kernel) (Ext.drew _) ?_
      repeat' (first
        | refine EP.f rfl (FV.fieldAddr rfl rfl rfl rfl rfl) rfl rfl ?_
        | refine EP.f rfl (FV.load rfl rfl rfl (fun w' h' => At.cell (At.ext h5 h') rfl)) rfl rfl ?_
        | refine EP.f rfl (FV.load rfl rfl rfl (fun w' h' => h'.cell hcr41)) rfl rfl ?_
        | refine EP.f rfl (FV.move rfl) rfl rfl ?_
        | refine EP.f rfl (FV.idx0 rfl rfl rfl rfl (by omega) (by omega)) rfl rfl ?_)
      have ed41 := Ext.drew w6
      refine EP.h rfl rfl (Hv.call (specAdd Ar41 Ao cr41 co _ _ w6.drew (hrd41.ext ed41) (hro.ext ed41) (by omega) (by omega)) rfl) rfl (fun _ => rfl) ?_
      rintro v41 us41 ⟨hs41, es41⟩
      have e41s := ed41.trans es41
      refine ⟨e41s, ?_⟩
      repeat' (first
        | refine EP.f rfl (FV.idx0 rfl rfl rfl rfl (by omega) (by omega)) rfl rfl ?_)
      refine EP.last rfl rfl (by decide +kernel) (Hv.putRow rfl rfl (hO.ext e41s) (by omega) (RowB.own hs41)) rfl (fun _ => rfl) ?_
      rintro _ u41 ⟨hO41, hon41⟩
      replace hon41 := Only.then_ e41s hon41
      replace h5 := At.only h5 hon41 (hO.apart h5 (by decide))
      replace hown := RowB.onlyA hown hO hon41
      replace hW := Ext.only hW hon41 hO.lo
      clear hO
      have hO : OutA w.heap.size u41 g c t.code.length (putL a x.a (a.getD m [])) := hO41
      clear hO41
      replace hO_good := putL_good hgood x.a (a.getD m [])
      obtain ⟨Ao2, co2, eo2, hro2⟩ := hown.rd
      injection eo2 with eo2 _ _
      subst eo2
      obtain ⟨Ar42, cr42, hcr42, _, hrd42⟩ := hO.get (i := x.b.toNat) (by omega)
      have lr42 := (hO_good x.b.toNat (by rw [putL_length]; omega)).1
      skip
      refine EW.draw (fun w' => Ext u41 w') (pl 0 9 ++ [(9, false), (10, true), (11, false)]) mixed (by decide +kernel) (Ext.drew _) ?_
      repeat' (first
        | refine EP.f rfl (FV.fieldAddr rfl rfl rfl rfl rfl) rfl rfl ?_
        | refine EP.f rfl (FV.load rfl rfl rfl (fun w' h' => At.cell (At.ext h5 h') rfl)) rfl rfl ?_
        | refine EP.f rfl (FV.load rfl rfl rfl (fun w' h' => h'.cell hcr42)) rfl rfl ?_
        | refine EP.f rfl (FV.move rfl) rfl rfl ?_
        | refine EP.f rfl (FV.idx0 rfl rfl rfl rfl (by omega) (by omega)) rfl rfl ?_)
      have ed42 := Ext.drew u41
      refine EP.h rfl rfl (Hv.call (specSub Ar42 Ao cr42 co _ _ u41.drew (hrd42.ext ed42) (hro2.ext ed42) (by omega) (by omega) (by omega)) rfl) rfl (fun _ => rfl) ?_
      rintro v42 us42 ⟨hs42, es42⟩
      have e42s := ed42.trans es42
      refine ⟨e42s, ?_⟩
      repeat' (first
        | refine EP.f rfl (FV.idx0 rfl rfl rfl rfl (by omega) (by omega)) rfl rfl ?_)
      refine EP.last rfl rfl (by decide +kernel) (Hv.putRow rfl rfl (hO.ext e42s) (by omega) (RowB.own hs42)) rfl (fun _ => rfl) ?_
      rintro _ u42 ⟨hO42, hon42⟩
      replace hon42 := Only.then_ e42s hon42
      replace h5 := At.only h5 hon42 (hO.apart h5 (by decide))
      replace hown := RowB.onlyA hown hO hon42
      replace hW := Ext.only hW hon42 hO.lo
      clear hO
      have hO : OutA w.heap.size u42 g c t.code.length (putL (putL a x.a (a.getD m [])) x.b (scaleL (a.getD m []) 1000002)) := hO42
      clear hO42
      skip
      exact ⟨⟨rfl, rfl, rfl, rfl, rfl, rfl, trivial⟩, by unfold swStep; rw [if_neg o3, if_pos o4]; exact hO, hW⟩
    by_cases o5 : x.op = 5
    · obtain ⟨⟨oa0, oa1⟩, ob0, ob1⟩ := okI_bin okk (by omega)
      have hO_good := hgood
      obtain ⟨lo, no⟩ := hgood m (by omega)
      obtain ⟨Ao, co, rfl, hro⟩ : ∃ A c, ownv = .slice A (a.getD m []).length c ∧ Rd w6 A (ints (a.getD m [])) := hown.rd
      obtain ⟨Bga, cga, hcga, hrga⟩ := hregs x.a.toNat (by omega)
      obtain ⟨lga, nga⟩ := hgr x.a.toNat (by omega)
      obtain ⟨Bgb, cgb, hcgb, hrgb⟩ := hregs x.b.toNat (by omega)
      obtain ⟨lgb, ngb⟩ := hgr x.b.toNat (by omega)
      obtain ⟨Ar51, cr51, hcr51, _, hrd51⟩ := hO.get (i := x.a.toNat) (by omega)
      have lr51 := (hO_good x.a.toNat (by omega)).1
      repeat' (first
        | refine EL.f (FV.assign rfl) rfl rfl ?_
        | refine EL.fT (FV.eql rfl rfl) rfl (fun _ => rfl) (by omega) ?_
        | refine EL.fF (FV.eql rfl rfl) rfl (fun _ => rfl) (by omega) ?_
        | refine EL.nil ?_
        | refine EW.seq ?_
        | refine EW.region ?_
        | refine EW.condT rfl ?_
        | refine EW.condF rfl ?_)
      refine EW.draw (fun w' => Ext w6 w') (pl 0 14 ++ [(14, false), (15, false), (16, true), (17, false)]) mixed (by decide +kernel) (Ext.drew _) ?_
      repeat' (first
        | refine EP.f rfl (FV.fieldAddr rfl rfl rfl rfl rfl) rfl rfl ?_
        | refine EP.f rfl (FV.load rfl rfl rfl (fun w' h' => At.cell (At.ext h5 h') rfl)) rfl rfl ?_
        | refine EP.f rfl (FV.load rfl rfl rfl (fun w' h' => h'.cell hcr51)) rfl rfl ?_
        | refine EP.f rfl (FV.load rfl rfl rfl (fun w' h' => (hW.trans h').cell hcgb)) rfl rfl ?_
        | refine EP.f rfl (FV.move rfl) rfl rfl ?_
        | refine EP.f rfl (FV.idx0 rfl rfl rfl rfl (by omega) (by omega)) rfl rfl ?_
        | refine EP.f rfl (FV.idx1 rfl rfl rfl rfl (by omega) (by omega)) rfl rfl ?_)
      have ed51 := Ext.drew w6
      refine EP.h rfl rfl (Hv.call (specMul Ao Bgb co cgb _ _ w6.drew (hro.ext ed51) ((hrgb.ext hW).ext ed51) (by omega) (by omega)) rfl) rfl (fun _ => rfl) ?_
      rintro m51 um51 ⟨hm51, em51⟩
      have e51m := ed51.trans em51
      refine ⟨e51m, ?_⟩
      obtain ⟨Am51, cm51, rfl, hmr51⟩ := OwnI.form hm51
      refine EP.h rfl rfl (Hv.call (specAdd Ar51 Am51 cr51 cm51 _ _ um51 (hrd51.ext e51m) hmr51 (by rw [mulL_length]; omega) (by omega)) rfl) rfl (fun _ => rfl) ?_
      rintro v51 us51 ⟨hs51, es51⟩
      have e51s := e51m.trans es51
      refine ⟨e51s, ?_⟩
      repeat' (first
        | refine EP.f rfl (FV.idx0 rfl rfl rfl rfl (by omega) (by omega)) rfl rfl ?_)
      refine EP.last rfl rfl (by decide +kernel) (Hv.putRow rfl rfl (hO.ext e51s) (by omega) (RowB.own hs51)) rfl (fun _ => rfl) ?_
      rintro _ u51 ⟨hO51, hon51⟩
      replace hon51 := Only.then_ e51s hon51
      replace h5 := At.only h5 hon51 (hO.apart h5 (by decide))
      replace hown := RowB.onlyA hown hO hon51
      replace hW := Ext.only hW hon51 hO.lo
      clear hO
      have hO : OutA w.heap.size u51 g c t.code.length (putL a x.a (mulL (a.getD m []) (regs.getD x.b.toNat []))) := hO51
      clear hO51
      replace hO_good := putL_good hgood x.a (mulL (a.getD m []) (regs.getD x.b.toNat []))
      obtain ⟨Ao2, co2, eo2, hro2⟩ := hown.rd
      injection eo2 with eo2 _ _
      subst eo2
      obtain ⟨Ar52, cr52, hcr52, _, hrd52⟩ := hO.get (i := x.b.toNat) (by omega)
      have lr52 := (hO_good x.b.toNat (by rw [putL_length]; omega)).1
      skip
      refine EW.draw (fun w' => Ext u51 w') (pl 0 14 ++ [(14, false), (15, false), (16, true), (17, false)]) mixed (by decide +kernel) (Ext.drew _) ?_
      repeat' (first
        | refine EP.f rfl (FV.fieldAddr rfl rfl rfl rfl rfl) rfl rfl ?_
        | refine EP.f rfl (FV.load rfl rfl rfl (fun w' h' => At.cell (At.ext h5 h') rfl)) rfl rfl ?_
        | refine EP.f rfl (FV.load rfl rfl rfl (fun w' h' => h'.cell hcr52)) rfl rfl ?_
        | refine EP.f rfl (FV.load rfl rfl rfl (fun w' h' => (hW.trans h').cell hcga)) rfl rfl ?_
        | refine EP.f rfl (FV.move rfl) rfl rfl ?_
        | refine EP.f rfl (FV.idx0 rfl rfl rfl rfl (by omega) (by omega)) rfl rfl ?_
        | refine EP.f rfl (FV.idx1 rfl rfl rfl rfl (by omega) (by omega)) rfl rfl ?_)
      have ed52 := Ext.drew u51
      refine EP.h rfl rfl (Hv.call (specMul Ao Bga co cga _ _ u51.drew (hro2.ext ed52) ((hrga.ext hW).ext ed52) (by omega) (by omega)) rfl) rfl (fun _ => rfl) ?_
      rintro m52 um52 ⟨hm52, em52⟩
      have e52m := ed52.trans em52
      refine ⟨e52m, ?_⟩
      obtain ⟨Am52, cm52, rfl, hmr52⟩ := OwnI.form hm52
      refine EP.h rfl rfl (Hv.call (specAdd Ar52 Am52 cr52 cm52 _ _ um52 (hrd52.ext e52m) hmr52 (by rw [mulL_length]; omega) (by omega)) rfl) rfl (fun _ => rfl) ?_
      rintro v52 us52 ⟨hs52, es52⟩
      have e52s := e52m.trans es52
      refine ⟨e52s, ?_⟩
      repeat' (first
        | refine EP.f rfl (FV.idx0 rfl rfl rfl rfl (by omega) (by omega)) rfl rfl ?_)
      refine EP.last rfl rfl (by decide +kernel) (Hv.putRow rfl rfl (hO.ext e52s) (by omega) (RowB.own hs52)) rfl (fun _ => rfl) ?_
      rintro _ u52 ⟨hO52, hon52⟩
      replace hon52 := Only.then_ e52s hon52
      replace h5 := At.only h5 hon52 (hO.apart h5 (by decide))
      replace hown := RowB.onlyA hown hO hon52
      replace hW := Ext.only hW hon52 hO.lo
      clear hO
      have hO : OutA w.heap.size u52 g c t.code.length (putL (putL a x.a (mulL (a.getD m []) (regs.getD x.b.toNat []))) x.b (mulL (a.getD m []) (regs.getD x.a.toNat []))) := hO52
      clear hO52
      skip
      exact ⟨⟨rfl, rfl, rfl, rfl, rfl, rfl, trivial⟩, by unfold swStep; rw [if_neg o3, if_neg o4, if_pos o5]; exact hO, hW⟩
    by_cases o6 : x.op = 6
    · obtain ⟨⟨oa0, oa1⟩, ob0, ob1⟩ := okI_bin okk (by omega)
      have hO_good := hgood
      obtain ⟨lo, no⟩ := hgood m (by omega)
      obtain ⟨Ao, co, rfl, hro⟩ : ∃ A c, ownv = .slice A (a.getD m []).length c ∧ Rd w6 A (ints (a.getD m [])) := hown.rd
      obtain ⟨Bga, cga, hcga, hrga⟩ := hregs x.a.toNat (by omega)
      obtain ⟨lga, nga⟩ := hgr x.a.toNat (by omega)
      obtain ⟨Bgb, cgb, hcgb, hrgb⟩ := hregs x.b.toNat (by omega)
      obtain ⟨lgb, ngb⟩ := hgr x.b.toNat (by omega)
      obtain ⟨Bgi, cgi, hcgi, hrgi⟩ := hregs m (by omega)
      obtain ⟨lgi, ngi⟩ := hgr m (by omega)
      repeat' (first
        | (show EL _ _ _ _ (_ :: _) _ _
           first
           | (show EL _ _ _ _ (⟨_, .fieldAddr _ _ _, _, _, _, _⟩ :: _) _ _; refine EL.f (FV.fieldAddr rfl rfl rfl rfl rfl) rfl rfl ?_)
           | (show EL _ _ _ _ (⟨_, .load _ _, _, _, _, _⟩ :: _) _ _; first | refine EL.f (FV.load1 rfl rfl rfl (At.cell h5 rfl)) rfl rfl ?_ | refine EL.f (FV.load1 rfl rfl rfl (hW.cell hcgb)) rfl rfl ?_)
           | (show EL _ _ _ _ (⟨_, .move _, _, _, _, _⟩ :: _) _ _; refine EL.f (FV.move rfl) rfl rfl ?_)
           | (show EL _ _ _ _ (⟨_, .assign _, _, _, _, _⟩ :: _) _ _; refine EL.f (FV.assign rfl) rfl rfl ?_)
           | (show EL _ _ _ _ (⟨_, .binOp .eql _ _ _ _, _, _, _, _⟩ :: _) _ _; first | refine EL.fT (FV.eql rfl rfl) rfl (fun _ => rfl) (by omega) ?_ | refine EL.fF (FV.eql rfl rfl) rfl (fun _ => rfl) (by omega) ?_)
           | (show EL _ _ _ _ (⟨_, .indexAddr _ _ _, _, _, _, _⟩ :: _) _ _; refine EL.f (FV.idx1 rfl rfl rfl rfl (by omega) (by omega)) rfl rfl ?_))
        | refine EL.nil ?_
        | refine EW.seq ?_
        | refine EW.region ?_
        | refine EW.condT rfl ?_
        | refine EW.condF rfl ?_)
      refine EL.h (Hv.call (specDiv Ao Bgb co cgb _ _ w6 hro (hrgb.ext hW) (by omega) (by omega) (by omega) no) rfl) rfl (fun _ => rfl) ?_
      rintro shv usd ⟨hshd, esd⟩
      have hsh := RowB.own (B := w.heap.size) hshd
      obtain ⟨As, cs, rfl, hrs⟩ := OwnI.form hshd
      replace hW := hW.trans esd
      replace hO := hO.ext esd
      replace h5 := At.ext h5 esd
      replace hown := hown.ext esd
      have hls : (divL (a.getD m []) (regs.getD x.b.toNat [])).length = m1 + 1 := by rw [divL_length]; exact lo
      obtain ⟨Ar61, cr61, hcr61, _, hrd61⟩ := hO.get (i := x.a.toNat) (by omega)
      have lr61 := (hO_good x.a.toNat (by omega)).1
      repeat' (first
        | refine EL.f (FV.assign rfl) rfl rfl ?_
        | refine EL.nil ?_
        | refine EW.seq ?_)
      refine EW.draw (fun w' => Ext usd w') (pl 0 9 ++ [(9, false), (10, true), (11, false)]) mixed (by decide +kernel) (Ext.drew _) ?_
      repeat' (first
        | refine EP.f rfl (FV.fieldAddr rfl rfl rfl rfl rfl) rfl rfl ?_
        | refine EP.f rfl (FV.load rfl rfl rfl (fun w' h' => At.cell (At.ext h5 h') rfl)) rfl rfl ?_
        | refine EP.f rfl (FV.load rfl rfl rfl (fun w' h' => h'.cell hcr61)) rfl rfl ?_
        | refine EP.f rfl (FV.move rfl) rfl rfl ?_
        | refine EP.f rfl (FV.idx0 rfl rfl rfl rfl (by omega) (by omega)) rfl rfl ?_)
      have ed61 := Ext.drew usd
      refine EP.h rfl rfl (Hv.call (specAdd Ar61 As cr61 cs _ _ usd.drew (hrd61.ext ed61) (hrs.ext ed61) (by omega) (by omega)) rfl) rfl (fun _ => rfl) ?_
      rintro v61 us61 ⟨hs61, es61⟩
      have e61s := ed61.trans es61
      refine ⟨e61s, ?_⟩
      repeat' (first
        | refine EP.f rfl (FV.idx0 rfl rfl rfl rfl (by omega) (by omega)) rfl rfl ?_)
      refine EP.last rfl rfl (by decide +kernel) (Hv.putRow rfl rfl (hO.ext e61s) (by omega) (RowB.own hs61)) rfl (fun _ => rfl) ?_
      rintro _ u61 ⟨hO61, hon61⟩
      replace hon61 := Only.then_ e61s hon61
      replace h5 := At.only h5 hon61 (hO.apart h5 (by decide))
      replace hown := RowB.onlyA hown hO hon61
      replace hsh := RowB.onlyA hsh hO hon61
      replace hW := Ext.only hW hon61 hO.lo
      clear hO
      have hO : OutA w.heap.size u61 g c t.code.length (putL a x.a (divL (a.getD m []) (regs.getD x.b.toNat []))) := hO61
      clear hO61
      replace hO_good := putL_good hgood x.a (divL (a.getD m []) (regs.getD x.b.toNat []))
      obtain ⟨As2, cs2, es2, hrs2⟩ := hsh.rd
      injection es2 with es2 _ _
      subst es2
      obtain ⟨Ar62, cr62, hcr62, _, hrd62⟩ := hO.get (i := x.b.toNat) (by omega)
      have lr62 := (hO_good x.b.toNat (by rw [putL_length]; omega)).1
      skip
      refine EW.draw (fun w' => Ext u61 w') (pl 0 13 ++ [(13, false), (14, false), (15, true), (16, false)]) mixed (by decide +kernel) (Ext.drew _) ?_
      repeat' (first
        | refine EP.f rfl (FV.fieldAddr rfl rfl rfl rfl rfl) rfl rfl ?_
        | refine EP.f rfl (FV.load rfl rfl rfl (fun w' h' => At.cell (At.ext h5 h') rfl)) rfl rfl ?_
        | refine EP.f rfl (FV.load rfl rfl rfl (fun w' h' => h'.cell hcr62)) rfl rfl ?_
        | refine EP.f rfl (FV.load rfl rfl rfl (fun w' h' => (hW.trans h').cell hcgi)) rfl rfl ?_
        | refine EP.f rfl (FV.move rfl) rfl rfl ?_
        | refine EP.f rfl (FV.idx0 rfl rfl rfl rfl (by omega) (by omega)) rfl rfl ?_
        | refine EP.f rfl (FV.idx1 rfl rfl rfl rfl (by omega) (by omega)) rfl rfl ?_)
      have ed62 := Ext.drew u61
      refine EP.h rfl rfl (Hv.call (specMul As Bgi cs cgi _ _ u61.drew (hrs2.ext ed62) ((hrgi.ext hW).ext ed62) (by omega) (by omega)) rfl) rfl (fun _ => rfl) ?_
      rintro m62 um62 ⟨hm62, em62⟩
      have e62m := ed62.trans em62
      refine ⟨e62m, ?_⟩
      obtain ⟨Am62, cm62, rfl, hmr62⟩ := OwnI.form hm62
      refine EP.h rfl rfl (Hv.call (specSub Ar62 Am62 cr62 cm62 _ _ um62 (hrd62.ext e62m) hmr62 (by rw [mulL_length]; omega) (by omega) (by rw [mulL_length]; omega)) rfl) rfl (fun _ => rfl) ?_
      rintro v62 us62 ⟨hs62, es62⟩
      have e62s := e62m.trans es62
      refine ⟨e62s, ?_⟩
      repeat' (first
        | refine EP.f rfl (FV.idx0 rfl rfl rfl rfl (by omega) (by omega)) rfl rfl ?_)
      refine EP.last rfl rfl (by decide +kernel) (Hv.putRow rfl rfl (hO.ext e62s) (by omega) (RowB.own hs62)) rfl (fun _ => rfl) ?_
      rintro _ u62 ⟨hO62, hon62⟩
      replace hon62 := Only.then_ e62s hon62
      replace h5 := At.only h5 hon62 (hO.apart h5 (by decide))
      replace hown := RowB.onlyA hown hO hon62
      replace hsh := RowB.onlyA hsh hO hon62
      replace hW := Ext.only hW hon62 hO.lo
      clear hO
      have hO : OutA w.heap.size u62 g c t.code.length (putL (putL a x.a (divL (a.getD m []) (regs.getD x.b.toNat []))) x.b (scaleL (mulL (divL (a.getD m []) (regs.getD x.b.toNat [])) (regs.getD m [])) 1000002)) := hO62
      clear hO62
      skip
      exact ⟨⟨rfl, rfl, rfl, rfl, rfl, rfl, trivial⟩, by unfold swStep; rw [if_neg o3, if_neg o4, if_neg o5, if_pos o6]; exact hO, hW⟩
    by_cases o7 : x.op = 7
    · obtain ⟨oa0, oa1⟩ := okI_neg okk o7
      have hO_good := hgood
      obtain ⟨lo, no⟩ := hgood m (by omega)
      obtain ⟨Ao, co, rfl, hro⟩ : ∃ A c, ownv = .slice A (a.getD m []).length c ∧ Rd w6 A (ints (a.getD m [])) := hown.rd
      obtain ⟨Ar71, cr71, hcr71, _, hrd71⟩ := hO.get (i := x.a.toNat) (by omega)
      have lr71 := (hO_good x.a.toNat (by omega)).1
      repeat' (first
        | refine EL.f (FV.assign rfl) rfl rfl ?_
        | refine EL.fT (FV.eql rfl rfl) rfl (fun _ => rfl) (by omega) ?_
        | refine EL.fF (FV.eql rfl rfl) rfl (fun _ => rfl) (by omega) ?_
        | refine EL.nil ?_
        | refine EW.seq ?_
        | refine EW.region ?_
        | refine EW.condT rfl ?_
        | refine EW.condF rfl ?_)
      refine EW.draw (fun w' => Ext w6 w') (pl 0 9 ++ [(9, false), (10, true), (11, false)]) mixed (by decide +kernel) (Ext.drew _) ?_
      repeat' (first
        | refine EP.f rfl (FV.fieldAddr rfl rfl rfl rfl rfl) rfl rfl ?_
        | refine EP.f rfl (FV.load rfl rfl rfl (fun w' h' => At.cell (At.ext h5 h') rfl)) rfl rfl ?_
        | refine EP.f rfl (FV.load rfl rfl rfl (fun w' h' => h'.cell hcr71)) rfl rfl ?_
        | refine EP.f rfl (FV.move rfl) rfl rfl ?_
        | refine EP.f rfl (FV.idx0 rfl rfl rfl rfl (by omega) (by omega)) rfl rfl ?_)
      have ed71 := Ext.drew w6
      refine EP.h rfl rfl (Hv.call (specSub Ar71 Ao cr71 co _ _ w6.drew (hrd71.ext ed71) (hro.ext ed71) (by omega) (by omega) (by omega)) rfl) rfl (fun _ => rfl) ?_
      rintro v71 us71 ⟨hs71, es71⟩
      have e71s := ed71.trans es71
      refine ⟨e71s, ?_⟩
      repeat' (first
        | refine EP.f rfl (FV.idx0 rfl rfl rfl rfl (by omega) (by omega)) rfl rfl ?_)
      refine EP.last rfl rfl (by decide +kernel) (Hv.putRow rfl rfl (hO.ext e71s) (by omega) (RowB.own hs71)) rfl (fun _ => rfl) ?_
      rintro _ u71 ⟨hO71, hon71⟩
      replace hon71 := Only.then_ e71s hon71
      replace h5 := At.only h5 hon71 (hO.apart h5 (by decide))
      replace hown := RowB.onlyA hown hO hon71
      replace hW := Ext.only hW hon71 hO.lo
      clear hO
      have hO : OutA w.heap.size u71 g c t.code.length (putL a x.a (scaleL (a.getD m []) 1000002)) := hO71
      clear hO71
      skip
      exact ⟨⟨rfl, rfl, rfl, rfl, rfl, rfl, trivial⟩, by unfold swStep; rw [if_neg o3, if_neg o4, if_neg o5, if_neg o6, if_pos o7]; exact hO, hW⟩
    repeat' (first
      | refine EL.f (FV.assign rfl) rfl rfl ?_
      | refine EL.fF (FV.eql rfl rfl) rfl (fun _ => rfl) (by omega) ?_
      | refine EL.nil ?_
      | refine EW.seq ?_
      | refine EW.region ?_
      | refine EW.skip ?_
      | refine EW.condF rfl ?_)
    exact ⟨⟨rfl, rfl, rfl, rfl, rfl, rfl, trivial⟩, by unfold swStep; rw [if_neg o3, if_neg o4, if_neg o5, if_neg o6, if_neg o7]; exact hO, hW⟩
  · rintro ρ' w7 ⟨hsub, hO7, hW7⟩
    refine EW.weaken ?_ hsub
    repeat' (first
      | refine EL.f (FV.move rfl) rfl rfl ?_
      | refine EL.f (FV.assign rfl) rfl rfl ?_
      | refine EL.f (FV.subI rfl rfl (by omega)) rfl rfl ?_
      | refine EL.nil ?_
      | refine EW.region ?_)
    exact ⟨m, ⟨rfl, rfl, rfl, rfl, rfl, rfl, trivial⟩, ⟨by omega, by rw [hnext]; exact hO7, hW7⟩, by omega⟩
end Eng
end Go.Proofs.Ytfkohgfcchhlpaa
