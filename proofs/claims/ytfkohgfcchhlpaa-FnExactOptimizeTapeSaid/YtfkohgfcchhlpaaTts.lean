/- TrimTape in the reference; the contracts of both. Conditions: the lengths. -/
import Derived.Test.YtfkohgfcchhlpaaTti
namespace Go.Proofs.Ytfkohgfcchhlpaa
open Go Go.RowKit
namespace Eng
def fTrimTape (t : Tp) : Tp × Int := if okT t = true then (endT t (trimR t).1 (trimR t).2, 0) else (⟨0, [], [], []⟩, 1)
theorem fTrimTape_fit (t : Tp) (h : Fit t) : Fit (fTrimTape t).1 := by
  unfold fTrimTape
  split
  · exact ⟨by simp only [endT]; exact Nat.le_trans (trC_length t (nS t (need0 t) t.code.length) t.code.length).2 h.c, by simp only [endT, gdsTo_length]; exact h.g, by simp only [endT, outsTo, mapR_length]; exact h.o⟩
  · exact ⟨by simp, by simp, by simp⟩
set_option maxHeartbeats 16000000 in
theorem specTrim (b o : Nat) (t : Tp) (w : World) (h : TapeP w b o t) (hf : Fit t) (ok : okT t = true) :
    CallsR Try.prog 85 [.pointer (some ⟨b, o, none⟩)] w fun r w' => OwnT w.heap.size w' r (endT t (trimR t).1 (trimR t).2) ∧ Ext w w' := by
  have htp := h
  obtain ⟨P, p, Q, q, R, r, hb0, r1, r2, r3⟩ := h
  have okc := (okT_iff.1 ok).2.2.2.2.1
  have hcl := (okT_iff.1 ok).2.1
  have hgl := (okT_iff.1 ok).2.2.1
  have hol := (okT_iff.1 ok).2.2.2.1
  have hgu := (okT_iff.1 ok).2.2.2.2.2.1
  have hou := (okT_iff.1 ok).2.2.2.2.2.2
  refine CallsR.enterC Try.func85 (by decide +kernel) rfl Try.ntmps85 rfl rfl rfl rfl rfl ?_
  repeat' (first
    | refine EW.seq ?_
    | refine EW.region ?_)
  refine EL.h (Hv.allocA rfl rfl) rfl (fun _ => rfl) ?_
  rintro _ w2 ⟨g2, rfl, hg2, h2, he2⟩
  have l2 := At.lt h2
  have s2 := he2.size
  repeat' (first
    | (show EL _ _ _ _ (_ :: _) _ _
       first
       | (show EL _ _ _ _ (⟨_, .nilCheck _, _, _, _, _⟩ :: _) _ _; refine EL.f (FV.nilChk rfl) rfl rfl ?_)
       | (show EL _ _ _ _ (⟨_, .fieldAddr _ _ _, _, _, _, _⟩ :: _) _ _; refine EL.f (FV.fieldAddr rfl rfl rfl rfl rfl) rfl rfl ?_)
       | (show EL _ _ _ _ (⟨_, .load _ _, _, _, _, _⟩ :: _) _ _; refine EL.f (FV.load1 rfl rfl rfl ((hb0.ext he2) 1 _ rfl)) rfl rfl ?_)
       | (show EL _ _ _ _ (⟨_, .move _, _, _, _, _⟩ :: _) _ _; refine EL.f (FV.move rfl) rfl rfl ?_)
       | (show EL _ _ _ _ (⟨_, .call _, _, _, _, _⟩ :: _) _ _; refine EL.f (FV.len rfl rfl) rfl rfl ?_))
    | refine EL.nil ?_
    | refine EW.seq ?_
    | refine EW.region ?_)
  refine EL.h (Hv.make (kl := .i64) rfl rfl rfl rfl (by omega) (by omega)) rfl (fun _ => rfl) ?_
  rintro _ w3 ⟨g3, rfl, hg3, h3, he3⟩
  rw [madeBools] at h3
  have hw3 := he2.trans he3
  replace h2 := At.ext h2 he3
  have hg2w : w.heap.size ≤ g2 := by omega
  have hg3w : w.heap.size ≤ g3 := by omega
  have n23 : g2 ≠ g3 := by omega
  repeat' (first
    | refine EL.f (FV.assign rfl) rfl rfl ?_
    | refine EL.nil ?_
    | refine EW.seq ?_
    | refine EW.region ?_
    | refine EW.block ?_)
  refine EW.loop (fun k wr => k ≤ t.guards.length ∧ At wr 4 1 g3 t.code.length t.code.length (bools (markB (List.replicate t.code.length false) ((gregs t).take k))) ∧ At wr 32 4 g2 1 1 [.int .i64 0, .slice none 0 0, .slice none 0 0, .slice none 0 0] ∧ Ext w wr) (fun k => [(0, .pointer (some ⟨b, o, none⟩)), (2, .pointer (some ⟨g2, 0, none⟩)), (3, .slice (some ⟨g3, 0, none⟩) t.code.length t.code.length), (4, .int .i64 k)]) (fun k => t.guards.length - k) 0 ⟨Nat.zero_le _, h3, h2, hw3⟩ ⟨rfl, rfl, rfl, rfl, trivial⟩ ?_
  clear h3 h2 hw3
  rintro k wr ⟨hk, h3, h2, he⟩
  have hbr := hb0.ext he
  by_cases hlt : k < t.guards.length
  · obtain ⟨x1, p1, rfl, hp⟩ := Rd.elem gdV_length (by decide) dGd (r2.ext he) hlt
    have hk0 := hgu k hlt
    have hp0 := hp 0 _ rfl
    have hml : (markB (List.replicate t.code.length false) ((gregs t).take k)).length = t.code.length := by rw [markB_length, List.length_replicate]
    repeat' (first
      | (show EL _ _ _ _ (_ :: _) _ _
         first
         | (show EL _ _ _ _ (⟨_, .nilCheck _, _, _, _, _⟩ :: _) _ _; refine EL.f (FV.nilChk rfl) rfl rfl ?_)
         | (show EL _ _ _ _ (⟨_, .fieldAddr _ _ _, _, _, _, _⟩ :: _) _ _; refine EL.f (FV.fieldAddr rfl rfl rfl rfl rfl) rfl rfl ?_)
         | (show EL _ _ _ _ (⟨_, .indexAddr _ _ _, _, _, _, _⟩ :: _) _ _; refine EL.f (FV.idx rfl rfl rfl rfl (by omega) (by omega)) rfl rfl ?_)
         | (show EL _ _ _ _ (⟨_, .load _ _, _, _, _, _⟩ :: _) _ _; first | refine EL.f (FV.load1 rfl rfl rfl (hbr 2 _ rfl)) rfl rfl ?_ | refine EL.f (FV.load1 rfl rfl rfl hp0) rfl rfl ?_)
         | (show EL _ _ _ _ (⟨_, .move _, _, _, _, _⟩ :: _) _ _; refine EL.f (FV.move rfl) rfl rfl ?_)
         | (show EL _ _ _ _ (⟨_, .call _, _, _, _, _⟩ :: _) _ _; refine EL.f (FV.len rfl rfl) rfl rfl ?_)
         | (show EL _ _ _ _ (⟨_, .binOp .lss _ _ _ _, _, _, _, _⟩ :: _) _ _; refine EL.fT (FV.lss rfl rfl) rfl (fun _ => rfl) (by omega) ?_))
      | refine EL.nil ?_
      | refine EW.seq ?_
      | refine EW.region ?_
      | refine EW.block ?_
      | refine EW.skip ?_
      | refine EW.condT rfl ?_)
    refine EL.h (Hv.storeB rfl rfl h3 (by rw [hml]; omega)) rfl (fun _ => rfl) ?_
    rintro _ w4 ⟨h34, on4⟩
    rw [Nat.zero_add, Nat.mul_one] at h34
    repeat' (first
      | refine EL.f (FV.move rfl) rfl rfl ?_
      | refine EL.f (FV.assign rfl) rfl rfl ?_
      | refine EL.f (FV.addI rfl rfl (by omega)) rfl rfl ?_
      | refine EL.nil ?_
      | refine EW.region ?_)
    exact ⟨k + 1, ⟨rfl, rfl, rfl, rfl, trivial⟩, ⟨by omega, by rw [markB_take _ _ _ (by rw [gregs_length]; exact hlt), gregs_get]; exact h34, At.only h2 on4 (by simp; exact n23), Ext.only he on4 hg3w⟩, by omega⟩
  obtain rfl : k = t.guards.length := by omega
  rw [show (gregs t).take t.guards.length = gregs t from by rw [← gregs_length t, List.take_length]] at h3
  repeat' (first
    | (show EL _ _ _ _ (_ :: _) _ _
       first
       | (show EL _ _ _ _ (⟨_, .nilCheck _, _, _, _, _⟩ :: _) _ _; refine EL.f (FV.nilChk rfl) rfl rfl ?_)
       | (show EL _ _ _ _ (⟨_, .fieldAddr _ _ _, _, _, _, _⟩ :: _) _ _; refine EL.f (FV.fieldAddr rfl rfl rfl rfl rfl) rfl rfl ?_)
       | (show EL _ _ _ _ (⟨_, .load _ _, _, _, _, _⟩ :: _) _ _; refine EL.f (FV.load1 rfl rfl rfl (hbr 2 _ rfl)) rfl rfl ?_)
       | (show EL _ _ _ _ (⟨_, .move _, _, _, _, _⟩ :: _) _ _; refine EL.f (FV.move rfl) rfl rfl ?_)
       | (show EL _ _ _ _ (⟨_, .assign _, _, _, _, _⟩ :: _) _ _; refine EL.f (FV.assign rfl) rfl rfl ?_)
       | (show EL _ _ _ _ (⟨_, .call _, _, _, _, _⟩ :: _) _ _; refine EL.f (FV.len rfl rfl) rfl rfl ?_)
       | (show EL _ _ _ _ (⟨_, .binOp .lss _ _ _ _, _, _, _, _⟩ :: _) _ _; refine EL.fF (FV.lss rfl rfl) rfl (fun _ => rfl) (by omega) ?_))
    | refine EL.nil ?_
    | refine EW.seq ?_
    | refine EW.region ?_
    | refine EW.block ?_
    | refine EW.exit ?_
    | refine EW.condF rfl ?_)
  refine EW.loop (fun k wr => k ≤ t.outs.length ∧ At wr 4 1 g3 t.code.length t.code.length (bools (markB (markB (List.replicate t.code.length false) (gregs t)) (t.outs.take k))) ∧ At wr 32 4 g2 1 1 [.int .i64 0, .slice none 0 0, .slice none 0 0, .slice none 0 0] ∧ Ext w wr) (fun k => [(0, .pointer (some ⟨b, o, none⟩)), (2, .pointer (some ⟨g2, 0, none⟩)), (3, .slice (some ⟨g3, 0, none⟩) t.code.length t.code.length), (5, .int .i64 k)]) (fun k => t.outs.length - k) 0 ⟨Nat.zero_le _, h3, h2, he⟩ ⟨rfl, rfl, rfl, rfl, trivial⟩ ?_
  clear h3 h2 he hbr
  rintro k wr ⟨hk, h3, h2, he⟩
  have hbr := hb0.ext he
  by_cases hlt : k < t.outs.length
  · have hk0 := hou k hlt
    obtain ⟨b3, o3, rfl, hc3⟩ := (r3.ext he).int hlt
    have hml : (markB (markB (List.replicate t.code.length false) (gregs t)) (t.outs.take k)).length = t.code.length := by rw [markB_length, markB_length, List.length_replicate]
    repeat' (first
      | (show EL _ _ _ _ (_ :: _) _ _
         first
         | (show EL _ _ _ _ (⟨_, .nilCheck _, _, _, _, _⟩ :: _) _ _; refine EL.f (FV.nilChk rfl) rfl rfl ?_)
         | (show EL _ _ _ _ (⟨_, .fieldAddr _ _ _, _, _, _, _⟩ :: _) _ _; refine EL.f (FV.fieldAddr rfl rfl rfl rfl rfl) rfl rfl ?_)
         | (show EL _ _ _ _ (⟨_, .load _ _, _, _, _, _⟩ :: _) _ _; first | refine EL.f (FV.load1 rfl rfl rfl (hbr 3 _ rfl)) rfl rfl ?_ | refine EL.f (FV.load1 rfl rfl rfl hc3) rfl rfl ?_)
         | (show EL _ _ _ _ (⟨_, .move _, _, _, _, _⟩ :: _) _ _; refine EL.f (FV.move rfl) rfl rfl ?_)
         | (show EL _ _ _ _ (⟨_, .call _, _, _, _, _⟩ :: _) _ _; refine EL.f (FV.len rfl rfl) rfl rfl ?_)
         | (show EL _ _ _ _ (⟨_, .binOp .lss _ _ _ _, _, _, _, _⟩ :: _) _ _; refine EL.fT (FV.lss rfl rfl) rfl (fun _ => rfl) (by omega) ?_)
         | (show EL _ _ _ _ (⟨_, .indexAddr _ _ _, _, _, _, _⟩ :: _) _ _; first | refine EL.f (FV.idx0 rfl rfl rfl rfl (by omega) (by omega)) rfl rfl ?_ | refine EL.f (FV.idx1 rfl rfl rfl rfl (by omega) (by omega)) rfl rfl ?_))
      | refine EL.nil ?_
      | refine EW.seq ?_
      | refine EW.region ?_
      | refine EW.block ?_
      | refine EW.skip ?_
      | refine EW.condT rfl ?_)
    refine EL.h (Hv.storeB rfl rfl h3 (by rw [hml]; omega)) rfl (fun _ => rfl) ?_
    rintro _ w4 ⟨h34, on4⟩
    repeat' (first
      | refine EL.f (FV.move rfl) rfl rfl ?_
      | refine EL.f (FV.assign rfl) rfl rfl ?_
      | refine EL.f (FV.addI rfl rfl (by omega)) rfl rfl ?_
      | refine EL.nil ?_
      | refine EW.region ?_)
    exact ⟨k + 1, ⟨rfl, rfl, rfl, rfl, trivial⟩, ⟨by omega, by rw [markB_take _ _ _ hlt]; exact h34, At.only h2 on4 (by simp; exact n23), Ext.only he on4 hg3w⟩, by omega⟩
  obtain rfl : k = t.outs.length := by omega
  rw [List.take_length] at h3
  replace h3 : At wr 4 1 g3 t.code.length t.code.length (bools (need0 t)) := h3
  repeat' (first
    | (show EL _ _ _ _ (_ :: _) _ _
       first
       | (show EL _ _ _ _ (⟨_, .nilCheck _, _, _, _, _⟩ :: _) _ _; refine EL.f (FV.nilChk rfl) rfl rfl ?_)
       | (show EL _ _ _ _ (⟨_, .fieldAddr _ _ _, _, _, _, _⟩ :: _) _ _; refine EL.f (FV.fieldAddr rfl rfl rfl rfl rfl) rfl rfl ?_)
       | (show EL _ _ _ _ (⟨_, .load _ _, _, _, _, _⟩ :: _) _ _; refine EL.f (FV.load1 rfl rfl rfl (hbr 3 _ rfl)) rfl rfl ?_)
       | (show EL _ _ _ _ (⟨_, .move _, _, _, _, _⟩ :: _) _ _; refine EL.f (FV.move rfl) rfl rfl ?_)
       | (show EL _ _ _ _ (⟨_, .call _, _, _, _, _⟩ :: _) _ _; refine EL.f (FV.len rfl rfl) rfl rfl ?_)
       | (show EL _ _ _ _ (⟨_, .binOp .lss _ _ _ _, _, _, _, _⟩ :: _) _ _; refine EL.fF (FV.lss rfl rfl) rfl (fun _ => rfl) (by omega) ?_))
    | refine EL.nil ?_
    | refine EW.seq ?_
    | refine EW.region ?_
    | refine EW.exit ?_
    | refine EW.condF rfl ?_)
  refine EL.h (Hv.call (specNeeds b o t g3 (need0 t) w wr htp he hg3w okc hcl h3 (need0_length t)) rfl) rfl (fun _ => rfl) ?_
  rintro _ w5 ⟨rfl, h35, on5⟩
  replace h2 := At.only h2 on5 (by simp; exact n23)
  replace he := Ext.only he on5 hg3w
  clear h3 hbr
  have hbr := hb0.ext he
  have hndl : (nS t (need0 t) t.code.length).length = t.code.length := by rw [nS_length, need0_length]
  unfold trimR
  generalize nS t (need0 t) t.code.length = nd at *
  repeat' (first
    | (show EL _ _ _ _ (_ :: _) _ _
       first
       | (show EL _ _ _ _ (⟨_, .nilCheck _, _, _, _, _⟩ :: _) _ _; refine EL.f (FV.nilChk rfl) rfl rfl ?_)
       | (show EL _ _ _ _ (⟨_, .fieldAddr _ _ _, _, _, _, _⟩ :: _) _ _; refine EL.f (FV.fieldAddr rfl rfl rfl rfl rfl) rfl rfl ?_)
       | (show EL _ _ _ _ (⟨_, .load _ _, _, _, _, _⟩ :: _) _ _; refine EL.f (FV.load1 rfl rfl rfl (hbr 1 _ rfl)) rfl rfl ?_)
       | (show EL _ _ _ _ (⟨_, .move _, _, _, _, _⟩ :: _) _ _; refine EL.f (FV.move rfl) rfl rfl ?_)
       | (show EL _ _ _ _ (⟨_, .call _, _, _, _, _⟩ :: _) _ _; refine EL.f (FV.len rfl rfl) rfl rfl ?_))
    | refine EL.nil ?_
    | refine EW.seq ?_
    | refine EW.region ?_)
  refine EL.h (Hv.make (kl := .i64) rfl rfl rfl rfl (by omega) (by omega)) rfl (fun _ => rfl) ?_
  rintro _ w6 ⟨g7, rfl, hg7, h7, he6⟩
  rw [madeInts] at h7
  repeat' (first
    | refine EL.f (FV.assign rfl) rfl rfl ?_
    | refine EL.nil ?_
    | refine EW.seq ?_
    | refine EW.region ?_)
  refine EL.h (Hv.build0 rfl rfl) rfl (fun _ => rfl) ?_
  rintro s7 w7 ⟨hs7, he7⟩
  have e57 := he6.trans he7
  have z5 := he.size
  have z6 := he6.size
  have hg7w : w.heap.size ≤ g7 := by omega
  replace h7 := At.ext h7 he7
  replace h35 := At.ext h35 e57
  replace h2 := At.ext h2 e57
  replace he := he.trans e57
  repeat' (first
    | refine EL.f (FV.assign rfl) rfl rfl ?_
    | refine EL.nil ?_
    | refine EW.seq ?_
    | refine EW.region ?_
    | refine EW.block ?_)
  refine EW.loop (X := Nat × Value) (fun y wr => y.1 ≤ t.code.length ∧ wr.ownsRow w.heap.size 65 4 y.2 (trC t nd y.1).1.length (insL (trC t nd y.1).1) ∧ At wr 2 1 g7 t.code.length t.code.length (ints (trC t nd y.1).2) ∧ At wr 4 1 g3 t.code.length t.code.length (bools nd) ∧ At wr 32 4 g2 1 1 [.int .i64 0, .slice none 0 0, .slice none 0 0, .slice none 0 0] ∧ Ext w wr) (fun y => [(0, .pointer (some ⟨b, o, none⟩)), (2, .pointer (some ⟨g2, 0, none⟩)), (3, .slice (some ⟨g3, 0, none⟩) t.code.length t.code.length), (6, .slice (some ⟨g7, 0, none⟩) t.code.length t.code.length), (7, y.2), (8, .int .i64 y.1)]) (fun y => t.code.length - y.1) (0, s7) ⟨Nat.zero_le _, own_lower hs7 (by omega), h7, h35, h2, he⟩ ⟨rfl, rfl, rfl, rfl, rfl, rfl, trivial⟩ ?_
  clear hs7 h7 h35 h2 he he6 he7 hbr
  rintro ⟨k, s6⟩ wr ⟨hk, hs6, h7, h8, h2, he⟩
  dsimp only at *
  have hbr := hb0.ext he
  have htl := trC_length t nd k
  by_cases hlt : k < t.code.length
  rotate_left
  · obtain rfl : k = t.code.length := by omega
    have hends := specEnds b o t s6 (trC t nd t.code.length).1 (some ⟨g7, 0, none⟩) t.code.length (trC t nd t.code.length).2 w.heap.size wr hf hs6 he.size (At.rd h7) (fun i hi => by rw [htl.1]; exact hgu i hi) (fun i hi => by rw [htl.1]; exact hou i hi) (htp.ext he)
    rw [htl.1] at hends
    repeat' (first
      | (show EL _ _ _ _ (_ :: _) _ _
         first
         | (show EL _ _ _ _ (⟨_, .nilCheck _, _, _, _, _⟩ :: _) _ _; refine EL.f (FV.nilChk rfl) rfl rfl ?_)
         | (show EL _ _ _ _ (⟨_, .fieldAddr _ _ _, _, _, _, _⟩ :: _) _ _; refine EL.f (FV.fieldAddr rfl rfl rfl rfl rfl) rfl rfl ?_)
         | (show EL _ _ _ _ (⟨_, .load _ _, _, _, _, _⟩ :: _) _ _; refine EL.f (FV.load1 rfl rfl rfl (hbr 1 _ rfl)) rfl rfl ?_)
         | (show EL _ _ _ _ (⟨_, .move _, _, _, _, _⟩ :: _) _ _; refine EL.f (FV.move rfl) rfl rfl ?_)
         | (show EL _ _ _ _ (⟨_, .call _, _, _, _, _⟩ :: _) _ _; refine EL.f (FV.len rfl rfl) rfl rfl ?_)
         | (show EL _ _ _ _ (⟨_, .binOp .lss _ _ _ _, _, _, _, _⟩ :: _) _ _; refine EL.fF (FV.lss rfl rfl) rfl (fun _ => rfl) (by omega) ?_))
      | refine EL.nil ?_
      | refine EW.seq ?_
      | refine EW.region ?_
      | refine EW.exit ?_
      | refine EW.condF rfl ?_)
    refine EL.h (Hv.call hends rfl) rfl (fun _ => rfl) ?_
    rintro tv w8 ⟨hown, he8⟩
    have ones := OwnT.ones hown
    obtain ⟨a, b', c, e⟩ := OwnT.cells hown
    have one := ones _ _ _ e
    subst e
    replace h2 := At.ext h2 he8
    skip
    refine EL.h (Hv.storeAggG (vs := [.int .i64 (endT t (trC t nd t.code.length).1 (trC t nd t.code.length).2).inputs, a, b', c]) rfl rfl rfl rfl (fun v hv => by simp only [List.mem_cons, List.not_mem_nil, or_false] at hv; rcases hv with rfl | rfl | rfl | rfl; rfl; exact one.1; exact one.2.1; exact one.2.2) h2 (Nat.le_refl _)) rfl (fun _ => rfl) ?_
    rintro _ w9 ⟨h9, hr9⟩
    repeat' (first
      | refine EL.nil ?_
      | refine EW.ret ?_)
    exact ⟨g2, 0, [.int .i64 (endT t (trC t nd t.code.length).1 (trC t nd t.code.length).2).inputs, a, b', c], rfl, rfl, At.lies h9, OwnT.box hown h2 hr9, Below.wr (he.trans he8) hr9 hg2w (Nat.le_refl _)⟩
  obtain ⟨x1, p1, rfl, hp⟩ := Rd.elem insV_length (by decide) dIns r1 hlt
  have okk := okc k hlt
  have hop := okI_op okk
  have hneed := At.cell h8 (bools_get (k := k) (by rw [hndl]; exact hlt))
  cases hv8 : nd.getD k false
  · rw [hv8] at hneed
    have e : trC t nd (k + 1) = trC t nd k := by rw [trC, hv8, if_neg (by decide)]
    repeat' (first
      | (show EL _ _ _ _ (_ :: _) _ _
         first
         | (show EL _ _ _ _ (⟨_, .nilCheck _, _, _, _, _⟩ :: _) _ _; refine EL.f (FV.nilChk rfl) rfl rfl ?_)
         | (show EL _ _ _ _ (⟨_, .fieldAddr _ _ _, _, _, _, _⟩ :: _) _ _; refine EL.f (FV.fieldAddr rfl rfl rfl rfl rfl) rfl rfl ?_)
         | (show EL _ _ _ _ (⟨_, .load _ _, _, _, _, _⟩ :: _) _ _; first | refine EL.f (FV.load1 rfl rfl rfl (hbr 1 _ rfl)) rfl rfl ?_ | refine EL.f (FV.load1 rfl rfl rfl hneed) rfl rfl ?_)
         | (show EL _ _ _ _ (⟨_, .move _, _, _, _, _⟩ :: _) _ _; refine EL.f (FV.move rfl) rfl rfl ?_)
         | (show EL _ _ _ _ (⟨_, .assign _, _, _, _, _⟩ :: _) _ _; refine EL.f (FV.assign rfl) rfl rfl ?_)
         | (show EL _ _ _ _ (⟨_, .binOp .add _ _ _ _, _, _, _, _⟩ :: _) _ _; refine EL.f (FV.addI rfl rfl (by omega)) rfl rfl ?_)
         | (show EL _ _ _ _ (⟨_, .call _, _, _, _, _⟩ :: _) _ _; refine EL.f (FV.len rfl rfl) rfl rfl ?_)
         | (show EL _ _ _ _ (⟨_, .binOp .lss _ _ _ _, _, _, _, _⟩ :: _) _ _; refine EL.fT (FV.lss rfl rfl) rfl (fun _ => rfl) (by omega) ?_)
         | (show EL _ _ _ _ (⟨_, .indexAddr _ _ _, _, _, _, _⟩ :: _) _ _; refine EL.f (FV.idx0 rfl rfl rfl rfl (by omega) (by omega)) rfl rfl ?_))
      | refine EL.nil ?_
      | refine EW.seq ?_
      | refine EW.region ?_
      | refine EW.block ?_
      | refine EW.skip ?_
      | refine EW.condT rfl ?_
      | refine EW.condF rfl ?_)
    exact ⟨(k + 1, s6), ⟨rfl, rfl, rfl, rfl, rfl, rfl, trivial⟩, ⟨by dsimp only; omega, by rw [e]; exact hs6, by rw [e]; exact h7, h8, h2, he⟩, by dsimp only; omega⟩
  rw [hv8] at hneed
  have hnext : trC t nd (k + 1) = ((trC t nd k).1 ++ [mvI (t.code.getD k dIns) ((trC t nd k).2.set k ((trC t nd k).1.length : Int))], (trC t nd k).2.set k ((trC t nd k).1.length : Int)) := by rw [trC, hv8, if_pos rfl]
  generalize t.code.getD k dIns = x at *
  generalize (trC t nd k).1 = code at *
  generalize (trC t nd k).2 = to at *
  obtain ⟨A6, c6, rfl, hr6⟩ := own_form hs6
  repeat' (first
    | (show EL _ _ _ _ (_ :: _) _ _
       first
       | (show EL _ _ _ _ (⟨_, .nilCheck _, _, _, _, _⟩ :: _) _ _; refine EL.f (FV.nilChk rfl) rfl rfl ?_)
       | (show EL _ _ _ _ (⟨_, .fieldAddr _ _ _, _, _, _, _⟩ :: _) _ _; refine EL.f (FV.fieldAddr rfl rfl rfl rfl rfl) rfl rfl ?_)
       | (show EL _ _ _ _ (⟨_, .load _ _, _, _, _, _⟩ :: _) _ _; first | refine EL.f (FV.load1 rfl rfl rfl (hbr 1 _ rfl)) rfl rfl ?_ | refine EL.f (FV.load1 rfl rfl rfl hneed) rfl rfl ?_)
       | (show EL _ _ _ _ (⟨_, .move _, _, _, _, _⟩ :: _) _ _; refine EL.f (FV.move rfl) rfl rfl ?_)
       | (show EL _ _ _ _ (⟨_, .call _, _, _, _, _⟩ :: _) _ _; refine EL.f (FV.len rfl rfl) rfl rfl ?_)
       | (show EL _ _ _ _ (⟨_, .binOp .lss _ _ _ _, _, _, _, _⟩ :: _) _ _; refine EL.fT (FV.lss rfl rfl) rfl (fun _ => rfl) (by omega) ?_)
       | (show EL _ _ _ _ (⟨_, .indexAddr _ _ _, _, _, _, _⟩ :: _) _ _; refine EL.f (FV.idx0 rfl rfl rfl rfl (by omega) (by omega)) rfl rfl ?_))
    | refine EL.nil ?_
    | refine EW.seq ?_
    | refine EW.region ?_
    | refine EW.block ?_
    | refine EW.skip ?_
    | refine EW.condT rfl ?_)
  refine EL.h (Hv.storeG rfl rfl rfl rfl rfl h7 (ints_get (by omega))) rfl (fun _ => rfl) ?_
  rintro _ w8 ⟨h7', hr8⟩
  replace h7' : At w8 2 1 g7 t.code.length t.code.length (ints (to.set k (code.length : Int))) := by rw [ints_set]; exact h7'
  have n8 := At.ne h8 h7 (by decide)
  have n2 := At.ne h2 h7 (by decide)
  replace hs6 := own_far hs6 hr8 (own_ne hs6 (At.own h7 (Nat.le_refl _)) (by decide))
  replace h8 := At.kept h8 hr8 (by simp; exact n8)
  replace h2 := At.kept h2 hr8 (by simp; exact n2)
  have hw8 : Ext w w8 := Below.wr he hr8 hg7w (Nat.le_refl _)
  clear h7 hbr
  have hbr := hb0.ext hw8
  replace hp := hp.ext hw8
  repeat' (first
    | (show EL _ _ _ _ (_ :: _) _ _
       first
       | (show EL _ _ _ _ (⟨_, .nilCheck _, _, _, _, _⟩ :: _) _ _; refine EL.f (FV.nilChk rfl) rfl rfl ?_)
       | (show EL _ _ _ _ (⟨_, .fieldAddr _ _ _, _, _, _, _⟩ :: _) _ _; refine EL.f (FV.fieldAddr rfl rfl rfl rfl rfl) rfl rfl ?_)
       | (show EL _ _ _ _ (⟨_, .load _ _, _, _, _, _⟩ :: _) _ _; first | refine EL.f (FV.load1 rfl rfl rfl (hbr 1 _ rfl)) rfl rfl ?_ | refine EL.f (FV.loadAgg (cs := insV x) rfl rfl rfl rfl rfl (fun _ e => e ▸ hp)) rfl rfl ?_)
       | (show EL _ _ _ _ (⟨_, .indexAddr _ _ _, _, _, _, _⟩ :: _) _ _; refine EL.f (FV.idx rfl rfl rfl rfl (by omega) (by omega)) rfl rfl ?_)
       | (show EL _ _ _ _ (⟨_, .move _, _, _, _, _⟩ :: _) _ _; refine EL.f (FV.move rfl) rfl rfl ?_))
    | refine EL.nil ?_
    | refine EW.region ?_)
  have hsl : (to.set k (code.length : Int)).length = t.code.length := by rw [List.length_set]; exact htl.1
  have hmv := specMoved x (some ⟨g7, 0, none⟩) t.code.length (to.set k (code.length : Int)) w8 hop (At.rd h7') (fun h3 => by have := mv_reg okk h3; rw [hsl]; omega) (fun h3 => by have := (okI_bin okk (by omega)).2; rw [hsl]; omega)
  rw [hsl] at hmv
  refine EL.h (Hv.call hmv rfl) rfl (fun _ => rfl) ?_
  rintro _ w9 ⟨rfl, he9⟩
  skip
  refine EL.h (Hv.buildIns (y := mvI x (to.set k (code.length : Int))) rfl) rfl (fun _ => rfl) ?_
  rintro _ w10 ⟨gq, rfl, hq, hgq, he10⟩
  have e810 := he9.trans he10
  have he010 := hw8.trans e810
  replace hs6 := own_ext hs6 e810
  skip
  refine EL.h (Hv.appendG (B := w.heap.size) (us := insV (mvI x (to.set k (code.length : Int)))) rfl rfl rfl rfl rfl rfl hs6 (insV_length _) (fun j u hj => At.cell hq hj) (insV_one _) (by omega) (by omega) he010.size) rfl (fun _ => rfl) ?_
  rintro v11 w11 ⟨own11, gr11, bl11, _⟩
  have on11 := Only.one gr11
  repeat' (first
    | refine EL.f (FV.move rfl) rfl rfl ?_
    | refine EL.f (FV.assign rfl) rfl rfl ?_
    | refine EL.f (FV.addI rfl rfl (by omega)) rfl rfl ?_
    | refine EL.nil ?_
    | refine EW.region ?_)
  exact ⟨(k + 1, v11), ⟨rfl, rfl, rfl, rfl, rfl, rfl, trivial⟩, ⟨by dsimp only; omega, by rw [hnext, insL_snoc1]; simp only [List.length_append]; exact own11, by rw [hnext]; exact At.only (At.ext h7' e810) on11 (At.apartO (At.ext h7' e810) hs6 (by decide)), At.only (At.ext h8 e810) on11 (At.apartO (At.ext h8 e810) hs6 (by decide)), At.only (At.ext h2 e810) on11 (At.apartO (At.ext h2 e810) hs6 (by decide)), Ext.after he010 bl11⟩, by dsimp only; omega⟩
theorem implTrimTapeT (v : Value) (t : Tp) (w : World) (h : TapeV w v t) (hf : Fit t) : CallsR Try.prog 35 [v] w (TapOut w (fTrimTape t)) := by
  have hv := h
  obtain ⟨P, p, Q, q, R, r, rfl, r1, r2, r3⟩ := h
  refine CallsR.enterCT Try.func35 (by decide +kernel) rfl Try.ntmps35 rfl rfl rfl rfl rfl ?_
  repeat' (first
    | refine EW.seq ?_
    | refine EW.region ?_)
  refine EL.h (Hv.boxA (sz := 4) rfl rfl) rfl (fun _ => rfl) ?_
  rintro _ w1 ⟨g1, rfl, hg1, hb, he1⟩
  skip
  refine EL.h (Hv.allocA rfl rfl) rfl (fun _ => rfl) ?_
  rintro _ w2 ⟨g2, rfl, hg2, h2, he2⟩
  have s1 := he1.size
  have hw2 := he1.trans he2
  replace hb := At.ext hb he2
  repeat' (first
    | refine EL.f (FV.loadAgg (cs := [.int .i64 t.inputs, .slice P t.code.length p, .slice Q t.guards.length q, .slice R t.outs.length r]) rfl rfl rfl rfl rfl (fun _ e => e ▸ At.lies hb)) rfl rfl ?_
    | refine EL.f (FV.assign rfl) rfl rfl ?_
    | refine EL.nil ?_
    | refine EW.seq ?_
    | refine EW.region ?_)
  refine EL.h (Hv.call (implShorter _ t _ (fun t => endT t (trimR t).1 (trimR t).2) w2 (hv.ext hw2) hf (fun ok v' w' hv' => implTrimmed v' t w' hv' hf ok)) rfl) rfl (fun _ => rfl) ?_
  rintro _ w3 ⟨tv, rfl, hown, he3⟩
  replace h2 := At.ext h2 he3
  replace hown : OwnT w2.heap.size w3 tv (fTrimTape t).1 := hown
  have ones := OwnT.ones hown
  obtain ⟨a, b, c, e⟩ := OwnT.cells hown
  have one := ones _ _ _ e
  subst e
  repeat' (first
    | refine EL.f (FV.extract rfl rfl) rfl rfl ?_)
  refine EL.h (Hv.storeAggG (vs := [.int .i64 (fTrimTape t).1.inputs, a, b, c]) rfl rfl rfl rfl (fun v hv => by simp only [List.mem_cons, List.not_mem_nil, or_false] at hv; rcases hv with rfl | rfl | rfl | rfl; rfl; exact one.1; exact one.2.1; exact one.2.2) h2 (Nat.le_refl _)) rfl (fun _ => rfl) ?_
  rintro _ w5 ⟨h5, hr5⟩
  repeat' (first
    | refine EL.f (FV.assign rfl) rfl rfl ?_
    | refine EL.nil ?_
    | refine EW.ret ?_)
  exact ⟨g2, 0, [.int .i64 (fTrimTape t).1.inputs, a, b, c], _, rfl, rfl, At.lies h5, rfl, _, rfl, OwnT.lower (OwnT.box hown h2 hr5) hw2.size, Below.wr (hw2.trans he3) hr5 (by omega) (Nat.le_refl _)⟩
theorem specTrimTapeT (v : Value) (t : Tp) (w : World) (h : TapeV w v t) (hf : Fit t) : CallsR Try.prog 34 [v] w (TapOut w (fTrimTape t)) := by
  obtain ⟨P, p, Q, q, R, r, rfl, r1, r2, r3⟩ := h
  refine CallsR.enterCT Try.func34 (by decide +kernel) rfl Try.ntmps34 rfl rfl rfl rfl rfl ?_
  repeat' (first
    | refine EW.seq ?_
    | refine EW.region ?_)
  refine EL.h (Hv.boxA (sz := 4) rfl rfl) rfl (fun _ => rfl) ?_
  rintro _ w1 ⟨g1, rfl, hg1, hb, he1⟩
  have tp1 : TapeP w1 g1 0 t := ⟨P, p, Q, q, R, r, At.lies hb, r1.ext he1, r2.ext he1, r3.ext he1⟩
  skip
  refine EL.h (Hv.allocA rfl rfl) rfl (fun _ => rfl) ?_
  rintro _ w2 ⟨g2, rfl, hg2, h2, he2⟩
  have s1 := he1.size
  repeat' (first
    | refine EL.f (FV.assign rfl) rfl rfl ?_
    | refine EL.nil ?_
    | refine EW.seq ?_
    | refine EW.region ?_)
  refine EL.h (Hv.call (specOkT g1 0 t w2 (tp1.ext he2) hf) rfl) rfl (fun _ => rfl) ?_
  rintro _ w3 ⟨rfl, he3⟩
  have hw3 := (he1.trans he2).trans he3
  replace h2 := At.ext h2 he3
  unfold fTrimTape
  cases ok : okT t
  · repeat' (first
      | refine EL.f (FV.not rfl) rfl rfl ?_
      | refine EL.nil ?_
      | refine EL.f FV.buildT0 rfl rfl ?_
      | refine EW.seq ?_
      | refine EW.region ?_
      | refine EW.condT rfl ?_)
    refine EL.h (Hv.storeAggG (vs := [.int .i64 0, .slice none 0 0, .slice none 0 0, .slice none 0 0]) rfl rfl rfl rfl (fun v hv => by simp only [List.mem_cons, List.not_mem_nil, or_false] at hv; rcases hv with rfl | rfl | rfl | rfl <;> rfl) h2 (Nat.le_refl _)) rfl (fun _ => rfl) ?_
    rintro _ w4 ⟨h4, hr4⟩
    repeat' (first
      | refine EL.f (FV.assign rfl) rfl rfl ?_
      | refine EL.nil ?_
      | refine EW.ret ?_)
    exact ⟨g2, 0, [.int .i64 0, .slice none 0 0, .slice none 0 0, .slice none 0 0], _, rfl, rfl, At.lies h4, rfl, _, rfl, OwnT.empty _ _, Below.wr hw3 hr4 (by omega) (Nat.le_refl _)⟩
  · rw [if_pos rfl]
    repeat' (first
      | refine EL.f (FV.not rfl) rfl rfl ?_
      | refine EL.nil ?_
      | refine EW.seq ?_
      | refine EW.region ?_
      | refine EW.skip ?_
      | refine EW.condF rfl ?_)
    refine EL.h (Hv.call (specTrim g1 0 t w3 ((tp1.ext he2).ext he3) hf ok) rfl) rfl (fun _ => rfl) ?_
    rintro tv w4 ⟨hown, he4⟩
    have ones := OwnT.ones hown
    obtain ⟨a, b, c, e⟩ := OwnT.cells hown
    have one := ones _ _ _ e
    subst e
    replace h2 := At.ext h2 he4
    skip
    refine EL.h (Hv.storeAggG (vs := [.int .i64 (endT t (trimR t).1 (trimR t).2).inputs, a, b, c]) rfl rfl rfl rfl (fun v hv => by simp only [List.mem_cons, List.not_mem_nil, or_false] at hv; rcases hv with rfl | rfl | rfl | rfl; rfl; exact one.1; exact one.2.1; exact one.2.2) h2 (Nat.le_refl _)) rfl (fun _ => rfl) ?_
    rintro _ w5 ⟨h5, hr5⟩
    repeat' (first
      | refine EL.f (FV.assign rfl) rfl rfl ?_
      | refine EL.nil ?_
      | refine EW.ret ?_)
    exact ⟨g2, 0, [.int .i64 (endT t (trimR t).1 (trimR t).2).inputs, a, b, c], _, rfl, rfl, At.lies h5, rfl, _, rfl, OwnT.lower (OwnT.box hown h2 hr5) hw3.size, Below.wr (hw3.trans he4) hr5 (by omega) (Nat.le_refl _)⟩
end Eng
end Go.Proofs.Ytfkohgfcchhlpaa
