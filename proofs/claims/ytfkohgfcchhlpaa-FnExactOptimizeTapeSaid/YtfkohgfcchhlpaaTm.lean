/- The guards and the outputs of a tape moved to other registers, in the program and in the reference. Conditions: as each says. -/
import Derived.Test.YtfkohgfcchhlpaaTl
namespace Go.Proofs.Ytfkohgfcchhlpaa
open Go Go.RowKit
namespace Eng
def gdTo (to : List Int) (g : Gd) : Gd := ⟨to.getD g.reg.toNat 0, g.zero⟩
def gdsTo (t : Tp) (to : List Int) (k : Nat) : List Gd := (List.range k).map fun i => gdTo to (t.guards.getD i dGd)
def outsTo (t : Tp) (to : List Int) (k : Nat) : List Int := mapR (fun i => to.getD (t.outs.getD i 0).toNat 0) k
theorem gdsTo_length (t : Tp) (to : List Int) (k : Nat) : (gdsTo t to k).length = k := by simp [gdsTo]
theorem gdsTo_succ (t : Tp) (to : List Int) (k : Nat) : gdsTo t to (k + 1) = gdsTo t to k ++ [gdTo to (t.guards.getD k dGd)] := by simp [gdsTo, List.range_succ]
theorem gdL_snoc (xs : List Gd) (x : Gd) : gdL (xs ++ [x]) = gdL xs ++ gdV x := by simp [gdL]
/-- A tape with other code, its ends moved. -/
def endT (t : Tp) (code : List Ins) (to : List Int) : Tp := ⟨t.inputs, code, gdsTo t to t.guards.length, outsTo t to t.outs.length⟩
theorem Ext.onlyO {w a b : World} {s : Value} {e sz n : Nat} {cs : List Value} (h : Ext w a) (ho : a.ownsRow w.heap.size e sz s n cs) (k : Only [s.ownBlock] a b) : Ext w b := Only.after h k fun j hj => (own_block ho (by simpa using (List.mem_singleton.1 hj).symm)).1
theorem Only.weakO {a b : World} {x : Option Nat} (h : Ext a b) : Only [x] a b := (Only.ext h).mono fun y hy => by cases hy
theorem Only.foreO {a b c : World} {x : Option Nat} (h : Only [x] a b) (k : Ext b c) : Only [x] a c := (h.trans (Only.ext k)).mono fun y hy => by simpa using hy
theorem Only.thenO {a b c : World} {x : Option Nat} (h : Ext a b) (k : Only [x] b c) : Only [x] a c := ((Only.ext h).trans k).mono fun y hy => by simpa using hy
theorem own_box {w w' : World} {B e e' sz sz' n n' c g : Nat} {v : Value} {cs ds : List Value} (ho : w.ownsRow B e sz v n cs) (hat : At w e' sz' g n' c ds) (hne : e ≠ e') (hg : w.grownBy w' (some g)) : w'.ownsRow B e sz v n cs := own_far ho hg (own_ne ho (At.own hat (Nat.le_refl _)) hne)
theorem own_one {w : World} {B e sz n : Nat} {v : Value} {cs : List Value} (h : w.ownsRow B e sz v n cs) : v.oneCell' = true ∧ v.cells = #[v] := by
  obtain ⟨A0, c0, rfl, _⟩ := own_form h
  exact ⟨rfl, rfl⟩
theorem At.apartO {w : World} {e e' sz sz' g n n' c B : Nat} {cs ds : List Value} {s : Value} (h : At w e sz g n c cs) (ho : w.ownsRow B e' sz' s n' ds) (hne : e ≠ e') : some g ∉ [s.ownBlock] := by
  intro hm
  have hm : some g = s.ownBlock := by simpa using hm
  rcases own_ne (At.own h (Nat.le_refl _)) ho hne with q | q
  · cases q
  · exact q hm
set_option maxHeartbeats 16000000 in
theorem implEnded (v : Value) (t : Tp) (cv : Value) (code : List Ins) (A : Option Addr) (c : Nat) (to : List Int) (B : Nat) (w : World) (hf : Fit t) (hcode : w.ownsRow B 65 4 cv code.length (insL code)) (hB : B ≤ w.heap.size) (hto : Rd w A (ints to))
    (hgu : ∀ i, i < t.guards.length → 0 ≤ (t.guards.getD i dGd).reg ∧ (t.guards.getD i dGd).reg < to.length) (hou : ∀ i, i < t.outs.length → 0 ≤ t.outs.getD i 0 ∧ t.outs.getD i 0 < to.length) (h : TapeV w v t) :
    CallsR Try.prog 128 [v, cv, .slice A to.length c] w fun r w' => OwnT B w' r (endT t code to) ∧ Ext w w' := by
  obtain ⟨P, p, Q, q, R, r, rfl, r1, r2, r3⟩ := h
  have ng := hf.g
  have no := hf.o
  have one1 := own_one hcode
  refine CallsR.enterC Try.func128 (by decide +kernel) rfl Try.ntmps128 rfl rfl rfl rfl rfl ?_
  repeat' (first
    | refine EW.seq ?_
    | refine EW.region ?_)
  refine EL.h (Hv.boxA (sz := 4) rfl rfl) rfl (fun _ => rfl) ?_
  rintro _ w1 ⟨g1, rfl, hg1, hb, he1⟩
  have l1 := At.lt hb
  skip
  refine EL.h (Hv.allocA rfl rfl) rfl (fun _ => rfl) ?_
  rintro _ w2 ⟨g2, rfl, hg2, h2, he2⟩
  have l2 := At.lt h2
  have s2 := he2.size
  have s1 := he1.size
  replace hb := At.ext hb he2
  have hw2 := he1.trans he2
  repeat' (first
    | (show EL _ _ _ _ (_ :: _) _ _
       first
       | (show EL _ _ _ _ (⟨_, .fieldAddr _ _ _, _, _, _, _⟩ :: _) _ _; refine EL.f (FV.fieldAddr rfl rfl rfl rfl rfl) rfl rfl ?_)
       | (show EL _ _ _ _ (⟨_, .load _ _, _, _, _, _⟩ :: _) _ _; refine EL.f (FV.load1 rfl rfl rfl (At.cell hb rfl)) rfl rfl ?_)
       | (show EL _ _ _ _ (⟨_, .build _ _, _, _, _, _⟩ :: _) _ _; refine EL.f (FV.buildT2 rfl rfl rfl one1.2) rfl rfl ?_)
       | (show EL _ _ _ _ (⟨_, .move _, _, _, _, _⟩ :: _) _ _; refine EL.f (FV.move rfl) rfl rfl ?_))
    | refine EL.nil ?_
    | refine EW.seq ?_
    | refine EW.region ?_)
  refine EL.h (Hv.allocA rfl rfl) rfl (fun _ => rfl) ?_
  rintro _ w3 ⟨g7, rfl, hg7, h7, he3⟩
  skip
  refine EL.h (Hv.storeAggG (vs := [.int .i64 t.inputs, cv, .slice none 0 0, .slice none 0 0]) rfl rfl rfl rfl (fun v hv => by simp only [List.mem_cons, List.not_mem_nil, or_false] at hv; rcases hv with rfl | rfl | rfl | rfl; rfl; exact one1.1; rfl; rfl) h7 (Nat.le_refl _)) rfl (fun _ => rfl) ?_
  rintro _ w4 ⟨h7', hr4⟩
  clear h7
  have h7 : At w4 32 4 g7 1 1 [.int .i64 t.inputs, cv, .slice none 0 0, .slice none 0 0] := h7'
  clear h7'
  have e24 : Ext w2 w4 := Below.wr he3 hr4 (by omega) (Nat.le_refl _)
  have hw4 := hw2.trans e24
  replace h2 := At.ext h2 e24
  have n2 : g2 ≠ g7 := by omega
  have hgw : w.heap.size ≤ g7 := by omega
  have hgw2 : w.heap.size ≤ g2 := by omega
  replace hb := At.ext hb e24
  have n1 : g1 ≠ g7 := by omega
  repeat' (first
    | (show EL _ _ _ _ (_ :: _) _ _
       first
       | (show EL _ _ _ _ (⟨_, .fieldAddr _ _ _, _, _, _, _⟩ :: _) _ _; refine EL.f (FV.fieldAddr rfl rfl rfl rfl rfl) rfl rfl ?_)
       | (show EL _ _ _ _ (⟨_, .load _ _, _, _, _, _⟩ :: _) _ _; refine EL.f (FV.load1 rfl rfl rfl (At.cell hb rfl)) rfl rfl ?_)
       | (show EL _ _ _ _ (⟨_, .move _, _, _, _, _⟩ :: _) _ _; refine EL.f (FV.move rfl) rfl rfl ?_)
       | (show EL _ _ _ _ (⟨_, .call _, _, _, _, _⟩ :: _) _ _; refine EL.f (FV.len rfl rfl) rfl rfl ?_))
    | refine EL.nil ?_
    | refine EW.seq ?_
    | refine EW.region ?_
    | refine EW.block ?_)
  refine EW.loop (X := Nat × Value) (fun y wr => y.1 ≤ t.guards.length ∧ wr.ownsRow w.heap.size 67 2 y.2 y.1 (gdL (gdsTo t to y.1)) ∧ At wr 32 4 g7 1 1 [.int .i64 t.inputs, cv, y.2, .slice none 0 0] ∧ At wr 32 4 g1 1 1 [.int .i64 t.inputs, .slice P t.code.length p, .slice Q t.guards.length q, .slice R t.outs.length r] ∧ (∃ zs, At wr 32 4 g2 1 1 zs) ∧ Ext w wr) (fun y => [(2, .slice A to.length c), (3, .pointer (some ⟨g1, 0, none⟩)), (6, .pointer (some ⟨g2, 0, none⟩)), (7, .pointer (some ⟨g7, 0, none⟩)), (17, .slice Q t.guards.length q), (18, .int .i64 t.guards.length), (19, .int .i64 y.1)]) (fun y => t.guards.length - y.1) (0, .slice none 0 0) ⟨Nat.zero_le _, ⟨rfl, .inl ⟨rfl, rfl⟩⟩, h7, hb, ⟨_, h2⟩, hw4⟩ ⟨rfl, rfl, rfl, rfl, rfl, rfl, rfl, trivial⟩ ?_
  clear h7 h2 hw4
  rintro ⟨k, s⟩ wr ⟨hk, hown, h7, hb, ⟨zs, h2⟩, he⟩
  dsimp only at *
  by_cases hlt : k < t.guards.length
  · obtain ⟨x1, p1, rfl, hp⟩ := Rd.elem gdV_length (by decide) dGd (r2.ext he) hlt
    have hk0 := hgu k hlt
    obtain ⟨bt, ot, rfl, hct⟩ := hto.int (show (t.guards.getD k dGd).reg.toNat < to.length by omega)
    have hownr := hown
    repeat' (first
      | refine EL.f (FV.idx rfl rfl rfl rfl (by omega) (by omega)) rfl rfl ?_
      | refine EL.f (FV.loadAgg (cs := gdV (t.guards.getD k dGd)) rfl rfl rfl rfl rfl (fun _ e => hp.ext (e ▸ Ext.refl _))) rfl rfl ?_
      | refine EL.fT (FV.lss rfl rfl) rfl (fun _ => rfl) (by omega) ?_
      | refine EL.nil ?_
      | refine EW.seq ?_
      | refine EW.region ?_
      | refine EW.block ?_
      | refine EW.skip ?_
      | refine EW.condT rfl ?_)
    refine EL.h (Hv.allocA rfl rfl) rfl (fun _ => rfl) ?_
    rintro _ w5 ⟨g5, rfl, hg5, h5, he5⟩
    skip
    refine EL.h (Hv.storeAggG (vs := gdV (t.guards.getD k dGd)) rfl rfl rfl rfl (gdV_one _) h5 (Nat.le_refl _)) rfl (fun _ => rfl) ?_
    rintro _ w6 ⟨h5', hr6⟩
    have hw6 : Ext wr w6 := Below.wr he5 hr6 (by omega) (Nat.le_refl _)
    have h5 : At w6 67 2 g5 1 1 (gdV (t.guards.getD k dGd)) := h5'
    clear h5'
    replace h7 := At.ext h7 hw6
    replace hb := At.ext hb hw6
    replace h2 := At.ext h2 hw6
    replace hown := own_ext hown hw6
    have he6 := he.trans hw6
    have ap5 : some g5 ∉ [s.ownBlock] := by intro hm; have := (own_block hownr (k := g5) (List.mem_singleton.1 hm).symm).2; omega
    repeat' (first
      | refine EL.nil ?_)
    have ap7 := At.apartO h7 hown (by decide)
    have ap2 := At.apartO h2 hown (by decide)
    have apb := At.apartO hb hown (by decide)
    refine EW.draw (fun w' => Only [s.ownBlock] w6 w') (pl 0 10 ++ [(10, false), (11, false), (12, true), (13, false)]) mixed (by decide +kernel) (Only.weakO (Ext.drew _)) ?_
    repeat' (first
      | refine EP.f rfl (FV.fieldAddr rfl rfl rfl rfl rfl) rfl rfl ?_
      | refine EP.f rfl (FV.load rfl rfl rfl (fun w' h' => At.cell (At.only h7 h' ap7) rfl)) rfl rfl ?_
      | refine EP.f rfl (FV.load rfl rfl rfl (fun w' h' => At.cell (At.only h5 h' ap5) rfl)) rfl rfl ?_
      | refine EP.f rfl (FV.load rfl rfl rfl (fun w' h' => (Ext.onlyO he6 hown h').cell hct)) rfl rfl ?_
      | refine EP.f rfl (FV.buildG rfl rfl rfl rfl) rfl rfl ?_
      | refine EP.f rfl (FV.move rfl) rfl rfl ?_
      | refine EP.f rfl (FV.idx1 rfl rfl rfl rfl (by omega) (by omega)) rfl rfl ?_)
    have ed := Ext.drew w6
    refine EP.h rfl rfl (Hv.buildGds (y := gdTo to (t.guards.getD k dGd)) rfl) rfl (fun _ => rfl) ?_
    rintro _ u1 ⟨gq, rfl, hq, hgq, fe1⟩
    have e1 := ed.trans fe1
    refine ⟨Only.weakO e1, ?_⟩
    refine EP.h rfl rfl (Hv.appendG (B := w.heap.size) (us := gdV (gdTo to (t.guards.getD k dGd))) rfl rfl rfl rfl rfl rfl (own_ext hown e1) (gdV_length _) (fun j u hj => At.cell hq hj) (gdV_one _) (by omega) (by omega) (he6.trans e1).size) rfl (fun _ => rfl) ?_
    rintro v2 u2 ⟨own2, gr2, bl2, at2⟩
    have on2 := Only.thenO e1 (Only.one gr2)
    refine ⟨on2, ?_⟩
    have h72 := At.only h7 on2 ap7
    repeat' (first
      | refine EP.f rfl (FV.fieldAddr rfl rfl rfl rfl rfl) rfl rfl ?_)
    have one2 := own_one own2
    refine EP.last rfl rfl (by decide +kernel) (Hv.storeG rfl rfl rfl one2.1 one2.2 h72 rfl) rfl (fun _ => rfl) ?_
    rintro _ u3 ⟨h73, hr3⟩
    repeat' (first
      | refine EL.f (FV.move rfl) rfl rfl ?_
      | refine EL.f (FV.addI rfl rfl (by omega)) rfl rfl ?_
      | refine EL.nil ?_
      | refine EW.region ?_)
    exact ⟨(k + 1, v2), ⟨rfl, rfl, rfl, rfl, rfl, rfl, rfl, trivial⟩, ⟨by dsimp only; omega, by rw [gdsTo_succ, gdL_snoc]; exact own_box own2 h72 (by decide) hr3, h73, At.kept (At.only hb on2 apb) hr3 (by simp; exact n1), ⟨_, At.kept (At.only h2 on2 ap2) hr3 (by simp; exact n2)⟩, Below.wr (Ext.onlyO he6 hown on2) hr3 hgw (Nat.le_refl _)⟩, by dsimp only; omega⟩
  obtain rfl : k = t.guards.length := by omega
  repeat' (first
    | (show EL _ _ _ _ (_ :: _) _ _
       first
       | (show EL _ _ _ _ (⟨_, .fieldAddr _ _ _, _, _, _, _⟩ :: _) _ _; refine EL.f (FV.fieldAddr rfl rfl rfl rfl rfl) rfl rfl ?_)
       | (show EL _ _ _ _ (⟨_, .load _ _, _, _, _, _⟩ :: _) _ _; refine EL.f (FV.load1 rfl rfl rfl (At.cell hb rfl)) rfl rfl ?_)
       | (show EL _ _ _ _ (⟨_, .move _, _, _, _, _⟩ :: _) _ _; refine EL.f (FV.move rfl) rfl rfl ?_)
       | (show EL _ _ _ _ (⟨_, .call _, _, _, _, _⟩ :: _) _ _; refine EL.f (FV.len rfl rfl) rfl rfl ?_)
       | (show EL _ _ _ _ (⟨_, .binOp .lss _ _ _ _, _, _, _, _⟩ :: _) _ _; refine EL.fF (FV.lss rfl rfl) rfl (fun _ => rfl) (by omega) ?_))
    | refine EL.nil ?_
    | refine EW.seq ?_
    | refine EW.region ?_
    | refine EW.block ?_
    | refine EW.exit ?_
    | refine EW.condF rfl ?_)
  refine EW.loop (X := Nat × Value) (fun y wr => y.1 ≤ t.outs.length ∧ OwnI w.heap.size wr y.2 (outsTo t to y.1) ∧ wr.ownsRow w.heap.size 67 2 s t.guards.length (gdL (gdsTo t to t.guards.length)) ∧ At wr 32 4 g7 1 1 [.int .i64 t.inputs, cv, s, y.2] ∧ At wr 32 4 g1 1 1 [.int .i64 t.inputs, .slice P t.code.length p, .slice Q t.guards.length q, .slice R t.outs.length r] ∧ (∃ zs, At wr 32 4 g2 1 1 zs) ∧ Ext w wr) (fun y => [(2, .slice A to.length c), (3, .pointer (some ⟨g1, 0, none⟩)), (6, .pointer (some ⟨g2, 0, none⟩)), (7, .pointer (some ⟨g7, 0, none⟩)), (38, .slice R t.outs.length r), (39, .int .i64 t.outs.length), (40, .int .i64 y.1)]) (fun y => t.outs.length - y.1) (0, .slice none 0 0) ⟨Nat.zero_le _, OwnI.none _ _, hown, h7, hb, ⟨_, h2⟩, he⟩ ⟨rfl, rfl, rfl, rfl, rfl, rfl, rfl, trivial⟩ ?_
  clear hown h7 h2 he zs
  rintro ⟨k, so⟩ wr ⟨hk, hout, hown, h7, hb, ⟨zs, h2⟩, he⟩
  dsimp only at *
  have one3 := own_one hown
  have one4 := own_one hout
  by_cases hlt : k < t.outs.length
  · have hk0 := hou k hlt
    obtain ⟨bt, ot, rfl, hct⟩ := hto.int (show (t.outs.getD k 0).toNat < to.length by omega)
    obtain ⟨b3, o3, rfl, hc3⟩ := r3.int hlt
    have hrow := mapR_row hout
    have ap7 := At.apartO h7 hrow (by decide)
    have ap2 := At.apartO h2 hrow (by decide)
    have apb := At.apartO hb hrow (by decide)
    repeat' (first
      | (show EL _ _ _ _ (_ :: _) _ _
         first
         | (show EL _ _ _ _ (⟨_, .load _ _, _, _, _, _⟩ :: _) _ _; refine EL.f (FV.load1 rfl rfl rfl (he.cell hc3)) rfl rfl ?_)
         | (show EL _ _ _ _ (⟨_, .assign _, _, _, _, _⟩ :: _) _ _; refine EL.f (FV.assign rfl) rfl rfl ?_)
         | (show EL _ _ _ _ (⟨_, .binOp .lss _ _ _ _, _, _, _, _⟩ :: _) _ _; refine EL.fT (FV.lss rfl rfl) rfl (fun _ => rfl) (by omega) ?_)
         | (show EL _ _ _ _ (⟨_, .indexAddr _ _ _, _, _, _, _⟩ :: _) _ _; refine EL.f (FV.idx1 rfl rfl rfl rfl (by omega) (by omega)) rfl rfl ?_))
      | refine EL.nil ?_
      | refine EW.seq ?_
      | refine EW.region ?_
      | refine EW.block ?_
      | refine EW.skip ?_
      | refine EW.condT rfl ?_)
    refine EW.draw (fun w' => Only [so.ownBlock] wr w') (pl 0 6 ++ [(6, false), (7, false), (8, true), (9, false)]) mixed (by decide +kernel) (Only.weakO (Ext.drew _)) ?_
    repeat' (first
      | refine EP.f rfl (FV.fieldAddr rfl rfl rfl rfl rfl) rfl rfl ?_
      | refine EP.f rfl (FV.load rfl rfl rfl (fun w' h' => At.cell (At.only h7 h' ap7) rfl)) rfl rfl ?_
      | refine EP.f rfl (FV.load rfl rfl rfl (fun w' h' => (Ext.onlyO he hrow h').cell hct)) rfl rfl ?_
      | refine EP.f rfl (FV.move rfl) rfl rfl ?_
      | refine EP.f rfl (FV.idx1 rfl rfl rfl rfl (by omega) (by omega)) rfl rfl ?_)
    have ed := Ext.drew wr
    refine EP.h rfl rfl (Hv.build1A rfl rfl rfl rfl) rfl (fun _ => rfl) ?_
    rintro _ u1 ⟨gq, rfl, hq, hgq, fe1⟩
    have e1 := ed.trans fe1
    refine ⟨Only.weakO e1, ?_⟩
    refine EP.h rfl rfl (Hv.appendG (B := w.heap.size) (us := [.int .i64 (to.getD (t.outs.getD k 0).toNat 0)]) rfl rfl rfl rfl rfl rfl (own_ext hrow e1) rfl (fun j u hj => At.cell hq hj) (fun u hu => by simp at hu; subst hu; rfl) (by omega) (by omega) (he.trans e1).size) rfl (fun _ => rfl) ?_
    rintro v2 u2 ⟨own2, gr2, bl2, at2⟩
    have on2 := Only.thenO e1 (Only.one gr2)
    refine ⟨on2, ?_⟩
    have h72 := At.only h7 on2 ap7
    have own3 : OwnI w.heap.size u2 v2 (outsTo t to (k + 1)) := mapR_push own2
    have hg2 := own_far (own_ext hown e1) gr2 (own_ne (own_ext hown e1) (own_ext hrow e1) (by decide))
    repeat' (first
      | refine EP.f rfl (FV.fieldAddr rfl rfl rfl rfl rfl) rfl rfl ?_)
    have one2 := own_one own2
    refine EP.last rfl rfl (by decide +kernel) (Hv.storeG rfl rfl rfl one2.1 one2.2 h72 rfl) rfl (fun _ => rfl) ?_
    rintro _ u3 ⟨h73, hr3⟩
    repeat' (first
      | refine EL.f (FV.move rfl) rfl rfl ?_
      | refine EL.f (FV.addI rfl rfl (by omega)) rfl rfl ?_
      | refine EL.nil ?_
      | refine EW.region ?_)
    exact ⟨(k + 1, v2), ⟨rfl, rfl, rfl, rfl, rfl, rfl, rfl, trivial⟩, ⟨by dsimp only; omega, own_box own3 h72 (by decide) hr3, own_box hg2 h72 (by decide) hr3, h73, At.kept (At.only hb on2 apb) hr3 (by simp; exact n1), ⟨_, At.kept (At.only h2 on2 ap2) hr3 (by simp; exact n2)⟩, Below.wr (Ext.onlyO he hrow on2) hr3 hgw (Nat.le_refl _)⟩, by dsimp only; omega⟩
  obtain rfl : k = t.outs.length := by omega
  repeat' (first
    | refine EL.f (FV.loadAgg (cs := [.int .i64 t.inputs, cv, s, so]) rfl rfl rfl rfl rfl (fun _ e => e ▸ At.lies h7)) rfl rfl ?_
    | refine EL.fF (FV.lss rfl rfl) rfl (fun _ => rfl) (by omega) ?_
    | refine EL.nil ?_
    | refine EW.seq ?_
    | refine EW.region ?_
    | refine EW.exit ?_
    | refine EW.condF rfl ?_)
  refine EL.h (Hv.storeAggG (vs := [.int .i64 t.inputs, cv, s, so]) rfl rfl rfl rfl (fun v hv => by simp only [List.mem_cons, List.not_mem_nil, or_false] at hv; rcases hv with rfl | rfl | rfl | rfl; rfl; exact one1.1; exact one3.1; exact one4.1) h2 (by have := h2.len; simp at this; simp; omega)) rfl (fun _ => rfl) ?_
  rintro _ w9 ⟨h29, hr9⟩
  have h29' : At w9 32 4 g2 1 1 [.int .i64 t.inputs, cv, s, so] := by
    have e4 := h2.len
    match zs, e4 with
    | [z0, z1, z2, z3], _ => exact h29
  have he9 : Ext w w9 := Below.wr he hr9 hgw2 (Nat.le_refl _)
  repeat' (first
    | refine EL.nil ?_
    | refine EW.ret ?_)
  refine ⟨g2, 0, [.int .i64 t.inputs, cv, s, so], rfl, rfl, At.lies h29', ⟨cv, s, so, rfl, own_ext hcode he9, ?_, ?_⟩, he9⟩
  · show w9.ownsRow B _ 2 s (gdsTo t to t.guards.length).length _
    rw [gdsTo_length]
    exact own_lower (own_box hown h2 (by decide) hr9) hB
  · exact own_lower (own_box hout h2 (by decide) hr9) hB
set_option maxHeartbeats 16000000 in
theorem specEnds (b o : Nat) (t : Tp) (cv : Value) (code : List Ins) (A : Option Addr) (c : Nat) (to : List Int) (B : Nat) (w : World) (hf : Fit t) (hcode : w.ownsRow B 65 4 cv code.length (insL code)) (hB : B ≤ w.heap.size) (hto : Rd w A (ints to))
    (hgu : ∀ i, i < t.guards.length → 0 ≤ (t.guards.getD i dGd).reg ∧ (t.guards.getD i dGd).reg < to.length) (hou : ∀ i, i < t.outs.length → 0 ≤ t.outs.getD i 0 ∧ t.outs.getD i 0 < to.length) (h : TapeP w b o t) :
    CallsR Try.prog 126 [.pointer (some ⟨b, o, none⟩), cv, .slice A to.length c] w fun r w' => OwnT B w' r (endT t code to) ∧ Ext w w' := by
  obtain ⟨P, p, Q, q, R, r, hb0, r1, r2, r3⟩ := h
  have ng := hf.g
  have no := hf.o
  have one1 := own_one hcode
  refine CallsR.enterC Try.func126 (by decide +kernel) rfl Try.ntmps126 rfl rfl rfl rfl rfl ?_
  repeat' (first
    | refine EW.seq ?_
    | refine EW.region ?_)
  refine EL.h (Hv.allocA rfl rfl) rfl (fun _ => rfl) ?_
  rintro _ w2 ⟨g2, rfl, hg2, h2, he2⟩
  have l2 := At.lt h2
  have s2 := he2.size
  have hw2 := he2
  repeat' (first
    | (show EL _ _ _ _ (_ :: _) _ _
       first
       | (show EL _ _ _ _ (⟨_, .nilCheck _, _, _, _, _⟩ :: _) _ _; refine EL.f (FV.nilChk rfl) rfl rfl ?_)
       | (show EL _ _ _ _ (⟨_, .fieldAddr _ _ _, _, _, _, _⟩ :: _) _ _; refine EL.f (FV.fieldAddr rfl rfl rfl rfl rfl) rfl rfl ?_)
       | (show EL _ _ _ _ (⟨_, .load _ _, _, _, _, _⟩ :: _) _ _; refine EL.f (FV.load1 rfl rfl rfl ((hb0.ext hw2) 0 _ rfl)) rfl rfl ?_)
       | (show EL _ _ _ _ (⟨_, .build _ _, _, _, _, _⟩ :: _) _ _; refine EL.f (FV.buildT2 rfl rfl rfl one1.2) rfl rfl ?_)
       | (show EL _ _ _ _ (⟨_, .move _, _, _, _, _⟩ :: _) _ _; refine EL.f (FV.move rfl) rfl rfl ?_))
    | refine EL.nil ?_
    | refine EW.seq ?_
    | refine EW.region ?_)
  refine EL.h (Hv.allocA rfl rfl) rfl (fun _ => rfl) ?_
  rintro _ w3 ⟨g7, rfl, hg7, h7, he3⟩
  skip
  refine EL.h (Hv.storeAggG (vs := [.int .i64 t.inputs, cv, .slice none 0 0, .slice none 0 0]) rfl rfl rfl rfl (fun v hv => by simp only [List.mem_cons, List.not_mem_nil, or_false] at hv; rcases hv with rfl | rfl | rfl | rfl; rfl; exact one1.1; rfl; rfl) h7 (Nat.le_refl _)) rfl (fun _ => rfl) ?_
  rintro _ w4 ⟨h7', hr4⟩
  clear h7
  have h7 : At w4 32 4 g7 1 1 [.int .i64 t.inputs, cv, .slice none 0 0, .slice none 0 0] := h7'
  clear h7'
  have e24 : Ext w2 w4 := Below.wr he3 hr4 (by omega) (Nat.le_refl _)
  have hw4 := hw2.trans e24
  replace h2 := At.ext h2 e24
  have n2 : g2 ≠ g7 := by omega
  have hgw : w.heap.size ≤ g7 := by omega
  have hgw2 : w.heap.size ≤ g2 := by omega
  repeat' (first
    | refine EL.f (FV.assign rfl) rfl rfl ?_
    | refine EL.nil ?_
    | refine EW.seq ?_
    | refine EW.region ?_
    | refine EW.block ?_)
  refine EW.loop (X := Nat × Value) (fun y wr => y.1 ≤ t.guards.length ∧ wr.ownsRow w.heap.size 67 2 y.2 y.1 (gdL (gdsTo t to y.1)) ∧ At wr 32 4 g7 1 1 [.int .i64 t.inputs, cv, y.2, .slice none 0 0] ∧ (∃ zs, At wr 32 4 g2 1 1 zs) ∧ Ext w wr) (fun y => [(0, .pointer (some ⟨b, o, none⟩)), (2, .slice A to.length c), (6, .pointer (some ⟨g2, 0, none⟩)), (7, .pointer (some ⟨g7, 0, none⟩)), (8, .int .i64 y.1)]) (fun y => t.guards.length - y.1) (0, .slice none 0 0) ⟨Nat.zero_le _, ⟨rfl, .inl ⟨rfl, rfl⟩⟩, h7, ⟨_, h2⟩, hw4⟩ ⟨rfl, rfl, rfl, rfl, rfl, trivial⟩ ?_
  clear h7 h2 hw4
  rintro ⟨k, s⟩ wr ⟨hk, hown, h7, ⟨zs, h2⟩, he⟩
  dsimp only at *
  have hbr := hb0.ext he
  by_cases hlt : k < t.guards.length
  · obtain ⟨x1, p1, rfl, hp⟩ := Rd.elem gdV_length (by decide) dGd (r2.ext he) hlt
    have hk0 := hgu k hlt
    obtain ⟨bt, ot, rfl, hct⟩ := hto.int (show (t.guards.getD k dGd).reg.toNat < to.length by omega)
    have hownr := hown
    have hp0 := hp 0 _ rfl
    have hp1 := hp 1 _ rfl
    repeat' (first
      | (show EL _ _ _ _ (_ :: _) _ _
         first
         | (show EL _ _ _ _ (⟨_, .nilCheck _, _, _, _, _⟩ :: _) _ _; refine EL.f (FV.nilChk rfl) rfl rfl ?_)
         | (show EL _ _ _ _ (⟨_, .fieldAddr _ _ _, _, _, _, _⟩ :: _) _ _; refine EL.f (FV.fieldAddr rfl rfl rfl rfl rfl) rfl rfl ?_)
         | (show EL _ _ _ _ (⟨_, .load _ _, _, _, _, _⟩ :: _) _ _; refine EL.f (FV.load1 rfl rfl rfl (hbr 2 _ rfl)) rfl rfl ?_)
         | (show EL _ _ _ _ (⟨_, .move _, _, _, _, _⟩ :: _) _ _; refine EL.f (FV.move rfl) rfl rfl ?_)
         | (show EL _ _ _ _ (⟨_, .call _, _, _, _, _⟩ :: _) _ _; refine EL.f (FV.len rfl rfl) rfl rfl ?_)
         | (show EL _ _ _ _ (⟨_, .binOp .lss _ _ _ _, _, _, _, _⟩ :: _) _ _; refine EL.fT (FV.lss rfl rfl) rfl (fun _ => rfl) (by omega) ?_))
      | refine EL.nil ?_
      | refine EW.seq ?_
      | refine EW.region ?_
      | refine EW.block ?_
      | refine EW.skip ?_
      | refine EW.condT rfl ?_)
    have he6 := he
    have ap7 := At.apartO h7 hown (by decide)
    have ap2 := At.apartO h2 hown (by decide)
    obtain ⟨x2, p2, e2, hp2⟩ := Rd.elem gdV_length (by decide) dGd r2 hlt
    injection e2 with e2
    injection e2 with e2 e3 _
    subst e2 e3
    have hq0 := hp2 0 _ rfl
    have hq1 := hp2 1 _ rfl
    refine EW.draw (fun w' => Only [s.ownBlock] wr w') (pl 0 22 ++ [(22, false), (23, false), (24, true), (25, false)]) mixed (by decide +kernel) (Only.weakO (Ext.drew _)) ?_
    repeat' (first
      | refine EP.f rfl (FV.nilChk rfl) rfl rfl ?_
      | refine EP.f rfl (FV.fieldAddr rfl rfl rfl rfl rfl) rfl rfl ?_
      | refine EP.f rfl (FV.load rfl rfl rfl (fun w' h' => At.cell (At.only h7 h' ap7) rfl)) rfl rfl ?_
      | refine EP.f rfl (FV.load rfl rfl rfl (fun w' h' => ((hb0.ext (Ext.onlyO he6 hown h')) 2 _ rfl))) rfl rfl ?_
      | refine EP.f rfl (FV.load rfl rfl rfl (fun w' h' => (Ext.onlyO he6 hown h').cell hq0)) rfl rfl ?_
      | refine EP.f rfl (FV.load rfl rfl rfl (fun w' h' => (Ext.onlyO he6 hown h').cell hq1)) rfl rfl ?_
      | refine EP.f rfl (FV.load rfl rfl rfl (fun w' h' => (Ext.onlyO he6 hown h').cell hct)) rfl rfl ?_
      | refine EP.f rfl (FV.idx (s := 2) rfl rfl rfl rfl (by omega) (by omega)) rfl rfl ?_
      | refine EP.f rfl (FV.buildG rfl rfl rfl rfl) rfl rfl ?_
      | refine EP.f rfl (FV.move rfl) rfl rfl ?_
      | refine EP.f rfl (FV.idx1 rfl rfl rfl rfl (by omega) (by omega)) rfl rfl ?_)
    have ed := Ext.drew wr
    refine EP.h rfl rfl (Hv.buildGds (y := gdTo to (t.guards.getD k dGd)) rfl) rfl (fun _ => rfl) ?_
    rintro _ u1 ⟨gq, rfl, hq, hgq, fe1⟩
    have e1 := ed.trans fe1
    refine ⟨Only.weakO e1, ?_⟩
    refine EP.h rfl rfl (Hv.appendG (B := w.heap.size) (us := gdV (gdTo to (t.guards.getD k dGd))) rfl rfl rfl rfl rfl rfl (own_ext hown e1) (gdV_length _) (fun j u hj => At.cell hq hj) (gdV_one _) (by omega) (by omega) (he6.trans e1).size) rfl (fun _ => rfl) ?_
    rintro v2 u2 ⟨own2, gr2, bl2, at2⟩
    have on2 := Only.thenO e1 (Only.one gr2)
    refine ⟨on2, ?_⟩
    have h72 := At.only h7 on2 ap7
    repeat' (first
      | refine EP.f rfl (FV.fieldAddr rfl rfl rfl rfl rfl) rfl rfl ?_)
    have one2 := own_one own2
    refine EP.last rfl rfl (by decide +kernel) (Hv.storeG rfl rfl rfl one2.1 one2.2 h72 rfl) rfl (fun _ => rfl) ?_
    rintro _ u3 ⟨h73, hr3⟩
    repeat' (first
      | refine EL.f (FV.move rfl) rfl rfl ?_
      | refine EL.f (FV.assign rfl) rfl rfl ?_
      | refine EL.f (FV.addI rfl rfl (by omega)) rfl rfl ?_
      | refine EL.nil ?_
      | refine EW.region ?_)
    exact ⟨(k + 1, v2), ⟨rfl, rfl, rfl, rfl, rfl, trivial⟩, ⟨by dsimp only; omega, by rw [gdsTo_succ, gdL_snoc]; exact own_box own2 h72 (by decide) hr3, h73, ⟨_, At.kept (At.only h2 on2 ap2) hr3 (by simp; exact n2)⟩, Below.wr (Ext.onlyO he6 hown on2) hr3 hgw (Nat.le_refl _)⟩, by dsimp only; omega⟩
  obtain rfl : k = t.guards.length := by omega
  repeat' (first
    | (show EL _ _ _ _ (_ :: _) _ _
       first
       | (show EL _ _ _ _ (⟨_, .nilCheck _, _, _, _, _⟩ :: _) _ _; refine EL.f (FV.nilChk rfl) rfl rfl ?_)
       | (show EL _ _ _ _ (⟨_, .fieldAddr _ _ _, _, _, _, _⟩ :: _) _ _; refine EL.f (FV.fieldAddr rfl rfl rfl rfl rfl) rfl rfl ?_)
       | (show EL _ _ _ _ (⟨_, .load _ _, _, _, _, _⟩ :: _) _ _; refine EL.f (FV.load1 rfl rfl rfl (hbr 2 _ rfl)) rfl rfl ?_)
       | (show EL _ _ _ _ (⟨_, .move _, _, _, _, _⟩ :: _) _ _; refine EL.f (FV.move rfl) rfl rfl ?_)
       | (show EL _ _ _ _ (⟨_, .assign _, _, _, _, _⟩ :: _) _ _; refine EL.f (FV.assign rfl) rfl rfl ?_)
       | (show EL _ _ _ _ (⟨_, .call _, _, _, _, _⟩ :: _) _ _; refine EL.f (FV.len rfl rfl) rfl rfl ?_)
       | (show EL _ _ _ _ (⟨_, .binOp .lss _ _ _ _, _, _, _, _⟩ :: _) _ _; refine EL.fF (FV.lss rfl rfl) rfl (fun _ => rfl) (by omega) ?_))
    | refine EL.nil ?_
    | refine EW.seq ?_
    | refine EW.region ?_
    | refine EW.block ?_
    | refine EW.exit ?_
    | refine EW.condF rfl ?_)
  refine EW.loop (X := Nat × Value) (fun y wr => y.1 ≤ t.outs.length ∧ OwnI w.heap.size wr y.2 (outsTo t to y.1) ∧ wr.ownsRow w.heap.size 67 2 s t.guards.length (gdL (gdsTo t to t.guards.length)) ∧ At wr 32 4 g7 1 1 [.int .i64 t.inputs, cv, s, y.2] ∧ (∃ zs, At wr 32 4 g2 1 1 zs) ∧ Ext w wr) (fun y => [(0, .pointer (some ⟨b, o, none⟩)), (2, .slice A to.length c), (6, .pointer (some ⟨g2, 0, none⟩)), (7, .pointer (some ⟨g7, 0, none⟩)), (9, .int .i64 y.1)]) (fun y => t.outs.length - y.1) (0, .slice none 0 0) ⟨Nat.zero_le _, OwnI.none _ _, hown, h7, ⟨_, h2⟩, he⟩ ⟨rfl, rfl, rfl, rfl, rfl, trivial⟩ ?_
  clear hown h7 h2 he zs
  rintro ⟨k, so⟩ wr ⟨hk, hout, hown, h7, ⟨zs, h2⟩, he⟩
  dsimp only at *
  have hbr := hb0.ext he
  have one3 := own_one hown
  have one4 := own_one hout
  by_cases hlt : k < t.outs.length
  · have hk0 := hou k hlt
    obtain ⟨bt, ot, rfl, hct⟩ := hto.int (show (t.outs.getD k 0).toNat < to.length by omega)
    obtain ⟨b3, o3, rfl, hc3⟩ := r3.int hlt
    have hrow := mapR_row hout
    have ap7 := At.apartO h7 hrow (by decide)
    have ap2 := At.apartO h2 hrow (by decide)
    repeat' (first
      | (show EL _ _ _ _ (_ :: _) _ _
         first
         | (show EL _ _ _ _ (⟨_, .nilCheck _, _, _, _, _⟩ :: _) _ _; refine EL.f (FV.nilChk rfl) rfl rfl ?_)
         | (show EL _ _ _ _ (⟨_, .fieldAddr _ _ _, _, _, _, _⟩ :: _) _ _; refine EL.f (FV.fieldAddr rfl rfl rfl rfl rfl) rfl rfl ?_)
         | (show EL _ _ _ _ (⟨_, .load _ _, _, _, _, _⟩ :: _) _ _; refine EL.f (FV.load1 rfl rfl rfl (hbr 3 _ rfl)) rfl rfl ?_)
         | (show EL _ _ _ _ (⟨_, .move _, _, _, _, _⟩ :: _) _ _; refine EL.f (FV.move rfl) rfl rfl ?_)
         | (show EL _ _ _ _ (⟨_, .call _, _, _, _, _⟩ :: _) _ _; refine EL.f (FV.len rfl rfl) rfl rfl ?_)
         | (show EL _ _ _ _ (⟨_, .binOp .lss _ _ _ _, _, _, _, _⟩ :: _) _ _; refine EL.fT (FV.lss rfl rfl) rfl (fun _ => rfl) (by omega) ?_))
      | refine EL.nil ?_
      | refine EW.seq ?_
      | refine EW.region ?_
      | refine EW.block ?_
      | refine EW.skip ?_
      | refine EW.condT rfl ?_)
    refine EW.draw (fun w' => Only [so.ownBlock] wr w') (pl 0 12 ++ [(12, false), (13, false), (14, true), (15, false)]) mixed (by decide +kernel) (Only.weakO (Ext.drew _)) ?_
    repeat' (first
      | refine EP.f rfl (FV.nilChk rfl) rfl rfl ?_
      | refine EP.f rfl (FV.fieldAddr rfl rfl rfl rfl rfl) rfl rfl ?_
      | refine EP.f rfl (FV.load rfl rfl rfl (fun w' h' => At.cell (At.only h7 h' ap7) rfl)) rfl rfl ?_
      | refine EP.f rfl (FV.load rfl rfl rfl (fun w' h' => (Ext.onlyO he hrow h').cell hct)) rfl rfl ?_
      | refine EP.f rfl (FV.load rfl rfl rfl (fun w' h' => ((hb0.ext (Ext.onlyO he hrow h')) 3 _ rfl))) rfl rfl ?_
      | refine EP.f rfl (FV.load rfl rfl rfl (fun w' h' => (Ext.onlyO he hrow h').cell hc3)) rfl rfl ?_
      | refine EP.f rfl (FV.move rfl) rfl rfl ?_
      | refine EP.f rfl (FV.idx1 rfl rfl rfl rfl (by omega) (by omega)) rfl rfl ?_)
    have ed := Ext.drew wr
    refine EP.h rfl rfl (Hv.build1A rfl rfl rfl rfl) rfl (fun _ => rfl) ?_
    rintro _ u1 ⟨gq, rfl, hq, hgq, fe1⟩
    have e1 := ed.trans fe1
    refine ⟨Only.weakO e1, ?_⟩
    refine EP.h rfl rfl (Hv.appendG (B := w.heap.size) (us := [.int .i64 (to.getD (t.outs.getD k 0).toNat 0)]) rfl rfl rfl rfl rfl rfl (own_ext hrow e1) rfl (fun j u hj => At.cell hq hj) (fun u hu => by simp at hu; subst hu; rfl) (by omega) (by omega) (he.trans e1).size) rfl (fun _ => rfl) ?_
    rintro v2 u2 ⟨own2, gr2, bl2, at2⟩
    have on2 := Only.thenO e1 (Only.one gr2)
    refine ⟨on2, ?_⟩
    have h72 := At.only h7 on2 ap7
    have own3 : OwnI w.heap.size u2 v2 (outsTo t to (k + 1)) := mapR_push own2
    have hg2 := own_far (own_ext hown e1) gr2 (own_ne (own_ext hown e1) (own_ext hrow e1) (by decide))
    repeat' (first
      | refine EP.f rfl (FV.fieldAddr rfl rfl rfl rfl rfl) rfl rfl ?_)
    have one2 := own_one own2
    refine EP.last rfl rfl (by decide +kernel) (Hv.storeG rfl rfl rfl one2.1 one2.2 h72 rfl) rfl (fun _ => rfl) ?_
    rintro _ u3 ⟨h73, hr3⟩
    repeat' (first
      | refine EL.f (FV.move rfl) rfl rfl ?_
      | refine EL.f (FV.assign rfl) rfl rfl ?_
      | refine EL.f (FV.addI rfl rfl (by omega)) rfl rfl ?_
      | refine EL.nil ?_
      | refine EW.region ?_)
    exact ⟨(k + 1, v2), ⟨rfl, rfl, rfl, rfl, rfl, trivial⟩, ⟨by dsimp only; omega, own_box own3 h72 (by decide) hr3, own_box hg2 h72 (by decide) hr3, h73, ⟨_, At.kept (At.only h2 on2 ap2) hr3 (by simp; exact n2)⟩, Below.wr (Ext.onlyO he hrow on2) hr3 hgw (Nat.le_refl _)⟩, by dsimp only; omega⟩
  obtain rfl : k = t.outs.length := by omega
  repeat' (first
    | (show EL _ _ _ _ (_ :: _) _ _
       first
       | (show EL _ _ _ _ (⟨_, .nilCheck _, _, _, _, _⟩ :: _) _ _; refine EL.f (FV.nilChk rfl) rfl rfl ?_)
       | (show EL _ _ _ _ (⟨_, .fieldAddr _ _ _, _, _, _, _⟩ :: _) _ _; refine EL.f (FV.fieldAddr rfl rfl rfl rfl rfl) rfl rfl ?_)
       | (show EL _ _ _ _ (⟨_, .load _ _, _, _, _, _⟩ :: _) _ _; first | refine EL.f (FV.load1 rfl rfl rfl (hbr 3 _ rfl)) rfl rfl ?_ | refine EL.f (FV.loadAgg (cs := [.int .i64 t.inputs, cv, s, so]) rfl rfl rfl rfl rfl (fun _ e => e ▸ At.lies h7)) rfl rfl ?_)
       | (show EL _ _ _ _ (⟨_, .move _, _, _, _, _⟩ :: _) _ _; refine EL.f (FV.move rfl) rfl rfl ?_)
       | (show EL _ _ _ _ (⟨_, .call _, _, _, _, _⟩ :: _) _ _; refine EL.f (FV.len rfl rfl) rfl rfl ?_)
       | (show EL _ _ _ _ (⟨_, .binOp .lss _ _ _ _, _, _, _, _⟩ :: _) _ _; refine EL.fF (FV.lss rfl rfl) rfl (fun _ => rfl) (by omega) ?_))
    | refine EL.nil ?_
    | refine EW.seq ?_
    | refine EW.region ?_
    | refine EW.exit ?_
    | refine EW.condF rfl ?_)
  refine EL.h (Hv.storeAggG (vs := [.int .i64 t.inputs, cv, s, so]) rfl rfl rfl rfl (fun v hv => by simp only [List.mem_cons, List.not_mem_nil, or_false] at hv; rcases hv with rfl | rfl | rfl | rfl; rfl; exact one1.1; exact one3.1; exact one4.1) h2 (by have := h2.len; simp at this; simp; omega)) rfl (fun _ => rfl) ?_
  rintro _ w9 ⟨h29, hr9⟩
  have h29' : At w9 32 4 g2 1 1 [.int .i64 t.inputs, cv, s, so] := by
    have e4 := h2.len
    match zs, e4 with
    | [z0, z1, z2, z3], _ => exact h29
  have he9 : Ext w w9 := Below.wr he hr9 hgw2 (Nat.le_refl _)
  repeat' (first
    | refine EL.nil ?_
    | refine EW.ret ?_)
  refine ⟨g2, 0, [.int .i64 t.inputs, cv, s, so], rfl, rfl, At.lies h29', ⟨cv, s, so, rfl, own_ext hcode he9, ?_, ?_⟩, he9⟩
  · show w9.ownsRow B _ 2 s (gdsTo t to t.guards.length).length _
    rw [gdsTo_length]
    exact own_lower (own_box hown h2 (by decide) hr9) hB
  · exact own_lower (own_box hout h2 (by decide) hr9) hB
end Eng
end Go.Proofs.Ytfkohgfcchhlpaa
