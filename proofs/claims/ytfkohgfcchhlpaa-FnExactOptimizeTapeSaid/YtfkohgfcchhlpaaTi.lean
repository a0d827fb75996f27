/- The reverse sweep in the program. Conditions: as each says. -/
import Derived.Test.YtfkohgfcchhlpaaTh
namespace Go.Proofs.Ytfkohgfcchhlpaa
open Go Go.RowKit
namespace Eng
/-- Rows of series of one's own, apart. -/
structure OutF (B : Nat) (w : World) (s : Value) (n sz : Nat) (gs : List Nat) (xss : List (List Int)) : Prop where
  own : w.ownsRow B 24 1 s n (gs.map fun g => .slice (some ⟨g, 0, none⟩) sz sz)
  gl : gs.length = n
  xl : xss.length = n
  nd : ∀ i j, i < n → j < n → i ≠ j → gs.getD i 0 ≠ gs.getD j 0
  row : ∀ i, i < n → B ≤ gs.getD i 0 ∧ (xss.getD i []).length = sz ∧ At w 2 1 (gs.getD i 0) sz sz (ints (xss.getD i []))
theorem Only.weak {a b : World} {g : Nat} (h : Ext a b) : Only [some g] a b := (Only.ext h).mono fun x hx => by cases hx
theorem OutF.ext {B : Nat} {w w' : World} {s : Value} {n sz : Nat} {gs : List Nat} {xss : List (List Int)} (h : OutF B w s n sz gs xss) (he : Ext w w') : OutF B w' s n sz gs xss :=
  ⟨own_ext h.own he, h.gl, h.xl, h.nd, fun i hi => ⟨(h.row i hi).1, (h.row i hi).2.1, At.ext (h.row i hi).2.2 he⟩⟩
theorem OutF.get {B : Nat} {w : World} {s : Value} {n sz : Nat} {gs : List Nat} {xss : List (List Int)} (h : OutF B w s n sz gs xss) {i : Nat} (hi : i < n) : (gs.map fun g => (Value.slice (some ⟨g, 0, none⟩) sz sz))[i]? = some (.slice (some ⟨gs.getD i 0, 0, none⟩) sz sz) := by
  have := h.gl
  simp [show i < gs.length from by omega]
theorem OutF.box {B : Nat} {w w' : World} {s : Value} {n sz : Nat} {gs : List Nat} {xss : List (List Int)} (h : OutF B w s n sz gs xss) {e g : Nat} {cs : List Value} (hat : At w e 1 g 1 1 cs) (h1 : e ≠ 24) (h2 : e ≠ 2) (hg : w.grownBy w' (some g)) : OutF B w' s n sz gs xss := by
  refine ⟨own_far h.own hg ?_, h.gl, h.xl, h.nd, fun i hi => ⟨(h.row i hi).1, (h.row i hi).2.1, At.kept (h.row i hi).2.2 hg ?_⟩⟩
  · rcases own_ne h.own (At.own hat (Nat.le_refl _)) (Ne.symm h1) with q | q
    · exact .inl q
    · exact .inr q
  · have := At.ne hat (h.row i hi).2.2 h2
    simp
    exact fun q => this q.symm
theorem OutF.apart {B : Nat} {w : World} {s : Value} {n sz : Nat} {gs : List Nat} {xss : List (List Int)} (h : OutF B w s n sz gs xss) {i : Nat} (hi : i < n) : some (gs.getD i 0) ≠ s.ownBlock := by
  have h1 := (h.row i hi).2.2
  rcases own_ne (At.own h1 (Nat.le_refl _)) h.own (by decide) with e | e
  · cases e
  · exact e
theorem OutF.push {B g : Nat} {w w' : World} {s v : Value} {n sz : Nat} {gs : List Nat} {xss : List (List Int)} {xs : List Int} (h : OutF B w s n sz gs xss) (hB : B ≤ g) (hat : At w 2 1 g sz sz (ints xs)) (hl : xs.length = sz) (hnew : ∀ i, i < n → gs.getD i 0 < g)
    (ho : w'.ownsRow B 24 1 v (n + 1) ((gs.map fun g => .slice (some ⟨g, 0, none⟩) sz sz) ++ [.slice (some ⟨g, 0, none⟩) sz sz])) (hg : w.grownBy w' s.ownBlock) : OutF B w' v (n + 1) sz (gs ++ [g]) (xss ++ [xs]) := by
  have hgl := h.gl
  have hxl := h.xl
  refine ⟨by rw [List.map_append]; exact ho, by simp [hgl], by simp [hxl], fun i j hi hj hij => ?_, fun i hi => ?_⟩
  · by_cases h1 : i < n <;> by_cases h2 : j < n
    · rw [getD_snoc (by omega), getD_snoc (by omega)]; exact h.nd i j h1 h2 hij
    · obtain rfl : j = n := by omega
      rw [getD_snoc (by omega), ← hgl, getD_last]
      have := hnew i h1
      omega
    · obtain rfl : i = n := by omega
      rw [getD_snoc (xs := gs) (i := j) (by omega), ← hgl, getD_last]
      have := hnew j h2
      omega
    · omega
  · by_cases hii : i < n
    · rw [getD_snoc (by omega), getD_snoc (by omega)]
      exact ⟨(h.row i hii).1, (h.row i hii).2.1, At.kept (h.row i hii).2.2 hg (h.apart hii)⟩
    · obtain rfl : i = n := by omega
      have e1 : (gs ++ [g]).getD i 0 = g := by rw [← hgl]; exact getD_last
      have e2 : (xss ++ [xs]).getD i [] = xs := by rw [← hxl]; exact getD_last
      rw [e1, e2]
      refine ⟨hB, hl, At.kept hat hg ?_⟩
      rcases own_ne (At.own hat (Nat.le_refl _)) h.own (by decide) with e | e
      · cases e
      · exact e
theorem OutF.outA {B g c n sz : Nat} {w : World} {gs : List Nat} {xss : List (List Int)} (h : OutF B w (.slice (some ⟨g, 0, none⟩) n c) n sz gs xss) (hat : At w 24 1 g n c (gs.map fun g => .slice (some ⟨g, 0, none⟩) sz sz)) (hB : B ≤ g) : OutA B w g c n xss :=
  ⟨hB, h.xl, _, hat, fun i hi => ⟨_, h.get hi, RowB.own (AtI.own' (B := 0) (xs := xss.getD i []) (by unfold AtI; rw [(h.row i hi).2.1]; exact (h.row i hi).2.2) (h.row i hi).2.1 (Nat.zero_le _))⟩⟩
/-- A number is written into row r. -/
theorem OutF.write {B n sz r k : Nat} {w w' : World} {s : Value} {gs : List Nat} {xss : List (List Int)} {x : Int} (h : OutF B w s n sz gs xss) (hr : r < n) (hat : At w' 2 1 (gs.getD r 0) sz sz ((ints (xss.getD r [])).set k (.int .i64 x))) (hg : w.grownBy w' (some (gs.getD r 0))) : OutF B w' s n sz gs (xss.set r ((xss.getD r []).set k x)) := by
  refine ⟨own_far h.own hg (.inr fun e => h.apart hr e.symm), h.gl, by rw [List.length_set]; exact h.xl, h.nd, fun i hi => ?_⟩
  have hxl := h.xl
  by_cases hir : r = i
  · subst hir
    rw [getD_setA (by omega)]
    exact ⟨(h.row r hi).1, by rw [List.length_set]; exact (h.row r hi).2.1, by rw [ints_set]; exact hat⟩
  · rw [getD_setB hir]
    exact ⟨(h.row i hi).1, (h.row i hi).2.1, At.kept (h.row i hi).2.2 hg (by intro e; injection e with e; exact h.nd r i hr hi hir e.symm)⟩
theorem add_const {xs : List Int} {x : Int} {sz : Nat} (hl : xs.length = sz) (h1 : 1 ≤ sz) (hn : nums xs = true) : addL xs (constL x sz) = xs.set 0 ((xs.getD 0 0 + x) % 1000003) := by
  subst hl
  apply List.ext_getElem
  · simp [addL, mapR]
  · intro i h1 h2
    have hi : i < xs.length := by simpa using h2
    have hb := num_getD hn i
    have e1 : (addL xs (constL x xs.length))[i] = (xs.getD i 0 + (constL x xs.length).getD i 0) % 1000003 := by simp [addL, mapR]
    rw [e1]
    by_cases h0 : i = 0
    · subst h0
      have : (constL x xs.length).getD 0 0 = x := by unfold constL; rw [getD_setA (by simpa using hi)]
      rw [this]
      simp
    · have : (constL x xs.length).getD i 0 = 0 := by
        unfold constL
        rw [getD_setB (fun e => h0 e.symm), List.getD_eq_getElem?_getD, List.getElem?_replicate, if_pos hi]
        rfl
      rw [this, List.getElem_set_ne (fun e => h0 e.symm), Int.add_zero, Int.emod_eq_of_lt hb.1 hb.2]
      simp [hi]
set_option maxHeartbeats 4000000 in
theorem implPut (B g c n g7 sz : Nat) (a : List (List Int)) (r : Int) (S : Option Addr) (cs : Nat) (s : List Int) (w : World) (hc7 : w.cell? ⟨g7, 0, none⟩ = some (.slice (some ⟨g, 0, none⟩) n c)) (hO : OutA B w g c n a) (hr : 0 ≤ r ∧ r < n) (hg : Good sz a) (hs : Rd w S (ints s)) (hl : s.length = sz) (hn : nums s = true) (hz : sz ≤ 100) :
    CallsR Try.prog 168 [.int .i64 r, .slice S s.length cs, .pointer (some ⟨g7, 0, none⟩)] w fun _ w' => OutA B w' g c n (putL a r s) ∧ Only [some g] w w' := by
  refine CallsR.enter Try.func168 (by decide +kernel) rfl Try.ntmps168 rfl ?_
  obtain ⟨Ar, cr, hcr, _, hrd⟩ := hO.get (i := r.toNat) (by omega)
  have hal := hO.len
  obtain ⟨lr, nr⟩ := hg r.toNat (by omega)
  skip
  refine EW.draw (fun w' => Ext w w') (pl 0 7 ++ [(7, false), (8, true), (9, false)]) mixed (by decide +kernel) (Ext.drew _) ?_
  repeat' (first
    | refine EP.f rfl (FV.load rfl rfl rfl (fun w' h' => h'.cell hc7)) rfl rfl ?_
    | refine EP.f rfl (FV.load rfl rfl rfl (fun w' h' => h'.cell hcr)) rfl rfl ?_
    | refine EP.f rfl (FV.move rfl) rfl rfl ?_
    | refine EP.f rfl (FV.idx0 rfl rfl rfl rfl (by omega) (by omega)) rfl rfl ?_)
  have ed := Ext.drew w
  refine EP.h rfl rfl (Hv.call (implAdded Ar S cr cs _ _ w.drew (hrd.ext ed) (hs.ext ed) (by omega) (by omega) nr hn) rfl) rfl (fun _ => rfl) ?_
  rintro v w1 ⟨hv, he⟩
  have e1 := ed.trans he
  refine ⟨e1, ?_⟩
  repeat' (first
    | refine EP.f rfl (FV.idx0 rfl rfl rfl rfl (by omega) (by omega)) rfl rfl ?_)
  refine EP.last rfl rfl (by decide +kernel) (Hv.putRow rfl rfl (hO.ext e1) (by omega) (RowB.own hv)) rfl (fun _ => rfl) ?_
  rintro _ w2 ⟨hO2, hon⟩
  skip
  exact ⟨_, rfl, hO2, Only.then_ e1 hon⟩
set_option maxHeartbeats 16000000 in
theorem implAdjoints (v : Value) (t : Tp) (A C : Option Addr) (cR cW : Nat) (regs : List (List Int)) (ws : List Int) (m1 : Nat) (w : World) (h : TapeV w v t) (_hf : Fit t) (ok : okT t = true) (hr : Rows w A regs) (hrl : regs.length = t.code.length) (hgr : Good (m1 + 1) regs) (hw : Rd w C (ints ws)) (hwl : ws.length = t.outs.length) (hm : m1 ≤ 90) (_hnw : nums ws = true) :
    CallsR Try.prog 155 [v, .slice A regs.length cR, .slice C ws.length cW] w fun v w' => OutR w.heap.size w' v (swS t regs ws (m1 + 1) t.code.length) ∧ Ext w w' := by
  obtain ⟨P, p, Q, q, R, r, rfl, r1, r2, r3⟩ := h
  have okc := (okT_iff.1 ok).2.2.2.2.1
  have hcl := (okT_iff.1 ok).2.1
  have hou := (okT_iff.1 ok).2.2.2
  have hn0 : 0 < t.code.length := by have := hou.2.2.2 0 (by omega); omega
  rw [hrl]
  obtain ⟨b8, o8, rfl, hregs⟩ := hr.all (by omega)
  refine CallsR.enter Try.func155 (by decide +kernel) rfl Try.ntmps155 rfl ?_
  repeat' (first
    | refine EW.seq ?_
    | refine EW.region ?_)
  refine EL.h (Hv.boxA (sz := 4) rfl rfl) rfl (fun _ => rfl) ?_
  rintro _ w1 ⟨g3, rfl, hg3, hb, he1⟩
  repeat' (first
    | refine EL.f (FV.assign rfl) rfl rfl ?_
    | refine EL.nil ?_
    | refine EW.seq ?_
    | refine EW.region ?_)
  refine EL.h (Hv.build0 rfl rfl) rfl (fun _ => rfl) ?_
  rintro s0 w2 ⟨ho2, he2⟩
  have one0 : s0.oneCell' = true ∧ s0.cells = #[s0] := by obtain ⟨A0, c0, rfl, _⟩ := own_form ho2; exact ⟨rfl, rfl⟩
  skip
  refine EL.h (Hv.allocA rfl rfl) rfl (fun _ => rfl) ?_
  rintro _ w3 ⟨g7, rfl, hg7, h7, he3⟩
  skip
  refine EL.h (Hv.storeG rfl rfl rfl one0.1 one0.2 h7 rfl) rfl (fun _ => rfl) ?_
  rintro _ w4 ⟨h7', hr4⟩
  have s1 := he1.size
  have s2 := he2.size
  have l3 := At.lt hb
  have e24 : Ext w2 w4 := Below.wr he3 hr4 (by omega) (Nat.le_refl _)
  have e14 := he2.trans e24
  have hw4 := he1.trans e14
  replace hb := At.ext hb e14
  replace ho2 := own_ext ho2 e24
  clear h7
  replace h7 : At w4 52 1 g7 1 1 [s0] := h7'
  clear h7'
  repeat' (first
    | refine EL.f (FV.move rfl) rfl rfl ?_
    | refine EL.f (FV.len rfl rfl) rfl rfl ?_
    | refine EL.nil ?_
    | refine EW.seq ?_
    | refine EW.region ?_
    | refine EW.block ?_)
  have hg7w : w.heap.size ≤ g7 := by omega
  refine EW.loop (X := Nat × Value × List Nat) (fun y wr => y.1 ≤ t.code.length ∧ OutF w.heap.size wr y.2.1 y.1 (m1 + 1) y.2.2 (List.replicate y.1 (List.replicate (m1 + 1) 0)) ∧ At wr 52 1 g7 1 1 [y.2.1] ∧ At wr 32 4 g3 1 1 [.int .i64 t.inputs, .slice P t.code.length p, .slice Q t.guards.length q, .slice R t.outs.length r] ∧ Ext w wr) (fun y => [(1, .slice (some ⟨b8, o8, none⟩) t.code.length cR), (3, .pointer (some ⟨g3, 0, none⟩)), (7, .pointer (some ⟨g7, 0, none⟩)), (2, .slice C ws.length cW), (18, .slice (some ⟨b8, o8, none⟩) t.code.length cR), (19, .int .i64 t.code.length), (20, .int .i64 y.1)]) (fun y => t.code.length - y.1) (0, s0, []) ⟨Nat.zero_le _, ⟨own_lower ho2 he1.size, rfl, rfl, fun i j hi => by omega, fun i hi => by omega⟩, h7, hb, hw4⟩ ⟨rfl, rfl, rfl, rfl, rfl, rfl, rfl, trivial⟩ ?_
  clear h7 hb
  rintro ⟨k, s, gs⟩ wr ⟨hk, hout, h7, hb, he⟩
  dsimp only at *
  by_cases hlt : k < t.code.length
  · obtain ⟨Bk, ck, hck, hrk⟩ := hregs k (by omega)
    obtain ⟨lk, nk⟩ := hgr k (by omega)
    repeat' (first
      | (show EL _ _ _ _ (_ :: _) _ _
         first
         | (show EL _ _ _ _ (⟨_, .load _ _, _, _, _, _⟩ :: _) _ _; refine EL.f (FV.load1 rfl rfl rfl (he.cell hck)) rfl rfl ?_)
         | (show EL _ _ _ _ (⟨_, .assign _, _, _, _, _⟩ :: _) _ _; refine EL.f (FV.assign rfl) rfl rfl ?_)
         | (show EL _ _ _ _ (⟨_, .binOp .lss _ _ _ _, _, _, _, _⟩ :: _) _ _; refine EL.fT (FV.lss rfl rfl) rfl (fun _ => rfl) (by omega) ?_)
         | (show EL _ _ _ _ (⟨_, .indexAddr _ _ _, _, _, _, _⟩ :: _) _ _; refine EL.f (FV.idx1 rfl rfl rfl rfl (by omega) (by omega)) rfl rfl ?_))
      | refine EL.nil ?_
      | refine EW.seq ?_
      | refine EW.region ?_
      | refine EW.block ?_
      | refine EW.skip ?_
      | refine EW.condT rfl ?_)
    refine EW.draw (fun w' => w'.cell? ⟨g7, 0, none⟩ = some s) [(0, true), (1, true), (2, true), (3, false), (4, false), (5, false), (6, false)] mixed (by decide +kernel) (At.cell h7 rfl) ?_
    repeat' (first
      | refine EP.f rfl (FV.load rfl rfl rfl (fun w' h' => h')) rfl rfl ?_
      | refine EP.f rfl (FV.move rfl) rfl rfl ?_
      | refine EP.f rfl (FV.len rfl rfl) rfl rfl ?_)
    have ed := Ext.drew wr
    refine EP.h rfl rfl (Hv.make (m := (regs.getD k []).length) (kl := .i64) rfl rfl rfl rfl (by omega) (by omega)) rfl (fun _ => rfl) ?_
    rintro _ u1 ⟨gk, rfl, hgk, hatk, fe1⟩
    rw [madeInts, lk] at hatk
    have e1 := ed.trans fe1
    refine ⟨e1.cell (At.cell h7 rfl), ?_⟩
    refine EP.h rfl rfl (Hv.build1A rfl rfl rfl rfl) rfl (fun _ => rfl) ?_
    rintro _ u2 ⟨gq, rfl, hq, hgq, fe2⟩
    have e2 := e1.trans fe2
    rw [lk] at hq
    refine ⟨e2.cell (At.cell h7 rfl), ?_⟩
    have f2 := hout.ext e2
    have hsz := (he.trans e2).size
    refine EP.h rfl rfl (Hv.appendG (B := w.heap.size) (us := [.slice (some ⟨gk, 0, none⟩) (m1 + 1) (m1 + 1)]) rfl rfl rfl rfl rfl rfl f2.own rfl (fun j u hj => At.cell hq hj) (fun u hu => by simp at hu; subst hu; rfl) (by omega) (by omega) hsz) rfl (fun _ => rfl) ?_
    rintro v3 u3 ⟨own3, gr3, bl3, _⟩
    have h7u := At.ext h7 e2
    have ap7 : some g7 ≠ s.ownBlock := by
      intro eq
      rcases own_ne (At.own h7u (Nat.le_refl _)) f2.own (by decide) with e | e
      · cases e
      · exact e eq
    have ap3 : some g3 ≠ s.ownBlock := by
      intro eq
      rcases own_ne (At.own (At.ext hb e2) (Nat.le_refl _)) f2.own (by decide) with e | e
      · cases e
      · exact e eq
    have h73 := At.kept h7u gr3 ap7
    have hb3 := At.kept (At.ext hb e2) gr3 ap3
    refine ⟨At.cell h73 rfl, ?_⟩
    have hdrew : wr.drew.heap.size = wr.heap.size := rfl
    have hes := he.size
    have f3 := f2.push (g := gk) (by omega) (xs := List.replicate (m1 + 1) 0) (At.ext hatk fe2) (by simp) (fun i hi => by have := At.lt (hout.row i hi).2.2; omega) own3 gr3
    have one3 : v3.oneCell' = true ∧ v3.cells = #[v3] := by obtain ⟨A0, c0, rfl, _⟩ := own_form own3; exact ⟨rfl, rfl⟩
    refine EP.last rfl rfl (by decide +kernel) (Hv.storeG rfl rfl rfl one3.1 one3.2 h73 rfl) rfl (fun _ => rfl) ?_
    rintro _ u4 ⟨h74, hr4⟩
    have n37 : g3 ≠ g7 := At.ne hb3 h73 (by decide)
    repeat' (first
      | refine EL.f (FV.move rfl) rfl rfl ?_
      | refine EL.f (FV.addI rfl rfl (by omega)) rfl rfl ?_
      | refine EL.nil ?_
      | refine EW.region ?_)
    exact ⟨(k + 1, v3, gs ++ [gk]), ⟨rfl, rfl, rfl, rfl, rfl, rfl, rfl, trivial⟩, ⟨by dsimp only; omega, by rw [replicate_snoc]; exact f3.box h73 (by decide) (by decide) hr4, h74, At.kept hb3 hr4 (by simp; exact n37), Below.wr (Ext.after (he.trans e2) bl3) hr4 hg7w (Nat.le_refl _)⟩, by dsimp only; omega⟩
  obtain rfl : k = t.code.length := by omega
  obtain ⟨g, c, rfl, hBg, _⟩ := own_at hout.own hn0
  repeat' (first
    | (show EL _ _ _ _ (_ :: _) _ _
       first
       | (show EL _ _ _ _ (⟨_, .fieldAddr _ _ _, _, _, _, _⟩ :: _) _ _; refine EL.f (FV.fieldAddr rfl rfl rfl rfl rfl) rfl rfl ?_)
       | (show EL _ _ _ _ (⟨_, .load _ _, _, _, _, _⟩ :: _) _ _; refine EL.f (FV.load1 rfl rfl rfl (At.cell hb rfl)) rfl rfl ?_)
       | (show EL _ _ _ _ (⟨_, .move _, _, _, _, _⟩ :: _) _ _; refine EL.f (FV.move rfl) rfl rfl ?_)
       | (show EL _ _ _ _ (⟨_, .call _, _, _, _, _⟩ :: _) _ _; refine EL.f (FV.len rfl rfl) rfl rfl ?_)
       | (show EL _ _ _ _ (⟨_, .binOp .lss _ _ _ _, _, _, _, _⟩ :: _) _ _; refine EL.fF (FV.lss rfl rfl) rfl (fun _ => rfl) (by omega) ?_))
    | refine EL.nil ?_
    | refine EW.seq ?_
    | refine EW.region ?_
    | refine EW.block ?_
    | refine EW.exit ?_
    | refine EW.condF rfl ?_)
  refine EW.loop (fun k wr => k ≤ t.outs.length ∧ OutF w.heap.size wr (.slice (some ⟨g, 0, none⟩) t.code.length c) t.code.length (m1 + 1) gs (outS t ws (m1 + 1) k) ∧ At wr 52 1 g7 1 1 [.slice (some ⟨g, 0, none⟩) t.code.length c] ∧ At wr 32 4 g3 1 1 [.int .i64 t.inputs, .slice P t.code.length p, .slice Q t.guards.length q, .slice R t.outs.length r] ∧ Ext w wr) (fun k => [(1, .slice (some ⟨b8, o8, none⟩) t.code.length cR), (3, .pointer (some ⟨g3, 0, none⟩)), (7, .pointer (some ⟨g7, 0, none⟩)), (2, .slice C ws.length cW), (32, .slice R t.outs.length r), (33, .int .i64 t.outs.length), (34, .int .i64 k)]) (fun k => t.outs.length - k) 0 ⟨Nat.zero_le _, hout, h7, hb, he⟩ ⟨rfl, rfl, rfl, rfl, rfl, rfl, rfl, trivial⟩ ?_
  clear hout h7 hb he
  rintro k wr ⟨hk, hout, h7, hb, he⟩
  by_cases hlt : k < t.outs.length
  · have hko := hou.2.2.2 k hlt
    obtain ⟨b3, o3, rfl, hc3⟩ := (r3.ext he).int hlt
    obtain ⟨b4, o4, rfl, hc4⟩ := (hw.ext he).int (show k < ws.length by omega)
    have hrn : (t.outs.getD k 0).toNat < t.code.length := by omega
    obtain ⟨hBr, hlr, hatr⟩ := hout.row _ hrn
    obtain ⟨g', c', e', _, hat⟩ := own_at hout.own hn0
    injection e' with e1 _ e2
    injection e1 with e1
    injection e1 with e1 _ _
    subst e1 e2
    have hc0 := ints_get (xs := (outS t ws (m1 + 1) k).getD (t.outs.getD k 0).toNat []) (k := 0) (by omega)
    have hnr := (outS_good t ws (m1 + 1) k (t.outs.getD k 0).toNat (by rw [outS_length]; omega)).2
    repeat' (first
      | (show EL _ _ _ _ (_ :: _) _ _
         first
         | (show EL _ _ _ _ (⟨_, .load _ _, _, _, _, _⟩ :: _) _ _; refine EL.f (FV.load1 rfl rfl rfl hc3) rfl rfl ?_)
         | (show EL _ _ _ _ (⟨_, .move _, _, _, _, _⟩ :: _) _ _; refine EL.f (FV.move rfl) rfl rfl ?_)
         | (show EL _ _ _ _ (⟨_, .assign _, _, _, _, _⟩ :: _) _ _; refine EL.f (FV.assign rfl) rfl rfl ?_)
         | (show EL _ _ _ _ (⟨_, .binOp .lss _ _ _ _, _, _, _, _⟩ :: _) _ _; refine EL.fT (FV.lss rfl rfl) rfl (fun _ => rfl) (by omega) ?_)
         | (show EL _ _ _ _ (⟨_, .indexAddr _ _ _, _, _, _, _⟩ :: _) _ _; refine EL.f (FV.idx1 rfl rfl rfl rfl (by omega) (by omega)) rfl rfl ?_))
      | refine EL.nil ?_
      | refine EW.seq ?_
      | refine EW.region ?_
      | refine EW.block ?_
      | refine EW.skip ?_
      | refine EW.condT rfl ?_)
    refine EW.draw (fun w' => Ext wr w') (pl 0 14 ++ [(14, false), (15, true), (16, false)]) mixed (by decide +kernel) (Ext.drew _) ?_
    repeat' (first
      | refine EP.f rfl (FV.load rfl rfl rfl (fun w' h' => At.cell (At.ext h7 h') rfl)) rfl rfl ?_
      | refine EP.f rfl (FV.load rfl rfl rfl (fun w' h' => At.cell (At.ext hat h') (hout.get hrn))) rfl rfl ?_
      | refine EP.f rfl (FV.load rfl rfl rfl (fun w' h' => At.cell (At.ext hatr h') hc0)) rfl rfl ?_
      | refine EP.f rfl (FV.load rfl rfl rfl (fun w' h' => h'.cell hc4)) rfl rfl ?_
      | refine EP.f rfl (FV.move rfl) rfl rfl ?_
      | refine EP.f rfl (FV.idx0 rfl rfl rfl rfl (by omega) (by omega)) rfl rfl ?_
      | refine EP.f rfl (FV.idx1 rfl rfl rfl rfl (by omega) (by omega)) rfl rfl ?_)
    have ed := Ext.drew wr
    refine EP.h rfl rfl (Hv.call (implPlus _ _ wr.drew) rfl) rfl (fun _ => rfl) ?_
    rintro _ _ ⟨rfl, rfl⟩
    refine ⟨ed, ?_⟩
    repeat' (first
      | refine EP.f rfl (FV.idx0 rfl rfl rfl rfl (by omega) (by omega)) rfl rfl ?_)
    refine EP.last rfl rfl (by decide +kernel) (Hv.storeG (k := 0) rfl rfl rfl rfl rfl (At.ext hatr ed) hc0) rfl (fun _ => rfl) ?_
    rintro _ u2 ⟨hat2, hr2⟩
    have hw2 := (hout.ext ed).write hrn hat2 hr2
    have n7 := At.ne (At.ext h7 ed) (At.ext hatr ed) (by decide)
    have n3 := At.ne (At.ext hb ed) (At.ext hatr ed) (by decide)
    repeat' (first
      | refine EL.f (FV.move rfl) rfl rfl ?_
      | refine EL.f (FV.addI rfl rfl (by omega)) rfl rfl ?_
      | refine EL.nil ?_
      | refine EW.region ?_)
    refine ⟨k + 1, ⟨rfl, rfl, rfl, rfl, rfl, rfl, rfl, trivial⟩, ⟨by omega, ?_, At.kept (At.ext h7 ed) hr2 (by simp; exact n7), At.kept (At.ext hb ed) hr2 (by simp; exact n3), Below.wr (he.trans ed) hr2 hBr (Nat.le_refl _)⟩, by omega⟩
    rw [outS]
    unfold putL
    rw [add_const hlr (by omega) hnr]
    exact hw2
  obtain rfl : k = t.outs.length := by omega
  obtain ⟨g', c', e', _, hat⟩ := own_at hout.own hn0
  injection e' with e1 _ e2
  injection e1 with e1
  injection e1 with e1 _ _
  subst e1 e2
  have hO := hout.outA hat hBg
  repeat' (first
    | (show EL _ _ _ _ (_ :: _) _ _
       first
       | (show EL _ _ _ _ (⟨_, .fieldAddr _ _ _, _, _, _, _⟩ :: _) _ _; refine EL.f (FV.fieldAddr rfl rfl rfl rfl rfl) rfl rfl ?_)
       | (show EL _ _ _ _ (⟨_, .load _ _, _, _, _, _⟩ :: _) _ _; refine EL.f (FV.load1 rfl rfl rfl (At.cell hb rfl)) rfl rfl ?_)
       | (show EL _ _ _ _ (⟨_, .assign _, _, _, _, _⟩ :: _) _ _; refine EL.f (FV.assign rfl) rfl rfl ?_)
       | (show EL _ _ _ _ (⟨_, .binOp .sub _ _ _ _, _, _, _, _⟩ :: _) _ _; refine EL.f (FV.subI rfl rfl (by omega)) rfl rfl ?_)
       | (show EL _ _ _ _ (⟨_, .call _, _, _, _, _⟩ :: _) _ _; refine EL.f (FV.len rfl rfl) rfl rfl ?_)
       | (show EL _ _ _ _ (⟨_, .binOp .lss _ _ _ _, _, _, _, _⟩ :: _) _ _; refine EL.fF (FV.lss rfl rfl) rfl (fun _ => rfl) (by omega) ?_))
    | refine EL.nil ?_
    | refine EW.seq ?_
    | refine EW.region ?_
    | refine EW.block ?_
    | refine EW.exit ?_
    | refine EW.condF rfl ?_)
  refine EW.loop (fun y wz => y ≤ t.code.length ∧ OutA w.heap.size wz g c t.code.length (swS t regs ws (m1 + 1) (t.code.length - y)) ∧ At wz 52 1 g7 1 1 [.slice (some ⟨g, 0, none⟩) t.code.length c] ∧ At wz 32 4 g3 1 1 [.int .i64 t.inputs, .slice P t.code.length p, .slice Q t.guards.length q, .slice R t.outs.length r] ∧ Ext w wz) (fun y => [(1, .slice (some ⟨b8, o8, none⟩) t.code.length cR), (3, .pointer (some ⟨g3, 0, none⟩)), (7, .pointer (some ⟨g7, 0, none⟩)), (12, .int .i64 ((y : Int) - 1))]) (fun y => y) t.code.length ⟨Nat.le_refl _, by rw [Nat.sub_self]; exact hO, h7, hb, he⟩ ⟨rfl, rfl, rfl, rfl, trivial⟩ ?_
  clear hO hout h7 hb he hat
  rintro y wr ⟨hy, hO, h7, hb, he⟩
  cases y with
  | zero =>
    repeat' (first
      | (show EL _ _ _ _ (_ :: _) _ _
         first
         | (show EL _ _ _ _ (⟨_, .load _ _, _, _, _, _⟩ :: _) _ _; refine EL.f (FV.load1 rfl rfl rfl (At.cell h7 rfl)) rfl rfl ?_)
         | (show EL _ _ _ _ (⟨_, .move _, _, _, _, _⟩ :: _) _ _; refine EL.f (FV.move rfl) rfl rfl ?_)
         | (show EL _ _ _ _ (⟨_, .assign _, _, _, _, _⟩ :: _) _ _; refine EL.f (FV.assign rfl) rfl rfl ?_)
         | (show EL _ _ _ _ (⟨_, .binOp .geq _ _ _ _, _, _, _, _⟩ :: _) _ _; refine EL.fF (FV.geq rfl rfl) rfl (fun _ => rfl) (by omega) ?_))
      | refine EL.nil ?_
      | refine EW.seq ?_
      | refine EW.region ?_
      | refine EW.exit ?_
      | refine EW.ret ?_
      | refine EW.condF rfl ?_)
    exact ⟨_, rfl, hO.outR, he⟩
  | succ m =>
  rw [show (((m + 1 : Nat)) : Int) - 1 = (m : Int) from by omega]
  obtain ⟨x1, p1, rfl, hp⟩ := Rd.elem insV_length (by decide) dIns (r1.ext he) (k := m) (by omega)
  have okk := okc m (by omega)
  have hop := okI_op okk
  have hnext := swS_next (t := t) (regs := regs) (ws := ws) (sz := m1 + 1) (m := m) (by omega)
  have hgood := swS_good t regs ws (m1 + 1) (t.code.length - (m + 1))
  have hal := swS_length t regs ws (m1 + 1) (t.code.length - (m + 1))
  generalize swS t regs ws (m1 + 1) (t.code.length - (m + 1)) = a at *
  generalize t.code.getD m dIns = x at *
  obtain ⟨Aw, cw, hcw, hown0, _⟩ := hO.get (i := m) (by omega)
  repeat' (first
    | refine EL.f (FV.move rfl) rfl rfl ?_
    | refine EL.fT (FV.geq rfl rfl) rfl (fun _ => rfl) (by omega) ?_
    | refine EL.nil ?_
    | refine EW.seq ?_
    | refine EW.region ?_
    | refine EW.skip ?_
    | refine EW.condT rfl ?_)
  refine EW.block ?_
  repeat' (first
    | refine EW.seq ?_)
  refine EW.viaM (fun ρ' w' => ∃ g13, Sub [(1, .slice (some ⟨b8, o8, none⟩) t.code.length cR), (3, .pointer (some ⟨g3, 0, none⟩)), (7, .pointer (some ⟨g7, 0, none⟩)), (12, .int .i64 m), (13, .pointer (some ⟨g13, 0, none⟩)), (14, .slice Aw (a.getD m []).length cw)] ρ' ∧ At w' 65 4 g13 1 1 (insV x) ∧ Ext wr w') ?_ ?_
  · refine EW.draw (fun w' => Ext wr w') (pl 0 9 ++ [(9, false), (10, false), (11, true)]) mixed (by decide +kernel) (Ext.drew _) ?_
    repeat' (first
      | refine EP.f rfl (FV.fieldAddr rfl rfl rfl rfl rfl) rfl rfl ?_
      | refine EP.f rfl (FV.idx (s := 4) rfl rfl rfl rfl (by omega) (by omega)) rfl rfl ?_
      | refine EP.f rfl (FV.loadAgg (cs := insV x) rfl rfl rfl rfl rfl (fun _ h2 => hp.ext h2)) rfl rfl ?_
      | refine EP.f rfl (FV.load rfl rfl rfl (fun w' h' => At.cell (At.ext hb h') rfl)) rfl rfl ?_
      | refine EP.f rfl (FV.load rfl rfl rfl (fun w' h' => At.cell (At.ext h7 h') rfl)) rfl rfl ?_
      | refine EP.f rfl (FV.load rfl rfl rfl (fun w' h' => h'.cell hcw)) rfl rfl ?_
      | refine EP.f rfl (FV.move rfl) rfl rfl ?_
      | refine EP.f rfl (FV.idx0 rfl rfl rfl rfl (by omega) (by omega)) rfl rfl ?_)
    refine EP.h rfl rfl (Hv.allocA rfl rfl) rfl (fun _ => rfl) ?_
    rintro _ w4 ⟨g4, rfl, hg4, h4, he4⟩
    have e4 := (Ext.drew wr).trans he4
    refine ⟨e4, ?_⟩
    refine EP.h rfl rfl (Hv.storeAggG (vs := insV x) rfl rfl rfl rfl (insV_one _) h4 (Nat.le_refl _)) rfl (fun _ => rfl) ?_
    rintro _ w6 ⟨h5, hr5⟩
    have hdr : wr.drew.heap.size = wr.heap.size := rfl
    have hw5 : Ext wr w6 := Below.wr e4 hr5 (by omega) (Nat.le_refl _)
    refine ⟨hw5, ?_⟩
    repeat' (first
      | refine EP.nil ?_
      | refine EP.f rfl (FV.assign rfl) rfl rfl ?_)
    exact ⟨g4, ⟨rfl, rfl, rfl, rfl, rfl, rfl, trivial⟩, h5, hw5⟩
  rintro ρ5 w6 ⟨g13, hsub5, h5, hw5⟩
  refine EW.weaken ?_ hsub5
  clear hsub5
  replace hO := hO.ext hw5
  replace h7 := At.ext h7 hw5
  replace hb := At.ext hb hw5
  have hW := he.trans hw5
  have hown := hown0.ext hw5
  repeat' (first
    | (show EL _ _ _ _ (_ :: _) _ _
       first
       | (show EL _ _ _ _ (⟨_, .fieldAddr _ _ _, _, _, _, _⟩ :: _) _ _; refine EL.f (FV.fieldAddr rfl rfl rfl rfl rfl) rfl rfl ?_)
       | (show EL _ _ _ _ (⟨_, .load _ _, _, _, _, _⟩ :: _) _ _; refine EL.f (FV.load1 rfl rfl rfl (At.cell h5 rfl)) rfl rfl ?_)
       | (show EL _ _ _ _ (⟨_, .makeFunc _ _ _, _, _, _, _⟩ :: _) _ _; refine EL.f (FV.makeFn rfl) rfl rfl ?_)
       | (show EL _ _ _ _ (⟨_, .assign _, _, _, _, _⟩ :: _) _ _; refine EL.f (FV.assign rfl) rfl rfl ?_))
    | refine EL.nil ?_
    | refine EW.seq ?_
    | refine EW.region ?_)
  refine EW.viaN (fun ρ' w' => Sub [(1, .slice (some ⟨b8, o8, none⟩) t.code.length cR), (3, .pointer (some ⟨g3, 0, none⟩)), (7, .pointer (some ⟨g7, 0, none⟩)), (12, .int .i64 m)] ρ' ∧ OutA w.heap.size w' g c t.code.length (swStep regs m x a) ∧ At w' 52 1 g7 1 1 [.slice (some ⟨g, 0, none⟩) t.code.length c] ∧ At w' 32 4 g3 1 1 [.int .i64 t.inputs, .slice (some ⟨x1, p1, none⟩) t.code.length p, .slice Q t.guards.length q, .slice R t.outs.length r] ∧ Ext w w') ?_ ?_
  · refine EW.block ?_
    generalize hov : Value.slice Aw (a.getD m []).length cw = ownv at *
    by_cases o3 : x.op = 3
    · obtain ⟨⟨oa0, oa1⟩, ob0, ob1⟩ := okI_bin okk (by omega)
      obtain ⟨lo, no⟩ := hgood m (by omega)
      obtain ⟨Ao, co, rfl, hro⟩ : ∃ A c, ownv = .slice A (a.getD m []).length c ∧ Rd w6 A (ints (a.getD m [])) := hown.rd
      repeat' (first
        | (show EL _ _ _ _ (_ :: _) _ _
           first
           | (show EL _ _ _ _ (⟨_, .fieldAddr _ _ _, _, _, _, _⟩ :: _) _ _; refine EL.f (FV.fieldAddr rfl rfl rfl rfl rfl) rfl rfl ?_)
           | (show EL _ _ _ _ (⟨_, .load _ _, _, _, _, _⟩ :: _) _ _; refine EL.f (FV.load1 rfl rfl rfl (At.cell h5 rfl)) rfl rfl ?_)
           | (show EL _ _ _ _ (⟨_, .move _, _, _, _, _⟩ :: _) _ _; refine EL.f (FV.move rfl) rfl rfl ?_)
           | (show EL _ _ _ _ (⟨_, .assign _, _, _, _, _⟩ :: _) _ _; refine EL.f (FV.assign rfl) rfl rfl ?_)
           | (show EL _ _ _ _ (⟨_, .binOp .eql _ _ _ _, _, _, _, _⟩ :: _) _ _; refine EL.fT (FV.eql rfl rfl) rfl (fun _ => rfl) (by omega) ?_))
        | refine EL.nil ?_
        | refine EW.seq ?_
        | refine EW.region ?_
        | refine EW.condT rfl ?_)
      refine EL.h (Hv.callC (vs := [.int .i64 x.a, .slice Ao ((a.getD m [])).length co]) (implPut w.heap.size g c t.code.length g7 (m1 + 1) a x.a Ao co (a.getD m []) w6 (At.cell h7 rfl) hO ⟨by omega, by omega⟩ hgood hro lo no (by omega)) rfl rfl) rfl (fun _ => rfl) ?_
      rintro _ u31 ⟨hO31, hon31⟩
      replace h5 := At.only h5 hon31 (hO.apart h5 (by decide))
      replace h7 := At.only h7 hon31 (hO.apart h7 (by decide))
      replace hb := At.only hb hon31 (hO.apart hb (by decide))
      replace hown := RowB.onlyA hown hO hon31
      replace hW := Ext.only hW hon31 hO.lo
      clear hO
      have hO : OutA w.heap.size u31 g c t.code.length (putL a x.a (a.getD m [])) := hO31
      clear hO31
      obtain ⟨Ao2, co2, eo2, hro2⟩ := hown.rd
      injection eo2 with eo2 _ _
      subst eo2
      repeat' (first
        | refine EL.f (FV.fieldAddr rfl rfl rfl rfl rfl) rfl rfl ?_
        | refine EL.f (FV.load1 rfl rfl rfl (At.cell h5 rfl)) rfl rfl ?_
        | refine EL.f (FV.move rfl) rfl rfl ?_
        | refine EL.nil ?_
        | refine EW.region ?_)
      refine EL.h (Hv.callC (vs := [.int .i64 x.b, .slice Ao ((a.getD m [])).length co]) (implPut w.heap.size g c t.code.length g7 (m1 + 1) (putL a x.a (a.getD m [])) x.b Ao co (a.getD m []) u31 (At.cell h7 rfl) hO ⟨by omega, by omega⟩ (putL_good hgood x.a (a.getD m [])) hro2 lo no (by omega)) rfl rfl) rfl (fun _ => rfl) ?_
      rintro _ u32 ⟨hO32, hon32⟩
      replace h5 := At.only h5 hon32 (hO.apart h5 (by decide))
      replace h7 := At.only h7 hon32 (hO.apart h7 (by decide))
      replace hb := At.only hb hon32 (hO.apart hb (by decide))
      replace hown := RowB.onlyA hown hO hon32
      replace hW := Ext.only hW hon32 hO.lo
      clear hO
      have hO : OutA w.heap.size u32 g c t.code.length (putL (putL a x.a (a.getD m [])) x.b (a.getD m [])) := hO32
      clear hO32
      repeat' (first
        | refine EL.nil ?_)
      exact ⟨⟨rfl, rfl, rfl, rfl, trivial⟩, by unfold swStep; rw [if_pos o3]; exact hO, h7, hb, hW⟩
    by_cases o4 : x.op = 4
    · obtain ⟨⟨oa0, oa1⟩, ob0, ob1⟩ := okI_bin okk (by omega)
      obtain ⟨lo, no⟩ := hgood m (by omega)
      obtain ⟨Ao, co, rfl, hro⟩ : ∃ A c, ownv = .slice A (a.getD m []).length c ∧ Rd w6 A (ints (a.getD m [])) := hown.rd
      repeat' (first
        | (show EL _ _ _ _ (_ :: _) _ _
           first
           | (show EL _ _ _ _ (⟨_, .fieldAddr _ _ _, _, _, _, _⟩ :: _) _ _; refine EL.f (FV.fieldAddr rfl rfl rfl rfl rfl) rfl rfl ?_)
           | (show EL _ _ _ _ (⟨_, .load _ _, _, _, _, _⟩ :: _) _ _; refine EL.f (FV.load1 rfl rfl rfl (At.cell h5 rfl)) rfl rfl ?_)
           | (show EL _ _ _ _ (⟨_, .move _, _, _, _, _⟩ :: _) _ _; refine EL.f (FV.move rfl) rfl rfl ?_)
           | (show EL _ _ _ _ (⟨_, .assign _, _, _, _, _⟩ :: _) _ _; refine EL.f (FV.assign rfl) rfl rfl ?_)
           | (show EL _ _ _ _ (⟨_, .binOp .eql _ _ _ _, _, _, _, _⟩ :: _) _ _; first | refine EL.fT (FV.eql rfl rfl) rfl (fun _ => rfl) (by omega) ?_ | refine EL.fF (FV.eql rfl rfl) rfl (fun _ => rfl) (by omega) ?_))
        | refine EL.nil ?_
        | refine EW.seq ?_
        | refine EW.region ?_
        | refine EW.condT rfl ?_
        | refine EW.condF rfl ?_)
      refine EL.h (Hv.callC (vs := [.int .i64 x.a, .slice Ao ((a.getD m [])).length co]) (implPut w.heap.size g c t.code.length g7 (m1 + 1) a x.a Ao co (a.getD m []) w6 (At.cell h7 rfl) hO ⟨by omega, by omega⟩ hgood hro lo no (by omega)) rfl rfl) rfl (fun _ => rfl) ?_
      rintro _ u41 ⟨hO41, hon41⟩
      replace h5 := At.only h5 hon41 (hO.apart h5 (by decide))
      replace h7 := At.only h7 hon41 (hO.apart h7 (by decide))
      replace hb := At.only hb hon41 (hO.apart hb (by decide))
      replace hown := RowB.onlyA hown hO hon41
      replace hW := Ext.only hW hon41 hO.lo
      clear hO
      have hO : OutA w.heap.size u41 g c t.code.length (putL a x.a (a.getD m [])) := hO41
      clear hO41
      obtain ⟨Ao2, co2, eo2, hro2⟩ := hown.rd
      injection eo2 with eo2 _ _
      subst eo2
      repeat' (first
        | refine EL.nil ?_)
      refine EW.draw (fun w' => Only [some g] u41 w') (pl 0 4 ++ [(4, false), (5, false)]) mixed (by decide +kernel) (Only.weak (Ext.drew _)) ?_
      repeat' (first
        | refine EP.f rfl (FV.fieldAddr rfl rfl rfl rfl rfl) rfl rfl ?_
        | refine EP.f rfl (FV.load rfl rfl rfl (fun w' h' => At.cell (At.only h5 h' (hO.apart h5 (by decide))) rfl)) rfl rfl ?_
        | refine EP.f rfl (FV.move rfl) rfl rfl ?_)
      have ed42 := Ext.drew u41
      refine EP.h rfl rfl (Hv.call (implScaled Ao co _ 1000002 u41.drew (hro2.ext ed42) (by omega) no (by omega)) rfl) rfl (fun _ => rfl) ?_
      rintro q42_0 uq42_0 ⟨oq42_0, fq42_0⟩
      have e42_0 := ed42.trans fq42_0
      refine ⟨Only.weak e42_0, ?_⟩
      obtain ⟨Aq42_0, cq42_0, rfl, hq42_0⟩ := OwnI.form oq42_0
      refine EP.h rfl rfl (Hv.callC (vs := [.int .i64 x.b, .slice Aq42_0 ((scaleL (a.getD m []) 1000002)).length cq42_0]) (implPut w.heap.size g c t.code.length g7 (m1 + 1) (putL a x.a (a.getD m [])) x.b Aq42_0 cq42_0 (scaleL (a.getD m []) 1000002) uq42_0 (At.cell (At.ext h7 e42_0) rfl) (hO.ext e42_0) ⟨by omega, by omega⟩ (putL_good hgood x.a (a.getD m [])) hq42_0 (by rw [scaleL_length]; exact lo) (nums_scaleL _ _) (by omega)) rfl rfl) rfl (fun _ => rfl) ?_
      rintro _ u42 ⟨hO42, hon42⟩
      replace hon42 := Only.then_ e42_0 hon42
      refine ⟨hon42, ?_⟩
      repeat' (first
        | refine EP.nil ?_)
      replace h5 := At.only h5 hon42 (hO.apart h5 (by decide))
      replace h7 := At.only h7 hon42 (hO.apart h7 (by decide))
      replace hb := At.only hb hon42 (hO.apart hb (by decide))
      replace hown := RowB.onlyA hown hO hon42
      replace hW := Ext.only hW hon42 hO.lo
      clear hO
      have hO : OutA w.heap.size u42 g c t.code.length (putL (putL a x.a (a.getD m [])) x.b (scaleL (a.getD m []) 1000002)) := hO42
      clear hO42
      skip
      exact ⟨⟨rfl, rfl, rfl, rfl, trivial⟩, by unfold swStep; rw [if_neg o3, if_pos o4]; exact hO, h7, hb, hW⟩
    by_cases o5 : x.op = 5
    · obtain ⟨⟨oa0, oa1⟩, ob0, ob1⟩ := okI_bin okk (by omega)
      obtain ⟨lo, no⟩ := hgood m (by omega)
      obtain ⟨Ao, co, rfl, hro⟩ : ∃ A c, ownv = .slice A (a.getD m []).length c ∧ Rd w6 A (ints (a.getD m [])) := hown.rd
      obtain ⟨Bga, cga, hcga, hrga⟩ := hregs x.a.toNat (by omega)
      obtain ⟨lga, nga⟩ := hgr x.a.toNat (by omega)
      obtain ⟨Bgb, cgb, hcgb, hrgb⟩ := hregs x.b.toNat (by omega)
      obtain ⟨lgb, ngb⟩ := hgr x.b.toNat (by omega)
      repeat' (first
        | refine EL.f (FV.assign rfl) rfl rfl ?_
        | refine EL.fT (FV.eql rfl rfl) rfl (fun _ => rfl) (by omega) ?_
        | refine EL.fF (FV.eql rfl rfl) rfl (fun _ => rfl) (by omega) ?_
        | refine EL.nil ?_
        | refine EW.seq ?_
        | refine EW.region ?_
        | refine EW.condT rfl ?_
        | refine EW.condF rfl ?_)
      refine EW.draw (fun w' => Only [some g] w6 w') (pl 0 9 ++ [(9, false), (10, false)]) mixed (by decide +kernel) (Only.weak (Ext.drew _)) ?_
      repeat' (first
        | refine EP.f rfl (FV.fieldAddr rfl rfl rfl rfl rfl) rfl rfl ?_
        | refine EP.f rfl (FV.load rfl rfl rfl (fun w' h' => At.cell (At.only h5 h' (hO.apart h5 (by decide))) rfl)) rfl rfl ?_
        | refine EP.f rfl (FV.load rfl rfl rfl (fun w' h' => (Ext.only hW h' hO.lo).cell hcgb)) rfl rfl ?_
        | refine EP.f rfl (FV.move rfl) rfl rfl ?_
        | refine EP.f rfl (FV.idx1 rfl rfl rfl rfl (by omega) (by omega)) rfl rfl ?_)
      have ed51 := Ext.drew w6
      refine EP.h rfl rfl (Hv.call (implProduct Ao Bgb co cgb _ _ w6.drew (hro.ext ed51) ((hrgb.ext hW).ext ed51) (by omega) (by omega) no ngb) rfl) rfl (fun _ => rfl) ?_
      rintro q51_0 uq51_0 ⟨oq51_0, fq51_0⟩
      have e51_0 := ed51.trans fq51_0
      refine ⟨Only.weak e51_0, ?_⟩
      obtain ⟨Aq51_0, cq51_0, rfl, hq51_0⟩ := OwnI.form oq51_0
      refine EP.h rfl rfl (Hv.callC (vs := [.int .i64 x.a, .slice Aq51_0 ((mulL (a.getD m []) (regs.getD x.b.toNat []))).length cq51_0]) (implPut w.heap.size g c t.code.length g7 (m1 + 1) a x.a Aq51_0 cq51_0 (mulL (a.getD m []) (regs.getD x.b.toNat [])) uq51_0 (At.cell (At.ext h7 e51_0) rfl) (hO.ext e51_0) ⟨by omega, by omega⟩ hgood hq51_0 (by rw [mulL_length]; exact lo) (nums_mulL _ _) (by omega)) rfl rfl) rfl (fun _ => rfl) ?_
      rintro _ u51 ⟨hO51, hon51⟩
      replace hon51 := Only.then_ e51_0 hon51
      refine ⟨hon51, ?_⟩
      repeat' (first
        | refine EP.nil ?_)
      replace h5 := At.only h5 hon51 (hO.apart h5 (by decide))
      replace h7 := At.only h7 hon51 (hO.apart h7 (by decide))
      replace hb := At.only hb hon51 (hO.apart hb (by decide))
      replace hown := RowB.onlyA hown hO hon51
      replace hW := Ext.only hW hon51 hO.lo
      clear hO
      have hO : OutA w.heap.size u51 g c t.code.length (putL a x.a (mulL (a.getD m []) (regs.getD x.b.toNat []))) := hO51
      clear hO51
      obtain ⟨Ao2, co2, eo2, hro2⟩ := hown.rd
      injection eo2 with eo2 _ _
      subst eo2
      skip
      refine EW.draw (fun w' => Only [some g] u51 w') (pl 0 9 ++ [(9, false), (10, false)]) mixed (by decide +kernel) (Only.weak (Ext.drew _)) ?_
      repeat' (first
        | refine EP.f rfl (FV.fieldAddr rfl rfl rfl rfl rfl) rfl rfl ?_
        | refine EP.f rfl (FV.load rfl rfl rfl (fun w' h' => At.cell (At.only h5 h' (hO.apart h5 (by decide))) rfl)) rfl rfl ?_
        | refine EP.f rfl (FV.load rfl rfl rfl (fun w' h' => (Ext.only hW h' hO.lo).cell hcga)) rfl rfl ?_
        | refine EP.f rfl (FV.move rfl) rfl rfl ?_
        | refine EP.f rfl (FV.idx1 rfl rfl rfl rfl (by omega) (by omega)) rfl rfl ?_)
      have ed52 := Ext.drew u51
      refine EP.h rfl rfl (Hv.call (implProduct Ao Bga co cga _ _ u51.drew (hro2.ext ed52) ((hrga.ext hW).ext ed52) (by omega) (by omega) no nga) rfl) rfl (fun _ => rfl) ?_
      rintro q52_0 uq52_0 ⟨oq52_0, fq52_0⟩
      have e52_0 := ed52.trans fq52_0
      refine ⟨Only.weak e52_0, ?_⟩
      obtain ⟨Aq52_0, cq52_0, rfl, hq52_0⟩ := OwnI.form oq52_0
      refine EP.h rfl rfl (Hv.callC (vs := [.int .i64 x.b, .slice Aq52_0 ((mulL (a.getD m []) (regs.getD x.a.toNat []))).length cq52_0]) (implPut w.heap.size g c t.code.length g7 (m1 + 1) (putL a x.a (mulL (a.getD m []) (regs.getD x.b.toNat []))) x.b Aq52_0 cq52_0 (mulL (a.getD m []) (regs.getD x.a.toNat [])) uq52_0 (At.cell (At.ext h7 e52_0) rfl) (hO.ext e52_0) ⟨by omega, by omega⟩ (putL_good hgood x.a (mulL (a.getD m []) (regs.getD x.b.toNat []))) hq52_0 (by rw [mulL_length]; exact lo) (nums_mulL _ _) (by omega)) rfl rfl) rfl (fun _ => rfl) ?_
      rintro _ u52 ⟨hO52, hon52⟩
      replace hon52 := Only.then_ e52_0 hon52
      refine ⟨hon52, ?_⟩
      repeat' (first
        | refine EP.nil ?_)
      replace h5 := At.only h5 hon52 (hO.apart h5 (by decide))
      replace h7 := At.only h7 hon52 (hO.apart h7 (by decide))
      replace hb := At.only hb hon52 (hO.apart hb (by decide))
      replace hown := RowB.onlyA hown hO hon52
      replace hW := Ext.only hW hon52 hO.lo
      clear hO
      have hO : OutA w.heap.size u52 g c t.code.length (putL (putL a x.a (mulL (a.getD m []) (regs.getD x.b.toNat []))) x.b (mulL (a.getD m []) (regs.getD x.a.toNat []))) := hO52
      clear hO52
      skip
      exact ⟨⟨rfl, rfl, rfl, rfl, trivial⟩, by unfold swStep; rw [if_neg o3, if_neg o4, if_pos o5]; exact hO, h7, hb, hW⟩
    by_cases o6 : x.op = 6
    · obtain ⟨⟨oa0, oa1⟩, ob0, ob1⟩ := okI_bin okk (by omega)
      obtain ⟨lo, no⟩ := hgood m (by omega)
      obtain ⟨Ao, co, rfl, hro⟩ : ∃ A c, ownv = .slice A (a.getD m []).length c ∧ Rd w6 A (ints (a.getD m [])) := hown.rd
      obtain ⟨Bga, cga, hcga, hrga⟩ := hregs x.a.toNat (by omega)
      obtain ⟨lga, nga⟩ := hgr x.a.toNat (by omega)
      obtain ⟨Bgb, cgb, hcgb, hrgb⟩ := hregs x.b.toNat (by omega)
      obtain ⟨lgb, ngb⟩ := hgr x.b.toNat (by omega)
      obtain ⟨Bgi, cgi, hcgi, hrgi⟩ := hregs m (by omega)
      obtain ⟨lgi, ngi⟩ := hgr m (by omega)
      repeat' (first
        | (show EL _ _ _ _ (_ :: _) _ _
           first
           | (show EL _ _ _ _ (⟨_, .fieldAddr _ _ _, _, _, _, _⟩ :: _) _ _; refine EL.f (FV.fieldAddr rfl rfl rfl rfl rfl) rfl rfl ?_)
           | (show EL _ _ _ _ (⟨_, .load _ _, _, _, _, _⟩ :: _) _ _; first | refine EL.f (FV.load1 rfl rfl rfl (At.cell h5 rfl)) rfl rfl ?_ | refine EL.f (FV.load1 rfl rfl rfl (hW.cell hcgb)) rfl rfl ?_)
           | (show EL _ _ _ _ (⟨_, .move _, _, _, _, _⟩ :: _) _ _; refine EL.f (FV.move rfl) rfl rfl ?_)
           | (show EL _ _ _ _ (⟨_, .assign _, _, _, _, _⟩ :: _) _ _; refine EL.f (FV.assign rfl) rfl rfl ?_)
           | (show EL _ _ _ _ (⟨_, .binOp .eql _ _ _ _, _, _, _, _⟩ :: _) _ _; first | refine EL.fT (FV.eql rfl rfl) rfl (fun _ => rfl) (by omega) ?_ | refine EL.fF (FV.eql rfl rfl) rfl (fun _ => rfl) (by omega) ?_)
           | (show EL _ _ _ _ (⟨_, .indexAddr _ _ _, _, _, _, _⟩ :: _) _ _; refine EL.f (FV.idx1 rfl rfl rfl rfl (by omega) (by omega)) rfl rfl ?_))
        | refine EL.nil ?_
        | refine EW.seq ?_
        | refine EW.region ?_
        | refine EW.condT rfl ?_
        | refine EW.condF rfl ?_)
      refine EL.h (Hv.call (implQuotient Ao Bgb co cgb _ _ w6 hro (hrgb.ext hW) (by omega) (by omega) (by omega) no ngb) rfl) rfl (fun _ => rfl) ?_
      rintro shv usd ⟨hshd, esd⟩
      have hsh := RowB.own (B := w.heap.size) hshd
      obtain ⟨As, cs, rfl, hrs⟩ := OwnI.form hshd
      replace hW := hW.trans esd
      replace hO := hO.ext esd
      replace h5 := At.ext h5 esd
      replace h7 := At.ext h7 esd
      replace hb := At.ext hb esd
      replace hown := hown.ext esd
      have hls : (divL (a.getD m []) (regs.getD x.b.toNat [])).length = m1 + 1 := by rw [divL_length]; exact lo
      repeat' (first
        | (show EL _ _ _ _ (_ :: _) _ _
           first
           | (show EL _ _ _ _ (⟨_, .fieldAddr _ _ _, _, _, _, _⟩ :: _) _ _; refine EL.f (FV.fieldAddr rfl rfl rfl rfl rfl) rfl rfl ?_)
           | (show EL _ _ _ _ (⟨_, .load _ _, _, _, _, _⟩ :: _) _ _; refine EL.f (FV.load1 rfl rfl rfl (At.cell h5 rfl)) rfl rfl ?_)
           | (show EL _ _ _ _ (⟨_, .move _, _, _, _, _⟩ :: _) _ _; refine EL.f (FV.move rfl) rfl rfl ?_)
           | (show EL _ _ _ _ (⟨_, .assign _, _, _, _, _⟩ :: _) _ _; refine EL.f (FV.assign rfl) rfl rfl ?_))
        | refine EL.nil ?_
        | refine EW.seq ?_
        | refine EW.region ?_)
      refine EL.h (Hv.callC (vs := [.int .i64 x.a, .slice As ((divL (a.getD m []) (regs.getD x.b.toNat []))).length cs]) (implPut w.heap.size g c t.code.length g7 (m1 + 1) a x.a As cs (divL (a.getD m []) (regs.getD x.b.toNat [])) usd (At.cell h7 rfl) hO ⟨by omega, by omega⟩ hgood hrs hls nums_divL (by omega)) rfl rfl) rfl (fun _ => rfl) ?_
      rintro _ u61 ⟨hO61, hon61⟩
      replace h5 := At.only h5 hon61 (hO.apart h5 (by decide))
      replace h7 := At.only h7 hon61 (hO.apart h7 (by decide))
      replace hb := At.only hb hon61 (hO.apart hb (by decide))
      replace hown := RowB.onlyA hown hO hon61
      replace hsh := RowB.onlyA hsh hO hon61
      replace hW := Ext.only hW hon61 hO.lo
      clear hO
      have hO : OutA w.heap.size u61 g c t.code.length (putL a x.a (divL (a.getD m []) (regs.getD x.b.toNat []))) := hO61
      clear hO61
      obtain ⟨As2, cs2, es2, hrs2⟩ := hsh.rd
      injection es2 with es2 _ _
      subst es2
      repeat' (first
        | refine EL.nil ?_)
      refine EW.draw (fun w' => Only [some g] u61 w') (pl 0 8 ++ [(8, false), (9, false), (10, false)]) mixed (by decide +kernel) (Only.weak (Ext.drew _)) ?_
      repeat' (first
        | refine EP.f rfl (FV.fieldAddr rfl rfl rfl rfl rfl) rfl rfl ?_
        | refine EP.f rfl (FV.load rfl rfl rfl (fun w' h' => At.cell (At.only h5 h' (hO.apart h5 (by decide))) rfl)) rfl rfl ?_
        | refine EP.f rfl (FV.load rfl rfl rfl (fun w' h' => (Ext.only hW h' hO.lo).cell hcgi)) rfl rfl ?_
        | refine EP.f rfl (FV.move rfl) rfl rfl ?_
        | refine EP.f rfl (FV.idx1 rfl rfl rfl rfl (by omega) (by omega)) rfl rfl ?_)
      have ed62 := Ext.drew u61
      refine EP.h rfl rfl (Hv.call (implProduct As Bgi cs cgi _ _ u61.drew (hrs2.ext ed62) ((hrgi.ext hW).ext ed62) (by omega) (by omega) nums_divL ngi) rfl) rfl (fun _ => rfl) ?_
      rintro q62_0 uq62_0 ⟨oq62_0, fq62_0⟩
      have e62_0 := ed62.trans fq62_0
      refine ⟨Only.weak e62_0, ?_⟩
      obtain ⟨Aq62_0, cq62_0, rfl, hq62_0⟩ := OwnI.form oq62_0
      refine EP.h rfl rfl (Hv.call (implScaled Aq62_0 cq62_0 _ 1000002 uq62_0 hq62_0 (by rw [mulL_length]; omega) (nums_mulL _ _) (by omega)) rfl) rfl (fun _ => rfl) ?_
      rintro q62_1 uq62_1 ⟨oq62_1, fq62_1⟩
      have e62_1 := e62_0.trans fq62_1
      refine ⟨Only.weak e62_1, ?_⟩
      obtain ⟨Aq62_1, cq62_1, rfl, hq62_1⟩ := OwnI.form oq62_1
      refine EP.h rfl rfl (Hv.callC (vs := [.int .i64 x.b, .slice Aq62_1 ((scaleL (mulL (divL (a.getD m []) (regs.getD x.b.toNat [])) (regs.getD m [])) 1000002)).length cq62_1]) (implPut w.heap.size g c t.code.length g7 (m1 + 1) (putL a x.a (divL (a.getD m []) (regs.getD x.b.toNat []))) x.b Aq62_1 cq62_1 (scaleL (mulL (divL (a.getD m []) (regs.getD x.b.toNat [])) (regs.getD m [])) 1000002) uq62_1 (At.cell (At.ext h7 e62_1) rfl) (hO.ext e62_1) ⟨by omega, by omega⟩ (putL_good hgood x.a (divL (a.getD m []) (regs.getD x.b.toNat []))) hq62_1 (by rw [scaleL_length, mulL_length]; exact hls) (nums_scaleL _ _) (by omega)) rfl rfl) rfl (fun _ => rfl) ?_
      rintro _ u62 ⟨hO62, hon62⟩
      replace hon62 := Only.then_ e62_1 hon62
      refine ⟨hon62, ?_⟩
      repeat' (first
        | refine EP.nil ?_)
      replace h5 := At.only h5 hon62 (hO.apart h5 (by decide))
      replace h7 := At.only h7 hon62 (hO.apart h7 (by decide))
      replace hb := At.only hb hon62 (hO.apart hb (by decide))
      replace hown := RowB.onlyA hown hO hon62
      replace hsh := RowB.onlyA hsh hO hon62
      replace hW := Ext.only hW hon62 hO.lo
      clear hO
      have hO : OutA w.heap.size u62 g c t.code.length (putL (putL a x.a (divL (a.getD m []) (regs.getD x.b.toNat []))) x.b (scaleL (mulL (divL (a.getD m []) (regs.getD x.b.toNat [])) (regs.getD m [])) 1000002)) := hO62
      clear hO62
      skip
      exact ⟨⟨rfl, rfl, rfl, rfl, trivial⟩, by unfold swStep; rw [if_neg o3, if_neg o4, if_neg o5, if_pos o6]; exact hO, h7, hb, hW⟩
    by_cases o7 : x.op = 7
    · obtain ⟨oa0, oa1⟩ := okI_neg okk o7
      obtain ⟨lo, no⟩ := hgood m (by omega)
      obtain ⟨Ao, co, rfl, hro⟩ : ∃ A c, ownv = .slice A (a.getD m []).length c ∧ Rd w6 A (ints (a.getD m [])) := hown.rd
      repeat' (first
        | refine EL.f (FV.assign rfl) rfl rfl ?_
        | refine EL.fT (FV.eql rfl rfl) rfl (fun _ => rfl) (by omega) ?_
        | refine EL.fF (FV.eql rfl rfl) rfl (fun _ => rfl) (by omega) ?_
        | refine EL.nil ?_
        | refine EW.seq ?_
        | refine EW.region ?_
        | refine EW.condT rfl ?_
        | refine EW.condF rfl ?_)
      refine EW.draw (fun w' => Only [some g] w6 w') (pl 0 4 ++ [(4, false), (5, false)]) mixed (by decide +kernel) (Only.weak (Ext.drew _)) ?_
      repeat' (first
        | refine EP.f rfl (FV.fieldAddr rfl rfl rfl rfl rfl) rfl rfl ?_
        | refine EP.f rfl (FV.load rfl rfl rfl (fun w' h' => At.cell (At.only h5 h' (hO.apart h5 (by decide))) rfl)) rfl rfl ?_
        | refine EP.f rfl (FV.move rfl) rfl rfl ?_)
      have ed71 := Ext.drew w6
      refine EP.h rfl rfl (Hv.call (implScaled Ao co _ 1000002 w6.drew (hro.ext ed71) (by omega) no (by omega)) rfl) rfl (fun _ => rfl) ?_
      rintro q71_0 uq71_0 ⟨oq71_0, fq71_0⟩
      have e71_0 := ed71.trans fq71_0
      refine ⟨Only.weak e71_0, ?_⟩
      obtain ⟨Aq71_0, cq71_0, rfl, hq71_0⟩ := OwnI.form oq71_0
      refine EP.h rfl rfl (Hv.callC (vs := [.int .i64 x.a, .slice Aq71_0 ((scaleL (a.getD m []) 1000002)).length cq71_0]) (implPut w.heap.size g c t.code.length g7 (m1 + 1) a x.a Aq71_0 cq71_0 (scaleL (a.getD m []) 1000002) uq71_0 (At.cell (At.ext h7 e71_0) rfl) (hO.ext e71_0) ⟨by omega, by omega⟩ hgood hq71_0 (by rw [scaleL_length]; exact lo) (nums_scaleL _ _) (by omega)) rfl rfl) rfl (fun _ => rfl) ?_
      rintro _ u71 ⟨hO71, hon71⟩
      replace hon71 := Only.then_ e71_0 hon71
      refine ⟨hon71, ?_⟩
      repeat' (first
        | refine EP.nil ?_)
      replace h5 := At.only h5 hon71 (hO.apart h5 (by decide))
      replace h7 := At.only h7 hon71 (hO.apart h7 (by decide))
      replace hb := At.only hb hon71 (hO.apart hb (by decide))
      replace hown := RowB.onlyA hown hO hon71
      replace hW := Ext.only hW hon71 hO.lo
      clear hO
      have hO : OutA w.heap.size u71 g c t.code.length (putL a x.a (scaleL (a.getD m []) 1000002)) := hO71
      clear hO71
      skip
      exact ⟨⟨rfl, rfl, rfl, rfl, trivial⟩, by unfold swStep; rw [if_neg o3, if_neg o4, if_neg o5, if_neg o6, if_pos o7]; exact hO, h7, hb, hW⟩
    repeat' (first
      | refine EL.f (FV.assign rfl) rfl rfl ?_
      | refine EL.fF (FV.eql rfl rfl) rfl (fun _ => rfl) (by omega) ?_
      | refine EL.nil ?_
      | refine EW.seq ?_
      | refine EW.region ?_
      | refine EW.skip ?_
      | refine EW.condF rfl ?_)
    exact ⟨⟨rfl, rfl, rfl, rfl, trivial⟩, by unfold swStep; rw [if_neg o3, if_neg o4, if_neg o5, if_neg o6, if_neg o7]; exact hO, h7, hb, hW⟩
  · rintro ρ' w7 ⟨hsub, hO7, h77, hb7, hW7⟩
    refine EW.weaken ?_ hsub
    repeat' (first
      | refine EL.f (FV.move rfl) rfl rfl ?_
      | refine EL.f (FV.assign rfl) rfl rfl ?_
      | refine EL.f (FV.subI rfl rfl (by omega)) rfl rfl ?_
      | refine EL.nil ?_
      | refine EW.region ?_)
    exact ⟨m, ⟨rfl, rfl, rfl, rfl, trivial⟩, ⟨by omega, by rw [hnext]; exact hO7, h77, hb7, hW7⟩, by omega⟩
end Eng
end Go.Proofs.Ytfkohgfcchhlpaa
