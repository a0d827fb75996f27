/- The registers of a tape: what they are, and both programs. Conditions: a valid tape, arguments of one size. -/
import Derived.Test.YtfkohgfcchhlpaaTz
namespace Go.Proofs.Ytfkohgfcchhlpaa
open Go Go.RowKit
namespace Eng
def stepS (args : List (List Int)) (sz : Nat) (out : List (List Int)) (x : Ins) : Option (List Int) :=
  if x.op = 1 then some (args.getD x.num.toNat [])
  else if x.op = 2 then some (constL x.num sz)
  else if x.op = 3 then some (addL (out.getD x.a.toNat []) (out.getD x.b.toNat []))
  else if x.op = 4 then some (subL (out.getD x.a.toNat []) (out.getD x.b.toNat []))
  else if x.op = 5 then some (mulL (out.getD x.a.toNat []) (out.getD x.b.toNat []))
  else if x.op = 7 then some (scaleL (out.getD x.a.toNat []) 1000002)
  else if (out.getD x.b.toNat []).getD 0 0 = 0 then none else some (divL (out.getD x.a.toNat []) (out.getD x.b.toNat []))
def regS (t : Tp) (args : List (List Int)) (sz : Nat) : Nat → Option (List (List Int))
  | 0 => some []
  | k + 1 => (regS t args sz k).bind fun out => (stepS args sz out (t.code.getD k dIns)).map fun s => out ++ [s]
/-- Series of one size, all of numbers. -/
def Good (sz : Nat) (xss : List (List Int)) : Prop := ∀ i, i < xss.length → (xss.getD i []).length = sz ∧ nums (xss.getD i []) = true
theorem Good.nil (sz : Nat) : Good sz [] := fun i hi => by simp at hi
theorem Good.push {sz : Nat} {xss : List (List Int)} {xs : List Int} (h : Good sz xss) (hl : xs.length = sz) (hn : nums xs = true) : Good sz (xss ++ [xs]) := fun i hi => by
  rw [List.length_append, List.length_singleton] at hi
  by_cases hii : i < xss.length
  · rw [getD_snoc hii]; exact h i hii
  · obtain rfl : i = xss.length := by omega
    rw [getD_last]; exact ⟨hl, hn⟩
theorem okI_in {inp k : Int} {x : Ins} (h : okI inp x k = true) (o : x.op = 1) : 0 ≤ x.num ∧ x.num < inp := by
  unfold okI at h
  rw [if_pos o] at h
  simp only [Bool.and_eq_true, inB_iff] at h
  omega
theorem okI_num {inp k : Int} {x : Ins} (h : okI inp x k = true) (o : x.op = 2) : isNum x.num = true := by
  unfold okI at h
  rw [if_neg (by omega), if_pos o] at h
  simp only [Bool.and_eq_true] at h
  exact h.2.2
theorem okI_bin {inp k : Int} {x : Ins} (h : okI inp x k = true) (o : x.op = 3 ∨ x.op = 4 ∨ x.op = 5 ∨ x.op = 6) : (0 ≤ x.a ∧ x.a < k) ∧ 0 ≤ x.b ∧ x.b < k := by
  unfold okI at h
  rw [if_neg (by omega), if_neg (by omega), if_pos o] at h
  simp only [Bool.and_eq_true, inB_iff] at h
  omega
theorem okI_neg {inp k : Int} {x : Ins} (h : okI inp x k = true) (o : x.op = 7) : 0 ≤ x.a ∧ x.a < k := by
  unfold okI at h
  rw [if_neg (by omega), if_neg (by omega), if_neg (by omega), if_pos o] at h
  simp only [Bool.and_eq_true, inB_iff] at h
  omega
theorem nums_constL {n : Int} (h : isNum n = true) (m : Nat) : nums (constL n m) = true := by
  unfold nums
  rw [List.all_eq_true]
  intro x hx
  rcases List.mem_or_eq_of_mem_set hx with hx | rfl
  · rw [List.eq_of_mem_replicate hx]; decide
  · exact h
theorem step_good {inp : Int} {args out : List (List Int)} {sz k : Nat} {x : Ins} {s : List Int} (h : okI inp x k = true) (hl : (args.length : Int) = inp) (ha : Good sz args) (ho : Good sz out) (hk : out.length = k) (e : stepS args sz out x = some s) : s.length = sz ∧ nums s = true := by
  have hop := okI_op h
  unfold stepS at e
  split at e
  · rename_i o
    have := okI_in h o
    injection e with e
    subst e
    exact ha _ (by omega)
  · split at e
    · rename_i o
      injection e with e
      subst e
      exact ⟨constL_length _ _, nums_constL (okI_num h o) _⟩
    · split at e
      · have := okI_bin h (by omega)
        injection e with e
        subst e
        exact ⟨by rw [addL_length]; exact (ho _ (by omega)).1, nums_addL _ _⟩
      · split at e
        · have := okI_bin h (by omega)
          injection e with e
          subst e
          exact ⟨by unfold subL; rw [addL_length]; exact (ho _ (by omega)).1, nums_addL _ _⟩
        · split at e
          · have := okI_bin h (by omega)
            injection e with e
            subst e
            exact ⟨by rw [mulL_length]; exact (ho _ (by omega)).1, nums_mulL _ _⟩
          · split at e
            · rename_i o
              have := okI_neg h o
              injection e with e
              subst e
              exact ⟨by rw [scaleL_length]; exact (ho _ (by omega)).1, nums_scaleL _ _⟩
            · split at e
              · cases e
              · have := okI_bin h (by omega)
                injection e with e
                subst e
                exact ⟨by rw [divL_length]; exact (ho _ (by omega)).1, nums_divL⟩
theorem regS_succ {t : Tp} {args out : List (List Int)} {sz k : Nat} {s : List Int} (h : regS t args sz k = some out) (e : stepS args sz out (t.code.getD k dIns) = some s) : regS t args sz (k + 1) = some (out ++ [s]) := by
  simp only [regS, h, e, Option.bind_some, Option.map_some]
theorem regS_fail {t : Tp} {args out : List (List Int)} {sz k : Nat} (h : regS t args sz k = some out) (e : stepS args sz out (t.code.getD k dIns) = none) : ∀ n, k < n → regS t args sz n = none := by
  intro n hn
  obtain ⟨m, rfl⟩ : ∃ m, n = k + 1 + m := ⟨n - (k + 1), by omega⟩
  clear hn
  induction m with
  | zero => simp only [regS, h, e, Option.bind_some, Option.map_none]
  | succ m ih =>
    show (regS t args sz (k + 1 + m)).bind _ = none
    rw [ih]
    rfl
/-- All k registers are there, and are good. -/
theorem regS_good {t : Tp} {args : List (List Int)} {sz : Nat} (ok : okT t = true) (hl : (args.length : Int) = t.inputs) (ha : Good sz args) : ∀ {k : Nat} {out : List (List Int)}, k ≤ t.code.length → regS t args sz k = some out → out.length = k ∧ Good sz out := by
  intro k
  induction k with
  | zero =>
    intro out _ e
    injection e with e
    subst e
    exact ⟨rfl, Good.nil _⟩
  | succ k ih =>
    intro out hk e
    cases e0 : regS t args sz k with
    | none => simp [regS, e0] at e
    | some o0 =>
      obtain ⟨h1, h2⟩ := ih (by omega) e0
      cases e1 : stepS args sz o0 (t.code.getD k dIns) with
      | none =>
        have : regS t args sz (k + 1) = none := by simp only [regS, e0, e1, Option.bind_some, Option.map_none]
        rw [this] at e
        cases e
      | some s =>
        rw [regS_succ e0 e1] at e
        injection e with e
        subst e
        have := step_good ((okT_iff.1 ok).2.2.2.2.1 k (by omega)) hl ha h2 h1 e1
        exact ⟨by simp [h1], h2.push this.1 this.2⟩
section
variable {n : Nat} {ρ : Env} {dst : Option Tmp} {ty : TypeId} {pos : String} {af : Array Edge} {gd : Option (Nat × Bool)}
theorem Hv.build1A {w : World} {x : Operand} {u : Value} {t e : TypeId} {z : Value} {by_ : Nat} (ht : UTab.und Try.prog t = some (.slice e)) (hi : UTab.inf Try.prog e = some (z, 1, by_)) (hx : ev ρ x = some u) (hu : u.cells = #[u]) :
    Hv Try.prog n ρ ⟨dst, .buildSlice t 1 #[(0, x)], ty, pos, af, gd⟩ w (fun v w' => ∃ g, v = .slice (some ⟨g, 0, none⟩) 1 1 ∧ At w' e 1 g 1 1 [u] ∧ g = w.heap.size ∧ Ext w w') :=
  (Hv.build1 ht hi hx hu).mono fun _ _ h => ⟨_, h.1, h.2 ▸ At.fresh w e #[u] 1 rfl, rfl, h.2 ▸ Ext.alloc w _⟩
end
theorem implConstC (x : Int) (m g : Nat) (w : World) (hc : w.cell? ⟨g, 0, none⟩ = some (.int .i64 m)) (hm : m ≤ 100) :
    CallsR Try.prog 138 [.int .i64 x, .pointer (some ⟨g, 0, none⟩)] w fun v w' => OwnI w.heap.size w' v (constL x (m + 1)) ∧ Ext w w' := by
  refine CallsR.enter Try.func138 (by decide +kernel) rfl Try.ntmps138 rfl ?_
  repeat' (first
    | refine EL.f (FV.load1 rfl rfl rfl hc) rfl rfl ?_
    | refine EL.f (FV.assign rfl) rfl rfl ?_
    | refine EL.f (FV.addI rfl rfl (by omega)) rfl rfl ?_
    | refine EL.nil ?_
    | refine EW.seq ?_
    | refine EW.region ?_)
  refine EL.h (Hv.make (m := m + 1) (kl := .i64) rfl rfl rfl rfl (by omega) (by omega)) rfl (fun _ => rfl) ?_
  rintro _ w1 ⟨g1, rfl, hg, hat, he⟩
  rw [madeInts] at hat
  replace hat : AtI w1 g1 (m + 1) (List.replicate (m + 1) 0) := by unfold AtI; rw [List.length_replicate]; exact hat
  have hkk : 0 < (List.replicate (m + 1) (0 : Int)).length := by rw [List.length_replicate]; omega
  repeat' (first
    | (show EL _ _ _ _ (_ :: _) _ _
       first
       | (show EL _ _ _ _ (⟨_, .store _ _ _, _, _, _, _⟩ :: _) _ _; (refine EL.h (Hv.storeAt rfl rfl rfl rfl rfl hat (ints_get hkk)) rfl (fun _ => rfl) ?_; rintro _ _ ⟨rfl, _⟩))
       | (show EL _ _ _ _ (⟨_, .move _, _, _, _, _⟩ :: _) _ _; refine EL.f (FV.move rfl) rfl rfl ?_)
       | (show EL _ _ _ _ (⟨_, .assign _, _, _, _, _⟩ :: _) _ _; refine EL.f (FV.assign rfl) rfl rfl ?_)
       | (show EL _ _ _ _ (⟨_, .indexAddr _ _ _, _, _, _, _⟩ :: _) _ _; refine EL.f (FV.idx0 rfl rfl rfl rfl (by omega) (by omega)) rfl rfl ?_))
    | refine EL.nil ?_
    | refine EW.seq ?_
    | refine EW.region ?_
    | refine EW.ret ?_)
  have := AtI.set_ hat (k := 0) x
  exact ⟨_, rfl, AtI.own' (xs := constL x (m + 1)) this (constL_length _ _) (by omega), Below.set_ he (by omega) _⟩
def RegOut (w : World) (c0 c1 : Value) (B : Nat) (res : Option (List (List Int))) (r : Value) (w' : World) : Prop :=
  (match res with
    | none => ∃ s, r = .tuple #[s, c0]
    | some out => ∃ s, r = .tuple #[s, c1] ∧ OutR B w' s out) ∧ Ext w w'
theorem RegOut.none {w w' : World} {c0 c1 : Value} {B : Nat} {res : Option (List (List Int))} {s : Value} (e : res = Option.none) (he : Ext w w') : RegOut w c0 c1 B res (.tuple #[s, c0]) w' := by
  subst e; exact ⟨⟨s, rfl⟩, he⟩
theorem RegOut.some {w w' : World} {c0 c1 : Value} {B : Nat} {res : Option (List (List Int))} {out : List (List Int)} {s : Value} (e : res = Option.some out) (ho : OutR B w' s out) (he : Ext w w') : RegOut w c0 c1 B res (.tuple #[s, c1]) w' := by
  subst e; exact ⟨⟨s, rfl, ho⟩, he⟩

set_option maxHeartbeats 16000000 in
theorem implRegisters (v : Value) (t : Tp) (A : Option Addr) (c : Nat) (args : List (List Int)) (m : Nat) (w : World) (h : TapeV w v t) (hf : Fit t) (ok : okT t = true) (ha : Rows w A args) (hl : (args.length : Int) = t.inputs) (hg : Good (m + 1) args) (hm : m ≤ 100) :
    CallsR Try.prog 93 [v, .slice A args.length c, .int .i64 m] w (RegOut w (.int .i64 6) (.int .i64 0) w.heap.size (regS t args (m + 1) t.code.length)) := by
  obtain ⟨C, d, D, d2, E, d3, rfl, r1, r2, r3⟩ := h
  have n1 := hf.c
  have okc := (okT_iff.1 ok).2.2.2.2.1
  have okin := (okT_iff.1 ok).1
  have hcl := (okT_iff.1 ok).2.1
  refine CallsR.enter Try.func93 (by decide +kernel) rfl Try.ntmps93 rfl ?_
  repeat' (first
    | refine EW.seq ?_
    | refine EW.region ?_)
  refine EL.h (Hv.boxA (sz := 4) rfl rfl) rfl (fun _ => rfl) ?_
  rintro _ w1 ⟨g1, rfl, hg1, hb, he1⟩
  skip
  refine EL.h (Hv.boxA (sz := 1) rfl rfl) rfl (fun _ => rfl) ?_
  rintro _ w2 ⟨g5, rfl, hg5, hbo, he2⟩
  repeat' (first
    | refine EL.f (FV.assign rfl) rfl rfl ?_
    | refine EL.nil ?_
    | refine EW.seq ?_
    | refine EW.region ?_)
  refine EL.h (Hv.build0 rfl rfl) rfl (fun _ => rfl) ?_
  rintro s0 w3 ⟨ho3, he3⟩
  have hw3 := (he1.trans he2).trans he3
  have s1 := he1.size
  have s2 := he2.size
  replace hb := At.ext hb (he2.trans he3)
  replace hbo := At.ext hbo he3
  repeat' (first
    | (show EL _ _ _ _ (_ :: _) _ _
       first
       | (show EL _ _ _ _ (⟨_, .fieldAddr _ _ _, _, _, _, _⟩ :: _) _ _; refine EL.f (FV.fieldAddr rfl rfl rfl rfl rfl) rfl rfl ?_)
       | (show EL _ _ _ _ (⟨_, .load _ _, _, _, _, _⟩ :: _) _ _; refine EL.f (FV.load1 rfl rfl rfl (At.cell hb rfl)) rfl rfl ?_)
       | (show EL _ _ _ _ (⟨_, .makeFunc _ _ _, _, _, _, _⟩ :: _) _ _; refine EL.f (FV.makeFn rfl) rfl rfl ?_)
       | (show EL _ _ _ _ (⟨_, .move _, _, _, _, _⟩ :: _) _ _; refine EL.f (FV.move rfl) rfl rfl ?_)
       | (show EL _ _ _ _ (⟨_, .assign _, _, _, _, _⟩ :: _) _ _; refine EL.f (FV.assign rfl) rfl rfl ?_)
       | (show EL _ _ _ _ (⟨_, .call _, _, _, _, _⟩ :: _) _ _; refine EL.f (FV.len rfl rfl) rfl rfl ?_))
    | refine EL.nil ?_
    | refine EW.seq ?_
    | refine EW.region ?_
    | refine EW.block ?_)
  refine EW.loop (X := Nat × Value) (fun q wr => q.1 ≤ t.code.length ∧ (∃ out, regS t args (m + 1) q.1 = some out ∧ OutR w.heap.size wr q.2 out) ∧ At wr 3 1 g5 1 1 [.int .i64 m] ∧ Ext w wr) (fun q => [(1, .slice A args.length c), (6, .slice none 0 0), (7, .int .i64 0), (8, q.2), (9, .func (.func 138) #[] #[.pointer (some ⟨g5, 0, none⟩)]), (16, .slice C t.code.length d), (17, .int .i64 t.code.length), (18, .int .i64 q.1)]) (fun q => t.code.length - q.1) (0, s0) ⟨Nat.zero_le _, ⟨[], rfl, OutR.nil (own_lower ho3 (by omega))⟩, hbo, hw3⟩ ⟨rfl, rfl, rfl, rfl, rfl, rfl, rfl, rfl, trivial⟩ ?_
  rintro ⟨k, s⟩ wr ⟨hk, ⟨out, hreg, hout⟩, hbo, he⟩
  dsimp only at *
  by_cases hlt : k < t.code.length
  rotate_left
  · obtain rfl : k = t.code.length := by omega
    repeat' (first
      | refine EL.f (FV.move rfl) rfl rfl ?_
      | refine EL.f (FV.assign rfl) rfl rfl ?_
      | refine EL.fF (FV.lss rfl rfl) rfl (fun _ => rfl) (by omega) ?_
      | refine EL.nil ?_
      | refine EW.seq ?_
      | refine EW.region ?_
      | refine EW.exit ?_
      | refine EW.ret ?_
      | refine EW.condF rfl ?_)
    exact ⟨_, rfl, RegOut.some hreg hout he⟩
  obtain ⟨hol, hgood⟩ := regS_good ok hl hg hk hreg
  obtain ⟨x1, p1, rfl, hp⟩ := Rd.elem insV_length (by decide) dIns (r1.ext he) hlt
  have okk := okc k hlt
  have hop := okI_op okk
  have hend : ∀ xs, stepS args (m + 1) out (t.code.getD k dIns) = some xs → regS t args (m + 1) (k + 1) = some (out ++ [xs]) := fun xs e => regS_succ hreg e
  have hfl : stepS args (m + 1) out (t.code.getD k dIns) = none → regS t args (m + 1) t.code.length = none := fun e => regS_fail hreg e _ hlt
  generalize t.code.getD k dIns = x at *
  repeat' (first
    | refine EL.fT (FV.lss rfl rfl) rfl (fun _ => rfl) (by omega) ?_
    | refine EL.nil ?_
    | refine EW.seq ?_
    | refine EW.region ?_
    | refine EW.skip ?_
    | refine EW.condT rfl ?_)
  refine EW.block ?_
  repeat' (first
    | refine EL.f (FV.idx rfl rfl rfl rfl (by omega) (by omega)) rfl rfl ?_
    | refine EL.f (FV.loadAgg (cs := insV x) rfl rfl rfl rfl rfl (fun _ e => hp.ext (e ▸ Ext.refl _))) rfl rfl ?_
    | refine EW.seq ?_
    | refine EW.region ?_)
  refine EL.h (Hv.allocA rfl rfl) rfl (fun _ => rfl) ?_
  rintro _ w4 ⟨g4, rfl, hg4, h4, he4⟩
  skip
  refine EL.h (Hv.storeAggG (vs := insV x) rfl rfl rfl rfl (insV_one _) h4 (Nat.le_refl _)) rfl (fun _ => rfl) ?_
  rintro _ w5 ⟨h5, hr5⟩
  have hw5 : Ext wr w5 := Below.wr he4 hr5 (by omega) (Nat.le_refl _)
  replace h5 : At w5 65 4 g4 1 1 (insV x) := h5
  have hbr := hbo
  replace hbo := At.ext hbo hw5
  repeat' (first
    | refine EL.f (FV.fieldAddr rfl rfl rfl rfl rfl) rfl rfl ?_
    | refine EL.f (FV.load1 rfl rfl rfl (At.cell h5 rfl)) rfl rfl ?_
    | refine EL.f (FV.move rfl) rfl rfl ?_
    | refine EL.nil ?_
    | refine EW.seq ?_
    | refine EW.region ?_)
  refine EL.h (Hv.callC (vs := [.int .i64 x.num]) (implConstC x.num m g5 w5 (At.cell hbo rfl) hm) rfl rfl) rfl (fun _ => rfl) ?_
  rintro sv0 w6 ⟨hsv0, he6⟩
  have e6 := hw5.trans he6
  replace h5 := At.ext h5 he6
  replace hbo := At.ext hbo he6
  have hout0 := hout.ext e6
  obtain ⟨A8, c8, rfl, hrows⟩ := hout0.rows
  repeat' (first
    | refine EL.f (FV.fieldAddr rfl rfl rfl rfl rfl) rfl rfl ?_
    | refine EL.f (FV.load1 rfl rfl rfl (At.cell h5 rfl)) rfl rfl ?_
    | refine EL.f (FV.assign rfl) rfl rfl ?_
    | refine EL.nil ?_
    | refine EW.seq ?_
    | refine EW.region ?_)
  refine EW.viaM (fun ρ' w' => ∃ sv xs, Sub [(12, sv), (1, .slice A args.length c), (6, .slice none 0 0), (7, .int .i64 0), (8, .slice A8 out.length c8), (9, .func (.func 138) #[] #[.pointer (some ⟨g5, 0, none⟩)]), (16, .slice (some ⟨x1, p1, none⟩) t.code.length d), (17, .int .i64 t.code.length), (18, .int .i64 k)] ρ' ∧ stepS args (m + 1) out x = some xs ∧ RowB w' w.heap.size sv xs ∧ Ext wr w') ?_ ?_
  · refine EW.block ?_
    subst hol
    by_cases o1 : x.op = 1
    · obtain ⟨on0, on1⟩ := okI_in okk o1
      obtain ⟨b1, p1, B1, c1, rfl, hc1, hr1⟩ := ha x.num.toNat (by omega)
      have hc1' := (he.trans e6).cell hc1
      repeat' (first
        | (show EL _ _ _ _ (_ :: _) _ _
           first
           | (show EL _ _ _ _ (⟨_, .fieldAddr _ _ _, _, _, _, _⟩ :: _) _ _; refine EL.f (FV.fieldAddr rfl rfl rfl rfl rfl) rfl rfl ?_)
           | (show EL _ _ _ _ (⟨_, .load _ _, _, _, _, _⟩ :: _) _ _; first | refine EL.f (FV.load1 rfl rfl rfl (At.cell h5 rfl)) rfl rfl ?_ | refine EL.f (FV.load1 rfl rfl rfl hc1') rfl rfl ?_)
           | (show EL _ _ _ _ (⟨_, .indexAddr _ _ _, _, _, _, _⟩ :: _) _ _; refine EL.f (FV.idx1 rfl rfl rfl rfl (by omega) (by omega)) rfl rfl ?_)
           | (show EL _ _ _ _ (⟨_, .move _, _, _, _, _⟩ :: _) _ _; refine EL.f (FV.move rfl) rfl rfl ?_)
           | (show EL _ _ _ _ (⟨_, .assign _, _, _, _, _⟩ :: _) _ _; refine EL.f (FV.assign rfl) rfl rfl ?_)
           | (show EL _ _ _ _ (⟨_, .binOp .eql _ _ _ _, _, _, _, _⟩ :: _) _ _; refine EL.fT (FV.eql rfl rfl) rfl (fun _ => rfl) (by omega) ?_))
        | refine EL.nil ?_
        | refine EW.seq ?_
        | refine EW.region ?_
        | refine EW.condT rfl ?_)
      exact ⟨_, _, ⟨rfl, rfl, rfl, rfl, rfl, rfl, rfl, rfl, rfl, trivial⟩, by unfold stepS; rw [if_pos o1], (RowB.old hr1 (Nat.le_refl _)).ext (he.trans e6), e6⟩
    by_cases o2 : x.op = 2
    · repeat' (first
        | refine EL.f (FV.assign rfl) rfl rfl ?_
        | refine EL.fF (FV.eql rfl rfl) rfl (fun _ => rfl) (by omega) ?_
        | refine EL.nil ?_
        | refine EW.seq ?_
        | refine EW.region ?_
        | refine EW.skip ?_
        | refine EW.condF rfl ?_)
      exact ⟨sv0, _, ⟨rfl, rfl, rfl, rfl, rfl, rfl, rfl, rfl, rfl, trivial⟩, by unfold stepS; rw [if_neg o1, if_pos o2], RowB.own hsv0, e6⟩
    by_cases o3 : x.op = 3
    · obtain ⟨⟨oa0, oa1⟩, ob0, ob1⟩ := okI_bin okk (by omega)
      obtain ⟨b8, o8, rfl, hcell⟩ := hrows.all (by omega)
      obtain ⟨Ba, ca, hca, hra⟩ := hcell x.a.toNat (by omega)
      obtain ⟨Bb, cb, hcb, hrb⟩ := hcell x.b.toNat (by omega)
      obtain ⟨la, na⟩ := hgood x.a.toNat (by omega)
      obtain ⟨lb, nb⟩ := hgood x.b.toNat (by omega)
      repeat' (first
        | refine EL.f (FV.assign rfl) rfl rfl ?_
        | refine EL.fT (FV.eql rfl rfl) rfl (fun _ => rfl) (by omega) ?_
        | refine EL.fF (FV.eql rfl rfl) rfl (fun _ => rfl) (by omega) ?_
        | refine EL.nil ?_
        | refine EW.seq ?_
        | refine EW.region ?_
        | refine EW.condT rfl ?_
        | refine EW.condF rfl ?_)
      refine EW.draw (fun w' => Ext w6 w') (pl 0 10 ++ [(10, false), (11, true)]) mixed (by decide +kernel) (Ext.drew _) ?_
      repeat' (first
        | refine EP.f rfl (FV.fieldAddr rfl rfl rfl rfl rfl) rfl rfl ?_
        | refine EP.f rfl (FV.load rfl rfl rfl (fun w' h' => At.cell (At.ext h5 h') rfl)) rfl rfl ?_
        | refine EP.f rfl (FV.load rfl rfl rfl (fun w' h' => h'.cell hca)) rfl rfl ?_
        | refine EP.f rfl (FV.load rfl rfl rfl (fun w' h' => h'.cell hcb)) rfl rfl ?_
        | refine EP.f rfl (FV.move rfl) rfl rfl ?_
        | refine EP.f rfl (FV.idx1 rfl rfl rfl rfl (by omega) (by omega)) rfl rfl ?_)
      have ed := Ext.drew w6
      refine EP.h rfl rfl (Hv.call (implAdded Ba Bb ca cb _ _ w6.drew (hra.ext ed) (hrb.ext ed) (by omega) (by omega) na nb) rfl) rfl (fun _ => rfl) ?_
      rintro sv w7 ⟨hsv, he7⟩
      have e67 := ed.trans he7
      refine ⟨e67, ?_⟩
      repeat' (first
        | refine EP.nil ?_
        | refine EP.f rfl (FV.assign rfl) rfl rfl ?_)
      skip
      exact ⟨sv, (addL (out.getD x.a.toNat []) (out.getD x.b.toNat [])), ⟨rfl, rfl, rfl, rfl, rfl, rfl, rfl, rfl, rfl, trivial⟩, by unfold stepS; rw [if_neg o1, if_neg o2, if_pos o3], RowB.own hsv, e6.trans e67⟩
    by_cases o4 : x.op = 4
    · obtain ⟨⟨oa0, oa1⟩, ob0, ob1⟩ := okI_bin okk (by omega)
      obtain ⟨b8, o8, rfl, hcell⟩ := hrows.all (by omega)
      obtain ⟨Ba, ca, hca, hra⟩ := hcell x.a.toNat (by omega)
      obtain ⟨Bb, cb, hcb, hrb⟩ := hcell x.b.toNat (by omega)
      obtain ⟨la, na⟩ := hgood x.a.toNat (by omega)
      obtain ⟨lb, nb⟩ := hgood x.b.toNat (by omega)
      repeat' (first
        | refine EL.f (FV.assign rfl) rfl rfl ?_
        | refine EL.fT (FV.eql rfl rfl) rfl (fun _ => rfl) (by omega) ?_
        | refine EL.fF (FV.eql rfl rfl) rfl (fun _ => rfl) (by omega) ?_
        | refine EL.nil ?_
        | refine EW.seq ?_
        | refine EW.region ?_
        | refine EW.condT rfl ?_
        | refine EW.condF rfl ?_)
      refine EW.draw (fun w' => Ext w6 w') (pl 0 10 ++ [(10, false), (11, true)]) mixed (by decide +kernel) (Ext.drew _) ?_
      repeat' (first
        | refine EP.f rfl (FV.fieldAddr rfl rfl rfl rfl rfl) rfl rfl ?_
        | refine EP.f rfl (FV.load rfl rfl rfl (fun w' h' => At.cell (At.ext h5 h') rfl)) rfl rfl ?_
        | refine EP.f rfl (FV.load rfl rfl rfl (fun w' h' => h'.cell hca)) rfl rfl ?_
        | refine EP.f rfl (FV.load rfl rfl rfl (fun w' h' => h'.cell hcb)) rfl rfl ?_
        | refine EP.f rfl (FV.move rfl) rfl rfl ?_
        | refine EP.f rfl (FV.idx1 rfl rfl rfl rfl (by omega) (by omega)) rfl rfl ?_)
      have ed := Ext.drew w6
      refine EP.h rfl rfl (Hv.call (implReduced Ba Bb ca cb _ _ w6.drew (hra.ext ed) (hrb.ext ed) (by omega) (by omega) (by omega) na nb) rfl) rfl (fun _ => rfl) ?_
      rintro sv w7 ⟨hsv, he7⟩
      have e67 := ed.trans he7
      refine ⟨e67, ?_⟩
      repeat' (first
        | refine EP.nil ?_
        | refine EP.f rfl (FV.assign rfl) rfl rfl ?_)
      skip
      exact ⟨sv, (subL (out.getD x.a.toNat []) (out.getD x.b.toNat [])), ⟨rfl, rfl, rfl, rfl, rfl, rfl, rfl, rfl, rfl, trivial⟩, by unfold stepS; rw [if_neg o1, if_neg o2, if_neg o3, if_pos o4], RowB.own hsv, e6.trans e67⟩
    by_cases o5 : x.op = 5
    · obtain ⟨⟨oa0, oa1⟩, ob0, ob1⟩ := okI_bin okk (by omega)
      obtain ⟨b8, o8, rfl, hcell⟩ := hrows.all (by omega)
      obtain ⟨Ba, ca, hca, hra⟩ := hcell x.a.toNat (by omega)
      obtain ⟨Bb, cb, hcb, hrb⟩ := hcell x.b.toNat (by omega)
      obtain ⟨la, na⟩ := hgood x.a.toNat (by omega)
      obtain ⟨lb, nb⟩ := hgood x.b.toNat (by omega)
      repeat' (first
        | refine EL.f (FV.assign rfl) rfl rfl ?_
        | refine EL.fT (FV.eql rfl rfl) rfl (fun _ => rfl) (by omega) ?_
        | refine EL.fF (FV.eql rfl rfl) rfl (fun _ => rfl) (by omega) ?_
        | refine EL.nil ?_
        | refine EW.seq ?_
        | refine EW.region ?_
        | refine EW.condT rfl ?_
        | refine EW.condF rfl ?_)
      refine EW.draw (fun w' => Ext w6 w') (pl 0 10 ++ [(10, false), (11, true)]) mixed (by decide +kernel) (Ext.drew _) ?_
      repeat' (first
        | refine EP.f rfl (FV.fieldAddr rfl rfl rfl rfl rfl) rfl rfl ?_
        | refine EP.f rfl (FV.load rfl rfl rfl (fun w' h' => At.cell (At.ext h5 h') rfl)) rfl rfl ?_
        | refine EP.f rfl (FV.load rfl rfl rfl (fun w' h' => h'.cell hca)) rfl rfl ?_
        | refine EP.f rfl (FV.load rfl rfl rfl (fun w' h' => h'.cell hcb)) rfl rfl ?_
        | refine EP.f rfl (FV.move rfl) rfl rfl ?_
        | refine EP.f rfl (FV.idx1 rfl rfl rfl rfl (by omega) (by omega)) rfl rfl ?_)
      have ed := Ext.drew w6
      refine EP.h rfl rfl (Hv.call (implProduct Ba Bb ca cb _ _ w6.drew (hra.ext ed) (hrb.ext ed) (by omega) (by omega) na nb) rfl) rfl (fun _ => rfl) ?_
      rintro sv w7 ⟨hsv, he7⟩
      have e67 := ed.trans he7
      refine ⟨e67, ?_⟩
      repeat' (first
        | refine EP.nil ?_
        | refine EP.f rfl (FV.assign rfl) rfl rfl ?_)
      skip
      exact ⟨sv, (mulL (out.getD x.a.toNat []) (out.getD x.b.toNat [])), ⟨rfl, rfl, rfl, rfl, rfl, rfl, rfl, rfl, rfl, trivial⟩, by unfold stepS; rw [if_neg o1, if_neg o2, if_neg o3, if_neg o4, if_pos o5], RowB.own hsv, e6.trans e67⟩
    by_cases o7 : x.op = 7
    · obtain ⟨oa0, oa1⟩ := okI_neg okk o7
      obtain ⟨b8, o8, rfl, hcell⟩ := hrows.all (by omega)
      obtain ⟨Ba, ca, hca, hra⟩ := hcell x.a.toNat (by omega)
      obtain ⟨la, na⟩ := hgood x.a.toNat (by omega)
      repeat' (first
        | (show EL _ _ _ _ (_ :: _) _ _
           first
           | (show EL _ _ _ _ (⟨_, .fieldAddr _ _ _, _, _, _, _⟩ :: _) _ _; refine EL.f (FV.fieldAddr rfl rfl rfl rfl rfl) rfl rfl ?_)
           | (show EL _ _ _ _ (⟨_, .load _ _, _, _, _, _⟩ :: _) _ _; first | refine EL.f (FV.load1 rfl rfl rfl (At.cell h5 rfl)) rfl rfl ?_ | refine EL.f (FV.load1 rfl rfl rfl hca) rfl rfl ?_)
           | (show EL _ _ _ _ (⟨_, .indexAddr _ _ _, _, _, _, _⟩ :: _) _ _; refine EL.f (FV.idx1 rfl rfl rfl rfl (by omega) (by omega)) rfl rfl ?_)
           | (show EL _ _ _ _ (⟨_, .move _, _, _, _, _⟩ :: _) _ _; refine EL.f (FV.move rfl) rfl rfl ?_)
           | (show EL _ _ _ _ (⟨_, .assign _, _, _, _, _⟩ :: _) _ _; refine EL.f (FV.assign rfl) rfl rfl ?_)
           | (show EL _ _ _ _ (⟨_, .binOp .eql _ _ _ _, _, _, _, _⟩ :: _) _ _; first | refine EL.fT (FV.eql rfl rfl) rfl (fun _ => rfl) (by omega) ?_ | refine EL.fF (FV.eql rfl rfl) rfl (fun _ => rfl) (by omega) ?_))
        | refine EL.nil ?_
        | refine EW.seq ?_
        | refine EW.region ?_
        | refine EW.condT rfl ?_
        | refine EW.condF rfl ?_)
      refine EL.h (Hv.call (implScaled Ba ca _ 1000002 w6 hra (by omega) na (by omega)) rfl) rfl (fun _ => rfl) ?_
      rintro sv w7 ⟨hsv, he7⟩
      repeat' (first
        | refine EL.f (FV.assign rfl) rfl rfl ?_
        | refine EL.nil ?_)
      exact ⟨sv, _, ⟨rfl, rfl, rfl, rfl, rfl, rfl, rfl, rfl, rfl, trivial⟩, by unfold stepS; rw [if_neg o1, if_neg o2, if_neg o3, if_neg o4, if_neg o5, if_pos o7], RowB.own hsv, e6.trans he7⟩
    have o6 : x.op = 6 := by omega
    obtain ⟨⟨oa0, oa1⟩, ob0, ob1⟩ := okI_bin okk (by omega)
    obtain ⟨b8, o8, rfl, hcell⟩ := hrows.all (by omega)
    obtain ⟨Ba, ca, hca, hra⟩ := hcell x.a.toNat (by omega)
    obtain ⟨Bb, cb, hcb, hrb⟩ := hcell x.b.toNat (by omega)
    obtain ⟨la, na⟩ := hgood x.a.toNat (by omega)
    obtain ⟨lb, nb⟩ := hgood x.b.toNat (by omega)
    obtain ⟨b0, p0, rfl, hc0⟩ := hrb.int (show 0 < (out.getD x.b.toNat []).length by omega)
    by_cases hz : (out.getD x.b.toNat []).getD 0 0 = 0
    · have hfail := hfl (by unfold stepS; rw [if_neg o1, if_neg o2, if_neg o3, if_neg o4, if_neg o5, if_neg o7, if_pos hz])
      repeat' (first
        | (show EL _ _ _ _ (_ :: _) _ _
           first
           | (show EL _ _ _ _ (⟨_, .fieldAddr _ _ _, _, _, _, _⟩ :: _) _ _; refine EL.f (FV.fieldAddr rfl rfl rfl rfl rfl) rfl rfl ?_)
           | (show EL _ _ _ _ (⟨_, .load _ _, _, _, _, _⟩ :: _) _ _; first | refine EL.f (FV.load1 rfl rfl rfl (At.cell h5 rfl)) rfl rfl ?_ | refine EL.f (FV.load1 rfl rfl rfl hcb) rfl rfl ?_ | refine EL.f (FV.load1 rfl rfl rfl hc0) rfl rfl ?_)
           | (show EL _ _ _ _ (⟨_, .indexAddr _ _ _, _, _, _, _⟩ :: _) _ _; refine EL.f (FV.idx1 rfl rfl rfl rfl (by omega) (by omega)) rfl rfl ?_)
           | (show EL _ _ _ _ (⟨_, .move _, _, _, _, _⟩ :: _) _ _; refine EL.f (FV.move rfl) rfl rfl ?_)
           | (show EL _ _ _ _ (⟨_, .assign _, _, _, _, _⟩ :: _) _ _; refine EL.f (FV.assign rfl) rfl rfl ?_)
           | (show EL _ _ _ _ (⟨_, .binOp .eql _ _ _ _, _, _, _, _⟩ :: _) _ _; first | refine EL.fT (FV.eql rfl rfl) rfl (fun _ => rfl) (by omega) ?_ | refine EL.fF (FV.eql rfl rfl) rfl (fun _ => rfl) (by omega) ?_))
        | refine EL.nil ?_
        | refine EW.seq ?_
        | refine EW.region ?_
        | refine EW.ret ?_
        | refine EW.condT rfl ?_
        | refine EW.condF rfl ?_)
      exact ⟨_, rfl, RegOut.none hfail (he.trans e6)⟩
    · repeat' (first
        | (show EL _ _ _ _ (_ :: _) _ _
           first
           | (show EL _ _ _ _ (⟨_, .fieldAddr _ _ _, _, _, _, _⟩ :: _) _ _; refine EL.f (FV.fieldAddr rfl rfl rfl rfl rfl) rfl rfl ?_)
           | (show EL _ _ _ _ (⟨_, .load _ _, _, _, _, _⟩ :: _) _ _; first | refine EL.f (FV.load1 rfl rfl rfl (At.cell h5 rfl)) rfl rfl ?_ | refine EL.f (FV.load1 rfl rfl rfl hcb) rfl rfl ?_ | refine EL.f (FV.load1 rfl rfl rfl hc0) rfl rfl ?_)
           | (show EL _ _ _ _ (⟨_, .indexAddr _ _ _, _, _, _, _⟩ :: _) _ _; refine EL.f (FV.idx1 rfl rfl rfl rfl (by omega) (by omega)) rfl rfl ?_)
           | (show EL _ _ _ _ (⟨_, .move _, _, _, _, _⟩ :: _) _ _; refine EL.f (FV.move rfl) rfl rfl ?_)
           | (show EL _ _ _ _ (⟨_, .assign _, _, _, _, _⟩ :: _) _ _; refine EL.f (FV.assign rfl) rfl rfl ?_)
           | (show EL _ _ _ _ (⟨_, .binOp .eql _ _ _ _, _, _, _, _⟩ :: _) _ _; first | refine EL.fT (FV.eql rfl rfl) rfl (fun _ => rfl) (by omega) ?_ | refine EL.fF (FV.eql rfl rfl) rfl (fun _ => rfl) (by omega) ?_))
        | refine EL.nil ?_
        | refine EW.seq ?_
        | refine EW.region ?_
        | refine EW.skip ?_
        | refine EW.condT rfl ?_
        | refine EW.condF rfl ?_)
      refine EW.draw (fun w' => Ext w6 w') (pl 0 10 ++ [(10, false), (11, true)]) mixed (by decide +kernel) (Ext.drew _) ?_
      repeat' (first
        | refine EP.f rfl (FV.fieldAddr rfl rfl rfl rfl rfl) rfl rfl ?_
        | refine EP.f rfl (FV.load rfl rfl rfl (fun w' h' => At.cell (At.ext h5 h') rfl)) rfl rfl ?_
        | refine EP.f rfl (FV.load rfl rfl rfl (fun w' h' => h'.cell hca)) rfl rfl ?_
        | refine EP.f rfl (FV.load rfl rfl rfl (fun w' h' => h'.cell hcb)) rfl rfl ?_
        | refine EP.f rfl (FV.move rfl) rfl rfl ?_
        | refine EP.f rfl (FV.idx1 rfl rfl rfl rfl (by omega) (by omega)) rfl rfl ?_)
      have ed := Ext.drew w6
      refine EP.h rfl rfl (Hv.call (implQuotient Ba (some ⟨b0, p0, none⟩) ca cb _ _ w6.drew (hra.ext ed) (hrb.ext ed) (by omega) (by omega) (by omega) na nb) rfl) rfl (fun _ => rfl) ?_
      rintro sv w7 ⟨hsv, he7⟩
      have e67 := ed.trans he7
      refine ⟨e67, ?_⟩
      repeat' (first
        | refine EP.nil ?_
        | refine EP.f rfl (FV.assign rfl) rfl rfl ?_)
      skip
      exact ⟨sv, divL (out.getD x.a.toNat []) (out.getD x.b.toNat []), ⟨rfl, rfl, rfl, rfl, rfl, rfl, rfl, rfl, rfl, trivial⟩, by unfold stepS; rw [if_neg o1, if_neg o2, if_neg o3, if_neg o4, if_neg o5, if_neg o7, if_neg hz], RowB.own hsv, e6.trans e67⟩
  · rintro ρ' w7 ⟨sv, xs, hsub, hst, hrow, e67⟩
    refine EW.weaken ?_ hsub
    have hout7 := (hout.ext e67)
    have hbo7 := At.ext hbr e67
    repeat' (first
      | refine EL.f (FV.move rfl) rfl rfl ?_
      | refine EW.region ?_)
    refine EL.h (Hv.build1A rfl rfl rfl hrow.one.2) rfl (fun _ => rfl) ?_
    rintro _ w8 ⟨g8, rfl, h8, hg8, he8⟩
    have e08 := (he.trans e67).trans he8
    replace hbo7 := At.ext hbo7 he8
    skip
    refine EL.h (Hv.push rfl rfl (At.cell h8 rfl) (hout7.ext he8) (hrow.ext he8) (by omega) e08.size) rfl (fun _ => rfl) ?_
    rintro s9 w9 ⟨hout9, hgr, hbl⟩
    repeat' (first
      | refine EL.f (FV.move rfl) rfl rfl ?_
      | refine EL.f (FV.assign rfl) rfl rfl ?_
      | refine EL.f (FV.addI rfl rfl (by omega)) rfl rfl ?_
      | refine EL.nil ?_
      | refine EW.region ?_)
    exact ⟨(k + 1, s9), ⟨rfl, rfl, rfl, rfl, rfl, rfl, rfl, rfl, trivial⟩, ⟨by dsimp only; omega, ⟨_, hend _ hst, hout9⟩, At.kept hbo7 hgr (OutR.apart (hout7.ext he8) hbo7 (by decide)), Ext.after e08 hbl⟩, by dsimp only; omega⟩

set_option maxHeartbeats 16000000 in
theorem specSeries (b o : Nat) (t : Tp) (A : Option Addr) (c : Nat) (args : List (List Int)) (m : Nat) (w : World) (h : TapeP w b o t) (hf : Fit t) (ok : okT t = true) (ha : Rows w A args) (hl : (args.length : Int) = t.inputs) (hg : Good (m + 1) args) (hm : m ≤ 100) :
    CallsR Try.prog 98 [.pointer (some ⟨b, o, none⟩), .slice A args.length c, .int .i64 ((m + 1 : Nat) : Int)] w (RegOut w (.bool false) (.bool true) w.heap.size (regS t args (m + 1) t.code.length)) := by
  obtain ⟨C, d, D, d2, E, d3, hb, r1, r2, r3⟩ := h
  have n1 := hf.c
  have okc := (okT_iff.1 ok).2.2.2.2.1
  have okin := (okT_iff.1 ok).1
  have hcl := (okT_iff.1 ok).2.1
  refine CallsR.enter Try.func98 (by decide +kernel) rfl Try.ntmps98 rfl ?_
  repeat' (first
    | refine EL.f (FV.assign rfl) rfl rfl ?_
    | refine EL.nil ?_
    | refine EW.seq ?_
    | refine EW.region ?_)
  refine EL.h (Hv.build0 rfl rfl) rfl (fun _ => rfl) ?_
  rintro s0 w3 ⟨ho3, hw3⟩
  repeat' (first
    | refine EL.f (FV.assign rfl) rfl rfl ?_
    | refine EL.nil ?_
    | refine EW.seq ?_
    | refine EW.region ?_
    | refine EW.block ?_)
  refine EW.loop (X := Nat × Value) (fun q wr => q.1 ≤ t.code.length ∧ (∃ out, regS t args (m + 1) q.1 = some out ∧ OutR w.heap.size wr q.2 out) ∧ Ext w wr) (fun q => [(0, .pointer (some ⟨b, o, none⟩)), (1, .slice A args.length c), (2, .int .i64 ((m + 1 : Nat) : Int)), (8, q.2), (9, .int .i64 q.1)]) (fun q => t.code.length - q.1) (0, s0) ⟨Nat.zero_le _, ⟨[], rfl, OutR.nil ho3⟩, hw3⟩ ⟨rfl, rfl, rfl, rfl, rfl, trivial⟩ ?_
  rintro ⟨k, s⟩ wr ⟨hk, ⟨out, hreg, hout⟩, he⟩
  dsimp only at *
  have hbr := hb.ext he
  by_cases hlt : k < t.code.length
  rotate_left
  · obtain rfl : k = t.code.length := by omega
    repeat' (first
      | (show EL _ _ _ _ (_ :: _) _ _
         first
         | (show EL _ _ _ _ (⟨_, .nilCheck _, _, _, _, _⟩ :: _) _ _; refine EL.f (FV.nilChk rfl) rfl rfl ?_)
         | (show EL _ _ _ _ (⟨_, .fieldAddr _ _ _, _, _, _, _⟩ :: _) _ _; refine EL.f (FV.fieldAddr rfl rfl rfl rfl rfl) rfl rfl ?_)
         | (show EL _ _ _ _ (⟨_, .load _ _, _, _, _, _⟩ :: _) _ _; refine EL.f (FV.load1 rfl rfl rfl (hbr 1 _ rfl)) rfl rfl ?_)
         | (show EL _ _ _ _ (⟨_, .move _, _, _, _, _⟩ :: _) _ _; refine EL.f (FV.move rfl) rfl rfl ?_)
         | (show EL _ _ _ _ (⟨_, .assign _, _, _, _, _⟩ :: _) _ _; refine EL.f (FV.assign rfl) rfl rfl ?_)
         | (show EL _ _ _ _ (⟨_, .call _, _, _, _, _⟩ :: _) _ _; refine EL.f (FV.len rfl rfl) rfl rfl ?_)
         | (show EL _ _ _ _ (⟨_, .binOp .lss _ _ _ _, _, _, _, _⟩ :: _) _ _; refine EL.fF (FV.lss rfl rfl) rfl (fun _ => rfl) (by omega) ?_))
      | refine EL.nil ?_
      | refine EW.seq ?_
      | refine EW.region ?_
      | refine EW.exit ?_
      | refine EW.ret ?_
      | refine EW.condF rfl ?_)
    exact ⟨_, rfl, RegOut.some hreg hout he⟩
  obtain ⟨hol, hgood⟩ := regS_good ok hl hg hk hreg
  obtain ⟨x1, p1, rfl, hp⟩ := Rd.elem insV_length (by decide) dIns (r1.ext he) hlt
  have okk := okc k hlt
  have hop := okI_op okk
  have hend : ∀ xs, stepS args (m + 1) out (t.code.getD k dIns) = some xs → regS t args (m + 1) (k + 1) = some (out ++ [xs]) := fun xs e => regS_succ hreg e
  have hfl : stepS args (m + 1) out (t.code.getD k dIns) = none → regS t args (m + 1) t.code.length = none := fun e => regS_fail hreg e _ hlt
  generalize t.code.getD k dIns = x at *
  repeat' (first
    | (show EL _ _ _ _ (_ :: _) _ _
       first
       | (show EL _ _ _ _ (⟨_, .nilCheck _, _, _, _, _⟩ :: _) _ _; refine EL.f (FV.nilChk rfl) rfl rfl ?_)
       | (show EL _ _ _ _ (⟨_, .fieldAddr _ _ _, _, _, _, _⟩ :: _) _ _; refine EL.f (FV.fieldAddr rfl rfl rfl rfl rfl) rfl rfl ?_)
       | (show EL _ _ _ _ (⟨_, .load _ _, _, _, _, _⟩ :: _) _ _; refine EL.f (FV.load1 rfl rfl rfl (hbr 1 _ rfl)) rfl rfl ?_)
       | (show EL _ _ _ _ (⟨_, .move _, _, _, _, _⟩ :: _) _ _; refine EL.f (FV.move rfl) rfl rfl ?_)
       | (show EL _ _ _ _ (⟨_, .call _, _, _, _, _⟩ :: _) _ _; refine EL.f (FV.len rfl rfl) rfl rfl ?_)
       | (show EL _ _ _ _ (⟨_, .binOp .lss _ _ _ _, _, _, _, _⟩ :: _) _ _; refine EL.fT (FV.lss rfl rfl) rfl (fun _ => rfl) (by omega) ?_))
    | refine EL.nil ?_
    | refine EW.seq ?_
    | refine EW.region ?_
    | refine EW.skip ?_
    | refine EW.condT rfl ?_)
  refine EW.block ?_
  repeat' (first
    | (show EL _ _ _ _ (_ :: _) _ _
       first
       | (show EL _ _ _ _ (⟨_, .nilCheck _, _, _, _, _⟩ :: _) _ _; refine EL.f (FV.nilChk rfl) rfl rfl ?_)
       | (show EL _ _ _ _ (⟨_, .fieldAddr _ _ _, _, _, _, _⟩ :: _) _ _; refine EL.f (FV.fieldAddr rfl rfl rfl rfl rfl) rfl rfl ?_)
       | (show EL _ _ _ _ (⟨_, .load _ _, _, _, _, _⟩ :: _) _ _; first | refine EL.f (FV.load1 rfl rfl rfl (hbr 1 _ rfl)) rfl rfl ?_ | refine EL.f (FV.loadAgg (cs := insV x) rfl rfl rfl rfl rfl (fun _ e => hp.ext (e ▸ Ext.refl _))) rfl rfl ?_)
       | (show EL _ _ _ _ (⟨_, .indexAddr _ _ _, _, _, _, _⟩ :: _) _ _; refine EL.f (FV.idx rfl rfl rfl rfl (by omega) (by omega)) rfl rfl ?_)
       | (show EL _ _ _ _ (⟨_, .move _, _, _, _, _⟩ :: _) _ _; refine EL.f (FV.move rfl) rfl rfl ?_))
    | refine EW.seq ?_
    | refine EW.region ?_)
  refine EL.h (Hv.allocA rfl rfl) rfl (fun _ => rfl) ?_
  rintro _ w4 ⟨g4, rfl, hg4, h4, he4⟩
  skip
  refine EL.h (Hv.storeAggG (vs := insV x) rfl rfl rfl rfl (insV_one _) h4 (Nat.le_refl _)) rfl (fun _ => rfl) ?_
  rintro _ w5 ⟨h5, hr5⟩
  have hw5 : Ext wr w5 := Below.wr he4 hr5 (by omega) (Nat.le_refl _)
  replace h5 : At w5 65 4 g4 1 1 (insV x) := h5
  repeat' (first
    | refine EL.nil ?_
    | refine EW.seq ?_
    | refine EW.region ?_)
  refine EL.h (Hv.build0 rfl rfl) rfl (fun _ => rfl) ?_
  rintro sv0 w6 ⟨hsv0, he6⟩
  have e6 := hw5.trans he6
  replace h5 := At.ext h5 he6
  have hout0 := hout.ext e6
  obtain ⟨A8, c8, rfl, hrows⟩ := hout0.rows
  repeat' (first
    | refine EL.f (FV.fieldAddr rfl rfl rfl rfl rfl) rfl rfl ?_
    | refine EL.f (FV.load1 rfl rfl rfl (At.cell h5 rfl)) rfl rfl ?_
    | refine EL.f (FV.assign rfl) rfl rfl ?_
    | refine EL.nil ?_
    | refine EW.seq ?_
    | refine EW.region ?_)
  refine EW.viaM (fun ρ' w' => ∃ sv xs, Sub [(11, sv), (0, .pointer (some ⟨b, o, none⟩)), (1, .slice A args.length c), (2, .int .i64 ((m + 1 : Nat) : Int)), (8, .slice A8 out.length c8), (9, .int .i64 k)] ρ' ∧ stepS args (m + 1) out x = some xs ∧ RowB w' w.heap.size sv xs ∧ Ext wr w') ?_ ?_
  · refine EW.block ?_
    subst hol
    by_cases o1 : x.op = 1
    · obtain ⟨on0, on1⟩ := okI_in okk o1
      obtain ⟨b1, p1, B1, c1, rfl, hc1, hr1⟩ := ha x.num.toNat (by omega)
      have hc1' := (he.trans e6).cell hc1
      repeat' (first
        | (show EL _ _ _ _ (_ :: _) _ _
           first
           | (show EL _ _ _ _ (⟨_, .fieldAddr _ _ _, _, _, _, _⟩ :: _) _ _; refine EL.f (FV.fieldAddr rfl rfl rfl rfl rfl) rfl rfl ?_)
           | (show EL _ _ _ _ (⟨_, .load _ _, _, _, _, _⟩ :: _) _ _; first | refine EL.f (FV.load1 rfl rfl rfl (At.cell h5 rfl)) rfl rfl ?_ | refine EL.f (FV.load1 rfl rfl rfl hc1') rfl rfl ?_)
           | (show EL _ _ _ _ (⟨_, .indexAddr _ _ _, _, _, _, _⟩ :: _) _ _; refine EL.f (FV.idx1 rfl rfl rfl rfl (by omega) (by omega)) rfl rfl ?_)
           | (show EL _ _ _ _ (⟨_, .move _, _, _, _, _⟩ :: _) _ _; refine EL.f (FV.move rfl) rfl rfl ?_)
           | (show EL _ _ _ _ (⟨_, .assign _, _, _, _, _⟩ :: _) _ _; refine EL.f (FV.assign rfl) rfl rfl ?_)
           | (show EL _ _ _ _ (⟨_, .binOp .eql _ _ _ _, _, _, _, _⟩ :: _) _ _; refine EL.fT (FV.eql rfl rfl) rfl (fun _ => rfl) (by omega) ?_))
        | refine EL.nil ?_
        | refine EW.seq ?_
        | refine EW.region ?_
        | refine EW.condT rfl ?_)
      exact ⟨_, _, ⟨rfl, rfl, rfl, rfl, rfl, rfl, trivial⟩, by unfold stepS; rw [if_pos o1], (RowB.old hr1 (Nat.le_refl _)).ext (he.trans e6), e6⟩
    by_cases o2 : x.op = 2
    · repeat' (first
        | (show EL _ _ _ _ (_ :: _) _ _
           first
           | (show EL _ _ _ _ (⟨_, .fieldAddr _ _ _, _, _, _, _⟩ :: _) _ _; refine EL.f (FV.fieldAddr rfl rfl rfl rfl rfl) rfl rfl ?_)
           | (show EL _ _ _ _ (⟨_, .load _ _, _, _, _, _⟩ :: _) _ _; refine EL.f (FV.load1 rfl rfl rfl (At.cell h5 rfl)) rfl rfl ?_)
           | (show EL _ _ _ _ (⟨_, .move _, _, _, _, _⟩ :: _) _ _; refine EL.f (FV.move rfl) rfl rfl ?_)
           | (show EL _ _ _ _ (⟨_, .assign _, _, _, _, _⟩ :: _) _ _; refine EL.f (FV.assign rfl) rfl rfl ?_)
           | (show EL _ _ _ _ (⟨_, .binOp .eql _ _ _ _, _, _, _, _⟩ :: _) _ _; first | refine EL.fT (FV.eql rfl rfl) rfl (fun _ => rfl) (by omega) ?_ | refine EL.fF (FV.eql rfl rfl) rfl (fun _ => rfl) (by omega) ?_))
        | refine EL.nil ?_
        | refine EW.seq ?_
        | refine EW.region ?_
        | refine EW.condT rfl ?_
        | refine EW.condF rfl ?_)
      refine EL.h (Hv.call (specConst x.num (m + 1) (by omega) w6) rfl) rfl (fun _ => rfl) ?_
      rintro _ w7 ⟨g7, rfl, hg7, hat7, he7⟩
      repeat' (first
        | refine EL.f (FV.assign rfl) rfl rfl ?_
        | refine EL.nil ?_)
      exact ⟨_, _, ⟨rfl, rfl, rfl, rfl, rfl, rfl, trivial⟩, by unfold stepS; rw [if_neg o1, if_pos o2], RowB.own (AtI.own' hat7 (constL_length _ _) (Nat.le_refl _)), e6.trans he7⟩
    by_cases o3 : x.op = 3
    · obtain ⟨⟨oa0, oa1⟩, ob0, ob1⟩ := okI_bin okk (by omega)
      obtain ⟨b8, o8, rfl, hcell⟩ := hrows.all (by omega)
      obtain ⟨Ba, ca, hca, hra⟩ := hcell x.a.toNat (by omega)
      obtain ⟨Bb, cb, hcb, hrb⟩ := hcell x.b.toNat (by omega)
      obtain ⟨la, na⟩ := hgood x.a.toNat (by omega)
      obtain ⟨lb, nb⟩ := hgood x.b.toNat (by omega)
      repeat' (first
        | refine EL.f (FV.assign rfl) rfl rfl ?_
        | refine EL.fT (FV.eql rfl rfl) rfl (fun _ => rfl) (by omega) ?_
        | refine EL.fF (FV.eql rfl rfl) rfl (fun _ => rfl) (by omega) ?_
        | refine EL.nil ?_
        | refine EW.seq ?_
        | refine EW.region ?_
        | refine EW.condT rfl ?_
        | refine EW.condF rfl ?_)
      refine EW.draw (fun w' => Ext w6 w') (pl 0 10 ++ [(10, false), (11, true)]) mixed (by decide +kernel) (Ext.drew _) ?_
      repeat' (first
        | refine EP.f rfl (FV.fieldAddr rfl rfl rfl rfl rfl) rfl rfl ?_
        | refine EP.f rfl (FV.load rfl rfl rfl (fun w' h' => At.cell (At.ext h5 h') rfl)) rfl rfl ?_
        | refine EP.f rfl (FV.load rfl rfl rfl (fun w' h' => h'.cell hca)) rfl rfl ?_
        | refine EP.f rfl (FV.load rfl rfl rfl (fun w' h' => h'.cell hcb)) rfl rfl ?_
        | refine EP.f rfl (FV.move rfl) rfl rfl ?_
        | refine EP.f rfl (FV.idx1 rfl rfl rfl rfl (by omega) (by omega)) rfl rfl ?_)
      have ed := Ext.drew w6
      refine EP.h rfl rfl (Hv.call (specAdd Ba Bb ca cb _ _ w6.drew (hra.ext ed) (hrb.ext ed) (by omega) (by omega)) rfl) rfl (fun _ => rfl) ?_
      rintro sv w7 ⟨hsv, he7⟩
      have e67 := ed.trans he7
      refine ⟨e67, ?_⟩
      repeat' (first
        | refine EP.nil ?_
        | refine EP.f rfl (FV.assign rfl) rfl rfl ?_)
      skip
      exact ⟨sv, (addL (out.getD x.a.toNat []) (out.getD x.b.toNat [])), ⟨rfl, rfl, rfl, rfl, rfl, rfl, trivial⟩, by unfold stepS; rw [if_neg o1, if_neg o2, if_pos o3], RowB.own hsv, e6.trans e67⟩
    by_cases o4 : x.op = 4
    · obtain ⟨⟨oa0, oa1⟩, ob0, ob1⟩ := okI_bin okk (by omega)
      obtain ⟨b8, o8, rfl, hcell⟩ := hrows.all (by omega)
      obtain ⟨Ba, ca, hca, hra⟩ := hcell x.a.toNat (by omega)
      obtain ⟨Bb, cb, hcb, hrb⟩ := hcell x.b.toNat (by omega)
      obtain ⟨la, na⟩ := hgood x.a.toNat (by omega)
      obtain ⟨lb, nb⟩ := hgood x.b.toNat (by omega)
      repeat' (first
        | refine EL.f (FV.assign rfl) rfl rfl ?_
        | refine EL.fT (FV.eql rfl rfl) rfl (fun _ => rfl) (by omega) ?_
        | refine EL.fF (FV.eql rfl rfl) rfl (fun _ => rfl) (by omega) ?_
        | refine EL.nil ?_
        | refine EW.seq ?_
        | refine EW.region ?_
        | refine EW.condT rfl ?_
        | refine EW.condF rfl ?_)
      refine EW.draw (fun w' => Ext w6 w') (pl 0 10 ++ [(10, false), (11, true)]) mixed (by decide +kernel) (Ext.drew _) ?_
      repeat' (first
        | refine EP.f rfl (FV.fieldAddr rfl rfl rfl rfl rfl) rfl rfl ?_
        | refine EP.f rfl (FV.load rfl rfl rfl (fun w' h' => At.cell (At.ext h5 h') rfl)) rfl rfl ?_
        | refine EP.f rfl (FV.load rfl rfl rfl (fun w' h' => h'.cell hca)) rfl rfl ?_
        | refine EP.f rfl (FV.load rfl rfl rfl (fun w' h' => h'.cell hcb)) rfl rfl ?_
        | refine EP.f rfl (FV.move rfl) rfl rfl ?_
        | refine EP.f rfl (FV.idx1 rfl rfl rfl rfl (by omega) (by omega)) rfl rfl ?_)
      have ed := Ext.drew w6
      refine EP.h rfl rfl (Hv.call (specSub Ba Bb ca cb _ _ w6.drew (hra.ext ed) (hrb.ext ed) (by omega) (by omega) (by omega)) rfl) rfl (fun _ => rfl) ?_
      rintro sv w7 ⟨hsv, he7⟩
      have e67 := ed.trans he7
      refine ⟨e67, ?_⟩
      repeat' (first
        | refine EP.nil ?_
        | refine EP.f rfl (FV.assign rfl) rfl rfl ?_)
      skip
      exact ⟨sv, (subL (out.getD x.a.toNat []) (out.getD x.b.toNat [])), ⟨rfl, rfl, rfl, rfl, rfl, rfl, trivial⟩, by unfold stepS; rw [if_neg o1, if_neg o2, if_neg o3, if_pos o4], RowB.own hsv, e6.trans e67⟩
    by_cases o5 : x.op = 5
    · obtain ⟨⟨oa0, oa1⟩, ob0, ob1⟩ := okI_bin okk (by omega)
      obtain ⟨b8, o8, rfl, hcell⟩ := hrows.all (by omega)
      obtain ⟨Ba, ca, hca, hra⟩ := hcell x.a.toNat (by omega)
      obtain ⟨Bb, cb, hcb, hrb⟩ := hcell x.b.toNat (by omega)
      obtain ⟨la, na⟩ := hgood x.a.toNat (by omega)
      obtain ⟨lb, nb⟩ := hgood x.b.toNat (by omega)
      repeat' (first
        | refine EL.f (FV.assign rfl) rfl rfl ?_
        | refine EL.fT (FV.eql rfl rfl) rfl (fun _ => rfl) (by omega) ?_
        | refine EL.fF (FV.eql rfl rfl) rfl (fun _ => rfl) (by omega) ?_
        | refine EL.nil ?_
        | refine EW.seq ?_
        | refine EW.region ?_
        | refine EW.condT rfl ?_
        | refine EW.condF rfl ?_)
      refine EW.draw (fun w' => Ext w6 w') (pl 0 10 ++ [(10, false), (11, true)]) mixed (by decide +kernel) (Ext.drew _) ?_
      repeat' (first
        | refine EP.f rfl (FV.fieldAddr rfl rfl rfl rfl rfl) rfl rfl ?_
        | refine EP.f rfl (FV.load rfl rfl rfl (fun w' h' => At.cell (At.ext h5 h') rfl)) rfl rfl ?_
        | refine EP.f rfl (FV.load rfl rfl rfl (fun w' h' => h'.cell hca)) rfl rfl ?_
        | refine EP.f rfl (FV.load rfl rfl rfl (fun w' h' => h'.cell hcb)) rfl rfl ?_
        | refine EP.f rfl (FV.move rfl) rfl rfl ?_
        | refine EP.f rfl (FV.idx1 rfl rfl rfl rfl (by omega) (by omega)) rfl rfl ?_)
      have ed := Ext.drew w6
      refine EP.h rfl rfl (Hv.call (specMul Ba Bb ca cb _ _ w6.drew (hra.ext ed) (hrb.ext ed) (by omega) (by omega)) rfl) rfl (fun _ => rfl) ?_
      rintro sv w7 ⟨hsv, he7⟩
      have e67 := ed.trans he7
      refine ⟨e67, ?_⟩
      repeat' (first
        | refine EP.nil ?_
        | refine EP.f rfl (FV.assign rfl) rfl rfl ?_)
      skip
      exact ⟨sv, (mulL (out.getD x.a.toNat []) (out.getD x.b.toNat [])), ⟨rfl, rfl, rfl, rfl, rfl, rfl, trivial⟩, by unfold stepS; rw [if_neg o1, if_neg o2, if_neg o3, if_neg o4, if_pos o5], RowB.own hsv, e6.trans e67⟩
    by_cases o7 : x.op = 7
    · obtain ⟨oa0, oa1⟩ := okI_neg okk o7
      obtain ⟨b8, o8, rfl, hcell⟩ := hrows.all (by omega)
      obtain ⟨Ba, ca, hca, hra⟩ := hcell x.a.toNat (by omega)
      obtain ⟨la, na⟩ := hgood x.a.toNat (by omega)
      repeat' (first
        | (show EL _ _ _ _ (_ :: _) _ _
           first
           | (show EL _ _ _ _ (⟨_, .fieldAddr _ _ _, _, _, _, _⟩ :: _) _ _; refine EL.f (FV.fieldAddr rfl rfl rfl rfl rfl) rfl rfl ?_)
           | (show EL _ _ _ _ (⟨_, .load _ _, _, _, _, _⟩ :: _) _ _; first | refine EL.f (FV.load1 rfl rfl rfl (At.cell h5 rfl)) rfl rfl ?_ | refine EL.f (FV.load1 rfl rfl rfl hca) rfl rfl ?_)
           | (show EL _ _ _ _ (⟨_, .indexAddr _ _ _, _, _, _, _⟩ :: _) _ _; refine EL.f (FV.idx1 rfl rfl rfl rfl (by omega) (by omega)) rfl rfl ?_)
           | (show EL _ _ _ _ (⟨_, .move _, _, _, _, _⟩ :: _) _ _; refine EL.f (FV.move rfl) rfl rfl ?_)
           | (show EL _ _ _ _ (⟨_, .assign _, _, _, _, _⟩ :: _) _ _; refine EL.f (FV.assign rfl) rfl rfl ?_)
           | (show EL _ _ _ _ (⟨_, .binOp .eql _ _ _ _, _, _, _, _⟩ :: _) _ _; first | refine EL.fT (FV.eql rfl rfl) rfl (fun _ => rfl) (by omega) ?_ | refine EL.fF (FV.eql rfl rfl) rfl (fun _ => rfl) (by omega) ?_))
        | refine EL.nil ?_
        | refine EW.seq ?_
        | refine EW.region ?_
        | refine EW.condT rfl ?_
        | refine EW.condF rfl ?_)
      refine EL.h (Hv.call (specScale Ba ca _ 1000002 w6 hra (by omega)) rfl) rfl (fun _ => rfl) ?_
      rintro sv w7 ⟨hsv, he7⟩
      repeat' (first
        | refine EL.f (FV.assign rfl) rfl rfl ?_
        | refine EL.nil ?_)
      exact ⟨sv, _, ⟨rfl, rfl, rfl, rfl, rfl, rfl, trivial⟩, by unfold stepS; rw [if_neg o1, if_neg o2, if_neg o3, if_neg o4, if_neg o5, if_pos o7], RowB.own hsv, e6.trans he7⟩
    have o6 : x.op = 6 := by omega
    obtain ⟨⟨oa0, oa1⟩, ob0, ob1⟩ := okI_bin okk (by omega)
    obtain ⟨b8, o8, rfl, hcell⟩ := hrows.all (by omega)
    obtain ⟨Ba, ca, hca, hra⟩ := hcell x.a.toNat (by omega)
    obtain ⟨Bb, cb, hcb, hrb⟩ := hcell x.b.toNat (by omega)
    obtain ⟨la, na⟩ := hgood x.a.toNat (by omega)
    obtain ⟨lb, nb⟩ := hgood x.b.toNat (by omega)
    obtain ⟨b0, p0, rfl, hc0⟩ := hrb.int (show 0 < (out.getD x.b.toNat []).length by omega)
    by_cases hz : (out.getD x.b.toNat []).getD 0 0 = 0
    · have hfail := hfl (by unfold stepS; rw [if_neg o1, if_neg o2, if_neg o3, if_neg o4, if_neg o5, if_neg o7, if_pos hz])
      repeat' (first
        | (show EL _ _ _ _ (_ :: _) _ _
           first
           | (show EL _ _ _ _ (⟨_, .fieldAddr _ _ _, _, _, _, _⟩ :: _) _ _; refine EL.f (FV.fieldAddr rfl rfl rfl rfl rfl) rfl rfl ?_)
           | (show EL _ _ _ _ (⟨_, .load _ _, _, _, _, _⟩ :: _) _ _; first | refine EL.f (FV.load1 rfl rfl rfl (At.cell h5 rfl)) rfl rfl ?_ | refine EL.f (FV.load1 rfl rfl rfl hcb) rfl rfl ?_ | refine EL.f (FV.load1 rfl rfl rfl hc0) rfl rfl ?_)
           | (show EL _ _ _ _ (⟨_, .indexAddr _ _ _, _, _, _, _⟩ :: _) _ _; refine EL.f (FV.idx1 rfl rfl rfl rfl (by omega) (by omega)) rfl rfl ?_)
           | (show EL _ _ _ _ (⟨_, .buildSlice _ _ _, _, _, _, _⟩ :: _) _ _; (refine EL.h (Hv.build0 rfl rfl) rfl (fun _ => rfl) ?_; rintro _ w9 ⟨_, he9⟩))
           | (show EL _ _ _ _ (⟨_, .move _, _, _, _, _⟩ :: _) _ _; refine EL.f (FV.move rfl) rfl rfl ?_)
           | (show EL _ _ _ _ (⟨_, .assign _, _, _, _, _⟩ :: _) _ _; refine EL.f (FV.assign rfl) rfl rfl ?_)
           | (show EL _ _ _ _ (⟨_, .binOp .eql _ _ _ _, _, _, _, _⟩ :: _) _ _; first | refine EL.fT (FV.eql rfl rfl) rfl (fun _ => rfl) (by omega) ?_ | refine EL.fF (FV.eql rfl rfl) rfl (fun _ => rfl) (by omega) ?_))
        | refine EL.nil ?_
        | refine EW.seq ?_
        | refine EW.region ?_
        | refine EW.ret ?_
        | refine EW.condT rfl ?_
        | refine EW.condF rfl ?_)
      exact ⟨_, rfl, RegOut.none hfail ((he.trans e6).trans he9)⟩
    · repeat' (first
        | (show EL _ _ _ _ (_ :: _) _ _
           first
           | (show EL _ _ _ _ (⟨_, .fieldAddr _ _ _, _, _, _, _⟩ :: _) _ _; refine EL.f (FV.fieldAddr rfl rfl rfl rfl rfl) rfl rfl ?_)
           | (show EL _ _ _ _ (⟨_, .load _ _, _, _, _, _⟩ :: _) _ _; first | refine EL.f (FV.load1 rfl rfl rfl (At.cell h5 rfl)) rfl rfl ?_ | refine EL.f (FV.load1 rfl rfl rfl hcb) rfl rfl ?_ | refine EL.f (FV.load1 rfl rfl rfl hc0) rfl rfl ?_)
           | (show EL _ _ _ _ (⟨_, .indexAddr _ _ _, _, _, _, _⟩ :: _) _ _; refine EL.f (FV.idx1 rfl rfl rfl rfl (by omega) (by omega)) rfl rfl ?_)
           | (show EL _ _ _ _ (⟨_, .move _, _, _, _, _⟩ :: _) _ _; refine EL.f (FV.move rfl) rfl rfl ?_)
           | (show EL _ _ _ _ (⟨_, .assign _, _, _, _, _⟩ :: _) _ _; refine EL.f (FV.assign rfl) rfl rfl ?_)
           | (show EL _ _ _ _ (⟨_, .binOp .eql _ _ _ _, _, _, _, _⟩ :: _) _ _; refine EL.fF (FV.eql rfl rfl) rfl (fun _ => rfl) (by omega) ?_))
        | refine EL.nil ?_
        | refine EW.seq ?_
        | refine EW.region ?_
        | refine EW.skip ?_
        | refine EW.condF rfl ?_)
      refine EW.draw (fun w' => Ext w6 w') (pl 0 10 ++ [(10, false), (11, true)]) mixed (by decide +kernel) (Ext.drew _) ?_
      repeat' (first
        | refine EP.f rfl (FV.fieldAddr rfl rfl rfl rfl rfl) rfl rfl ?_
        | refine EP.f rfl (FV.load rfl rfl rfl (fun w' h' => At.cell (At.ext h5 h') rfl)) rfl rfl ?_
        | refine EP.f rfl (FV.load rfl rfl rfl (fun w' h' => h'.cell hca)) rfl rfl ?_
        | refine EP.f rfl (FV.load rfl rfl rfl (fun w' h' => h'.cell hcb)) rfl rfl ?_
        | refine EP.f rfl (FV.move rfl) rfl rfl ?_
        | refine EP.f rfl (FV.idx1 rfl rfl rfl rfl (by omega) (by omega)) rfl rfl ?_)
      have ed := Ext.drew w6
      refine EP.h rfl rfl (Hv.call (specDiv Ba (some ⟨b0, p0, none⟩) ca cb _ _ w6.drew (hra.ext ed) (hrb.ext ed) (by omega) (by omega) (by omega) na) rfl) rfl (fun _ => rfl) ?_
      rintro sv w7 ⟨hsv, he7⟩
      have e67 := ed.trans he7
      refine ⟨e67, ?_⟩
      repeat' (first
        | refine EP.nil ?_
        | refine EP.f rfl (FV.assign rfl) rfl rfl ?_)
      skip
      exact ⟨sv, divL (out.getD x.a.toNat []) (out.getD x.b.toNat []), ⟨rfl, rfl, rfl, rfl, rfl, rfl, trivial⟩, by unfold stepS; rw [if_neg o1, if_neg o2, if_neg o3, if_neg o4, if_neg o5, if_neg o7, if_neg hz], RowB.own hsv, e6.trans e67⟩
  · rintro ρ' w7 ⟨sv, xs, hsub, hst, hrow, e67⟩
    refine EW.weaken ?_ hsub
    have hrg := step_good okk hl hg hgood hol hst
    have hout7 := (hout.ext e67)
    obtain ⟨Av, cv, rfl, hrv⟩ := hrow.rd
    repeat' (first
      | refine EL.f (FV.move rfl) rfl rfl ?_
      | refine EW.region ?_)
    refine EL.h (Hv.call (specOwnS Av cv xs w7 hrv (by omega) (by omega)) rfl) rfl (fun _ => rfl) ?_
    rintro sv w7b ⟨hown, he7⟩
    have hrow := RowB.own (B := w.heap.size) hown
    replace e67 := e67.trans he7
    replace hout7 := hout7.ext he7
    skip
    refine EL.h (Hv.build1A rfl rfl rfl hrow.one.2) rfl (fun _ => rfl) ?_
    rintro _ w8 ⟨g8, rfl, h8, hg8, he8⟩
    have e08 := (he.trans e67).trans he8
    skip
    refine EL.h (Hv.push rfl rfl (At.cell h8 rfl) (hout7.ext he8) (hrow.ext he8) (by omega) e08.size) rfl (fun _ => rfl) ?_
    rintro s9 w9 ⟨hout9, hgr, hbl⟩
    repeat' (first
      | refine EL.f (FV.move rfl) rfl rfl ?_
      | refine EL.f (FV.assign rfl) rfl rfl ?_
      | refine EL.f (FV.addI rfl rfl (by omega)) rfl rfl ?_
      | refine EL.nil ?_
      | refine EW.region ?_)
    exact ⟨(k + 1, s9), ⟨rfl, rfl, rfl, rfl, rfl, trivial⟩, ⟨by dsimp only; omega, ⟨_, hend _ hst, hout9⟩, Ext.after e08 hbl⟩, by dsimp only; omega⟩

end Eng
end Go.Proofs.Ytfkohgfcchhlpaa
