/- FuncNamed: the contracts of both sides. Conditions: the number of nodes. -/
import Derived.Test.YtcodicokpegfmaaVi
namespace Go.Proofs.Ytcodicokpegfmaa
open Go Go.RowKit
namespace Eng
/-- Where the first element lies that has a property; -1: nowhere. -/
def firstF (p : Fu → Bool) : List Fu → Nat → Int
  | [], _ => -1
  | x :: xs, k => if p x then k else firstF p xs (k + 1)
theorem firstF_none {p : Fu → Bool} : ∀ {xs : List Fu} {k : Nat}, (∀ j, j < xs.length → p (xs.getD j dFu) = false) → firstF p xs k = -1
  | [], _, _ => rfl
  | x :: xs, k, h => by
    have h0 : p x = false := h 0 (by simp)
    rw [firstF, h0]
    exact firstF_none fun j hj => h (j + 1) (by simpa using hj)
theorem firstF_at {p : Fu → Bool} : ∀ {xs : List Fu} {i k : Nat}, i < xs.length → p (xs.getD i dFu) = true → (∀ j, j < i → p (xs.getD j dFu) = false) → firstF p xs k = (k + i : Nat)
  | [], _, _, h, _, _ => by simp at h
  | x :: xs, 0, k, _, h, _ => by
    have h0 : p x = true := h
    rw [firstF, h0]
    rfl
  | x :: xs, i + 1, k, hi, h, hno => by
    have h0 : p x = false := hno 0 (by omega)
    rw [firstF, h0]
    have := firstF_at (xs := xs) (i := i) (k := k + 1) (by simpa using hi) h fun j hj => hno (j + 1) (by omega)
    rw [show (if false = true then ((k : Nat) : Int) else firstF p xs (k + 1)) = firstF p xs (k + 1) from rfl, this]
    omega
theorem firstF_range (p : Fu → Bool) : ∀ (xs : List Fu) (k : Nat), -1 ≤ firstF p xs k ∧ firstF p xs k < (k + xs.length : Nat)
  | [], k => by simp [firstF]; omega
  | x :: xs, k => by
    have := firstF_range p xs (k + 1)
    rw [firstF]
    simp only [List.length_cons]
    split <;> omega
theorem indexFuncFi (f : FuncId) (c : Value) (p : Fu → Bool) (ks : List Fu) (A : Option Addr) (cap : Nat) (w : World) (h : FsB w 0 A ks)
    (hf : ∀ i, i < ks.length → ∀ cs u, Ext w u → FuB u 0 cs (ks.getD i dFu) → CallsR Try.prog f ([.agg cs.toArray] ++ [c]) u fun v w' => v = .bool (p (ks.getD i dFu)) ∧ Ext u w') :
    CallsR Try.prog 74 [.slice A ks.length cap, .func (.func f) #[] #[c]] w fun v w' => v = .int .i64 (firstF p ks 0) ∧ Ext w w' := by
  have hr := h.1
  refine CallsR.enter Try.func74 (by decide +kernel) rfl Try.ntmps74 rfl ?_
  repeat' (first
    | refine EL.f (FV.move rfl) rfl rfl ?_
    | refine EL.f (FV.assign rfl) rfl rfl ?_
    | refine EL.f (FV.len rfl rfl) rfl rfl ?_
    | refine EL.nil ?_
    | refine EW.seq ?_
    | refine EW.region ?_
    | refine EW.block ?_)
  refine EW.loop (X := Nat) (fun i wr => i ≤ ks.length ∧ (∀ j, j < i → p (ks.getD j dFu) = false) ∧ Ext w wr) (fun i => [(0, .slice A ks.length cap), (1, .func (.func f) #[] #[c]), (7, .int .i64 ks.length), (8, .int .i64 i)]) (fun i => ks.length - i) 0 ⟨Nat.zero_le _, fun j hj => by omega, Ext.refl _⟩ ⟨rfl, rfl, rfl, rfl, trivial⟩ ?_
  rintro i wr ⟨hi, hno, hE⟩
  by_cases hlt : i < ks.length
  · obtain ⟨b, o, cs, rfl, hL, hX, hc⟩ := (h.ext hE).kid hlt
    have hcall := hf i hlt cs wr hE hX
    repeat' (first
      | (show EL _ _ _ _ (_ :: _) _ _
         first
         | (show EL _ _ _ _ (⟨_, .indexAddr _ _ _, _, _, _, _⟩ :: _) _ _; refine EL.f (FV.idx rfl rfl rfl rfl (by omega) (by omega)) rfl rfl ?_)
         | (show EL _ _ _ _ (⟨_, .load _ _, _, _, _, _⟩ :: _) _ _; refine EL.f (FV.loadAgg (cs := cs) rfl rfl rfl hc rfl (fun _ e => e ▸ hL)) rfl rfl ?_)
         | (show EL _ _ _ _ (⟨_, .move _, _, _, _, _⟩ :: _) _ _; refine EL.f (FV.move rfl) rfl rfl ?_)
         | (show EL _ _ _ _ (⟨_, .assign _, _, _, _, _⟩ :: _) _ _; refine EL.f (FV.assign rfl) rfl rfl ?_)
         | (show EL _ _ _ _ (⟨_, .binOp .lss _ _ _ _, _, _, _, _⟩ :: _) _ _; refine EL.fT (FV.lss rfl rfl) rfl (fun _ => rfl) (by omega) ?_))
      | refine EL.nil ?_
      | refine EW.seq ?_
      | refine EW.region ?_
      | refine EW.block ?_
      | refine EW.skip ?_
      | refine EW.condT rfl ?_)
    refine EL.h (Hv.callC (vs := [.agg cs.toArray]) hcall rfl rfl) rfl (fun _ => rfl) ?_
    rintro _ w1 ⟨rfl, he1⟩
    cases hp : p (ks.getD i dFu)
    · repeat' (first
        | refine EL.f (FV.move rfl) rfl rfl ?_
        | refine EL.f (FV.addI rfl rfl (by omega)) rfl rfl ?_
        | refine EL.nil ?_
        | refine EW.region ?_
        | refine EW.skip ?_
        | refine EW.condF rfl ?_)
      exact ⟨i + 1, ⟨rfl, rfl, rfl, rfl, trivial⟩, ⟨by omega, fun j hj => by
        by_cases e : j = i
        · subst e; exact hp
        · exact hno j (by omega), hE.trans he1⟩, by omega⟩
    · repeat' (first
        | refine EL.f (FV.move rfl) rfl rfl ?_
        | refine EL.f (FV.assign rfl) rfl rfl ?_
        | refine EL.nil ?_
        | refine EW.seq ?_
        | refine EW.region ?_
        | refine EW.ret ?_
        | refine EW.condT rfl ?_)
      exact ⟨_, rfl, by rw [firstF_at hlt hp hno]; simp, hE.trans he1⟩
  · obtain rfl : i = ks.length := by omega
    repeat' (first
      | refine EL.f (FV.assign rfl) rfl rfl ?_
      | refine EL.fF (FV.lss rfl rfl) rfl (fun _ => rfl) (by omega) ?_
      | refine EL.nil ?_
      | refine EW.seq ?_
      | refine EW.region ?_
      | refine EW.exit ?_
      | refine EW.ret ?_
      | refine EW.condF rfl ?_)
    exact ⟨_, rfl, by rw [firstF_none hno], hE⟩
def hit (s : ByteArray) (g : Fu) : Bool := g.name.toList == s.toList
def namedR (fs : List Fu) (s : ByteArray) : Int × Int := if validP fs = true then (if 0 ≤ firstF (hit s) fs 0 then (firstF (hit s) fs 0, 0) else (0, 9)) else (0, 1)
theorem implHit (s : ByteArray) (g : Fu) (cs : List Value) (g4 : Nat) (w : World) (hX : FuB w 0 cs g) (h4 : At w 9 1 g4 1 1 [.string s]) : CallsR Try.prog 75 ([.agg cs.toArray] ++ [.pointer (some ⟨g4, 0, none⟩)]) w fun v w' => v = .bool (hit s g) ∧ Ext w w' := by
  obtain ⟨A, cap, rfl, _, _⟩ := hX
  refine CallsR.enter Try.func75 (by decide +kernel) rfl Try.ntmps75 rfl ?_
  repeat' (first
    | refine EW.seq ?_
    | refine EW.region ?_)
  refine EL.h (Hv.boxA (sz := 3) rfl rfl) rfl (fun _ => rfl) ?_
  rintro _ w1 ⟨g1, rfl, hg1, hb, he1⟩
  replace h4 := At.ext h4 he1
  repeat' (first
    | (show EL _ _ _ _ (_ :: _) _ _
       first
       | (show EL _ _ _ _ (⟨_, .fieldAddr _ _ _, _, _, _, _⟩ :: _) _ _; refine EL.f (FV.fieldAddr rfl rfl rfl rfl rfl) rfl rfl ?_)
       | (show EL _ _ _ _ (⟨_, .load _ _, _, _, _, _⟩ :: _) _ _; first | refine EL.f (FV.load1 rfl rfl rfl (At.cell hb rfl)) rfl rfl ?_ | refine EL.f (FV.load1 rfl rfl rfl (At.cell h4 rfl)) rfl rfl ?_)
       | (show EL _ _ _ _ (⟨_, .binOp .eql _ _ _ _, _, _, _, _⟩ :: _) _ _; refine EL.f (FV.eqlS rfl rfl) rfl rfl ?_)
       | (show EL _ _ _ _ (⟨_, .assign _, _, _, _, _⟩ :: _) _ _; refine EL.f (FV.assign rfl) rfl rfl ?_))
    | refine EL.nil ?_
    | refine EW.seq ?_
    | refine EW.region ?_
    | refine EW.ret ?_)
  exact ⟨_, rfl, rfl, he1⟩
theorem implNamed (q : Pr) (hs : q.cnt ≤ 1048576) (qs : List Value) (s : ByteArray) (w : World) (hx : PrB w 0 qs q) : CallsR Try.prog 41 [.agg qs.toArray, .string s] w fun v w' => v = .tuple #[.int .i64 (namedR q.funcs s).1, .int .i64 (namedR q.funcs s).2] ∧ Ext w w' := by
  have hxx := hx
  obtain ⟨A, cap, rfl, hfs, hcap⟩ := hx
  have hge := hfs.1
  have hrg := firstF_range (hit s) q.funcs 0
  refine CallsR.enter Try.func41 (by decide +kernel) rfl Try.ntmps41 rfl ?_
  repeat' (first
    | refine EW.seq ?_
    | refine EW.region ?_)
  refine EL.h (Hv.boxA (sz := 1) rfl rfl) rfl (fun _ => rfl) ?_
  rintro _ w1 ⟨g1, rfl, hg1, hb1, he1⟩
  skip
  refine EL.h (Hv.boxA (sz := 1) rfl rfl) rfl (fun _ => rfl) ?_
  rintro _ w2 ⟨g2, rfl, hg2, hb2, he2⟩
  replace hb1 := At.ext hb1 he2
  have hw2 := he1.trans he2
  repeat' (first
    | refine EL.f (FV.loadAgg (cs := [.slice A q.funcs.length cap]) rfl rfl rfl rfl rfl (fun _ e => e ▸ At.lies hb1)) rfl rfl ?_
    | refine EL.f (FV.assign rfl) rfl rfl ?_
    | refine EL.nil ?_
    | refine EW.seq ?_
    | refine EW.region ?_)
  refine EL.h (Hv.call (implValidP q hs [.slice A q.funcs.length cap] w2 (PrB.ext hxx hw2)) rfl) rfl (fun _ => rfl) ?_
  rintro _ w3 ⟨rfl, he3⟩
  have hw3 := hw2.trans he3
  replace hb1 := At.ext hb1 he3
  replace hb2 := At.ext hb2 he3
  cases hv : validP q.funcs
  · repeat' (first
      | refine EL.f (FV.assign rfl) rfl rfl ?_
      | refine EL.f (FV.not rfl) rfl rfl ?_
      | refine EL.nil ?_
      | refine EW.seq ?_
      | refine EW.region ?_
      | refine EW.ret ?_
      | refine EW.condT rfl ?_)
    exact ⟨_, rfl, by rw [namedR, if_neg (by rw [hv]; decide)], hw3⟩
  repeat' (first
    | (show EL _ _ _ _ (_ :: _) _ _
       first
       | (show EL _ _ _ _ (⟨_, .fieldAddr _ _ _, _, _, _, _⟩ :: _) _ _; refine EL.f (FV.fieldAddr rfl rfl rfl rfl rfl) rfl rfl ?_)
       | (show EL _ _ _ _ (⟨_, .load _ _, _, _, _, _⟩ :: _) _ _; refine EL.f (FV.load1 rfl rfl rfl (At.cell hb1 rfl)) rfl rfl ?_)
       | (show EL _ _ _ _ (⟨_, .makeFunc _ _ _, _, _, _, _⟩ :: _) _ _; refine EL.f (FV.makeFn rfl) rfl rfl ?_)
       | (show EL _ _ _ _ (⟨_, .unOp .not _ _, _, _, _, _⟩ :: _) _ _; refine EL.f (FV.not rfl) rfl rfl ?_))
    | refine EL.nil ?_
    | refine EW.seq ?_
    | refine EW.region ?_
    | refine EW.skip ?_
    | refine EW.condF rfl ?_)
  refine EL.h (Hv.call (indexFuncFi 75 (.pointer (some ⟨g2, 0, none⟩)) (hit s) q.funcs A cap w3 (hfs.ext hw3) (fun j hj cs u hu hX => implHit s _ cs g2 u hX (At.ext hb2 hu))) rfl) rfl (fun _ => rfl) ?_
  rintro _ w4 ⟨rfl, he4⟩
  have hn : namedR q.funcs s = if 0 ≤ firstF (hit s) q.funcs 0 then (firstF (hit s) q.funcs 0, 0) else (0, 9) := if_pos hv
  rw [hn]
  generalize firstF (hit s) q.funcs 0 = r at *
  by_cases hr : 0 ≤ r
  · rw [if_pos hr]
    repeat' (first
      | refine EL.f (FV.move rfl) rfl rfl ?_
      | refine EL.f (FV.assign rfl) rfl rfl ?_
      | refine EL.fF (FV.lss rfl rfl) rfl (fun _ => rfl) (by omega) ?_
      | refine EL.nil ?_
      | refine EW.seq ?_
      | refine EW.region ?_
      | refine EW.skip ?_
      | refine EW.ret ?_
      | refine EW.condF rfl ?_)
    exact ⟨_, rfl, rfl, hw3.trans he4⟩
  · rw [if_neg hr]
    repeat' (first
      | refine EL.f (FV.move rfl) rfl rfl ?_
      | refine EL.f (FV.assign rfl) rfl rfl ?_
      | refine EL.fT (FV.lss rfl rfl) rfl (fun _ => rfl) (by omega) ?_
      | refine EL.nil ?_
      | refine EW.seq ?_
      | refine EW.region ?_
      | refine EW.ret ?_
      | refine EW.condT rfl ?_)
    exact ⟨_, rfl, rfl, hw3.trans he4⟩
theorem specNamed (q : Pr) (hs : q.cnt ≤ 1048576) (qs : List Value) (s : ByteArray) (w : World) (hx : PrB w 0 qs q) : CallsR Try.prog 40 [.agg qs.toArray, .string s] w fun v w' => v = .tuple #[.int .i64 (namedR q.funcs s).1, .int .i64 (namedR q.funcs s).2] ∧ Ext w w' := by
  obtain ⟨A, cap, rfl, hfs, hcap⟩ := hx
  have hge := hfs.1
  refine CallsR.enter Try.func40 (by decide +kernel) rfl Try.ntmps40 rfl ?_
  repeat' (first
    | refine EW.seq ?_
    | refine EW.region ?_)
  refine EL.h (Hv.boxA (sz := 1) rfl rfl) rfl (fun _ => rfl) ?_
  rintro _ w1 ⟨g1, rfl, hg1, hb1, he1⟩
  repeat' (first
    | refine EL.f (FV.assign rfl) rfl rfl ?_
    | refine EL.nil ?_
    | refine EW.seq ?_
    | refine EW.region ?_)
  refine EL.h (Hv.call (specOkP q.funcs hs g1 0 w1 ⟨A, cap, At.lies hb1, hfs.ext he1⟩) rfl) rfl (fun _ => rfl) ?_
  rintro _ w3 ⟨rfl, he3⟩
  have hw3 := he1.trans he3
  replace hb1 := At.ext hb1 he3
  cases hv : validP q.funcs
  · repeat' (first
      | refine EL.f (FV.assign rfl) rfl rfl ?_
      | refine EL.f (FV.not rfl) rfl rfl ?_
      | refine EL.nil ?_
      | refine EW.seq ?_
      | refine EW.region ?_
      | refine EW.ret ?_
      | refine EW.condT rfl ?_)
    exact ⟨_, rfl, by rw [namedR, if_neg (by rw [hv]; decide)], hw3⟩
  have hn : namedR q.funcs s = if 0 ≤ firstF (hit s) q.funcs 0 then (firstF (hit s) q.funcs 0, 0) else (0, 9) := if_pos hv
  rw [hn]
  repeat' (first
    | refine EL.f (FV.assign rfl) rfl rfl ?_
    | refine EL.f (FV.not rfl) rfl rfl ?_
    | refine EL.nil ?_
    | refine EW.seq ?_
    | refine EW.region ?_
    | refine EW.block ?_
    | refine EW.skip ?_
    | refine EW.condF rfl ?_)
  refine EW.loop (X := Nat) (fun i wr => i ≤ q.funcs.length ∧ (∀ j, j < i → hit s (q.funcs.getD j dFu) = false) ∧ Ext w3 wr) (fun i => [(1, .string s), (2, .pointer (some ⟨g1, 0, none⟩)), (6, .int .i64 i)]) (fun i => q.funcs.length - i) 0 ⟨Nat.zero_le _, fun j hj => by omega, Ext.refl _⟩ ⟨rfl, rfl, rfl, trivial⟩ ?_
  rintro i wr ⟨hi, hno, hE⟩
  have hWr := hw3.trans hE
  replace hb1 := At.ext hb1 hE
  by_cases hlt : i < q.funcs.length
  rotate_left
  · obtain rfl : i = q.funcs.length := by omega
    rw [firstF_none hno]
    repeat' (first
      | (show EL _ _ _ _ (_ :: _) _ _
         first
         | (show EL _ _ _ _ (⟨_, .fieldAddr _ _ _, _, _, _, _⟩ :: _) _ _; refine EL.f (FV.fieldAddr rfl rfl rfl rfl rfl) rfl rfl ?_)
         | (show EL _ _ _ _ (⟨_, .load _ _, _, _, _, _⟩ :: _) _ _; refine EL.f (FV.load1 rfl rfl rfl (At.cell hb1 rfl)) rfl rfl ?_)
         | (show EL _ _ _ _ (⟨_, .move _, _, _, _, _⟩ :: _) _ _; refine EL.f (FV.move rfl) rfl rfl ?_)
         | (show EL _ _ _ _ (⟨_, .assign _, _, _, _, _⟩ :: _) _ _; refine EL.f (FV.assign rfl) rfl rfl ?_)
         | (show EL _ _ _ _ (⟨_, .call _, _, _, _, _⟩ :: _) _ _; refine EL.f (FV.len rfl rfl) rfl rfl ?_)
         | (show EL _ _ _ _ (⟨_, .binOp .lss _ _ _ _, _, _, _, _⟩ :: _) _ _; refine EL.fF (FV.lss rfl rfl) rfl (fun _ => rfl) (by omega) ?_))
      | refine EL.nil ?_
      | refine EW.seq ?_
      | refine EW.region ?_
      | refine EW.exit ?_
      | refine EW.ret ?_
      | refine EW.condF rfl ?_)
    exact ⟨_, rfl, rfl, hWr⟩
  obtain ⟨bf, of, cs, rfl, hL, ⟨B, bap, rfl, _, _⟩, hc⟩ := (hfs.ext hWr).kid hlt
  have f0 := hL 0 _ rfl
  cases hq : hit s (q.funcs.getD i dFu)
  · have hq' : ((q.funcs.getD i dFu).name.toList == s.toList) = false := hq
    repeat' (first
      | (show EL _ _ _ _ (_ :: _) _ _
         first
         | (show EL _ _ _ _ (⟨_, .fieldAddr _ _ _, _, _, _, _⟩ :: _) _ _; refine EL.f (FV.fieldAddr rfl rfl rfl rfl rfl) rfl rfl ?_)
         | (show EL _ _ _ _ (⟨_, .load _ _, _, _, _, _⟩ :: _) _ _; first | refine EL.f (FV.load1 rfl rfl rfl (At.cell hb1 rfl)) rfl rfl ?_ | refine EL.f (FV.load1 rfl rfl rfl (f0)) rfl rfl ?_)
         | (show EL _ _ _ _ (⟨_, .indexAddr _ _ _, _, _, _, _⟩ :: _) _ _; refine EL.f (FV.idx rfl rfl rfl rfl (by omega) (by omega)) rfl rfl ?_)
         | (show EL _ _ _ _ (⟨_, .binOp .eql _ _ _ _, _, _, _, _⟩ :: _) _ _; refine EL.f (FV.eqlSb rfl rfl hq') rfl rfl ?_)
         | (show EL _ _ _ _ (⟨_, .move _, _, _, _, _⟩ :: _) _ _; refine EL.f (FV.move rfl) rfl rfl ?_)
         | (show EL _ _ _ _ (⟨_, .assign _, _, _, _, _⟩ :: _) _ _; refine EL.f (FV.assign rfl) rfl rfl ?_)
         | (show EL _ _ _ _ (⟨_, .binOp .add _ _ _ _, _, _, _, _⟩ :: _) _ _; refine EL.f (FV.addI rfl rfl (by omega)) rfl rfl ?_)
         | (show EL _ _ _ _ (⟨_, .call _, _, _, _, _⟩ :: _) _ _; refine EL.f (FV.len rfl rfl) rfl rfl ?_)
         | (show EL _ _ _ _ (⟨_, .binOp .lss _ _ _ _, _, _, _, _⟩ :: _) _ _; refine EL.fT (FV.lss rfl rfl) rfl (fun _ => rfl) (by omega) ?_))
      | refine EL.nil ?_
      | refine EW.seq ?_
      | refine EW.region ?_
      | refine EW.block ?_
      | refine EW.skip ?_
      | refine EW.condT rfl ?_
      | refine EW.condF rfl ?_)
    exact ⟨i + 1, ⟨rfl, rfl, rfl, trivial⟩, ⟨by omega, fun j hj => by
      by_cases e : j = i
      · subst e; exact hq
      · exact hno j (by omega), hE⟩, by omega⟩
  · have hq' : ((q.funcs.getD i dFu).name.toList == s.toList) = true := hq
    rw [firstF_at hlt hq hno, if_pos (by omega), Nat.zero_add]
    repeat' (first
      | (show EL _ _ _ _ (_ :: _) _ _
         first
         | (show EL _ _ _ _ (⟨_, .fieldAddr _ _ _, _, _, _, _⟩ :: _) _ _; refine EL.f (FV.fieldAddr rfl rfl rfl rfl rfl) rfl rfl ?_)
         | (show EL _ _ _ _ (⟨_, .load _ _, _, _, _, _⟩ :: _) _ _; first | refine EL.f (FV.load1 rfl rfl rfl (At.cell hb1 rfl)) rfl rfl ?_ | refine EL.f (FV.load1 rfl rfl rfl (f0)) rfl rfl ?_)
         | (show EL _ _ _ _ (⟨_, .indexAddr _ _ _, _, _, _, _⟩ :: _) _ _; refine EL.f (FV.idx rfl rfl rfl rfl (by omega) (by omega)) rfl rfl ?_)
         | (show EL _ _ _ _ (⟨_, .binOp .eql _ _ _ _, _, _, _, _⟩ :: _) _ _; refine EL.f (FV.eqlSb rfl rfl hq') rfl rfl ?_)
         | (show EL _ _ _ _ (⟨_, .move _, _, _, _, _⟩ :: _) _ _; refine EL.f (FV.move rfl) rfl rfl ?_)
         | (show EL _ _ _ _ (⟨_, .assign _, _, _, _, _⟩ :: _) _ _; refine EL.f (FV.assign rfl) rfl rfl ?_)
         | (show EL _ _ _ _ (⟨_, .call _, _, _, _, _⟩ :: _) _ _; refine EL.f (FV.len rfl rfl) rfl rfl ?_)
         | (show EL _ _ _ _ (⟨_, .binOp .lss _ _ _ _, _, _, _, _⟩ :: _) _ _; refine EL.fT (FV.lss rfl rfl) rfl (fun _ => rfl) (by omega) ?_))
      | refine EL.nil ?_
      | refine EW.seq ?_
      | refine EW.region ?_
      | refine EW.block ?_
      | refine EW.skip ?_
      | refine EW.ret ?_
      | refine EW.condT rfl ?_)
    exact ⟨_, rfl, rfl, hWr⟩
end Eng
end Go.Proofs.Ytcodicokpegfmaa
