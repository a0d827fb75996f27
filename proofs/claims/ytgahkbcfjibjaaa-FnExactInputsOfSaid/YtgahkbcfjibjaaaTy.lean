/- What a step leaves alone; marks on tapes. Conditions: the lengths. -/
import Derived.Test.YtgahkbcfjibjaaaTx
namespace Go.Proofs.Ytgahkbcfjibjaaa
open Go Go.RowKit
namespace Eng
/-- Of the blocks that were there, only those of the list were written. -/
structure Only (L : List (Option Nat)) (w w' : World) : Prop where
  os : w'.os = w.os
  tape : w'.tape = w.tape
  output : w'.output = w.output
  size : w.heap.size ≤ w'.heap.size
  block : ∀ k, k < w.heap.size → some k ∉ L → w'.heap[k]? = w.heap[k]?
theorem Only.one {w w' : World} {row : Option Nat} (h : w.grownBy w' row) : Only [row] w w' :=
  ⟨h.os, h.tape, h.output, h.size, fun k hk hn => h.block k hk (by simpa using hn)⟩
theorem Only.ext {w w' : World} (h : Ext w w') : Only [] w w' := ⟨h.os, h.tape, h.output, h.size, fun k hk _ => h.block k hk⟩
theorem Only.trans {a b c : World} {L M : List (Option Nat)} (h : Only L a b) (k : Only M b c) : Only (L ++ M) a c :=
  ⟨k.os.trans h.os, k.tape.trans h.tape, k.output.trans h.output, Nat.le_trans h.size k.size, fun j hj hn => by
    rw [List.mem_append, not_or] at hn
    exact (k.block j (Nat.lt_of_lt_of_le hj h.size) hn.2).trans (h.block j hj hn.1)⟩
theorem Only.mono {w w' : World} {L M : List (Option Nat)} (h : Only L w w') (hm : ∀ x, x ∈ L → x ∈ M) : Only M w w' :=
  ⟨h.os, h.tape, h.output, h.size, fun k hk hn => h.block k hk (fun e => hn (hm _ e))⟩
theorem Only.after {a b c : World} {L : List (Option Nat)} (h : Ext a b) (k : Only L b c) (hl : ∀ j, some j ∈ L → a.heap.size ≤ j) : Ext a c :=
  ⟨k.os.trans h.os, k.tape.trans h.tape, k.output.trans h.output, Nat.le_trans h.size k.size, fun j hj => (k.block j (Nat.lt_of_lt_of_le hj h.size) (fun e => by have := hl j e; omega)).trans (h.block j hj)⟩
theorem At.only {w w' : World} {L : List (Option Nat)} {e size g n c : Nat} {cs : List Value} (h : At w e size g n c cs) (k : Only L w w') (hne : some g ∉ L) : At w' e size g n c cs := by
  obtain ⟨cur, h1, r⟩ := h.row
  exact ⟨h.len, cur, (k.block g h.lt hne).trans h1, r⟩
theorem Own.only {w w' : World} {L : List (Option Nat)} {B : Nat} {t : Tp} {ga gb gc : Nat} (h : Own w B t ga gb gc) (k : Only L w w') (hne : some ga ∉ L ∧ some gb ∉ L ∧ some gc ∉ L) : Own w' B t ga gb gc :=
  ⟨h.lo, h.ab, h.bc, At.only h.a k hne.1, At.only h.b k hne.2.1, At.only h.c k hne.2.2⟩
theorem own_only {w w' : World} {L : List (Option Nat)} {B e size n : Nat} {v : Value} {cs : List Value} (h : w.ownsRow B e size v n cs) (k : Only L w w') (hne : ∀ j, some j ∈ L → v.ownBlock ≠ some j) : w'.ownsRow B e size v n cs := by
  refine ⟨h.1, ?_⟩
  rcases h.2 with h2 | ⟨g, cap, cur, hv, hb, hg, r⟩
  · exact .inl h2
  · refine .inr ⟨g, cap, cur, hv, hb, (k.block g (Array.getElem?_eq_some_iff.1 hg).1 (fun e => hne g e (by rw [hv]; rfl))).trans hg, r⟩
theorem own_block {w : World} {B e size n : Nat} {v : Value} {cs : List Value} (h : w.ownsRow B e size v n cs) {k : Nat} (hk : v.ownBlock = some k) : B ≤ k ∧ k < w.heap.size := World.ownsRow.lt h k hk
/-- Rows of different types lie apart. -/
theorem own_ne {w : World} {B B' e e' s s' n m : Nat} {v u : Value} {cs ds : List Value} (h : w.ownsRow B e s v n cs) (k : w.ownsRow B' e' s' u m ds) (he : e ≠ e') : v.ownBlock = none ∨ v.ownBlock ≠ u.ownBlock := by
  rcases h.2 with ⟨rfl, _⟩ | ⟨g, cap, cur, rfl, _, hg, _⟩
  · exact .inl rfl
  · right
    intro hq
    rcases k.2 with ⟨rfl, _⟩ | ⟨g', cap', cur', rfl, _, hg', _⟩
    · cases hq
    · have : g = g' := by simpa [Value.ownBlock] using hq
      subst this
      rw [hg] at hg'
      injection hg' with hg'
      injection hg' with _ h2 _
      exact he h2
theorem OwnI.only {w w' : World} {L : List (Option Nat)} {B : Nat} {v : Value} {xs : List Int} (h : OwnI B w v xs) (k : Only L w w') (hne : ∀ j, some j ∈ L → j < B) : OwnI B w' v xs :=
  own_only h k fun j hj e => by have := (own_block h e).1; have := hne j hj; omega
theorem OwnI.block {w : World} {B : Nat} {v : Value} {xs : List Int} (h : OwnI B w v xs) {k : Nat} (hk : some k ∈ [v.ownBlock]) : B ≤ k ∧ k < w.heap.size := own_block h (by simpa using (List.mem_singleton.1 hk).symm)
/-- A tape of one's own, its rows wherever. -/
def OwnT (B : Nat) (w : World) (v : Value) (t : Tp) : Prop := ∃ s1 s2 s3, v = .agg #[.int .i64 t.inputs, s1, s2, s3] ∧ w.ownsRow B 72 4 s1 t.code.length (insL t.code) ∧ w.ownsRow B 107 2 s2 t.guards.length (gdL t.guards) ∧ OwnI B w s3 t.outs
def blocksT : Value → List (Option Nat)
  | .agg cs => (cs.toList.drop 1).map Value.ownBlock
  | _ => []
theorem Own.ownT {w : World} {B B' : Nat} {t : Tp} {ga gb gc : Nat} (h : Own w B t ga gb gc) (hB : B' ≤ B) : OwnT B' w (.agg (tapeC t ga gb gc).toArray) t := by
  have h0 := h.lo
  have h1 := h.ab
  have h2 := h.bc
  exact ⟨_, _, _, rfl, At.own h.a (by omega), At.own h.b (by omega), At.own h.c (by omega)⟩
theorem OwnT.tape {B : Nat} {w : World} {v : Value} {t : Tp} (h : OwnT B w v t) : TapeV w v t := by
  obtain ⟨s1, s2, s3, rfl, h1, h2, h3⟩ := h
  obtain ⟨A, c, rfl, r1⟩ := own_form h1
  obtain ⟨A', c', rfl, r2⟩ := own_form h2
  obtain ⟨A'', c'', rfl, r3⟩ := h3.form
  exact ⟨_, _, _, _, _, _, rfl, r1, r2, r3⟩
theorem OwnT.ext {B : Nat} {w w' : World} {v : Value} {t : Tp} (h : OwnT B w v t) (he : Ext w w') : OwnT B w' v t := by
  obtain ⟨s1, s2, s3, rfl, h1, h2, h3⟩ := h
  exact ⟨_, _, _, rfl, own_ext h1 he, own_ext h2 he, own_ext h3 he⟩
theorem OwnT.only {B : Nat} {w w' : World} {L : List (Option Nat)} {v : Value} {t : Tp} (h : OwnT B w v t) (k : Only L w w') (hne : ∀ j, some j ∈ L → j < B) : OwnT B w' v t := by
  obtain ⟨s1, s2, s3, rfl, h1, h2, h3⟩ := h
  exact ⟨_, _, _, rfl, own_only h1 k fun j hj e => (by have := (own_block h1 e).1; have := hne j hj; omega), own_only h2 k fun j hj e => (by have := (own_block h2 e).1; have := hne j hj; omega), own_only h3 k fun j hj e => (by have := (own_block h3 e).1; have := hne j hj; omega)⟩
theorem OwnT.block {B : Nat} {w : World} {v : Value} {t : Tp} (h : OwnT B w v t) {k : Nat} (hk : some k ∈ blocksT v) : B ≤ k ∧ k < w.heap.size := by
  obtain ⟨s1, s2, s3, rfl, h1, h2, h3⟩ := h
  simp only [blocksT, List.drop_succ_cons, List.drop_zero, List.map_cons, List.map_nil, List.mem_cons, List.not_mem_nil, or_false] at hk
  rcases hk with hk | hk | hk
  · exact own_block h1 hk.symm
  · exact own_block h2 hk.symm
  · exact own_block h3 hk.symm
def insM (k i : Nat) : Ins := ⟨((k + 4 * i : Nat) : Int), ((k + 4 * i : Nat) : Int) + 1, ((k + 4 * i : Nat) : Int) + 1 + 1, ((k + 4 * i : Nat) : Int) + 1 + 1 + 1⟩
def gdM (k i : Nat) : Gd := ⟨((k + 2 * i : Nat) : Int), decide ((((k + 2 * i : Nat) : Int) + 1) % 3 = 0)⟩
def marksI (k n : Nat) : List Ins := (List.range n).map (insM k)
def marksG (k n : Nat) : List Gd := (List.range n).map (gdM k)
theorem marksI_length (k n : Nat) : (marksI k n).length = n := by simp [marksI]
theorem marksG_length (k n : Nat) : (marksG k n).length = n := by simp [marksG]
theorem marksI_get (k n i : Nat) (h : i < n) : (marksI k n).getD i dIns = insM k i := by simp [marksI, h]
theorem marksG_get (k n i : Nat) (h : i < n) : (marksG k n).getD i dGd = gdM k i := by simp [marksG, h]
/-- the first i are f 0, f 1, .., the others as they were -/
def part1 {α : Type} (f : Nat → α) (xs : List α) (i : Nat) : List α := (List.range i).map f ++ xs.drop i
theorem part1_length {α : Type} (f : Nat → α) (xs : List α) (i : Nat) (h : i ≤ xs.length) : (part1 f xs i).length = xs.length := by simp [part1]; omega
theorem part1_set {α : Type} (f : Nat → α) (xs : List α) (i : Nat) (h : i < xs.length) : (part1 f xs i).set i (f i) = part1 f xs (i + 1) := by
  unfold part1
  rw [List.set_append_right _ _ (by simp), List.length_map, List.length_range, Nat.sub_self, List.drop_eq_getElem_cons h, List.set_cons_zero, List.range_succ]
  simp
theorem part1_full {α : Type} (f : Nat → α) (xs : List α) : part1 f xs xs.length = (List.range xs.length).map f := by simp [part1]

set_option maxHeartbeats 4000000 in
theorem markIns (v0 : Value) (B : Nat) (xs : List Ins) (k : Nat) (w : World) (h : w.ownsRow B 72 4 v0 xs.length (insL xs)) (hn : xs.length ≤ 1048576) (hk : k ≤ 1073741824) :
    CallsR Try.prog 43 [v0, .int .i64 k] w fun v w' => v = .int .i64 ((k + 4 * xs.length : Nat) : Int) ∧ w'.ownsRow B 72 4 v0 xs.length (insL (marksI k xs.length)) ∧ w.grownBy w' v0.ownBlock := by
  refine CallsR.enter Try.func43 (by decide +kernel) rfl Try.ntmps43 rfl ?_
  by_cases h0 : xs.length = 0
  · obtain ⟨A, c, rfl, hr⟩ := own_form h
    rw [h0]
    repeat' (first
      | refine EL.f (FV.assign rfl) rfl rfl ?_
      | refine EL.nil ?_
      | refine EW.seq ?_
      | refine EW.region ?_
      | refine EW.block ?_)
    refine EW.loop (fun (_ : Unit) wr => wr = w) (fun _ => [(0, .slice A 0 c), (1, .int .i64 k), (5, .int .i64 0)]) (fun _ => 0) () rfl ⟨rfl, rfl, rfl, trivial⟩ ?_
    rintro _ wr rfl
    repeat' (first
      | (show EL _ _ _ _ (_ :: _) _ _
         first
         | (show EL _ _ _ _ (⟨_, .move _, _, _, _, _⟩ :: _) _ _; refine EL.f (FV.move rfl) rfl rfl ?_)
         | (show EL _ _ _ _ (⟨_, .assign _, _, _, _, _⟩ :: _) _ _; refine EL.f (FV.assign rfl) rfl rfl ?_)
         | (show EL _ _ _ _ (⟨_, .call _, _, _, _, _⟩ :: _) _ _; refine EL.f (FV.len rfl rfl) rfl rfl ?_)
         | (show EL _ _ _ _ (⟨_, .binOp .lss _ _ _ _, _, _, _, _⟩ :: _) _ _; refine EL.fF (FV.lss rfl rfl) rfl (fun _ => rfl) (by omega) ?_))
      | refine EL.nil ?_
      | refine EW.seq ?_
      | refine EW.region ?_
      | refine EW.exit ?_
      | refine EW.ret ?_
      | refine EW.condF rfl ?_)
    refine ⟨_, rfl, by simp, ?_, World.grownBy.refl _ _⟩
    obtain rfl : xs = [] := List.eq_nil_of_length_eq_zero h0
    exact h
  · obtain ⟨g, c, rfl, hB, hat⟩ := own_at h (by omega)
    repeat' (first
      | refine EL.f (FV.assign rfl) rfl rfl ?_
      | refine EL.nil ?_
      | refine EW.seq ?_
      | refine EW.region ?_
      | refine EW.block ?_)
    refine EW.loop (fun i wr => i ≤ xs.length ∧ At wr 72 4 g xs.length c (insL (part1 (insM k) xs i)) ∧ w.grownBy wr (some g)) (fun i => [(0, .slice (some ⟨g, 0, none⟩) xs.length c), (1, .int .i64 ((k + 4 * i : Nat) : Int)), (5, .int .i64 i)]) (fun i => xs.length - i) 0 ⟨Nat.zero_le _, hat, World.grownBy.refl _ _⟩ ⟨rfl, rfl, rfl, trivial⟩ ?_
    rintro i wr ⟨hi, hat, hg⟩
    by_cases hlt : i < xs.length
    · have hlen := part1_length (insM k) xs i hi
      repeat' (first
        | (show EL _ _ _ _ (_ :: _) _ _
           first
           | (show EL _ _ _ _ (⟨_, .indexAddr _ _ _, _, _, _, _⟩ :: _) _ _; refine EL.f (FV.idx rfl rfl rfl rfl (by omega) (by omega)) rfl rfl ?_)
           | (show EL _ _ _ _ (⟨_, .fieldAddr _ _ _, _, _, _, _⟩ :: _) _ _; refine EL.f (FV.fieldAddr rfl rfl rfl rfl rfl) rfl rfl ?_)
           | (show EL _ _ _ _ (⟨_, .move _, _, _, _, _⟩ :: _) _ _; refine EL.f (FV.move rfl) rfl rfl ?_)
           | (show EL _ _ _ _ (⟨_, .call _, _, _, _, _⟩ :: _) _ _; refine EL.f (FV.len rfl rfl) rfl rfl ?_)
           | (show EL _ _ _ _ (⟨_, .binOp .lss _ _ _ _, _, _, _, _⟩ :: _) _ _; refine EL.fT (FV.lss rfl rfl) rfl (fun _ => rfl) (by omega) ?_))
        | refine EL.nil ?_
        | refine EW.seq ?_
        | refine EW.region ?_
        | refine EW.block ?_
        | refine EW.skip ?_
        | refine EW.condT rfl ?_)
      refine EL.h (Hv.storeG (k := 0 + i * 4 + 0) rfl rfl rfl rfl rfl hat (List.getElem?_eq_getElem (by rw [hat.len]; omega))) rfl (fun _ => rfl) ?_
      rintro _ w0 ⟨hat0, hr0⟩
      repeat' (first
        | (show EL _ _ _ _ (_ :: _) _ _
           first
           | (show EL _ _ _ _ (⟨_, .indexAddr _ _ _, _, _, _, _⟩ :: _) _ _; refine EL.f (FV.idx rfl rfl rfl rfl (by omega) (by omega)) rfl rfl ?_)
           | (show EL _ _ _ _ (⟨_, .fieldAddr _ _ _, _, _, _, _⟩ :: _) _ _; refine EL.f (FV.fieldAddr rfl rfl rfl rfl rfl) rfl rfl ?_)
           | (show EL _ _ _ _ (⟨_, .move _, _, _, _, _⟩ :: _) _ _; refine EL.f (FV.move rfl) rfl rfl ?_)
           | (show EL _ _ _ _ (⟨_, .assign _, _, _, _, _⟩ :: _) _ _; refine EL.f (FV.assign rfl) rfl rfl ?_)
           | (show EL _ _ _ _ (⟨_, .binOp .add _ _ _ _, _, _, _, _⟩ :: _) _ _; refine EL.f (FV.addI rfl rfl (by omega)) rfl rfl ?_))
        | refine EL.nil ?_
        | refine EW.seq ?_
        | refine EW.region ?_)
      refine EL.h (Hv.storeG (k := 0 + i * 4 + 1) rfl rfl rfl rfl rfl hat0 (List.getElem?_eq_getElem (by rw [hat0.len]; omega))) rfl (fun _ => rfl) ?_
      rintro _ w1 ⟨hat1, hr1⟩
      repeat' (first
        | (show EL _ _ _ _ (_ :: _) _ _
           first
           | (show EL _ _ _ _ (⟨_, .indexAddr _ _ _, _, _, _, _⟩ :: _) _ _; refine EL.f (FV.idx rfl rfl rfl rfl (by omega) (by omega)) rfl rfl ?_)
           | (show EL _ _ _ _ (⟨_, .fieldAddr _ _ _, _, _, _, _⟩ :: _) _ _; refine EL.f (FV.fieldAddr rfl rfl rfl rfl rfl) rfl rfl ?_)
           | (show EL _ _ _ _ (⟨_, .move _, _, _, _, _⟩ :: _) _ _; refine EL.f (FV.move rfl) rfl rfl ?_)
           | (show EL _ _ _ _ (⟨_, .assign _, _, _, _, _⟩ :: _) _ _; refine EL.f (FV.assign rfl) rfl rfl ?_)
           | (show EL _ _ _ _ (⟨_, .binOp .add _ _ _ _, _, _, _, _⟩ :: _) _ _; refine EL.f (FV.addI rfl rfl (by omega)) rfl rfl ?_))
        | refine EL.nil ?_
        | refine EW.seq ?_
        | refine EW.region ?_)
      refine EL.h (Hv.storeG (k := 0 + i * 4 + 2) rfl rfl rfl rfl rfl hat1 (List.getElem?_eq_getElem (by rw [hat1.len]; omega))) rfl (fun _ => rfl) ?_
      rintro _ w2 ⟨hat2, hr2⟩
      repeat' (first
        | (show EL _ _ _ _ (_ :: _) _ _
           first
           | (show EL _ _ _ _ (⟨_, .indexAddr _ _ _, _, _, _, _⟩ :: _) _ _; refine EL.f (FV.idx rfl rfl rfl rfl (by omega) (by omega)) rfl rfl ?_)
           | (show EL _ _ _ _ (⟨_, .fieldAddr _ _ _, _, _, _, _⟩ :: _) _ _; refine EL.f (FV.fieldAddr rfl rfl rfl rfl rfl) rfl rfl ?_)
           | (show EL _ _ _ _ (⟨_, .move _, _, _, _, _⟩ :: _) _ _; refine EL.f (FV.move rfl) rfl rfl ?_)
           | (show EL _ _ _ _ (⟨_, .assign _, _, _, _, _⟩ :: _) _ _; refine EL.f (FV.assign rfl) rfl rfl ?_)
           | (show EL _ _ _ _ (⟨_, .binOp .add _ _ _ _, _, _, _, _⟩ :: _) _ _; refine EL.f (FV.addI rfl rfl (by omega)) rfl rfl ?_))
        | refine EL.nil ?_
        | refine EW.seq ?_
        | refine EW.region ?_)
      refine EL.h (Hv.storeG (k := 0 + i * 4 + 3) rfl rfl rfl rfl rfl hat2 (List.getElem?_eq_getElem (by rw [hat2.len]; omega))) rfl (fun _ => rfl) ?_
      rintro _ w3 ⟨hat3, hr3⟩
      repeat' (first
        | refine EL.f (FV.move rfl) rfl rfl ?_
        | refine EL.f (FV.assign rfl) rfl rfl ?_
        | refine EL.f (FV.addI rfl rfl (by omega)) rfl rfl ?_
        | refine EL.nil ?_
        | refine EW.region ?_)
      refine ⟨i + 1, ⟨rfl, rfl, rfl, trivial⟩, ⟨by omega, ?_, grownBy_trans (grownBy_trans (grownBy_trans (grownBy_trans hg hr0) hr1) hr2) hr3⟩, by omega⟩
      have e : (((((insL (part1 (insM k) xs i)).set (0 + i * 4 + 0) (.int .i64 ((k + 4 * i : Nat) : Int))).set (0 + i * 4 + 1) (.int .i64 (((k + 4 * i : Nat) : Int) + 1))).set (0 + i * 4 + 2) (.int .i64 (((k + 4 * i : Nat) : Int) + 1 + 1))).set (0 + i * 4 + 3) (.int .i64 (((k + 4 * i : Nat) : Int) + 1 + 1 + 1))) = setL (insL (part1 (insM k) xs i)) (i * 4) (insV (insM k i)) := by simp only [Nat.zero_add, Nat.add_zero]; rfl
      unfold insL at e
      rw [setL_flat insV_length _ _ _ (by omega), part1_set _ _ _ hlt] at e
      unfold insL
      rw [← e]
      exact hat3
    · obtain rfl : i = xs.length := by omega
      rw [part1_full] at hat
      repeat' (first
        | (show EL _ _ _ _ (_ :: _) _ _
           first
           | (show EL _ _ _ _ (⟨_, .move _, _, _, _, _⟩ :: _) _ _; refine EL.f (FV.move rfl) rfl rfl ?_)
           | (show EL _ _ _ _ (⟨_, .assign _, _, _, _, _⟩ :: _) _ _; refine EL.f (FV.assign rfl) rfl rfl ?_)
           | (show EL _ _ _ _ (⟨_, .call _, _, _, _, _⟩ :: _) _ _; refine EL.f (FV.len rfl rfl) rfl rfl ?_)
           | (show EL _ _ _ _ (⟨_, .binOp .lss _ _ _ _, _, _, _, _⟩ :: _) _ _; refine EL.fF (FV.lss rfl rfl) rfl (fun _ => rfl) (by omega) ?_))
        | refine EL.nil ?_
        | refine EW.seq ?_
        | refine EW.region ?_
        | refine EW.exit ?_
        | refine EW.ret ?_
        | refine EW.condF rfl ?_)
      exact ⟨_, rfl, rfl, At.own hat hB, hg⟩

set_option maxHeartbeats 4000000 in
theorem markGds (v0 : Value) (B : Nat) (xs : List Gd) (k : Nat) (w : World) (h : w.ownsRow B 107 2 v0 xs.length (gdL xs)) (hn : xs.length ≤ 1048576) (hk : k ≤ 1073741824) :
    CallsR Try.prog 44 [v0, .int .i64 k] w fun v w' => v = .int .i64 ((k + 2 * xs.length : Nat) : Int) ∧ w'.ownsRow B 107 2 v0 xs.length (gdL (marksG k xs.length)) ∧ w.grownBy w' v0.ownBlock := by
  refine CallsR.enter Try.func44 (by decide +kernel) rfl Try.ntmps44 rfl ?_
  by_cases h0 : xs.length = 0
  · obtain ⟨A, c, rfl, hr⟩ := own_form h
    rw [h0]
    repeat' (first
      | refine EL.f (FV.assign rfl) rfl rfl ?_
      | refine EL.nil ?_
      | refine EW.seq ?_
      | refine EW.region ?_
      | refine EW.block ?_)
    refine EW.loop (fun (_ : Unit) wr => wr = w) (fun _ => [(0, .slice A 0 c), (1, .int .i64 k), (5, .int .i64 0)]) (fun _ => 0) () rfl ⟨rfl, rfl, rfl, trivial⟩ ?_
    rintro _ wr rfl
    repeat' (first
      | (show EL _ _ _ _ (_ :: _) _ _
         first
         | (show EL _ _ _ _ (⟨_, .move _, _, _, _, _⟩ :: _) _ _; refine EL.f (FV.move rfl) rfl rfl ?_)
         | (show EL _ _ _ _ (⟨_, .assign _, _, _, _, _⟩ :: _) _ _; refine EL.f (FV.assign rfl) rfl rfl ?_)
         | (show EL _ _ _ _ (⟨_, .call _, _, _, _, _⟩ :: _) _ _; refine EL.f (FV.len rfl rfl) rfl rfl ?_)
         | (show EL _ _ _ _ (⟨_, .binOp .lss _ _ _ _, _, _, _, _⟩ :: _) _ _; refine EL.fF (FV.lss rfl rfl) rfl (fun _ => rfl) (by omega) ?_))
      | refine EL.nil ?_
      | refine EW.seq ?_
      | refine EW.region ?_
      | refine EW.exit ?_
      | refine EW.ret ?_
      | refine EW.condF rfl ?_)
    refine ⟨_, rfl, by simp, ?_, World.grownBy.refl _ _⟩
    obtain rfl : xs = [] := List.eq_nil_of_length_eq_zero h0
    exact h
  · obtain ⟨g, c, rfl, hB, hat⟩ := own_at h (by omega)
    repeat' (first
      | refine EL.f (FV.assign rfl) rfl rfl ?_
      | refine EL.nil ?_
      | refine EW.seq ?_
      | refine EW.region ?_
      | refine EW.block ?_)
    refine EW.loop (fun i wr => i ≤ xs.length ∧ At wr 107 2 g xs.length c (gdL (part1 (gdM k) xs i)) ∧ w.grownBy wr (some g)) (fun i => [(0, .slice (some ⟨g, 0, none⟩) xs.length c), (1, .int .i64 ((k + 2 * i : Nat) : Int)), (5, .int .i64 i)]) (fun i => xs.length - i) 0 ⟨Nat.zero_le _, hat, World.grownBy.refl _ _⟩ ⟨rfl, rfl, rfl, trivial⟩ ?_
    rintro i wr ⟨hi, hat, hg⟩
    by_cases hlt : i < xs.length
    · have hlen := part1_length (gdM k) xs i hi
      repeat' (first
        | (show EL _ _ _ _ (_ :: _) _ _
           first
           | (show EL _ _ _ _ (⟨_, .indexAddr _ _ _, _, _, _, _⟩ :: _) _ _; refine EL.f (FV.idx rfl rfl rfl rfl (by omega) (by omega)) rfl rfl ?_)
           | (show EL _ _ _ _ (⟨_, .fieldAddr _ _ _, _, _, _, _⟩ :: _) _ _; refine EL.f (FV.fieldAddr rfl rfl rfl rfl rfl) rfl rfl ?_)
           | (show EL _ _ _ _ (⟨_, .move _, _, _, _, _⟩ :: _) _ _; refine EL.f (FV.move rfl) rfl rfl ?_)
           | (show EL _ _ _ _ (⟨_, .call _, _, _, _, _⟩ :: _) _ _; refine EL.f (FV.len rfl rfl) rfl rfl ?_)
           | (show EL _ _ _ _ (⟨_, .binOp .lss _ _ _ _, _, _, _, _⟩ :: _) _ _; refine EL.fT (FV.lss rfl rfl) rfl (fun _ => rfl) (by omega) ?_))
        | refine EL.nil ?_
        | refine EW.seq ?_
        | refine EW.region ?_
        | refine EW.block ?_
        | refine EW.skip ?_
        | refine EW.condT rfl ?_)
      refine EL.h (Hv.storeG (k := 0 + i * 2 + 0) rfl rfl rfl rfl rfl hat (List.getElem?_eq_getElem (by rw [hat.len]; omega))) rfl (fun _ => rfl) ?_
      rintro _ w0 ⟨hat0, hr0⟩
      repeat' (first
        | (show EL _ _ _ _ (_ :: _) _ _
           first
           | (show EL _ _ _ _ (⟨_, .indexAddr _ _ _, _, _, _, _⟩ :: _) _ _; refine EL.f (FV.idx rfl rfl rfl rfl (by omega) (by omega)) rfl rfl ?_)
           | (show EL _ _ _ _ (⟨_, .fieldAddr _ _ _, _, _, _, _⟩ :: _) _ _; refine EL.f (FV.fieldAddr rfl rfl rfl rfl rfl) rfl rfl ?_)
           | (show EL _ _ _ _ (⟨_, .binOp .eql _ _ _ _, _, _, _, _⟩ :: _) _ _; refine EL.f (FV.eql rfl rfl) rfl rfl ?_)
           | (show EL _ _ _ _ (⟨_, .move _, _, _, _, _⟩ :: _) _ _; refine EL.f (FV.move rfl) rfl rfl ?_)
           | (show EL _ _ _ _ (⟨_, .assign _, _, _, _, _⟩ :: _) _ _; refine EL.f (FV.assign rfl) rfl rfl ?_)
           | (show EL _ _ _ _ (⟨_, .binOp .add _ _ _ _, _, _, _, _⟩ :: _) _ _; refine EL.f (FV.addI rfl rfl (by omega)) rfl rfl ?_)
           | (show EL _ _ _ _ (⟨_, .binOp .rem _ _ _ _, _, _, _, _⟩ :: _) _ _; refine EL.f (FV.remI rfl rfl (by decide) (by omega)) rfl rfl ?_))
        | refine EL.nil ?_
        | refine EW.seq ?_
        | refine EW.region ?_)
      refine EL.h (Hv.storeG (k := 0 + i * 2 + 1) rfl rfl rfl rfl rfl hat0 (List.getElem?_eq_getElem (by rw [hat0.len]; omega))) rfl (fun _ => rfl) ?_
      rintro _ w1 ⟨hat1, hr1⟩
      repeat' (first
        | refine EL.f (FV.move rfl) rfl rfl ?_
        | refine EL.f (FV.assign rfl) rfl rfl ?_
        | refine EL.f (FV.addI rfl rfl (by omega)) rfl rfl ?_
        | refine EL.nil ?_
        | refine EW.region ?_)
      refine ⟨i + 1, ⟨rfl, rfl, rfl, trivial⟩, ⟨by omega, ?_, grownBy_trans (grownBy_trans hg hr0) hr1⟩, by omega⟩
      have e : (((gdL (part1 (gdM k) xs i)).set (0 + i * 2 + 0) (.int .i64 ((k + 2 * i : Nat) : Int))).set (0 + i * 2 + 1) (.bool (decide ((((k + 2 * i : Nat) : Int) + 1) % 3 = 0)))) = setL (gdL (part1 (gdM k) xs i)) (i * 2) (gdV (gdM k i)) := by simp only [Nat.zero_add, Nat.add_zero]; rfl
      unfold gdL at e
      rw [setL_flat gdV_length _ _ _ (by omega), part1_set _ _ _ hlt] at e
      unfold gdL
      rw [← e]
      exact hat1
    · obtain rfl : i = xs.length := by omega
      rw [part1_full] at hat
      repeat' (first
        | (show EL _ _ _ _ (_ :: _) _ _
           first
           | (show EL _ _ _ _ (⟨_, .move _, _, _, _, _⟩ :: _) _ _; refine EL.f (FV.move rfl) rfl rfl ?_)
           | (show EL _ _ _ _ (⟨_, .assign _, _, _, _, _⟩ :: _) _ _; refine EL.f (FV.assign rfl) rfl rfl ?_)
           | (show EL _ _ _ _ (⟨_, .call _, _, _, _, _⟩ :: _) _ _; refine EL.f (FV.len rfl rfl) rfl rfl ?_)
           | (show EL _ _ _ _ (⟨_, .binOp .lss _ _ _ _, _, _, _, _⟩ :: _) _ _; refine EL.fF (FV.lss rfl rfl) rfl (fun _ => rfl) (by omega) ?_))
        | refine EL.nil ?_
        | refine EW.seq ?_
        | refine EW.region ?_
        | refine EW.exit ?_
        | refine EW.ret ?_
        | refine EW.condF rfl ?_)
      exact ⟨_, rfl, rfl, At.own hat hB, hg⟩

def marksT (k : Nat) (t : Tp) : Tp := ⟨t.inputs, marksI k t.code.length, marksG (k + 4 * t.code.length) t.guards.length, marks (k + 4 * t.code.length + 2 * t.guards.length) t.outs.length⟩
theorem markTape (v : Value) (t : Tp) (k B : Nat) (w : World) (h : OwnT B w v t) (hf : Fit t) (hk : k ≤ 536870912) :
    CallsR Try.prog 12 [v, .int .i64 k] w fun r w' => r = .int .i64 ((k + 4 * t.code.length + 2 * t.guards.length + t.outs.length : Nat) : Int) ∧ OwnT B w' v (marksT k t) ∧ Only (blocksT v) w w' := by
  have n1 := hf.c
  have n2 := hf.g
  have n3 := hf.o
  obtain ⟨s1, s2, s3, rfl, h1, h2, h3⟩ := h
  have d12 := own_ne h2 h1 (by decide)
  have d13 := own_ne h3 h1 (by decide)
  have d21 := own_ne h1 h2 (by decide)
  have d23 := own_ne h3 h2 (by decide)
  have d31 := own_ne h1 h3 (by decide)
  have d32 := own_ne h2 h3 (by decide)
  have z1 := @own_block _ _ _ _ _ _ _ h1
  have z2 := @own_block _ _ _ _ _ _ _ h2
  have z3 := @own_block _ _ _ _ _ _ _ h3
  obtain ⟨f1, f2, f3⟩ : (∃ A c, s1 = .slice A t.code.length c) ∧ (∃ A c, s2 = .slice A t.guards.length c) ∧ (∃ A c, s3 = .slice A t.outs.length c) := by
    obtain ⟨A, c, e, _⟩ := own_form h1
    obtain ⟨A', c', e', _⟩ := own_form h2
    obtain ⟨A'', c'', e'', _⟩ := h3.form
    exact ⟨⟨A, c, e⟩, ⟨A', c', e'⟩, ⟨A'', c'', e''⟩⟩
  have ne1 : s1.cells = #[s1] := by obtain ⟨A, c, rfl⟩ := f1; rfl
  refine CallsR.enter Try.func12 (by decide +kernel) rfl Try.ntmps12 rfl ?_
  repeat' (first
    | refine EW.seq ?_
    | refine EW.region ?_)
  refine EL.h (Hv.boxA (sz := 4) rfl rfl) rfl (fun _ => rfl) ?_
  rintro _ w1 ⟨g1, rfl, hg1, hb, he1⟩
  have o1 := Only.ext he1
  repeat' (first
    | (show EL _ _ _ _ (_ :: _) _ _
       first
       | (show EL _ _ _ _ (⟨_, .fieldAddr _ _ _, _, _, _, _⟩ :: _) _ _; refine EL.f (FV.fieldAddr rfl rfl rfl rfl rfl) rfl rfl ?_)
       | (show EL _ _ _ _ (⟨_, .load _ _, _, _, _, _⟩ :: _) _ _; refine EL.f (FV.load1 rfl rfl rfl (At.cell hb rfl)) rfl rfl ?_)
       | (show EL _ _ _ _ (⟨_, .move _, _, _, _, _⟩ :: _) _ _; refine EL.f (FV.move rfl) rfl rfl ?_)
       | (show EL _ _ _ _ (⟨_, .assign _, _, _, _, _⟩ :: _) _ _; refine EL.f (FV.assign rfl) rfl rfl ?_))
    | refine EL.nil ?_
    | refine EW.seq ?_
    | refine EW.region ?_)
  refine EL.h (Hv.call (markIns s1 B t.code k w1 (own_ext h1 he1) n1 (by omega)) rfl) rfl (fun _ => rfl) ?_
  rintro _ w2 ⟨rfl, q1, r1⟩
  have o2 := o1.trans (Only.one r1)
  replace hb := At.kept hb r1 (by intro e; have := (z1 e.symm).2; omega)
  repeat' (first
    | (show EL _ _ _ _ (_ :: _) _ _
       first
       | (show EL _ _ _ _ (⟨_, .fieldAddr _ _ _, _, _, _, _⟩ :: _) _ _; refine EL.f (FV.fieldAddr rfl rfl rfl rfl rfl) rfl rfl ?_)
       | (show EL _ _ _ _ (⟨_, .load _ _, _, _, _, _⟩ :: _) _ _; refine EL.f (FV.load1 rfl rfl rfl (At.cell hb rfl)) rfl rfl ?_)
       | (show EL _ _ _ _ (⟨_, .move _, _, _, _, _⟩ :: _) _ _; refine EL.f (FV.move rfl) rfl rfl ?_)
       | (show EL _ _ _ _ (⟨_, .assign _, _, _, _, _⟩ :: _) _ _; refine EL.f (FV.assign rfl) rfl rfl ?_))
    | refine EL.nil ?_
    | refine EW.seq ?_
    | refine EW.region ?_)
  refine EL.h (Hv.call (markGds s2 B t.guards (k + 4 * t.code.length) w2 (own_far (own_ext h2 he1) r1 d12) n2 (by omega)) rfl) rfl (fun _ => rfl) ?_
  rintro _ w3 ⟨rfl, q2, r2⟩
  have o3 := o2.trans (Only.one r2)
  replace q1 := own_far q1 r2 d21
  replace hb := At.kept hb r2 (by intro e; have := (z2 e.symm).2; omega)
  repeat' (first
    | (show EL _ _ _ _ (_ :: _) _ _
       first
       | (show EL _ _ _ _ (⟨_, .fieldAddr _ _ _, _, _, _, _⟩ :: _) _ _; refine EL.f (FV.fieldAddr rfl rfl rfl rfl rfl) rfl rfl ?_)
       | (show EL _ _ _ _ (⟨_, .load _ _, _, _, _, _⟩ :: _) _ _; refine EL.f (FV.load1 rfl rfl rfl (At.cell hb rfl)) rfl rfl ?_)
       | (show EL _ _ _ _ (⟨_, .move _, _, _, _, _⟩ :: _) _ _; refine EL.f (FV.move rfl) rfl rfl ?_)
       | (show EL _ _ _ _ (⟨_, .assign _, _, _, _, _⟩ :: _) _ _; refine EL.f (FV.assign rfl) rfl rfl ?_))
    | refine EL.nil ?_
    | refine EW.seq ?_
    | refine EW.region ?_)
  refine EL.h (Hv.call (markInts s3 B t.outs (k + 4 * t.code.length + 2 * t.guards.length) w3 (own_far (own_far (own_ext h3 he1) r1 d13) r2 d23) n3 (by omega)) rfl) rfl (fun _ => rfl) ?_
  rintro _ w4 ⟨rfl, q3, r3⟩
  have o4 := o3.trans (Only.one r3)
  replace q1 := own_far q1 r3 d31
  replace q2 := own_far q2 r3 d32
  repeat' (first
    | refine EL.f (FV.move rfl) rfl rfl ?_
    | refine EL.f (FV.assign rfl) rfl rfl ?_
    | refine EL.nil ?_
    | refine EW.seq ?_
    | refine EW.region ?_
    | refine EW.ret ?_)
  refine ⟨_, rfl, rfl, ⟨s1, s2, s3, rfl, ?_, ?_, ?_⟩, o4.mono fun x hx => ?_⟩
  · show w4.ownsRow B _ 4 s1 (marksI k t.code.length).length _
    rw [marksI_length]
    exact q1
  · show w4.ownsRow B _ 2 s2 (marksG _ t.guards.length).length _
    rw [marksG_length]
    exact q2
  · exact q3
  · simp only [List.nil_append, List.mem_append, List.mem_cons, List.not_mem_nil, or_false] at hx
    simp only [blocksT, List.drop_succ_cons, List.drop_zero, List.map_cons, List.map_nil, List.mem_cons, List.not_mem_nil, or_false]
    rcases hx with (hx | hx) | hx
    · exact .inl hx
    · exact .inr (.inl hx)
    · exact .inr (.inr hx)
end Eng
end Go.Proofs.Ytgahkbcfjibjaaa
