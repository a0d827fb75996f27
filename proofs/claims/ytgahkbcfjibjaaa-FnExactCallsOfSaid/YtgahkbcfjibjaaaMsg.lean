/- Sets of numbers as maps; a set in ascending order; a number put to its place. Conditions: the lengths. -/
import Derived.Test.YtgahkbcfjibjaaaGn
import Derived.Test.YtgahkbcfjibjaaaMsp
import Derived.Test.YtgahkbcfjibjaaaLay
import Derived.Maps.RangeRun
import Derived.MapKept
namespace Go.Proofs.Ytgahkbcfjibjaaa
open Go Go.RowKit
namespace Eng
def setP (ks : List Int) : List (Value × Value) := ks.map fun k => (Value.int .i64 k, Value.bool true)
/-- The entries are a set's. -/
structure Ents (es : List MapEntry) (clock : Nat) (ks : List Int) : Prop where
  kv : es.map (fun e => (e.key, e.val)) = setP ks
  old : ∀ e ∈ es, e.born < clock
  bn : (es.map (·.born)).Nodup
  nd : ks.Nodup
/-- Block m is a map that holds just these numbers. -/
def SetAt (w : World) (m : Nat) (ks : List Int) : Prop := ∃ es clock, w.heap[m]? = some (.map es clock) ∧ Ents es.toList clock ks
theorem SetAt.lt {w : World} {m : Nat} {ks : List Int} (h : SetAt w m ks) : m < w.heap.size := by
  obtain ⟨es, cl, h1, _⟩ := h
  exact (Array.getElem?_eq_some_iff.1 h1).1
theorem SetAt.nd {w : World} {m : Nat} {ks : List Int} (h : SetAt w m ks) : ks.Nodup := by
  obtain ⟨_, _, _, h2⟩ := h
  exact h2.nd
theorem SetAt.kept {w w' : World} {m : Nat} {ks : List Int} {row : Option Nat} (h : SetAt w m ks) (hg : w.grownBy w' row) (hne : some m ≠ row) : SetAt w' m ks := by
  have hl := h.lt
  obtain ⟨es, cl, h1, h2⟩ := h
  exact ⟨es, cl, (hg.block m hl hne).trans h1, h2⟩
theorem SetAt.ext {w w' : World} {m : Nat} {ks : List Int} (h : SetAt w m ks) (he : Ext w w') : SetAt w' m ks := h.kept (he.grown none) (by simp)
theorem SetAt.only {w w' : World} {L : List (Option Nat)} {m : Nat} {ks : List Int} (h : SetAt w m ks) (k : Only L w w') (hne : some m ∉ L) : SetAt w' m ks := by
  have hl := h.lt
  obtain ⟨es, cl, h1, h2⟩ := h
  exact ⟨es, cl, (k.block m hl hne).trans h1, h2⟩
theorem SetAt.apart {w : World} {m e sz g n c : Nat} {ks : List Int} {cs : List Value} (h : SetAt w m ks) (hat : At w e sz g n c cs) : m ≠ g := by
  rintro rfl
  obtain ⟨es, cl, h1, _⟩ := h
  obtain ⟨cur, h2, _⟩ := hat.row
  rw [h1] at h2
  cases h2
theorem find_set (n : Int) : ∀ (es : List MapEntry) (ks : List Int) (i : Nat), es.map (fun e => (e.key, e.val)) = setP ks →
    Instr.findNow (.int .i64) (.int .i64 n) es i = some (if n ∈ ks then some (i + ks.idxOf n, .bool true) else none)
  | [], [], i, _ => by simp [Instr.findNow]
  | [], y :: ys, i, h => by simp [setP] at h
  | e :: es, [], i, h => by simp [setP] at h
  | e :: es, y :: ys, i, h => by
    have h' : (e.key = .int .i64 y ∧ e.val = .bool true) ∧ es.map (fun e => (e.key, e.val)) = setP ys := by simpa [setP] using h
    obtain ⟨⟨hk, hv⟩, hr⟩ := h'
    have ih := find_set n es ys (i + 1) hr
    unfold Instr.findNow
    rw [hk]
    by_cases hny : n = y
    · subst hny
      simp [Instr.sameNow, hv]
    · have hb : (n == y) = false := by simpa using hny
      have hyn : ¬ y = n := fun e => hny e.symm
      simp only [Instr.sameNow, if_true, hb, ih]
      by_cases hm : n ∈ ys
      · rw [if_pos hm, if_pos (List.mem_cons_of_mem _ hm)]
        have hb' : (y == n) = false := by simpa using hyn
        simp [List.idxOf_cons, hb']
        omega
      · rw [if_neg hm, if_neg (by simp only [List.mem_cons, not_or]; exact ⟨hny, hm⟩)]
theorem run_findKey (n : Int) (es : List MapEntry) (ks : List Int) (w : World) (h : es.map (fun e => (e.key, e.val)) = setP ks) :
    (Instr.findKey 2 (.int .i64 n) es).run Try.prog w = .ok (if n ∈ ks then some (ks.idxOf n, .bool true) else none) w := by
  have hf := find_set n es ks 0 h
  simp only [Nat.zero_add] at hf
  unfold Instr.findKey
  simp only [Sem.run_bind, run_und (P := Try.prog) (t := 2) (d := .int .i64) rfl w, Result.andThen_ok, hf, Sem.run_pure]
theorem run_check2 (em : Bool) (k : Nat) (n : Int) (w : World) : (Instr.checkKey em (k + 1) 2 (.int .i64 n)).run Try.prog w = .ok () w := by
  have hi := run_und (P := Try.prog) (t := 2) (d := .int .i64) rfl
  simp [Instr.checkKey, hi]
theorem run_check (em : Bool) (n : Int) (w : World) : (Instr.checkKey em 10000 2 (.int .i64 n)).run Try.prog w = .ok () w := run_check2 em 9999 n w
theorem same2 (k : Nat) (n : Int) : Instr.sameBits k (.int .i64 n) (.int .i64 n) = true := by
  cases k <;> simp [Instr.sameBits]
theorem run_stays (n : Int) (w : World) : (Instr.keyThatStays (.int .i64 n) (.int .i64 n)).run Try.prog w = .ok (.int .i64 n) w := by
  unfold Instr.keyThatStays
  rw [if_pos (same2 10000 n)]
  rfl
def addS (ks : List Int) (n : Int) : List Int := if n ∈ ks then ks else ks ++ [n]
theorem mem_addS {ks : List Int} {n m : Int} : m ∈ addS ks n ↔ m = n ∨ m ∈ ks := by
  unfold addS
  split
  · rename_i h
    constructor
    · exact .inr
    · rintro (rfl | h2)
      · exact h
      · exact h2
  · simp [or_comm]
theorem ents_at {es : List MapEntry} {clock : Nat} {ks : List Int} (h : Ents es clock ks) {i : Nat} (hi : i < ks.length) : ∃ e, es[i]? = some e ∧ e.key = .int .i64 (ks.getD i 0) ∧ e.val = .bool true := by
  have hl : es.length = ks.length := by have := congrArg List.length h.kv; simpa [setP] using this
  refine ⟨es[i]'(by omega), List.getElem?_eq_getElem _, ?_⟩
  have := congrArg (fun l => l[i]?) h.kv
  simp [setP, hi, show i < es.length from by omega] at this
  simp [hi, this]
section
variable {n : Nat} {S : World → Prop} {ρ : Env} {dst : Option Tmp} {ty : TypeId} {pos : String} {af : Array Edge} {gd : Option (Nat × Bool)}
theorem FV.lookS {x y : Operand} {m : Nat} {ks : List Int} {k : Int} (hx : ev ρ x = some (.map (some m))) (hy : ev ρ y = some (.int .i64 k)) (hm : ∀ w, S w → SetAt w m ks) :
    FV Try.prog n S ρ ⟨dst, .lookup 78 x y false, ty, pos, af, gd⟩ (.bool (decide (k ∈ ks))) :=
  ⟨fun a ha w hS => by
    obtain ⟨es, cl, h1, h2⟩ := hm w hS
    have hz := (run_inf (P := Try.prog) (t := 4) (z := .bool false) (s := 1) (b := 1) rfl w).2.1
    have hf := run_findKey k es.toList ks w h2.kv
    have hc := fun em => run_check em k w
    simp only [execOp, ha.eval hx, ha.eval hy, Instr.lookup, Sem.run_bind, run_underlying Try.underlying78, Result.andThen_ok, MapKept.run_getObj_map h1, Sem.run_pure, hc, hf]
    by_cases hin : k ∈ ks
    · simp [hin]
    · simp [hin, hz]⟩
theorem Hv.putS {w : World} {x y z : Operand} {m : Nat} {ks : List Int} {k : Int} (hx : ev ρ x = some (.map (some m))) (hy : ev ρ y = some (.int .i64 k)) (hz : ev ρ z = some (.bool true)) (hm : SetAt w m ks) :
    Hv Try.prog n ρ ⟨none, .mapUpdate 78 x y z, ty, pos, af, gd⟩ w (fun _ w' => SetAt w' m (addS ks k) ∧ w.grownBy w' (some m)) := by
  by_cases hk : k ∈ ks
  · skip
    refine ⟨fun a ha K' Q' h => ?_⟩
    have hlt := hm.lt
    have ⟨es, cl, h1, h2⟩ := hm
    have hf := run_findKey k es.toList ks w h2.kv
    have hc := run_check false k w
    rw [if_pos hk] at hf
    have hidx := List.idxOf_lt_length_of_mem hk
    have ⟨e, he, hek, hev⟩ := ents_at h2 hidx
    have hkk : ks.getD (ks.idxOf k) 0 = k := by simp [hidx]
    rw [hkk] at hek
    have hst := run_stays k w
    have hge : (((es[ks.idxOf k]?).map (·.key)).getD (.int .i64 k)) = .int .i64 k := by
      rw [← Array.getElem?_toList, he]
      simp [hek]
    have hmod : es.modify (ks.idxOf k) (fun e => { e with key := .int .i64 k, val := .bool true }) = es := by
      apply Array.ext_getElem?
      intro j
      rw [Array.getElem?_modify]
      split
      · rename_i hj
        subst hj
        rw [← Array.getElem?_toList, he]
        simp only [Option.map_some, Option.some.injEq]
        cases e
        simp only at hek hev
        simp [hek, hev]
      · rfl
    have hrun : (execOp a.eval ⟨none, .mapUpdate 78 x y z, ty, pos, af, gd⟩).run Try.prog w = .ok .skip { w with heap := w.heap.setIfInBounds m (.map es cl) } := by
      simp [execOp, ha.eval hx, ha.eval hy, ha.eval hz, Instr.mapUpdate, run_underlying Try.underlying78, MapKept.run_getObj_map h1, hc, hf, hge, hst, hmod, MapKept.run_setObj_map _ h1]
    unfold Oper.wp
    rw [hrun]
    refine h undef _ ⟨⟨es, cl, by simp [hlt], by unfold addS; rw [if_pos hk]; exact h2⟩, ⟨rfl, rfl, rfl, by simp, fun j hj hne => ?_⟩⟩
    have : m ≠ j := fun e => hne (by rw [e])
    simp [this]
  · skip
    refine ⟨fun a ha K' Q' h => ?_⟩
    have hlt := hm.lt
    have ⟨es, cl, h1, h2⟩ := hm
    have hf := run_findKey k es.toList ks w h2.kv
    have hc := run_check false k w
    rw [if_neg hk] at hf
    have hrun : (execOp a.eval ⟨none, .mapUpdate 78 x y z, ty, pos, af, gd⟩).run Try.prog w = .ok .skip { w with heap := w.heap.setIfInBounds m (.map (es.push ⟨.int .i64 k, .bool true, cl⟩) (cl + 1)) } := by
      simp [execOp, ha.eval hx, ha.eval hy, ha.eval hz, Instr.mapUpdate, run_underlying Try.underlying78, MapKept.run_getObj_map h1, hc, hf, MapKept.run_setObj_map _ h1]
    unfold Oper.wp
    rw [hrun]
    refine h undef _ ⟨⟨_, _, by simp [hlt]; exact ⟨rfl, rfl⟩, ⟨?_, ?_, ?_, ?_⟩⟩, ⟨rfl, rfl, rfl, by simp, fun j hj hne => ?_⟩⟩
    · rw [Array.toList_push, List.map_append, h2.kv]
      unfold addS
      rw [if_neg hk]
      simp [setP]
    · intro e he
      rw [Array.toList_push] at he
      rcases List.mem_append.1 he with he | he
      · have := h2.old e he; omega
      · obtain rfl := List.mem_singleton.1 he; exact Nat.lt_succ_self _
    · rw [Array.toList_push, List.map_append]
      refine List.nodup_append.2 ⟨h2.bn, by simp, fun a ha b hb => ?_⟩
      obtain ⟨e, he, rfl⟩ := List.mem_map.1 ha
      have := h2.old e he
      simp at hb
      omega
    · unfold addS
      rw [if_neg hk]
      exact List.nodup_append.2 ⟨h2.nd, by simp, fun a ha b hb => by simp at hb; subst hb; exact fun e => hk (e ▸ ha)⟩
    · have : m ≠ j := fun e => hne (by rw [e])
      simp [this]
theorem Hv.makeS {w : World} : Hv Try.prog n ρ ⟨dst, .makeMap 78 none, ty, pos, af, gd⟩ w (fun v w' => ∃ m, v = .map (some m) ∧ m = w.heap.size ∧ SetAt w' m [] ∧ Ext w w') :=
  ⟨fun a ha K' Q' h => by
    have hrun : (execOp a.eval ⟨dst, .makeMap 78 none, ty, pos, af, gd⟩).run Try.prog w = .ok (.value (.map (some w.heap.size))) (w.alloc (.map #[] 0)) := by
      simp [execOp, Instr.makeMap]
    unfold Oper.wp
    rw [hrun]
    exact h _ _ ⟨_, rfl, rfl, ⟨#[], 0, heap_alloc_new w _, ⟨rfl, by simp, by simp, by simp⟩⟩, Ext.alloc w _⟩⟩
/-- Block r ranges over the set in block m; what has come is done. -/
def IterAt (w : World) (r m : Nat) (ks done : List Int) : Prop := ∃ es clock seen, w.heap[r]? = some (.mapIter (some m) clock seen clock) ∧ w.heap[m]? = some (.map es clock) ∧ Ents es.toList clock ks ∧ ∀ e ∈ es.toList, (seen.contains e.born = true ↔ ∃ k ∈ done, e.key = .int .i64 k)
/-- The entry that came last. -/
def CameAt (w : World) (r m : Nat) (k : Int) : Prop := ∃ (es : Array MapEntry) (clock : Nat) (seen : Array Nat) (e : MapEntry), w.heap[r]? = some (.mapIter (some m) clock (seen.push e.born) clock) ∧ w.heap[m]? = some (.map es clock) ∧ e ∈ es.toList ∧ (es.toList.map (·.born)).Nodup ∧ e.key = .int .i64 k ∧ e.val = .bool true
theorem IterAt.kept {w w' : World} {r m : Nat} {ks done : List Int} {row : Option Nat} (h : IterAt w r m ks done) (hg : w.grownBy w' row) (h1 : some r ≠ row) (h2 : some m ≠ row) : IterAt w' r m ks done := by
  obtain ⟨es, cl, seen, a, b, c, d⟩ := h
  exact ⟨es, cl, seen, (hg.block r (Array.getElem?_eq_some_iff.1 a).1 h1).trans a, (hg.block m (Array.getElem?_eq_some_iff.1 b).1 h2).trans b, c, d⟩
theorem IterAt.apart {w : World} {r m e sz g n c : Nat} {ks done : List Int} {cs : List Value} (h : IterAt w r m ks done) (hat : At w e sz g n c cs) : r ≠ g ∧ m ≠ g := by
  obtain ⟨es, cl, seen, a, b, _⟩ := h
  obtain ⟨cur, h2, _⟩ := hat.row
  refine ⟨?_, ?_⟩
  · rintro rfl; rw [a] at h2; cases h2
  · rintro rfl; rw [b] at h2; cases h2
theorem Hv.rangeS {w : World} {x : Operand} {m : Nat} {ks : List Int} (hx : ev ρ x = some (.map (some m))) (hm : SetAt w m ks) :
    Hv Try.prog n ρ ⟨dst, .range 78 x, ty, pos, af, gd⟩ w (fun v w' => ∃ r, v = .pointer (some ⟨r, 0, none⟩) ∧ r = w.heap.size ∧ IterAt w' r m ks [] ∧ Ext w w') :=
  ⟨fun a ha K' Q' h => by
    have hlt := hm.lt
    have ⟨es, cl, h1, h2⟩ := hm
    have hrun : (execOp a.eval ⟨dst, .range 78 x, ty, pos, af, gd⟩).run Try.prog w = .ok (.value (.pointer (some ⟨w.heap.size, 0, none⟩))) (w.alloc (.mapIter (some m) cl #[] cl)) := by
      simp [execOp, ha.eval hx, Instr.range, run_underlying Try.underlying78, MapKept.run_getObj_map h1]
    unfold Oper.wp
    rw [hrun]
    refine h _ _ ⟨_, rfl, rfl, ⟨es, cl, #[], heap_alloc_new w _, ?_, h2, fun e _ => by simp⟩, Ext.alloc w _⟩
    exact ((Ext.alloc w (.mapIter (some m) cl #[] cl)).block m hlt).trans h1⟩
theorem Hv.nextS {w : World} {x : Operand} {r m : Nat} {ks done : List Int} (hx : ev ρ x = some (.pointer (some ⟨r, 0, none⟩))) (hi : IterAt w r m ks done) :
    Hv Try.prog n ρ ⟨dst, .next x false, ty, pos, af, gd⟩ w (fun v w' => (v = .tuple #[.bool false] ∧ w = w' ∧ ∀ k ∈ ks, k ∈ done) ∨ ∃ k, v = .tuple #[.bool true, .int .i64 k, .bool true] ∧ k ∈ ks ∧ k ∉ done ∧ IterAt w' r m ks (done ++ [k]) ∧ CameAt w' r m k ∧ w.grownBy w' (some r)) :=
  ⟨fun a ha K' Q' h => by
    obtain ⟨es, cl, seen, h1, h2, hE, hs⟩ := hi
    have hlt := (Array.getElem?_eq_some_iff.1 h1).1
    have hrm : r ≠ m := by rintro rfl; rw [h1] at h2; cases h2
    have hkey : ∀ e ∈ es.toList, ∃ k, k ∈ ks ∧ e.key = .int .i64 k ∧ e.val = .bool true := fun e he => by
      have h3 : (e.key, e.val) ∈ es.toList.map (fun e => (e.key, e.val)) := List.mem_map.2 ⟨e, he, rfl⟩
      rw [hE.kv] at h3
      obtain ⟨k, hk, e1⟩ := List.mem_map.1 h3
      injection e1 with e1 e2
      exact ⟨k, hk, e1.symm, e2.symm⟩
    have hent : ∀ k ∈ ks, ∃ e ∈ es.toList, e.key = .int .i64 k := fun k hk => by
      have h3 : (Value.int .i64 k, Value.bool true) ∈ setP ks := List.mem_map.2 ⟨k, hk, rfl⟩
      rw [← hE.kv] at h3
      obtain ⟨e, he, e1⟩ := List.mem_map.1 h3
      injection e1 with e1 e2
      exact ⟨e, he, e1⟩
    unfold Oper.wp
    rcases run_next_at (P := Try.prog) w ty r m cl cl seen es cl h1 h2 (fun e he => hE.old e he) (Nat.le_refl _) with ⟨h0, hrun⟩ | ⟨e, he, w1, hw1, hrun⟩
    · have hrun' : (execOp a.eval ⟨dst, .next x false, ty, pos, af, gd⟩).run Try.prog w = .ok (.value (.tuple #[.bool false])) w := by
        simp [execOp, ha.eval hx, hrun]
      rw [hrun']
      refine h _ _ (.inl ⟨rfl, rfl, fun k hk => ?_⟩)
      obtain ⟨e, he, e1⟩ := hent k hk
      have hc : seen.contains e.born = true := by
        cases hq : seen.contains e.born
        · exfalso
          have hm : e ∈ (leftOf es seen) := by unfold leftOf; simp; exact ⟨by simpa using he, by simpa using hq⟩
          have := Array.size_pos_of_mem hm
          omega
        · rfl
      obtain ⟨k', hk', e2⟩ := (hs e he).1 hc
      rw [e1] at e2
      injection e2 with _ e2
      exact e2 ▸ hk'
    · have hmem : e ∈ es.toList ∧ seen.contains e.born = false := by
        unfold leftOf at he
        simp at he
        exact ⟨by simpa using he.1, by simpa using he.2⟩
      obtain ⟨k, hk, ek, ev'⟩ := hkey e hmem.1
      have hg1 : Ext w w1 := by rcases hw1 with rfl | rfl; exact Ext.refl _; exact Ext.drew _
      have hh1 : w1.heap = w.heap := by rcases hw1 with rfl | rfl <;> rfl
      have hrun' : (execOp a.eval ⟨dst, .next x false, ty, pos, af, gd⟩).run Try.prog w = .ok (.value (.tuple #[.bool true, .int .i64 k, .bool true])) (ChangeMaps.setBlock w1 r (.mapIter (some m) cl (seen.push e.born) cl)) := by
        simp [execOp, ha.eval hx, hrun, ek, ev']
      rw [hrun']
      have hr' : (ChangeMaps.setBlock w1 r (.mapIter (some m) cl (seen.push e.born) cl)).heap[r]? = some (.mapIter (some m) cl (seen.push e.born) cl) := by
        simp [ChangeMaps.setBlock, hh1, hlt]
      have hm' : (ChangeMaps.setBlock w1 r (.mapIter (some m) cl (seen.push e.born) cl)).heap[m]? = some (.map es cl) := by
        simp [ChangeMaps.setBlock, hh1, hrm, h2]
      refine h _ _ (.inr ⟨k, rfl, hk, fun hd => ?_, ⟨es, cl, _, hr', hm', hE, fun e' he' => ?_⟩, ⟨es, cl, seen, e, hr', hm', hmem.1, hE.bn, ek, ev'⟩, ⟨hg1.os, hg1.tape, hg1.output, by simp [ChangeMaps.setBlock, hh1], fun j hj hne => ?_⟩⟩)
      · have := (hs e hmem.1).2 ⟨k, hd, ek⟩
        rw [this] at hmem
        exact absurd hmem.2 (by decide)
      · have hb : (seen.push e.born).contains e'.born = true ↔ seen.contains e'.born = true ∨ e'.born = e.born := by
          simp
        rw [hb, hs e' he']
        constructor
        · rintro (⟨q, hq, e1⟩ | hb2)
          · exact ⟨q, List.mem_append_left _ hq, e1⟩
          · have : e' = e := by
              obtain ⟨i, hi, ei⟩ := List.mem_iff_getElem.1 he'
              obtain ⟨j, hj, ej⟩ := List.mem_iff_getElem.1 hmem.1
              have hnd := List.pairwise_iff_getElem.1 hE.bn
              by_cases hij : i = j
              · subst hij; rw [← ei, ← ej]
              · exfalso
                rcases Nat.lt_or_gt_of_ne hij with q | q
                · have := hnd i j (by simpa using hi) (by simpa using hj) q
                  simp [ei, ej, hb2] at this
                · have := hnd j i (by simpa using hj) (by simpa using hi) q
                  simp [ei, ej, hb2] at this
            subst this
            exact ⟨k, by simp, ek⟩
        · rintro ⟨q, hq, e1⟩
          rcases List.mem_append.1 hq with hq | hq
          · exact .inl ⟨q, hq, e1⟩
          · obtain rfl := List.mem_singleton.1 hq
            right
            obtain ⟨i, hi, ei⟩ := List.mem_iff_getElem.1 he'
            obtain ⟨j, hj, ej⟩ := List.mem_iff_getElem.1 hmem.1
            have hl : es.toList.length = ks.length := by have := congrArg List.length hE.kv; simpa [setP] using this
            have ki : (es.toList[i]).key = .int .i64 ks[i] := by
              have := congrArg (fun l => l[i]?) hE.kv
              simp [setP, show i < ks.length from by omega] at this
              obtain ⟨q1, q2, q3, _⟩ := this
              have q4 : es.toList[i]? = some q1 := by simpa using q2
              rw [List.getElem?_eq_getElem hi] at q4
              injection q4 with q4
              rw [q4]
              exact q3
            have kj : (es.toList[j]).key = .int .i64 ks[j] := by
              have := congrArg (fun l => l[j]?) hE.kv
              simp [setP, show j < ks.length from by omega] at this
              obtain ⟨q1, q2, q3, _⟩ := this
              have q4 : es.toList[j]? = some q1 := by simpa using q2
              rw [List.getElem?_eq_getElem hj] at q4
              injection q4 with q4
              rw [q4]
              exact q3
            rw [ei, e1] at ki
            rw [ej, ek] at kj
            have hij : i = j := by
              by_cases e : i = j
              · exact e
              · exfalso
                have hnd := List.pairwise_iff_getElem.1 hE.nd
                have e3 : ks[i]'(by omega) = ks[j]'(by omega) := by
                  have a1 : q = ks[i]'(by omega) := by injection ki
                  have a2 : q = ks[j]'(by omega) := by injection kj
                  rw [← a1, ← a2]
                rcases Nat.lt_or_gt_of_ne e with q | q
                · exact hnd i j (by omega) (by omega) q e3
                · exact hnd j i (by omega) (by omega) q e3.symm
            subst hij
            rw [← ei, ← ej]
      · have : r ≠ j := fun e => hne (by rw [e])
        simp [ChangeMaps.setBlock, hh1, this]⟩
theorem FV.entryS {x : Operand} {r m : Nat} {k : Int} (hx : ev ρ x = some (.pointer (some ⟨r, 0, none⟩))) (hc : ∀ w, S w → CameAt w r m k) :
    FV Try.prog n S ρ ⟨dst, .entry x, ty, pos, af, gd⟩ (.tuple #[.int .i64 k, .bool true]) :=
  ⟨fun a ha w hS => by
    obtain ⟨es, cl, seen, e, h1, h2, h3, h4, h5, h6⟩ := hc w hS
    have hrun := run_entry_at (P := Try.prog) w r m cl seen es cl e h1 h2 h3 h4
    simp [execOp, ha.eval hx, hrun, h5, h6]⟩
end
end Eng
end Go.Proofs.Ytgahkbcfjibjaaa
