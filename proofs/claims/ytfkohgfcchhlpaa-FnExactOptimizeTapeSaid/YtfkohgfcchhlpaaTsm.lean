/- A map from instructions to places, for the calculus; '==' on instructions and guards; lists that are searched. Conditions: as each says. -/
import Derived.Test.YtfkohgfcchhlpaaTti
import Derived.Test.YtfkohgfcchhlpaaTsp
import Derived.MapKept
namespace Go.Proofs.Ytfkohgfcchhlpaa
open Go Go.RowKit
namespace Eng
/-- Block m is a map that has each instruction of the code at its place. -/
def mapL (code : List Ins) (i : Nat) : List (Value × Value) := (code.zipIdx i).map fun p => (Value.agg (insV p.1).toArray, Value.int .i64 (p.2 : Int))
def MapAt (w : World) (m : Nat) (code : List Ins) : Prop := ∃ es clock, w.heap[m]? = some (.map es clock) ∧ es.toList.map (fun e => (e.key, e.val)) = mapL code 0
theorem MapAt.lt {w : World} {m : Nat} {code : List Ins} (h : MapAt w m code) : m < w.heap.size := by
  obtain ⟨es, cl, h1, _⟩ := h
  exact (Array.getElem?_eq_some_iff.1 h1).1
theorem MapAt.kept {w w' : World} {m : Nat} {code : List Ins} {row : Option Nat} (h : MapAt w m code) (hg : w.grownBy w' row) (hne : some m ≠ row) : MapAt w' m code := by
  have hl := h.lt
  obtain ⟨es, cl, h1, h2⟩ := h
  exact ⟨es, cl, (hg.block m hl hne).trans h1, h2⟩
theorem MapAt.ext {w w' : World} {m : Nat} {code : List Ins} (h : MapAt w m code) (he : Ext w w') : MapAt w' m code := h.kept (he.grown none) (by simp)
theorem MapAt.only {w w' : World} {L : List (Option Nat)} {m : Nat} {code : List Ins} (h : MapAt w m code) (k : Only L w w') (hne : some m ∉ L) : MapAt w' m code := by
  have hl := h.lt
  obtain ⟨es, cl, h1, h2⟩ := h
  exact ⟨es, cl, (k.block m hl hne).trans h1, h2⟩
theorem MapAt.apart {w : World} {m e sz g n c : Nat} {code : List Ins} {cs : List Value} (h : MapAt w m code) (hat : At w e sz g n c cs) : m ≠ g := by
  rintro rfl
  obtain ⟨es, cl, h1, _⟩ := h
  obtain ⟨cur, h2, _⟩ := hat.row
  rw [h1] at h2
  cases h2
theorem MapAt.apartO {w : World} {m B e sz n : Nat} {code : List Ins} {s : Value} {cs : List Value} (h : MapAt w m code) (ho : w.ownsRow B e sz s n cs) : some m ≠ s.ownBlock := by
  intro hm
  obtain ⟨es, cl, h1, _⟩ := h
  rcases ho.2 with ⟨rfl, _⟩ | ⟨g, cap, cur, rfl, _, h2, _⟩
  · cases hm
  · injection hm with hm
    subst hm
    rw [h1] at h2
    cases h2
theorem mapL_snoc (code : List Ins) (x : Ins) : mapL (code ++ [x]) 0 = mapL code 0 ++ [(Value.agg (insV x).toArray, Value.int .i64 (code.length : Int))] := by
  simp [mapL, List.zipIdx_append]
theorem run_eqIns (x y : Ins) (w : World) : (Op.equal 65 (.agg (insV x).toArray) (.agg (insV y).toArray)).run Try.prog w = .ok (insE x y) w := eqIns x y w
theorem run_find (x : Ins) : ∀ (es : List MapEntry) (code : List Ins) (i : Nat) (w : World), es.map (fun e => (e.key, e.val)) = mapL code i →
    (Instr.findAsking 65 (.agg (insV x).toArray) es i).run Try.prog w = .ok (if x ∈ code then some (i + code.idxOf x, .int .i64 ((i + code.idxOf x : Nat) : Int)) else none) w
  | [], [], i, w, _ => by simp [Instr.findAsking]
  | [], y :: ys, i, w, h => by simp [mapL] at h
  | e :: es, [], i, w, h => by simp [mapL] at h
  | e :: es, y :: ys, i, w, h => by
    have h' : (e.key = .agg (insV y).toArray ∧ e.val = .int .i64 (i : Int)) ∧ es.map (fun e => (e.key, e.val)) = mapL ys (i + 1) := by
      simpa [mapL, List.zipIdx_cons] using h
    obtain ⟨⟨hk, hv⟩, hr⟩ := h'
    have ih := run_find x es ys (i + 1) w hr
    unfold Instr.findAsking
    simp only [Sem.run_bind, hk, run_eqIns, Result.andThen_ok]
    by_cases hxy : x = y
    · subst hxy
      rw [(insE_iff x x).2 rfl]
      simp [hv]
    · have hf : insE x y = false := by
        cases hb : insE x y
        · rfl
        · exact absurd ((insE_iff x y).1 hb) hxy
      rw [hf]
      simp only [Bool.false_eq_true, if_false, ih]
      have hyx : ¬ y = x := fun e => hxy e.symm
      by_cases hm : x ∈ ys
      · rw [if_pos hm, if_pos (List.mem_cons_of_mem _ hm), idx_cons hyx]
        rw [show i + 1 + ys.idxOf x = i + (ys.idxOf x + 1) from by omega]
      · rw [if_neg hm, if_neg (by simp only [List.mem_cons, not_or]; exact ⟨hxy, hm⟩)]
theorem run_findKey_ins (x : Ins) (es : List MapEntry) (code : List Ins) (w : World) (h : es.map (fun e => (e.key, e.val)) = mapL code 0) :
    (Instr.findKey 65 (.agg (insV x).toArray) es).run Try.prog w = .ok (if x ∈ code then some (code.idxOf x, .int .i64 (code.idxOf x : Int)) else none) w := by
  have hf := run_find x es code 0 w h
  simp only [Nat.zero_add] at hf
  unfold Instr.findKey
  simp only [Sem.run_bind, run_und (P := Try.prog) (t := 65) (d := .struct insF) rfl w, Result.andThen_ok]
  cases es with
  | nil =>
    cases code with
    | nil => simp [Instr.findNow]
    | cons y ys => simp [mapL] at h
  | cons e es =>
    have : Instr.findNow (.struct insF) (.agg (insV x).toArray) (e :: es) 0 = none := by simp [Instr.findNow, Instr.sameNow]
    rw [this]
    exact hf
theorem run_checkIns2 (em : Bool) (n : Nat) (x : Ins) (w : World) : (Instr.checkKey em (n + 1 + 1) 65 (.agg (insV x).toArray)).run Try.prog w = .ok () w := by
  have one := fun w => run_isAgg_one (P := Try.prog) (t := 2) (d := .int .i64) rfl rfl w
  have hu := run_und (P := Try.prog) (t := 65) (d := .struct insF) rfl
  have hi := run_und (P := Try.prog) (t := 2) (d := .int .i64) rfl
  simp [Instr.checkKey, hu, hi, insF, insV, part, one]
theorem run_checkIns (em : Bool) (x : Ins) (w : World) : (Instr.checkKey em 10000 65 (.agg (insV x).toArray)).run Try.prog w = .ok () w := run_checkIns2 em 9998 x w
section
variable {n : Nat} {S : World → Prop} {ρ : Env} {dst : Option Tmp} {ty : TypeId} {pos : String} {af : Array Edge} {gd : Option (Nat × Bool)}
theorem FV.lookM {x y : Operand} {m : Nat} {code : List Ins} {k : Ins} (hx : ev ρ x = some (.map (some m))) (hy : ev ρ y = some (.agg (insV k).toArray)) (hm : ∀ w, S w → MapAt w m code) :
    FV Try.prog n S ρ ⟨dst, .lookup 116 x y true, ty, pos, af, gd⟩ (.tuple #[.int .i64 (if k ∈ code then (code.idxOf k : Int) else 0), .bool (decide (k ∈ code))]) :=
  ⟨fun a ha w hS => by
    obtain ⟨es, cl, h1, h2⟩ := hm w hS
    have hz := (run_inf (P := Try.prog) (t := 2) (z := .int .i64 0) (s := 1) (b := 8) rfl w).2.1
    have hf := run_findKey_ins k es.toList code w h2
    have hc := fun em => run_checkIns em k w
    simp only [execOp, ha.eval hx, ha.eval hy, Instr.lookup, Sem.run_bind, run_underlying Try.underlying116, Result.andThen_ok, MapKept.run_getObj_map h1, Sem.run_pure, hc, hf]
    by_cases hin : k ∈ code
    · simp [hin]
    · simp [hin, hz]⟩
theorem Hv.putM {w : World} {x y z : Operand} {m : Nat} {code : List Ins} {k : Ins} (hx : ev ρ x = some (.map (some m))) (hy : ev ρ y = some (.agg (insV k).toArray)) (hz : ev ρ z = some (.int .i64 code.length)) (hm : MapAt w m code) (hk : k ∉ code) :
    Hv Try.prog n ρ ⟨none, .mapUpdate 116 x y z, ty, pos, af, gd⟩ w (fun _ w' => MapAt w' m (code ++ [k]) ∧ w.grownBy w' (some m)) :=
  ⟨fun a ha K' Q' h => by
    have hlt := hm.lt
    have ⟨es, cl, h1, h2⟩ := hm
    have hf := run_findKey_ins k es.toList code w h2
    rw [if_neg hk] at hf
    have hc := run_checkIns false k w
    have hrun : (execOp a.eval ⟨none, .mapUpdate 116 x y z, ty, pos, af, gd⟩).run Try.prog w = .ok .skip { w with heap := w.heap.setIfInBounds m (.map (es.push ⟨.agg (insV k).toArray, .int .i64 code.length, cl⟩) (cl + 1)) } := by
      simp [execOp, ha.eval hx, ha.eval hy, ha.eval hz, Instr.mapUpdate, run_underlying Try.underlying116, MapKept.run_getObj_map h1, hc, hf, MapKept.run_setObj_map _ h1]
    unfold Oper.wp
    rw [hrun]
    refine h undef _ ⟨⟨_, _, by simp [hlt]; exact ⟨rfl, rfl⟩, ?_⟩, ⟨rfl, rfl, rfl, by simp, fun j hj hne => ?_⟩⟩
    · rw [Array.toList_push, List.map_append, h2, mapL_snoc]
      rfl
    · have : m ≠ j := fun e => hne (by rw [e])
      simp [this]⟩
theorem Hv.makeM {w : World} : Hv Try.prog n ρ ⟨dst, .makeMap 116 none, ty, pos, af, gd⟩ w (fun v w' => ∃ m, v = .map (some m) ∧ m = w.heap.size ∧ MapAt w' m [] ∧ Ext w w') :=
  ⟨fun a ha K' Q' h => by
    have hrun : (execOp a.eval ⟨dst, .makeMap 116 none, ty, pos, af, gd⟩).run Try.prog w = .ok (.value (.map (some w.heap.size))) (w.alloc (.map #[] 0)) := by
      simp [execOp, Instr.makeMap]
    unfold Oper.wp
    rw [hrun]
    exact h _ _ ⟨_, rfl, rfl, ⟨#[], 0, heap_alloc_new w _, rfl⟩, Ext.alloc w _⟩⟩
/-! '==' -/
theorem FV.eqlIns {a b : Operand} {u : TypeId} {x y : Ins} (ha : ev ρ a = some (.agg (insV x).toArray)) (hb : ev ρ b = some (.agg (insV y).toArray)) : FV Try.prog n S ρ ⟨dst, .binOp .eql 65 a b u, ty, pos, af, gd⟩ (.bool (decide (x = y))) :=
  ⟨fun c hc w _ => by
    have e1 := run_eqGuard_agg (P := Try.prog) w .eql 65 a b (insV x).toArray (insV y).toArray guardIns
    have e2 := run_eql_struct (P := Try.prog) w 65 (insV x).toArray (insV y).toArray
    have e3 : insE x y = decide (x = y) := by
      by_cases h : x = y
      · rw [decide_eq_true h]; exact (insE_iff x y).2 h
      · rw [decide_eq_false h]
        cases hb : insE x y
        · rfl
        · exact absurd ((insE_iff x y).1 hb) h
    rw [eqIns, e3] at e2
    simp [execOp, hc.eval ha, hc.eval hb, e1, e2]⟩
theorem FV.eqlGd {a b : Operand} {u : TypeId} {x y : Gd} (ha : ev ρ a = some (.agg (gdV x).toArray)) (hb : ev ρ b = some (.agg (gdV y).toArray)) : FV Try.prog n S ρ ⟨dst, .binOp .eql 67 a b u, ty, pos, af, gd⟩ (.bool (decide (x = y))) :=
  ⟨fun c hc w _ => by
    have e1 := run_eqGuard_agg (P := Try.prog) w .eql 67 a b (gdV x).toArray (gdV y).toArray guardGd
    have e2 := run_eql_struct (P := Try.prog) w 67 (gdV x).toArray (gdV y).toArray
    have e3 : gdE x y = decide (x = y) := by
      by_cases h : x = y
      · rw [decide_eq_true h]; exact (gdE_iff x y).2 h
      · rw [decide_eq_false h]
        cases hb : gdE x y
        · rfl
        · exact absurd ((gdE_iff x y).1 hb) h
    rw [eqGd, e3] at e2
    simp [execOp, hc.eval ha, hc.eval hb, e1, e2]⟩
end
/-! ### searches -/
def placeZ {α : Type} [DecidableEq α] (xs : List α) (x : α) : Int := if x ∈ xs then (xs.idxOf x : Int) else -1
theorem specFind (A : Option Addr) (c : Nat) (code : List Ins) (x : Ins) (w : World) (hr : Rd w A (insL code)) (hn : code.length ≤ 1048576) :
    CallsR Try.prog 125 [.slice A code.length c, .agg (insV x).toArray] w fun v w' => v = .int .i64 (placeZ code x) ∧ Ext w w' := by
  refine CallsR.enter Try.func125 (by decide +kernel) rfl Try.ntmps125 rfl ?_
  repeat' (first
    | refine EW.seq ?_
    | refine EW.region ?_)
  refine EL.h (Hv.boxA (sz := 4) rfl rfl) rfl (fun _ => rfl) ?_
  rintro _ w1 ⟨g1, rfl, hg1, hb, he1⟩
  repeat' (first
    | refine EL.f (FV.assign rfl) rfl rfl ?_
    | refine EL.nil ?_
    | refine EW.seq ?_
    | refine EW.region ?_
    | refine EW.block ?_)
  refine EW.loop (fun k wr => k ≤ code.length ∧ (∀ j, j < k → code.getD j dIns ≠ x) ∧ At wr 65 4 g1 1 1 (insV x) ∧ Ext w wr) (fun k => [(0, .slice A code.length c), (3, .pointer (some ⟨g1, 0, none⟩)), (5, .int .i64 k)]) (fun k => code.length - k) 0 ⟨Nat.zero_le _, fun j hj => by omega, hb, he1⟩ ⟨rfl, rfl, rfl, trivial⟩ ?_
  clear hb he1
  rintro k wr ⟨hk, hne, hb, he⟩
  by_cases hlt : k < code.length
  · obtain ⟨x1, p1, rfl, hp⟩ := Rd.elem insV_length (by decide) dIns (hr.ext he) hlt
    repeat' (first
      | refine EL.f (FV.move rfl) rfl rfl ?_
      | refine EL.f (FV.len rfl rfl) rfl rfl ?_
      | refine EL.fT (FV.lss rfl rfl) rfl (fun _ => rfl) (by omega) ?_
      | refine EL.nil ?_
      | refine EW.seq ?_
      | refine EW.region ?_
      | refine EW.block ?_
      | refine EW.skip ?_
      | refine EW.condT rfl ?_)
    refine EW.draw (fun w' => Ext wr w') (pl 0 6) mixed (by decide +kernel) (Ext.drew _) ?_
    repeat' (first
      | refine EP.f rfl (FV.idx (s := 4) rfl rfl rfl rfl (by omega) (by omega)) rfl rfl ?_
      | refine EP.f rfl (FV.loadAgg (cs := insV (code.getD k dIns)) rfl rfl rfl rfl rfl (fun _ h2 => hp.ext h2)) rfl rfl ?_
      | refine EP.f rfl (FV.loadAgg (cs := insV x) rfl rfl rfl rfl rfl (fun _ h2 => (At.lies hb).ext h2)) rfl rfl ?_
      | refine EP.f rfl (FV.eqlIns rfl rfl) rfl rfl ?_
      | refine EP.nil ?_
      | refine EP.f rfl (FV.move rfl) rfl rfl ?_)
    have he' := he.trans (Ext.drew wr)
    by_cases hx : code.getD k dIns = x
    · rw [decide_eq_true hx]
      repeat' (first
        | refine EL.f (FV.move rfl) rfl rfl ?_
        | refine EL.f (FV.assign rfl) rfl rfl ?_
        | refine EL.nil ?_
        | refine EW.seq ?_
        | refine EW.region ?_
        | refine EW.ret ?_
        | refine EW.condT rfl ?_)
      refine ⟨_, rfl, ?_, he'⟩
      rw [placeZ, if_pos (mem_get hlt hx), idx_at hlt hne hx]
    · rw [decide_eq_false hx]
      repeat' (first
        | refine EL.f (FV.move rfl) rfl rfl ?_
        | refine EL.f (FV.assign rfl) rfl rfl ?_
        | refine EL.f (FV.addI rfl rfl (by omega)) rfl rfl ?_
        | refine EL.nil ?_
        | refine EW.region ?_
        | refine EW.skip ?_
        | refine EW.condF rfl ?_)
      exact ⟨k + 1, ⟨rfl, rfl, rfl, trivial⟩, ⟨by omega, fun j hj => by
        by_cases e : j = k
        · subst e; exact hx
        · exact hne j (by omega), At.ext hb (Ext.drew wr), he'⟩, by omega⟩
  · obtain rfl : k = code.length := by omega
    repeat' (first
      | (show EL _ _ _ _ (_ :: _) _ _
         first
         | (show EL _ _ _ _ (⟨_, .move _, _, _, _, _⟩ :: _) _ _; refine EL.f (FV.move rfl) rfl rfl ?_)
         | (show EL _ _ _ _ (⟨_, .assign _, _, _, _, _⟩ :: _) _ _; refine EL.f (FV.assign rfl) rfl rfl ?_)
         | (show EL _ _ _ _ (⟨_, .call _, _, _, _, _⟩ :: _) _ _; refine EL.f (FV.len rfl rfl) rfl rfl ?_)
         | (show EL _ _ _ _ (⟨_, .binOp .lss _ _ _ _, _, _, _, _⟩ :: _) _ _; refine EL.fF (FV.lss rfl rfl) rfl (fun _ => rfl) (by omega) ?_))
      | refine EL.nil ?_
      | refine EW.seq ?_
      | refine EW.region ?_
      | refine EW.exit ?_
      | refine EW.ret ?_
      | refine EW.condF rfl ?_)
    refine ⟨_, rfl, ?_, he⟩
    rw [placeZ, if_neg (not_mem_get hne)]
theorem implIndexG (A : Option Addr) (c : Nat) (gs : List Gd) (x : Gd) (w : World) (hr : Rd w A (gdL gs)) (hn : gs.length ≤ 1048576) :
    CallsR Try.prog 157 [.slice A gs.length c, .agg (gdV x).toArray] w fun v w' => v = .int .i64 (placeZ gs x) ∧ Ext w w' := by
  refine CallsR.enter Try.func157 (by decide +kernel) rfl Try.ntmps157 rfl ?_
  repeat' (first
    | refine EW.seq ?_
    | refine EW.region ?_)
  refine EL.h (Hv.boxA (sz := 2) rfl rfl) rfl (fun _ => rfl) ?_
  rintro _ w1 ⟨g1, rfl, hg1, hb, he1⟩
  repeat' (first
    | refine EL.f (FV.move rfl) rfl rfl ?_
    | refine EL.f (FV.assign rfl) rfl rfl ?_
    | refine EL.f (FV.len rfl rfl) rfl rfl ?_
    | refine EL.nil ?_
    | refine EW.seq ?_
    | refine EW.region ?_
    | refine EW.block ?_)
  refine EW.loop (fun k wr => k ≤ gs.length ∧ (∀ j, j < k → gs.getD j dGd ≠ x) ∧ At wr 67 2 g1 1 1 (gdV x) ∧ Ext w wr) (fun k => [(0, .slice A gs.length c), (3, .pointer (some ⟨g1, 0, none⟩)), (7, .int .i64 gs.length), (8, .int .i64 k)]) (fun k => gs.length - k) 0 ⟨Nat.zero_le _, fun j hj => by omega, hb, he1⟩ ⟨rfl, rfl, rfl, rfl, trivial⟩ ?_
  clear hb he1
  rintro k wr ⟨hk, hne, hb, he⟩
  by_cases hlt : k < gs.length
  · obtain ⟨x1, p1, rfl, hp⟩ := Rd.elem gdV_length (by decide) dGd (hr.ext he) hlt
    repeat' (first
      | refine EL.f (FV.move rfl) rfl rfl ?_
      | refine EL.f (FV.assign rfl) rfl rfl ?_
      | refine EL.fT (FV.lss rfl rfl) rfl (fun _ => rfl) (by omega) ?_
      | refine EL.nil ?_
      | refine EW.seq ?_
      | refine EW.region ?_
      | refine EW.block ?_
      | refine EW.skip ?_
      | refine EW.condT rfl ?_)
    refine EW.draw (fun w' => Ext wr w') (pl 0 6) mixed (by decide +kernel) (Ext.drew _) ?_
    repeat' (first
      | refine EP.f rfl (FV.idx (s := 2) rfl rfl rfl rfl (by omega) (by omega)) rfl rfl ?_
      | refine EP.f rfl (FV.loadAgg (cs := gdV x) rfl rfl rfl rfl rfl (fun _ h2 => (At.lies hb).ext h2)) rfl rfl ?_
      | refine EP.f rfl (FV.loadAgg (cs := gdV (gs.getD k dGd)) rfl rfl rfl rfl rfl (fun _ h2 => hp.ext h2)) rfl rfl ?_
      | refine EP.f rfl (FV.eqlGd rfl rfl) rfl rfl ?_
      | refine EP.nil ?_
      | refine EP.f rfl (FV.move rfl) rfl rfl ?_)
    have he' := he.trans (Ext.drew wr)
    by_cases hx : x = gs.getD k dGd
    · rw [decide_eq_true hx]
      repeat' (first
        | refine EL.f (FV.move rfl) rfl rfl ?_
        | refine EL.f (FV.assign rfl) rfl rfl ?_
        | refine EL.nil ?_
        | refine EW.seq ?_
        | refine EW.region ?_
        | refine EW.ret ?_
        | refine EW.condT rfl ?_)
      refine ⟨_, rfl, ?_, he'⟩
      rw [placeZ, if_pos (mem_get hlt hx.symm), idx_at hlt hne hx.symm]
    · rw [decide_eq_false hx]
      repeat' (first
        | refine EL.f (FV.move rfl) rfl rfl ?_
        | refine EL.f (FV.addI rfl rfl (by omega)) rfl rfl ?_
        | refine EL.nil ?_
        | refine EW.region ?_
        | refine EW.skip ?_
        | refine EW.condF rfl ?_)
      exact ⟨k + 1, ⟨rfl, rfl, rfl, rfl, trivial⟩, ⟨by omega, fun j hj => by
        by_cases e : j = k
        · subst e; exact fun q => hx q.symm
        · exact hne j (by omega), At.ext hb (Ext.drew wr), he'⟩, by omega⟩
  · obtain rfl : k = gs.length := by omega
    repeat' (first
      | refine EL.f (FV.assign rfl) rfl rfl ?_
      | refine EL.fF (FV.lss rfl rfl) rfl (fun _ => rfl) (by omega) ?_
      | refine EL.nil ?_
      | refine EW.seq ?_
      | refine EW.region ?_
      | refine EW.exit ?_
      | refine EW.ret ?_
      | refine EW.condF rfl ?_)
    refine ⟨_, rfl, ?_, he⟩
    rw [placeZ, if_neg (not_mem_get hne)]
theorem placeZ_ge {α : Type} [DecidableEq α] (xs : List α) (x : α) : decide (0 ≤ placeZ xs x) = decide (x ∈ xs) := by
  unfold placeZ
  by_cases h : x ∈ xs
  · rw [if_pos h, decide_eq_true h, decide_eq_true]; omega
  · rw [if_neg h, decide_eq_false h, decide_eq_false]; omega
theorem implContainsG (A : Option Addr) (c : Nat) (gs : List Gd) (x : Gd) (w : World) (hr : Rd w A (gdL gs)) (hn : gs.length ≤ 1048576) :
    CallsR Try.prog 129 [.slice A gs.length c, .agg (gdV x).toArray] w fun v w' => v = .bool (decide (x ∈ gs)) ∧ Ext w w' := by
  refine CallsR.enter Try.func129 (by decide +kernel) rfl Try.ntmps129 rfl ?_
  repeat' (first
    | refine EW.seq ?_
    | refine EW.region ?_)
  refine EL.h (Hv.boxA (sz := 2) rfl rfl) rfl (fun _ => rfl) ?_
  rintro _ w1 ⟨g1, rfl, hg1, hb, he1⟩
  repeat' (first
    | refine EL.f (FV.loadAgg (cs := gdV x) rfl rfl rfl rfl rfl (fun _ e => e ▸ At.lies hb)) rfl rfl ?_
    | refine EL.f (FV.move rfl) rfl rfl ?_
    | refine EL.f (FV.assign rfl) rfl rfl ?_
    | refine EL.nil ?_
    | refine EW.seq ?_
    | refine EW.region ?_)
  refine EL.h (Hv.call (implIndexG A c gs x w1 (hr.ext he1) hn) rfl) rfl (fun _ => rfl) ?_
  rintro _ w2 ⟨rfl, he2⟩
  refine EL.f (FV.geq rfl rfl) rfl rfl ?_
  rw [placeZ_ge]
  repeat' (first
    | refine EL.f (FV.assign rfl) rfl rfl ?_
    | refine EL.nil ?_
    | refine EW.ret ?_)
  exact ⟨_, rfl, rfl, he1.trans he2⟩
end Eng
end Go.Proofs.Ytfkohgfcchhlpaa
