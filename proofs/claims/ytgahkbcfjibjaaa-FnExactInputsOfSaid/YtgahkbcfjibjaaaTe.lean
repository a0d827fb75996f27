/- TapeForward; more on appends; regions whose orders fork. Conditions: the lengths. -/
import Derived.Test.YtgahkbcfjibjaaaTd
namespace Go.Proofs.Ytgahkbcfjibjaaa
open Go Go.RowKit
namespace Eng
/-! a region whose orders fork: the state of what is done is written out -/
structure EX (P : Program) (n : Nat) (ops : Array Oper) (S : World → Prop) (Q : Env → World → Prop) (k : Nat) (listed : Array Bool) (ρ : Env) (w : World) : Prop where
  out : Region.noSelect ops = true → ∀ a, Fits ρ n a → S w → anyS P .any ops (onlyN n Q) S k listed a w
section
variable {P : Program} {n : Nat} {ops : Array Oper} {S : World → Prop} {Q : Env → World → Prop} {k : Nat} {listed : Array Bool} {ρ ρ' : Env} {w : World}
theorem EX.nil (h0 : (Region.ready .any ops listed).isEmpty = true) (h : Q ρ w) : EX P n ops S Q 0 listed ρ w := ⟨fun _ a ha _ => ⟨by simpa using h0, ρ, ha, h⟩⟩
theorem EX.f (i : Nat) {o : Oper} {v : Value} (hf : (Region.free .any ops listed i && (Region.ready .any ops listed).contains i) = true) (ho : ops[i]? = some o) (hv : FV P n S ρ o v) (hg : wantE ops ρ o = some true) (hd : putE n o.dst v ρ = some ρ') (h : EX P n ops S Q k (listed.setIfInBounds i true) ρ' w) : EX P n ops S Q (k + 1) listed ρ w :=
  ⟨fun hs a ha hS => by
    simp only [Bool.and_eq_true] at hf
    obtain ⟨hf, hr⟩ := hf
    refine anyS_take ho hs (fun _ _ _ h => h) _ listed a w (Region.free_spec ho hf) (by simpa using hr) (.inl ⟨wantE_spec ha hg, fun w' hS' => hv.out a ha w' hS'⟩) hS ?_
    exact h.out hs _ (ha.put hd) hS⟩
theorem EX.one (i : Nat) {o : Oper} {ρi : Value → Env} (hr : (Region.ready .any ops listed == [i]) = true) (ho : ops[i]? = some o) (hg : wantE ops ρ o = some true) (hd : ∀ v, putE n o.dst v ρ = some (ρi v))
    (A : Hv P n ρ o w fun v w' => S w' ∧ EX P n ops S Q k (listed.setIfInBounds i true) (ρi v) w') : EX P n ops S Q (k + 1) listed ρ w :=
  ⟨fun hs a ha hS => by
    simp only [beq_iff_eq] at hr
    refine ⟨fun h => (by rw [h] at hr; cases hr), fun x hx => ?_⟩
    rw [hr] at hx
    obtain rfl : x = i := by simpa using hx
    unfold wpOp
    simp only [ho]
    rw [if_pos (wantE_spec ha hg)]
    left
    exact A.out a ha _ _ fun v w' ⟨hS', hk⟩ => ⟨.inr hS', hk.out hs _ (ha.put (hd v)) hS'⟩⟩
theorem EX.fork (i j : Nat) {oi oj : Oper} {ρi ρj : Value → Env} (hr : (Region.ready .any ops listed == [i, j]) = true) (hoi : ops[i]? = some oi) (hoj : ops[j]? = some oj) (hgi : wantE ops ρ oi = some true) (hgj : wantE ops ρ oj = some true)
    (hdi : ∀ v, putE n oi.dst v ρ = some (ρi v)) (hdj : ∀ v, putE n oj.dst v ρ = some (ρj v))
    (A : Hv P n ρ oi w fun v w' => S w' ∧ EX P n ops S Q k (listed.setIfInBounds i true) (ρi v) w')
    (B : Hv P n ρ oj w fun v w' => S w' ∧ EX P n ops S Q k (listed.setIfInBounds j true) (ρj v) w') : EX P n ops S Q (k + 1) listed ρ w :=
  ⟨fun hs a ha hS => by
    simp only [beq_iff_eq] at hr
    refine ⟨fun h => (by rw [h] at hr; cases hr), fun x hx => ?_⟩
    rw [hr] at hx
    have hx' : x = i ∨ x = j := by simpa using hx
    rcases hx' with rfl | rfl
    · unfold wpOp
      simp only [hoi]
      rw [if_pos (wantE_spec ha hgi)]
      left
      exact A.out a ha _ _ fun v w' ⟨hS', hk⟩ => ⟨.inr hS', hk.out hs _ (ha.put (hdi v)) hS'⟩
    · unfold wpOp
      simp only [hoj]
      rw [if_pos (wantE_spec ha hgj)]
      left
      exact B.out a ha _ _ fun v w' ⟨hS', hk⟩ => ⟨.inr hS', hk.out hs _ (ha.put (hdj v)) hS'⟩⟩
theorem EW.drawX {Q : Exit → Env → World → Prop} {id : Nat} (S : World → Prop) (hm : P.follows .mixedOrders = true) (hs : Region.noSelect ops = true) (hS : S w.drew)
    (h : EX P n ops S (fun ρ' w' => Q .normal ρ' w') ops.size (Array.replicate ops.size false) ρ w.drew) : EW P n (.region id ops true) Q ρ w := by
  refine ⟨fun a ha => ?_⟩
  refine wp_mono (Q := onlyN n (fun ρ' w' => Q .normal ρ' w')) (wp_region_any hm ?_) fun e a' w' hq => by
    cases e <;> first | exact hq | exact hq.elim
  exact anyS_any _ _ _ _ (h.out hs a ha hS)
end
section
variable {P : Program} [UTab P] {n : Nat} {ρ : Env} {dst : Option Tmp} {ty : TypeId} {pos : String} {af : Array Edge} {gd : Option (Nat × Bool)}
/-- 'append(s, x)', elements of any size; where the row lies afterwards -/
theorem Hv.appendG {w : World} {t e : TypeId} {z : Value} {sz by_ B m : Nat} {x y : Operand} {s : Value} {g c : Nat} {cs us : List Value} (ht : UTab.und P t = some (.slice e)) (hi : UTab.inf P e = some (z, sz, by_)) (hz : z.cells.size = sz) (h0 : Nat.ble 1 sz = true)
    (hx : ev ρ x = some s) (hy : ev ρ y = some (.slice (some ⟨g, 0, none⟩) 1 c)) (hown : w.ownsRow B e sz s m cs) (hl : us.length = sz) (hcell : ∀ j u, us[j]? = some u → w.cell? ⟨g, j, none⟩ = some u) (h1 : ∀ u ∈ us, u.oneCell' = true)
    (h63 : m + 1 ≤ 9223372036854775807) (hbytes : (m + 1) * by_ ≤ 140737488355328) (hB : B ≤ w.heap.size) :
    Hv P n ρ ⟨dst, .call { callee := .builtin .append, args := #[x, y], argTypes := #[t, t] }, ty, pos, af, gd⟩ w (fun v w' => w'.ownsRow B e sz v (m + 1) (cs ++ us) ∧ w.grownBy w' s.ownBlock ∧ Below B w w' ∧ (v.ownBlock = s.ownBlock ∨ v.ownBlock = some w.heap.size)) :=
  ⟨fun a ha K' Q' h => by
    obtain ⟨_, _, i, _, hi', hz', hs, hby⟩ := run_inf hi w
    obtain ⟨v', w', hrun, hown', hgr, _, hat⟩ := run_append_own_at (P := P) w B t ty e i z sz by_ (UTab.und_ok _ _ ht) hi' hz' hs hby hz (Nat.le_of_ble_eq_true h0) s m cs hown ⟨g, 0, none⟩ 1 c us (by omega)
      (fun j v hj => by rw [addr_add, Nat.zero_add]; exact hcell j v hj) h1 (by simp only [maxLen]; omega) hbytes hB
    have hrun' : (execOp a.eval ⟨dst, .call { callee := .builtin .append, args := #[x, y], argTypes := #[t, t] }, ty, pos, af, gd⟩).run P w = .ok (.value v') w' := by
      simp [execOp, resolve, invoke, builtin, ha.eval hx, ha.eval hy, hrun]
    unfold Oper.wp
    rw [hrun']
    refine h _ _ ⟨hown', hgr, ⟨hgr.os, hgr.tape, hgr.output, hgr.size, fun k hk => hgr.block k (Nat.lt_of_lt_of_le hk hB) (fun e => ?_)⟩, hat⟩
    have := (hown.lt k e.symm).1
    omega⟩
/-- '[]T{x, y}', one cell an element. -/
theorem Hv.build2 {w : World} {t e : TypeId} {z : Value} {by_ : Nat} {x y : Operand} {u v : Value} (ht : UTab.und P t = some (.slice e)) (hi : UTab.inf P e = some (z, 1, by_)) (hx : ev ρ x = some u) (hy : ev ρ y = some v) (hu : u.cells = #[u]) (hv : v.cells = #[v]) :
    Hv P n ρ ⟨dst, .buildSlice t 2 #[(0, x), (1, y)], ty, pos, af, gd⟩ w (fun r w' => ∃ g, r = .slice (some ⟨g, 0, none⟩) 2 2 ∧ At w' e 1 g 2 2 [u, v] ∧ g = w.heap.size ∧ Ext w w') :=
  ⟨fun a ha K' Q' h => by
    obtain ⟨hs, hzv, _⟩ := run_inf hi w
    have hrun' : (execOp a.eval ⟨dst, .buildSlice t 2 #[(0, x), (1, y)], ty, pos, af, gd⟩).run P w = .ok (.value (.slice (some ⟨w.heap.size, 0, none⟩) 2 2)) (w.alloc (.cells #[u, v] e)) := by
      simp [execOp, Instr.buildSlice, run_und ht, hs, hzv, Instr.fill, newRow, ha.eval hx, ha.eval hy, hu, hv, Array.range_succ, Array.range_zero']
    unfold Oper.wp
    rw [hrun']
    exact h _ _ ⟨_, rfl, ⟨by simp, #[u, v], heap_alloc_new w _, Nat.le_refl _, by decide, by simp, by simp⟩, rfl, Ext.alloc w _⟩⟩
end
/-- Its guard speaks of an operation that was passed over itself. -/
def offE (ops : Array Oper) (ρ : Env) (o : Oper) : Bool :=
  match o.guard with
  | none => false
  | some (j, _) =>
    match ops[j]? with
    | some oj =>
      match oj.dst with
      | some d =>
        match get ρ d with
        | some (.tuple _) => true
        | _ => false
      | none => false
    | none => false
theorem EL.skipU {P : Program} {n : Nat} {ops : Array Oper} {Q : Env → World → Prop} {rest : List Oper} {o : Oper} {ρ ρ' : Env} {w : World} (hg : offE ops ρ o = true) (hd : putE n o.dst undef ρ = some ρ') (k : EL P n ops Q rest ρ' w) : EL P n ops Q (o :: rest) ρ w :=
  ⟨fun a ha => by
    unfold wpList
    have : Region.wanted o (yielded ops a.tmps) = false := by
      unfold offE at hg
      unfold Region.wanted
      cases h1 : o.guard with
      | none => simp [h1] at hg
      | some jw =>
        obtain ⟨j, want⟩ := jw
        simp only [h1] at hg ⊢
        cases h2 : ops[j]? with
        | none => simp [h2] at hg
        | some oj =>
          simp only [h2] at hg
          cases h3 : oj.dst with
          | none => simp [h3] at hg
          | some d =>
            simp only [h3] at hg
            cases h4 : get ρ d with
            | none => simp [h4] at hg
            | some v =>
              have hv := ha.val d v h4
              cases v <;> simp [h4] at hg
              unfold yielded
              simp only [h2, Option.bind_some, h3, hv]
              rfl
    rw [if_neg (by rw [this]; simp)]
    exact k.out _ (ha.put hd)⟩
/-- Two slices of numbers of one's own, apart. -/
structure Two (B : Nat) (w : World) (s t : Value) (xs ys : List Int) : Prop where
  a : OwnI B w s xs
  b : OwnI B w t ys
  ne : ∀ k, s.ownBlock = some k → t.ownBlock ≠ some k
theorem Two.ext {B : Nat} {w w' : World} {s t : Value} {xs ys : List Int} (h : Two B w s t xs ys) (he : Ext w w') : Two B w' s t xs ys := ⟨OwnI.ext h.a he, OwnI.ext h.b he, h.ne⟩
theorem Two.lower {B B' : Nat} {w : World} {s t : Value} {xs ys : List Int} (h : Two B w s t xs ys) (hB : B' ≤ B) : Two B' w s t xs ys := ⟨OwnI.lower h.a hB, OwnI.lower h.b hB, h.ne⟩
theorem Two.far {B B' : Nat} {w w' : World} {s t v : Value} {xs ys zs : List Int} (h : Two B w s t xs ys) (hg : w.grownBy w' s.ownBlock) (ho : OwnI B' w' v zs) (hB : B ≤ B') (hat : v.ownBlock = s.ownBlock ∨ v.ownBlock = some w.heap.size) : Two B w' v t zs ys := by
  refine ⟨OwnI.lower ho hB, own_far h.b hg ?_, fun k hk => ?_⟩
  · cases e : t.ownBlock with
    | none => exact .inl rfl
    | some k => exact .inr fun e2 => h.ne k e2.symm e
  · rcases hat with hat | hat
    · exact h.ne k (hat ▸ hk)
    · intro e2
      have := (own_block h.b e2).2
      rw [hat] at hk
      injection hk with hk
      omega
theorem Two.symm {B : Nat} {w : World} {s t : Value} {xs ys : List Int} (h : Two B w s t xs ys) : Two B w t s ys xs := ⟨h.b, h.a, fun k hk e => h.ne k e hk⟩
theorem Two.only {B : Nat} {w w' : World} {L : List (Option Nat)} {s t : Value} {xs ys : List Int} (h : Two B w s t xs ys) (k : Only L w w') (hne : ∀ j, some j ∈ L → j < B) : Two B w' s t xs ys := ⟨OwnI.only h.a k hne, OwnI.only h.b k hne, h.ne⟩
theorem runC_two (t : Tp) (xs ds : List Int) : runC t [xs, ds] = if okT t = true then (if goodR t.inputs xs = true ∧ goodR t.inputs ds = true then 0 else 2) else 1 := by
  unfold runC below
  simp [List.range_succ]
theorem runC_zero2 {t : Tp} {xs ds : List Int} (h : runC t [xs, ds] = 0) : okT t = true ∧ ((xs.length : Int) = t.inputs ∧ nums xs = true) ∧ (ds.length : Int) = t.inputs ∧ nums ds = true := by
  rw [runC_two] at h
  cases ok : okT t
  · rw [ok] at h; simp at h
  rw [ok, if_pos rfl] at h
  by_cases g : goodR t.inputs xs = true ∧ goodR t.inputs ds = true
  · unfold goodR at g
    simp only [Bool.and_eq_true, decide_eq_true_eq] at g
    exact ⟨rfl, g.1, g.2⟩
  · rw [if_neg g] at h; simp at h
theorem Rows.two {w : World} {g : Nat} {A B : Option Addr} {c d : Nat} {xs ds : List Int} (h : At w 24 1 g 2 2 [.slice A xs.length c, .slice B ds.length d]) (hx : Rd w A (ints xs)) (hy : Rd w B (ints ds)) : Rows w (some ⟨g, 0, none⟩) [xs, ds] := fun i hi => by
  simp only [List.length_cons, List.length_nil] at hi
  rcases (show i = 0 ∨ i = 1 by omega) with rfl | rfl
  · exact ⟨g, 0, A, c, rfl, At.cell h rfl, hx⟩
  · exact ⟨g, 0, B, d, rfl, At.cell h rfl, hy⟩
def pickR (xss : List (List Int)) (ks : List Int) : List (List Int) := rowsOf (fun k => xss.getD (ks.getD k 0).toNat []) ks.length
/-- A slice of one's own of series that were there in the world u. -/
def OutO (u : World) (B : Nat) (w : World) (s : Value) (xss : List (List Int)) : Prop := ∃ vs, w.ownsRow B 24 1 s xss.length vs ∧ ∀ i, i < xss.length → ∃ A c, vs[i]? = some (.slice A (xss.getD i []).length c) ∧ Rd u A (ints (xss.getD i []))
def fForward (t : Tp) (xs ds : List Int) : (List Int × List Int) × Int :=
  if runC t [xs, ds] = 0 then (match regS t (lineL xs ds 1) 2 t.code.length with | none => (([], []), 6) | some out => ((pickL (colL out 0) t.outs, pickL (colL out 1) t.outs), 0)) else (([], []), runC t [xs, ds])
theorem fForward_code {t : Tp} {xs ds : List Int} (h : runC t [xs, ds] ≠ 0) : fForward t xs ds = (([], []), runC t [xs, ds]) := by unfold fForward; rw [if_neg h]
theorem fForward_none {t : Tp} {xs ds : List Int} (h : runC t [xs, ds] = 0) (e : regS t (lineL xs ds 1) 2 t.code.length = none) : fForward t xs ds = (([], []), 6) := by unfold fForward; rw [if_pos h, e]
theorem fForward_some {t : Tp} {xs ds : List Int} {out : List (List Int)} (h : runC t [xs, ds] = 0) (e : regS t (lineL xs ds 1) 2 t.code.length = some out) : fForward t xs ds = ((pickL (colL out 0) t.outs, pickL (colL out 1) t.outs), 0) := by unfold fForward; rw [if_pos h, e]
theorem fForward_len (t : Tp) (xs ds : List Int) : (fForward t xs ds).1.1.length ≤ 1048576 ∧ (fForward t xs ds).1.2.length ≤ 1048576 := by
  by_cases hr : runC t [xs, ds] = 0
  · have ho := (okT_iff.1 (runC_zero2 hr).1).2.2.2.1
    cases e : regS t (lineL xs ds 1) 2 t.code.length with
    | none => rw [fForward_none hr e]; simp
    | some out => rw [fForward_some hr e]; simp only [pickL_length]; omega
  · rw [fForward_code hr]; simp
def TwoOut (w : World) (r : (List Int × List Int) × Int) (v : Value) (w' : World) : Prop := ∃ s t, v = .tuple #[s, t, .int .i64 r.2] ∧ Two w.heap.size w' s t r.1.1 r.1.2 ∧ Ext w w'
theorem OwnI.none (B : Nat) (w : World) : OwnI B w (.slice Option.none 0 0) [] := ⟨rfl, .inl ⟨rfl, rfl⟩⟩
theorem TwoOut.nil {w w' : World} {c : Int} (he : Ext w w') : TwoOut w (([], []), c) (.tuple #[.slice Option.none 0 0, .slice Option.none 0 0, .int .i64 c]) w' := ⟨_, _, rfl, ⟨OwnI.none _ _, OwnI.none _ _, fun k hk => by cases hk⟩, he⟩
/-- Two new slices. -/
theorem Two.fresh {w w1 w2 : World} {s t : Value} (h1 : w1.ownsRow w.heap.size 2 1 s 0 []) (e1 : Ext w w1) (h2 : w2.ownsRow w1.heap.size 2 1 t 0 []) (e2 : Ext w1 w2) : Two w.heap.size w2 s t [] [] :=
  ⟨OwnI.ext h1 e2, OwnI.lower h2 e1.size, fun k hk e => by have a := (own_block h1 hk).2; have b := (own_block h2 e).1; omega⟩
theorem pick_col (xss : List (List Int)) (ks : List Int) (j : Nat) (h0 : ∀ i, i < ks.length → 0 ≤ ks.getD i 0 ∧ ks.getD i 0 < xss.length) : mapR (fun k => ((pickR xss ks).getD k []).getD j 0) ks.length = pickL (colL xss j) ks := by
  unfold pickL
  refine mapR_congr fun k hk => ?_
  have := h0 k hk
  unfold pickR colL
  rw [rowsOf_get _ _ _ hk, mapR_getD _ _ _ (by omega)]
theorem runC_two_code {t : Tp} {xs ds : List Int} (h : runC t [xs] ≠ 0) : runC t [xs, ds] = runC t [xs] := by
  rw [runC_one] at h ⊢
  rw [runC_two]
  cases ok : okT t
  · rfl
  · rw [ok, if_pos rfl] at h
    by_cases g : goodR t.inputs xs = true
    · rw [if_pos g] at h; exact absurd rfl h
    · rw [if_pos rfl, if_pos rfl, if_neg (fun e => g e.1), if_neg g]
end Eng
end Go.Proofs.Ytgahkbcfjibjaaa
