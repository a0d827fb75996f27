/- TapeForward; more on appends; regions whose orders fork. Conditions: the lengths. -/
import Derived.Test.YtfkohgfcchhlpaaTd
namespace Go.Proofs.Ytfkohgfcchhlpaa
open Go Go.RowKit
namespace Eng
/-! a region whose orders fork: the state of what is done is written out -/
structure EX (P : Program) (n : Nat) (ops : Array Oper) (S : World → Prop) (Q : Env → World → Prop) (k : Nat) (listed : Array Bool) (ρ : Env) (w : World) : Prop where
  out : Region.noSelect ops = true → ∀ a, Fits ρ n a → S w → anyS P .any ops (onlyN n Q) S k listed a w
section
variable {P : Program} {n : Nat} {ops : Array Oper} {S : World → Prop} {Q : Env → World → Prop} {k : Nat} {listed : Array Bool} {ρ ρ' : Env} {w : World}
theorem EX.nil (h0 : (Region.ready .any ops listed).isEmpty = true) (h : Q ρ w) : EX P n ops S Q 0 listed ρ w := ⟨fun _ a ha _ => ⟨by simpa using h0, ρ, ha, h⟩⟩
theorem EX.f (i : Nat) {o : Oper} {v : Value} (hf : (Region.free .any ops listed i && (Region.ready .any ops listed).contains i) = true) (ho : ops[i]? = some o) (hv : FV P n S ρ o v) (hg : wantE ops ρ o = some true) (hd : putE n o.dst v ρ = some ρ') (h : EX P n ops S Q k (listed.setIfInBounds i true) ρ' w) : EX P n ops S Q (k + 1) listed ρ w :=
  ⟨fun hs a ha hS => by
    simp only [Bool.and_eq_true] at hf
    obtain ⟨hf, hr⟩ := hf
    refine anyS_take ho hs (fun _ _ _ h => h) _ listed a w (Region.free_spec ho hf) (by simpa using hr) (.inl ⟨wantE_spec ha hg, fun w' hS' => hv.out a ha w' hS'⟩) hS ?_
    exact h.out hs _ (ha.put hd) hS⟩
theorem EX.one (i : Nat) {o : Oper} {ρi : Value → Env} (hr : (Region.ready .any ops listed == [i]) = true) (ho : ops[i]? = some o) (hg : wantE ops ρ o = some true) (hd : ∀ v, putE n o.dst v ρ = some (ρi v))
    (A : Hv P n ρ o w fun v w' => S w' ∧ EX P n ops S Q k (listed.setIfInBounds i true) (ρi v) w') : EX P n ops S Q (k + 1) listed ρ w :=
  ⟨fun hs a ha hS => by
    simp only [beq_iff_eq] at hr
    refine ⟨fun h => (by rw [h] at hr; cases hr), fun x hx => ?_⟩
    rw [hr] at hx
    obtain rfl : x = i := by simpa using hx
    unfold wpOp
    simp only [ho]
    rw [if_pos (wantE_spec ha hg)]
    left
    exact A.out a ha _ _ fun v w' ⟨hS', hk⟩ => ⟨.inr hS', hk.out hs _ (ha.put (hd v)) hS'⟩⟩
theorem EX.fork (i j : Nat) {oi oj : Oper} {ρi ρj : Value → Env} (hr : (Region.ready .any ops listed == [i, j]) = true) (hoi : ops[i]? = some oi) (hoj : ops[j]? = some oj) (hgi : wantE ops ρ oi = some true) (hgj : wantE ops ρ oj = some true)
    (hdi : ∀ v, putE n oi.dst v ρ = some (ρi v)) (hdj : ∀ v, putE n oj.dst v ρ = some (ρj v))
    (A : Hv P n ρ oi w fun v w' => S w' ∧ EX P n ops S Q k (listed.setIfInBounds i true) (ρi v) w')
    (B : Hv P n ρ oj w fun v w' => S w' ∧ EX P n ops S Q k (listed.setIfInBounds j true) (ρj v) w') : EX P n ops S Q (k + 1) listed ρ w :=
  ⟨fun hs a ha hS => by
    simp only [beq_iff_eq] at hr
    refine ⟨fun h => (by rw [h] at hr; cases hr), fun x hx => ?_⟩
    rw [hr] at hx
    have hx' : x = i ∨ x = j := by simpa using hx
    rcases hx' with rfl | rfl
    · unfold wpOp
      simp only [hoi]
      rw [if_pos (wantE_spec ha hgi)]
      left
      exact A.out a ha _ _ fun v w' ⟨hS', hk⟩ => ⟨.inr hS', hk.out hs _ (ha.put (hdi v)) hS'⟩
    · unfold wpOp
      simp only [hoj]
      rw [if_pos (wantE_spec ha hgj)]
      left
      exact B.out a ha _ _ fun v w' ⟨hS', hk⟩ => ⟨.inr hS', hk.out hs _ (ha.put (hdj v)) hS'⟩⟩
theorem EW.drawX {Q : Exit → Env → World → Prop} {id : Nat} (S : World → Prop) (hm : P.follows .mixedOrders = true) (hs : Region.noSelect ops = true) (hS : S w.drew)
    (h : EX P n ops S (fun ρ' w' => Q .normal ρ' w') ops.size (Array.replicate ops.size false) ρ w.drew) : EW P n (.region id ops true) Q ρ w := by
  refine ⟨fun a ha => ?_⟩
  refine wp_mono (Q := onlyN n (fun ρ' w' => Q .normal ρ' w')) (wp_region_any hm ?_) fun e a' w' hq => by
    cases e <;> first | exact hq | exact hq.elim
  exact anyS_any _ _ _ _ (h.out hs a ha hS)
end
section
variable {P : Program} [UTab P] {n : Nat} {ρ : Env} {dst : Option Tmp} {ty : TypeId} {pos : String} {af : Array Edge} {gd : Option (Nat × Bool)}
/-- 'append(s, x)', elements of any size; where the row lies afterwards -/
theorem Hv.appendG {w : World} {t e : TypeId} {z : Value} {sz by_ B m : Nat} {x y : Operand} {s : Value} {g c : Nat} {cs us : List Value} (ht : UTab.und P t = some (.slice e)) (hi : UTab.inf P e = some (z, sz, by_)) (hz : z.cells.size = sz) (h0 : Nat.ble 1 sz = true)
    (hx : ev ρ x = some s) (hy : ev ρ y = some (.slice (some ⟨g, 0, none⟩) 1 c)) (hown : w.ownsRow B e sz s m cs) (hl : us.length = sz) (hcell : ∀ j u, us[j]? = some u → w.cell? ⟨g, j, none⟩ = some u) (h1 : ∀ u ∈ us, u.oneCell' = true)
    (h63 : m + 1 ≤ 9223372036854775807) (hbytes : (m + 1) * by_ ≤ 140737488355328) (hB : B ≤ w.heap.size) :
    Hv P n ρ ⟨dst, .call { callee := .builtin .append, args := #[x, y], argTypes := #[t, t] }, ty, pos, af, gd⟩ w (fun v w' => w'.ownsRow B e sz v (m + 1) (cs ++ us) ∧ w.grownBy w' s.ownBlock ∧ Below B w w' ∧ (v.ownBlock = s.ownBlock ∨ v.ownBlock = some w.heap.size)) :=
  ⟨fun a ha K' Q' h => by
    obtain ⟨_, _, i, _, hi', hz', hs, hby⟩ := run_inf hi w
    obtain ⟨v', w', hrun, hown', hgr, _, hat⟩ := run_append_own_at (P := P) w B t ty e i z sz by_ (UTab.und_ok _ _ ht) hi' hz' hs hby hz (Nat.le_of_ble_eq_true h0) s m cs hown ⟨g, 0, none⟩ 1 c us (by omega)
      (fun j v hj => by rw [addr_add, Nat.zero_add]; exact hcell j v hj) h1 (by simp only [maxLen]; omega) hbytes hB
    have hrun' : (execOp a.eval ⟨dst, .call { callee := .builtin .append, args := #[x, y], argTypes := #[t, t] }, ty, pos, af, gd⟩).run P w = .ok (.value v') w' := by
      simp [execOp, resolve, invoke, builtin, ha.eval hx, ha.eval hy, hrun]
    unfold Oper.wp
    rw [hrun']
    refine h _ _ ⟨hown', hgr, ⟨hgr.os, hgr.tape, hgr.output, hgr.size, fun k hk => hgr.block k (Nat.lt_of_lt_of_le hk hB) (fun e => ?_)⟩, hat⟩
    have := (hown.lt k e.symm).1
    omega⟩
/-- '[]T{x, y}', one cell an element. -/
theorem Hv.build2 {w : World} {t e : TypeId} {z : Value} {by_ : Nat} {x y : Operand} {u v : Value} (ht : UTab.und P t = some (.slice e)) (hi : UTab.inf P e = some (z, 1, by_)) (hx : ev ρ x = some u) (hy : ev ρ y = some v) (hu : u.cells = #[u]) (hv : v.cells = #[v]) :
    Hv P n ρ ⟨dst, .buildSlice t 2 #[(0, x), (1, y)], ty, pos, af, gd⟩ w (fun r w' => ∃ g, r = .slice (some ⟨g, 0, none⟩) 2 2 ∧ At w' e 1 g 2 2 [u, v] ∧ g = w.heap.size ∧ Ext w w') :=
  ⟨fun a ha K' Q' h => by
    obtain ⟨hs, hzv, _⟩ := run_inf hi w
    have hrun' : (execOp a.eval ⟨dst, .buildSlice t 2 #[(0, x), (1, y)], ty, pos, af, gd⟩).run P w = .ok (.value (.slice (some ⟨w.heap.size, 0, none⟩) 2 2)) (w.alloc (.cells #[u, v] e)) := by
      simp [execOp, Instr.buildSlice, run_und ht, hs, hzv, Instr.fill, newRow, ha.eval hx, ha.eval hy, hu, hv, Array.range_succ, Array.range_zero']
    unfold Oper.wp
    rw [hrun']
    exact h _ _ ⟨_, rfl, ⟨by simp, #[u, v], heap_alloc_new w _, Nat.le_refl _, by decide, by simp, by simp⟩, rfl, Ext.alloc w _⟩⟩
end
/-- Its guard speaks of an operation that was passed over itself. -/
def offE (ops : Array Oper) (ρ : Env) (o : Oper) : Bool :=
  match o.guard with
  | none => false
  | some (j, _) =>
    match ops[j]? with
    | some oj =>
      match oj.dst with
      | some d =>
        match get ρ d with
        | some (.tuple _) => true
        | _ => false
      | none => false
    | none => false
theorem EL.skipU {P : Program} {n : Nat} {ops : Array Oper} {Q : Env → World → Prop} {rest : List Oper} {o : Oper} {ρ ρ' : Env} {w : World} (hg : offE ops ρ o = true) (hd : putE n o.dst undef ρ = some ρ') (k : EL P n ops Q rest ρ' w) : EL P n ops Q (o :: rest) ρ w :=
  ⟨fun a ha => by
    unfold wpList
    have : Region.wanted o (yielded ops a.tmps) = false := by
      unfold offE at hg
      unfold Region.wanted
      cases h1 : o.guard with
      | none => simp [h1] at hg
      | some jw =>
        obtain ⟨j, want⟩ := jw
        simp only [h1] at hg ⊢
        cases h2 : ops[j]? with
        | none => simp [h2] at hg
        | some oj =>
          simp only [h2] at hg
          cases h3 : oj.dst with
          | none => simp [h3] at hg
          | some d =>
            simp only [h3] at hg
            cases h4 : get ρ d with
            | none => simp [h4] at hg
            | some v =>
              have hv := ha.val d v h4
              cases v <;> simp [h4] at hg
              unfold yielded
              simp only [h2, Option.bind_some, h3, hv]
              rfl
    rw [if_neg (by rw [this]; simp)]
    exact k.out _ (ha.put hd)⟩
/-- Two slices of numbers of one's own, apart. -/
structure Two (B : Nat) (w : World) (s t : Value) (xs ys : List Int) : Prop where
  a : OwnI B w s xs
  b : OwnI B w t ys
  ne : ∀ k, s.ownBlock = some k → t.ownBlock ≠ some k
theorem Two.ext {B : Nat} {w w' : World} {s t : Value} {xs ys : List Int} (h : Two B w s t xs ys) (he : Ext w w') : Two B w' s t xs ys := ⟨OwnI.ext h.a he, OwnI.ext h.b he, h.ne⟩
theorem Two.lower {B B' : Nat} {w : World} {s t : Value} {xs ys : List Int} (h : Two B w s t xs ys) (hB : B' ≤ B) : Two B' w s t xs ys := ⟨OwnI.lower h.a hB, OwnI.lower h.b hB, h.ne⟩
theorem Two.far {B B' : Nat} {w w' : World} {s t v : Value} {xs ys zs : List Int} (h : Two B w s t xs ys) (hg : w.grownBy w' s.ownBlock) (ho : OwnI B' w' v zs) (hB : B ≤ B') (hat : v.ownBlock = s.ownBlock ∨ v.ownBlock = some w.heap.size) : Two B w' v t zs ys := by
  refine ⟨OwnI.lower ho hB, own_far h.b hg ?_, fun k hk => ?_⟩
  · cases e : t.ownBlock with
    | none => exact .inl rfl
    | some k => exact .inr fun e2 => h.ne k e2.symm e
  · rcases hat with hat | hat
    · exact h.ne k (hat ▸ hk)
    · intro e2
      have := (own_block h.b e2).2
      rw [hat] at hk
      injection hk with hk
      omega
theorem Two.symm {B : Nat} {w : World} {s t : Value} {xs ys : List Int} (h : Two B w s t xs ys) : Two B w t s ys xs := ⟨h.b, h.a, fun k hk e => h.ne k e hk⟩
theorem Two.only {B : Nat} {w w' : World} {L : List (Option Nat)} {s t : Value} {xs ys : List Int} (h : Two B w s t xs ys) (k : Only L w w') (hne : ∀ j, some j ∈ L → j < B) : Two B w' s t xs ys := ⟨OwnI.only h.a k hne, OwnI.only h.b k hne, h.ne⟩
theorem runC_two (t : Tp) (xs ds : List Int) : runC t [xs, ds] = if okT t = true then (if goodR t.inputs xs = true ∧ goodR t.inputs ds = true then 0 else 2) else 1 := by
  unfold runC below
  simp [List.range_succ]
theorem runC_zero2 {t : Tp} {xs ds : List Int} (h : runC t [xs, ds] = 0) : okT t = true ∧ ((xs.length : Int) = t.inputs ∧ nums xs = true) ∧ (ds.length : Int) = t.inputs ∧ nums ds = true := by
  rw [runC_two] at h
  cases ok : okT t
  · rw [ok] at h; simp at h
  rw [ok, if_pos rfl] at h
  by_cases g : goodR t.inputs xs = true ∧ goodR t.inputs ds = true
  · unfold goodR at g
    simp only [Bool.and_eq_true, decide_eq_true_eq] at g
    exact ⟨rfl, g.1, g.2⟩
  · rw [if_neg g] at h; simp at h
theorem Rows.two {w : World} {g : Nat} {A B : Option Addr} {c d : Nat} {xs ds : List Int} (h : At w 24 1 g 2 2 [.slice A xs.length c, .slice B ds.length d]) (hx : Rd w A (ints xs)) (hy : Rd w B (ints ds)) : Rows w (some ⟨g, 0, none⟩) [xs, ds] := fun i hi => by
  simp only [List.length_cons, List.length_nil] at hi
  rcases (show i = 0 ∨ i = 1 by omega) with rfl | rfl
  · exact ⟨g, 0, A, c, rfl, At.cell h rfl, hx⟩
  · exact ⟨g, 0, B, d, rfl, At.cell h rfl, hy⟩
set_option maxHeartbeats 4000000 in
theorem implLines (A B : Option Addr) (c d : Nat) (xs ds : List Int) (w : World) (hx : Rd w A (ints xs)) (hy : Rd w B (ints ds)) (hl : xs.length ≤ ds.length) (hn : xs.length ≤ 1000000) :
    CallsR Try.prog 102 [.slice A xs.length c, .slice B ds.length d] w fun v w' => OutR w.heap.size w' v (lineL xs ds 1) ∧ Ext w w' := by
  refine CallsR.enter Try.func102 (by decide +kernel) rfl Try.ntmps102 rfl ?_
  repeat' (first
    | refine EL.f (FV.assign rfl) rfl rfl ?_
    | refine EL.nil ?_
    | refine EW.seq ?_
    | refine EW.region ?_)
  refine EL.h (Hv.build0 rfl rfl) rfl (fun _ => rfl) ?_
  rintro s0 w1 ⟨ho, he1⟩
  repeat' (first
    | refine EL.f (FV.move rfl) rfl rfl ?_
    | refine EL.f (FV.assign rfl) rfl rfl ?_
    | refine EL.f (FV.len rfl rfl) rfl rfl ?_
    | refine EL.nil ?_
    | refine EW.seq ?_
    | refine EW.region ?_
    | refine EW.block ?_)
  refine EW.loop (X := Nat × Value) (fun q wr => q.1 ≤ xs.length ∧ OutR w.heap.size wr q.2 (rowsOf (fun i => if 1 = 0 then [xs.getD i 0] else [xs.getD i 0, ds.getD i 0]) q.1) ∧ Ext w wr) (fun q => [(5, q.2), (1, .slice B ds.length d), (9, .slice A xs.length c), (10, .int .i64 xs.length), (11, .int .i64 q.1)]) (fun q => xs.length - q.1) (0, s0) ⟨Nat.zero_le _, OutR.nil ho, he1⟩ ⟨rfl, rfl, rfl, rfl, rfl, trivial⟩ ?_
  rintro ⟨k, s⟩ wr ⟨hk, hout, he⟩
  dsimp only at *
  by_cases hlt : k < xs.length
  · obtain ⟨b, o, rfl, hc⟩ := (hx.ext he).int hlt
    obtain ⟨b2, o2, rfl, hc2⟩ := (hy.ext he).int (show k < ds.length by omega)
    repeat' (first
      | (show EL _ _ _ _ (_ :: _) _ _
         first
         | (show EL _ _ _ _ (⟨_, .load _ _, _, _, _, _⟩ :: _) _ _; first | refine EL.f (FV.load1 rfl rfl rfl hc) rfl rfl ?_ | refine EL.f (FV.load1 rfl rfl rfl hc2) rfl rfl ?_)
         | (show EL _ _ _ _ (⟨_, .move _, _, _, _, _⟩ :: _) _ _; refine EL.f (FV.move rfl) rfl rfl ?_)
         | (show EL _ _ _ _ (⟨_, .assign _, _, _, _, _⟩ :: _) _ _; refine EL.f (FV.assign rfl) rfl rfl ?_)
         | (show EL _ _ _ _ (⟨_, .binOp .lss _ _ _ _, _, _, _, _⟩ :: _) _ _; refine EL.fT (FV.lss rfl rfl) rfl (fun _ => rfl) (by omega) ?_)
         | (show EL _ _ _ _ (⟨_, .indexAddr _ _ _, _, _, _, _⟩ :: _) _ _; refine EL.f (FV.idx1 rfl rfl rfl rfl (by omega) (by omega)) rfl rfl ?_))
      | refine EL.nil ?_
      | refine EW.seq ?_
      | refine EW.region ?_
      | refine EW.block ?_
      | refine EW.skip ?_
      | refine EW.condT rfl ?_)
    refine EL.h (Hv.build2 rfl rfl rfl rfl rfl rfl) rfl (fun _ => rfl) ?_
    rintro _ w2 ⟨g2, rfl, h2, hg2, he2⟩
    have hrow : RowB w2 w.heap.size (.slice (some ⟨g2, 0, none⟩) 2 2) [xs.getD k 0, ds.getD k 0] := RowB.own (At.own (B := 0) (cs := ints [xs.getD k 0, ds.getD k 0]) h2 (Nat.zero_le _))
    skip
    refine EL.h (Hv.build1A rfl rfl rfl rfl) rfl (fun _ => rfl) ?_
    rintro _ w3 ⟨g3, rfl, h3, hg3, he3⟩
    have e03 := (he.trans he2).trans he3
    skip
    refine EL.h (Hv.push rfl rfl (At.cell h3 rfl) (hout.ext (he2.trans he3)) (hrow.ext he3) (by rw [rowsOf_length]; omega) e03.size) rfl (fun _ => rfl) ?_
    rintro s9 w9 ⟨hout9, hgr, hbl⟩
    repeat' (first
      | refine EL.f (FV.move rfl) rfl rfl ?_
      | refine EL.f (FV.assign rfl) rfl rfl ?_
      | refine EL.f (FV.addI rfl rfl (by omega)) rfl rfl ?_
      | refine EL.nil ?_
      | refine EW.region ?_)
    exact ⟨(k + 1, s9), ⟨rfl, rfl, rfl, rfl, rfl, trivial⟩, ⟨by dsimp only; omega, by rw [rowsOf_succ, if_neg (by omega)]; exact hout9, Ext.after e03 hbl⟩, by dsimp only; omega⟩
  · obtain rfl : k = xs.length := by omega
    repeat' (first
      | refine EL.f (FV.move rfl) rfl rfl ?_
      | refine EL.f (FV.assign rfl) rfl rfl ?_
      | refine EL.fF (FV.lss rfl rfl) rfl (fun _ => rfl) (by omega) ?_
      | refine EL.nil ?_
      | refine EW.seq ?_
      | refine EW.region ?_
      | refine EW.exit ?_
      | refine EW.ret ?_
      | refine EW.condF rfl ?_)
    exact ⟨_, rfl, hout, he⟩
def pickR (xss : List (List Int)) (ks : List Int) : List (List Int) := rowsOf (fun k => xss.getD (ks.getD k 0).toNat []) ks.length
/-- A slice of one's own of series that were there in the world u. -/
def OutO (u : World) (B : Nat) (w : World) (s : Value) (xss : List (List Int)) : Prop := ∃ vs, w.ownsRow B 24 1 s xss.length vs ∧ ∀ i, i < xss.length → ∃ A c, vs[i]? = some (.slice A (xss.getD i []).length c) ∧ Rd u A (ints (xss.getD i []))
set_option maxHeartbeats 4000000 in
theorem implPickedR (A B : Option Addr) (c d : Nat) (xss : List (List Int)) (ks : List Int) (u w : World) (hx : Rows u A xss) (hu : Ext u w) (hy : Rd w B (ints ks)) (h0 : ∀ i, i < ks.length → 0 ≤ ks.getD i 0 ∧ ks.getD i 0 < xss.length) (hn : ks.length ≤ 1000000) :
    CallsR Try.prog 103 [.slice A xss.length c, .slice B ks.length d] w fun v w' => OutO u w.heap.size w' v (pickR xss ks) ∧ Ext w w' := by
  refine CallsR.enter Try.func103 (by decide +kernel) rfl Try.ntmps103 rfl ?_
  repeat' (first
    | refine EL.f (FV.assign rfl) rfl rfl ?_
    | refine EL.nil ?_
    | refine EW.seq ?_
    | refine EW.region ?_)
  refine EL.h (Hv.build0 rfl rfl) rfl (fun _ => rfl) ?_
  rintro s0 w1 ⟨ho, he1⟩
  repeat' (first
    | refine EL.f (FV.move rfl) rfl rfl ?_
    | refine EL.f (FV.assign rfl) rfl rfl ?_
    | refine EL.f (FV.len rfl rfl) rfl rfl ?_
    | refine EL.nil ?_
    | refine EW.seq ?_
    | refine EW.region ?_
    | refine EW.block ?_)
  refine EW.loop (X := Nat × Value) (fun q wr => q.1 ≤ ks.length ∧ OutO u w.heap.size wr q.2 (rowsOf (fun k => xss.getD (ks.getD k 0).toNat []) q.1) ∧ Ext w wr) (fun q => [(5, q.2), (0, .slice A xss.length c), (9, .slice B ks.length d), (10, .int .i64 ks.length), (11, .int .i64 q.1)]) (fun q => ks.length - q.1) (0, s0) ⟨Nat.zero_le _, ⟨[], ho, fun i hi => by simp [rowsOf] at hi⟩, he1⟩ ⟨rfl, rfl, rfl, rfl, rfl, trivial⟩ ?_
  rintro ⟨k, s⟩ wr ⟨hk, ⟨vs, hown, hvs⟩, he⟩
  dsimp only at *
  rw [rowsOf_length] at hown hvs
  have hvl : vs.length = k := by have := hown.1; simpa using this
  by_cases hlt : k < ks.length
  · obtain ⟨b2, o2, rfl, hc2⟩ := (hy.ext he).int hlt
    have hl0 := h0 k hlt
    obtain ⟨b, o, B1, c1, rfl, hc, hrd⟩ := hx (ks.getD k 0).toNat (by omega)
    repeat' (first
      | (show EL _ _ _ _ (_ :: _) _ _
         first
         | (show EL _ _ _ _ (⟨_, .load _ _, _, _, _, _⟩ :: _) _ _; first | refine EL.f (FV.load1 rfl rfl rfl ((hu.trans he).cell hc)) rfl rfl ?_ | refine EL.f (FV.load1 rfl rfl rfl hc2) rfl rfl ?_)
         | (show EL _ _ _ _ (⟨_, .move _, _, _, _, _⟩ :: _) _ _; refine EL.f (FV.move rfl) rfl rfl ?_)
         | (show EL _ _ _ _ (⟨_, .assign _, _, _, _, _⟩ :: _) _ _; refine EL.f (FV.assign rfl) rfl rfl ?_)
         | (show EL _ _ _ _ (⟨_, .binOp .lss _ _ _ _, _, _, _, _⟩ :: _) _ _; refine EL.fT (FV.lss rfl rfl) rfl (fun _ => rfl) (by omega) ?_)
         | (show EL _ _ _ _ (⟨_, .indexAddr _ _ _, _, _, _, _⟩ :: _) _ _; refine EL.f (FV.idx1 rfl rfl rfl rfl (by omega) (by omega)) rfl rfl ?_))
      | refine EL.nil ?_
      | refine EW.seq ?_
      | refine EW.region ?_
      | refine EW.block ?_
      | refine EW.skip ?_
      | refine EW.condT rfl ?_)
    refine EL.h (Hv.build1A rfl rfl rfl rfl) rfl (fun _ => rfl) ?_
    rintro _ w3 ⟨g3, rfl, h3, hg3, he3⟩
    have e03 := he.trans he3
    skip
    refine EL.h (Hv.append1 (B := w.heap.size) rfl rfl rfl rfl rfl (own_ext hown he3) (At.cell h3 rfl) rfl (by omega) (by omega) e03.size) rfl (fun _ => rfl) ?_
    rintro s9 w9 ⟨hout9, hgr, hbl⟩
    repeat' (first
      | refine EL.f (FV.move rfl) rfl rfl ?_
      | refine EL.f (FV.assign rfl) rfl rfl ?_
      | refine EL.f (FV.addI rfl rfl (by omega)) rfl rfl ?_
      | refine EL.nil ?_
      | refine EW.region ?_)
    refine ⟨(k + 1, s9), ⟨rfl, rfl, rfl, rfl, rfl, trivial⟩, ⟨by dsimp only; omega, ⟨vs ++ [.slice B1 (xss.getD (ks.getD k 0).toNat []).length c1], by rw [rowsOf_length]; exact hout9, fun i hi => ?_⟩, Ext.after e03 hbl⟩, by dsimp only; omega⟩
    rw [rowsOf_length] at hi
    rw [rowsOf_get _ _ _ hi]
    by_cases hii : i < k
    · obtain ⟨A', c', h1, h2⟩ := hvs i hii
      rw [rowsOf_get _ _ _ hii] at h1 h2
      exact ⟨A', c', by rw [List.getElem?_append_left (by omega)]; exact h1, h2⟩
    · obtain rfl : i = k := by omega
      exact ⟨B1, c1, by rw [← hvl]; simp [hvl], hrd⟩
  · obtain rfl : k = ks.length := by omega
    repeat' (first
      | refine EL.f (FV.move rfl) rfl rfl ?_
      | refine EL.f (FV.assign rfl) rfl rfl ?_
      | refine EL.fF (FV.lss rfl rfl) rfl (fun _ => rfl) (by omega) ?_
      | refine EL.nil ?_
      | refine EW.seq ?_
      | refine EW.region ?_
      | refine EW.exit ?_
      | refine EW.ret ?_
      | refine EW.condF rfl ?_)
    exact ⟨_, rfl, ⟨vs, by unfold pickR; rw [rowsOf_length]; exact hown, fun i hi => hvs i (by unfold pickR at hi; rwa [rowsOf_length] at hi)⟩, he⟩
def fForward (t : Tp) (xs ds : List Int) : (List Int × List Int) × Int :=
  if runC t [xs, ds] = 0 then (match regS t (lineL xs ds 1) 2 t.code.length with | none => (([], []), 6) | some out => ((pickL (colL out 0) t.outs, pickL (colL out 1) t.outs), 0)) else (([], []), runC t [xs, ds])
theorem fForward_code {t : Tp} {xs ds : List Int} (h : runC t [xs, ds] ≠ 0) : fForward t xs ds = (([], []), runC t [xs, ds]) := by unfold fForward; rw [if_neg h]
theorem fForward_none {t : Tp} {xs ds : List Int} (h : runC t [xs, ds] = 0) (e : regS t (lineL xs ds 1) 2 t.code.length = none) : fForward t xs ds = (([], []), 6) := by unfold fForward; rw [if_pos h, e]
theorem fForward_some {t : Tp} {xs ds : List Int} {out : List (List Int)} (h : runC t [xs, ds] = 0) (e : regS t (lineL xs ds 1) 2 t.code.length = some out) : fForward t xs ds = ((pickL (colL out 0) t.outs, pickL (colL out 1) t.outs), 0) := by unfold fForward; rw [if_pos h, e]
theorem fForward_len (t : Tp) (xs ds : List Int) : (fForward t xs ds).1.1.length ≤ 1048576 ∧ (fForward t xs ds).1.2.length ≤ 1048576 := by
  by_cases hr : runC t [xs, ds] = 0
  · have ho := (okT_iff.1 (runC_zero2 hr).1).2.2.2.1
    cases e : regS t (lineL xs ds 1) 2 t.code.length with
    | none => rw [fForward_none hr e]; simp
    | some out => rw [fForward_some hr e]; simp only [pickL_length]; omega
  · rw [fForward_code hr]; simp
def TwoOut (w : World) (r : (List Int × List Int) × Int) (v : Value) (w' : World) : Prop := ∃ s t, v = .tuple #[s, t, .int .i64 r.2] ∧ Two w.heap.size w' s t r.1.1 r.1.2 ∧ Ext w w'
theorem OwnI.none (B : Nat) (w : World) : OwnI B w (.slice Option.none 0 0) [] := ⟨rfl, .inl ⟨rfl, rfl⟩⟩
theorem TwoOut.nil {w w' : World} {c : Int} (he : Ext w w') : TwoOut w (([], []), c) (.tuple #[.slice Option.none 0 0, .slice Option.none 0 0, .int .i64 c]) w' := ⟨_, _, rfl, ⟨OwnI.none _ _, OwnI.none _ _, fun k hk => by cases hk⟩, he⟩
/-- Two new slices. -/
theorem Two.fresh {w w1 w2 : World} {s t : Value} (h1 : w1.ownsRow w.heap.size 2 1 s 0 []) (e1 : Ext w w1) (h2 : w2.ownsRow w1.heap.size 2 1 t 0 []) (e2 : Ext w1 w2) : Two w.heap.size w2 s t [] [] :=
  ⟨OwnI.ext h1 e2, OwnI.lower h2 e1.size, fun k hk e => by have a := (own_block h1 hk).2; have b := (own_block h2 e).1; omega⟩
theorem pick_col (xss : List (List Int)) (ks : List Int) (j : Nat) (h0 : ∀ i, i < ks.length → 0 ≤ ks.getD i 0 ∧ ks.getD i 0 < xss.length) : mapR (fun k => ((pickR xss ks).getD k []).getD j 0) ks.length = pickL (colL xss j) ks := by
  unfold pickL
  refine mapR_congr fun k hk => ?_
  have := h0 k hk
  unfold pickR colL
  rw [rowsOf_get _ _ _ hk, mapR_getD _ _ _ (by omega)]
set_option maxHeartbeats 16000000 in
theorem implTapeForwardT (v : Value) (t : Tp) (A : Option Addr) (c : Nat) (xs : List Int) (B : Option Addr) (d : Nat) (ds : List Int) (w : World) (h : TapeV w v t) (hf : Fit t) (hx : Rd w A (ints xs)) (hn : xs.length ≤ 1048576) (hy : Rd w B (ints ds)) (hm : ds.length ≤ 1048576) :
    CallsR Try.prog 44 [v, .slice A xs.length c, .slice B ds.length d] w (TwoOut w (fForward t xs ds)) := by
  have hv := h
  obtain ⟨P, p, Q, q, R, r, rfl, r1, r2, r3⟩ := h
  refine CallsR.enter Try.func44 (by decide +kernel) rfl Try.ntmps44 rfl ?_
  repeat' (first
    | refine EW.seq ?_
    | refine EW.region ?_)
  refine EL.h (Hv.boxA (sz := 4) rfl rfl) rfl (fun _ => rfl) ?_
  rintro _ w1 ⟨g1, rfl, hg1, hb, he1⟩
  repeat' (first
    | refine EL.f (FV.loadAgg (cs := [.int .i64 t.inputs, .slice P t.code.length p, .slice Q t.guards.length q, .slice R t.outs.length r]) rfl rfl rfl rfl rfl (fun _ e => e ▸ At.lies hb)) rfl rfl ?_
    | refine EL.f (FV.move rfl) rfl rfl ?_
    | refine EL.f (FV.assign rfl) rfl rfl ?_
    | refine EL.nil ?_
    | refine EW.seq ?_
    | refine EW.region ?_)
  refine EL.h (Hv.build2 rfl rfl rfl rfl rfl rfl) rfl (fun _ => rfl) ?_
  rintro _ w2 ⟨g2, rfl, h2, hg2, he2⟩
  have hw2 := he1.trans he2
  replace hb := At.ext hb he2
  skip
  refine EL.h (Hv.call (implIsRun _ t (some ⟨g2, 0, none⟩) 2 [xs, ds] w2 (hv.ext hw2) hf (Rows.two h2 (hx.ext hw2) (hy.ext hw2)) (by simp) (fun i hi => by simp only [List.length_cons, List.length_nil] at hi; rcases (show i = 0 ∨ i = 1 by omega) with rfl | rfl; exact hn; exact hm)) rfl) rfl (fun _ => rfl) ?_
  rintro _ w3 ⟨rfl, he3⟩
  have hw3 := hw2.trans he3
  replace hb := At.ext hb he3
  by_cases hr : runC t [xs, ds] = 0
  rotate_left
  · repeat' (first
      | refine EL.f (FV.move rfl) rfl rfl ?_
      | refine EL.f (FV.assign rfl) rfl rfl ?_
      | refine EL.fT (FV.neq rfl rfl) rfl (fun _ => rfl) (by omega) ?_
      | refine EL.nil ?_
      | refine EW.seq ?_
      | refine EW.region ?_
      | refine EW.ret ?_
      | refine EW.condT rfl ?_)
    rw [fForward_code hr]
    exact ⟨_, rfl, TwoOut.nil hw3⟩
  obtain ⟨ok, ⟨hl, hnum⟩, hld, hnd⟩ := runC_zero2 hr
  have hin := (okT_iff.1 ok).1
  have hcl := (okT_iff.1 ok).2.1
  have hou := (okT_iff.1 ok).2.2.2
  repeat' (first
    | refine EL.f (FV.move rfl) rfl rfl ?_
    | refine EL.f (FV.assign rfl) rfl rfl ?_
    | refine EL.fF (FV.neq rfl rfl) rfl (fun _ => rfl) (by omega) ?_
    | refine EL.nil ?_
    | refine EW.seq ?_
    | refine EW.region ?_
    | refine EW.skip ?_
    | refine EW.condF rfl ?_)
  refine EW.draw (fun w' => Ext w3 w') [(0, true), (1, true), (2, true), (3, false), (4, false), (5, true), (6, true), (7, true), (8, true), (9, true)] mixed (by decide +kernel) (Ext.drew _) ?_
  repeat' (first
    | refine EP.f rfl (FV.loadAgg (cs := [.int .i64 t.inputs, .slice P t.code.length p, .slice Q t.guards.length q, .slice R t.outs.length r]) rfl rfl rfl rfl rfl (fun _ h' => (At.lies hb).ext h')) rfl rfl ?_
    | refine EP.f rfl (FV.move rfl) rfl rfl ?_)
  have ed := Ext.drew w3
  refine EP.h rfl rfl (Hv.call (implLines A B c d xs ds w3.drew (hx.ext (hw3.trans ed)) (hy.ext (hw3.trans ed)) (by omega) (by omega)) rfl) rfl (fun _ => rfl) ?_
  rintro s w4 ⟨hout, he4⟩
  have e34 := ed.trans he4
  refine ⟨e34, ?_⟩
  obtain ⟨A4, c4, rfl, hrows⟩ := hout.rows
  have hw4 := hw3.trans e34
  refine EP.h rfl rfl (Hv.call (implRegisters _ t A4 c4 (lineL xs ds 1) 1 w4 (hv.ext hw4) hf ok hrows (by rw [lineL_length]; exact hl) (lineL_good (by omega) hnum hnd) (by omega)) rfl) rfl (fun _ => rfl) ?_
  rintro res w5 hR
  have e35 := e34.trans hR.2
  refine ⟨e35, ?_⟩
  have hw5 := hw3.trans e35
  replace hb := At.ext hb e35
  unfold RegOut at hR
  cases e : regS t (lineL xs ds 1) 2 t.code.length with
  | none =>
    rw [show (1 : Nat) + 1 = 2 from rfl, e] at hR
    obtain ⟨⟨s, rfl⟩, _⟩ := hR
    repeat' (first
      | refine EP.nil ?_
      | refine EP.f rfl (FV.move rfl) rfl rfl ?_
      | refine EP.f rfl (FV.assign rfl) rfl rfl ?_
      | refine EP.f rfl (FV.extract rfl rfl) rfl rfl ?_)
    rw [fForward_none hr e]
    repeat' (first
      | refine EL.f (FV.move rfl) rfl rfl ?_
      | refine EL.f (FV.assign rfl) rfl rfl ?_
      | refine EL.fT (FV.neq rfl rfl) rfl (fun _ => rfl) (by omega) ?_
      | refine EL.nil ?_
      | refine EW.seq ?_
      | refine EW.region ?_
      | refine EW.ret ?_
      | refine EW.condT rfl ?_)
    exact ⟨_, rfl, TwoOut.nil hw5⟩
  | some out =>
    rw [show (1 : Nat) + 1 = 2 from rfl, e] at hR
    obtain ⟨⟨s, rfl, ho⟩, _⟩ := hR
    obtain ⟨hol, hgo⟩ := regS_good ok (by rw [lineL_length]; exact hl) (lineL_good (j := 1) (by omega) hnum hnd) (Nat.le_refl _) e
    obtain ⟨A5, c5, rfl, hr5⟩ := ho.rows
    repeat' (first
      | refine EP.nil ?_
      | refine EP.f rfl (FV.move rfl) rfl rfl ?_
      | refine EP.f rfl (FV.assign rfl) rfl rfl ?_
      | refine EP.f rfl (FV.extract rfl rfl) rfl rfl ?_)
    rw [fForward_some hr e]
    repeat' (first
      | refine EL.f (FV.move rfl) rfl rfl ?_
      | refine EL.fF (FV.neq rfl rfl) rfl (fun _ => rfl) (by omega) ?_
      | refine EL.nil ?_
      | refine EW.seq ?_
      | refine EW.region ?_
      | refine EW.skip ?_
      | refine EW.condF rfl ?_)
    refine EL.h (Hv.build0 rfl rfl) rfl (fun _ => rfl) ?_
    rintro s12 w6 ⟨ho6, he6⟩
    skip
    refine EL.h (Hv.build0 rfl rfl) rfl (fun _ => rfl) ?_
    rintro s13 w7 ⟨ho7, he7⟩
    have htw := Two.fresh ho6 he6 ho7 he7
    have hw7 := (hw5.trans he6).trans he7
    replace hb := At.ext hb (he6.trans he7)
    have hko : ∀ i, i < t.outs.length → 0 ≤ t.outs.getD i 0 ∧ t.outs.getD i 0 < out.length := fun i hi => by rw [hol]; exact hou.2.2.2 i hi
    repeat' (first
      | (show EL _ _ _ _ (_ :: _) _ _
         first
         | (show EL _ _ _ _ (⟨_, .fieldAddr _ _ _, _, _, _, _⟩ :: _) _ _; refine EL.f (FV.fieldAddr rfl rfl rfl rfl rfl) rfl rfl ?_)
         | (show EL _ _ _ _ (⟨_, .load _ _, _, _, _, _⟩ :: _) _ _; refine EL.f (FV.load1 rfl rfl rfl (At.cell hb rfl)) rfl rfl ?_)
         | (show EL _ _ _ _ (⟨_, .move _, _, _, _, _⟩ :: _) _ _; refine EL.f (FV.move rfl) rfl rfl ?_)
         | (show EL _ _ _ _ (⟨_, .assign _, _, _, _, _⟩ :: _) _ _; refine EL.f (FV.assign rfl) rfl rfl ?_))
      | refine EL.nil ?_
      | refine EW.seq ?_
      | refine EW.region ?_)
    refine EL.h (Hv.call (implPickedR A5 R c5 r out t.outs w5 w7 hr5 (he6.trans he7) (r3.ext hw7) hko (by omega)) rfl) rfl (fun _ => rfl) ?_
    rintro s8 w8 ⟨⟨vs, hown8, hvs⟩, he8⟩
    have e58 := (he6.trans he7).trans he8
    replace htw := Two.ext htw he8
    have hpl : (pickR out t.outs).length = t.outs.length := rowsOf_length _ _
    rw [hpl] at hown8 hvs
    replace hown8 := own_lower hown8 (he6.trans he7).size
    obtain ⟨A8, c8, rfl, _⟩ := own_form hown8
    have hrowlen : ∀ i, i < t.outs.length → ((pickR out t.outs).getD i []).length = 2 := fun i hi => by
      unfold pickR
      rw [rowsOf_get _ _ _ hi]
      exact (hgo _ (by have := hko i hi; omega)).1
    repeat' (first
      | refine EL.f (FV.move rfl) rfl rfl ?_
      | refine EL.f (FV.len rfl rfl) rfl rfl ?_
      | refine EL.nil ?_
      | refine EW.block ?_)
    refine EW.loop (X := Nat × Value × Value) (fun q wr => q.1 ≤ t.outs.length ∧ Two w5.heap.size wr q.2.1 q.2.2 (mapR (fun k => ((pickR out t.outs).getD k []).getD 0 0) q.1) (mapR (fun k => ((pickR out t.outs).getD k []).getD 1 0) q.1) ∧ wr.ownsRow w5.heap.size 24 1 (.slice A8 t.outs.length c8) t.outs.length vs ∧ Ext w5 wr) (fun q => [(12, q.2.1), (13, q.2.2), (40, .slice A8 t.outs.length c8), (41, .int .i64 t.outs.length), (42, .int .i64 q.1)]) (fun q => t.outs.length - q.1) (0, s12, s13) ⟨Nat.zero_le _, htw, hown8, e58⟩ ⟨rfl, rfl, rfl, rfl, rfl, trivial⟩ ?_
    rintro ⟨k, v0, v1⟩ wr ⟨hk, htw, hown, he⟩
    dsimp only at *
    by_cases hlt : k < t.outs.length
    rotate_left
    · obtain rfl : k = t.outs.length := by omega
      rw [pick_col out t.outs 0 hko, pick_col out t.outs 1 hko] at htw
      repeat' (first
        | refine EL.f (FV.move rfl) rfl rfl ?_
        | refine EL.f (FV.assign rfl) rfl rfl ?_
        | refine EL.fF (FV.lss rfl rfl) rfl (fun _ => rfl) (by omega) ?_
        | refine EL.nil ?_
        | refine EW.seq ?_
        | refine EW.region ?_
        | refine EW.exit ?_
        | refine EW.ret ?_
        | refine EW.condF rfl ?_)
      exact ⟨_, rfl, v0, v1, rfl, htw.lower hw5.size, hw5.trans he⟩
    obtain ⟨Ar, cr, hvk, hrd⟩ := hvs k hlt
    have hlen2 := hrowlen k hlt
    obtain ⟨A9, c9, e9, hrd8⟩ := own_form hown
    injection e9 with e9 _ _
    subst e9
    obtain ⟨b8, o8, rfl, hc8⟩ := hrd8 k _ hvk
    obtain ⟨br, or, rfl, hcr⟩ := hrd.all (by rw [ints_length]; omega)
    have hc0 := hcr 0 _ (ints_get (by omega))
    have hc1 := hcr 1 _ (ints_get (by omega))
    have hown8 := hown
    repeat' (first
      | (show EL _ _ _ _ (_ :: _) _ _
         first
         | (show EL _ _ _ _ (⟨_, .load _ _, _, _, _, _⟩ :: _) _ _; refine EL.f (FV.load1 rfl rfl rfl hc8) rfl rfl ?_)
         | (show EL _ _ _ _ (⟨_, .assign _, _, _, _, _⟩ :: _) _ _; refine EL.f (FV.assign rfl) rfl rfl ?_)
         | (show EL _ _ _ _ (⟨_, .binOp .lss _ _ _ _, _, _, _, _⟩ :: _) _ _; refine EL.fT (FV.lss rfl rfl) rfl (fun _ => rfl) (by omega) ?_)
         | (show EL _ _ _ _ (⟨_, .indexAddr _ _ _, _, _, _, _⟩ :: _) _ _; refine EL.f (FV.idx1 rfl rfl rfl rfl (by omega) (by omega)) rfl rfl ?_))
      | refine EL.nil ?_
      | refine EW.seq ?_
      | refine EW.region ?_
      | refine EW.block ?_
      | refine EW.skip ?_
      | refine EW.condT rfl ?_)
    have hB := he.size
    have hE := he.trans (Ext.drew wr)
    have htw := Two.ext htw (Ext.drew wr)
    have hown := own_ext hown (Ext.drew wr)
    generalize hrow : (pickR out t.outs).getD k [] = row at *
    refine EW.drawX (fun w' => Ext w5 w') mixed (by decide +kernel) hE ?_
    refine EX.f 0 (by decide +kernel) rfl (FV.move rfl) rfl rfl ?_
    refine EX.f 1 (by decide +kernel) rfl (FV.move rfl) rfl rfl ?_
    refine EX.f 2 (by decide +kernel) rfl (FV.idx1 rfl rfl rfl rfl (by omega) (by omega)) rfl rfl ?_
    refine EX.f 3 (by decide +kernel) rfl (FV.load rfl rfl rfl (fun w' h' => h'.cell hc0)) rfl rfl ?_
    refine EX.f 6 (by decide +kernel) rfl (FV.move rfl) rfl rfl ?_
    refine EX.f 7 (by decide +kernel) rfl (FV.move rfl) rfl rfl ?_
    refine EX.f 8 (by decide +kernel) rfl (FV.idx1 rfl rfl rfl rfl (by omega) (by omega)) rfl rfl ?_
    refine EX.f 9 (by decide +kernel) rfl (FV.load rfl rfl rfl (fun w' h' => h'.cell hc1)) rfl rfl ?_
    refine EX.fork 4 10 (by decide +kernel) rfl rfl rfl rfl (fun _ => rfl) (fun _ => rfl) ?_ ?_
    · refine (Hv.build1A rfl rfl rfl rfl).mono ?_
      rintro _ wA ⟨g4, rfl, h4, n4, e4⟩
      have q4 : v0.ownBlock ≠ some g4 := fun e => by have := (own_block htw.a e).2; omega
      have hE := hE.trans e4
      have htw := Two.ext htw e4
      have hown := own_ext hown e4
      refine ⟨hE, ?_⟩
      refine EX.fork 5 10 (by decide +kernel) rfl rfl rfl rfl (fun _ => rfl) (fun _ => rfl) ?_ ?_
      · refine (Hv.appendG (B := w5.heap.size) (us := [.int .i64 (row.getD 0 0)]) rfl rfl rfl rfl rfl rfl (mapR_row htw.a) rfl (fun j u hj => At.cell h4 hj) (fun u hu => by simp at hu; subst hu; rfl) (by omega) (by omega) hE.size).mono ?_
        rintro v12 wB ⟨own12, gr12, bl12, at12⟩
        have own12 := mapR_push (f := fun k => ((pickR out t.outs).getD k []).getD 0 0) (k := k) (by rw [hrow]; exact own12)
        have hE := Ext.after hE bl12
        have hown := own_far hown gr12 (own_ne hown htw.a (by decide))
        have htw := Two.far htw gr12 own12 (Nat.le_refl _) at12
        refine ⟨hE, ?_⟩
        refine EX.one 10 (by decide +kernel) rfl rfl (fun _ => rfl) ?_
        refine (Hv.build1A rfl rfl rfl rfl).mono ?_
        rintro _ wC ⟨g10, rfl, h10, n10, e10⟩
        have hE := hE.trans e10
        have htw := Two.ext htw e10
        have hown := own_ext hown e10
        refine ⟨hE, ?_⟩
        refine EX.one 11 (by decide +kernel) rfl rfl (fun _ => rfl) ?_
        refine (Hv.appendG (B := w5.heap.size) (us := [.int .i64 (row.getD 1 0)]) rfl rfl rfl rfl rfl rfl (mapR_row htw.b) rfl (fun j u hj => At.cell h10 hj) (fun u hu => by simp at hu; subst hu; rfl) (by omega) (by omega) hE.size).mono ?_
        rintro v13 wD ⟨own13, gr13, bl13, at13⟩
        have own13 := mapR_push (f := fun k => ((pickR out t.outs).getD k []).getD 1 0) (k := k) (by rw [hrow]; exact own13)
        have hE := Ext.after hE bl13
        have hown := own_far hown gr13 (own_ne hown htw.b (by decide))
        have htw := (Two.far htw.symm gr13 own13 (Nat.le_refl _) at13).symm
        refine ⟨hE, ?_⟩
        refine EX.f 12 (by decide +kernel) rfl (FV.assign rfl) rfl rfl ?_
        refine EX.f 13 (by decide +kernel) rfl (FV.assign rfl) rfl rfl ?_
        refine EX.nil (by decide +kernel) ?_
        repeat' (first
          | refine EL.f (FV.move rfl) rfl rfl ?_
          | refine EL.f (FV.addI rfl rfl (by omega)) rfl rfl ?_
          | refine EL.nil ?_
          | refine EW.region ?_)
        exact ⟨(k + 1, v12, v13), ⟨rfl, rfl, rfl, rfl, rfl, trivial⟩, ⟨by dsimp only; omega, htw, hown, hE⟩, by dsimp only; omega⟩
      · refine (Hv.build1A rfl rfl rfl rfl).mono ?_
        rintro _ wB ⟨g10, rfl, h10, n10, e10⟩
        have q10 : v0.ownBlock ≠ some g10 := fun e => by have := (own_block htw.a e).2; omega
        have hE := hE.trans e10
        have htw := Two.ext htw e10
        have hown := own_ext hown e10
        refine ⟨hE, ?_⟩
        refine EX.one 5 (by decide +kernel) rfl rfl (fun _ => rfl) ?_
        refine (Hv.appendG (B := w5.heap.size) (us := [.int .i64 (row.getD 0 0)]) rfl rfl rfl rfl rfl rfl (mapR_row htw.a) rfl (fun j u hj => At.cell (At.ext h4 e10) hj) (fun u hu => by simp at hu; subst hu; rfl) (by omega) (by omega) hE.size).mono ?_
        rintro v12 wC ⟨own12, gr12, bl12, at12⟩
        have own12 := mapR_push (f := fun k => ((pickR out t.outs).getD k []).getD 0 0) (k := k) (by rw [hrow]; exact own12)
        have hE := Ext.after hE bl12
        have hown := own_far hown gr12 (own_ne hown htw.a (by decide))
        have htw := Two.far htw gr12 own12 (Nat.le_refl _) at12
        refine ⟨hE, ?_⟩
        refine EX.one 11 (by decide +kernel) rfl rfl (fun _ => rfl) ?_
        refine (Hv.appendG (B := w5.heap.size) (us := [.int .i64 (row.getD 1 0)]) rfl rfl rfl rfl rfl rfl (mapR_row htw.b) rfl (fun j u hj => At.cell (At.kept h10 gr12 (fun e => q10 e.symm)) hj) (fun u hu => by simp at hu; subst hu; rfl) (by omega) (by omega) hE.size).mono ?_
        rintro v13 wD ⟨own13, gr13, bl13, at13⟩
        have own13 := mapR_push (f := fun k => ((pickR out t.outs).getD k []).getD 1 0) (k := k) (by rw [hrow]; exact own13)
        have hE := Ext.after hE bl13
        have hown := own_far hown gr13 (own_ne hown htw.b (by decide))
        have htw := (Two.far htw.symm gr13 own13 (Nat.le_refl _) at13).symm
        refine ⟨hE, ?_⟩
        refine EX.f 12 (by decide +kernel) rfl (FV.assign rfl) rfl rfl ?_
        refine EX.f 13 (by decide +kernel) rfl (FV.assign rfl) rfl rfl ?_
        refine EX.nil (by decide +kernel) ?_
        repeat' (first
          | refine EL.f (FV.move rfl) rfl rfl ?_
          | refine EL.f (FV.addI rfl rfl (by omega)) rfl rfl ?_
          | refine EL.nil ?_
          | refine EW.region ?_)
        exact ⟨(k + 1, v12, v13), ⟨rfl, rfl, rfl, rfl, rfl, trivial⟩, ⟨by dsimp only; omega, htw, hown, hE⟩, by dsimp only; omega⟩
    · refine (Hv.build1A rfl rfl rfl rfl).mono ?_
      rintro _ wA ⟨g10, rfl, h10, n10, e10⟩
      have q10 : v0.ownBlock ≠ some g10 := fun e => by have := (own_block htw.a e).2; omega
      have hE := hE.trans e10
      have htw := Two.ext htw e10
      have hown := own_ext hown e10
      refine ⟨hE, ?_⟩
      refine EX.one 4 (by decide +kernel) rfl rfl (fun _ => rfl) ?_
      refine (Hv.build1A rfl rfl rfl rfl).mono ?_
      rintro _ wB ⟨g4, rfl, h4, n4, e4⟩
      have q4 : v0.ownBlock ≠ some g4 := fun e => by have := (own_block htw.a e).2; omega
      have hE := hE.trans e4
      have htw := Two.ext htw e4
      have hown := own_ext hown e4
      refine ⟨hE, ?_⟩
      refine EX.one 5 (by decide +kernel) rfl rfl (fun _ => rfl) ?_
      refine (Hv.appendG (B := w5.heap.size) (us := [.int .i64 (row.getD 0 0)]) rfl rfl rfl rfl rfl rfl (mapR_row htw.a) rfl (fun j u hj => At.cell h4 hj) (fun u hu => by simp at hu; subst hu; rfl) (by omega) (by omega) hE.size).mono ?_
      rintro v12 wC ⟨own12, gr12, bl12, at12⟩
      have own12 := mapR_push (f := fun k => ((pickR out t.outs).getD k []).getD 0 0) (k := k) (by rw [hrow]; exact own12)
      have hE := Ext.after hE bl12
      have hown := own_far hown gr12 (own_ne hown htw.a (by decide))
      have htw := Two.far htw gr12 own12 (Nat.le_refl _) at12
      refine ⟨hE, ?_⟩
      refine EX.one 11 (by decide +kernel) rfl rfl (fun _ => rfl) ?_
      refine (Hv.appendG (B := w5.heap.size) (us := [.int .i64 (row.getD 1 0)]) rfl rfl rfl rfl rfl rfl (mapR_row htw.b) rfl (fun j u hj => At.cell (At.kept (At.ext h10 e4) gr12 (fun e => q10 e.symm)) hj) (fun u hu => by simp at hu; subst hu; rfl) (by omega) (by omega) hE.size).mono ?_
      rintro v13 wD ⟨own13, gr13, bl13, at13⟩
      have own13 := mapR_push (f := fun k => ((pickR out t.outs).getD k []).getD 1 0) (k := k) (by rw [hrow]; exact own13)
      have hE := Ext.after hE bl13
      have hown := own_far hown gr13 (own_ne hown htw.b (by decide))
      have htw := (Two.far htw.symm gr13 own13 (Nat.le_refl _) at13).symm
      refine ⟨hE, ?_⟩
      refine EX.f 12 (by decide +kernel) rfl (FV.assign rfl) rfl rfl ?_
      refine EX.f 13 (by decide +kernel) rfl (FV.assign rfl) rfl rfl ?_
      refine EX.nil (by decide +kernel) ?_
      repeat' (first
        | refine EL.f (FV.move rfl) rfl rfl ?_
        | refine EL.f (FV.addI rfl rfl (by omega)) rfl rfl ?_
        | refine EL.nil ?_
        | refine EW.region ?_)
      exact ⟨(k + 1, v12, v13), ⟨rfl, rfl, rfl, rfl, rfl, trivial⟩, ⟨by dsimp only; omega, htw, hown, hE⟩, by dsimp only; omega⟩
theorem runC_two_code {t : Tp} {xs ds : List Int} (h : runC t [xs] ≠ 0) : runC t [xs, ds] = runC t [xs] := by
  rw [runC_one] at h ⊢
  rw [runC_two]
  cases ok : okT t
  · rfl
  · rw [ok, if_pos rfl] at h
    by_cases g : goodR t.inputs xs = true
    · rw [if_pos g] at h; exact absurd rfl h
    · rw [if_pos rfl, if_pos rfl, if_neg (fun e => g e.1), if_neg g]
set_option maxHeartbeats 8000000 in
theorem specTapeForwardT (v : Value) (t : Tp) (A : Option Addr) (c : Nat) (xs : List Int) (B : Option Addr) (d : Nat) (ds : List Int) (w : World) (h : TapeV w v t) (hf : Fit t) (hx : Rd w A (ints xs)) (hn : xs.length ≤ 1048576) (hy : Rd w B (ints ds)) (_hm : ds.length ≤ 1048576) :
    CallsR Try.prog 43 [v, .slice A xs.length c, .slice B ds.length d] w (TwoOut w (fForward t xs ds)) := by
  obtain ⟨P, p, Q, q, R, r, rfl, r1, r2, r3⟩ := h
  refine CallsR.enter Try.func43 (by decide +kernel) rfl Try.ntmps43 rfl ?_
  repeat' (first
    | refine EW.seq ?_
    | refine EW.region ?_)
  refine EL.h (Hv.boxA (sz := 4) rfl rfl) rfl (fun _ => rfl) ?_
  rintro _ w1 ⟨g1, rfl, hg1, hb, he1⟩
  have tp1 : TapeP w1 g1 0 t := ⟨P, p, Q, q, R, r, At.lies hb, r1.ext he1, r2.ext he1, r3.ext he1⟩
  repeat' (first
    | refine EL.f (FV.move rfl) rfl rfl ?_
    | refine EL.f (FV.assign rfl) rfl rfl ?_
    | refine EL.nil ?_
    | refine EW.seq ?_
    | refine EW.region ?_)
  refine EL.h (Hv.call (specAsked g1 0 t A c xs w1 tp1 hf (hx.ext he1) hn) rfl) rfl (fun _ => rfl) ?_
  rintro _ w3 ⟨rfl, he3⟩
  have hw3 := he1.trans he3
  replace hb := At.ext hb he3
  replace tp1 := tp1.ext he3
  by_cases hr1 : runC t [xs] = 0
  rotate_left
  · have hr2 : runC t [xs, ds] ≠ 0 := by rw [runC_two_code hr1]; exact hr1
    repeat' (first
      | (show EL _ _ _ _ (_ :: _) _ _
         first
         | (show EL _ _ _ _ (⟨_, _, _, _, _, some _⟩ :: _) _ _; first | refine EL.skipU rfl rfl ?_ | refine EL.skip rfl rfl ?_)
         | (show EL _ _ _ _ (⟨_, .move _, _, _, _, _⟩ :: _) _ _; refine EL.f (FV.move rfl) rfl rfl ?_)
         | (show EL _ _ _ _ (⟨_, .assign _, _, _, _, _⟩ :: _) _ _; refine EL.f (FV.assign rfl) rfl rfl ?_)
         | (show EL _ _ _ _ (⟨_, .pick _ _ _, _, _, _, _⟩ :: _) _ _; refine EL.f (FV.pickF rfl rfl) rfl rfl ?_)
         | (show EL _ _ _ _ (⟨_, .binOp .neq _ _ _ _, _, _, _, _⟩ :: _) _ _; refine EL.fT (FV.neq rfl rfl) rfl (fun _ => rfl) (by omega) ?_)
         | (show EL _ _ _ _ (⟨_, .binOp .eql _ _ _ _, _, _, _, _⟩ :: _) _ _; refine EL.fF (FV.eql rfl rfl) rfl (fun _ => rfl) (by omega) ?_))
      | refine EL.nil ?_
      | refine EW.seq ?_
      | refine EW.region ?_
      | refine EW.skip ?_
      | refine EW.condT rfl ?_
      | refine EW.condF rfl ?_)
    refine EL.h (Hv.build0 rfl rfl) rfl (fun _ => rfl) ?_
    rintro s6 w6 ⟨ho6, he6⟩
    skip
    refine EL.h (Hv.build0 rfl rfl) rfl (fun _ => rfl) ?_
    rintro s7 w7 ⟨ho7, he7⟩
    repeat' (first
      | refine EL.f (FV.move rfl) rfl rfl ?_
      | refine EL.f (FV.assign rfl) rfl rfl ?_
      | refine EL.nil ?_
      | refine EW.ret ?_)
    rw [fForward_code hr2, runC_two_code hr1]
    exact ⟨_, rfl, s6, s7, rfl, (Two.fresh ho6 he6 ho7 he7).lower hw3.size, (hw3.trans he6).trans he7⟩
  obtain ⟨ok, hl, hnum⟩ := runC_zero hr1
  have hgx : goodR t.inputs xs = true := by unfold goodR; rw [hnum, decide_eq_true hl]; rfl
  by_cases hgd : goodR t.inputs ds = true
  rotate_left
  · have hr2 : runC t [xs, ds] = 2 := by rw [runC_two, ok, if_pos rfl, if_neg (fun e => hgd e.2)]
    have fin : fForward t xs ds = (([], []), 2) := by rw [fForward_code (by omega), hr2]
    rw [fin]
    by_cases hld : (ds.length : Int) = t.inputs
    · cases nd : nums ds
      rotate_left
      · exact absurd (by unfold goodR; rw [nd, decide_eq_true hld]; rfl) hgd
      repeat' (first
        | (show EL _ _ _ _ (_ :: _) _ _
           first
           | (show EL _ _ _ _ (⟨_, .fieldAddr _ _ _, _, _, _, _⟩ :: _) _ _; refine EL.f (FV.fieldAddr rfl rfl rfl rfl rfl) rfl rfl ?_)
           | (show EL _ _ _ _ (⟨_, .load _ _, _, _, _, _⟩ :: _) _ _; refine EL.f (FV.load1 rfl rfl rfl (At.cell hb rfl)) rfl rfl ?_)
           | (show EL _ _ _ _ (⟨_, .call _, _, _, _, _⟩ :: _) _ _; first | (refine EL.h (Hv.call (specNumbers B d ds w3 (hy.ext hw3) (by omega)) rfl) rfl (fun _ => rfl) ?_; rw [nd]; rintro _ _ ⟨rfl, rfl⟩) | refine EL.f (FV.len rfl rfl) rfl rfl ?_)
           | (show EL _ _ _ _ (⟨_, .move _, _, _, _, _⟩ :: _) _ _; refine EL.f (FV.move rfl) rfl rfl ?_)
           | (show EL _ _ _ _ (⟨_, .assign _, _, _, _, _⟩ :: _) _ _; refine EL.f (FV.assign rfl) rfl rfl ?_)
           | (show EL _ _ _ _ (⟨_, .unOp .not _ _, _, _, _, _⟩ :: _) _ _; refine EL.f (FV.not rfl) rfl rfl ?_)
           | (show EL _ _ _ _ (⟨_, .pick _ _ _, _, _, _, _⟩ :: _) _ _; first | refine EL.f (FV.pickT rfl rfl) rfl rfl ?_ | refine EL.f (FV.pickF rfl rfl) rfl rfl ?_)
           | (show EL _ _ _ _ (⟨_, .binOp .eql _ _ _ _, _, _, _, _⟩ :: _) _ _; refine EL.fT (FV.eql rfl rfl) rfl (fun _ => rfl) (by omega) ?_)
           | (show EL _ _ _ _ (⟨_, .binOp .neq _ _ _ _, _, _, _, _⟩ :: _) _ _; first | refine EL.fT (FV.neq rfl rfl) rfl (fun _ => rfl) (by omega) ?_ | refine EL.fF (FV.neq rfl rfl) rfl (fun _ => rfl) (by omega) ?_))
        | refine EL.nil ?_
        | refine EW.seq ?_
        | refine EW.region ?_
        | refine EW.condT rfl ?_)
      refine EL.h (Hv.build0 rfl rfl) rfl (fun _ => rfl) ?_
      rintro s6 w6 ⟨ho6, he6⟩
      skip
      refine EL.h (Hv.build0 rfl rfl) rfl (fun _ => rfl) ?_
      rintro s7 w7 ⟨ho7, he7⟩
      repeat' (first
        | refine EL.f (FV.move rfl) rfl rfl ?_
        | refine EL.f (FV.assign rfl) rfl rfl ?_
        | refine EL.nil ?_
        | refine EW.ret ?_)
      exact ⟨_, rfl, s6, s7, rfl, (Two.fresh ho6 he6 ho7 he7).lower hw3.size, (hw3.trans he6).trans he7⟩
    · repeat' (first
        | (show EL _ _ _ _ (_ :: _) _ _
           first
           | (show EL _ _ _ _ (⟨_, _, _, _, _, some _⟩ :: _) _ _; refine EL.skip rfl rfl ?_)
           | (show EL _ _ _ _ (⟨_, .fieldAddr _ _ _, _, _, _, _⟩ :: _) _ _; refine EL.f (FV.fieldAddr rfl rfl rfl rfl rfl) rfl rfl ?_)
           | (show EL _ _ _ _ (⟨_, .load _ _, _, _, _, _⟩ :: _) _ _; refine EL.f (FV.load1 rfl rfl rfl (At.cell hb rfl)) rfl rfl ?_)
           | (show EL _ _ _ _ (⟨_, .move _, _, _, _, _⟩ :: _) _ _; refine EL.f (FV.move rfl) rfl rfl ?_)
           | (show EL _ _ _ _ (⟨_, .assign _, _, _, _, _⟩ :: _) _ _; refine EL.f (FV.assign rfl) rfl rfl ?_)
           | (show EL _ _ _ _ (⟨_, .call _, _, _, _, _⟩ :: _) _ _; refine EL.f (FV.len rfl rfl) rfl rfl ?_)
           | (show EL _ _ _ _ (⟨_, .pick _ _ _, _, _, _, _⟩ :: _) _ _; refine EL.f (FV.pickT rfl rfl) rfl rfl ?_)
           | (show EL _ _ _ _ (⟨_, .binOp .eql _ _ _ _, _, _, _, _⟩ :: _) _ _; refine EL.fT (FV.eql rfl rfl) rfl (fun _ => rfl) (by omega) ?_)
           | (show EL _ _ _ _ (⟨_, .binOp .neq _ _ _ _, _, _, _, _⟩ :: _) _ _; refine EL.fT (FV.neq rfl rfl) rfl (fun _ => rfl) (by omega) ?_))
        | refine EL.nil ?_
        | refine EW.seq ?_
        | refine EW.region ?_
        | refine EW.condT rfl ?_)
      refine EL.h (Hv.build0 rfl rfl) rfl (fun _ => rfl) ?_
      rintro s6 w6 ⟨ho6, he6⟩
      skip
      refine EL.h (Hv.build0 rfl rfl) rfl (fun _ => rfl) ?_
      rintro s7 w7 ⟨ho7, he7⟩
      repeat' (first
        | refine EL.f (FV.move rfl) rfl rfl ?_
        | refine EL.f (FV.assign rfl) rfl rfl ?_
        | refine EL.nil ?_
        | refine EW.ret ?_)
      exact ⟨_, rfl, s6, s7, rfl, (Two.fresh ho6 he6 ho7 he7).lower hw3.size, (hw3.trans he6).trans he7⟩
  have hr : runC t [xs, ds] = 0 := by rw [runC_two, ok, if_pos rfl, if_pos ⟨hgx, hgd⟩]
  obtain ⟨_, _, hld, hnd⟩ := runC_zero2 hr
  have hin := (okT_iff.1 ok).1
  have hcl := (okT_iff.1 ok).2.1
  have hou := (okT_iff.1 ok).2.2.2
  repeat' (first
    | (show EL _ _ _ _ (_ :: _) _ _
       first
       | (show EL _ _ _ _ (⟨_, .fieldAddr _ _ _, _, _, _, _⟩ :: _) _ _; refine EL.f (FV.fieldAddr rfl rfl rfl rfl rfl) rfl rfl ?_)
       | (show EL _ _ _ _ (⟨_, .load _ _, _, _, _, _⟩ :: _) _ _; refine EL.f (FV.load1 rfl rfl rfl (At.cell hb rfl)) rfl rfl ?_)
       | (show EL _ _ _ _ (⟨_, .call _, _, _, _, _⟩ :: _) _ _; first | (refine EL.h (Hv.call (specNumbers B d ds w3 (hy.ext hw3) (by omega)) rfl) rfl (fun _ => rfl) ?_; rw [hnd]; rintro _ _ ⟨rfl, rfl⟩) | refine EL.f (FV.len rfl rfl) rfl rfl ?_)
       | (show EL _ _ _ _ (⟨_, .move _, _, _, _, _⟩ :: _) _ _; refine EL.f (FV.move rfl) rfl rfl ?_)
       | (show EL _ _ _ _ (⟨_, .assign _, _, _, _, _⟩ :: _) _ _; refine EL.f (FV.assign rfl) rfl rfl ?_)
       | (show EL _ _ _ _ (⟨_, .unOp .not _ _, _, _, _, _⟩ :: _) _ _; refine EL.f (FV.not rfl) rfl rfl ?_)
       | (show EL _ _ _ _ (⟨_, .pick _ _ _, _, _, _, _⟩ :: _) _ _; first | refine EL.f (FV.pickT rfl rfl) rfl rfl ?_ | refine EL.f (FV.pickF rfl rfl) rfl rfl ?_)
       | (show EL _ _ _ _ (⟨_, .binOp .eql _ _ _ _, _, _, _, _⟩ :: _) _ _; refine EL.fT (FV.eql rfl rfl) rfl (fun _ => rfl) (by omega) ?_)
       | (show EL _ _ _ _ (⟨_, .binOp .neq _ _ _ _, _, _, _, _⟩ :: _) _ _; refine EL.fF (FV.neq rfl rfl) rfl (fun _ => rfl) (by omega) ?_))
    | refine EL.nil ?_
    | refine EW.seq ?_
    | refine EW.region ?_
    | refine EW.skip ?_
    | refine EW.condF rfl ?_)
  refine EL.h (Hv.call (specLine A B c d xs ds 1 w3 (hx.ext hw3) (hy.ext hw3) (by omega) (by omega) (by omega)) rfl) rfl (fun _ => rfl) ?_
  rintro s w4 ⟨hout, he4⟩
  obtain ⟨A4, c4, rfl, hrows⟩ := hout.rows
  have hw4 := hw3.trans he4
  skip
  refine EL.h (Hv.call (specSeries g1 0 t A4 c4 (lineL xs ds 1) 1 w4 (tp1.ext he4) hf ok hrows (by rw [lineL_length]; exact hl) (lineL_good (by omega) hnum hnd) (by omega)) rfl) rfl (fun _ => rfl) ?_
  rintro res w5 hR
  have hw5 := hw4.trans hR.2
  replace hb := At.ext hb (he4.trans hR.2)
  unfold RegOut at hR
  cases e : regS t (lineL xs ds 1) 2 t.code.length with
  | none =>
    rw [show (1 : Nat) + 1 = 2 from rfl, e] at hR
    obtain ⟨⟨s, rfl⟩, _⟩ := hR
    rw [fForward_none hr e]
    repeat' (first
      | (show EL _ _ _ _ (_ :: _) _ _
         first
         | (show EL _ _ _ _ (⟨_, .move _, _, _, _, _⟩ :: _) _ _; refine EL.f (FV.move rfl) rfl rfl ?_)
         | (show EL _ _ _ _ (⟨_, .assign _, _, _, _, _⟩ :: _) _ _; refine EL.f (FV.assign rfl) rfl rfl ?_)
         | (show EL _ _ _ _ (⟨_, .extract _ _, _, _, _, _⟩ :: _) _ _; refine EL.f (FV.extract rfl rfl) rfl rfl ?_)
         | (show EL _ _ _ _ (⟨_, .unOp .not _ _, _, _, _, _⟩ :: _) _ _; refine EL.f (FV.not rfl) rfl rfl ?_))
      | refine EL.nil ?_
      | refine EW.seq ?_
      | refine EW.region ?_
      | refine EW.condT rfl ?_)
    refine EL.h (Hv.build0 rfl rfl) rfl (fun _ => rfl) ?_
    rintro s6 w6 ⟨ho6, he6⟩
    skip
    refine EL.h (Hv.build0 rfl rfl) rfl (fun _ => rfl) ?_
    rintro s7 w7 ⟨ho7, he7⟩
    repeat' (first
      | refine EL.f (FV.assign rfl) rfl rfl ?_
      | refine EL.nil ?_
      | refine EW.ret ?_)
    exact ⟨_, rfl, s6, s7, rfl, (Two.fresh ho6 he6 ho7 he7).lower hw5.size, (hw5.trans he6).trans he7⟩
  | some out =>
    rw [show (1 : Nat) + 1 = 2 from rfl, e] at hR
    obtain ⟨⟨s, rfl, ho⟩, _⟩ := hR
    obtain ⟨hol, hgo⟩ := regS_good ok (by rw [lineL_length]; exact hl) (lineL_good (j := 1) (by omega) hnum hnd) (Nat.le_refl _) e
    obtain ⟨A5, c5, rfl, hr5⟩ := ho.rows
    have hko : ∀ i, i < t.outs.length → 0 ≤ t.outs.getD i 0 ∧ t.outs.getD i 0 < out.length := fun i hi => by rw [hol]; exact hou.2.2.2 i hi
    have hc0 : (colL out 0).length = out.length := mapR_length _ _
    have hc1 : (colL out 1).length = out.length := mapR_length _ _
    rw [fForward_some hr e]
    repeat' (first
      | (show EL _ _ _ _ (_ :: _) _ _
         first
         | (show EL _ _ _ _ (⟨_, .move _, _, _, _, _⟩ :: _) _ _; refine EL.f (FV.move rfl) rfl rfl ?_)
         | (show EL _ _ _ _ (⟨_, .assign _, _, _, _, _⟩ :: _) _ _; refine EL.f (FV.assign rfl) rfl rfl ?_)
         | (show EL _ _ _ _ (⟨_, .extract _ _, _, _, _, _⟩ :: _) _ _; refine EL.f (FV.extract rfl rfl) rfl rfl ?_)
         | (show EL _ _ _ _ (⟨_, .unOp .not _ _, _, _, _, _⟩ :: _) _ _; refine EL.f (FV.not rfl) rfl rfl ?_))
      | refine EL.nil ?_
      | refine EW.seq ?_
      | refine EW.region ?_
      | refine EW.skip ?_
      | refine EW.condF rfl ?_)
    refine EW.draw (fun w' => Ext w5 w') [(0, true), (2, true), (3, true), (5, true), (7, true), (8, true), (1, false), (4, false), (6, false), (9, false), (10, true), (11, true), (12, true)] mixed (by decide +kernel) (Ext.drew _) ?_
    repeat' (first
      | refine EP.f rfl (FV.fieldAddr rfl rfl rfl rfl rfl) rfl rfl ?_
      | refine EP.f rfl (FV.load rfl rfl rfl (fun w' h' => At.cell (At.ext hb h') rfl)) rfl rfl ?_
      | refine EP.f rfl (FV.move rfl) rfl rfl ?_)
    have ed := Ext.drew w5
    refine EP.h rfl rfl (Hv.call (specColumn A5 c5 out 0 w5.drew (hr5.ext ed) (fun i hi => by rw [(hgo i hi).1]; omega) (by omega)) rfl) rfl (fun _ => rfl) ?_
    rintro va wa ⟨oa, ea⟩
    obtain ⟨Aa, ca, rfl, hra⟩ := OwnI.form oa
    have fa := ed.trans ea
    refine ⟨fa, ?_⟩
    refine EP.h rfl rfl (Hv.call (specPicked Aa R ca r (colL out 0) t.outs wa hra (r3.ext (hw5.trans fa)) (fun i hi => by rw [hc0]; exact hko i hi) (by omega)) rfl) rfl (fun _ => rfl) ?_
    rintro vb wb ⟨ob, eb⟩
    have fb := fa.trans eb
    refine ⟨fb, ?_⟩
    refine EP.h rfl rfl (Hv.call (specColumn A5 c5 out 1 wb (hr5.ext fb) (fun i hi => by rw [(hgo i hi).1]; omega) (by omega)) rfl) rfl (fun _ => rfl) ?_
    rintro vc wc ⟨oc, ec⟩
    obtain ⟨Ac, cc, rfl, hrc⟩ := OwnI.form oc
    have fc := fb.trans ec
    refine ⟨fc, ?_⟩
    refine EP.h rfl rfl (Hv.call (specPicked Ac R cc r (colL out 1) t.outs wc hrc (r3.ext (hw5.trans fc)) (fun i hi => by rw [hc1]; exact hko i hi) (by omega)) rfl) rfl (fun _ => rfl) ?_
    rintro vd wd ⟨od, ef⟩
    have fd := fc.trans ef
    refine ⟨fd, ?_⟩
    repeat' (first
      | refine EP.nil ?_
      | refine EP.f rfl (FV.assign rfl) rfl rfl ?_)
    repeat' (first
      | refine EW.ret ?_)
    refine ⟨_, rfl, vb, vd, rfl, ⟨OwnI.lower (OwnI.ext (OwnI.ext ob ec) ef) (Nat.le_trans hw5.size fa.size), OwnI.lower od (Nat.le_trans hw5.size fc.size), fun k hk e2 => ?_⟩, hw5.trans fd⟩
    have q1 := (own_block ob hk).2
    have q2 := (own_block od e2).1
    have q3 := ec.size
    omega
end Eng
end Go.Proofs.Ytfkohgfcchhlpaa
