/- Interpolation: both functions, and the law. Conditions: as each says. -/
import Derived.Test.YtlhfcmcocbiafaaItm
import Derived.Test.YtlhfcmcocbiafaaSer8
namespace Go.Proofs.Ytlhfcmcocbiafaa
open Go Go.RowKit
namespace Eng
section
variable {P : Program} [UTab P] {n : Nat} {S : World → Prop} {ρ : Env} {dst : Option Tmp} {ty : TypeId} {pos : String} {af : Array Edge} {gd : Option (Nat × Bool)}
/-- 's[:y]'. -/
theorem FV.sliceTo {x y : Operand} {t e : TypeId} {b l c : Nat} {k : IntKind} {j : Int} {z : Value} {s by_ : Nat} (ht : UTab.und P t = some (.slice e)) (hi : UTab.inf P e = some (z, s, by_)) (hx : ev ρ x = some (.slice (some ⟨b, 0, none⟩) l c)) (hj : ev ρ y = some (.int k j)) (h0 : 0 ≤ j) (h1 : j ≤ c) :
    FV P n S ρ ⟨dst, .slice t x none (some y) none, ty, pos, af, gd⟩ (.slice (some ⟨b, 0, none⟩) j.toNat c) :=
  ⟨fun a ha w _ => by
    have e1 := (run_inf hi w).1
    simp [execOp, ha.eval hx, ha.eval hj, Instr.sliceAt, Instr.slice, Instr.sliceBounds, Instr.sliceBound, run_und ht, asIntOf, h0, h1, e1, Addr.add]⟩
theorem run_slice_nil {t e : TypeId} (ht : UTab.und P t = some (.slice e)) (A : Addr) (l c : Nat) (w : World) : (Op.equal t (.slice (some A) l c) (.slice none 0 0)).run P w = .ok false w := by
  have h : ∀ d : Nat, (Op.equalIn (d + 1) t (.slice (some A) l c) (.slice none 0 0)).run P w = .ok false w := fun d => by
    simp [Op.equalIn, run_und ht]
  exact h 9999
theorem FV.eqlNil {x y : Operand} {t u e : TypeId} {A : Addr} {l c : Nat} (ht : UTab.und P t = some (.slice e)) (hx : ev ρ x = some (.slice (some A) l c)) (hy : ev ρ y = some (.slice none 0 0)) : FV P n S ρ ⟨dst, .binOp .eql t x y u, ty, pos, af, gd⟩ (.bool false) :=
  ⟨fun a ha w _ => by
    have h := run_slice_nil ht A l c w
    simp [execOp, ha.eval hx, ha.eval hy, eqGuard, binOp, h]⟩
/-- 'append(s, t..)'. -/
theorem Hv.appendL {w : World} {t e : TypeId} {z : Value} {by_ B m k : Nat} {x y : Operand} {s : Value} {b o c : Nat} {cs us : List Value} (ht : UTab.und P t = some (.slice e)) (hi : UTab.inf P e = some (z, 1, by_)) (hz : z.cells.size = 1)
    (hx : ev ρ x = some s) (hy : ev ρ y = some (.slice (some ⟨b, o, none⟩) k c)) (hown : w.ownsRow B e 1 s m cs) (hl : us.length = k) (hcell : ∀ j u, us[j]? = some u → w.cell? ⟨b, o + j, none⟩ = some u) (h1 : ∀ u ∈ us, u.oneCell' = true)
    (h63 : m + k ≤ 9223372036854775807) (hbytes : (m + k) * by_ ≤ 140737488355328) (hB : B ≤ w.heap.size) :
    Hv P n ρ ⟨dst, .call { callee := .builtin .append, args := #[x, y], argTypes := #[t, t] }, ty, pos, af, gd⟩ w (fun v w' => w'.ownsRow B e 1 v (m + k) (cs ++ us) ∧ w.grownBy w' s.ownBlock ∧ Below B w w') :=
  ⟨fun a ha K' Q' h => by
    obtain ⟨_, _, i, _, hi', hz', hs, hby⟩ := run_inf hi w
    obtain ⟨v', w', hrun, hown', hgr, _⟩ := run_append_own (P := P) w B t ty e i z 1 by_ (UTab.und_ok _ _ ht) hi' hz' hs hby hz (by omega) s m cs hown ⟨b, o, none⟩ k c us (by omega)
      (fun j v hj => by
        have e2 : (⟨b, o, none⟩ : Addr).add j = ⟨b, o + j, none⟩ := by
          unfold Addr.add
          split
          · simp_all
          · rfl
        rw [e2]; exact hcell j v hj) h1 (by simp only [maxLen]; omega) hbytes hB
    have hrun' : (execOp a.eval ⟨dst, .call { callee := .builtin .append, args := #[x, y], argTypes := #[t, t] }, ty, pos, af, gd⟩).run P w = .ok (.value v') w' := by
      simp [execOp, resolve, invoke, builtin, ha.eval hx, ha.eval hy, hrun]
    unfold Oper.wp
    rw [hrun']
    refine h _ _ ⟨hown', hgr, ⟨hgr.os, hgr.tape, hgr.output, hgr.size, fun k hk => hgr.block k (Nat.lt_of_lt_of_le hk hB) (fun e => ?_)⟩⟩
    have := (hown.lt k e.symm).1
    omega⟩
end
/-! a region whose orders fork: the state of what is done is written out -/
structure EX (P : Program) (n : Nat) (ops : Array Oper) (S : World → Prop) (Q : Env → World → Prop) (k : Nat) (listed : Array Bool) (ρ : Env) (w : World) : Prop where
  out : Region.noSelect ops = true → ∀ a, Fits ρ n a → S w → anyS P .any ops (onlyN n Q) S k listed a w
section
variable {P : Program} {n : Nat} {ops : Array Oper} {S : World → Prop} {Q : Env → World → Prop} {k : Nat} {listed : Array Bool} {ρ ρ' : Env} {w : World}
theorem EX.nil (h0 : (Region.ready .any ops listed).isEmpty = true) (h : Q ρ w) : EX P n ops S Q 0 listed ρ w := ⟨fun _ a ha _ => ⟨by simpa using h0, ρ, ha, h⟩⟩
theorem EX.f (i : Nat) {o : Oper} {v : Value} (hf : (Region.free .any ops listed i && (Region.ready .any ops listed).contains i) = true) (ho : ops[i]? = some o) (hv : FV P n S ρ o v) (hg : wantE ops ρ o = some true) (hd : putE n o.dst v ρ = some ρ') (h : EX P n ops S Q k (listed.setIfInBounds i true) ρ' w) : EX P n ops S Q (k + 1) listed ρ w :=
  ⟨fun hs a ha hS => by
    simp only [Bool.and_eq_true] at hf
    obtain ⟨hf, hr⟩ := hf
    refine anyS_take ho hs (fun _ _ _ h => h) _ listed a w (Region.free_spec ho hf) (by simpa using hr) (.inl ⟨wantE_spec ha hg, fun w' hS' => hv.out a ha w' hS'⟩) hS ?_
    exact h.out hs _ (ha.put hd) hS⟩
theorem EX.one (i : Nat) {o : Oper} {ρi : Value → Env} (hr : (Region.ready .any ops listed == [i]) = true) (ho : ops[i]? = some o) (hg : wantE ops ρ o = some true) (hd : ∀ v, putE n o.dst v ρ = some (ρi v))
    (A : Hv P n ρ o w fun v w' => S w' ∧ EX P n ops S Q k (listed.setIfInBounds i true) (ρi v) w') : EX P n ops S Q (k + 1) listed ρ w :=
  ⟨fun hs a ha hS => by
    simp only [beq_iff_eq] at hr
    refine ⟨fun h => (by rw [h] at hr; cases hr), fun x hx => ?_⟩
    rw [hr] at hx
    obtain rfl : x = i := by simpa using hx
    unfold wpOp
    simp only [ho]
    rw [if_pos (wantE_spec ha hg)]
    left
    exact A.out a ha _ _ fun v w' ⟨hS', hk⟩ => ⟨.inr hS', hk.out hs _ (ha.put (hd v)) hS'⟩⟩
theorem EX.fork (i j : Nat) {oi oj : Oper} {ρi ρj : Value → Env} (hr : (Region.ready .any ops listed == [i, j]) = true) (hoi : ops[i]? = some oi) (hoj : ops[j]? = some oj) (hgi : wantE ops ρ oi = some true) (hgj : wantE ops ρ oj = some true)
    (hdi : ∀ v, putE n oi.dst v ρ = some (ρi v)) (hdj : ∀ v, putE n oj.dst v ρ = some (ρj v))
    (A : Hv P n ρ oi w fun v w' => S w' ∧ EX P n ops S Q k (listed.setIfInBounds i true) (ρi v) w')
    (B : Hv P n ρ oj w fun v w' => S w' ∧ EX P n ops S Q k (listed.setIfInBounds j true) (ρj v) w') : EX P n ops S Q (k + 1) listed ρ w :=
  ⟨fun hs a ha hS => by
    simp only [beq_iff_eq] at hr
    refine ⟨fun h => (by rw [h] at hr; cases hr), fun x hx => ?_⟩
    rw [hr] at hx
    have hx' : x = i ∨ x = j := by simpa using hx
    rcases hx' with rfl | rfl
    · unfold wpOp
      simp only [hoi]
      rw [if_pos (wantE_spec ha hgi)]
      left
      exact A.out a ha _ _ fun v w' ⟨hS', hk⟩ => ⟨.inr hS', hk.out hs _ (ha.put (hdi v)) hS'⟩
    · unfold wpOp
      simp only [hoj]
      rw [if_pos (wantE_spec ha hgj)]
      left
      exact B.out a ha _ _ fun v w' ⟨hS', hk⟩ => ⟨.inr hS', hk.out hs _ (ha.put (hdj v)) hS'⟩⟩
theorem EW.drawX {Q : Exit → Env → World → Prop} {id : Nat} (S : World → Prop) (hm : P.follows .mixedOrders = true) (hs : Region.noSelect ops = true) (hS : S w.drew)
    (h : EX P n ops S (fun ρ' w' => Q .normal ρ' w') ops.size (Array.replicate ops.size false) ρ w.drew) : EW P n (.region id ops true) Q ρ w := by
  refine ⟨fun a ha => ?_⟩
  refine wp_mono (Q := onlyN n (fun ρ' w' => Q .normal ρ' w')) (wp_region_any hm ?_) fun e a' w' hq => by
    cases e <;> first | exact hq | exact hq.elim
  exact anyS_any _ _ _ _ (h.out hs a ha hS)
end
theorem getD_set_eq {xs : List Int} {k : Nat} {x : Int} (h : k < xs.length) : (xs.set k x).getD k 0 = x := by
  rw [List.getD_eq_getElem?_getD, List.getElem?_set_self h]; rfl
theorem getD_set_ne {xs : List Int} {k j : Nat} {x : Int} (h : k ≠ j) : (xs.set k x).getD j 0 = xs.getD j 0 := by
  rw [List.getD_eq_getElem?_getD, List.getElem?_set_ne h, ← List.getD_eq_getElem?_getD]
theorem ints_one_cell (xs : List Int) : ∀ u ∈ ints xs, u.oneCell' = true := by
  intro u hu
  obtain ⟨x, _, rfl⟩ := List.mem_map.1 hu
  rfl
theorem At.cap {w : World} {e size g n c : Nat} {cs : List Value} (h : At w e size g n c cs) : n ≤ c := by
  obtain ⟨cur, _, h2, _⟩ := h.row
  exact h2
theorem implClone (b o c : Nat) (xs : List Int) (w : World) (hx : Rd w (some ⟨b, o, none⟩) (ints xs)) (h0 : 0 < xs.length) (hn : xs.length ≤ 1000) :
    CallsR Try.prog 82 [.slice (some ⟨b, o, none⟩) xs.length c] w fun v w' => OwnI w.heap.size w' v xs ∧ Ext w w' := by
  refine CallsR.enter Try.func82 (by decide +kernel) rfl Try.ntmps82 rfl ?_
  repeat' (first
    | refine EL.f (FV.eqlNil rfl rfl rfl) rfl rfl ?_
    | refine EW.seq ?_
    | refine EL.f (FV.move rfl) rfl rfl ?_
    | refine EL.f (FV.assign rfl) rfl rfl ?_
    | refine EL.nil ?_
    | refine EW.region ?_
    | refine EW.block ?_
    | refine EW.skip ?_
    | refine EW.exit ?_
    | refine EW.ret ?_
    | refine EW.condT rfl ?_
    | refine EW.condF rfl ?_
    | refine EL.f (FV.addI rfl rfl (by omega)) rfl rfl ?_
    | refine EL.f (FV.subI rfl rfl (by omega)) rfl rfl ?_
    | refine EL.f (FV.remI rfl rfl (by decide) (by omega)) rfl rfl ?_
    | refine EL.f (FV.quoI rfl rfl (by decide) (by omega)) rfl rfl ?_
    | refine EL.f (FV.extract rfl rfl) rfl rfl ?_
    | refine EL.f (FV.len rfl rfl) rfl rfl ?_
    | refine EL.f (FV.lenS rfl rfl) rfl rfl ?_
    | refine EL.f (FV.not rfl) rfl rfl ?_
    | refine EL.skip rfl rfl ?_
    | refine EL.f (FV.pickT rfl rfl) rfl rfl ?_
    | refine EL.f (FV.pickF rfl rfl) rfl rfl ?_
    | refine EL.fT (FV.lss rfl rfl) rfl (fun _ => rfl) (by omega) ?_
    | refine EL.fT (FV.leq rfl rfl) rfl (fun _ => rfl) (by omega) ?_
    | refine EL.fT (FV.gtr rfl rfl) rfl (fun _ => rfl) (by omega) ?_
    | refine EL.fT (FV.geq rfl rfl) rfl (fun _ => rfl) (by omega) ?_
    | refine EL.fT (FV.eql rfl rfl) rfl (fun _ => rfl) (by omega) ?_
    | refine EL.fT (FV.neq rfl rfl) rfl (fun _ => rfl) (by omega) ?_
    | refine EL.fF (FV.lss rfl rfl) rfl (fun _ => rfl) (by omega) ?_
    | refine EL.fF (FV.leq rfl rfl) rfl (fun _ => rfl) (by omega) ?_
    | refine EL.fF (FV.gtr rfl rfl) rfl (fun _ => rfl) (by omega) ?_
    | refine EL.fF (FV.geq rfl rfl) rfl (fun _ => rfl) (by omega) ?_
    | refine EL.fF (FV.eql rfl rfl) rfl (fun _ => rfl) (by omega) ?_
    | refine EL.fF (FV.neq rfl rfl) rfl (fun _ => rfl) (by omega) ?_
    | refine EL.f (FV.rem rfl rfl (by decide)) rfl rfl ?_
    | refine EL.f (FV.idx0 rfl rfl rfl rfl (by omega) (by omega)) rfl rfl ?_
    | refine EL.f (FV.idx1 rfl rfl rfl rfl (by omega) (by omega)) rfl rfl ?_
    | refine EL.f (FV.load1 rfl rfl rfl (by assumption)) rfl rfl ?_)
  refine EL.h (Hv.build0 rfl rfl) rfl (fun _ => rfl) ?_
  rintro v1 w1 ⟨hown, he⟩
  repeat' (first
    | refine EW.seq ?_
    | refine EL.f (FV.move rfl) rfl rfl ?_
    | refine EL.f (FV.assign rfl) rfl rfl ?_
    | refine EL.nil ?_
    | refine EW.region ?_
    | refine EW.block ?_
    | refine EW.skip ?_
    | refine EW.exit ?_
    | refine EW.ret ?_
    | refine EW.condT rfl ?_
    | refine EW.condF rfl ?_
    | refine EL.f (FV.addI rfl rfl (by omega)) rfl rfl ?_
    | refine EL.f (FV.subI rfl rfl (by omega)) rfl rfl ?_
    | refine EL.f (FV.remI rfl rfl (by decide) (by omega)) rfl rfl ?_
    | refine EL.f (FV.quoI rfl rfl (by decide) (by omega)) rfl rfl ?_
    | refine EL.f (FV.extract rfl rfl) rfl rfl ?_
    | refine EL.f (FV.len rfl rfl) rfl rfl ?_
    | refine EL.f (FV.lenS rfl rfl) rfl rfl ?_
    | refine EL.f (FV.not rfl) rfl rfl ?_
    | refine EL.skip rfl rfl ?_
    | refine EL.f (FV.pickT rfl rfl) rfl rfl ?_
    | refine EL.f (FV.pickF rfl rfl) rfl rfl ?_
    | refine EL.fT (FV.lss rfl rfl) rfl (fun _ => rfl) (by omega) ?_
    | refine EL.fT (FV.leq rfl rfl) rfl (fun _ => rfl) (by omega) ?_
    | refine EL.fT (FV.gtr rfl rfl) rfl (fun _ => rfl) (by omega) ?_
    | refine EL.fT (FV.geq rfl rfl) rfl (fun _ => rfl) (by omega) ?_
    | refine EL.fT (FV.eql rfl rfl) rfl (fun _ => rfl) (by omega) ?_
    | refine EL.fT (FV.neq rfl rfl) rfl (fun _ => rfl) (by omega) ?_
    | refine EL.fF (FV.lss rfl rfl) rfl (fun _ => rfl) (by omega) ?_
    | refine EL.fF (FV.leq rfl rfl) rfl (fun _ => rfl) (by omega) ?_
    | refine EL.fF (FV.gtr rfl rfl) rfl (fun _ => rfl) (by omega) ?_
    | refine EL.fF (FV.geq rfl rfl) rfl (fun _ => rfl) (by omega) ?_
    | refine EL.fF (FV.eql rfl rfl) rfl (fun _ => rfl) (by omega) ?_
    | refine EL.fF (FV.neq rfl rfl) rfl (fun _ => rfl) (by omega) ?_
    | refine EL.f (FV.rem rfl rfl (by decide)) rfl rfl ?_
    | refine EL.f (FV.idx0 rfl rfl rfl rfl (by omega) (by omega)) rfl rfl ?_
    | refine EL.f (FV.idx1 rfl rfl rfl rfl (by omega) (by omega)) rfl rfl ?_
    | refine EL.f (FV.load1 rfl rfl rfl (by assumption)) rfl rfl ?_)
  obtain ⟨b2, o2, hA, hc⟩ := (hx.ext he).all (by rw [ints_length]; exact h0)
  injection hA with hA
  injection hA with hA1 hA2 _
  subst hA1 hA2
  refine EL.h (Hv.appendL (B := w.heap.size) (us := ints xs) rfl rfl rfl rfl rfl hown (ints_length _) hc (ints_one_cell xs) (by omega) (by omega) he.size) rfl (fun _ => rfl) ?_
  rintro v2 w2 ⟨hown2, _, hbel⟩
  repeat' (first
    | refine EW.seq ?_
    | refine EL.f (FV.move rfl) rfl rfl ?_
    | refine EL.f (FV.assign rfl) rfl rfl ?_
    | refine EL.nil ?_
    | refine EW.region ?_
    | refine EW.block ?_
    | refine EW.skip ?_
    | refine EW.exit ?_
    | refine EW.ret ?_
    | refine EW.condT rfl ?_
    | refine EW.condF rfl ?_
    | refine EL.f (FV.addI rfl rfl (by omega)) rfl rfl ?_
    | refine EL.f (FV.subI rfl rfl (by omega)) rfl rfl ?_
    | refine EL.f (FV.remI rfl rfl (by decide) (by omega)) rfl rfl ?_
    | refine EL.f (FV.quoI rfl rfl (by decide) (by omega)) rfl rfl ?_
    | refine EL.f (FV.extract rfl rfl) rfl rfl ?_
    | refine EL.f (FV.len rfl rfl) rfl rfl ?_
    | refine EL.f (FV.lenS rfl rfl) rfl rfl ?_
    | refine EL.f (FV.not rfl) rfl rfl ?_
    | refine EL.skip rfl rfl ?_
    | refine EL.f (FV.pickT rfl rfl) rfl rfl ?_
    | refine EL.f (FV.pickF rfl rfl) rfl rfl ?_
    | refine EL.fT (FV.lss rfl rfl) rfl (fun _ => rfl) (by omega) ?_
    | refine EL.fT (FV.leq rfl rfl) rfl (fun _ => rfl) (by omega) ?_
    | refine EL.fT (FV.gtr rfl rfl) rfl (fun _ => rfl) (by omega) ?_
    | refine EL.fT (FV.geq rfl rfl) rfl (fun _ => rfl) (by omega) ?_
    | refine EL.fT (FV.eql rfl rfl) rfl (fun _ => rfl) (by omega) ?_
    | refine EL.fT (FV.neq rfl rfl) rfl (fun _ => rfl) (by omega) ?_
    | refine EL.fF (FV.lss rfl rfl) rfl (fun _ => rfl) (by omega) ?_
    | refine EL.fF (FV.leq rfl rfl) rfl (fun _ => rfl) (by omega) ?_
    | refine EL.fF (FV.gtr rfl rfl) rfl (fun _ => rfl) (by omega) ?_
    | refine EL.fF (FV.geq rfl rfl) rfl (fun _ => rfl) (by omega) ?_
    | refine EL.fF (FV.eql rfl rfl) rfl (fun _ => rfl) (by omega) ?_
    | refine EL.fF (FV.neq rfl rfl) rfl (fun _ => rfl) (by omega) ?_
    | refine EL.f (FV.rem rfl rfl (by decide)) rfl rfl ?_
    | refine EL.f (FV.idx0 rfl rfl rfl rfl (by omega) (by omega)) rfl rfl ?_
    | refine EL.f (FV.idx1 rfl rfl rfl rfl (by omega) (by omega)) rfl rfl ?_
    | refine EL.f (FV.load1 rfl rfl rfl (by assumption)) rfl rfl ?_)
  refine ⟨_, rfl, ?_, Below.trans he hbel⟩
  rw [Nat.zero_add, List.nil_append] at hown2
  exact hown2
def ItpR (xs : List Int) : List Int × Int := if vld xs = true then (outL xs xs.length, 0) else ([], 1)
theorem ItpR_len (xs : List Int) : (ItpR xs).1.length ≤ 1048576 := by
  unfold ItpR
  split
  · rename_i h; have := vld_len h; simp only; rw [outL_length]; omega
  · simp
structure ISt where
  k : Nat
  go : Nat
  co : Nat
  gb : Nat
  cb : Nat
  G : List Int
set_option maxHeartbeats 4000000 in
theorem implInterpolateS (A : Option Addr) (c : Nat) (xs : List Int) (w : World) (hx : Rd w A (ints xs)) (hn : xs.length ≤ 1048576) :
    CallsR Try.prog 57 [.slice A xs.length c] w (SerOut w (ItpR xs)) := by
  refine CallsR.enter Try.func57 (by decide +kernel) rfl Try.ntmps57 rfl ?_
  have cx := implValid A c xs w hx (by omega)
  unfold ItpR
  cases vx : vld xs
  · rw [vx] at cx
    repeat' (first
      | (refine EL.h (Hv.call cx rfl) rfl (fun _ => rfl) ?_; rintro _ _ ⟨rfl, rfl⟩)
      | refine EW.seq ?_
      | refine EL.f (FV.move rfl) rfl rfl ?_
      | refine EL.f (FV.assign rfl) rfl rfl ?_
      | refine EL.nil ?_
      | refine EW.region ?_
      | refine EW.block ?_
      | refine EW.skip ?_
      | refine EW.exit ?_
      | refine EW.ret ?_
      | refine EW.condT rfl ?_
      | refine EW.condF rfl ?_
      | refine EL.f (FV.addI rfl rfl (by omega)) rfl rfl ?_
      | refine EL.f (FV.subI rfl rfl (by omega)) rfl rfl ?_
      | refine EL.f (FV.remI rfl rfl (by decide) (by omega)) rfl rfl ?_
      | refine EL.f (FV.quoI rfl rfl (by decide) (by omega)) rfl rfl ?_
      | refine EL.f (FV.extract rfl rfl) rfl rfl ?_
      | refine EL.f (FV.len rfl rfl) rfl rfl ?_
      | refine EL.f (FV.lenS rfl rfl) rfl rfl ?_
      | refine EL.f (FV.not rfl) rfl rfl ?_
      | refine EL.skip rfl rfl ?_
      | refine EL.f (FV.pickT rfl rfl) rfl rfl ?_
      | refine EL.f (FV.pickF rfl rfl) rfl rfl ?_
      | refine EL.fT (FV.lss rfl rfl) rfl (fun _ => rfl) (by omega) ?_
      | refine EL.fT (FV.leq rfl rfl) rfl (fun _ => rfl) (by omega) ?_
      | refine EL.fT (FV.gtr rfl rfl) rfl (fun _ => rfl) (by omega) ?_
      | refine EL.fT (FV.geq rfl rfl) rfl (fun _ => rfl) (by omega) ?_
      | refine EL.fT (FV.eql rfl rfl) rfl (fun _ => rfl) (by omega) ?_
      | refine EL.fT (FV.neq rfl rfl) rfl (fun _ => rfl) (by omega) ?_
      | refine EL.fF (FV.lss rfl rfl) rfl (fun _ => rfl) (by omega) ?_
      | refine EL.fF (FV.leq rfl rfl) rfl (fun _ => rfl) (by omega) ?_
      | refine EL.fF (FV.gtr rfl rfl) rfl (fun _ => rfl) (by omega) ?_
      | refine EL.fF (FV.geq rfl rfl) rfl (fun _ => rfl) (by omega) ?_
      | refine EL.fF (FV.eql rfl rfl) rfl (fun _ => rfl) (by omega) ?_
      | refine EL.fF (FV.neq rfl rfl) rfl (fun _ => rfl) (by omega) ?_
      | refine EL.f (FV.rem rfl rfl (by decide)) rfl rfl ?_
      | refine EL.f (FV.idx0 rfl rfl rfl rfl (by omega) (by omega)) rfl rfl ?_
      | refine EL.f (FV.idx1 rfl rfl rfl rfl (by omega) (by omega)) rfl rfl ?_
      | refine EL.f (FV.load1 rfl rfl rfl (by assumption)) rfl rfl ?_)
    exact ⟨_, rfl, SerOut.nil _ _⟩
  rw [vx] at cx
  have hl := vld_len vx
  obtain ⟨b, o, rfl, hc⟩ := hx.all (by rw [ints_length]; omega)
  have hc0 : w.cell? ⟨b, o + 0, none⟩ = some (.int .i64 (xs.getD 0 0)) := hc 0 _ (ints_get (by omega))
  rw [if_pos rfl]
  have hn14 : xs.length < 14 := by omega
  repeat' (first
    | (refine EL.h (Hv.call cx rfl) rfl (fun _ => rfl) ?_; rintro _ _ ⟨rfl, rfl⟩)
    | refine EW.seq ?_
    | refine EL.f (FV.move rfl) rfl rfl ?_
    | refine EL.f (FV.assign rfl) rfl rfl ?_
    | refine EL.nil ?_
    | refine EW.region ?_
    | refine EW.block ?_
    | refine EW.skip ?_
    | refine EW.exit ?_
    | refine EW.ret ?_
    | refine EW.condT rfl ?_
    | refine EW.condF rfl ?_
    | refine EL.f (FV.addI rfl rfl (by omega)) rfl rfl ?_
    | refine EL.f (FV.subI rfl rfl (by omega)) rfl rfl ?_
    | refine EL.f (FV.remI rfl rfl (by decide) (by omega)) rfl rfl ?_
    | refine EL.f (FV.quoI rfl rfl (by decide) (by omega)) rfl rfl ?_
    | refine EL.f (FV.extract rfl rfl) rfl rfl ?_
    | refine EL.f (FV.len rfl rfl) rfl rfl ?_
    | refine EL.f (FV.lenS rfl rfl) rfl rfl ?_
    | refine EL.f (FV.not rfl) rfl rfl ?_
    | refine EL.skip rfl rfl ?_
    | refine EL.f (FV.pickT rfl rfl) rfl rfl ?_
    | refine EL.f (FV.pickF rfl rfl) rfl rfl ?_
    | refine EL.fT (FV.lss rfl rfl) rfl (fun _ => rfl) (by omega) ?_
    | refine EL.fT (FV.leq rfl rfl) rfl (fun _ => rfl) (by omega) ?_
    | refine EL.fT (FV.gtr rfl rfl) rfl (fun _ => rfl) (by omega) ?_
    | refine EL.fT (FV.geq rfl rfl) rfl (fun _ => rfl) (by omega) ?_
    | refine EL.fT (FV.eql rfl rfl) rfl (fun _ => rfl) (by omega) ?_
    | refine EL.fT (FV.neq rfl rfl) rfl (fun _ => rfl) (by omega) ?_
    | refine EL.fF (FV.lss rfl rfl) rfl (fun _ => rfl) (by omega) ?_
    | refine EL.fF (FV.leq rfl rfl) rfl (fun _ => rfl) (by omega) ?_
    | refine EL.fF (FV.gtr rfl rfl) rfl (fun _ => rfl) (by omega) ?_
    | refine EL.fF (FV.geq rfl rfl) rfl (fun _ => rfl) (by omega) ?_
    | refine EL.fF (FV.eql rfl rfl) rfl (fun _ => rfl) (by omega) ?_
    | refine EL.fF (FV.neq rfl rfl) rfl (fun _ => rfl) (by omega) ?_
    | refine EL.f (FV.rem rfl rfl (by decide)) rfl rfl ?_
    | refine EL.f (FV.idx0 rfl rfl rfl rfl (by omega) (by omega)) rfl rfl ?_
    | refine EL.f (FV.idx1 rfl rfl rfl rfl (by omega) (by omega)) rfl rfl ?_
    | refine EL.f (FV.load1 rfl rfl rfl (by assumption)) rfl rfl ?_)
  refine EW.viaM (fun ρ' w' => ∃ g g2, Sub [(0, .slice (some ⟨b, o, none⟩) xs.length c), (4, .int .i64 xs.length), (5, .slice (some ⟨g, 0, none⟩) xs.length xs.length), (6, .slice (some ⟨g2, 0, none⟩) xs.length xs.length)] ρ' ∧ w.heap.size ≤ g ∧ w.heap.size ≤ g2 ∧ g2 ≠ g ∧ AtI w' g xs.length (List.replicate xs.length 0) ∧ AtI w' g2 xs.length (List.replicate xs.length 0) ∧ Ext w w') ?_ ?_
  · refine EW.drawX (fun w' => Ext w w') mixed (by decide +kernel) (Ext.drew _) ?_
    refine EX.f 0 (by decide +kernel) rfl (FV.move rfl) rfl rfl ?_
    refine EX.f 2 (by decide +kernel) rfl (FV.move rfl) rfl rfl ?_
    refine EX.fork 1 3 (by decide +kernel) rfl rfl rfl rfl (fun _ => rfl) (fun _ => rfl) ?_ ?_
    · refine (Hv.make (kl := .i64) rfl rfl rfl rfl (by omega) (by omega)).mono ?_
      rintro _ w1 ⟨g, rfl, hg, hat, he⟩
      refine ⟨(Ext.drew _).trans he, ?_⟩
      refine EX.f 4 (by decide +kernel) rfl (FV.assign rfl) rfl rfl ?_
      refine EX.one 3 (by decide +kernel) rfl rfl (fun _ => rfl) ?_
      refine (Hv.make (kl := .i64) rfl rfl rfl rfl (by omega) (by omega)).mono ?_
      rintro _ w2 ⟨g2, rfl, hg2, hat2, he2⟩
      refine ⟨((Ext.drew _).trans he).trans he2, ?_⟩
      refine EX.f 5 (by decide +kernel) rfl (FV.assign rfl) rfl rfl ?_
      refine EX.nil (by decide +kernel) ?_
      rw [madeInts] at hat hat2
      have hlt := At.lt hat
      have hs := he.size
      have hgw : w.heap.size ≤ g := Nat.le_of_eq hg.symm
      exact ⟨g, g2, ⟨rfl, rfl, rfl, rfl, trivial⟩, hgw, by omega, by omega, by unfold AtI; rw [List.length_replicate]; exact At.ext hat he2, by unfold AtI; rw [List.length_replicate]; exact hat2, ((Ext.drew w).trans he).trans he2⟩
    · refine (Hv.make (kl := .i64) rfl rfl rfl rfl (by omega) (by omega)).mono ?_
      rintro _ w1 ⟨g, rfl, hg, hat, he⟩
      refine ⟨(Ext.drew _).trans he, ?_⟩
      refine EX.one 1 (by decide +kernel) rfl rfl (fun _ => rfl) ?_
      refine (Hv.make (kl := .i64) rfl rfl rfl rfl (by omega) (by omega)).mono ?_
      rintro _ w2 ⟨g2, rfl, hg2, hat2, he2⟩
      refine ⟨((Ext.drew _).trans he).trans he2, ?_⟩
      refine EX.f 4 (by decide +kernel) rfl (FV.assign rfl) rfl rfl ?_
      refine EX.f 5 (by decide +kernel) rfl (FV.assign rfl) rfl rfl ?_
      refine EX.nil (by decide +kernel) ?_
      rw [madeInts] at hat hat2
      have hlt := At.lt hat
      have hs := he.size
      have hgw : w.heap.size ≤ g := Nat.le_of_eq hg.symm
      exact ⟨g2, g, ⟨rfl, rfl, rfl, rfl, trivial⟩, by omega, hgw, by omega, by unfold AtI; rw [List.length_replicate]; exact hat2, by unfold AtI; rw [List.length_replicate]; exact At.ext hat he2, ((Ext.drew w).trans he).trans he2⟩
  rintro ρ' w1 ⟨g, g2, hs, hg, hg2, hne, hat, hat2, he⟩
  refine EW.weaken ?_ hs
  clear hs
  repeat' (first
    | refine EW.seq ?_
    | refine EL.f (FV.move rfl) rfl rfl ?_
    | refine EL.f (FV.assign rfl) rfl rfl ?_
    | refine EL.nil ?_
    | refine EW.region ?_
    | refine EW.block ?_
    | refine EW.skip ?_
    | refine EW.exit ?_
    | refine EW.ret ?_
    | refine EW.condT rfl ?_
    | refine EW.condF rfl ?_
    | refine EL.f (FV.addI rfl rfl (by omega)) rfl rfl ?_
    | refine EL.f (FV.subI rfl rfl (by omega)) rfl rfl ?_
    | refine EL.f (FV.remI rfl rfl (by decide) (by omega)) rfl rfl ?_
    | refine EL.f (FV.quoI rfl rfl (by decide) (by omega)) rfl rfl ?_
    | refine EL.f (FV.extract rfl rfl) rfl rfl ?_
    | refine EL.f (FV.len rfl rfl) rfl rfl ?_
    | refine EL.f (FV.lenS rfl rfl) rfl rfl ?_
    | refine EL.f (FV.not rfl) rfl rfl ?_
    | refine EL.skip rfl rfl ?_
    | refine EL.f (FV.pickT rfl rfl) rfl rfl ?_
    | refine EL.f (FV.pickF rfl rfl) rfl rfl ?_
    | refine EL.fT (FV.lss rfl rfl) rfl (fun _ => rfl) (by omega) ?_
    | refine EL.fT (FV.leq rfl rfl) rfl (fun _ => rfl) (by omega) ?_
    | refine EL.fT (FV.gtr rfl rfl) rfl (fun _ => rfl) (by omega) ?_
    | refine EL.fT (FV.geq rfl rfl) rfl (fun _ => rfl) (by omega) ?_
    | refine EL.fT (FV.eql rfl rfl) rfl (fun _ => rfl) (by omega) ?_
    | refine EL.fT (FV.neq rfl rfl) rfl (fun _ => rfl) (by omega) ?_
    | refine EL.fF (FV.lss rfl rfl) rfl (fun _ => rfl) (by omega) ?_
    | refine EL.fF (FV.leq rfl rfl) rfl (fun _ => rfl) (by omega) ?_
    | refine EL.fF (FV.gtr rfl rfl) rfl (fun _ => rfl) (by omega) ?_
    | refine EL.fF (FV.geq rfl rfl) rfl (fun _ => rfl) (by omega) ?_
    | refine EL.fF (FV.eql rfl rfl) rfl (fun _ => rfl) (by omega) ?_
    | refine EL.fF (FV.neq rfl rfl) rfl (fun _ => rfl) (by omega) ?_
    | refine EL.f (FV.rem rfl rfl (by decide)) rfl rfl ?_
    | refine EL.f (FV.idx0 rfl rfl rfl rfl (by omega) (by omega)) rfl rfl ?_
    | refine EL.f (FV.idx1 rfl rfl rfl rfl (by omega) (by omega)) rfl rfl ?_
    | refine EL.f (FV.load1 rfl rfl rfl (by assumption)) rfl rfl ?_)
  refine EL.h (Hv.call (implClone b o c xs w1 (hx.ext he) hl.1 (by omega)) rfl) rfl (fun _ => rfl) ?_
  rintro v3 w3 ⟨ho3, he3⟩
  obtain ⟨g3, c3, rfl, hg3, hat3⟩ := own_at ho3 hl.1
  have hk0 : 0 < (List.replicate xs.length (0 : Int)).length := by rw [List.length_replicate]; omega
  have hlt := At.lt hat
  have hlt2 := At.lt hat2
  have hsz := he.size
  repeat' (first
    | (refine EL.h (Hv.storeAt rfl rfl rfl rfl rfl (At.ext hat2 he3) (ints_get hk0)) rfl (fun _ => rfl) ?_; rintro _ _ ⟨rfl, _⟩)
    | refine EW.seq ?_
    | refine EL.f (FV.move rfl) rfl rfl ?_
    | refine EL.f (FV.assign rfl) rfl rfl ?_
    | refine EL.nil ?_
    | refine EW.region ?_
    | refine EW.block ?_
    | refine EW.skip ?_
    | refine EW.exit ?_
    | refine EW.ret ?_
    | refine EW.condT rfl ?_
    | refine EW.condF rfl ?_
    | refine EL.f (FV.addI rfl rfl (by omega)) rfl rfl ?_
    | refine EL.f (FV.subI rfl rfl (by omega)) rfl rfl ?_
    | refine EL.f (FV.remI rfl rfl (by decide) (by omega)) rfl rfl ?_
    | refine EL.f (FV.quoI rfl rfl (by decide) (by omega)) rfl rfl ?_
    | refine EL.f (FV.extract rfl rfl) rfl rfl ?_
    | refine EL.f (FV.len rfl rfl) rfl rfl ?_
    | refine EL.f (FV.lenS rfl rfl) rfl rfl ?_
    | refine EL.f (FV.not rfl) rfl rfl ?_
    | refine EL.skip rfl rfl ?_
    | refine EL.f (FV.pickT rfl rfl) rfl rfl ?_
    | refine EL.f (FV.pickF rfl rfl) rfl rfl ?_
    | refine EL.fT (FV.lss rfl rfl) rfl (fun _ => rfl) (by omega) ?_
    | refine EL.fT (FV.leq rfl rfl) rfl (fun _ => rfl) (by omega) ?_
    | refine EL.fT (FV.gtr rfl rfl) rfl (fun _ => rfl) (by omega) ?_
    | refine EL.fT (FV.geq rfl rfl) rfl (fun _ => rfl) (by omega) ?_
    | refine EL.fT (FV.eql rfl rfl) rfl (fun _ => rfl) (by omega) ?_
    | refine EL.fT (FV.neq rfl rfl) rfl (fun _ => rfl) (by omega) ?_
    | refine EL.fF (FV.lss rfl rfl) rfl (fun _ => rfl) (by omega) ?_
    | refine EL.fF (FV.leq rfl rfl) rfl (fun _ => rfl) (by omega) ?_
    | refine EL.fF (FV.gtr rfl rfl) rfl (fun _ => rfl) (by omega) ?_
    | refine EL.fF (FV.geq rfl rfl) rfl (fun _ => rfl) (by omega) ?_
    | refine EL.fF (FV.eql rfl rfl) rfl (fun _ => rfl) (by omega) ?_
    | refine EL.fF (FV.neq rfl rfl) rfl (fun _ => rfl) (by omega) ?_
    | refine EL.f (FV.rem rfl rfl (by decide)) rfl rfl ?_
    | refine EL.f (FV.idx0 rfl rfl rfl rfl (by omega) (by omega)) rfl rfl ?_
    | refine EL.f (FV.idx1 rfl rfl rfl rfl (by omega) (by omega)) rfl rfl ?_
    | refine EL.f (FV.load1 rfl rfl rfl (by assumption)) rfl rfl ?_)
  refine EW.loop (fun (s : ISt) wr => s.k ≤ xs.length ∧ w.heap.size ≤ s.go ∧ s.go ≠ g3 ∧ AtI wr s.go s.co (outL xs s.k) ∧ s.gb ≠ g3 ∧ AtI wr s.gb s.cb (sIn xs.length s.k) ∧ s.G.length = xs.length ∧ AtI wr g3 c3 s.G ∧ (∀ j, s.k + j < xs.length → s.G.getD j 0 = gm xs s.k j) ∧ Below w.heap.size w wr)
    (fun s => [(0, .slice (some ⟨b, o, none⟩) xs.length c), (4, .int .i64 xs.length), (5, .slice (some ⟨s.go, 0, none⟩) xs.length s.co), (6, .slice (some ⟨s.gb, 0, none⟩) xs.length s.cb), (7, .slice (some ⟨g3, 0, none⟩) (xs.length - s.k) c3), (25, .int .i64 xs.length), (26, .int .i64 s.k)])
    (fun s => xs.length - s.k) ⟨0, g, xs.length, g2, xs.length, xs⟩ ⟨Nat.zero_le _, hg, by simp only; omega, At.far (At.ext hat he3) (by simp only; exact hne) _, by simp only; omega, AtI.set_ (k := 0) (At.ext hat2 he3) 1, rfl, At.far hat3 (by simp only; omega) _, fun j _ => rfl, Below.set_ (he.trans he3) hg2 _⟩ ⟨rfl, rfl, rfl, rfl, rfl, rfl, rfl, trivial⟩ ?_
  rintro ⟨k, go, co, gb, cb, G⟩ wr ⟨hk, hgo, hgo3, hato, hgb3, hatb, hG, hatG, hgm, hb⟩
  dsimp only at *
  by_cases hlt : k < xs.length
  · have hc0 : wr.cell? ⟨g3, 0, none⟩ = some (.int .i64 (gm xs k 0)) := by
      rw [← hgm 0 (by omega)]; exact AtI.int hatG (by omega)
    have hgl := At.lt hatG
    have csc := implScaled (some ⟨gb, 0, none⟩) cb (sIn xs.length k) (gm xs k 0) wr (At.rd hatb) (by rw [sIn_length]; omega) (nums_sIn hn14 (by omega)) (gm_bounds hl.2.2 k 0)
    rw [sIn_length] at csc
    have csz := hb.size
    repeat' (first
      | refine EW.seq ?_
      | refine EL.f (FV.move rfl) rfl rfl ?_
      | refine EL.f (FV.assign rfl) rfl rfl ?_
      | refine EL.nil ?_
      | refine EW.region ?_
      | refine EW.block ?_
      | refine EW.skip ?_
      | refine EW.exit ?_
      | refine EW.ret ?_
      | refine EW.condT rfl ?_
      | refine EW.condF rfl ?_
      | refine EL.f (FV.addI rfl rfl (by omega)) rfl rfl ?_
      | refine EL.f (FV.subI rfl rfl (by omega)) rfl rfl ?_
      | refine EL.f (FV.remI rfl rfl (by decide) (by omega)) rfl rfl ?_
      | refine EL.f (FV.quoI rfl rfl (by decide) (by omega)) rfl rfl ?_
      | refine EL.f (FV.extract rfl rfl) rfl rfl ?_
      | refine EL.f (FV.len rfl rfl) rfl rfl ?_
      | refine EL.f (FV.lenS rfl rfl) rfl rfl ?_
      | refine EL.f (FV.not rfl) rfl rfl ?_
      | refine EL.skip rfl rfl ?_
      | refine EL.f (FV.pickT rfl rfl) rfl rfl ?_
      | refine EL.f (FV.pickF rfl rfl) rfl rfl ?_
      | refine EL.fT (FV.lss rfl rfl) rfl (fun _ => rfl) (by omega) ?_
      | refine EL.fT (FV.leq rfl rfl) rfl (fun _ => rfl) (by omega) ?_
      | refine EL.fT (FV.gtr rfl rfl) rfl (fun _ => rfl) (by omega) ?_
      | refine EL.fT (FV.geq rfl rfl) rfl (fun _ => rfl) (by omega) ?_
      | refine EL.fT (FV.eql rfl rfl) rfl (fun _ => rfl) (by omega) ?_
      | refine EL.fT (FV.neq rfl rfl) rfl (fun _ => rfl) (by omega) ?_
      | refine EL.fF (FV.lss rfl rfl) rfl (fun _ => rfl) (by omega) ?_
      | refine EL.fF (FV.leq rfl rfl) rfl (fun _ => rfl) (by omega) ?_
      | refine EL.fF (FV.gtr rfl rfl) rfl (fun _ => rfl) (by omega) ?_
      | refine EL.fF (FV.geq rfl rfl) rfl (fun _ => rfl) (by omega) ?_
      | refine EL.fF (FV.eql rfl rfl) rfl (fun _ => rfl) (by omega) ?_
      | refine EL.fF (FV.neq rfl rfl) rfl (fun _ => rfl) (by omega) ?_
      | refine EL.f (FV.rem rfl rfl (by decide)) rfl rfl ?_
      | refine EL.f (FV.idx0 rfl rfl rfl rfl (by omega) (by omega)) rfl rfl ?_
      | refine EL.f (FV.idx1 rfl rfl rfl rfl (by omega) (by omega)) rfl rfl ?_
      | refine EL.f (FV.load1 rfl rfl rfl (by assumption)) rfl rfl ?_)
    refine EL.h (Hv.call csc rfl) rfl (fun _ => rfl) ?_
    rintro v4 w4 ⟨ho4, he4⟩
    have l4 : (scaleL (sIn xs.length k) (gm xs k 0)).length = xs.length := by rw [scaleL_length, sIn_length]
    obtain ⟨g4, c4, rfl, hg4, hat4⟩ := own_at ho4 (by omega)
    have cad := implAdded (some ⟨go, 0, none⟩) (some ⟨g4, 0, none⟩) co c4 (outL xs k) (scaleL (sIn xs.length k) (gm xs k 0)) w4 (At.rd (At.ext hato he4)) (At.rd hat4) (by rw [outL_length, l4]; exact Nat.le_refl _) (by rw [outL_length]; omega) (nums_outL xs k) (nums_scaleL _ _)
    rw [outL_length, l4] at cad
    rw [l4]
    refine EL.h (Hv.call cad rfl) rfl (fun _ => rfl) ?_
    rintro v5 w5 ⟨ho5, he5⟩
    have l5 : (addL (outL xs k) (scaleL (sIn xs.length k) (gm xs k 0))).length = xs.length := by rw [addL_length, outL_length]
    obtain ⟨g5, c5, rfl, hg5, hat5⟩ := own_at ho5 (by omega)
    rw [l5]
    have hs4 := he4.size
    have hs5 := he5.size
    have he45 := he4.trans he5
    repeat' (first
      | refine EW.seq ?_
      | refine EL.f (FV.move rfl) rfl rfl ?_
      | refine EL.f (FV.assign rfl) rfl rfl ?_
      | refine EL.nil ?_
      | refine EW.region ?_
      | refine EW.block ?_
      | refine EW.skip ?_
      | refine EW.exit ?_
      | refine EW.ret ?_
      | refine EW.condT rfl ?_
      | refine EW.condF rfl ?_
      | refine EL.f (FV.addI rfl rfl (by omega)) rfl rfl ?_
      | refine EL.f (FV.subI rfl rfl (by omega)) rfl rfl ?_
      | refine EL.f (FV.remI rfl rfl (by decide) (by omega)) rfl rfl ?_
      | refine EL.f (FV.quoI rfl rfl (by decide) (by omega)) rfl rfl ?_
      | refine EL.f (FV.extract rfl rfl) rfl rfl ?_
      | refine EL.f (FV.len rfl rfl) rfl rfl ?_
      | refine EL.f (FV.lenS rfl rfl) rfl rfl ?_
      | refine EL.f (FV.not rfl) rfl rfl ?_
      | refine EL.skip rfl rfl ?_
      | refine EL.f (FV.pickT rfl rfl) rfl rfl ?_
      | refine EL.f (FV.pickF rfl rfl) rfl rfl ?_
      | refine EL.fT (FV.lss rfl rfl) rfl (fun _ => rfl) (by omega) ?_
      | refine EL.fT (FV.leq rfl rfl) rfl (fun _ => rfl) (by omega) ?_
      | refine EL.fT (FV.gtr rfl rfl) rfl (fun _ => rfl) (by omega) ?_
      | refine EL.fT (FV.geq rfl rfl) rfl (fun _ => rfl) (by omega) ?_
      | refine EL.fT (FV.eql rfl rfl) rfl (fun _ => rfl) (by omega) ?_
      | refine EL.fT (FV.neq rfl rfl) rfl (fun _ => rfl) (by omega) ?_
      | refine EL.fF (FV.lss rfl rfl) rfl (fun _ => rfl) (by omega) ?_
      | refine EL.fF (FV.leq rfl rfl) rfl (fun _ => rfl) (by omega) ?_
      | refine EL.fF (FV.gtr rfl rfl) rfl (fun _ => rfl) (by omega) ?_
      | refine EL.fF (FV.geq rfl rfl) rfl (fun _ => rfl) (by omega) ?_
      | refine EL.fF (FV.eql rfl rfl) rfl (fun _ => rfl) (by omega) ?_
      | refine EL.fF (FV.neq rfl rfl) rfl (fun _ => rfl) (by omega) ?_
      | refine EL.f (FV.rem rfl rfl (by decide)) rfl rfl ?_
      | refine EL.f (FV.idx0 rfl rfl rfl rfl (by omega) (by omega)) rfl rfl ?_
      | refine EL.f (FV.idx1 rfl rfl rfl rfl (by omega) (by omega)) rfl rfl ?_
      | refine EL.f (FV.load1 rfl rfl rfl (by assumption)) rfl rfl ?_)
    refine EW.loop (fun (s : Nat × List Int) wi => k + 1 + s.1 ≤ xs.length ∧ s.2.length = xs.length ∧ AtI wi g3 c3 s.2 ∧ (∀ j, j < s.1 → s.2.getD j 0 = gm xs (k + 1) j) ∧ (∀ j, s.1 ≤ j → k + j < xs.length → s.2.getD j 0 = gm xs k j) ∧ AtI wi g5 c5 (outL xs (k + 1)) ∧ AtI wi gb cb (sIn xs.length k) ∧ Below w.heap.size w wi)
      (fun s => [(0, .slice (some ⟨b, o, none⟩) xs.length c), (4, .int .i64 xs.length), (5, .slice (some ⟨g5, 0, none⟩) xs.length c5), (6, .slice (some ⟨gb, 0, none⟩) xs.length cb), (7, .slice (some ⟨g3, 0, none⟩) (xs.length - k) c3), (8, .int .i64 k), (25, .int .i64 xs.length), (26, .int .i64 k), (38, .int .i64 (((xs.length - k : Nat) : Int) - 1)), (39, .int .i64 s.1)])
      (fun s => xs.length - s.1) (0, G) ⟨by simp only; omega, hG, At.ext hatG he45, fun j h => absurd h (Nat.not_lt_zero _), fun j _ h => hgm j h, hat5, At.ext hatb he45, Below.then_ hb (Nat.le_refl _) he45⟩ ⟨rfl, rfl, rfl, rfl, rfl, rfl, rfl, rfl, rfl, rfl, trivial⟩ ?_
    rintro ⟨i, H⟩ wi ⟨hi, hH, hatH, hdone, hrest, hato', hatb', hbi⟩
    dsimp only at *
    by_cases hik : k + 1 + i < xs.length
    · have ha := AtI.int hatH (show i < H.length by omega)
      rw [hrest i (Nat.le_refl _) (by omega)] at ha
      have ha2 : wi.cell? ⟨g3, ((i : Int) + 1).toNat, none⟩ = some (.int .i64 (gm xs k (i + 1))) := by
        rw [← hrest (i + 1) (by omega) (by omega)]; exact AtI.int hatH (by omega)
      have hkk : i < H.length := by omega
      repeat' (first
        | refine EW.seq ?_
        | refine EL.f (FV.move rfl) rfl rfl ?_
        | refine EL.f (FV.assign rfl) rfl rfl ?_
        | refine EL.nil ?_
        | refine EW.region ?_
        | refine EW.block ?_
        | refine EW.skip ?_
        | refine EW.exit ?_
        | refine EW.ret ?_
        | refine EW.condT rfl ?_
        | refine EW.condF rfl ?_
        | refine EL.f (FV.addI rfl rfl (by omega)) rfl rfl ?_
        | refine EL.f (FV.subI rfl rfl (by omega)) rfl rfl ?_
        | refine EL.f (FV.remI rfl rfl (by decide) (by omega)) rfl rfl ?_
        | refine EL.f (FV.quoI rfl rfl (by decide) (by omega)) rfl rfl ?_
        | refine EL.f (FV.extract rfl rfl) rfl rfl ?_
        | refine EL.f (FV.len rfl rfl) rfl rfl ?_
        | refine EL.f (FV.lenS rfl rfl) rfl rfl ?_
        | refine EL.f (FV.not rfl) rfl rfl ?_
        | refine EL.skip rfl rfl ?_
        | refine EL.f (FV.pickT rfl rfl) rfl rfl ?_
        | refine EL.f (FV.pickF rfl rfl) rfl rfl ?_
        | refine EL.fT (FV.lss rfl rfl) rfl (fun _ => rfl) (by omega) ?_
        | refine EL.fT (FV.leq rfl rfl) rfl (fun _ => rfl) (by omega) ?_
        | refine EL.fT (FV.gtr rfl rfl) rfl (fun _ => rfl) (by omega) ?_
        | refine EL.fT (FV.geq rfl rfl) rfl (fun _ => rfl) (by omega) ?_
        | refine EL.fT (FV.eql rfl rfl) rfl (fun _ => rfl) (by omega) ?_
        | refine EL.fT (FV.neq rfl rfl) rfl (fun _ => rfl) (by omega) ?_
        | refine EL.fF (FV.lss rfl rfl) rfl (fun _ => rfl) (by omega) ?_
        | refine EL.fF (FV.leq rfl rfl) rfl (fun _ => rfl) (by omega) ?_
        | refine EL.fF (FV.gtr rfl rfl) rfl (fun _ => rfl) (by omega) ?_
        | refine EL.fF (FV.geq rfl rfl) rfl (fun _ => rfl) (by omega) ?_
        | refine EL.fF (FV.eql rfl rfl) rfl (fun _ => rfl) (by omega) ?_
        | refine EL.fF (FV.neq rfl rfl) rfl (fun _ => rfl) (by omega) ?_
        | refine EL.f (FV.rem rfl rfl (by decide)) rfl rfl ?_
        | refine EL.f (FV.idx0 rfl rfl rfl rfl (by omega) (by omega)) rfl rfl ?_
        | refine EL.f (FV.idx1 rfl rfl rfl rfl (by omega) (by omega)) rfl rfl ?_
        | refine EL.f (FV.load1 rfl rfl rfl (by assumption)) rfl rfl ?_)
      refine EW.draw (fun w' => w' = wi.drew) (pl 0 11 ++ [(11, false), (12, true), (13, false)]) mixed (by decide +kernel) rfl ?_
      repeat' (first
        | refine EP.f rfl (FV.load rfl rfl rfl (fun _ h' => atDrew h' ha2)) rfl rfl ?_
        | refine EP.f rfl (FV.load rfl rfl rfl (fun _ h' => atDrew h' ha)) rfl rfl ?_
        | (refine EP.h rfl rfl (Hv.call (implMinus _ _ _) rfl) rfl (fun _ => rfl) ?_; rintro _ _ ⟨rfl, rfl⟩; refine ⟨rfl, ?_⟩)
        | refine EP.nil ?_
        | refine EP.f rfl (FV.move rfl) rfl rfl ?_
        | refine EP.f rfl (FV.assign rfl) rfl rfl ?_
        | refine EP.f rfl (FV.addI rfl rfl (by omega)) rfl rfl ?_
        | refine EP.f rfl (FV.subI rfl rfl (by omega)) rfl rfl ?_
        | refine EP.f rfl (FV.remI rfl rfl (by decide) (by omega)) rfl rfl ?_
        | refine EP.f rfl (FV.extract rfl rfl) rfl rfl ?_
        | refine EP.f rfl (FV.len rfl rfl) rfl rfl ?_
        | refine EP.f rfl (FV.idx0 rfl rfl rfl rfl (by omega) (by omega)) rfl rfl ?_
        | refine EP.f rfl (FV.idx1 rfl rfl rfl rfl (by omega) (by omega)) rfl rfl ?_
        | refine EP.f rfl (FV.not rfl) rfl rfl ?_)
      refine EP.last rfl rfl (by decide +kernel) (Hv.storeAt rfl rfl rfl rfl rfl (At.ext hatH (Ext.drew _)) (ints_get hkk)) rfl (fun _ => rfl) ?_
      rintro _ _ ⟨rfl, _⟩
      repeat' (first
        | refine EW.seq ?_
        | refine EL.f (FV.move rfl) rfl rfl ?_
        | refine EL.f (FV.assign rfl) rfl rfl ?_
        | refine EL.nil ?_
        | refine EW.region ?_
        | refine EW.block ?_
        | refine EW.skip ?_
        | refine EW.exit ?_
        | refine EW.ret ?_
        | refine EW.condT rfl ?_
        | refine EW.condF rfl ?_
        | refine EL.f (FV.addI rfl rfl (by omega)) rfl rfl ?_
        | refine EL.f (FV.subI rfl rfl (by omega)) rfl rfl ?_
        | refine EL.f (FV.remI rfl rfl (by decide) (by omega)) rfl rfl ?_
        | refine EL.f (FV.quoI rfl rfl (by decide) (by omega)) rfl rfl ?_
        | refine EL.f (FV.extract rfl rfl) rfl rfl ?_
        | refine EL.f (FV.len rfl rfl) rfl rfl ?_
        | refine EL.f (FV.lenS rfl rfl) rfl rfl ?_
        | refine EL.f (FV.not rfl) rfl rfl ?_
        | refine EL.skip rfl rfl ?_
        | refine EL.f (FV.pickT rfl rfl) rfl rfl ?_
        | refine EL.f (FV.pickF rfl rfl) rfl rfl ?_
        | refine EL.fT (FV.lss rfl rfl) rfl (fun _ => rfl) (by omega) ?_
        | refine EL.fT (FV.leq rfl rfl) rfl (fun _ => rfl) (by omega) ?_
        | refine EL.fT (FV.gtr rfl rfl) rfl (fun _ => rfl) (by omega) ?_
        | refine EL.fT (FV.geq rfl rfl) rfl (fun _ => rfl) (by omega) ?_
        | refine EL.fT (FV.eql rfl rfl) rfl (fun _ => rfl) (by omega) ?_
        | refine EL.fT (FV.neq rfl rfl) rfl (fun _ => rfl) (by omega) ?_
        | refine EL.fF (FV.lss rfl rfl) rfl (fun _ => rfl) (by omega) ?_
        | refine EL.fF (FV.leq rfl rfl) rfl (fun _ => rfl) (by omega) ?_
        | refine EL.fF (FV.gtr rfl rfl) rfl (fun _ => rfl) (by omega) ?_
        | refine EL.fF (FV.geq rfl rfl) rfl (fun _ => rfl) (by omega) ?_
        | refine EL.fF (FV.eql rfl rfl) rfl (fun _ => rfl) (by omega) ?_
        | refine EL.fF (FV.neq rfl rfl) rfl (fun _ => rfl) (by omega) ?_
        | refine EL.f (FV.rem rfl rfl (by decide)) rfl rfl ?_
        | refine EL.f (FV.idx0 rfl rfl rfl rfl (by omega) (by omega)) rfl rfl ?_
        | refine EL.f (FV.idx1 rfl rfl rfl rfl (by omega) (by omega)) rfl rfl ?_
        | refine EL.f (FV.load1 rfl rfl rfl (by assumption)) rfl rfl ?_)
      refine ⟨(i + 1, H.set i (gm xs (k + 1) i)), ⟨rfl, rfl, rfl, rfl, rfl, rfl, rfl, rfl, rfl, rfl, trivial⟩, ⟨by simp only; omega, by simp only; rw [List.length_set]; exact hH, AtI.set_ (At.ext hatH (Ext.drew _)) _, fun j hj => ?_, fun j hj hj2 => ?_, At.far (At.ext hato' (Ext.drew _)) (by simp only; omega) _, At.far (At.ext hatb' (Ext.drew _)) (by simp only; omega) _, Below.set_ hbi.drew (by omega) _⟩, by simp only; omega⟩
      · dsimp only at hj ⊢
        by_cases e : i = j
        · subst e; exact getD_set_eq (by omega)
        · rw [getD_set_ne e]; exact hdone j (by omega)
      · dsimp only at hj ⊢
        rw [getD_set_ne (by omega)]
        exact hrest j (by omega) hj2
    · have hcap := At.cap hatH
      repeat' (first
        | refine EL.f (FV.sliceTo rfl rfl rfl rfl (by omega) (by omega)) rfl rfl ?_
        | refine EW.seq ?_
        | refine EL.f (FV.move rfl) rfl rfl ?_
        | refine EL.f (FV.assign rfl) rfl rfl ?_
        | refine EL.nil ?_
        | refine EW.region ?_
        | refine EW.block ?_
        | refine EW.skip ?_
        | refine EW.exit ?_
        | refine EW.ret ?_
        | refine EW.condT rfl ?_
        | refine EW.condF rfl ?_
        | refine EL.f (FV.addI rfl rfl (by omega)) rfl rfl ?_
        | refine EL.f (FV.subI rfl rfl (by omega)) rfl rfl ?_
        | refine EL.f (FV.remI rfl rfl (by decide) (by omega)) rfl rfl ?_
        | refine EL.f (FV.quoI rfl rfl (by decide) (by omega)) rfl rfl ?_
        | refine EL.f (FV.extract rfl rfl) rfl rfl ?_
        | refine EL.f (FV.len rfl rfl) rfl rfl ?_
        | refine EL.f (FV.lenS rfl rfl) rfl rfl ?_
        | refine EL.f (FV.not rfl) rfl rfl ?_
        | refine EL.skip rfl rfl ?_
        | refine EL.f (FV.pickT rfl rfl) rfl rfl ?_
        | refine EL.f (FV.pickF rfl rfl) rfl rfl ?_
        | refine EL.fT (FV.lss rfl rfl) rfl (fun _ => rfl) (by omega) ?_
        | refine EL.fT (FV.leq rfl rfl) rfl (fun _ => rfl) (by omega) ?_
        | refine EL.fT (FV.gtr rfl rfl) rfl (fun _ => rfl) (by omega) ?_
        | refine EL.fT (FV.geq rfl rfl) rfl (fun _ => rfl) (by omega) ?_
        | refine EL.fT (FV.eql rfl rfl) rfl (fun _ => rfl) (by omega) ?_
        | refine EL.fT (FV.neq rfl rfl) rfl (fun _ => rfl) (by omega) ?_
        | refine EL.fF (FV.lss rfl rfl) rfl (fun _ => rfl) (by omega) ?_
        | refine EL.fF (FV.leq rfl rfl) rfl (fun _ => rfl) (by omega) ?_
        | refine EL.fF (FV.gtr rfl rfl) rfl (fun _ => rfl) (by omega) ?_
        | refine EL.fF (FV.geq rfl rfl) rfl (fun _ => rfl) (by omega) ?_
        | refine EL.fF (FV.eql rfl rfl) rfl (fun _ => rfl) (by omega) ?_
        | refine EL.fF (FV.neq rfl rfl) rfl (fun _ => rfl) (by omega) ?_
        | refine EL.f (FV.rem rfl rfl (by decide)) rfl rfl ?_
        | refine EL.f (FV.idx0 rfl rfl rfl rfl (by omega) (by omega)) rfl rfl ?_
        | refine EL.f (FV.idx1 rfl rfl rfl rfl (by omega) (by omega)) rfl rfl ?_
        | refine EL.f (FV.load1 rfl rfl rfl (by assumption)) rfl rfl ?_)
      refine EL.h (Hv.make (kl := .i64) rfl rfl rfl rfl (by omega) (by omega)) rfl (fun _ => rfl) ?_
      rintro _ w6 ⟨g6, rfl, hg6, hat6, he6⟩
      rw [madeInts] at hat6
      replace hat6 : AtI w6 g6 xs.length (List.replicate xs.length 0) := by unfold AtI; rw [List.length_replicate]; exact hat6
      have hlG := At.lt hatH
      have hlO := At.lt hato'
      have hlB := At.lt hatb'
      have hsi := hbi.size
      have hL : (nextI xs.length k (sIn xs.length k)).length = xs.length := mapR_length _ _
      repeat' (first
        | refine EW.seq ?_
        | refine EL.f (FV.move rfl) rfl rfl ?_
        | refine EL.f (FV.assign rfl) rfl rfl ?_
        | refine EL.nil ?_
        | refine EW.region ?_
        | refine EW.block ?_
        | refine EW.skip ?_
        | refine EW.exit ?_
        | refine EW.ret ?_
        | refine EW.condT rfl ?_
        | refine EW.condF rfl ?_
        | refine EL.f (FV.addI rfl rfl (by omega)) rfl rfl ?_
        | refine EL.f (FV.subI rfl rfl (by omega)) rfl rfl ?_
        | refine EL.f (FV.remI rfl rfl (by decide) (by omega)) rfl rfl ?_
        | refine EL.f (FV.quoI rfl rfl (by decide) (by omega)) rfl rfl ?_
        | refine EL.f (FV.extract rfl rfl) rfl rfl ?_
        | refine EL.f (FV.len rfl rfl) rfl rfl ?_
        | refine EL.f (FV.lenS rfl rfl) rfl rfl ?_
        | refine EL.f (FV.not rfl) rfl rfl ?_
        | refine EL.skip rfl rfl ?_
        | refine EL.f (FV.pickT rfl rfl) rfl rfl ?_
        | refine EL.f (FV.pickF rfl rfl) rfl rfl ?_
        | refine EL.fT (FV.lss rfl rfl) rfl (fun _ => rfl) (by omega) ?_
        | refine EL.fT (FV.leq rfl rfl) rfl (fun _ => rfl) (by omega) ?_
        | refine EL.fT (FV.gtr rfl rfl) rfl (fun _ => rfl) (by omega) ?_
        | refine EL.fT (FV.geq rfl rfl) rfl (fun _ => rfl) (by omega) ?_
        | refine EL.fT (FV.eql rfl rfl) rfl (fun _ => rfl) (by omega) ?_
        | refine EL.fT (FV.neq rfl rfl) rfl (fun _ => rfl) (by omega) ?_
        | refine EL.fF (FV.lss rfl rfl) rfl (fun _ => rfl) (by omega) ?_
        | refine EL.fF (FV.leq rfl rfl) rfl (fun _ => rfl) (by omega) ?_
        | refine EL.fF (FV.gtr rfl rfl) rfl (fun _ => rfl) (by omega) ?_
        | refine EL.fF (FV.geq rfl rfl) rfl (fun _ => rfl) (by omega) ?_
        | refine EL.fF (FV.eql rfl rfl) rfl (fun _ => rfl) (by omega) ?_
        | refine EL.fF (FV.neq rfl rfl) rfl (fun _ => rfl) (by omega) ?_
        | refine EL.f (FV.rem rfl rfl (by decide)) rfl rfl ?_
        | refine EL.f (FV.idx0 rfl rfl rfl rfl (by omega) (by omega)) rfl rfl ?_
        | refine EL.f (FV.idx1 rfl rfl rfl rfl (by omega) (by omega)) rfl rfl ?_
        | refine EL.f (FV.load1 rfl rfl rfl (by assumption)) rfl rfl ?_)
      refine EW.loop (fun i wj => i ≤ xs.length ∧ AtI wj g6 xs.length (filled (nextI xs.length k (sIn xs.length k)) i xs.length) ∧ AtI wj g3 c3 H ∧ AtI wj g5 c5 (outL xs (k + 1)) ∧ AtI wj gb cb (sIn xs.length k) ∧ Below w.heap.size w wj)
        (fun i => [(0, .slice (some ⟨b, o, none⟩) xs.length c), (4, .int .i64 xs.length), (5, .slice (some ⟨g5, 0, none⟩) xs.length c5), (6, .slice (some ⟨gb, 0, none⟩) xs.length cb), (7, .slice (some ⟨g3, 0, none⟩) (((xs.length - k : Nat) : Int) - 1).toNat c3), (8, .int .i64 k), (10, .slice (some ⟨g6, 0, none⟩) xs.length xs.length), (25, .int .i64 xs.length), (26, .int .i64 k), (63, .int .i64 xs.length), (64, .int .i64 i)])
        (fun i => xs.length - i) 0 ⟨Nat.zero_le _, by rw [filled_zero]; exact hat6, At.ext hatH he6, At.ext hato' he6, At.ext hatb' he6, Below.then_ hbi (Nat.le_refl _) he6⟩ ⟨rfl, rfl, rfl, rfl, rfl, rfl, rfl, rfl, rfl, rfl, rfl, trivial⟩ ?_
      rintro i' wj ⟨hi', hatN, hatH', hatO, hatB, hbj⟩
      have hlen := filled_length (nextI xs.length k (sIn xs.length k)) i' xs.length (by omega) hi'
      by_cases hin : i' < xs.length
      · have hbc := AtI.int hatB (show i' < (sIn xs.length k).length by rw [sIn_length]; omega)
        have hbd := num_getD (nums_sIn hn14 (n := xs.length) (i := k) (by omega)) i'
        have hm := mul_bounds hbd (show 0 ≤ (k : Int) ∧ (k : Int) < 1000003 by omega)
        have hkk : i' < (filled (nextI xs.length k (sIn xs.length k)) i' xs.length).length := by omega
        have hset := filled_set (nextI xs.length k (sIn xs.length k)) i' xs.length (by omega) hin
        have hLi : (nextI xs.length k (sIn xs.length k)).getD i' 0 = ((if 0 < i' then (sIn xs.length k).getD (i' - 1) 0 else 0) - (sIn xs.length k).getD i' 0 * (k : Int)) % 1000003 := mapR_getD _ _ _ hin
        by_cases h0 : 0 < i'
        · have hbp : wj.cell? ⟨gb, ((i' : Int) - 1).toNat, none⟩ = some (.int .i64 ((sIn xs.length k).getD (i' - 1) 0)) := by
            rw [show ((i' : Int) - 1).toNat = i' - 1 from by omega]; exact AtI.int hatB (by rw [sIn_length]; omega)
          repeat' (first
            | refine EL.f (FV.load1 rfl rfl rfl hbp) rfl rfl ?_
            | (refine EL.h (Hv.storeAt rfl rfl rfl rfl rfl hatN (ints_get hkk)) rfl (fun _ => rfl) ?_; rintro _ _ ⟨rfl, _⟩)
            | refine EW.seq ?_
            | refine EL.f (FV.move rfl) rfl rfl ?_
            | refine EL.f (FV.assign rfl) rfl rfl ?_
            | refine EL.nil ?_
            | refine EW.region ?_
            | refine EW.block ?_
            | refine EW.skip ?_
            | refine EW.exit ?_
            | refine EW.ret ?_
            | refine EW.condT rfl ?_
            | refine EW.condF rfl ?_
            | refine EL.f (FV.addI rfl rfl (by omega)) rfl rfl ?_
            | refine EL.f (FV.subI rfl rfl (by omega)) rfl rfl ?_
            | refine EL.f (FV.remI rfl rfl (by decide) (by omega)) rfl rfl ?_
            | refine EL.f (FV.quoI rfl rfl (by decide) (by omega)) rfl rfl ?_
            | refine EL.f (FV.extract rfl rfl) rfl rfl ?_
            | refine EL.f (FV.len rfl rfl) rfl rfl ?_
            | refine EL.f (FV.lenS rfl rfl) rfl rfl ?_
            | refine EL.f (FV.not rfl) rfl rfl ?_
            | refine EL.skip rfl rfl ?_
            | refine EL.f (FV.pickT rfl rfl) rfl rfl ?_
            | refine EL.f (FV.pickF rfl rfl) rfl rfl ?_
            | refine EL.fT (FV.lss rfl rfl) rfl (fun _ => rfl) (by omega) ?_
            | refine EL.fT (FV.leq rfl rfl) rfl (fun _ => rfl) (by omega) ?_
            | refine EL.fT (FV.gtr rfl rfl) rfl (fun _ => rfl) (by omega) ?_
            | refine EL.fT (FV.geq rfl rfl) rfl (fun _ => rfl) (by omega) ?_
            | refine EL.fT (FV.eql rfl rfl) rfl (fun _ => rfl) (by omega) ?_
            | refine EL.fT (FV.neq rfl rfl) rfl (fun _ => rfl) (by omega) ?_
            | refine EL.fF (FV.lss rfl rfl) rfl (fun _ => rfl) (by omega) ?_
            | refine EL.fF (FV.leq rfl rfl) rfl (fun _ => rfl) (by omega) ?_
            | refine EL.fF (FV.gtr rfl rfl) rfl (fun _ => rfl) (by omega) ?_
            | refine EL.fF (FV.geq rfl rfl) rfl (fun _ => rfl) (by omega) ?_
            | refine EL.fF (FV.eql rfl rfl) rfl (fun _ => rfl) (by omega) ?_
            | refine EL.fF (FV.neq rfl rfl) rfl (fun _ => rfl) (by omega) ?_
            | refine EL.f (FV.rem rfl rfl (by decide)) rfl rfl ?_
            | refine EL.f (FV.idx0 rfl rfl rfl rfl (by omega) (by omega)) rfl rfl ?_
            | refine EL.f (FV.idx1 rfl rfl rfl rfl (by omega) (by omega)) rfl rfl ?_
            | refine EL.f (FV.load1 rfl rfl rfl (by assumption)) rfl rfl ?_)
          have hat7 := AtI.set_ (k := i') hatN ((sIn xs.length k).getD (i' - 1) 0)
          have hkk7 : i' < ((filled (nextI xs.length k (sIn xs.length k)) i' xs.length).set i' ((sIn xs.length k).getD (i' - 1) 0)).length := by rw [List.length_set]; omega
          have hc7 := AtI.int hat7 hkk7
          rw [show ((filled (nextI xs.length k (sIn xs.length k)) i' xs.length).set i' ((sIn xs.length k).getD (i' - 1) 0)).getD i' 0 = (sIn xs.length k).getD (i' - 1) 0 from by rw [List.getD_eq_getElem?_getD, List.getElem?_set_self (by omega)]; rfl] at hc7
          have hatB7 := At.far (p := ⟨g6, i', none⟩) hatB (by simp only; omega) (.int .i64 ((sIn xs.length k).getD (i' - 1) 0))
          have hbc7 := AtI.int hatB7 (show i' < (sIn xs.length k).length by rw [sIn_length]; omega)
          refine EW.draw (fun w' => w' = (wj.setCell ⟨g6, i', none⟩ (.int .i64 ((sIn xs.length k).getD (i' - 1) 0))).drew) (pl 0 12 ++ [(12, false), (13, true), (14, false)]) mixed (by decide +kernel) rfl ?_
          repeat' (first
            | refine EP.f rfl (FV.load rfl rfl rfl (fun _ h' => atDrew h' hc7)) rfl rfl ?_
            | refine EP.f rfl (FV.load rfl rfl rfl (fun _ h' => atDrew h' hbc7)) rfl rfl ?_
            | refine EP.f rfl (FV.mulI rfl rfl (by omega)) rfl rfl ?_
            | (refine EP.h rfl rfl (Hv.call (implMinus _ _ _) rfl) rfl (fun _ => rfl) ?_; rintro _ _ ⟨rfl, rfl⟩; refine ⟨rfl, ?_⟩)
            | refine EP.nil ?_
            | refine EP.f rfl (FV.move rfl) rfl rfl ?_
            | refine EP.f rfl (FV.assign rfl) rfl rfl ?_
            | refine EP.f rfl (FV.addI rfl rfl (by omega)) rfl rfl ?_
            | refine EP.f rfl (FV.subI rfl rfl (by omega)) rfl rfl ?_
            | refine EP.f rfl (FV.remI rfl rfl (by decide) (by omega)) rfl rfl ?_
            | refine EP.f rfl (FV.extract rfl rfl) rfl rfl ?_
            | refine EP.f rfl (FV.len rfl rfl) rfl rfl ?_
            | refine EP.f rfl (FV.idx0 rfl rfl rfl rfl (by omega) (by omega)) rfl rfl ?_
            | refine EP.f rfl (FV.idx1 rfl rfl rfl rfl (by omega) (by omega)) rfl rfl ?_
            | refine EP.f rfl (FV.not rfl) rfl rfl ?_)
          refine EP.last rfl rfl (by decide +kernel) (Hv.storeAt rfl rfl rfl rfl rfl (At.ext hat7 (Ext.drew _)) (ints_get hkk7)) rfl (fun _ => rfl) ?_
          rintro _ _ ⟨rfl, _⟩
          repeat' (first
            | refine EW.seq ?_
            | refine EL.f (FV.move rfl) rfl rfl ?_
            | refine EL.f (FV.assign rfl) rfl rfl ?_
            | refine EL.nil ?_
            | refine EW.region ?_
            | refine EW.block ?_
            | refine EW.skip ?_
            | refine EW.exit ?_
            | refine EW.ret ?_
            | refine EW.condT rfl ?_
            | refine EW.condF rfl ?_
            | refine EL.f (FV.addI rfl rfl (by omega)) rfl rfl ?_
            | refine EL.f (FV.subI rfl rfl (by omega)) rfl rfl ?_
            | refine EL.f (FV.remI rfl rfl (by decide) (by omega)) rfl rfl ?_
            | refine EL.f (FV.quoI rfl rfl (by decide) (by omega)) rfl rfl ?_
            | refine EL.f (FV.extract rfl rfl) rfl rfl ?_
            | refine EL.f (FV.len rfl rfl) rfl rfl ?_
            | refine EL.f (FV.lenS rfl rfl) rfl rfl ?_
            | refine EL.f (FV.not rfl) rfl rfl ?_
            | refine EL.skip rfl rfl ?_
            | refine EL.f (FV.pickT rfl rfl) rfl rfl ?_
            | refine EL.f (FV.pickF rfl rfl) rfl rfl ?_
            | refine EL.fT (FV.lss rfl rfl) rfl (fun _ => rfl) (by omega) ?_
            | refine EL.fT (FV.leq rfl rfl) rfl (fun _ => rfl) (by omega) ?_
            | refine EL.fT (FV.gtr rfl rfl) rfl (fun _ => rfl) (by omega) ?_
            | refine EL.fT (FV.geq rfl rfl) rfl (fun _ => rfl) (by omega) ?_
            | refine EL.fT (FV.eql rfl rfl) rfl (fun _ => rfl) (by omega) ?_
            | refine EL.fT (FV.neq rfl rfl) rfl (fun _ => rfl) (by omega) ?_
            | refine EL.fF (FV.lss rfl rfl) rfl (fun _ => rfl) (by omega) ?_
            | refine EL.fF (FV.leq rfl rfl) rfl (fun _ => rfl) (by omega) ?_
            | refine EL.fF (FV.gtr rfl rfl) rfl (fun _ => rfl) (by omega) ?_
            | refine EL.fF (FV.geq rfl rfl) rfl (fun _ => rfl) (by omega) ?_
            | refine EL.fF (FV.eql rfl rfl) rfl (fun _ => rfl) (by omega) ?_
            | refine EL.fF (FV.neq rfl rfl) rfl (fun _ => rfl) (by omega) ?_
            | refine EL.f (FV.rem rfl rfl (by decide)) rfl rfl ?_
            | refine EL.f (FV.idx0 rfl rfl rfl rfl (by omega) (by omega)) rfl rfl ?_
            | refine EL.f (FV.idx1 rfl rfl rfl rfl (by omega) (by omega)) rfl rfl ?_
            | refine EL.f (FV.load1 rfl rfl rfl (by assumption)) rfl rfl ?_)
          refine ⟨i' + 1, ⟨rfl, rfl, rfl, rfl, rfl, rfl, rfl, rfl, rfl, rfl, rfl, trivial⟩, ⟨by omega, ?_, At.far (At.ext (At.far (p := ⟨g6, i', none⟩) hatH' (by simp only; omega) _) (Ext.drew _)) (by simp only; omega) _, At.far (At.ext (At.far (p := ⟨g6, i', none⟩) hatO (by simp only; omega) _) (Ext.drew _)) (by simp only; omega) _, At.far (At.ext hatB7 (Ext.drew _)) (by simp only; omega) _, Below.set_ (Below.set_ hbj (by omega) _).drew (by omega) _⟩, by omega⟩
          rw [hLi, if_pos h0] at hset
          rw [← hset]
          have := AtI.set_ (k := i') (At.ext hat7 (Ext.drew _)) (((sIn xs.length k).getD (i' - 1) 0 - (sIn xs.length k).getD i' 0 * (k : Int)) % 1000003)
          rw [List.set_set] at this
          exact this
        · obtain rfl : i' = 0 := by omega
          have hc7 := AtI.int hatN hkk
          rw [show (filled (nextI xs.length k (sIn xs.length k)) 0 xs.length).getD 0 0 = 0 from by rw [filled_zero]; simp [hin]] at hc7
          repeat' (first
            | refine EW.seq ?_
            | refine EL.f (FV.move rfl) rfl rfl ?_
            | refine EL.f (FV.assign rfl) rfl rfl ?_
            | refine EL.nil ?_
            | refine EW.region ?_
            | refine EW.block ?_
            | refine EW.skip ?_
            | refine EW.exit ?_
            | refine EW.ret ?_
            | refine EW.condT rfl ?_
            | refine EW.condF rfl ?_
            | refine EL.f (FV.addI rfl rfl (by omega)) rfl rfl ?_
            | refine EL.f (FV.subI rfl rfl (by omega)) rfl rfl ?_
            | refine EL.f (FV.remI rfl rfl (by decide) (by omega)) rfl rfl ?_
            | refine EL.f (FV.quoI rfl rfl (by decide) (by omega)) rfl rfl ?_
            | refine EL.f (FV.extract rfl rfl) rfl rfl ?_
            | refine EL.f (FV.len rfl rfl) rfl rfl ?_
            | refine EL.f (FV.lenS rfl rfl) rfl rfl ?_
            | refine EL.f (FV.not rfl) rfl rfl ?_
            | refine EL.skip rfl rfl ?_
            | refine EL.f (FV.pickT rfl rfl) rfl rfl ?_
            | refine EL.f (FV.pickF rfl rfl) rfl rfl ?_
            | refine EL.fT (FV.lss rfl rfl) rfl (fun _ => rfl) (by omega) ?_
            | refine EL.fT (FV.leq rfl rfl) rfl (fun _ => rfl) (by omega) ?_
            | refine EL.fT (FV.gtr rfl rfl) rfl (fun _ => rfl) (by omega) ?_
            | refine EL.fT (FV.geq rfl rfl) rfl (fun _ => rfl) (by omega) ?_
            | refine EL.fT (FV.eql rfl rfl) rfl (fun _ => rfl) (by omega) ?_
            | refine EL.fT (FV.neq rfl rfl) rfl (fun _ => rfl) (by omega) ?_
            | refine EL.fF (FV.lss rfl rfl) rfl (fun _ => rfl) (by omega) ?_
            | refine EL.fF (FV.leq rfl rfl) rfl (fun _ => rfl) (by omega) ?_
            | refine EL.fF (FV.gtr rfl rfl) rfl (fun _ => rfl) (by omega) ?_
            | refine EL.fF (FV.geq rfl rfl) rfl (fun _ => rfl) (by omega) ?_
            | refine EL.fF (FV.eql rfl rfl) rfl (fun _ => rfl) (by omega) ?_
            | refine EL.fF (FV.neq rfl rfl) rfl (fun _ => rfl) (by omega) ?_
            | refine EL.f (FV.rem rfl rfl (by decide)) rfl rfl ?_
            | refine EL.f (FV.idx0 rfl rfl rfl rfl (by omega) (by omega)) rfl rfl ?_
            | refine EL.f (FV.idx1 rfl rfl rfl rfl (by omega) (by omega)) rfl rfl ?_
            | refine EL.f (FV.load1 rfl rfl rfl (by assumption)) rfl rfl ?_)
          refine EW.draw (fun w' => w' = wj.drew) (pl 0 12 ++ [(12, false), (13, true), (14, false)]) mixed (by decide +kernel) rfl ?_
          repeat' (first
            | refine EP.f rfl (FV.load rfl rfl rfl (fun _ h' => atDrew h' hc7)) rfl rfl ?_
            | refine EP.f rfl (FV.load rfl rfl rfl (fun _ h' => atDrew h' hbc)) rfl rfl ?_
            | refine EP.f rfl (FV.mulI rfl rfl (by omega)) rfl rfl ?_
            | (refine EP.h rfl rfl (Hv.call (implMinus _ _ _) rfl) rfl (fun _ => rfl) ?_; rintro _ _ ⟨rfl, rfl⟩; refine ⟨rfl, ?_⟩)
            | refine EP.nil ?_
            | refine EP.f rfl (FV.move rfl) rfl rfl ?_
            | refine EP.f rfl (FV.assign rfl) rfl rfl ?_
            | refine EP.f rfl (FV.addI rfl rfl (by omega)) rfl rfl ?_
            | refine EP.f rfl (FV.subI rfl rfl (by omega)) rfl rfl ?_
            | refine EP.f rfl (FV.remI rfl rfl (by decide) (by omega)) rfl rfl ?_
            | refine EP.f rfl (FV.extract rfl rfl) rfl rfl ?_
            | refine EP.f rfl (FV.len rfl rfl) rfl rfl ?_
            | refine EP.f rfl (FV.idx0 rfl rfl rfl rfl (by omega) (by omega)) rfl rfl ?_
            | refine EP.f rfl (FV.idx1 rfl rfl rfl rfl (by omega) (by omega)) rfl rfl ?_
            | refine EP.f rfl (FV.not rfl) rfl rfl ?_)
          refine EP.last rfl rfl (by decide +kernel) (Hv.storeAt rfl rfl rfl rfl rfl (At.ext hatN (Ext.drew _)) (ints_get hkk)) rfl (fun _ => rfl) ?_
          rintro _ _ ⟨rfl, _⟩
          repeat' (first
            | refine EW.seq ?_
            | refine EL.f (FV.move rfl) rfl rfl ?_
            | refine EL.f (FV.assign rfl) rfl rfl ?_
            | refine EL.nil ?_
            | refine EW.region ?_
            | refine EW.block ?_
            | refine EW.skip ?_
            | refine EW.exit ?_
            | refine EW.ret ?_
            | refine EW.condT rfl ?_
            | refine EW.condF rfl ?_
            | refine EL.f (FV.addI rfl rfl (by omega)) rfl rfl ?_
            | refine EL.f (FV.subI rfl rfl (by omega)) rfl rfl ?_
            | refine EL.f (FV.remI rfl rfl (by decide) (by omega)) rfl rfl ?_
            | refine EL.f (FV.quoI rfl rfl (by decide) (by omega)) rfl rfl ?_
            | refine EL.f (FV.extract rfl rfl) rfl rfl ?_
            | refine EL.f (FV.len rfl rfl) rfl rfl ?_
            | refine EL.f (FV.lenS rfl rfl) rfl rfl ?_
            | refine EL.f (FV.not rfl) rfl rfl ?_
            | refine EL.skip rfl rfl ?_
            | refine EL.f (FV.pickT rfl rfl) rfl rfl ?_
            | refine EL.f (FV.pickF rfl rfl) rfl rfl ?_
            | refine EL.fT (FV.lss rfl rfl) rfl (fun _ => rfl) (by omega) ?_
            | refine EL.fT (FV.leq rfl rfl) rfl (fun _ => rfl) (by omega) ?_
            | refine EL.fT (FV.gtr rfl rfl) rfl (fun _ => rfl) (by omega) ?_
            | refine EL.fT (FV.geq rfl rfl) rfl (fun _ => rfl) (by omega) ?_
            | refine EL.fT (FV.eql rfl rfl) rfl (fun _ => rfl) (by omega) ?_
            | refine EL.fT (FV.neq rfl rfl) rfl (fun _ => rfl) (by omega) ?_
            | refine EL.fF (FV.lss rfl rfl) rfl (fun _ => rfl) (by omega) ?_
            | refine EL.fF (FV.leq rfl rfl) rfl (fun _ => rfl) (by omega) ?_
            | refine EL.fF (FV.gtr rfl rfl) rfl (fun _ => rfl) (by omega) ?_
            | refine EL.fF (FV.geq rfl rfl) rfl (fun _ => rfl) (by omega) ?_
            | refine EL.fF (FV.eql rfl rfl) rfl (fun _ => rfl) (by omega) ?_
            | refine EL.fF (FV.neq rfl rfl) rfl (fun _ => rfl) (by omega) ?_
            | refine EL.f (FV.rem rfl rfl (by decide)) rfl rfl ?_
            | refine EL.f (FV.idx0 rfl rfl rfl rfl (by omega) (by omega)) rfl rfl ?_
            | refine EL.f (FV.idx1 rfl rfl rfl rfl (by omega) (by omega)) rfl rfl ?_
            | refine EL.f (FV.load1 rfl rfl rfl (by assumption)) rfl rfl ?_)
          refine ⟨0 + 1, ⟨rfl, rfl, rfl, rfl, rfl, rfl, rfl, rfl, rfl, rfl, rfl, trivial⟩, ⟨by omega, ?_, At.far (At.ext hatH' (Ext.drew _)) (by simp only; omega) _, At.far (At.ext hatO (Ext.drew _)) (by simp only; omega) _, At.far (At.ext hatB (Ext.drew _)) (by simp only; omega) _, Below.set_ hbj.drew (by omega) _⟩, by omega⟩
          rw [hLi, if_neg h0] at hset
          rw [← hset]
          exact AtI.set_ (k := 0) (At.ext hatN (Ext.drew _)) _
      · obtain rfl : i' = xs.length := by omega
        have e := filled_full (nextI xs.length k (sIn xs.length k))
        rw [hL] at e
        rw [e] at hatN
        have csl := fun w0 h0 => implScaled (some ⟨g6, 0, none⟩) xs.length (nextI xs.length k (sIn xs.length k)) (inv ((k : Int) + 1)) w0 h0 (by omega) (nums_mapR _ _ fun _ _ => by omega) (inv_bounds _)
        rw [hL] at csl
        repeat' (first
          | (refine EL.h (Hv.call (implInverse0 _ _) rfl) rfl (fun _ => rfl) ?_; rintro _ _ ⟨rfl, rfl⟩)
          | refine EW.seq ?_
          | refine EL.f (FV.move rfl) rfl rfl ?_
          | refine EL.f (FV.assign rfl) rfl rfl ?_
          | refine EL.nil ?_
          | refine EW.region ?_
          | refine EW.block ?_
          | refine EW.skip ?_
          | refine EW.exit ?_
          | refine EW.ret ?_
          | refine EW.condT rfl ?_
          | refine EW.condF rfl ?_
          | refine EL.f (FV.addI rfl rfl (by omega)) rfl rfl ?_
          | refine EL.f (FV.subI rfl rfl (by omega)) rfl rfl ?_
          | refine EL.f (FV.remI rfl rfl (by decide) (by omega)) rfl rfl ?_
          | refine EL.f (FV.quoI rfl rfl (by decide) (by omega)) rfl rfl ?_
          | refine EL.f (FV.extract rfl rfl) rfl rfl ?_
          | refine EL.f (FV.len rfl rfl) rfl rfl ?_
          | refine EL.f (FV.lenS rfl rfl) rfl rfl ?_
          | refine EL.f (FV.not rfl) rfl rfl ?_
          | refine EL.skip rfl rfl ?_
          | refine EL.f (FV.pickT rfl rfl) rfl rfl ?_
          | refine EL.f (FV.pickF rfl rfl) rfl rfl ?_
          | refine EL.fT (FV.lss rfl rfl) rfl (fun _ => rfl) (by omega) ?_
          | refine EL.fT (FV.leq rfl rfl) rfl (fun _ => rfl) (by omega) ?_
          | refine EL.fT (FV.gtr rfl rfl) rfl (fun _ => rfl) (by omega) ?_
          | refine EL.fT (FV.geq rfl rfl) rfl (fun _ => rfl) (by omega) ?_
          | refine EL.fT (FV.eql rfl rfl) rfl (fun _ => rfl) (by omega) ?_
          | refine EL.fT (FV.neq rfl rfl) rfl (fun _ => rfl) (by omega) ?_
          | refine EL.fF (FV.lss rfl rfl) rfl (fun _ => rfl) (by omega) ?_
          | refine EL.fF (FV.leq rfl rfl) rfl (fun _ => rfl) (by omega) ?_
          | refine EL.fF (FV.gtr rfl rfl) rfl (fun _ => rfl) (by omega) ?_
          | refine EL.fF (FV.geq rfl rfl) rfl (fun _ => rfl) (by omega) ?_
          | refine EL.fF (FV.eql rfl rfl) rfl (fun _ => rfl) (by omega) ?_
          | refine EL.fF (FV.neq rfl rfl) rfl (fun _ => rfl) (by omega) ?_
          | refine EL.f (FV.rem rfl rfl (by decide)) rfl rfl ?_
          | refine EL.f (FV.idx0 rfl rfl rfl rfl (by omega) (by omega)) rfl rfl ?_
          | refine EL.f (FV.idx1 rfl rfl rfl rfl (by omega) (by omega)) rfl rfl ?_
          | refine EL.f (FV.load1 rfl rfl rfl (by assumption)) rfl rfl ?_)
        refine EL.h (Hv.call (csl _ (At.rd hatN)) rfl) rfl (fun _ => rfl) ?_
        rintro v7 w7 ⟨ho7, he7⟩
        have l7 : (scaleL (nextI xs.length k (sIn xs.length k)) (inv ((k : Int) + 1))).length = xs.length := by rw [scaleL_length, hL]
        obtain ⟨g7, c7, rfl, hg7, hat7⟩ := own_at ho7 (by omega)
        have hlj := At.lt hatH'
        rw [l7, show (((xs.length - k : Nat) : Int) - 1).toNat = xs.length - (k + 1) from by omega]
        repeat' (first
          | refine EW.seq ?_
          | refine EL.f (FV.move rfl) rfl rfl ?_
          | refine EL.f (FV.assign rfl) rfl rfl ?_
          | refine EL.nil ?_
          | refine EW.region ?_
          | refine EW.block ?_
          | refine EW.skip ?_
          | refine EW.exit ?_
          | refine EW.ret ?_
          | refine EW.condT rfl ?_
          | refine EW.condF rfl ?_
          | refine EL.f (FV.addI rfl rfl (by omega)) rfl rfl ?_
          | refine EL.f (FV.subI rfl rfl (by omega)) rfl rfl ?_
          | refine EL.f (FV.remI rfl rfl (by decide) (by omega)) rfl rfl ?_
          | refine EL.f (FV.quoI rfl rfl (by decide) (by omega)) rfl rfl ?_
          | refine EL.f (FV.extract rfl rfl) rfl rfl ?_
          | refine EL.f (FV.len rfl rfl) rfl rfl ?_
          | refine EL.f (FV.lenS rfl rfl) rfl rfl ?_
          | refine EL.f (FV.not rfl) rfl rfl ?_
          | refine EL.skip rfl rfl ?_
          | refine EL.f (FV.pickT rfl rfl) rfl rfl ?_
          | refine EL.f (FV.pickF rfl rfl) rfl rfl ?_
          | refine EL.fT (FV.lss rfl rfl) rfl (fun _ => rfl) (by omega) ?_
          | refine EL.fT (FV.leq rfl rfl) rfl (fun _ => rfl) (by omega) ?_
          | refine EL.fT (FV.gtr rfl rfl) rfl (fun _ => rfl) (by omega) ?_
          | refine EL.fT (FV.geq rfl rfl) rfl (fun _ => rfl) (by omega) ?_
          | refine EL.fT (FV.eql rfl rfl) rfl (fun _ => rfl) (by omega) ?_
          | refine EL.fT (FV.neq rfl rfl) rfl (fun _ => rfl) (by omega) ?_
          | refine EL.fF (FV.lss rfl rfl) rfl (fun _ => rfl) (by omega) ?_
          | refine EL.fF (FV.leq rfl rfl) rfl (fun _ => rfl) (by omega) ?_
          | refine EL.fF (FV.gtr rfl rfl) rfl (fun _ => rfl) (by omega) ?_
          | refine EL.fF (FV.geq rfl rfl) rfl (fun _ => rfl) (by omega) ?_
          | refine EL.fF (FV.eql rfl rfl) rfl (fun _ => rfl) (by omega) ?_
          | refine EL.fF (FV.neq rfl rfl) rfl (fun _ => rfl) (by omega) ?_
          | refine EL.f (FV.rem rfl rfl (by decide)) rfl rfl ?_
          | refine EL.f (FV.idx0 rfl rfl rfl rfl (by omega) (by omega)) rfl rfl ?_
          | refine EL.f (FV.idx1 rfl rfl rfl rfl (by omega) (by omega)) rfl rfl ?_
          | refine EL.f (FV.load1 rfl rfl rfl (by assumption)) rfl rfl ?_)
        refine ⟨⟨k + 1, g5, c5, g7, c7, H⟩, ⟨rfl, rfl, rfl, rfl, rfl, rfl, rfl, trivial⟩, ⟨by simp only; omega, by simp only; omega, by simp only; omega, At.ext hatO he7, by simp only; omega, hat7, hH, At.ext hatH' he7, fun j hj => hdone j (by simp only at hj; omega), Below.then_ hbj (Nat.le_refl _) he7⟩, by simp only; omega⟩
  · obtain rfl : k = xs.length := by omega
    repeat' (first
      | refine EW.seq ?_
      | refine EL.f (FV.move rfl) rfl rfl ?_
      | refine EL.f (FV.assign rfl) rfl rfl ?_
      | refine EL.nil ?_
      | refine EW.region ?_
      | refine EW.block ?_
      | refine EW.skip ?_
      | refine EW.exit ?_
      | refine EW.ret ?_
      | refine EW.condT rfl ?_
      | refine EW.condF rfl ?_
      | refine EL.f (FV.addI rfl rfl (by omega)) rfl rfl ?_
      | refine EL.f (FV.subI rfl rfl (by omega)) rfl rfl ?_
      | refine EL.f (FV.remI rfl rfl (by decide) (by omega)) rfl rfl ?_
      | refine EL.f (FV.quoI rfl rfl (by decide) (by omega)) rfl rfl ?_
      | refine EL.f (FV.extract rfl rfl) rfl rfl ?_
      | refine EL.f (FV.len rfl rfl) rfl rfl ?_
      | refine EL.f (FV.lenS rfl rfl) rfl rfl ?_
      | refine EL.f (FV.not rfl) rfl rfl ?_
      | refine EL.skip rfl rfl ?_
      | refine EL.f (FV.pickT rfl rfl) rfl rfl ?_
      | refine EL.f (FV.pickF rfl rfl) rfl rfl ?_
      | refine EL.fT (FV.lss rfl rfl) rfl (fun _ => rfl) (by omega) ?_
      | refine EL.fT (FV.leq rfl rfl) rfl (fun _ => rfl) (by omega) ?_
      | refine EL.fT (FV.gtr rfl rfl) rfl (fun _ => rfl) (by omega) ?_
      | refine EL.fT (FV.geq rfl rfl) rfl (fun _ => rfl) (by omega) ?_
      | refine EL.fT (FV.eql rfl rfl) rfl (fun _ => rfl) (by omega) ?_
      | refine EL.fT (FV.neq rfl rfl) rfl (fun _ => rfl) (by omega) ?_
      | refine EL.fF (FV.lss rfl rfl) rfl (fun _ => rfl) (by omega) ?_
      | refine EL.fF (FV.leq rfl rfl) rfl (fun _ => rfl) (by omega) ?_
      | refine EL.fF (FV.gtr rfl rfl) rfl (fun _ => rfl) (by omega) ?_
      | refine EL.fF (FV.geq rfl rfl) rfl (fun _ => rfl) (by omega) ?_
      | refine EL.fF (FV.eql rfl rfl) rfl (fun _ => rfl) (by omega) ?_
      | refine EL.fF (FV.neq rfl rfl) rfl (fun _ => rfl) (by omega) ?_
      | refine EL.f (FV.rem rfl rfl (by decide)) rfl rfl ?_
      | refine EL.f (FV.idx0 rfl rfl rfl rfl (by omega) (by omega)) rfl rfl ?_
      | refine EL.f (FV.idx1 rfl rfl rfl rfl (by omega) (by omega)) rfl rfl ?_
      | refine EL.f (FV.load1 rfl rfl rfl (by assumption)) rfl rfl ?_)
    have := AtI.own (B := w.heap.size) hato hgo
    rw [outL_length] at this
    exact ⟨_, rfl, _, rfl, this, hb⟩
end Eng
end Go.Proofs.Ytlhfcmcocbiafaa
