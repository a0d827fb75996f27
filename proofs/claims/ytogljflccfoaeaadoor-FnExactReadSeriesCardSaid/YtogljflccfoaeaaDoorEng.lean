/- The engine of this proof: a weakest-precondition calculus over environments (slot, value), on top of the library's own calculus for Code. No condition: these are general lemmas about the model. -/
import Derived.WalkKit
import Derived.OrdersHeld
namespace Go.Proofs.YtogljflccfoaeaaDoor
open Go
namespace Eng

/-! ### Environments -/
abbrev Env := List (Nat × Value)
def get : List (Nat × Value) → Nat → Option Value
  | [], _ => none
  | (t, v) :: r, n => cond (Nat.beq t n) (some v) (get r n)

structure Fits (ρ : Env) (n : Nat) (a : Act) : Prop where
  defers : a.defers = []
  size : a.tmps.size = n
  val : ∀ t v, get ρ t = some v → a.tmps[t]? = some v

def ev (ρ : Env) : Operand → Option Value
  | .tmp t => get ρ t
  | .const v => some v
  | .global g => some (.pointer (some ⟨g, 0, none⟩))
  | .func f => some (.func (.func f) #[] #[])

theorem Fits.eval {ρ : Env} {n : Nat} {a : Act} (h : Fits ρ n a) {x : Operand} {v : Value} (hx : ev ρ x = some v) : a.eval x = v := by
  cases x with
  | tmp t =>
    have := h.val t v hx
    simp [Act.eval, this]
  | const u => exact Option.some.inj hx
  | global g => exact Option.some.inj hx
  | func f => exact Option.some.inj hx

def evs (ρ : Env) : List Operand → Option (List Value)
  | [] => some []
  | x :: r => match ev ρ x, evs ρ r with
    | some v, some vs => some (v :: vs)
    | _, _ => none

theorem Fits.evalAll {ρ : Env} {n : Nat} {a : Act} (h : Fits ρ n a) : ∀ {xs : List Operand} {vs : List Value}, evs ρ xs = some vs → xs.map a.eval = vs
  | [], vs, hx => by simpa [evs] using hx
  | x :: r, vs, hx => by
    unfold evs at hx
    cases h1 : ev ρ x with
    | none => simp [h1] at hx
    | some v =>
      cases h2 : evs ρ r with
      | none => simp [h1, h2] at hx
      | some us =>
        simp [h1, h2] at hx
        subst hx
        simp [h.eval h1, h.evalAll h2]

def putE (n : Nat) (dst : Option Tmp) (v : Value) (ρ : Env) : Option Env :=
  match dst with
  | none => some ρ
  | some d => cond (Nat.blt d n) (some ((d, v) :: ρ)) none

theorem Fits.put {ρ ρ' : Env} {n : Nat} {a : Act} (h : Fits ρ n a) {dst : Option Tmp} {v : Value} (hd : putE n dst v ρ = some ρ') : Fits ρ' n (a.put dst v) := by
  cases dst with
  | none => simp [putE] at hd; subst hd; exact h
  | some d =>
    unfold putE at hd
    cases hb : Nat.blt d n with
    | false => simp [hb] at hd
    | true =>
      simp [hb] at hd
      subst hd
      have hlt : d < n := by simpa [Nat.blt_eq] using hb
      refine ⟨h.defers, by simp [Act.put, h.size], fun t u ht => ?_⟩
      unfold get at ht
      cases he : Nat.beq d t with
      | true =>
        have := Nat.eq_of_beq_eq_true he
        subst this
        simp at ht
        subst ht
        simp [Act.put, h.size, hlt]
      | false =>
        simp [he] at ht
        have hne : d ≠ t := Nat.ne_of_beq_eq_false he
        simp only [Act.put]
        rw [Array.getElem?_setIfInBounds_ne hne]
        exact h.val t u ht

/-- Every binding of the first stands in the second. -/
def Sub : Env → Env → Prop
  | [], _ => True
  | (t, v) :: r, ρ => get ρ t = some v ∧ Sub r ρ

theorem Sub.get {ρ ρ' : Env} (h : Sub ρ ρ') : ∀ {t v}, get ρ t = some v → get ρ' t = some v := by
  induction ρ with
  | nil => intro t v h'; simp [Eng.get] at h'
  | cons x r ih =>
    obtain ⟨t, v⟩ := x
    intro t' v' h'
    unfold Eng.get at h'
    cases he : Nat.beq t t' with
    | true =>
      have := Nat.eq_of_beq_eq_true he
      subst this
      simp at h'
      subst h'
      exact h.1
    | false =>
      simp [he] at h'
      exact ih h.2 h'

theorem Fits.sub {ρ ρ' : Env} {n : Nat} {a : Act} (h : Fits ρ' n a) (hs : Sub ρ ρ') : Fits ρ n a :=
  ⟨h.defers, h.size, fun t v ht => h.val t v (hs.get ht)⟩

/-! ### Judgements -/
def lift (n : Nat) (Q : Exit → Env → World → Prop) : Exit → Act → World → Prop := fun e a w => ∃ ρ, Fits ρ n a ∧ Q e ρ w
def onlyN (n : Nat) (Q : Env → World → Prop) : Exit → Act → World → Prop
  | .normal, a, w => ∃ ρ, Fits ρ n a ∧ Q ρ w
  | _, _, _ => False

structure EW (P : Program) (n : Nat) (c : Code) (Q : Exit → Env → World → Prop) (ρ : Env) (w : World) : Prop where
  out : ∀ a, Fits ρ n a → c.wp P (lift n Q) a w

structure EL (P : Program) (n : Nat) (ops : Array Oper) (Q : Env → World → Prop) (l : List Oper) (ρ : Env) (w : World) : Prop where
  out : ∀ a, Fits ρ n a → wpList P ops (onlyN n Q) l a w

/-- In every world that meets S the operation yields v and turns nothing. -/
structure FV (P : Program) (n : Nat) (S : World → Prop) (ρ : Env) (o : Oper) (v : Value) : Prop where
  out : ∀ a, Fits ρ n a → ∀ w, S w → (execOp a.eval o).run P w = .ok (.value v) w

/-- From the world w the operation ends with a value and a world of which K holds. -/
structure Hv (P : Program) (n : Nat) (ρ : Env) (o : Oper) (w : World) (K : Value → World → Prop) : Prop where
  out : ∀ a, Fits ρ n a → ∀ (K' : Act → World → Prop) (Q' : Exit → Act → World → Prop), (∀ v w', K v w' → K' (a.put o.dst v) w') → o.wp P a w K' Q'

theorem Hv.mono {P : Program} {n : Nat} {ρ : Env} {o : Oper} {w : World} {K K2 : Value → World → Prop} (h : Hv P n ρ o w K) (hk : ∀ v w', K v w' → K2 v w') : Hv P n ρ o w K2 :=
  ⟨fun a ha K' Q' h' => h.out a ha K' Q' fun v w' hv => h' v w' (hk v w' hv)⟩

theorem FV.hv {P : Program} {n : Nat} {ρ : Env} {o : Oper} {w : World} {v : Value} (h : FV P n (fun w' => w' = w) ρ o v) : Hv P n ρ o w (fun u w' => u = v ∧ w' = w) :=
  ⟨fun a ha K' Q' h' => by
    unfold Oper.wp
    rw [h.out a ha w rfl]
    exact h' v w ⟨rfl, rfl⟩⟩

/-- Is the guarded operation carried out? -/
def wantE (ops : Array Oper) (ρ : Env) (o : Oper) : Option Bool :=
  match o.guard with
  | none => some true
  | some (j, want) =>
    match ops[j]? with
    | some oj =>
      match oj.dst with
      | some d =>
        match get ρ d with
        | some (.bool b) => some (cond want b (!b))
        | _ => none
      | none => none
    | none => none

theorem wantE_spec {ops : Array Oper} {ρ : Env} {o : Oper} {b : Bool} {n : Nat} {a : Act} (ha : Fits ρ n a) (h : wantE ops ρ o = some b) : Region.wanted o (yielded ops a.tmps) = b := by
  unfold wantE at h
  unfold Region.wanted
  cases hg : o.guard with
  | none => simp [hg] at h ⊢; exact h
  | some jw =>
    obtain ⟨j, want⟩ := jw
    simp only [hg] at h ⊢
    cases hj : ops[j]? with
    | none => simp [hj] at h
    | some oj =>
      simp only [hj] at h
      cases hd : oj.dst with
      | none => simp [hd] at h
      | some d =>
        simp only [hd] at h
        cases hr : get ρ d with
        | none => simp [hr] at h
        | some v =>
          have hv := ha.val d v hr
          cases v <;> simp [hr] at h
          rename_i c
          unfold yielded
          simp only [hj, Option.bind_some, hd, hv]
          subst h
          cases want <;> cases c <;> rfl

section
variable {P : Program} {n : Nat} {ops : Array Oper} {Q : Env → World → Prop} {rest : List Oper} {o : Oper} {ρ ρ' : Env} {w : World}

theorem EL.nil (h : Q ρ w) : EL P n ops Q [] ρ w := ⟨fun _ ha => ⟨ρ, ha, h⟩⟩

/-- An operation that yields. -/
theorem EL.f {v : Value} (hv : FV P n (fun w' => w' = w) ρ o v) (hg : wantE ops ρ o = some true) (hd : putE n o.dst v ρ = some ρ') (k : EL P n ops Q rest ρ' w) : EL P n ops Q (o :: rest) ρ w :=
  ⟨fun a ha => by
    unfold wpList
    rw [if_pos (wantE_spec ha hg)]
    left
    unfold Oper.wp
    rw [hv.out a ha w rfl]
    exact k.out _ (ha.put hd)⟩

/-- An operation that its guard passes over. -/
theorem EL.skip (hg : wantE ops ρ o = some false) (hd : putE n o.dst undef ρ = some ρ') (k : EL P n ops Q rest ρ' w) : EL P n ops Q (o :: rest) ρ w :=
  ⟨fun a ha => by
    unfold wpList
    rw [if_neg (by rw [wantE_spec ha hg]; simp)]
    exact k.out _ (ha.put hd)⟩

/-- An operation that turns the world. -/
theorem EL.h {K : Value → World → Prop} {ρ' : Value → Env} (hv : Hv P n ρ o w K) (hg : wantE ops ρ o = some true) (hd : ∀ v, putE n o.dst v ρ = some (ρ' v)) (k : ∀ v w', K v w' → EL P n ops Q rest (ρ' v) w') : EL P n ops Q (o :: rest) ρ w :=
  ⟨fun a ha => by
    unfold wpList
    rw [if_pos (wantE_spec ha hg)]
    left
    exact hv.out a ha _ _ fun v w' hk => (k v w' hk).out _ (ha.put (hd v))⟩
end

/-! ### Code -/
def thenE (K : Env → World → Prop) (Q : Exit → Env → World → Prop) : Exit → Env → World → Prop
  | .normal, ρ, w => K ρ w
  | e, ρ, w => Q e ρ w
def blockE (id : Nat) (Q : Exit → Env → World → Prop) : Exit → Env → World → Prop
  | .exit id', ρ, w => cond (Nat.beq id' id) (Q .normal ρ w) (Q (.exit id') ρ w)
  | e, ρ, w => Q e ρ w

section
variable {P : Program} {n : Nat} {Q : Exit → Env → World → Prop} {ρ ρ' : Env} {w : World}

theorem EW.mono {c : Code} {Q' : Exit → Env → World → Prop} (h : EW P n c Q ρ w) (hq : ∀ e ρ w, Q e ρ w → Q' e ρ w) : EW P n c Q' ρ w :=
  ⟨fun a ha => wp_mono (h.out a ha) fun e _ w' ⟨ρ', hf, hq'⟩ => ⟨ρ', hf, hq e ρ' w' hq'⟩⟩
theorem EW.weaken {c : Code} (h : EW P n c Q ρ' w) (hs : Sub ρ' ρ) : EW P n c Q ρ w := ⟨fun a ha => h.out a (ha.sub hs)⟩

theorem EW.skip (h : Q .normal ρ w) : EW P n .skip Q ρ w := ⟨fun _ ha => wp_skip ⟨ρ, ha, h⟩⟩
theorem EW.label {l : Nat} (h : Q .normal ρ w) : EW P n (.label l) Q ρ w := ⟨fun _ ha => wp_label ⟨ρ, ha, h⟩⟩
theorem EW.exit {id : Nat} (h : Q (.exit id) ρ w) : EW P n (.exit id) Q ρ w := ⟨fun _ ha => wp_exit ⟨ρ, ha, h⟩⟩
theorem EW.ret (h : Q .ret ρ w) : EW P n .ret Q ρ w := ⟨fun _ ha => wp_ret ⟨ρ, ha, h⟩⟩

theorem EW.seq {x y : Code} (h : EW P n x (thenE (fun ρ' w' => EW P n y Q ρ' w') Q) ρ w) : EW P n (.seq x y) Q ρ w :=
  ⟨fun a ha => wp_seq (wp_mono (h.out a ha) fun e a' w' ⟨ρ', hf, hq⟩ => by
    cases e <;> first | exact hq.out a' hf | exact ⟨ρ', hf, hq⟩)⟩

/-- With an assertion of one's own between the two. -/
theorem EW.seqM {x y : Code} (M : Env → World → Prop) (h : EW P n x (thenE M Q) ρ w) (h2 : ∀ ρ' w', M ρ' w' → EW P n y Q ρ' w') : EW P n (.seq x y) Q ρ w :=
  EW.seq (EW.mono h fun e ρ' w' hq => by cases e <;> first | exact h2 _ _ hq | exact hq)
theorem EW.block {id : Nat} {c : Code} (h : EW P n c (blockE id Q) ρ w) : EW P n (.block id c) Q ρ w :=
  ⟨fun a ha => wp_block (wp_mono (h.out a ha) fun e a' w' ⟨ρ', hf, hq⟩ => by
    cases e with
    | exit id' =>
      simp only [Exit.inBlock]
      unfold blockE at hq
      cases hb : Nat.beq id' id with
      | true =>
        have := Nat.eq_of_beq_eq_true hb
        subst this
        simp at hq
        simp only [if_true]
        exact ⟨ρ', hf, hq⟩
      | false =>
        have hne : id' ≠ id := Nat.ne_of_beq_eq_false hb
        simp [hb] at hq
        simp only [hne, if_false]
        exact ⟨ρ', hf, hq⟩
    | _ => exact ⟨ρ', hf, hq⟩)⟩

theorem EW.cond {c : Operand} {x y : Code} {b : Bool} (hc : ev ρ c = some (.bool b)) (ht : b = true → EW P n x Q ρ w) (hf : b = false → EW P n y Q ρ w) : EW P n (.cond c x y) Q ρ w :=
  ⟨fun a ha => wp_cond_split (ha.eval hc) (fun hb => (ht hb).out a ha) (fun hb => (hf hb).out a ha)⟩

theorem EW.region {id : Nat} {l : List Oper} (h : EL P n l.toArray (fun ρ' w' => Q .normal ρ' w') l ρ w) : EW P n (.region id l.toArray false) Q ρ w :=
  ⟨fun a ha => wp_mono (wp_region_lit (h.out a ha)) fun e a' w' hq => by
    cases e <;> first | exact hq | exact hq.elim⟩

theorem EW.loop {c : Code} {X : Type} (I : X → World → Prop) (R : X → Env) (μ : X → Nat) (x₀ : X) (h₀ : I x₀ w) (hs : Sub (R x₀) ρ)
    (round : ∀ x w, I x w → EW P n c (thenE (fun ρ' w' => ∃ x', Sub (R x') ρ' ∧ I x' w' ∧ μ x' < μ x) Q) (R x) w) : EW P n (.loop c) Q ρ w := by
  refine ⟨fun a ha => ?_⟩
  have key : ∀ m x, μ x = m → ∀ a w, Fits (R x) n a → I x w → ∀ b k cs,
      ∃ e a' w', lift n Q e a' w' ∧ Arrives P (lone (b.at a (.code c :: .inLoop c :: k)) cs w) b k cs e a' w' := by
    intro m
    induction m using Nat.strongRecOn with
    | _ m ih =>
      intro x hm a w hf hI b k cs
      obtain ⟨e, a₁, w₁, ⟨ρ₁, hf₁, hq⟩, harr⟩ := (round x w hI).out a hf b (.inLoop c :: k) cs
      cases e with
      | normal =>
        obtain ⟨x', hsub, hI', hlt⟩ := hq
        obtain ⟨e₂, a₂, w₂, hq₂, harr₂⟩ := ih (μ x') (hm ▸ hlt) x' rfl a₁ w₁ (hf₁.sub hsub) hI' b k cs
        exact ⟨e₂, a₂, w₂, hq₂, .of_steps (Steps.trans harr (.one step_inLoop)) harr₂⟩
      | exit id => exact ⟨_, a₁, w₁, ⟨ρ₁, hf₁, hq⟩, .pass (x := .inLoop c) rfl (fun _ _ => .inl (by simp)) harr⟩
      | goto l => exact ⟨_, a₁, w₁, ⟨ρ₁, hf₁, hq⟩, .pass (x := .inLoop c) rfl (fun _ _ => .inl (by simp)) harr⟩
      | ret => exact ⟨_, a₁, w₁, ⟨ρ₁, hf₁, hq⟩, .pass (x := .inLoop c) rfl (fun _ _ => .inl (by simp)) harr⟩
      | panic ch => exact ⟨_, a₁, w₁, ⟨ρ₁, hf₁, hq⟩, .pass (x := .inLoop c) rfl (fun _ _ => .inl (by simp)) harr⟩
      | outgrown => exact ⟨_, a₁, w₁, ⟨ρ₁, hf₁, hq⟩, .pass (x := .inLoop c) rfl (fun _ _ => .inl (by simp)) harr⟩
  intro b k cs
  obtain ⟨e, a', w', hq, harr⟩ := key _ x₀ rfl a w (ha.sub hs) h₀ b k cs
  exact ⟨e, a', w', hq, .of_steps (.one step_loop) harr⟩
end

/-! ### Regions that draw their order -/
def laxOn (md : Region.Mode) (ops : Array Oper) (j : Nat) : Bool :=
  (List.range ops.size).all fun i => Nat.beq i j || match ops[j]? with
    | some oj => oj.after.any fun e => Region.binds md e && e.on == i
    | none => false

section
variable {P : Program} {md : Region.Mode} {ops : Array Oper} {Q : Exit → Act → World → Prop} {S : World → Prop}

/-- Whatever order is picked; S holds behind every operation but one that waits for all others. -/
def anyS (P : Program) (md : Region.Mode) (ops : Array Oper) (Q : Exit → Act → World → Prop) (S : World → Prop) : Nat → Array Bool → Act → World → Prop
  | 0, listed, a, w => Region.ready md ops listed = [] ∧ Q .normal a w
  | fuel + 1, listed, a, w =>
    (Region.ready md ops listed = [] → Q .normal a w) ∧
    ∀ i ∈ Region.ready md ops listed, wpOp P ops Q i (fun a' w' => (laxOn md ops i = true ∨ S w') ∧ anyS P md ops Q S fuel (listed.setIfInBounds i true) a' w') a w

theorem anyS_any : ∀ (fuel : Nat) (listed : Array Bool) (a : Act) (w : World), anyS P md ops Q S fuel listed a w → wpAny P md ops Q fuel listed a w
  | 0, _, _, _, h => h
  | fuel + 1, _, _, _, h => ⟨h.1, fun i hi => wpOp_mono (fun a' w' h' => anyS_any fuel _ a' w' h'.2) (h.2 i hi)⟩

theorem anyS_take {i : Nat} {oi : Oper} {v : Value} (hi : ops[i]? = some oi) (hs : Region.noSelect ops = true)
    (hQ : ∀ c a w, Q (.panic c) (a.put oi.dst v) w → Q (.panic c) a w) :
    ∀ (fuel : Nat) (listed : Array Bool) (a : Act) (w : World),
      (∀ j oj, ops[j]? = some oj → j ≠ i → listed.getD j true = false → (∀ e ∈ oj.after, Region.binds md e = true → e.on ≠ i) → oi.apart ops oj = true) →
      i ∈ Region.ready md ops listed → YieldsIf P ops S oi v a → S w →
      anyS P md ops Q S fuel (listed.setIfInBounds i true) (a.put oi.dst v) w → anyS P md ops Q S (fuel + 1) listed a w := by
  intro fuel
  induction fuel with
  | zero =>
    intro listed a w _ hr hy hS H
    refine ⟨fun h => (by rw [h] at hr; cases hr), fun j hj => ?_⟩
    by_cases hji : j = i
    · subst hji; exact hy.wpOp hi hS ⟨.inr hS, H⟩
    · have := ready_mono hj hji
      rw [H.1] at this
      cases this
  | succ fuel ih =>
    intro listed a w hfree hr hy hS H
    refine ⟨fun h => (by rw [h] at hr; cases hr), fun j hj => ?_⟩
    by_cases hji : j = i
    · subst hji; exact hy.wpOp hi hS ⟨.inr hS, H⟩
    · have h1 := H.2 j (ready_mono hj hji)
      obtain ⟨hjun, oj, hoj, hall⟩ := mem_ready.1 hj
      have hiun := (mem_ready.1 hr).1
      have hnot : ∀ e ∈ oj.after, Region.binds md e = true → e.on ≠ i := fun e he hb heq => by
        have h1 := hall e he hb
        rw [heq] at h1
        rcases Nat.lt_or_ge i listed.size with h' | h'
        · simp [h'] at hiun h1; rw [hiun] at h1; cases h1
        · simp [Array.getElem?_eq_none h'] at h1
      have hlax : laxOn md ops j = false := by
        cases hl : laxOn md ops j with
        | false => rfl
        | true =>
          exfalso
          have hlt : i < ops.size := (Array.getElem?_eq_some_iff.1 hi).1
          have := List.all_eq_true.1 hl i (List.mem_range.2 hlt)
          simp only [Bool.or_eq_true, hoj] at this
          rcases this with h | h
          · exact hji (Nat.eq_of_beq_eq_true h).symm
          · obtain ⟨e, he, hb⟩ := Array.any_eq_true'.1 h
            simp only [Bool.and_eq_true, beq_iff_eq] at hb
            exact hnot e he hb.1 hb.2
      have h2 := wpOp_putIf hoj (hfree j oj hoj hji hjun hnot) (fun cs b => Region.noSelect_spec hs i oi cs b hi) (fun cs b => Region.noSelect_spec hs j oj cs b hoj) hQ hy h1
      have hfree' : ∀ k ok, ops[k]? = some ok → k ≠ i → (listed.setIfInBounds j true).getD k true = false →
          (∀ e ∈ ok.after, Region.binds md e = true → e.on ≠ i) → oi.apart ops ok = true := fun k ok hk hki hun hno => by
        refine hfree k ok hk hki ?_ hno
        by_cases hjk : j = k
        · subst hjk; exact hjun
        · rw [getD_set_ne true hjk] at hun; exact hun
      refine wpOp_mono (fun a' w' h3 => ?_) h2
      have hS' : S w' := by
        rcases h3.2.1 with h | h
        · rw [hlax] at h; cases h
        · exact h
      refine ⟨.inr hS', ih (listed.setIfInBounds j true) a' w' hfree' (ready_mono hr (Ne.symm hji)) h3.1 hS' ?_⟩
      rw [Array.setIfInBounds_comm _ _ hji]
      exact h3.2.2
end

/-- A plan: the operations in an order; 'true': it may be taken first; 'false': nothing else may come up. -/
def planB (md : Region.Mode) (ops : Array Oper) : List (Nat × Bool) → Array Bool → Bool
  | [], listed => (Region.ready md ops listed).isEmpty
  | (i, true) :: r, listed => Region.free md ops listed i && ((Region.ready md ops listed).contains i && planB md ops r (listed.setIfInBounds i true))
  | (i, false) :: r, listed => cond (Nat.blt i 1000) ((Region.ready md ops listed == [i]) && planB md ops r (listed.setIfInBounds i true))
      ((Region.ready md ops listed == [(i - 1000) / 100, i % 100]) && ((Region.ready md ops (listed.setIfInBounds ((i - 1000) / 100) true) == [i % 100]) && ((Region.ready md ops (listed.setIfInBounds (i % 100) true) == [(i - 1000) / 100]) &&
        planB md ops r ((listed.setIfInBounds ((i - 1000) / 100) true).setIfInBounds (i % 100) true))))
/-- How many operations a plan holds (an entry from 1000 on holds two, in whatever order). -/
def psize : List (Nat × Bool) → Nat
  | [] => 0
  | (_, true) :: r => psize r + 1
  | (i, false) :: r => cond (Nat.blt i 1000) (psize r + 1) (psize r + 2)

/-- Operations k, k + 1, .., each to be taken first. -/
def pl : Nat → Nat → List (Nat × Bool)
  | _, 0 => []
  | k, n + 1 => (k, true) :: pl (k + 1) n

structure EP (P : Program) (n : Nat) (ops : Array Oper) (S : World → Prop) (Q : Env → World → Prop) (plan : List (Nat × Bool)) (ρ : Env) (w : World) : Prop where
  out : Region.noSelect ops = true → ∀ listed, planB .any ops plan listed = true → ∀ a, Fits ρ n a → S w → anyS P .any ops (onlyN n Q) S (psize plan) listed a w

section
variable {P : Program} {n : Nat} {ops : Array Oper} {S : World → Prop} {Q : Env → World → Prop} {rest : List (Nat × Bool)} {i : Nat} {o : Oper} {ρ ρ' : Env} {w : World}

theorem EP.nil (h : Q ρ w) : EP P n ops S Q [] ρ w := ⟨fun _ listed hp a ha _ => ⟨by simpa [planB] using hp, ρ, ha, h⟩⟩

theorem EP.f {v : Value} (ho : ops[i]? = some o) (hv : FV P n S ρ o v) (hg : wantE ops ρ o = some true) (hd : putE n o.dst v ρ = some ρ') (k : EP P n ops S Q rest ρ' w) : EP P n ops S Q ((i, true) :: rest) ρ w :=
  ⟨fun hs listed hp a ha hS => by
    simp only [planB, Bool.and_eq_true] at hp
    obtain ⟨hf, hr, hp⟩ := hp
    refine anyS_take ho hs (fun _ _ _ h => h) _ listed a w (Region.free_spec ho hf) (by simpa using hr) (.inl ⟨wantE_spec ha hg, fun w' hS' => hv.out a ha w' hS'⟩) hS ?_
    exact k.out hs _ hp _ (ha.put hd) hS⟩

theorem EP.skip (ho : ops[i]? = some o) (hg : wantE ops ρ o = some false) (hd : putE n o.dst undef ρ = some ρ') (k : EP P n ops S Q rest ρ' w) : EP P n ops S Q ((i, true) :: rest) ρ w :=
  ⟨fun hs listed hp a ha hS => by
    simp only [planB, Bool.and_eq_true] at hp
    obtain ⟨hf, hr, hp⟩ := hp
    refine anyS_take ho hs (fun _ _ _ h => h) _ listed a w (Region.free_spec ho hf) (by simpa using hr) (.inr ⟨wantE_spec ha hg, rfl⟩) hS ?_
    exact k.out hs _ hp _ (ha.put hd) hS⟩

theorem EP.skipH (ho : ops[i]? = some o) (hi : Nat.blt i 1000 = true) (hg : wantE ops ρ o = some false) (hd : putE n o.dst undef ρ = some ρ') (k : EP P n ops S Q rest ρ' w) : EP P n ops S Q ((i, false) :: rest) ρ w :=
  ⟨fun hs listed hp a ha hS => by
    simp only [planB, hi, cond_true, Bool.and_eq_true, beq_iff_eq] at hp
    obtain ⟨hr, hp⟩ := hp
    simp only [psize, hi, cond_true]
    refine ⟨fun h => (by rw [h] at hr; cases hr), fun j hj => ?_⟩
    rw [hr] at hj
    obtain rfl : j = i := by simpa using hj
    unfold wpOp
    simp only [ho]
    rw [if_neg (by rw [wantE_spec ha hg]; simp)]
    exact ⟨.inr hS, k.out hs _ hp _ (ha.put hd) hS⟩⟩

theorem EP.h {K : Value → World → Prop} {ρ' : Value → Env} (ho : ops[i]? = some o) (hi : Nat.blt i 1000 = true) (hv : Hv P n ρ o w K) (hg : wantE ops ρ o = some true) (hd : ∀ v, putE n o.dst v ρ = some (ρ' v)) (k : ∀ v w', K v w' → S w' ∧ EP P n ops S Q rest (ρ' v) w') :
    EP P n ops S Q ((i, false) :: rest) ρ w :=
  ⟨fun hs listed hp a ha hS => by
    simp only [planB, hi, cond_true, Bool.and_eq_true, beq_iff_eq] at hp
    obtain ⟨hr, hp⟩ := hp
    simp only [psize, hi, cond_true]
    refine ⟨fun h => (by rw [h] at hr; cases hr), fun j hj => ?_⟩
    rw [hr] at hj
    obtain rfl : j = i := by simpa using hj
    unfold wpOp
    simp only [ho]
    rw [if_pos (wantE_spec ha hg)]
    left
    refine hv.out a ha _ _ fun v w' hk => ?_
    obtain ⟨hS', hk'⟩ := k v w' hk
    exact ⟨.inr hS', hk'.out hs _ hp _ (ha.put (hd v)) hS'⟩⟩

/-- The last operation, which waits for all others. -/
theorem EP.last {K : Value → World → Prop} {ρ' : Value → Env} (ho : ops[i]? = some o) (hi : Nat.blt i 1000 = true) (hl : laxOn .any ops i = true) (hv : Hv P n ρ o w K) (hg : wantE ops ρ o = some true) (hd : ∀ v, putE n o.dst v ρ = some (ρ' v)) (k : ∀ v w', K v w' → Q (ρ' v) w') :
    EP P n ops S Q [(i, false)] ρ w :=
  ⟨fun hs listed hp a ha hS => by
    simp only [planB, hi, cond_true, Bool.and_eq_true, beq_iff_eq] at hp
    obtain ⟨hr, hp⟩ := hp
    simp only [psize, hi, cond_true]
    refine ⟨fun h => (by rw [h] at hr; cases hr), fun j hj => ?_⟩
    rw [hr] at hj
    obtain rfl : j = i := by simpa using hj
    unfold wpOp
    simp only [ho]
    rw [if_pos (wantE_spec ha hg)]
    left
    refine hv.out a ha _ _ fun v w' hk => ?_
    exact ⟨.inl hl, by simpa using hp, _, ha.put (hd v), k v w' hk⟩⟩

/-- Two operations that may come up in either order. -/
theorem EP.pair {c j : Nat} {oi oj : Oper} {ρi ρj : Value → Env} {ρij ρji : Value → Value → Env} (hc : Nat.blt c 1000 = false) (hci : (c - 1000) / 100 = i) (hcj : c % 100 = j) (hoi : ops[i]? = some oi) (hoj : ops[j]? = some oj)
    (hgi : wantE ops ρ oi = some true) (hgj : wantE ops ρ oj = some true) (hgij : ∀ v, wantE ops (ρi v) oj = some true) (hgji : ∀ v, wantE ops (ρj v) oi = some true)
    (hdi : ∀ v, putE n oi.dst v ρ = some (ρi v)) (hdj : ∀ v, putE n oj.dst v ρ = some (ρj v)) (hdij : ∀ v u, putE n oj.dst u (ρi v) = some (ρij v u)) (hdji : ∀ v u, putE n oi.dst u (ρj v) = some (ρji v u))
    (A : Hv P n ρ oi w fun v w' => S w' ∧ Hv P n (ρi v) oj w' fun u w'' => S w'' ∧ EP P n ops S Q rest (ρij v u) w'')
    (B : Hv P n ρ oj w fun v w' => S w' ∧ Hv P n (ρj v) oi w' fun u w'' => S w'' ∧ EP P n ops S Q rest (ρji v u) w'') :
    EP P n ops S Q ((c, false) :: rest) ρ w :=
  ⟨fun hs listed hp a ha hS => by
    simp only [planB, hc, cond_false, Bool.and_eq_true, beq_iff_eq, hci, hcj] at hp
    obtain ⟨hr, hr1, hr2, hp⟩ := hp
    simp only [psize, hc, cond_false]
    have hij : i ≠ j := by
      rintro rfl
      have := (mem_ready.1 (show i ∈ Region.ready .any ops (listed.setIfInBounds i true) by rw [hr1]; simp)).1
      rcases Nat.lt_or_ge i listed.size with h' | h'
      · simp [h'] at this
      · have h2 := (mem_ready.1 (show i ∈ Region.ready .any ops listed by rw [hr]; simp)).1
        simp [Array.getElem?_eq_none h'] at h2
    refine ⟨fun h => (by rw [h] at hr; cases hr), fun x hx => ?_⟩
    rw [hr] at hx
    have hx' : x = i ∨ x = j := by simpa using hx
    rcases hx' with rfl | rfl
    · unfold wpOp
      simp only [hoi]
      rw [if_pos (wantE_spec ha hgi)]
      left
      refine A.out a ha _ _ fun v w' ⟨hS', hk⟩ => ⟨.inr hS', fun h => (by rw [h] at hr1; cases hr1), fun y hy => ?_⟩
      rw [hr1] at hy
      obtain rfl : y = j := by simpa using hy
      unfold wpOp
      simp only [hoj]
      rw [if_pos (wantE_spec (ha.put (hdi v)) (hgij v))]
      left
      exact hk.out _ (ha.put (hdi v)) _ _ fun u w'' ⟨hS'', hk'⟩ => ⟨.inr hS'', hk'.out hs _ hp _ ((ha.put (hdi v)).put (hdij v u)) hS''⟩
    · unfold wpOp
      simp only [hoj]
      rw [if_pos (wantE_spec ha hgj)]
      left
      refine B.out a ha _ _ fun v w' ⟨hS', hk⟩ => ⟨.inr hS', fun h => (by rw [h] at hr2; cases hr2), fun y hy => ?_⟩
      rw [hr2] at hy
      obtain rfl : y = i := by simpa using hy
      unfold wpOp
      simp only [hoi]
      rw [if_pos (wantE_spec (ha.put (hdj v)) (hgji v))]
      left
      refine hk.out _ (ha.put (hdj v)) _ _ fun u w'' ⟨hS'', hk'⟩ => ⟨.inr hS'', hk'.out hs _ ?_ _ ((ha.put (hdj v)).put (hdji v u)) hS''⟩
      rw [Array.setIfInBounds_comm _ _ (Ne.symm hij)]
      exact hp⟩
end

theorem EW.draw {P : Program} {n : Nat} {Q : Exit → Env → World → Prop} {ρ : Env} {w : World} {id : Nat} {ops : Array Oper} (S : World → Prop) (plan : List (Nat × Bool)) (hm : P.follows .mixedOrders = true)
    (hB : (Region.noSelect ops && (planB .any ops plan (Array.replicate ops.size false) && Nat.beq (psize plan) ops.size)) = true) (hS : S w.drew)
    (h : EP P n ops S (fun ρ' w' => Q .normal ρ' w') plan ρ w.drew) : EW P n (.region id ops true) Q ρ w := by
  simp only [Bool.and_eq_true] at hB
  obtain ⟨hs, hp, hl⟩ := hB
  refine ⟨fun a ha => ?_⟩
  refine wp_mono (Q := onlyN n (fun ρ' w' => Q .normal ρ' w')) (wp_region_any hm ?_) fun e a' w' hq => by
    cases e <;> first | exact hq | exact hq.elim
  have := h.out hs _ hp a ha hS
  rw [Nat.eq_of_beq_eq_true hl] at this
  exact anyS_any _ _ _ _ this

/-! ### Calls -/
def Ret (R : Value → World → Prop) : Ending → World → Prop
  | .returned v, w => R v w
  | _, _ => False
/-- Function f has a body and is none that the model answers itself. -/
def Ent (P : Program) (f : FuncId) : Prop := ∃ fn, P.funcs[f]? = some fn ∧ (fn.name == "runtime.NumGoroutine") = false ∧ fn.body.isNone = false
structure CallsR (P : Program) (f : FuncId) (args : List Value) (w : World) (R : Value → World → Prop) : Prop where
  out : Calls P f args.toArray w (Ret R)
  ent : Ent P f

theorem CallsR.mono {P : Program} {f : FuncId} {args : List Value} {w : World} {R R' : Value → World → Prop} (h : CallsR P f args w R) (hr : ∀ v w', R v w' → R' v w') : CallsR P f args w R' :=
  ⟨h.out.mono fun e w' he => by cases e <;> first | exact hr _ _ he | exact he, h.ent⟩

theorem CallsR.law {P : Program} {f : FuncId} {args : List Value} {w : World} {R : Value → World → Prop} {T : World → Prop} (h : CallsR P f args w R) (hr : ∀ v w', R v w' → v = .bool true ∧ T w') : Calls P f args.toArray w fun e w' => e = .returned (.bool true) ∧ T w' :=
  h.out.mono fun e w' he => by
    cases e with
    | returned v => exact ⟨by rw [(hr v w' he).1], (hr v w' he).2⟩
    | panicked c => exact he.elim
    | outgrown => exact he.elim
/-- The value of the results' slots. -/
def resE (ρ : Env) : List ResultVar → Option Value
  | [.tmp t] => get ρ t
  | [.tmp t, .tmp u] => match get ρ t, get ρ u with
    | some x, some y => some (.tuple #[x, y])
    | _, _ => none
  | [.tmp t, .tmp u, .tmp s] => match get ρ t, get ρ u, get ρ s with
    | some x, some y, some z => some (.tuple #[x, y, z])
    | _, _, _ => none
  | [] => some (.tuple #[])
  | _ => none

theorem resE_spec {P : Program} {ρ : Env} {n : Nat} {a : Act} (ha : Fits ρ n a) {fn : Func} {v : Value} (h : resE ρ fn.results.toList = some v) (w : World) : (results fn a.tmps).run P w = .ok v w := by
  unfold results
  rcases hr : fn.results with ⟨l⟩
  rw [hr] at h
  simp only at h
  have hget : ∀ t x, get ρ t = some x → a.tmps.getD t undef = x := fun t x hx => by simp [ha.val t x hx]
  match l, h with
  | [], h => simp [resE] at h; subst h; simp
  | [.tmp t], h =>
    simp [resE] at h
    have := hget t v h
    simp at this
    simp [this]
  | [.tmp t, .tmp u], h =>
    cases h1 : get ρ t with
    | none => simp [resE, h1] at h
    | some x =>
      cases h2 : get ρ u with
      | none => simp [resE, h1, h2] at h
      | some y =>
        simp [resE, h1, h2] at h
        subst h
        have e1 := hget t x h1
        have e2 := hget u y h2
        simp at e1 e2
        simp [e1, e2]
  | [.tmp t, .tmp u, .tmp s], h =>
    cases h1 : get ρ t with
    | none => simp [resE, h1] at h
    | some x =>
      cases h2 : get ρ u with
      | none => simp [resE, h1, h2] at h
      | some y =>
        cases h3 : get ρ s with
        | none => simp [resE, h1, h2, h3] at h
        | some z =>
          simp [resE, h1, h2, h3] at h
          subst h
          have e1 := hget t x h1
          have e2 := hget u y h2
          have e3 := hget s z h3
          simp at e1 e2 e3
          simp [e1, e2, e3]

def postE (rs : List ResultVar) (R : Value → World → Prop) : Exit → Env → World → Prop
  | .normal, ρ, w | .ret, ρ, w => ∃ v, resE ρ rs = some v ∧ R v w
  | _, _, _ => False

def envOf : Nat → List Value → Env
  | _, [] => []
  | k, v :: r => (k, v) :: envOf (k + 1) r

theorem get_envOf : ∀ (vs : List Value) (k t : Nat) (v : Value), get (envOf k vs) t = some v → k ≤ t ∧ vs[t - k]? = some v
  | [], k, t, v, h => by simp [envOf, get] at h
  | x :: r, k, t, v, h => by
    unfold envOf get at h
    cases hb : Nat.beq k t with
    | true =>
      have := Nat.eq_of_beq_eq_true hb
      subst this
      simp at h
      simp [h]
    | false =>
      simp [hb] at h
      have hne : k ≠ t := Nat.ne_of_beq_eq_false hb
      obtain ⟨h1, h2⟩ := get_envOf r (k + 1) t v h
      refine ⟨by omega, ?_⟩
      rw [show t - k = (t - (k + 1)) + 1 from by omega]
      simpa using h2

theorem CallsR.enter {P : Program} {f : FuncId} {fn : Func} {c : Code} {args : List Value} {w : World} {R : Value → World → Prop} {n : Nat}
    (hf : P.funcs[f]? = some fn) (hnm : (fn.name == "runtime.NumGoroutine") = false) (hb : fn.body = some c) (hn : fn.ntmps = n) (hle : Nat.ble args.length n = true)
    (h : EW P n c (postE fn.results.toList R) (envOf 0 args) w) : CallsR P f args w R := by
  refine ⟨calls_of_wp hf hb ?_, ⟨fn, hf, hnm, by rw [hb]; rfl⟩⟩
  have hfit : Fits (envOf 0 args) n { tmps := args.toArray ++ Array.replicate (fn.ntmps - args.toArray.size) undef, defers := [] } := by
    have hle' : args.length ≤ n := by simpa using hle
    refine ⟨rfl, by simp [hn]; omega, fun t v ht => ?_⟩
    obtain ⟨_, h2⟩ := get_envOf args 0 t v ht
    simp only [Nat.sub_zero] at h2
    have hlt : t < args.length := (List.getElem?_eq_some_iff.1 h2).1
    rw [Array.getElem?_append_left (by simpa using hlt)]
    simpa using h2
  refine wp_mono (h.out _ hfit) fun e a' w' ⟨ρ', hf', hq⟩ => ?_
  cases e with
  | normal => obtain ⟨v, hv, hr⟩ := hq; exact ⟨hf'.defers, v, resE_spec hf' hv w', hr⟩
  | ret => obtain ⟨v, hv, hr⟩ := hq; exact ⟨hf'.defers, v, resE_spec hf' hv w', hr⟩
  | exit id => exact hq.elim
  | goto l => exact hq.elim
  | panic ch => exact hq.elim
  | outgrown => exact hq.elim

end Eng
end Go.Proofs.YtogljflccfoaeaaDoor
