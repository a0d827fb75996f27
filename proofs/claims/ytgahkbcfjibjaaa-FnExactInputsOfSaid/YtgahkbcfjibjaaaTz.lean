/- Rows of series: read, owned, appended to. Conditions: as each says. -/
import Derived.Test.YtgahkbcfjibjaaaSer2
import Derived.Test.YtgahkbcfjibjaaaTc
namespace Go.Proofs.Ytgahkbcfjibjaaa
open Go Go.RowKit
namespace Eng
theorem EW.viaM {P : Program} {n : Nat} {Q : Exit → Env → World → Prop} {ρ : Env} {w : World} {x : Code} {K : Env → World → Prop} (M : Env → World → Prop) (h : EW P n x (thenE M Q) ρ w) (h2 : ∀ ρ' w', M ρ' w' → K ρ' w') : EW P n x (thenE K Q) ρ w :=
  EW.mono h fun e ρ' w' hq => by cases e <;> first | exact h2 _ _ hq | exact hq
def constL (n : Int) (m : Nat) : List Int := (List.replicate m 0).set 0 n
theorem constL_length (n : Int) (m : Nat) : (constL n m).length = m := by simp [constL]
theorem constL_zero (m : Nat) : constL 0 m = List.replicate m 0 := by
  cases m with
  | zero => rfl
  | succ m => simp [constL, List.replicate_succ]
section
variable {P : Program} [UTab P] {n : Nat} {S : World → Prop} {ρ : Env} {dst : Option Tmp} {ty : TypeId} {pos : String} {af : Array Edge} {gd : Option (Nat × Bool)}
/-- 'append(s, t..)'. -/
theorem Hv.appendL {w : World} {t e : TypeId} {z : Value} {by_ B m k : Nat} {x y : Operand} {s : Value} {b o c : Nat} {cs us : List Value} (ht : UTab.und P t = some (.slice e)) (hi : UTab.inf P e = some (z, 1, by_)) (hz : z.cells.size = 1)
    (hx : ev ρ x = some s) (hy : ev ρ y = some (.slice (some ⟨b, o, none⟩) k c)) (hown : w.ownsRow B e 1 s m cs) (hl : us.length = k) (hcell : ∀ j u, us[j]? = some u → w.cell? ⟨b, o + j, none⟩ = some u) (h1 : ∀ u ∈ us, u.oneCell' = true)
    (h63 : m + k ≤ 9223372036854775807) (hbytes : (m + k) * by_ ≤ 140737488355328) (hB : B ≤ w.heap.size) :
    Hv P n ρ ⟨dst, .call { callee := .builtin .append, args := #[x, y], argTypes := #[t, t] }, ty, pos, af, gd⟩ w (fun v w' => w'.ownsRow B e 1 v (m + k) (cs ++ us) ∧ w.grownBy w' s.ownBlock ∧ Below B w w') :=
  ⟨fun a ha K' Q' h => by
    obtain ⟨_, _, i, _, hi', hz', hs, hby⟩ := run_inf hi w
    obtain ⟨v', w', hrun, hown', hgr, _⟩ := run_append_own (P := P) w B t ty e i z 1 by_ (UTab.und_ok _ _ ht) hi' hz' hs hby hz (by omega) s m cs hown ⟨b, o, none⟩ k c us (by omega)
      (fun j v hj => by
        have e2 : (⟨b, o, none⟩ : Addr).add j = ⟨b, o + j, none⟩ := by
          unfold Addr.add
          split
          · simp_all
          · rfl
        rw [e2]; exact hcell j v hj) h1 (by simp only [maxLen]; omega) hbytes hB
    have hrun' : (execOp a.eval ⟨dst, .call { callee := .builtin .append, args := #[x, y], argTypes := #[t, t] }, ty, pos, af, gd⟩).run P w = .ok (.value v') w' := by
      simp [execOp, resolve, invoke, builtin, ha.eval hx, ha.eval hy, hrun]
    unfold Oper.wp
    rw [hrun']
    refine h _ _ ⟨hown', hgr, ⟨hgr.os, hgr.tape, hgr.output, hgr.size, fun k hk => hgr.block k (Nat.lt_of_lt_of_le hk hB) (fun e => ?_)⟩⟩
    have := (hown.lt k e.symm).1
    omega⟩
end
theorem ints_one_cell (xs : List Int) : ∀ u ∈ ints xs, u.oneCell' = true := by
  intro u hu
  obtain ⟨x, _, rfl⟩ := List.mem_map.1 hu
  rfl
def subL (xs ys : List Int) : List Int := addL xs (scaleL ys 1000002)
/-! ### rows -/
/-- A slice of series that is read. -/
def Rows (w : World) (A : Option Addr) (xss : List (List Int)) : Prop := ∀ i, i < xss.length → ∃ b o B c, A = some ⟨b, o, none⟩ ∧ w.cell? ⟨b, o + i, none⟩ = some (.slice B (xss.getD i []).length c) ∧ Rd w B (ints (xss.getD i []))
theorem Rows.ext {w w' : World} {A : Option Addr} {xss : List (List Int)} (h : Rows w A xss) (he : Ext w w') : Rows w' A xss := fun i hi => by
  obtain ⟨b, o, B, c, h1, h2, h3⟩ := h i hi
  exact ⟨b, o, B, c, h1, he.cell h2, h3.ext he⟩
theorem Rows.all {w : World} {A : Option Addr} {xss : List (List Int)} (h : Rows w A xss) (hn : 0 < xss.length) : ∃ b o, A = some ⟨b, o, none⟩ ∧ ∀ i, i < xss.length → ∃ B c, w.cell? ⟨b, o + i, none⟩ = some (.slice B (xss.getD i []).length c) ∧ Rd w B (ints (xss.getD i [])) := by
  obtain ⟨b, o, _, _, hA, _⟩ := h 0 hn
  refine ⟨b, o, hA, fun i hi => ?_⟩
  obtain ⟨b', o', B, c, hA', h2, h3⟩ := h i hi
  rw [hA] at hA'
  injection hA' with hA'
  injection hA' with e1 e2 _
  subst e1 e2
  exact ⟨B, c, h2, h3⟩
/-- A series whose block is an old one, or one of numbers. -/
def RowB (w : World) (B : Nat) (v : Value) (xs : List Int) : Prop := ∃ A c, v = .slice A xs.length c ∧ ∀ j, j < xs.length → ∃ b o, A = some ⟨b, o, none⟩ ∧ w.cell? ⟨b, o + j, none⟩ = some (.int .i64 (xs.getD j 0)) ∧ (b < B ∨ ∃ cur f, w.heap[b]? = some (.cells cur 2 f))
theorem RowB.rd {w : World} {B : Nat} {v : Value} {xs : List Int} (h : RowB w B v xs) : ∃ A c, v = .slice A xs.length c ∧ Rd w A (ints xs) := by
  obtain ⟨A, c, rfl, hr⟩ := h
  refine ⟨A, c, rfl, fun j v hj => ?_⟩
  have hjl : j < xs.length := by
    have := (List.getElem?_eq_some_iff.1 hj).1
    rwa [ints_length] at this
  obtain ⟨b, o, rfl, hc, _⟩ := hr j hjl
  rw [ints_get hjl] at hj
  injection hj with hj
  subst hj
  exact ⟨b, o, rfl, hc⟩
theorem RowB.one {w : World} {B : Nat} {v : Value} {xs : List Int} (h : RowB w B v xs) : v.oneCell' = true ∧ v.cells = #[v] := by
  obtain ⟨A, c, rfl, _⟩ := h
  exact ⟨rfl, rfl⟩
theorem RowB.ext {w w' : World} {B : Nat} {v : Value} {xs : List Int} (h : RowB w B v xs) (he : Ext w w') : RowB w' B v xs := by
  obtain ⟨A, c, rfl, hr⟩ := h
  refine ⟨A, c, rfl, fun j hj => ?_⟩
  obtain ⟨b, o, rfl, hc, ht⟩ := hr j hj
  refine ⟨b, o, rfl, he.cell hc, ht.imp_right ?_⟩
  rintro ⟨cur, f, hg⟩
  exact ⟨cur, f, (he.block b (Array.getElem?_eq_some_iff.1 hg).1).trans hg⟩
theorem RowB.own {w : World} {B B' : Nat} {v : Value} {xs : List Int} (h : OwnI B' w v xs) : RowB w B v xs := by
  obtain ⟨A, c, hv, hr⟩ := h.form
  refine ⟨A, c, hv, fun j hj => ?_⟩
  obtain ⟨b, o, rfl, hc⟩ := hr.int hj
  refine ⟨b, o, rfl, hc, .inr ?_⟩
  rcases h.2 with ⟨e, h0⟩ | ⟨g, cap, cur, e, _, hg, _⟩
  · omega
  · rw [hv] at e
    injection e with e _ _
    injection e with e
    injection e with e _ _
    subst e
    exact ⟨cur, _, hg⟩
theorem RowB.old {w : World} {B : Nat} {A : Option Addr} {c : Nat} {xs : List Int} (h : Rd w A (ints xs)) (hB : w.heap.size ≤ B) : RowB w B (.slice A xs.length c) xs := by
  refine ⟨A, c, rfl, fun j hj => ?_⟩
  obtain ⟨b, o, rfl, hc⟩ := h.int hj
  have := World.block_lt_of_cell? w _ hc
  exact ⟨b, o, rfl, hc, .inl (Nat.lt_of_lt_of_le this hB)⟩
theorem cell_of_block {w w' : World} {b o : Nat} (h : w'.heap[b]? = w.heap[b]?) : w'.cell? ⟨b, o, none⟩ = w.cell? ⟨b, o, none⟩ := by
  simp [World.cell?, h]
/-- A row of one's own of slices was written: the series are as they were. -/
theorem RowB.grown {w w' : World} {B n : Nat} {v s : Value} {xs : List Int} {vs : List Value} (h : RowB w B v xs) (ho : w.ownsRow B 24 1 s n vs) (hg : w.grownBy w' s.ownBlock) : RowB w' B v xs := by
  obtain ⟨A, c, rfl, hr⟩ := h
  refine ⟨A, c, rfl, fun j hj => ?_⟩
  obtain ⟨b, o, rfl, hc, ht⟩ := hr j hj
  have hlt := World.block_lt_of_cell? w _ hc
  have hb : w'.heap[b]? = w.heap[b]? := hg.block b hlt fun e => by
    have h1 := own_block ho e.symm
    rcases ht with ht | ⟨cur, f, ht⟩
    · omega
    · rcases ho.2 with ⟨rfl, _⟩ | ⟨g, cap, cur', rfl, _, hg', _⟩
      · cases e
      · injection e with e
        subst e
        rw [ht] at hg'
        injection hg' with hg'
        injection hg' with _ h2 _
        exact absurd h2 (by decide)
  refine ⟨b, o, rfl, (cell_of_block hb).trans hc, ht.imp_right ?_⟩
  rintro ⟨cur, f, ht⟩
  exact ⟨cur, f, hb.trans ht⟩
/-- A slice of series of one's own, its series wherever. -/
def OutR (B : Nat) (w : World) (s : Value) (xss : List (List Int)) : Prop := ∃ vs, w.ownsRow B 24 1 s xss.length vs ∧ ∀ i, i < xss.length → ∃ v, vs[i]? = some v ∧ RowB w B v (xss.getD i [])
theorem OutR.rows {B : Nat} {w : World} {s : Value} {xss : List (List Int)} (h : OutR B w s xss) : ∃ A c, s = .slice A xss.length c ∧ Rows w A xss := by
  obtain ⟨vs, ho, hr⟩ := h
  obtain ⟨A, c, rfl, hrd⟩ := own_form ho
  refine ⟨A, c, rfl, fun i hi => ?_⟩
  obtain ⟨v, hv, hb⟩ := hr i hi
  obtain ⟨A', c', rfl, hx⟩ := hb.rd
  obtain ⟨b, o, rfl, hc⟩ := hrd i _ hv
  exact ⟨b, o, A', c', rfl, hc, hx⟩
theorem OutR.ext {B : Nat} {w w' : World} {s : Value} {xss : List (List Int)} (h : OutR B w s xss) (he : Ext w w') : OutR B w' s xss := by
  obtain ⟨vs, ho, hr⟩ := h
  refine ⟨vs, own_ext ho he, fun i hi => ?_⟩
  obtain ⟨v, hv, hb⟩ := hr i hi
  exact ⟨v, hv, hb.ext he⟩
theorem OutR.nil {B : Nat} {w : World} {s : Value} (h : w.ownsRow B 24 1 s 0 []) : OutR B w s [] := ⟨[], h, fun i hi => by simp at hi⟩
theorem OutR.apart {B : Nat} {w : World} {s : Value} {xss : List (List Int)} {e size g n c : Nat} {cs : List Value} (h : OutR B w s xss) (ha : At w e size g n c cs) (he : e ≠ 24) : some g ≠ s.ownBlock := by
  obtain ⟨vs, ho, _⟩ := h
  intro hq
  rcases ho.2 with ⟨rfl, _⟩ | ⟨g', cap, cur, rfl, _, hg, _⟩
  · cases hq
  · injection hq with hq
    subst hq
    obtain ⟨cur', h1, _⟩ := ha.row
    rw [hg] at h1
    injection h1 with h1
    injection h1 with _ h2 _
    exact he h2.symm
theorem getD_snoc {α : Type} {xs : List α} {x d : α} {i : Nat} (h : i < xs.length) : (xs ++ [x]).getD i d = xs.getD i d := by
  simp [List.getElem?_append_left h]
theorem getD_last {α : Type} {xs : List α} {x d : α} : (xs ++ [x]).getD xs.length d = x := by simp
section
variable {n : Nat} {ρ : Env} {dst : Option Tmp} {ty : TypeId} {pos : String} {af : Array Edge} {gd : Option (Nat × Bool)}
end
theorem Ext.after {w w1 w2 : World} (h : Ext w w1) (k : Below w.heap.size w1 w2) : Ext w w2 := Below.trans h k
end Eng
end Go.Proofs.Ytgahkbcfjibjaaa
