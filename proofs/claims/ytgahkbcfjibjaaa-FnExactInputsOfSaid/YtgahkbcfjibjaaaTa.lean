/- The registers of a tape: what they are, and both programs. Conditions: a valid tape, arguments of one size. -/
import Derived.Test.YtgahkbcfjibjaaaTz
namespace Go.Proofs.Ytgahkbcfjibjaaa
open Go Go.RowKit
namespace Eng
def stepS (args : List (List Int)) (sz : Nat) (out : List (List Int)) (x : Ins) : Option (List Int) :=
  if x.op = 1 then some (args.getD x.num.toNat [])
  else if x.op = 2 then some (constL x.num sz)
  else if x.op = 3 then some (addL (out.getD x.a.toNat []) (out.getD x.b.toNat []))
  else if x.op = 4 then some (subL (out.getD x.a.toNat []) (out.getD x.b.toNat []))
  else if x.op = 5 then some (mulL (out.getD x.a.toNat []) (out.getD x.b.toNat []))
  else if x.op = 7 then some (scaleL (out.getD x.a.toNat []) 1000002)
  else if (out.getD x.b.toNat []).getD 0 0 = 0 then none else some (divL (out.getD x.a.toNat []) (out.getD x.b.toNat []))
def regS (t : Tp) (args : List (List Int)) (sz : Nat) : Nat → Option (List (List Int))
  | 0 => some []
  | k + 1 => (regS t args sz k).bind fun out => (stepS args sz out (t.code.getD k dIns)).map fun s => out ++ [s]
/-- Series of one size, all of numbers. -/
def Good (sz : Nat) (xss : List (List Int)) : Prop := ∀ i, i < xss.length → (xss.getD i []).length = sz ∧ nums (xss.getD i []) = true
theorem Good.nil (sz : Nat) : Good sz [] := fun i hi => by simp at hi
theorem Good.push {sz : Nat} {xss : List (List Int)} {xs : List Int} (h : Good sz xss) (hl : xs.length = sz) (hn : nums xs = true) : Good sz (xss ++ [xs]) := fun i hi => by
  rw [List.length_append, List.length_singleton] at hi
  by_cases hii : i < xss.length
  · rw [getD_snoc hii]; exact h i hii
  · obtain rfl : i = xss.length := by omega
    rw [getD_last]; exact ⟨hl, hn⟩
theorem okI_in {inp k : Int} {x : Ins} (h : okI inp x k = true) (o : x.op = 1) : 0 ≤ x.num ∧ x.num < inp := by
  unfold okI at h
  rw [if_pos o] at h
  simp only [Bool.and_eq_true, inB_iff] at h
  omega
theorem okI_num {inp k : Int} {x : Ins} (h : okI inp x k = true) (o : x.op = 2) : isNum x.num = true := by
  unfold okI at h
  rw [if_neg (by omega), if_pos o] at h
  simp only [Bool.and_eq_true] at h
  exact h.2.2
theorem okI_bin {inp k : Int} {x : Ins} (h : okI inp x k = true) (o : x.op = 3 ∨ x.op = 4 ∨ x.op = 5 ∨ x.op = 6) : (0 ≤ x.a ∧ x.a < k) ∧ 0 ≤ x.b ∧ x.b < k := by
  unfold okI at h
  rw [if_neg (by omega), if_neg (by omega), if_pos o] at h
  simp only [Bool.and_eq_true, inB_iff] at h
  omega
theorem okI_neg {inp k : Int} {x : Ins} (h : okI inp x k = true) (o : x.op = 7) : 0 ≤ x.a ∧ x.a < k := by
  unfold okI at h
  rw [if_neg (by omega), if_neg (by omega), if_neg (by omega), if_pos o] at h
  simp only [Bool.and_eq_true, inB_iff] at h
  omega
theorem nums_constL {n : Int} (h : isNum n = true) (m : Nat) : nums (constL n m) = true := by
  unfold nums
  rw [List.all_eq_true]
  intro x hx
  rcases List.mem_or_eq_of_mem_set hx with hx | rfl
  · rw [List.eq_of_mem_replicate hx]; decide
  · exact h
theorem step_good {inp : Int} {args out : List (List Int)} {sz k : Nat} {x : Ins} {s : List Int} (h : okI inp x k = true) (hl : (args.length : Int) = inp) (ha : Good sz args) (ho : Good sz out) (hk : out.length = k) (e : stepS args sz out x = some s) : s.length = sz ∧ nums s = true := by
  have hop := okI_op h
  unfold stepS at e
  split at e
  · rename_i o
    have := okI_in h o
    injection e with e
    subst e
    exact ha _ (by omega)
  · split at e
    · rename_i o
      injection e with e
      subst e
      exact ⟨constL_length _ _, nums_constL (okI_num h o) _⟩
    · split at e
      · have := okI_bin h (by omega)
        injection e with e
        subst e
        exact ⟨by rw [addL_length]; exact (ho _ (by omega)).1, nums_addL _ _⟩
      · split at e
        · have := okI_bin h (by omega)
          injection e with e
          subst e
          exact ⟨by unfold subL; rw [addL_length]; exact (ho _ (by omega)).1, nums_addL _ _⟩
        · split at e
          · have := okI_bin h (by omega)
            injection e with e
            subst e
            exact ⟨by rw [mulL_length]; exact (ho _ (by omega)).1, nums_mulL _ _⟩
          · split at e
            · rename_i o
              have := okI_neg h o
              injection e with e
              subst e
              exact ⟨by rw [scaleL_length]; exact (ho _ (by omega)).1, nums_scaleL _ _⟩
            · split at e
              · cases e
              · have := okI_bin h (by omega)
                injection e with e
                subst e
                exact ⟨by rw [divL_length]; exact (ho _ (by omega)).1, nums_divL⟩
theorem regS_succ {t : Tp} {args out : List (List Int)} {sz k : Nat} {s : List Int} (h : regS t args sz k = some out) (e : stepS args sz out (t.code.getD k dIns) = some s) : regS t args sz (k + 1) = some (out ++ [s]) := by
  simp only [regS, h, e, Option.bind_some, Option.map_some]
theorem regS_fail {t : Tp} {args out : List (List Int)} {sz k : Nat} (h : regS t args sz k = some out) (e : stepS args sz out (t.code.getD k dIns) = none) : ∀ n, k < n → regS t args sz n = none := by
  intro n hn
  obtain ⟨m, rfl⟩ : ∃ m, n = k + 1 + m := ⟨n - (k + 1), by omega⟩
  clear hn
  induction m with
  | zero => simp only [regS, h, e, Option.bind_some, Option.map_none]
  | succ m ih =>
    show (regS t args sz (k + 1 + m)).bind _ = none
    rw [ih]
    rfl
/-- All k registers are there, and are good. -/
theorem regS_good {t : Tp} {args : List (List Int)} {sz : Nat} (ok : okT t = true) (hl : (args.length : Int) = t.inputs) (ha : Good sz args) : ∀ {k : Nat} {out : List (List Int)}, k ≤ t.code.length → regS t args sz k = some out → out.length = k ∧ Good sz out := by
  intro k
  induction k with
  | zero =>
    intro out _ e
    injection e with e
    subst e
    exact ⟨rfl, Good.nil _⟩
  | succ k ih =>
    intro out hk e
    cases e0 : regS t args sz k with
    | none => simp [regS, e0] at e
    | some o0 =>
      obtain ⟨h1, h2⟩ := ih (by omega) e0
      cases e1 : stepS args sz o0 (t.code.getD k dIns) with
      | none =>
        have : regS t args sz (k + 1) = none := by simp only [regS, e0, e1, Option.bind_some, Option.map_none]
        rw [this] at e
        cases e
      | some s =>
        rw [regS_succ e0 e1] at e
        injection e with e
        subst e
        have := step_good ((okT_iff.1 ok).2.2.2.2.1 k (by omega)) hl ha h2 h1 e1
        exact ⟨by simp [h1], h2.push this.1 this.2⟩
section
variable {n : Nat} {ρ : Env} {dst : Option Tmp} {ty : TypeId} {pos : String} {af : Array Edge} {gd : Option (Nat × Bool)}
theorem Hv.build1A {w : World} {x : Operand} {u : Value} {t e : TypeId} {z : Value} {by_ : Nat} (ht : UTab.und Try.prog t = some (.slice e)) (hi : UTab.inf Try.prog e = some (z, 1, by_)) (hx : ev ρ x = some u) (hu : u.cells = #[u]) :
    Hv Try.prog n ρ ⟨dst, .buildSlice t 1 #[(0, x)], ty, pos, af, gd⟩ w (fun v w' => ∃ g, v = .slice (some ⟨g, 0, none⟩) 1 1 ∧ At w' e 1 g 1 1 [u] ∧ g = w.heap.size ∧ Ext w w') :=
  (Hv.build1 ht hi hx hu).mono fun _ _ h => ⟨_, h.1, h.2 ▸ At.fresh w e #[u] 1 rfl, rfl, h.2 ▸ Ext.alloc w _⟩
end
def RegOut (w : World) (c0 c1 : Value) (B : Nat) (res : Option (List (List Int))) (r : Value) (w' : World) : Prop :=
  (match res with
    | none => ∃ s, r = .tuple #[s, c0]
    | some out => ∃ s, r = .tuple #[s, c1] ∧ OutR B w' s out) ∧ Ext w w'
theorem RegOut.none {w w' : World} {c0 c1 : Value} {B : Nat} {res : Option (List (List Int))} {s : Value} (e : res = Option.none) (he : Ext w w') : RegOut w c0 c1 B res (.tuple #[s, c0]) w' := by
  subst e; exact ⟨⟨s, rfl⟩, he⟩
theorem RegOut.some {w w' : World} {c0 c1 : Value} {B : Nat} {res : Option (List (List Int))} {out : List (List Int)} {s : Value} (e : res = Option.some out) (ho : OutR B w' s out) (he : Ext w w') : RegOut w c0 c1 B res (.tuple #[s, c1]) w' := by
  subst e; exact ⟨⟨s, rfl, ho⟩, he⟩

end Eng
end Go.Proofs.Ytgahkbcfjibjaaa
