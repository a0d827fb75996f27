/- The reverse sweep in the reference. Conditions: as each says. -/
import Derived.Test.YtgahkbcfjibjaaaTf
namespace Go.Proofs.Ytgahkbcfjibjaaa
open Go Go.RowKit
namespace Eng
theorem At.ne {w : World} {e e' s s' g g' n n' c c' : Nat} {cs cs' : List Value} (h : At w e s g n c cs) (k : At w e' s' g' n' c' cs') (he : e ≠ e') : g ≠ g' := by
  rintro rfl
  obtain ⟨cur, h1, _⟩ := h.row
  obtain ⟨cur', h2, _⟩ := k.row
  rw [h1] at h2
  injection h2 with h2
  injection h2 with _ h3 _
  exact he h3
/-- Rows of series in the block g. -/
structure OutA (B : Nat) (w : World) (g c n : Nat) (xss : List (List Int)) : Prop where
  lo : B ≤ g
  len : xss.length = n
  row : ∃ vs, At w 24 1 g n c vs ∧ ∀ i, i < n → ∃ v, vs[i]? = some v ∧ RowB w B v (xss.getD i [])
theorem OutR.outA {B : Nat} {w : World} {s : Value} {xss : List (List Int)} (h : OutR B w s xss) (h0 : 0 < xss.length) : ∃ g c, s = .slice (some ⟨g, 0, none⟩) xss.length c ∧ OutA B w g c xss.length xss := by
  obtain ⟨vs, ho, hr⟩ := h
  obtain ⟨g, c, rfl, hB, hat⟩ := own_at ho h0
  exact ⟨g, c, rfl, hB, rfl, vs, hat, hr⟩
theorem OutA.outR {B g c n : Nat} {w : World} {xss : List (List Int)} (h : OutA B w g c n xss) : OutR B w (.slice (some ⟨g, 0, none⟩) n c) xss := by
  obtain ⟨vs, hat, hr⟩ := h.row
  have := h.len
  subst this
  exact ⟨vs, At.own hat h.lo, hr⟩
theorem OutA.ext {B g c n : Nat} {w w' : World} {xss : List (List Int)} (h : OutA B w g c n xss) (he : Ext w w') : OutA B w' g c n xss := by
  obtain ⟨vs, hat, hr⟩ := h.row
  exact ⟨h.lo, h.len, vs, At.ext hat he, fun i hi => by obtain ⟨v, h1, h2⟩ := hr i hi; exact ⟨v, h1, h2.ext he⟩⟩
theorem OutA.get {B g c n : Nat} {w : World} {xss : List (List Int)} (h : OutA B w g c n xss) {i : Nat} (hi : i < n) : ∃ A d, w.cell? ⟨g, i, none⟩ = some (.slice A (xss.getD i []).length d) ∧ RowB w B (.slice A (xss.getD i []).length d) (xss.getD i []) ∧ Rd w A (ints (xss.getD i [])) := by
  obtain ⟨vs, hat, hr⟩ := h.row
  obtain ⟨v, h1, h2⟩ := hr i hi
  obtain ⟨A, d, rfl, h3⟩ := h2.rd
  exact ⟨A, d, At.cell hat h1, h2, h3⟩
theorem OutA.at_ {B g c n : Nat} {w : World} {xss : List (List Int)} (h : OutA B w g c n xss) : ∃ vs, At w 24 1 g n c vs := by
  obtain ⟨vs, hat, _⟩ := h.row
  exact ⟨vs, hat⟩
theorem OutA.apart {B g c n : Nat} {w : World} {xss : List (List Int)} (h : OutA B w g c n xss) {e size g' n' c' : Nat} {cs : List Value} (ha : At w e size g' n' c' cs) (he : e ≠ 24) : some g' ∉ [some g] := by
  obtain ⟨vs, hat⟩ := h.at_
  have := At.ne ha hat he
  simp; exact this
theorem RowB.only {w w' : World} {B g : Nat} {v : Value} {xs : List Int} (h : RowB w B v xs) (hB : B ≤ g) {n c : Nat} {vs : List Value} (hat : At w 24 1 g n c vs) (k : Only [some g] w w') : RowB w' B v xs := by
  obtain ⟨A, d, rfl, hr⟩ := h
  refine ⟨A, d, rfl, fun j hj => ?_⟩
  obtain ⟨b, o, rfl, hc, ht⟩ := hr j hj
  have hlt := World.block_lt_of_cell? w _ hc
  have hne : b ≠ g := by
    rcases ht with ht | ⟨cur, f, ht⟩
    · exact fun e => by subst e; exact absurd hB (by exact Nat.not_le_of_lt ht)
    · rintro rfl
      obtain ⟨cur', h1, _⟩ := hat.row
      rw [ht] at h1
      injection h1 with h1
      injection h1 with _ h2 _
      exact absurd h2 (by decide)
  have hb : w'.heap[b]? = w.heap[b]? := k.block b hlt (by simp; exact hne)
  refine ⟨b, o, rfl, (cell_of_block hb).trans hc, ht.imp_right ?_⟩
  rintro ⟨cur, f, ht⟩
  exact ⟨cur, f, hb.trans ht⟩
theorem RowB.onlyA {w w' : World} {B g c n : Nat} {v : Value} {xs : List Int} {xss : List (List Int)} (h : RowB w B v xs) (ho : OutA B w g c n xss) (k : Only [some g] w w') : RowB w' B v xs := by
  obtain ⟨vs, hat⟩ := ho.at_
  exact h.only ho.lo hat k
section
variable {n : Nat} {ρ : Env} {dst : Option Tmp} {ty : TypeId} {pos : String} {af : Array Edge} {gd : Option (Nat × Bool)}
/-- 'rows[k] = row' -/
theorem Hv.putRow {w : World} {B g c m k : Nat} {x y : Operand} {u : Value} {xss : List (List Int)} {xs : List Int} (hx : ev ρ x = some (.pointer (some ⟨g, k, none⟩))) (hy : ev ρ y = some u) (h : OutA B w g c m xss) (hk : k < m) (hu : RowB w B u xs) :
    Hv Try.prog n ρ ⟨none, .store 24 x y, ty, pos, af, gd⟩ w (fun _ w' => OutA B w' g c m (xss.set k xs) ∧ Only [some g] w w') := by
  have h0 := h
  obtain ⟨vs, hat, hr⟩ := h.row
  have hvl : vs.length = m := by have := hat.len; simpa using this
  refine (Hv.storeG rfl hx hy hu.one.1 hu.one.2 hat (List.getElem?_eq_getElem (by omega))).mono ?_
  rintro _ w' ⟨hat', hg⟩
  have ho := Only.one hg
  refine ⟨⟨h.lo, by rw [List.length_set]; exact h.len, vs.set k u, hat', fun i hi => ?_⟩, ho⟩
  by_cases hik : k = i
  · subst hik
    refine ⟨u, by rw [List.getElem?_set_self (by omega)], ?_⟩
    rw [getD_setA (by rw [h.len]; exact hk)]
    exact hu.onlyA h0 ho
  · obtain ⟨v, h1, h2⟩ := hr i hi
    refine ⟨v, by rw [List.getElem?_set_ne hik]; exact h1, ?_⟩
    rw [getD_setB hik]
    exact h2.onlyA h0 ho
end
theorem Only.then_ {a b c : World} {g : Nat} (h : Ext a b) (k : Only [some g] b c) : Only [some g] a c := ((Only.ext h).trans k).mono fun x hx => by simpa using hx
theorem Only.both {a b c : World} {g : Nat} (h : Only [some g] a b) (k : Only [some g] b c) : Only [some g] a c := (h.trans k).mono fun x hx => by simpa using hx
theorem Only.fore {a b c : World} {g : Nat} (h : Only [some g] a b) (k : Ext b c) : Only [some g] a c := (h.trans (Only.ext k)).mono fun x hx => by simpa using hx
theorem Ext.only {w a b : World} {g : Nat} (h : Ext w a) (k : Only [some g] a b) (hg : w.heap.size ≤ g) : Ext w b := Only.after h k fun j hj => by
  have : j = g := by simpa using hj
  omega
theorem replicate_snoc {α : Type} (n : Nat) (x : α) : List.replicate (n + 1) x = List.replicate n x ++ [x] := List.replicate_succ'
end Eng
end Go.Proofs.Ytgahkbcfjibjaaa
