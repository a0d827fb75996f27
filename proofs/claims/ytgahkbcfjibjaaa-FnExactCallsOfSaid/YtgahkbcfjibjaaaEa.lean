/- Expressions as trees, and how they lie in the world. Conditions: as each says. -/
import Derived.Test.YtgahkbcfjibjaaaGn
namespace Go.Proofs.Ytgahkbcfjibjaaa
open Go Go.RowKit
namespace Eng
inductive Ex where
  | node (kind num pick count : Int) (kids : List Ex)
namespace Ex
def kind : Ex → Int | .node k _ _ _ _ => k
def num : Ex → Int | .node _ n _ _ _ => n
def pick : Ex → Int | .node _ _ p _ _ => p
def count : Ex → Int | .node _ _ _ c _ => c
def kids : Ex → List Ex | .node _ _ _ _ ks => ks
mutual
def size : Ex → Nat
  | .node _ _ _ _ ks => sizeL ks + 1
def sizeL : List Ex → Nat
  | [] => 0
  | e :: es => size e + sizeL es
end
end Ex
def dEx : Ex := .node 0 0 0 0 []
theorem sizeL_append (xs ys : List Ex) : Ex.sizeL (xs ++ ys) = Ex.sizeL xs + Ex.sizeL ys := by
  induction xs with
  | nil => simp [Ex.sizeL]
  | cons x xs ih => simp only [List.cons_append, Ex.sizeL, ih]; omega
theorem size_kids (e : Ex) : e.size = Ex.sizeL e.kids + 1 := by cases e; rfl
theorem size_pos (e : Ex) : 1 ≤ e.size := by cases e; simp [Ex.size]
theorem sizeL_ge (xs : List Ex) : xs.length ≤ Ex.sizeL xs := by
  induction xs with
  | nil => simp
  | cons x xs ih => have := size_pos x; simp only [List.length_cons, Ex.sizeL]; omega
theorem take_next {α : Type} {d : α} {xs : List α} {i : Nat} (h : i < xs.length) : xs.take (i + 1) = xs.take i ++ [xs.getD i d] := by
  rw [List.take_succ_eq_append_getElem h]
  simp [h]
theorem sizeL_take {ks : List Ex} {i : Nat} (h : i < ks.length) : Ex.sizeL (ks.take (i + 1)) = Ex.sizeL (ks.take i) + (ks.getD i dEx).size := by
  rw [take_next (d := dEx) h, sizeL_append]
  simp [Ex.sizeL]
theorem sizeL_split (ks : List Ex) (i : Nat) : Ex.sizeL ks = Ex.sizeL (ks.take i) + Ex.sizeL (ks.drop i) := by
  rw [← sizeL_append, List.take_append_drop]
theorem sizeL_kid {ks : List Ex} {i : Nat} (h : i < ks.length) : Ex.sizeL (ks.take i) + (ks.getD i dEx).size ≤ Ex.sizeL ks := by
  rw [sizeL_split ks (i + 1), sizeL_take h]
  omega
/-- By induction on the tree. -/
theorem Ex.ind {P : Ex → Prop} (h : ∀ k n p c ks, (∀ i, i < ks.length → P (ks.getD i dEx)) → P (.node k n p c ks)) (e : Ex) : P e := by
  have key : ∀ m e, Ex.size e ≤ m → P e := by
    intro m
    induction m with
    | zero => intro e he; have := size_pos e; omega
    | succ m ih =>
      intro e he
      cases e with
      | node k n p c ks =>
        refine h k n p c ks fun i hi => ih _ ?_
        have := sizeL_kid hi
        simp only [Ex.size] at he
        omega
  exact key _ e (Nat.le_refl _)
/-- The cells of an expression; what hangs below lies in blocks from B on. -/
inductive ExB (w : World) (B : Nat) : List Value → Ex → Prop
  | mk (k n p c : Int) (ks : List Ex) (A : Option Addr) (cap : Nat) (cells : Nat → List Value) (room : ks.length ≤ 9223372036854775807)
      (lies : ∀ i, i < ks.length → ∃ b o, A = some ⟨b, o, none⟩ ∧ B ≤ b ∧ b < w.heap.size ∧ Lies w b (o + i * 5) (cells i))
      (kids : ∀ i, i < ks.length → ExB w B (cells i) (ks.getD i dEx)) :
      ExB w B [.int .i64 k, .int .i64 n, .int .i64 p, .int .i64 c, .slice A ks.length cap] (.node k n p c ks)
/-- A slice of expressions. -/
def KsB (w : World) (B : Nat) (A : Option Addr) (ks : List Ex) : Prop := ks.length ≤ 9223372036854775807 ∧ ∃ cells : Nat → List Value, (∀ i, i < ks.length → ∃ b o, A = some ⟨b, o, none⟩ ∧ B ≤ b ∧ b < w.heap.size ∧ Lies w b (o + i * 5) (cells i)) ∧ ∀ i, i < ks.length → ExB w B (cells i) (ks.getD i dEx)
theorem ExB.of {w : World} {B : Nat} {A : Option Addr} {ks : List Ex} (k n p c : Int) (cap : Nat) (h : KsB w B A ks) : ExB w B [.int .i64 k, .int .i64 n, .int .i64 p, .int .i64 c, .slice A ks.length cap] (.node k n p c ks) := by
  obtain ⟨h0, cells, h1, h2⟩ := h
  exact .mk k n p c ks A cap cells h0 h1 h2
theorem ExB.inv {w : World} {B : Nat} {cs : List Value} {k n p c : Int} {ks : List Ex} (h : ExB w B cs (.node k n p c ks)) : ∃ A cap, cs = [.int .i64 k, .int .i64 n, .int .i64 p, .int .i64 c, .slice A ks.length cap] ∧ KsB w B A ks := by
  cases h with
  | mk _ _ _ _ _ A cap cells h0 h1 h2 => exact ⟨A, cap, rfl, h0, cells, h1, h2⟩
theorem ExB.len {w : World} {B : Nat} {cs : List Value} {e : Ex} (h : ExB w B cs e) : cs.length = 5 := by
  cases h; rfl
theorem ExB.one {w : World} {B : Nat} {cs : List Value} {e : Ex} (h : ExB w B cs e) : ∀ v ∈ cs, v.oneCell' = true := by
  cases h
  intro v hv
  simp only [List.mem_cons, List.not_mem_nil, or_false] at hv
  rcases hv with rfl | rfl | rfl | rfl | rfl <;> rfl
theorem Lies.block {w w' : World} {b o : Nat} {cs : List Value} (h : Lies w b o cs) (e : w'.heap[b]? = w.heap[b]?) : Lies w' b o cs := fun j v hj => by
  have := h j v hj
  rw [← this]
  unfold World.cell?
  rw [e]
theorem ExB.keep {w w' : World} {B : Nat} {cs : List Value} {e : Ex} (hs : w.heap.size ≤ w'.heap.size) (hb : ∀ k, B ≤ k → k < w.heap.size → w'.heap[k]? = w.heap[k]?) (h : ExB w B cs e) : ExB w' B cs e := by
  induction h with
  | mk k n p c ks A cap cells h0 h1 _ ih =>
    refine .mk k n p c ks A cap cells h0 (fun i hi => ?_) ih
    obtain ⟨b, o, hA, hB, hl, hr⟩ := h1 i hi
    exact ⟨b, o, hA, hB, by omega, hr.block (hb b hB hl)⟩
theorem ExB.ext {w w' : World} {B : Nat} {cs : List Value} {e : Ex} (h : ExB w B cs e) (he : Ext w w') : ExB w' B cs e := h.keep he.size fun k _ hk => he.block k hk
theorem ExB.far {w w' : World} {B g : Nat} {cs : List Value} {e : Ex} (h : ExB w B cs e) (hg : w.grownBy w' (some g)) (hB : g < B) : ExB w' B cs e := h.keep hg.size fun k hk hl => hg.block k hl (by intro q; injection q; omega)
theorem ExB.lower {w : World} {B B' : Nat} {cs : List Value} {e : Ex} (h : ExB w B cs e) (hB : B' ≤ B) : ExB w B' cs e := by
  induction h with
  | mk k n p c ks A cap cells h0 h1 _ ih =>
    refine .mk k n p c ks A cap cells h0 (fun i hi => ?_) ih
    obtain ⟨b, o, hA, hb, hl, hr⟩ := h1 i hi
    exact ⟨b, o, hA, by omega, hl, hr⟩
theorem KsB.ext {w w' : World} {B : Nat} {A : Option Addr} {ks : List Ex} (h : KsB w B A ks) (he : Ext w w') : KsB w' B A ks := by
  obtain ⟨h0, cells, h1, h2⟩ := h
  refine ⟨h0, cells, fun i hi => ?_, fun i hi => (h2 i hi).ext he⟩
  obtain ⟨b, o, hA, hB, hl, hr⟩ := h1 i hi
  exact ⟨b, o, hA, hB, Nat.lt_of_lt_of_le hl he.size, hr.ext he⟩
theorem KsB.lower {w : World} {B B' : Nat} {A : Option Addr} {ks : List Ex} (h : KsB w B A ks) (hB : B' ≤ B) : KsB w B' A ks := by
  obtain ⟨h0, cells, h1, h2⟩ := h
  refine ⟨h0, cells, fun i hi => ?_, fun i hi => (h2 i hi).lower hB⟩
  obtain ⟨b, o, hA, hb, hl, hr⟩ := h1 i hi
  exact ⟨b, o, hA, by omega, hl, hr⟩
/-- One element. -/
theorem KsB.kid {w : World} {B : Nat} {A : Option Addr} {ks : List Ex} (h : KsB w B A ks) {i : Nat} (hi : i < ks.length) : ∃ b o cs, A = some ⟨b, o, none⟩ ∧ Lies w b (o + i * 5) cs ∧ ExB w B cs (ks.getD i dEx) ∧ cs.length = 5 := by
  obtain ⟨h0, cells, h1, h2⟩ := h
  obtain ⟨b, o, hA, _, _, hr⟩ := h1 i hi
  exact ⟨b, o, cells i, hA, hr, h2 i hi, (h2 i hi).len⟩
theorem KsB.nil (w : World) (B : Nat) (A : Option Addr) : KsB w B A [] := ⟨by simp, fun _ => [], fun i hi => by simp at hi, fun i hi => by simp at hi⟩
theorem setL_all {cs vs : List Value} (h : cs.length = vs.length) : setL cs 0 vs = vs := by
  rw [setL_eq _ _ _ (by omega)]
  simp [h]
/-- An expression that a pointer leads to. -/
def ExP (w : World) (b o : Nat) (e : Ex) : Prop := ∃ cs, Lies w b o cs ∧ ExB w 0 cs e
theorem ExP.ext {w w' : World} {b o : Nat} {e : Ex} (h : ExP w b o e) (he : Ext w w') : ExP w' b o e := by
  obtain ⟨cs, h1, h2⟩ := h
  exact ⟨cs, h1.ext he, h2.ext he⟩
/-- The value of an expression. -/
def ExV (w : World) (v : Value) (e : Ex) : Prop := ∃ cs, v = .agg cs.toArray ∧ ExB w 0 cs e
theorem ExV.ext {w w' : World} {v : Value} {e : Ex} (h : ExV w v e) (he : Ext w w') : ExV w' v e := by
  obtain ⟨cs, h1, h2⟩ := h
  exact ⟨cs, h1, h2.ext he⟩
end Eng
end Go.Proofs.Ytgahkbcfjibjaaa
