/- An argument that is an expression, opened. No condition. -/
import Derived.Test.YtgahkbcfjibjaaaEa
import Derived.Deep.Slices
import Derived.Deep.Fields
import Derived.ChangeSame
import Derived.Lib.SmallJoins
namespace Go.Proofs.Ytgahkbcfjibjaaa
open Go Go.RowKit Go.ChangeShapes Go.WideShapes Go.Deep
namespace Eng
section
variable {H : Type} {enc : TypeId × Value → H} {w : World} {base : Nat} {spare : Nat → Bool} {held : Bool}
/-- The elements of a slice, with the fuel that they were read with. -/
theorem slice_elems {P : Program} {t e : TypeId} {fuel : Nat} {v : Value} {x : DataW H × List MemPlace} (ht : P.underlying t = some (.slice e)) (h : DataW.trod enc P w base spare held fuel t [v] = some x) :
    v = .slice none 0 0 ∨ ∃ a len cap n, fuel = n + 1 ∧ v = .slice (some a) len cap ∧ len ≤ maxLen ∧ len ≤ cap ∧ ∀ i, i < len → ∃ cs' y, w.cells? base (a.add (i * P.cellsOf e)) (P.cellsOf e) = some cs' ∧ DataW.trod enc P w base spare held n e cs' = some y := by
  rcases DataW.trod_slice ht h with ⟨hcs, _⟩ | ⟨a, len, cap, elems, rest, n, hn, hcs, _, _, hl, hm, hlen, hel, _⟩
  · exact .inl (by simpa using hcs)
  · refine .inr ⟨a, len, cap, n, hn, by simpa using hcs, by omega, by omega, fun i hi => ?_⟩
    have key := hel i hi
    rw [List.getElem?_eq_getElem (by omega)] at key
    obtain ⟨cs', h1, h2⟩ := Option.bind_eq_some_iff.1 key
    exact ⟨cs', _, h1, h2⟩
theorem addr_plain {a : Addr} {v : Value} (h : w.cell? (a.add 0) = some v) : ∃ b o, a = ⟨b, o, none⟩ := by
  obtain ⟨b, o, s⟩ := a
  cases s with
  | none => exact ⟨b, o, rfl⟩
  | some q =>
    simp [Addr.add, World.cell?] at h
    split at h <;> cases h
theorem plain_cells {a : Addr} {s m : Nat} {cs : List Value} (h0 : 0 < m) (h : w.cells? base (a.add (0 * s)) m = some cs) : ∃ b o, a = ⟨b, o, none⟩ := by
  obtain ⟨_, hcl, hat⟩ := World.cells?_some h
  have c0 := hat 0 h0
  rw [List.getElem?_eq_getElem (by omega), Go.Deep.add_add, show 0 * s + 0 = 0 from by omega] at c0
  exact addr_plain c0
/-- Cells that were read, as they lie. -/
theorem lies_cells {b o k m : Nat} {cs : List Value} (h0 : 0 < m) (h : w.cells? base ((⟨b, o, none⟩ : Addr).add k) m = some cs) : b < w.heap.size ∧ Lies w b (o + k) cs ∧ cs.length = m := by
  obtain ⟨_, hcl, hat⟩ := World.cells?_some h
  have c0 := hat 0 h0
  rw [List.getElem?_eq_getElem (by omega), Go.Deep.add_add, addr_add] at c0
  refine ⟨World.block_lt_of_cell? w _ c0, fun j v hj => ?_, hcl⟩
  have hjl := (List.getElem?_eq_some_iff.1 hj).1
  have := hat j (by omega)
  rw [addr_add, addr_add] at this
  exact this.trans hj
/-- Elements that are chosen one by one make a list. -/
theorem choose_list {α : Type} (d : α) {Q : Nat → α → List Value → Prop} {n : Nat} (h : ∀ i, i < n → ∃ x cs, Q i x cs) : ∃ (xs : List α) (f : Nat → List Value), xs.length = n ∧ ∀ i, i < n → Q i (xs.getD i d) (f i) := by
  have key : ∀ i, ∃ p : α × List Value, i < n → Q i p.1 p.2 := fun i => by
    by_cases hi : i < n
    · obtain ⟨x, cs, hq⟩ := h i hi
      exact ⟨(x, cs), fun _ => hq⟩
    · exact ⟨(d, []), fun q => absurd q hi⟩
  obtain ⟨f, hf⟩ := Classical.axiomOfChoice key
  refine ⟨(List.range n).map fun i => (f i).1, fun i => (f i).2, by simp, fun i hi => ?_⟩
  have := hf i hi
  simpa [hi] using this
theorem maxLen_room {n : Nat} (h : n ≤ maxLen) : n ≤ 9223372036854775807 := by
  unfold maxLen at h
  simp at h
  omega
theorem kids_of {fuel : Nat} (ih : ∀ n, n < fuel → ∀ cs y, DataW.trod enc Try.prog w base spare held n 54 cs = some y → ∃ e, ExB w 0 cs e) {v : Value} {y : DataW H × List MemPlace} (h : DataW.trod enc Try.prog w base spare held fuel 52 [v] = some y) :
    ∃ A cap ks, v = .slice A (List.length ks) cap ∧ KsB w 0 A ks := by
  rcases slice_elems Try.underlying52 h with rfl | ⟨a, len, cap, n, rfl, rfl, hm, _, hel⟩
  · exact ⟨none, 0, [], rfl, KsB.nil _ _ _⟩
  · have h5 : Try.prog.cellsOf 54 = 5 := by kernel_rfl
    rw [h5] at hel
    by_cases h0 : 0 < len
    · obtain ⟨c0, y0, hc0, _⟩ := hel 0 h0
      obtain ⟨b, o, rfl⟩ := plain_cells (by decide) hc0
      obtain ⟨ks, f, hl, hq⟩ := choose_list dEx (Q := fun i x cs => (b < w.heap.size ∧ Lies w b (o + i * 5) cs) ∧ ExB w 0 cs x) (n := len) fun i hi => by
        obtain ⟨cs', y', h1, h2⟩ := hel i hi
        obtain ⟨hb, hL, _⟩ := lies_cells (by decide) h1
        obtain ⟨x, hx⟩ := ih n (Nat.lt_succ_self _) cs' y' h2
        exact ⟨x, cs', ⟨hb, hL⟩, hx⟩
      exact ⟨_, cap, ks, by rw [hl], by rw [hl]; exact maxLen_room hm, f, fun i hi => ⟨b, o, rfl, Nat.zero_le _, (hq i (by omega)).1.1, (hq i (by omega)).1.2⟩, fun i hi => (hq i (by omega)).2⟩
    · obtain rfl : len = 0 := by omega
      exact ⟨some a, cap, [], rfl, KsB.nil _ _ _⟩
set_option maxRecDepth 100000 in
theorem open_ex : ∀ (fuel : Nat) (cs : List Value) (y : DataW H × List MemPlace), DataW.trod enc Try.prog w base spare held fuel 54 cs = some y → ∃ e, ExB w 0 cs e := by
  intro fuel
  induction fuel using Nat.strongRecOn with
  | _ fuel ih =>
    intro cs y h
    have h1 : Try.prog.cellsOf 2 = 1 := by kernel_rfl
    have hs : Try.prog.cellsOf 52 = 1 := by kernel_rfl
    have h5 : Try.prog.cellsOf 54 = 5 := by kernel_rfl
    obtain ⟨xs, n', hn, _, hlen, hxl, hf⟩ := DataW.trod_struct Try.underlying54 h
    rw [h5] at hlen
    have f0 : DataW.trod enc Try.prog w base spare held n' 2 ((cs.drop 0).take (Try.prog.cellsOf 2)) = xs[0]? := hf 0 _ rfl
    rw [h1] at f0
    have f1 : DataW.trod enc Try.prog w base spare held n' 2 ((cs.drop 1).take (Try.prog.cellsOf 2)) = xs[1]? := hf 1 _ rfl
    rw [h1] at f1
    have f2 : DataW.trod enc Try.prog w base spare held n' 2 ((cs.drop 2).take (Try.prog.cellsOf 2)) = xs[2]? := hf 2 _ rfl
    rw [h1] at f2
    have f3 : DataW.trod enc Try.prog w base spare held n' 2 ((cs.drop 3).take (Try.prog.cellsOf 2)) = xs[3]? := hf 3 _ rfl
    rw [h1] at f3
    have f4 : DataW.trod enc Try.prog w base spare held n' 52 ((cs.drop 4).take (Try.prog.cellsOf 52)) = xs[4]? := hf 4 _ rfl
    rw [hs] at f4
    match cs, hlen, xs, hxl with
    | [c0, c1, c2, c3, c4], _, [x0, x1, x2, x3, x4], _ =>
      obtain ⟨n0, e0, _⟩ := DataW.trod_int Try.underlying2 f0
      obtain ⟨n1, e1, _⟩ := DataW.trod_int Try.underlying2 f1
      obtain ⟨n2, e2, _⟩ := DataW.trod_int Try.underlying2 f2
      obtain ⟨n3, e3, _⟩ := DataW.trod_int Try.underlying2 f3
      obtain ⟨A, cap, ks, e4, hK⟩ := kids_of (fun n hlt => ih n (by omega)) f4
      simp at e0 e1 e2 e3
      subst e0 e1 e2 e3 e4
      exact ⟨_, ExB.of n0 n1 n2 n3 cap hK⟩
set_option maxRecDepth 100000 in
theorem open_expr {r : Reach} {b0 : Nat} {v : Value} {d : DataW H} {p : List MemPlace} (hv : Value.okWide Try.prog w r b0 54 v) (h : DataW.Trod enc Try.prog w base spare held 54 v d p) :
    ∃ cs e, v = .agg cs.toArray ∧ ExB w 0 cs e := by
  obtain ⟨cs, rfl, _⟩ := okWide_struct Try.underlying54 hv
  obtain ⟨fuel, hf⟩ := h
  obtain ⟨e, he⟩ := open_ex fuel _ _ hf
  exact ⟨cs.toList, e, rfl, he⟩
end
end Eng
end Go.Proofs.Ytgahkbcfjibjaaa
