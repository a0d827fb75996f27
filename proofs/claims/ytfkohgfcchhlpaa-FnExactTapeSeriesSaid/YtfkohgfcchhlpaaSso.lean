/- An argument that is a slice of slices of numbers, opened. No condition. -/
import Derived.Test.YtfkohgfcchhlpaaTz
import Derived.Deep.Slices
import Derived.Deep.Fields
import Derived.ChangeSame
import Derived.Lib.SmallJoins
namespace Go.Proofs.Ytfkohgfcchhlpaa
open Go Go.RowKit Go.ChangeShapes Go.WideShapes Go.Deep
namespace Eng
section
variable {H : Type} {enc : TypeId × Value → H} {w : World} {base : Nat} {spare : Nat → Bool} {held : Bool}
/-- The elements of a slice, with the fuel that they were read with. -/
theorem slice_elems {P : Program} {t e : TypeId} {fuel : Nat} {v : Value} {x : DataW H × List MemPlace} (ht : P.underlying t = some (.slice e)) (h : DataW.trod enc P w base spare held fuel t [v] = some x) :
    v = .slice none 0 0 ∨ ∃ a len cap n, fuel = n + 1 ∧ v = .slice (some a) len cap ∧ len ≤ maxLen ∧ len ≤ cap ∧ ∀ i, i < len → ∃ cs' y, w.cells? base (a.add (i * P.cellsOf e)) (P.cellsOf e) = some cs' ∧ DataW.trod enc P w base spare held n e cs' = some y := by
  rcases DataW.trod_slice ht h with ⟨hcs, _⟩ | ⟨a, len, cap, elems, rest, n, hn, hcs, _, _, hl, hm, hlen, hel, _⟩
  · exact .inl (by simpa using hcs)
  · refine .inr ⟨a, len, cap, n, hn, by simpa using hcs, by omega, by omega, fun i hi => ?_⟩
    have key := hel i hi
    rw [List.getElem?_eq_getElem (by omega)] at key
    obtain ⟨cs', h1, h2⟩ := Option.bind_eq_some_iff.1 key
    exact ⟨cs', _, h1, h2⟩
theorem addr_plain {a : Addr} {v : Value} (h : w.cell? (a.add 0) = some v) : ∃ b o, a = ⟨b, o, none⟩ := by
  obtain ⟨b, o, s⟩ := a
  cases s with
  | none => exact ⟨b, o, rfl⟩
  | some q =>
    simp [Addr.add, World.cell?] at h
    split at h <;> cases h
theorem plain_cells {a : Addr} {s m : Nat} {cs : List Value} (h0 : 0 < m) (h : w.cells? base (a.add (0 * s)) m = some cs) : ∃ b o, a = ⟨b, o, none⟩ := by
  obtain ⟨_, hcl, hat⟩ := World.cells?_some h
  have c0 := hat 0 h0
  rw [List.getElem?_eq_getElem (by omega), Go.Deep.add_add, show 0 * s + 0 = 0 from by omega] at c0
  exact addr_plain c0
/-- Cells that were read, as they lie. -/
theorem lies_cells {b o k m : Nat} {cs : List Value} (h0 : 0 < m) (h : w.cells? base ((⟨b, o, none⟩ : Addr).add k) m = some cs) : b < w.heap.size ∧ Lies w b (o + k) cs ∧ cs.length = m := by
  obtain ⟨_, hcl, hat⟩ := World.cells?_some h
  have c0 := hat 0 h0
  rw [List.getElem?_eq_getElem (by omega), Go.Deep.add_add, addr_add] at c0
  refine ⟨World.block_lt_of_cell? w _ c0, fun j v hj => ?_, hcl⟩
  have hjl := (List.getElem?_eq_some_iff.1 hj).1
  have := hat j (by omega)
  rw [addr_add, addr_add] at this
  exact this.trans hj
/-- Elements that are chosen one by one make a list. -/
theorem choose_list {α : Type} (d : α) {Q : Nat → α → List Value → Prop} {n : Nat} (h : ∀ i, i < n → ∃ x cs, Q i x cs) : ∃ (xs : List α) (f : Nat → List Value), xs.length = n ∧ ∀ i, i < n → Q i (xs.getD i d) (f i) := by
  have key : ∀ i, ∃ p : α × List Value, i < n → Q i p.1 p.2 := fun i => by
    by_cases hi : i < n
    · obtain ⟨x, cs, hq⟩ := h i hi
      exact ⟨(x, cs), fun _ => hq⟩
    · exact ⟨(d, []), fun q => absurd q hi⟩
  obtain ⟨f, hf⟩ := Classical.axiomOfChoice key
  refine ⟨(List.range n).map fun i => (f i).1, fun i => (f i).2, by simp, fun i hi => ?_⟩
  have := hf i hi
  simpa [hi] using this
theorem maxLen_room {n : Nat} (h : n ≤ maxLen) : n ≤ 9223372036854775807 := by
  unfold maxLen at h
  simp at h
  omega
set_option maxRecDepth 100000 in
theorem ints_of {fuel : Nat} {v : Value} {y : DataW H × List MemPlace} (h : DataW.trod enc Try.prog w base spare held fuel 24 [v] = some y) : ∃ A cap xs, v = .slice A (List.length xs) cap ∧ Rd w A (ints xs) ∧ List.length xs ≤ maxLen := by
  rcases slice_elems Try.underlying24 h with rfl | ⟨a, len, cap, n, rfl, rfl, hm, _, hel⟩
  · exact ⟨none, 0, [], rfl, Rd.nil _ _, by simp⟩
  · have h1 : Try.prog.cellsOf 2 = 1 := by kernel_rfl
    rw [h1] at hel
    by_cases h0 : 0 < len
    · obtain ⟨c0, y0, hc0, _⟩ := hel 0 h0
      obtain ⟨b, o, rfl⟩ := plain_cells (by decide) hc0
      obtain ⟨xs, f, hl, hq⟩ := choose_list (0 : Int) (Q := fun i x cs => Lies w b (o + i * 1) cs ∧ cs = [.int .i64 x]) (n := len) fun i hi => by
        obtain ⟨cs', y', h1, h2⟩ := hel i hi
        obtain ⟨hb, hL, hlen⟩ := lies_cells (by decide) h1
        match cs', hlen with
        | [c], _ =>
          obtain ⟨x, e1, _⟩ := DataW.trod_int Try.underlying2 h2
          exact ⟨x, [c], hL, e1⟩
      refine ⟨_, cap, xs, by rw [hl], fun j v hj => ?_, by rw [hl]; exact hm⟩
      have hjl : j < xs.length := by
        have := (List.getElem?_eq_some_iff.1 hj).1
        simpa [ints] using this
      obtain ⟨hL, e⟩ := hq j (by omega)
      rw [ints_get hjl] at hj
      injection hj with hj
      subst hj
      refine ⟨b, o, rfl, ?_⟩
      have := hL 0 (.int .i64 (xs.getD j 0)) (by rw [e]; rfl)
      rwa [Nat.mul_one, Nat.add_zero] at this
    · obtain rfl : len = 0 := by omega
      exact ⟨some a, cap, [], rfl, Rd.nil _ _, by simp⟩
set_option maxRecDepth 100000 in
theorem open_rows {r : Reach} {b0 : Nat} {v : Value} {d : DataW H} {p : List MemPlace} (hv : Value.okWide Try.prog w r b0 52 v) (h : DataW.Trod enc Try.prog w base spare held 52 v d p) :
    ∃ A c xss, v = .slice A (List.length xss) c ∧ Rows w A xss ∧ List.length xss ≤ maxLen ∧ ∀ i, i < List.length xss → (xss.getD i []).length ≤ maxLen := by
  obtain ⟨a0, len0, cap0, rfl⟩ := okWide_slice Try.underlying52 hv
  obtain ⟨fuel, hf⟩ := h
  have hf' : DataW.trod enc Try.prog w base spare held fuel 52 [.slice a0 len0 cap0] = some (d, p) := hf
  rcases slice_elems Try.underlying52 hf' with e | ⟨a, len, cap, n, rfl, e, hm, _, hel⟩
  · rw [e]
    exact ⟨none, 0, [], rfl, fun i hi => by simp at hi, by simp, fun i hi => by simp at hi⟩
  · rw [e]
    have h1 : Try.prog.cellsOf 24 = 1 := by kernel_rfl
    rw [h1] at hel
    by_cases h0 : 0 < len
    · obtain ⟨c0, y0, hc0, _⟩ := hel 0 h0
      obtain ⟨b, o, rfl⟩ := plain_cells (by decide) hc0
      obtain ⟨xss, f, hl, hq⟩ := choose_list ([] : List Int) (Q := fun i x cs => Lies w b (o + i * 1) cs ∧ ∃ A c, cs = [.slice A x.length c] ∧ Rd w A (ints x) ∧ x.length ≤ maxLen) (n := len) fun i hi => by
        obtain ⟨cs', y', h1, h2⟩ := hel i hi
        obtain ⟨hb, hL, hlen⟩ := lies_cells (by decide) h1
        match cs', hlen with
        | [c], _ =>
          obtain ⟨A, cp, xs, e1, hr, hx⟩ := ints_of h2
          exact ⟨xs, [c], hL, A, cp, by rw [e1], hr, hx⟩
      refine ⟨_, cap, xss, by rw [hl], fun i hi => ?_, by rw [hl]; exact hm, fun i hi => ?_⟩
      · obtain ⟨hL, A, c, e, hr, _⟩ := hq i (by omega)
        have := hL 0 (.slice A (xss.getD i []).length c) (by rw [e]; rfl)
        rw [Nat.mul_one, Nat.add_zero] at this
        exact ⟨b, o, A, c, rfl, this, hr⟩
      · obtain ⟨_, _, _, _, _, hx⟩ := hq i (by omega)
        exact hx
    · obtain rfl : len = 0 := by omega
      exact ⟨some a, cap, [], rfl, fun i hi => by simp at hi, by simp, fun i hi => by simp at hi⟩
end
end Eng
end Go.Proofs.Ytfkohgfcchhlpaa
