/- An argument that is a slice of instructions, opened. No condition. -/
import Derived.Test.YtogljflccfoaeaaDoorTr
import Derived.Deep.Slices
import Derived.Deep.Fields
import Derived.ChangeSame
import Derived.Lib.SmallJoins
namespace Go.Proofs.YtogljflccfoaeaaDoor
open Go Go.RowKit Go.ChangeShapes Go.WideShapes Go.Deep
namespace Eng
section
variable {H : Type} {enc : TypeId × Value → H} {w : World} {base : Nat} {spare : Nat → Bool} {held : Bool}
theorem rdOfAdd {a : Addr} {cs : List Value} (h : ∀ j v, cs[j]? = some v → w.cell? (a.add j) = some v) : Rd w (some a) cs := by
  intro j v hj
  have hjl := (List.getElem?_eq_some_iff.1 hj).1
  have h0 := h 0 _ (List.getElem?_eq_getElem (show 0 < cs.length by omega))
  obtain ⟨b, o, s⟩ := a
  have hs : s = none := by
    cases s with
    | none => rfl
    | some q =>
      simp [Addr.add, World.cell?] at h0
      split at h0 <;> cases h0
  subst hs
  refine ⟨b, o, rfl, ?_⟩
  have := h j v hj
  rwa [addr_add] at this
set_option maxRecDepth 100000 in
theorem open_ins {fuel : Nat} {v : Value} {y : DataW H × List MemPlace} (h : DataW.trod enc Tryd.prog w base spare held fuel 31 [v] = some y) : ∃ A c xs, v = .slice A xs.length c ∧ Rd w A (insL xs) ∧ xs.length ≤ maxLen := by
  rcases open_slice Tryd.underlying31 h with ⟨hcs, _⟩ | ⟨a, len, cap, m, n, D, Pl, hcs, hb, hl, hm, hmm, hx, hi⟩
  · obtain rfl : v = .slice none 0 0 := by simpa using hcs
    exact ⟨none, 0, [], rfl, Rd.nil _ _, Nat.zero_le _⟩
  · obtain rfl : v = .slice (some a) len cap := by simpa using hcs
    have hm' : len ≤ m := by subst hmm; split <;> omega
    have h4 : Tryd.prog.cellsOf 86 = 4 := by kernel_rfl
    have h1 : Tryd.prog.cellsOf 2 = 1 := by kernel_rfl
    have key : ∀ i, ∃ x : Ins, i < len → ∀ j v, (insV x)[j]? = some v → w.cell? ((a.add (i * 4)).add j) = some v := by
      intro i
      by_cases hil : i < len
      · obtain ⟨cs', hc, ht⟩ := hi i (by omega)
        rw [h4] at hc
        obtain ⟨xs, n', _, _, hlen, hxl, hf⟩ := DataW.trod_struct Tryd.underlying86 ht
        obtain ⟨_, hcl, hat⟩ := World.cells?_some hc
        have f0 : DataW.trod enc Tryd.prog w base spare held n' 2 ((cs'.drop 0).take (Tryd.prog.cellsOf 2)) = xs[0]? := hf 0 _ rfl
        rw [h1] at f0
        have f1 : DataW.trod enc Tryd.prog w base spare held n' 2 ((cs'.drop 1).take (Tryd.prog.cellsOf 2)) = xs[1]? := hf 1 _ rfl
        rw [h1] at f1
        have f2 : DataW.trod enc Tryd.prog w base spare held n' 2 ((cs'.drop 2).take (Tryd.prog.cellsOf 2)) = xs[2]? := hf 2 _ rfl
        rw [h1] at f2
        have f3 : DataW.trod enc Tryd.prog w base spare held n' 2 ((cs'.drop 3).take (Tryd.prog.cellsOf 2)) = xs[3]? := hf 3 _ rfl
        rw [h1] at f3
        match cs', hcl, xs, hxl with
        | [c0, c1, c2, c3], _, [x0, x1, x2, x3], _ =>
          obtain ⟨n0, e0, _⟩ := DataW.trod_int Tryd.underlying2 f0
          obtain ⟨n1, e1, _⟩ := DataW.trod_int Tryd.underlying2 f1
          obtain ⟨n2, e2, _⟩ := DataW.trod_int Tryd.underlying2 f2
          obtain ⟨n3, e3, _⟩ := DataW.trod_int Tryd.underlying2 f3
          simp at e0 e1 e2 e3
          subst e0 e1 e2 e3
          refine ⟨⟨n0, n1, n2, n3⟩, fun _ j v hj => ?_⟩
          have hj4 : j < 4 := (List.getElem?_eq_some_iff.1 hj).1
          rw [hat j hj4]
          exact hj
      · exact ⟨dIns, fun h => absurd h hil⟩
    obtain ⟨f, hf⟩ := Classical.axiomOfChoice key
    refine ⟨some a, cap, (List.range len).map f, by simp, rdOfAdd fun j v hj => ?_, by simp; omega⟩
    have hjl := (List.getElem?_eq_some_iff.1 hj).1
    unfold insL at hj hjl
    rw [flat_length insV_length, List.length_map, List.length_range] at hjl
    have hk : j / 4 < len := by omega
    have hp := flat_part insV_length dIns ((List.range len).map f) (j / 4) (by simpa using hk)
    have hv : (insV (f (j / 4)))[j % 4]? = some v := by
      rw [show f (j / 4) = ((List.range len).map f).getD (j / 4) dIns from by simp [hk], ← hp, List.getElem?_take, if_pos (by omega), List.getElem?_drop, show j / 4 * 4 + j % 4 = j from by omega]
      exact hj
    have := hf (j / 4) hk (j % 4) v hv
    rwa [Go.Deep.add_add, show j / 4 * 4 + j % 4 = j from by omega] at this
set_option maxRecDepth 100000 in
theorem open_gds {fuel : Nat} {v : Value} {y : DataW H × List MemPlace} (h : DataW.trod enc Tryd.prog w base spare held fuel 32 [v] = some y) : ∃ A c xs, v = .slice A xs.length c ∧ Rd w A (gdL xs) ∧ xs.length ≤ maxLen := by
  rcases open_slice Tryd.underlying32 h with ⟨hcs, _⟩ | ⟨a, len, cap, m, n, D, Pl, hcs, hb, hl, hm, hmm, hx, hi⟩
  · obtain rfl : v = .slice none 0 0 := by simpa using hcs
    exact ⟨none, 0, [], rfl, Rd.nil _ _, Nat.zero_le _⟩
  · obtain rfl : v = .slice (some a) len cap := by simpa using hcs
    have hm' : len ≤ m := by subst hmm; split <;> omega
    have h4 : Tryd.prog.cellsOf 88 = 2 := by kernel_rfl
    have h1 : Tryd.prog.cellsOf 2 = 1 := by kernel_rfl
    have hB : Tryd.prog.cellsOf 4 = 1 := by kernel_rfl
    have key : ∀ i, ∃ x : Gd, i < len → ∀ j v, (gdV x)[j]? = some v → w.cell? ((a.add (i * 2)).add j) = some v := by
      intro i
      by_cases hil : i < len
      · obtain ⟨cs', hc, ht⟩ := hi i (by omega)
        rw [h4] at hc
        obtain ⟨xs, n', _, _, hlen, hxl, hf⟩ := DataW.trod_struct Tryd.underlying88 ht
        obtain ⟨_, hcl, hat⟩ := World.cells?_some hc
        have f0 : DataW.trod enc Tryd.prog w base spare held n' 2 ((cs'.drop 0).take (Tryd.prog.cellsOf 2)) = xs[0]? := hf 0 _ rfl
        rw [h1] at f0
        have f1 : DataW.trod enc Tryd.prog w base spare held n' 4 ((cs'.drop 1).take (Tryd.prog.cellsOf 4)) = xs[1]? := hf 1 _ rfl
        rw [hB] at f1
        match cs', hcl, xs, hxl with
        | [c0, c1], _, [x0, x1], _ =>
          obtain ⟨n0, e0, _⟩ := DataW.trod_int Tryd.underlying2 f0
          obtain ⟨n1, e1, _⟩ := DataW.trod_bool Tryd.underlying4 f1
          simp at e0 e1
          subst e0 e1
          refine ⟨⟨n0, n1⟩, fun _ j v hj => ?_⟩
          have hj4 : j < 2 := (List.getElem?_eq_some_iff.1 hj).1
          rw [hat j hj4]
          exact hj
      · exact ⟨dGd, fun h => absurd h hil⟩
    obtain ⟨f, hf⟩ := Classical.axiomOfChoice key
    refine ⟨some a, cap, (List.range len).map f, by simp, rdOfAdd fun j v hj => ?_, by simp; omega⟩
    have hjl := (List.getElem?_eq_some_iff.1 hj).1
    unfold gdL at hj hjl
    rw [flat_length gdV_length, List.length_map, List.length_range] at hjl
    have hk : j / 2 < len := by omega
    have hp := flat_part gdV_length dGd ((List.range len).map f) (j / 2) (by simpa using hk)
    have hv : (gdV (f (j / 2)))[j % 2]? = some v := by
      rw [show f (j / 2) = ((List.range len).map f).getD (j / 2) dGd from by simp [hk], ← hp, List.getElem?_take, if_pos (by omega), List.getElem?_drop, show j / 2 * 2 + j % 2 = j from by omega]
      exact hj
    have := hf (j / 2) hk (j % 2) v hv
    rwa [Go.Deep.add_add, show j / 2 * 2 + j % 2 = j from by omega] at this
set_option maxRecDepth 100000 in
theorem open_tape {r : Reach} {b0 : Nat} {v : Value} {d : DataW H} {p : List MemPlace} (hv : Value.okWide Tryd.prog w r b0 34 v) (h : DataW.Trod enc Tryd.prog w base spare held 34 v d p) :
    ∃ t : Tp, TapeV w v t ∧ t.code.length ≤ maxLen ∧ t.guards.length ≤ maxLen ∧ t.outs.length ≤ maxLen := by
  obtain ⟨v0, v1, v2, v3, y0, y1, y2, y3, n, rfl, _, _, t0, t1, t2, t3⟩ := Go.Joins.open_agg4 Tryd.underlying34 (by kernel_rfl) (by kernel_rfl) hv h
  obtain ⟨n0, e0, _⟩ := DataW.trod_int Tryd.underlying2 t0
  obtain ⟨A, c, xs, rfl, r1, l1⟩ := open_ins t1
  obtain ⟨B, c2, gs, rfl, r2, l2⟩ := open_gds t2
  obtain rfl : v0 = .int .i64 n0 := by simpa using e0
  rcases Go.ChangeShapes.open_ints Tryd.underlying22 Tryd.underlying2 (by kernel_rfl) t3 with ⟨hcs, _⟩ | ⟨x, l, c3, zs, hcs, _, hl, hm, hz, _, hcell, _⟩
  · obtain rfl : v3 = .slice none 0 0 := by simpa using hcs
    exact ⟨⟨n0, xs, gs, []⟩, ⟨_, _, _, _, _, _, rfl, r1, r2, Rd.nil _ _⟩, l1, l2, Nat.zero_le _⟩
  · obtain rfl : v3 = .slice (some x) l c3 := by simpa using hcs
    have hlz : l ≤ zs.length := by rw [hz]; split <;> omega
    have e : (zs.take l).length = l := by rw [List.length_take]; omega
    refine ⟨⟨n0, xs, gs, zs.take l⟩, ⟨A, c, B, c2, some x, c3, by rw [e], r1, r2, rowRd hlz hcell⟩, l1, l2, ?_⟩
    show (zs.take l).length ≤ maxLen
    omega
end
end Eng
end Go.Proofs.YtogljflccfoaeaaDoor
