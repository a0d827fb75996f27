/- An argument that is a polynomial, opened. No condition. -/
import Derived.Test.YtcodicokpegfmaaEo
import Derived.Test.YtcodicokpegfmaaQa
namespace Go.Proofs.Ytcodicokpegfmaa
open Go Go.RowKit Go.ChangeShapes Go.WideShapes Go.Deep
namespace Eng
section
variable {H : Type} {enc : TypeId × Value → H} {w : World} {base : Nat} {spare : Nat → Bool} {held : Bool}
theorem ints_of {fuel : Nat} {v : Value} {y : DataW H × List MemPlace} (h : DataW.trod enc Try.prog w base spare held fuel 87 [v] = some y) : ∃ A cap xs, v = .slice A (List.length xs) cap ∧ IsB w 0 A xs := by
  rcases slice_elems Try.underlying87 h with rfl | ⟨a, len, cap, n, rfl, rfl, hm, _, hel⟩
  · exact ⟨none, 0, [], rfl, by simp, fun j v hj => by simp [ints] at hj⟩
  · have h1 : Try.prog.cellsOf 2 = 1 := by kernel_rfl
    rw [h1] at hel
    by_cases h0 : 0 < len
    · obtain ⟨c0, y0, hc0, _⟩ := hel 0 h0
      obtain ⟨b, o, rfl⟩ := plain_cells (by decide) hc0
      obtain ⟨xs, f, hl, hq⟩ := choose_list (0 : Int) (Q := fun i x cs => b < w.heap.size ∧ Lies w b (o + i * 1) cs ∧ cs = [.int .i64 x]) (n := len) fun i hi => by
        obtain ⟨cs', y', h1, h2⟩ := hel i hi
        obtain ⟨hb, hL, hlen⟩ := lies_cells (by decide) h1
        match cs', hlen with
        | [c], _ =>
          obtain ⟨x, e1, _⟩ := DataW.trod_int Try.underlying2 h2
          exact ⟨x, [c], hb, hL, e1⟩
      refine ⟨_, cap, xs, by rw [hl], by rw [hl]; exact maxLen_room hm, fun j v hj => ?_⟩
      have hjl : j < xs.length := by
        have := (List.getElem?_eq_some_iff.1 hj).1
        simpa [ints] using this
      obtain ⟨hb, hL, e⟩ := hq j (by omega)
      rw [ints_get hjl] at hj
      injection hj with hj
      subst hj
      refine ⟨b, o, rfl, Nat.zero_le _, hb, ?_⟩
      have := hL 0 (.int .i64 (xs.getD j 0)) (by rw [e]; rfl)
      rwa [Nat.mul_one, Nat.add_zero] at this
    · obtain rfl : len = 0 := by omega
      exact ⟨some a, cap, [], rfl, by simp, fun j v hj => by simp [ints] at hj⟩
set_option maxRecDepth 100000 in
theorem open_term {fuel : Nat} {cs : List Value} {y : DataW H × List MemPlace} (h : DataW.trod enc Try.prog w base spare held fuel 111 cs = some y) : ∃ f, TmB w 0 cs f := by
  have h1 : Try.prog.cellsOf 2 = 1 := by kernel_rfl
  have hs : Try.prog.cellsOf 87 = 1 := by kernel_rfl
  have h2 : Try.prog.cellsOf 111 = 2 := by kernel_rfl
  obtain ⟨xs, n', hn, _, hlen, hxl, hf⟩ := DataW.trod_struct Try.underlying111 h
  rw [h2] at hlen
  have f0 : DataW.trod enc Try.prog w base spare held n' 87 ((cs.drop 0).take (Try.prog.cellsOf 87)) = xs[0]? := hf 0 _ rfl
  rw [hs] at f0
  have f1 : DataW.trod enc Try.prog w base spare held n' 2 ((cs.drop 1).take (Try.prog.cellsOf 2)) = xs[1]? := hf 1 _ rfl
  rw [h1] at f1
  match cs, hlen, xs, hxl with
  | [c0, c1], _, [x0, x1], _ =>
    obtain ⟨A, cap, ks, e0, hK⟩ := ints_of f0
    obtain ⟨n1, e1, _⟩ := DataW.trod_int Try.underlying2 f1
    simp at e0 e1
    subst e0 e1
    exact ⟨⟨ks, n1⟩, A, cap, rfl, hK⟩
theorem open_terms {fuel : Nat} {v : Value} {y : DataW H × List MemPlace} (h : DataW.trod enc Try.prog w base spare held fuel 46 [v] = some y) :
    ∃ A cap ks, v = .slice A (List.length ks) cap ∧ TsB w 0 A ks ∧ List.length ks ≤ cap := by
  rcases slice_elems Try.underlying46 h with rfl | ⟨a, len, cap, n, rfl, rfl, hm, hlc, hel⟩
  · exact ⟨none, 0, [], rfl, TsB.nil _ _ _, by simp⟩
  · have h3 : Try.prog.cellsOf 111 = 2 := by kernel_rfl
    rw [h3] at hel
    by_cases h0 : 0 < len
    · obtain ⟨c0, y0, hc0, _⟩ := hel 0 h0
      obtain ⟨b, o, rfl⟩ := plain_cells (by decide) hc0
      obtain ⟨ks, f, hl, hq⟩ := choose_list dTm (Q := fun i x cs => (b < w.heap.size ∧ Lies w b (o + i * 2) cs) ∧ TmB w 0 cs x) (n := len) fun i hi => by
        obtain ⟨cs', y', h1, h2⟩ := hel i hi
        obtain ⟨hb, hL, _⟩ := lies_cells (by decide) h1
        obtain ⟨x, hx⟩ := open_term h2
        exact ⟨x, cs', ⟨hb, hL⟩, hx⟩
      exact ⟨_, cap, ks, by rw [hl], ⟨by rw [hl]; exact maxLen_room hm, f, fun i hi => ⟨b, o, rfl, Nat.zero_le _, (hq i (by omega)).1.1, (hq i (by omega)).1.2⟩, fun i hi => (hq i (by omega)).2⟩, by omega⟩
    · obtain rfl : len = 0 := by omega
      exact ⟨some a, cap, [], rfl, TsB.nil _ _ _, by simp⟩
set_option maxRecDepth 100000 in
theorem open_poly {r : Reach} {b0 : Nat} {v : Value} {d : DataW H} {p : List MemPlace} (hv : Value.okWide Try.prog w r b0 48 v) (h : DataW.Trod enc Try.prog w base spare held 48 v d p) :
    ∃ cs e, v = .agg cs.toArray ∧ PoB w 0 cs e := by
  obtain ⟨cs, rfl, _⟩ := okWide_struct Try.underlying48 hv
  obtain ⟨fuel, hf⟩ := h
  have hi : Try.prog.cellsOf 2 = 1 := by kernel_rfl
  have hs : Try.prog.cellsOf 46 = 1 := by kernel_rfl
  have h1 : Try.prog.cellsOf 48 = 2 := by kernel_rfl
  obtain ⟨xs, n', hn, _, hlen, hxl, hg⟩ := DataW.trod_struct Try.underlying48 hf
  rw [h1] at hlen
  have f0 : DataW.trod enc Try.prog w base spare held n' 2 (((Value.agg cs).cells.toList.drop 0).take (Try.prog.cellsOf 2)) = xs[0]? := hg 0 _ rfl
  rw [hi] at f0
  have f1 : DataW.trod enc Try.prog w base spare held n' 46 (((Value.agg cs).cells.toList.drop 1).take (Try.prog.cellsOf 46)) = xs[1]? := hg 1 _ rfl
  rw [hs] at f1
  have hlen' : cs.toList.length = 2 := hlen
  have f0' : DataW.trod enc Try.prog w base spare held n' 2 ((cs.toList.drop 0).take 1) = xs[0]? := f0
  have f1' : DataW.trod enc Try.prog w base spare held n' 46 ((cs.toList.drop 1).take 1) = xs[1]? := f1
  refine ⟨cs.toList, ?_⟩
  generalize hcl : cs.toList = l at *
  match l, hlen', xs, hxl with
  | [c0, c1], _, [x0, x1], _ =>
    obtain ⟨n0, e0, _⟩ := DataW.trod_int Try.underlying2 f0'
    obtain ⟨A, cap, ks, e1, hK, _⟩ := open_terms f1'
    simp at e0
    subst e0 e1
    exact ⟨⟨n0, ks⟩, by rw [← hcl], A, cap, rfl, hK⟩
end
end Eng
end Go.Proofs.Ytcodicokpegfmaa
