/- An argument that is a program, opened. No condition. -/
import Derived.Test.YtgahkbcfjibjaaaEo
import Derived.Test.YtgahkbcfjibjaaaPa
namespace Go.Proofs.Ytgahkbcfjibjaaa
open Go Go.RowKit Go.ChangeShapes Go.WideShapes Go.Deep
namespace Eng
section
variable {H : Type} {enc : TypeId × Value → H} {w : World} {base : Nat} {spare : Nat → Bool} {held : Bool}
set_option maxRecDepth 100000 in
theorem open_func {fuel : Nat} {cs : List Value} {y : DataW H × List MemPlace} (h : DataW.trod enc Try.prog w base spare held fuel 120 cs = some y) : ∃ f, FuB w 0 cs f := by
  have h1 : Try.prog.cellsOf 2 = 1 := by kernel_rfl
  have hS : Try.prog.cellsOf 9 = 1 := by kernel_rfl
  have hs : Try.prog.cellsOf 52 = 1 := by kernel_rfl
  have h3 : Try.prog.cellsOf 120 = 3 := by kernel_rfl
  obtain ⟨xs, n', hn, _, hlen, hxl, hf⟩ := DataW.trod_struct Try.underlying120 h
  rw [h3] at hlen
  have f0 : DataW.trod enc Try.prog w base spare held n' 9 ((cs.drop 0).take (Try.prog.cellsOf 9)) = xs[0]? := hf 0 _ rfl
  rw [hS] at f0
  have f1 : DataW.trod enc Try.prog w base spare held n' 2 ((cs.drop 1).take (Try.prog.cellsOf 2)) = xs[1]? := hf 1 _ rfl
  rw [h1] at f1
  have f2 : DataW.trod enc Try.prog w base spare held n' 52 ((cs.drop 2).take (Try.prog.cellsOf 52)) = xs[2]? := hf 2 _ rfl
  rw [hs] at f2
  match cs, hlen, xs, hxl with
  | [c0, c1, c2], _, [x0, x1, x2], _ =>
    obtain ⟨s0, e0, _, hm⟩ := DataW.trod_string Try.underlying9 f0
    obtain ⟨n1, e1, _⟩ := DataW.trod_int Try.underlying2 f1
    obtain ⟨A, cap, ks, e2, hK⟩ := kids_of (fun n _ => open_ex n) f2
    simp at e0 e1 e2
    subst e0 e1 e2
    exact ⟨⟨s0, n1, ks⟩, A, cap, rfl, hK, maxLen_room hm⟩
theorem open_funcs {fuel : Nat} {v : Value} {y : DataW H × List MemPlace} (h : DataW.trod enc Try.prog w base spare held fuel 40 [v] = some y) :
    ∃ A cap ks, v = .slice A (List.length ks) cap ∧ FsB w 0 A ks ∧ List.length ks ≤ cap := by
  rcases slice_elems Try.underlying40 h with rfl | ⟨a, len, cap, n, rfl, rfl, hm, hlc, hel⟩
  · exact ⟨none, 0, [], rfl, FsB.nil _ _ _, by simp⟩
  · have h3 : Try.prog.cellsOf 120 = 3 := by kernel_rfl
    rw [h3] at hel
    by_cases h0 : 0 < len
    · obtain ⟨c0, y0, hc0, _⟩ := hel 0 h0
      obtain ⟨b, o, rfl⟩ := plain_cells (by decide) hc0
      obtain ⟨ks, f, hl, hq⟩ := choose_list dFu (Q := fun i x cs => (b < w.heap.size ∧ Lies w b (o + i * 3) cs) ∧ FuB w 0 cs x) (n := len) fun i hi => by
        obtain ⟨cs', y', h1, h2⟩ := hel i hi
        obtain ⟨hb, hL, _⟩ := lies_cells (by decide) h1
        obtain ⟨x, hx⟩ := open_func h2
        exact ⟨x, cs', ⟨hb, hL⟩, hx⟩
      exact ⟨_, cap, ks, by rw [hl], ⟨by rw [hl]; exact maxLen_room hm, f, fun i hi => ⟨b, o, rfl, Nat.zero_le _, (hq i (by omega)).1.1, (hq i (by omega)).1.2⟩, fun i hi => (hq i (by omega)).2⟩, by omega⟩
    · obtain rfl : len = 0 := by omega
      exact ⟨some a, cap, [], rfl, FsB.nil _ _ _, by simp⟩
set_option maxRecDepth 100000 in
theorem open_program {r : Reach} {b0 : Nat} {v : Value} {d : DataW H} {p : List MemPlace} (hv : Value.okWide Try.prog w r b0 42 v) (h : DataW.Trod enc Try.prog w base spare held 42 v d p) :
    ∃ cs e, v = .agg cs.toArray ∧ PrB w 0 cs e := by
  obtain ⟨cs, rfl, _⟩ := okWide_struct Try.underlying42 hv
  obtain ⟨fuel, hf⟩ := h
  have hs : Try.prog.cellsOf 40 = 1 := by kernel_rfl
  have h1 : Try.prog.cellsOf 42 = 1 := by kernel_rfl
  obtain ⟨xs, n', hn, _, hlen, hxl, hg⟩ := DataW.trod_struct Try.underlying42 hf
  rw [h1] at hlen
  have f0 : DataW.trod enc Try.prog w base spare held n' 40 (((Value.agg cs).cells.toList.drop 0).take (Try.prog.cellsOf 40)) = xs[0]? := hg 0 _ rfl
  rw [hs] at f0
  have hlen' : cs.toList.length = 1 := hlen
  have f0' : DataW.trod enc Try.prog w base spare held n' 40 ((cs.toList.drop 0).take 1) = xs[0]? := f0
  refine ⟨cs.toList, ?_⟩
  generalize hcl : cs.toList = l at *
  match l, hlen', xs, hxl with
  | [c0], _, [x0], _ =>
    obtain ⟨A, cap, ks, e0, hK⟩ := open_funcs f0'
    subst e0
    exact ⟨⟨ks⟩, by rw [← hcl], A, cap, rfl, hK⟩
end
end Eng
end Go.Proofs.Ytgahkbcfjibjaaa
