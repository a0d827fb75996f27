/- The reverse sweep in the program. Conditions: as each says. -/
import Derived.Test.YtgahkbcfjibjaaaTh
namespace Go.Proofs.Ytgahkbcfjibjaaa
open Go Go.RowKit
namespace Eng
/-- Rows of series of one's own, apart. -/
structure OutF (B : Nat) (w : World) (s : Value) (n sz : Nat) (gs : List Nat) (xss : List (List Int)) : Prop where
  own : w.ownsRow B 24 1 s n (gs.map fun g => .slice (some ⟨g, 0, none⟩) sz sz)
  gl : gs.length = n
  xl : xss.length = n
  nd : ∀ i j, i < n → j < n → i ≠ j → gs.getD i 0 ≠ gs.getD j 0
  row : ∀ i, i < n → B ≤ gs.getD i 0 ∧ (xss.getD i []).length = sz ∧ At w 2 1 (gs.getD i 0) sz sz (ints (xss.getD i []))
theorem Only.weak {a b : World} {g : Nat} (h : Ext a b) : Only [some g] a b := (Only.ext h).mono fun x hx => by cases hx
theorem OutF.ext {B : Nat} {w w' : World} {s : Value} {n sz : Nat} {gs : List Nat} {xss : List (List Int)} (h : OutF B w s n sz gs xss) (he : Ext w w') : OutF B w' s n sz gs xss :=
  ⟨own_ext h.own he, h.gl, h.xl, h.nd, fun i hi => ⟨(h.row i hi).1, (h.row i hi).2.1, At.ext (h.row i hi).2.2 he⟩⟩
theorem OutF.get {B : Nat} {w : World} {s : Value} {n sz : Nat} {gs : List Nat} {xss : List (List Int)} (h : OutF B w s n sz gs xss) {i : Nat} (hi : i < n) : (gs.map fun g => (Value.slice (some ⟨g, 0, none⟩) sz sz))[i]? = some (.slice (some ⟨gs.getD i 0, 0, none⟩) sz sz) := by
  have := h.gl
  simp [show i < gs.length from by omega]
theorem OutF.box {B : Nat} {w w' : World} {s : Value} {n sz : Nat} {gs : List Nat} {xss : List (List Int)} (h : OutF B w s n sz gs xss) {e g : Nat} {cs : List Value} (hat : At w e 1 g 1 1 cs) (h1 : e ≠ 24) (h2 : e ≠ 2) (hg : w.grownBy w' (some g)) : OutF B w' s n sz gs xss := by
  refine ⟨own_far h.own hg ?_, h.gl, h.xl, h.nd, fun i hi => ⟨(h.row i hi).1, (h.row i hi).2.1, At.kept (h.row i hi).2.2 hg ?_⟩⟩
  · rcases own_ne h.own (At.own hat (Nat.le_refl _)) (Ne.symm h1) with q | q
    · exact .inl q
    · exact .inr q
  · have := At.ne hat (h.row i hi).2.2 h2
    simp
    exact fun q => this q.symm
theorem OutF.apart {B : Nat} {w : World} {s : Value} {n sz : Nat} {gs : List Nat} {xss : List (List Int)} (h : OutF B w s n sz gs xss) {i : Nat} (hi : i < n) : some (gs.getD i 0) ≠ s.ownBlock := by
  have h1 := (h.row i hi).2.2
  rcases own_ne (At.own h1 (Nat.le_refl _)) h.own (by decide) with e | e
  · cases e
  · exact e
theorem OutF.push {B g : Nat} {w w' : World} {s v : Value} {n sz : Nat} {gs : List Nat} {xss : List (List Int)} {xs : List Int} (h : OutF B w s n sz gs xss) (hB : B ≤ g) (hat : At w 2 1 g sz sz (ints xs)) (hl : xs.length = sz) (hnew : ∀ i, i < n → gs.getD i 0 < g)
    (ho : w'.ownsRow B 24 1 v (n + 1) ((gs.map fun g => .slice (some ⟨g, 0, none⟩) sz sz) ++ [.slice (some ⟨g, 0, none⟩) sz sz])) (hg : w.grownBy w' s.ownBlock) : OutF B w' v (n + 1) sz (gs ++ [g]) (xss ++ [xs]) := by
  have hgl := h.gl
  have hxl := h.xl
  refine ⟨by rw [List.map_append]; exact ho, by simp [hgl], by simp [hxl], fun i j hi hj hij => ?_, fun i hi => ?_⟩
  · by_cases h1 : i < n <;> by_cases h2 : j < n
    · rw [getD_snoc (by omega), getD_snoc (by omega)]; exact h.nd i j h1 h2 hij
    · obtain rfl : j = n := by omega
      rw [getD_snoc (by omega), ← hgl, getD_last]
      have := hnew i h1
      omega
    · obtain rfl : i = n := by omega
      rw [getD_snoc (xs := gs) (i := j) (by omega), ← hgl, getD_last]
      have := hnew j h2
      omega
    · omega
  · by_cases hii : i < n
    · rw [getD_snoc (by omega), getD_snoc (by omega)]
      exact ⟨(h.row i hii).1, (h.row i hii).2.1, At.kept (h.row i hii).2.2 hg (h.apart hii)⟩
    · obtain rfl : i = n := by omega
      have e1 : (gs ++ [g]).getD i 0 = g := by rw [← hgl]; exact getD_last
      have e2 : (xss ++ [xs]).getD i [] = xs := by rw [← hxl]; exact getD_last
      rw [e1, e2]
      refine ⟨hB, hl, At.kept hat hg ?_⟩
      rcases own_ne (At.own hat (Nat.le_refl _)) h.own (by decide) with e | e
      · cases e
      · exact e
theorem OutF.outA {B g c n sz : Nat} {w : World} {gs : List Nat} {xss : List (List Int)} (h : OutF B w (.slice (some ⟨g, 0, none⟩) n c) n sz gs xss) (hat : At w 24 1 g n c (gs.map fun g => .slice (some ⟨g, 0, none⟩) sz sz)) (hB : B ≤ g) : OutA B w g c n xss :=
  ⟨hB, h.xl, _, hat, fun i hi => ⟨_, h.get hi, RowB.own (AtI.own' (B := 0) (xs := xss.getD i []) (by unfold AtI; rw [(h.row i hi).2.1]; exact (h.row i hi).2.2) (h.row i hi).2.1 (Nat.zero_le _))⟩⟩
/-- A number is written into row r. -/
theorem OutF.write {B n sz r k : Nat} {w w' : World} {s : Value} {gs : List Nat} {xss : List (List Int)} {x : Int} (h : OutF B w s n sz gs xss) (hr : r < n) (hat : At w' 2 1 (gs.getD r 0) sz sz ((ints (xss.getD r [])).set k (.int .i64 x))) (hg : w.grownBy w' (some (gs.getD r 0))) : OutF B w' s n sz gs (xss.set r ((xss.getD r []).set k x)) := by
  refine ⟨own_far h.own hg (.inr fun e => h.apart hr e.symm), h.gl, by rw [List.length_set]; exact h.xl, h.nd, fun i hi => ?_⟩
  have hxl := h.xl
  by_cases hir : r = i
  · subst hir
    rw [getD_setA (by omega)]
    exact ⟨(h.row r hi).1, by rw [List.length_set]; exact (h.row r hi).2.1, by rw [ints_set]; exact hat⟩
  · rw [getD_setB hir]
    exact ⟨(h.row i hi).1, (h.row i hi).2.1, At.kept (h.row i hi).2.2 hg (by intro e; injection e with e; exact h.nd r i hr hi hir e.symm)⟩
theorem add_const {xs : List Int} {x : Int} {sz : Nat} (hl : xs.length = sz) (h1 : 1 ≤ sz) (hn : nums xs = true) : addL xs (constL x sz) = xs.set 0 ((xs.getD 0 0 + x) % 1000003) := by
  subst hl
  apply List.ext_getElem
  · simp [addL, mapR]
  · intro i h1 h2
    have hi : i < xs.length := by simpa using h2
    have hb := num_getD hn i
    have e1 : (addL xs (constL x xs.length))[i] = (xs.getD i 0 + (constL x xs.length).getD i 0) % 1000003 := by simp [addL, mapR]
    rw [e1]
    by_cases h0 : i = 0
    · subst h0
      have : (constL x xs.length).getD 0 0 = x := by unfold constL; rw [getD_setA (by simpa using hi)]
      rw [this]
      simp
    · have : (constL x xs.length).getD i 0 = 0 := by
        unfold constL
        rw [getD_setB (fun e => h0 e.symm), List.getD_eq_getElem?_getD, List.getElem?_replicate, if_pos hi]
        rfl
      rw [this, List.getElem_set_ne (fun e => h0 e.symm), Int.add_zero, Int.emod_eq_of_lt hb.1 hb.2]
      simp [hi]
end Eng
end Go.Proofs.Ytgahkbcfjibjaaa
