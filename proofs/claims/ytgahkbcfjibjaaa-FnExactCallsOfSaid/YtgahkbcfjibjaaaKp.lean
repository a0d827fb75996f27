/- The functions that are called for a function, plain. No condition. -/
import Derived.Test.YtgahkbcfjibjaaaVh
import Derived.Test.YtgahkbcfjibjaaaMsp
namespace Go.Proofs.Ytgahkbcfjibjaaa
open Go Go.RowKit
namespace Eng
mutual
def Ex.into : Ex → List Int → List Int
  | .node k n _ _ ks, acc => Ex.intoL ks (if k = 10 ∨ k = 11 then putR n acc else acc)
def Ex.intoL : List Ex → List Int → List Int
  | [], acc => acc
  | e :: es, acc => Ex.intoL es (Ex.into e acc)
end
mutual
def Ex.calls (x : Int) : Ex → Prop
  | .node k n _ _ ks => ((k = 10 ∨ k = 11) ∧ n = x) ∨ Ex.callsL x ks
def Ex.callsL (x : Int) : List Ex → Prop
  | [] => False
  | e :: es => Ex.calls x e ∨ Ex.callsL x es
end
theorem intoL_append : ∀ (xs ys : List Ex) (acc : List Int), Ex.intoL (xs ++ ys) acc = Ex.intoL ys (Ex.intoL xs acc)
  | [], ys, acc => by rw [List.nil_append, Ex.intoL]
  | x :: xs, ys, acc => by rw [List.cons_append, Ex.intoL, intoL_append xs ys, Ex.intoL]
theorem intoL_take {ks : List Ex} {i : Nat} {acc : List Int} (hi : i < ks.length) : Ex.intoL (ks.take (i + 1)) acc = (ks.getD i dEx).into (Ex.intoL (ks.take i) acc) := by
  rw [take_next (d := dEx) hi, intoL_append, Ex.intoL, Ex.intoL]
theorem callsL_iff {x : Int} : ∀ {ks : List Ex}, Ex.callsL x ks ↔ ∃ i, i < ks.length ∧ (ks.getD i dEx).calls x
  | [] => by simp [Ex.callsL]
  | e :: es => by
    rw [Ex.callsL, callsL_iff (ks := es)]
    constructor
    · rintro (h | ⟨i, hi, h⟩)
      · exact ⟨0, by simp, by simpa using h⟩
      · exact ⟨i + 1, by simpa using hi, by simpa using h⟩
    · rintro ⟨i, hi, h⟩
      cases i with
      | zero => exact .inl (by simpa using h)
      | succ i => exact .inr ⟨i, by simpa using hi, by simpa using h⟩
theorem callsL_kid {ks : List Ex} {i : Nat} {x : Int} (hi : i < ks.length) (h : (ks.getD i dEx).calls x) : Ex.callsL x ks := callsL_iff.2 ⟨i, hi, h⟩
theorem callsL_next {ks : List Ex} {i : Nat} {x : Int} (hi : i < ks.length) : Ex.callsL x (ks.take (i + 1)) ↔ Ex.callsL x (ks.take i) ∨ (ks.getD i dEx).calls x := by
  rw [take_next (d := dEx) hi]
  generalize ks.take i = xs
  induction xs with
  | nil => simp [Ex.callsL]
  | cons y ys ih => rw [List.cons_append, Ex.callsL, Ex.callsL, ih, or_assoc]
theorem mem_into (e : Ex) : ∀ {x : Int} {acc : List Int}, x ∈ e.into acc ↔ x ∈ acc ∨ e.calls x := by
  induction e using Ex.ind with
  | h k n p c ks ih =>
  intro x acc
  rw [Ex.into, Ex.calls]
  have key : ∀ (m : Nat), m ≤ ks.length → ∀ b : List Int, x ∈ Ex.intoL (ks.take m) b ↔ x ∈ b ∨ Ex.callsL x (ks.take m) := by
    intro m
    induction m with
    | zero => intro _ b; simp [Ex.intoL, Ex.callsL]
    | succ m ihm =>
      intro hm b
      rw [intoL_take (by omega), ih m (by omega), ihm (by omega), callsL_next (by omega), or_assoc]
  have h := key ks.length (Nat.le_refl _)
  rw [List.take_length] at h
  rw [h]
  by_cases hk : k = 10 ∨ k = 11
  · rw [if_pos hk, mem_putR]
    constructor
    · rintro ((rfl | q) | q)
      · exact .inr (.inl ⟨hk, rfl⟩)
      · exact .inl q
      · exact .inr (.inr q)
    · rintro (q | ⟨_, rfl⟩ | q)
      · exact .inl (.inr q)
      · exact .inl (.inl rfl)
      · exact .inr q
  · rw [if_neg hk]
    constructor
    · rintro (q | q)
      · exact .inl q
      · exact .inr (.inr q)
    · rintro (q | ⟨q, _⟩ | q)
      · exact .inl q
      · exact absurd q hk
      · exact .inr q
theorem mem_intoL {x : Int} : ∀ {ks : List Ex} {acc : List Int}, x ∈ Ex.intoL ks acc ↔ x ∈ acc ∨ Ex.callsL x ks
  | [], acc => by simp [Ex.intoL, Ex.callsL]
  | e :: es, acc => by rw [Ex.intoL, mem_intoL (ks := es), mem_into, Ex.callsL, or_assoc]
theorem into_rising (e : Ex) : ∀ {acc : List Int}, Rising acc → Rising (e.into acc) := by
  induction e using Ex.ind with
  | h k n p c ks ih =>
  intro acc h
  rw [Ex.into]
  have h1 : Rising (if k = 10 ∨ k = 11 then putR n acc else acc) := by split; exact putR_rising h; exact h
  have key : ∀ (m : Nat), m ≤ ks.length → ∀ b : List Int, Rising b → Rising (Ex.intoL (ks.take m) b) := by
    intro m
    induction m with
    | zero => intro _ b hb; simpa [Ex.intoL] using hb
    | succ m ihm =>
      intro hm b hb
      rw [intoL_take (by omega)]
      exact ih m (by omega) (ihm (by omega) b hb)
  have := key ks.length (Nat.le_refl _) _ h1
  rwa [List.take_length] at this
theorem intoL_rising : ∀ {ks : List Ex} {acc : List Int}, Rising acc → Rising (Ex.intoL ks acc)
  | [], acc, h => by rw [Ex.intoL]; exact h
  | e :: es, acc, h => by rw [Ex.intoL]; exact intoL_rising (into_rising e h)
theorem formedL_kid {fs : List Fu} {funcs k vars : Int} : ∀ {i j : Nat} {xs : List Ex}, Ex.formedL fs funcs k i xs vars = true → j < xs.length → (xs.getD j dEx).formed fs funcs (ownV k (i + j) vars) = true
  | i, j, [], _, hj => by simp at hj
  | i, 0, x :: xs, h, _ => by
    rw [Ex.formedL, Bool.and_eq_true] at h
    simpa using h.1
  | i, j + 1, x :: xs, h, hj => by
    rw [Ex.formedL, Bool.and_eq_true] at h
    have := formedL_kid (j := j) h.2 (by simpa using hj)
    rw [show i + 1 + j = i + (j + 1) from by omega] at this
    simpa using this
/-- What a well formed expression calls is there. -/
theorem formed_calls (fs : List Fu) (funcs : Int) (e : Ex) : ∀ {vars x : Int}, e.formed fs funcs vars = true → e.calls x → 0 ≤ x ∧ x ≤ funcs - 1 := by
  induction e using Ex.ind with
  | h k n p c ks ih =>
  intro vars x h hc
  rw [Ex.formed, Bool.and_eq_true] at h
  rw [Ex.calls] at hc
  rcases hc with ⟨hk, rfl⟩ | hc
  · have h1 := of_decide_eq_true h.1
    rcases h1 with h1 | h1
    · exact h1.2.1
    · obtain ⟨h2, _⟩ := h1
      unfold KidsOk at h2
      omega
  · obtain ⟨i, hi, hci⟩ := callsL_iff.1 hc
    exact ih i hi (formedL_kid h.2 hi) hci
theorem validP_fOk {fs : List Fu} (h : validP fs = true) {i : Nat} (hi : i < fs.length) : fs.length ≤ 16 ∧ fOk fs i (fs.getD i dFu) = true := by
  rw [validP, Bool.and_eq_true] at h
  refine ⟨of_decide_eq_true h.1, ?_⟩
  have := List.all_eq_true.1 h.2 i (by simpa using hi)
  exact this
theorem getD_mem {α : Type} {d : α} {xs : List α} {i : Nat} (h : i < xs.length) : xs.getD i d ∈ xs := by
  rw [List.getD_eq_getElem?_getD, List.getElem?_eq_getElem h]
  exact List.getElem_mem h
theorem valid_calls {fs : List Fu} (h : validP fs = true) {g : Nat} (hg : g < fs.length) {x : Int} (hx : Ex.callsL x (fs.getD g dFu).outs) : 0 ≤ x ∧ x < g := by
  obtain ⟨_, h1⟩ := validP_fOk h hg
  simp only [fOk, Bool.and_eq_true] at h1
  obtain ⟨_, _, _, _, h5, _⟩ := h1
  obtain ⟨i, hi, hc⟩ := callsL_iff.1 hx
  have h6 := List.all_eq_true.1 h5 ((fs.getD g dFu).outs.getD i dEx) (getD_mem hi)
  simp only [validE, Bool.and_eq_true] at h6
  obtain ⟨_, _, _, _, h7⟩ := h6
  have := formed_calls fs g _ h7 hc
  omega
/-- What is called for a function. -/
inductive Rc (fs : List Fu) : Nat → Int → Prop
  | here {g : Nat} {x : Int} : Ex.callsL x (fs.getD g dFu).outs → Rc fs g x
  | step {g : Nat} {y x : Int} : Ex.callsL y (fs.getD g dFu).outs → Rc fs y.toNat x → Rc fs g x
theorem Rc.snoc {fs : List Fu} {g : Nat} {y x : Int} (h : Rc fs g y) (k : Ex.callsL x (fs.getD y.toNat dFu).outs) : Rc fs g x := by
  induction h with
  | here h => exact .step h (.here k)
  | step h _ ih => exact .step h (ih k)
theorem Rc.range {fs : List Fu} (hv : validP fs = true) {g : Nat} {x : Int} (h : Rc fs g x) : g < fs.length → 0 ≤ x ∧ x < g := by
  induction h with
  | here h => exact fun hg => valid_calls hv hg h
  | step h _ ih =>
    intro hg
    have h1 := valid_calls hv hg h
    have h2 := ih (by omega)
    omega
/-- Numbers with what is called for each. -/
def Whole (fs : List Fu) (S : List Int) : Prop := ∀ y ∈ S, ∀ x, Ex.callsL x (fs.getD y.toNat dFu).outs → x ∈ S
theorem Whole.rc {fs : List Fu} {S : List Int} (h : Whole fs S) {g : Nat} {x : Int} (k : Rc fs g x) : (∀ y, Ex.callsL y (fs.getD g dFu).outs → y ∈ S) → x ∈ S := by
  induction k with
  | here k => exact fun hs => hs _ k
  | step k _ ih => exact fun hs => ih (h _ (hs _ k))
def downC (fs : List Fu) : Nat → List Int → List Int
  | 0, acc => acc
  | g + 1, acc => downC fs g (if (g : Int) ∈ acc then Ex.intoL (fs.getD g dFu).outs acc else acc)
def allC (fs : List Fu) (f : Nat) : List Int := downC fs f (Ex.intoL (fs.getD f dFu).outs [])
theorem downC_rising {fs : List Fu} : ∀ {g : Nat} {acc : List Int}, Rising acc → Rising (downC fs g acc)
  | 0, acc, h => h
  | g + 1, acc, h => by
    rw [downC]
    split
    · exact downC_rising (intoL_rising h)
    · exact downC_rising h
theorem allC_rising (fs : List Fu) (f : Nat) : Rising (allC fs f) := downC_rising (intoL_rising (by simp [Rising]))
/-- The numbers so far: all are called for f, and those at g or above are whole. -/
def AtC (fs : List Fu) (f g : Nat) (acc : List Int) : Prop := (∀ x ∈ acc, Rc fs f x) ∧ (∀ x, Ex.callsL x (fs.getD f dFu).outs → x ∈ acc) ∧ ∀ y ∈ acc, (g : Int) ≤ y → ∀ x, Ex.callsL x (fs.getD y.toNat dFu).outs → x ∈ acc
theorem AtC.next {fs : List Fu} (hv : validP fs = true) {f g : Nat} (hf : f < fs.length) (hg : g < f) {acc : List Int} (h : AtC fs f (g + 1) acc) : AtC fs f g (if (g : Int) ∈ acc then Ex.intoL (fs.getD g dFu).outs acc else acc) := by
  obtain ⟨h1, h2, h3⟩ := h
  by_cases hm : (g : Int) ∈ acc
  · rw [if_pos hm]
    refine ⟨fun x hx => ?_, fun x hx => mem_intoL.2 (.inl (h2 x hx)), fun y hy hgy x hx => ?_⟩
    · rcases mem_intoL.1 hx with q | q
      · exact h1 x q
      · exact (h1 _ hm).snoc (by simpa using q)
    · rcases mem_intoL.1 hy with q | q
      · by_cases e : y = g
        · subst e; exact mem_intoL.2 (.inr (by simpa using hx))
        · exact mem_intoL.2 (.inl (h3 y q (by omega) x hx))
      · have := valid_calls hv (show g < fs.length by omega) q
        omega
  · rw [if_neg hm]
    refine ⟨h1, h2, fun y hy hgy x hx => ?_⟩
    by_cases e : y = g
    · subst e; exact absurd hy hm
    · exact h3 y hy (by omega) x hx
theorem AtC.start {fs : List Fu} (hv : validP fs = true) {f : Nat} (hf : f < fs.length) : AtC fs f f (Ex.intoL (fs.getD f dFu).outs []) := by
  refine ⟨fun x hx => ?_, fun x hx => mem_intoL.2 (.inr hx), fun y hy hfy => ?_⟩
  · rcases mem_intoL.1 hx with q | q
    · cases q
    · exact .here q
  · rcases mem_intoL.1 hy with q | q
    · cases q
    · have := valid_calls hv hf q
      omega
theorem AtC.all {fs : List Fu} (hv : validP fs = true) {f : Nat} (hf : f < fs.length) : ∀ {g : Nat} {acc : List Int}, g ≤ f → AtC fs f g acc → AtC fs f 0 (downC fs g acc)
  | 0, acc, _, h => h
  | g + 1, acc, hg, h => by
    rw [downC]
    exact AtC.all hv hf (by omega) (h.next hv hf (by omega))
theorem mem_allC {fs : List Fu} (hv : validP fs = true) {f : Nat} (hf : f < fs.length) {x : Int} : x ∈ allC fs f ↔ Rc fs f x := by
  obtain ⟨h1, h2, h3⟩ := AtC.all hv hf (Nat.le_refl f) (AtC.start hv hf)
  refine ⟨h1 x, fun h => Whole.rc (S := allC fs f) (fun y hy => ?_) h h2⟩
  have := (h1 y hy).range hv hf
  exact h3 y hy (by simpa using this.1)
/-- What the program's search may hold: ks ahead, ks' behind; P: the numbers that are called at once. -/
structure Vis (fs : List Fu) (P : Int → Prop) (ks ks' : List Int) : Prop where
  old : ∀ x ∈ ks, x ∈ ks'
  all : ∀ x, P x → x ∈ ks'
  new : ∀ x ∈ ks', x ∈ ks ∨ P x ∨ ∃ y, P y ∧ Rc fs y.toNat x
  whole : ∀ x ∈ ks', x ∉ ks → ∀ y, Ex.callsL y (fs.getD x.toNat dFu).outs → y ∈ ks'
theorem Vis.refl {fs : List Fu} {P : Int → Prop} {ks : List Int} (h : ∀ x, ¬ P x) : Vis fs P ks ks := ⟨fun _ hx => hx, fun x hx => absurd hx (h x), fun _ hx => .inl hx, fun _ hx hn => absurd hx hn⟩
theorem Vis.trans {fs : List Fu} {P Q R : Int → Prop} {a b c : List Int} (h : Vis fs P a b) (k : Vis fs Q b c) (hR : ∀ x, R x ↔ P x ∨ Q x) : Vis fs R a c := by
  refine ⟨fun x hx => k.old x (h.old x hx), fun x hx => ?_, fun x hx => ?_, fun x hx hn y hy => ?_⟩
  · rcases (hR x).1 hx with q | q
    · exact k.old x (h.all x q)
    · exact k.all x q
  · rcases k.new x hx with q | q | ⟨y, q, r⟩
    · rcases h.new x q with q | q | ⟨y, q, r⟩
      · exact .inl q
      · exact .inr (.inl ((hR x).2 (.inl q)))
      · exact .inr (.inr ⟨y, (hR y).2 (.inl q), r⟩)
    · exact .inr (.inl ((hR x).2 (.inr q)))
    · exact .inr (.inr ⟨y, (hR y).2 (.inr q), r⟩)
  · by_cases hb : x ∈ b
    · exact k.old y (h.whole x hb hn y hy)
    · exact k.whole x hx hb y hy
/-- A number is noted, and what is called for it is searched. -/
theorem Vis.note {fs : List Fu} {n : Int} {ks ks1 ks' : List Int} (h1 : ∀ x, x ∈ ks1 ↔ x = n ∨ x ∈ ks) (h : Vis fs (fun x => Ex.callsL x (fs.getD n.toNat dFu).outs) ks1 ks') : Vis fs (fun x => n = x) ks ks' := by
  refine ⟨fun x hx => h.old x ((h1 x).2 (.inr hx)), ?_, fun x hx => ?_, fun x hx hn y hy => ?_⟩
  · rintro x rfl
    exact h.old _ ((h1 _).2 (.inl rfl))
  · rcases h.new x hx with q | q | ⟨y, q, r⟩
    · rcases (h1 x).1 q with rfl | q
      · exact .inr (.inl rfl)
      · exact .inl q
    · exact .inr (.inr ⟨n, rfl, .here q⟩)
    · exact .inr (.inr ⟨n, rfl, .step q r⟩)
  · by_cases hb : x ∈ ks1
    · rcases (h1 x).1 hb with rfl | q
      · exact h.all y hy
      · exact absurd q hn
    · exact h.whole x hx hb y hy
theorem Vis.have_ {fs : List Fu} {n : Int} {ks : List Int} (h : n ∈ ks) : Vis fs (fun x => n = x) ks ks := ⟨fun _ hx => hx, fun _ hx => hx ▸ h, fun _ hx => .inl hx, fun _ hx hn => absurd hx hn⟩
theorem Vis.done {fs : List Fu} (hv : validP fs = true) {f : Nat} (hf : f < fs.length) {ks : List Int} (h : Vis fs (fun x => Ex.callsL x (fs.getD f dFu).outs) [] ks) (x : Int) : x ∈ ks ↔ x ∈ allC fs f := by
  rw [mem_allC hv hf]
  constructor
  · intro hx
    rcases h.new x hx with q | q | ⟨y, q, r⟩
    · cases q
    · exact .here q
    · exact .step q r
  · intro hx
    exact Whole.rc (S := ks) (fun y hy => h.whole y hy (by simp)) hx h.all
theorem rising_room {a b : Int} : ∀ {xs : List Int}, Rising xs → (∀ x ∈ xs, a ≤ x ∧ x < b) → a ≤ b → (xs.length : Int) ≤ b - a := by
  intro xs
  induction xs generalizing a with
  | nil => intro _ _ h; simp; exact h
  | cons x xs ih =>
    intro h hx hab
    have h1 := hx x List.mem_cons_self
    obtain ⟨h2, h3⟩ := List.pairwise_cons.1 h
    have := ih (a := x + 1) h3 (fun y hy => ⟨by have := h2 y hy; omega, (hx y (List.mem_cons_of_mem _ hy)).2⟩) (by omega)
    simp only [List.length_cons]
    omega
theorem nodup_room : ∀ {b : Nat} {xs : List Int}, xs.Nodup → (∀ x ∈ xs, 0 ≤ x ∧ x < b) → xs.length ≤ b
  | 0, xs, _, hx => by
    cases xs with
    | nil => exact Nat.le_refl _
    | cons x xs => have := hx x List.mem_cons_self; omega
  | b + 1, xs, h, hx => by
    have h1 := nodup_room (b := b) (h.erase (b : Int)) fun x hm => by
      have h2 := (h.mem_erase_iff).1 hm
      have h3 := hx x h2.2
      have h4 := h2.1
      omega
    rw [List.length_erase] at h1
    split at h1 <;> omega
def fCalls (fs : List Fu) (f : Int) : List Int × Int := if validP fs = true then (if 0 ≤ f ∧ f ≤ (fs.length : Int) - 1 then (allC fs f.toNat, 0) else ([], 2)) else ([], 1)
theorem fCalls_bad {fs : List Fu} {f : Int} (h : validP fs = false) : fCalls fs f = ([], 1) := by rw [fCalls, if_neg (by rw [h]; decide)]
theorem fCalls_out {fs : List Fu} {f : Int} (h : validP fs = true) (h2 : ¬ (0 ≤ f ∧ f ≤ (fs.length : Int) - 1)) : fCalls fs f = ([], 2) := by rw [fCalls, if_pos h, if_neg h2]
theorem fCalls_ok {fs : List Fu} {f : Int} (h : validP fs = true) (h2 : 0 ≤ f ∧ f ≤ (fs.length : Int) - 1) : fCalls fs f = (allC fs f.toNat, 0) := by rw [fCalls, if_pos h, if_pos h2]
theorem allC_length {fs : List Fu} (h : validP fs = true) {f : Nat} (hf : f < fs.length) : (allC fs f).length ≤ 16 := by
  have h1 := rising_room (a := 0) (b := f) (allC_rising fs f) (fun x hx => ((mem_allC h hf).1 hx).range h hf) (by omega)
  have := (validP_fOk h hf).1
  omega
theorem fCalls_len (fs : List Fu) (f : Int) : (fCalls fs f).1.length ≤ 1048576 := by
  cases ok : validP fs
  · rw [fCalls_bad ok]; simp
  by_cases h : 0 ≤ f ∧ f ≤ (fs.length : Int) - 1
  · rw [fCalls_ok ok h]
    have := allC_length ok (f := f.toNat) (by omega)
    dsimp only
    omega
  · rw [fCalls_out ok h]; simp
end Eng
end Go.Proofs.Ytgahkbcfjibjaaa
