/- Numerals and the pieces of a text, plain. No condition. -/
import Derived.Test.YtogljflccfoaeaaDoorXj
import Derived.Lib.SplitLaws
import Derived.Lib.AtoiTie
import Derived.Lib.ParseIntBTie
namespace Go.Proofs.YtogljflccfoaeaaDoor
open Go Go.RowKit
namespace Eng
/-! numerals -/
theorem decFrom_snoc : ∀ (l : List UInt8) (acc : Nat) (c : UInt8), Lib.decFrom acc (l ++ [c]) = match Lib.decFrom acc l with
    | some n => (match Lib.digitVal c with
      | some d => some (n * 10 + d)
      | none => none)
    | none => none
  | [], acc, c => by
    simp only [List.nil_append, Lib.decFrom]
    cases Lib.digitVal c <;> rfl
  | b :: r, acc, c => by
    simp only [List.cons_append, Lib.decFrom]
    cases Lib.digitVal b with
    | none => rfl
    | some d => exact decFrom_snoc r _ c
theorem digit_toNat {d : Nat} (h : d < 10) : (UInt8.ofNat (48 + d)).toNat = 48 + d := by
  rw [UInt8.toNat_ofNat']
  omega
theorem digitVal_of {d : Nat} (h : d < 10) : Lib.digitVal (UInt8.ofNat (48 + d)) = some d := by
  unfold Lib.digitVal
  rw [digit_toNat h, if_pos (by omega), show 48 + d - 48 = d from by omega]
theorem digitVal_char {c : UInt8} {d : Nat} (h : Lib.digitVal c = some d) : d < 10 ∧ c = UInt8.ofNat (48 + d) := by
  obtain ⟨h1, h2, h3⟩ := Lib.digitVal_eq h
  refine ⟨by omega, ?_⟩
  rw [show 48 + d = c.toNat from by omega, UInt8.ofNat_toNat]
theorem decFrom_dec (n : Nat) : Lib.decFrom 0 (decS n) = some n := by
  induction n using Nat.strongRecOn with
  | ind n ih =>
  by_cases h : n < 10
  · rw [decS_small h]
    simp only [Lib.decFrom, digitVal_of h]
    rw [Nat.zero_mul, Nat.zero_add]
  · rw [decS_big h, decFrom_snoc, ih (n / 10) (by omega)]
    simp only [digitVal_of (show n % 10 < 10 by omega)]
    rw [show n / 10 * 10 + n % 10 = n from by omega]
theorem decS_pos (n : Nat) : 0 < (decS n).length := by
  by_cases h : n < 10
  · rw [decS_small h]; simp
  · rw [decS_big h]; simp
theorem decS_first (n : Nat) : 1 ≤ n → (decS n).getD 0 0 ≠ 48 := by
  induction n using Nat.strongRecOn with
  | ind n ih =>
  intro h1
  by_cases h : n < 10
  · rw [decS_small h]
    intro e
    have := congrArg UInt8.toNat (show UInt8.ofNat (48 + n) = 48 from e)
    rw [digit_toNat h] at this
    have e48 : (48 : UInt8).toNat = 48 := rfl
    omega
  · have hp := decS_pos (n / 10)
    rw [decS_big h, List.getD_eq_getElem?_getD, List.getElem?_append_left hp, ← List.getD_eq_getElem?_getD]
    exact ih (n / 10) (by omega) (by omega)
theorem decS_len : ∀ (k n : Nat), n < 10 ^ (k + 1) → (decS n).length ≤ k + 1
  | 0, n, h => by
    rw [decS_small (by omega)]
    simp
  | k + 1, n, h => by
    by_cases h1 : n < 10
    · rw [decS_small h1]; simp
    · have := decS_len k (n / 10) (by rw [Nat.pow_succ] at h; omega)
      rw [decS_big h1, List.length_append, List.length_singleton]
      omega
theorem dec_of_decFrom : ∀ (k : Nat) (l : List UInt8) (n : Nat), l.length = k + 1 → ¬ (1 < l.length ∧ l.getD 0 0 = 48) → Lib.decFrom 0 l = some n → l = decS n
  | 0, l, n, hl, _, h => by
    match l, hl with
    | [c], _ =>
      simp only [Lib.decFrom] at h
      cases hd : Lib.digitVal c with
      | none => rw [hd] at h; cases h
      | some d =>
        rw [hd] at h
        simp only [Nat.zero_mul, Nat.zero_add, Option.some.injEq] at h
        subst h
        obtain ⟨h1, h2⟩ := digitVal_char hd
        rw [decS_small h1, h2]
  | k + 1, l, n, hl, hz, h => by
    rcases List.eq_nil_or_concat l with rfl | ⟨m, c, rfl⟩
    · cases hl
    rw [List.concat_eq_append] at hl hz h ⊢
    rw [List.length_append, List.length_singleton] at hl
    rw [decFrom_snoc] at h
    have hm : m.length = k + 1 := by omega
    have h0 : (m ++ [c]).getD 0 0 = m.getD 0 0 := by
      rw [List.getD_eq_getElem?_getD, List.getElem?_append_left (by omega), ← List.getD_eq_getElem?_getD]
    rw [h0, List.length_append, List.length_singleton] at hz
    have hz' : ¬ m.getD 0 0 = 48 := fun e => hz ⟨by omega, e⟩
    cases hf : Lib.decFrom 0 m with
    | none => rw [hf] at h; cases h
    | some p =>
      rw [hf] at h
      dsimp only at h
      have ihm := dec_of_decFrom k m p hm (fun e => hz' e.2) hf
      cases hd : Lib.digitVal c with
      | none => rw [hd] at h; cases h
      | some d =>
        rw [hd] at h
        simp only [Option.some.injEq] at h
        obtain ⟨h1, h2⟩ := digitVal_char hd
        have hp : 1 ≤ p := by
          rcases Nat.eq_zero_or_pos p with rfl | hp
          · exfalso
            apply hz'
            rw [ihm, decS_small (by decide)]
            rfl
          · exact hp
        subst h
        rw [decS_big (show ¬ p * 10 + d < 10 by omega), show (p * 10 + d) / 10 = p from by omega, show (p * 10 + d) % 10 = d from by omega, ← ihm, ← h2]
/-- The number of at most nine digits with a text. -/
def dv (l : List UInt8) : Option Nat := if l.length = 0 ∨ 9 < l.length ∨ (1 < l.length ∧ l.getD 0 0 = 48) then none else Lib.decFrom 0 l
theorem dv_iff {l : List UInt8} {n : Nat} : dv l = some n ↔ n < 1000000000 ∧ l = decS n := by
  constructor
  · intro h
    unfold dv at h
    split at h
    · cases h
    · rename_i hc
      have h1 : ¬ l.length = 0 := fun e => hc (.inl e)
      have h2 : ¬ 9 < l.length := fun e => hc (.inr (.inl e))
      have h3 : ¬ (1 < l.length ∧ l.getD 0 0 = 48) := fun e => hc (.inr (.inr e))
      refine ⟨?_, dec_of_decFrom (l.length - 1) l n (by omega) h3 h⟩
      have hlt := Lib.decFrom_lt l 0 n h
      have : 10 ^ l.length ≤ 10 ^ 9 := Nat.pow_le_pow_right (by decide) (by omega)
      omega
  · rintro ⟨h, rfl⟩
    have hl := decS_len 8 n (by omega)
    have hp := decS_pos n
    unfold dv
    rw [if_neg, decFrom_dec]
    rintro (e | e | ⟨e1, e2⟩)
    · omega
    · omega
    · rcases Nat.eq_zero_or_pos n with rfl | hn
      · rw [decS_small (by decide)] at e1
        simp at e1
      · exact decS_first n hn e2
/-- A word that is a number. -/
def wv (l : List UInt8) : Option Nat := match dv l with
  | some n => if n < 1000003 then some n else none
  | none => none
theorem wv_iff {l : List UInt8} {n : Nat} : wv l = some n ↔ n < 1000003 ∧ l = decS n := by
  unfold wv
  constructor
  · intro h
    cases hd : dv l with
    | none => rw [hd] at h; cases h
    | some m =>
      rw [hd] at h
      dsimp only at h
      split at h
      · rename_i hm
        simp only [Option.some.injEq] at h
        subst h
        exact ⟨hm, (dv_iff.1 hd).2⟩
      · cases h
  · rintro ⟨h, e⟩
    rw [dv_iff.2 ⟨by omega, e⟩]
    exact if_pos h
theorem parse_dec {n : Nat} (h : n < 1000003) : Lib.parseIntB 64 (decS n) = .ok (n : Int) := by
  have hl := decS_len 8 n (by omega)
  have hf := decFrom_dec n
  have hp := decS_pos n
  rw [Lib.parseIntB_64, Lib.atoiAll_short _ (by omega)]
  suffices h : Lib.atoi (decS n) = some (n : Int) by rw [h]; rfl
  cases hd : decS n with
  | nil => rw [hd] at hp; cases hp
  | cons b r =>
    rw [hd] at hf
    have hb : ∃ d, Lib.digitVal b = some d := by
      simp only [Lib.decFrom] at hf
      cases hv : Lib.digitVal b with
      | none => rw [hv] at hf; cases hf
      | some d => exact ⟨d, rfl⟩
    obtain ⟨d, hb⟩ := hb
    obtain ⟨h1, h2, _⟩ := Lib.digitVal_eq hb
    have n45 : (b == 45) = false := by
      rw [beq_eq_false_iff_ne]
      intro e
      subst e
      exact absurd h1 (by decide)
    have n43 : (b == 43) = false := by
      rw [beq_eq_false_iff_ne]
      intro e
      subst e
      exact absurd h1 (by decide)
    simp only [Lib.atoi, n45, n43, Lib.decNat, List.isEmpty_cons, hf]
    rfl
theorem wv_of_bad {l : List UInt8} (h : ∀ x, Lib.parseIntB 64 l ≠ .ok x) : wv l = none := by
  cases hw : wv l with
  | none => rfl
  | some n =>
    obtain ⟨h1, rfl⟩ := wv_iff.1 hw
    exact absurd (parse_dec h1) (h _)
theorem wv_of_ok {l : List UInt8} {x : Int} (h : Lib.parseIntB 64 l = .ok x) {n : Nat} (hw : wv l = some n) : x = n ∧ Lib.itoa x = l ∧ n < 1000003 := by
  obtain ⟨h1, rfl⟩ := wv_iff.1 hw
  rw [parse_dec h1] at h
  injection h with h
  subst h
  exact ⟨rfl, Lib.itoa_nonneg n, h1⟩
theorem wv_of_same {l : List UInt8} {x : Int} (he : Lib.itoa x = l) (h0 : 0 ≤ x ∧ x ≤ 1000002) : wv l = some x.toNat := by
  refine wv_iff.2 ⟨by omega, ?_⟩
  have := Lib.itoa_nonneg x.toNat
  rw [show ((x.toNat : Nat) : Int) = x from by omega] at this
  rw [← he, this]
  rfl
/-! pieces -/
/-- The parts of a text between blanks. -/
def cut : List UInt8 → List (List UInt8)
  | [] => [[]]
  | b :: l => if b = 32 then [] :: cut l else match cut l with
    | [] => [[b]]
    | p :: r => (b :: p) :: r
theorem cut_pos : ∀ l : List UInt8, 0 < (cut l).length
  | [] => by decide
  | b :: l => by
    unfold cut
    split
    · simp
    · split <;> simp
theorem cut_none : ∀ a : List UInt8, 32 ∉ a → cut a = [a]
  | [], _ => rfl
  | b :: l, h => by
    have h1 : ¬ b = 32 := fun e => h (by rw [e]; exact List.mem_cons_self)
    have h2 := cut_none l fun e => h (List.mem_cons_of_mem _ e)
    unfold cut
    rw [if_neg h1, h2]
theorem cut_hit : ∀ (a r : List UInt8), 32 ∉ a → cut (a ++ 32 :: r) = a :: cut r
  | [], r, _ => by
    rw [List.nil_append, cut, if_pos rfl]
  | b :: l, r, h => by
    have h1 : ¬ b = 32 := fun e => h (by rw [e]; exact List.mem_cons_self)
    have h2 := cut_hit l r fun e => h (List.mem_cons_of_mem _ e)
    rw [List.cons_append, cut, if_neg h1, h2]
theorem cut_le : ∀ l : List UInt8, (cut l).length ≤ l.length + 1
  | [] => by decide
  | b :: l => by
    have := cut_le l
    unfold cut
    split
    · simp only [List.length_cons]; omega
    · split
      · simp
      · rename_i e
        rw [e] at this
        simp only [List.length_cons] at this ⊢
        omega
theorem index_cons (b : UInt8) (l : List UInt8) : Lib.index (b :: l) [32] = if b = 32 then 0 else if Lib.index l [32] = -1 then -1 else Lib.index l [32] + 1 := by
  rw [Lib.index]
  by_cases h : b = 32
  · subst h
    simp [List.isPrefixOf]
  · have : ([32] : List UInt8).isPrefixOf (b :: l) = false := by simp [List.isPrefixOf, Ne.symm h]
    rw [this, if_neg h]
    simp
theorem split_cut : ∀ l : List UInt8, Lib.splitK [32] 0 (Lib.count l [32]) l = cut l
  | [] => by
    have : Lib.count [] [32] = 0 := Lib.count_miss (by simp [Lib.index])
    rw [this]
    rfl
  | b :: l => by
    have ih := split_cut l
    have hi := index_cons b l
    by_cases h : b = 32
    · subst h
      rw [if_pos rfl] at hi
      rw [Lib.count_cons_eq, Nat.add_comm, cut, if_pos rfl, Lib.splitK, if_neg (by rw [hi]; decide), hi]
      rw [← ih]
      rfl
    · rw [if_neg h] at hi
      rw [Lib.count_cons_ne _ _ _ h, cut, if_neg h]
      cases hk : Lib.count l [32] with
      | zero =>
        rw [hk] at ih
        rw [← ih]
        rfl
      | succ k =>
        rw [hk] at ih
        have hm : ¬ Lib.index l [32] = -1 := fun e => by rw [Lib.count_miss e] at hk; cases hk
        have hg := Lib.index_ge l [32]
        rw [if_neg hm] at hi
        rw [Lib.splitK, if_neg (by simpa using hm)] at ih
        rw [← ih]
        dsimp only
        rw [Lib.splitK, if_neg (by rw [hi, beq_iff_eq]; omega), hi]
        have e : (Lib.index l [32] + 1).toNat = (Lib.index l [32]).toNat + 1 := by omega
        rw [e, List.length_singleton, Nat.add_zero, Nat.add_zero, List.take_succ_cons, List.drop_succ_cons]
        rfl
/-! the answer -/
def okW (ws : List (List UInt8)) : Bool := ws.all fun a => (wv a).isSome
def vals (ws : List (List UInt8)) : List Int := ws.map fun a => (((wv a).getD 0 : Nat) : Int)
theorem vals_length (ws : List (List UInt8)) : (vals ws).length = ws.length := by simp [vals]
theorem vals_next {ws : List (List UInt8)} {i : Nat} (h : i < ws.length) : vals (ws.take (i + 1)) = vals (ws.take i) ++ [(((wv (ws.getD i [])).getD 0 : Nat) : Int)] := by
  rw [take_snoc (d := []) h, vals, List.map_append]
  rfl
theorem okW_next {ws : List (List UInt8)} {i : Nat} (h : i < ws.length) (h1 : okW (ws.take i) = true) (h2 : (wv (ws.getD i [])).isSome = true) : okW (ws.take (i + 1)) = true := by
  rw [take_snoc (d := []) h, okW, List.all_append]
  rw [okW] at h1
  rw [h1, Bool.true_and, List.all_cons, List.all_nil, Bool.and_true]
  exact h2
theorem okW_bad {ws : List (List UInt8)} {i : Nat} (h : i < ws.length) (h2 : (wv (ws.getD i [])).isSome = false) : okW ws = false := by
  rw [okW, List.all_eq_false]
  refine ⟨ws.getD i [], ?_, by rw [h2]; decide⟩
  rw [List.getD_eq_getElem?_getD, List.getElem?_eq_getElem h]
  exact List.getElem_mem h
/-- What both answer. -/
def fRead (l : List UInt8) : List Int × Int := if okW (cut l) = true ∧ (cut l).length ≤ 13 then (vals (cut l), 0) else ([], 5)
theorem fRead_len (l : List UInt8) : (fRead l).1.length ≤ 1048576 := by
  unfold fRead
  split
  · rename_i h
    dsimp only
    rw [vals_length]
    omega
  · simp
theorem wv_lt {a : List UInt8} : (wv a).getD 0 < 1000003 := by
  cases h : wv a with
  | none => decide
  | some n => exact (wv_iff.1 h).1
theorem vals_nums (ws : List (List UInt8)) : nums (vals ws) = true := by
  refine all_of_lt fun i hi => ?_
  rw [vals_length] at hi
  rw [vals, List.getD_eq_getElem?_getD, List.getElem?_map, List.getElem?_eq_getElem hi]
  have := wv_lt (a := ws[i])
  unfold isNum inB
  exact decide_eq_true (by simp only [Option.map_some, Option.getD_some]; omega)
theorem vals_vld {ws : List (List UInt8)} (h : 0 < ws.length) : vld (vals ws) = decide (ws.length ≤ 13) := by
  rw [vld, vals_nums, Bool.and_true, vals_length]
  unfold inB
  by_cases h13 : ws.length ≤ 13
  · rw [decide_eq_true h13]; exact decide_eq_true (by omega)
  · rw [decide_eq_false h13]; exact decide_eq_false (by omega)
theorem cut_nil_bad : okW (cut []) = false := by
  have : wv [] = none := by
    cases h : wv [] with
    | none => rfl
    | some n =>
      have hp := decS_pos n
      rw [← (wv_iff.1 h).2] at hp
      cases hp
  simp [cut, okW, this]
end Eng
end Go.Proofs.YtogljflccfoaeaaDoor
