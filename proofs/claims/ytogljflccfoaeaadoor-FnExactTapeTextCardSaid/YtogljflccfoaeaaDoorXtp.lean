/- The text of a tape, plain. No condition. -/
import Derived.Test.YtogljflccfoaeaaDoorXb
import Derived.Test.YtogljflccfoaeaaDoorTx
namespace Go.Proofs.YtogljflccfoaeaaDoor
open Go Go.RowKit
namespace Eng
def wordO (op : Int) : List UInt8 := if op = 1 then [105, 110] else if op = 2 then [110, 117, 109] else if op = 3 then [97, 100, 100] else if op = 4 then [115, 117, 98] else if op = 5 then [109, 117, 108] else if op = 6 then [100, 105, 118] else [110, 101, 103]
theorem wordO_length (op : Int) : (wordO op).length ≤ 3 := by
  unfold wordO
  repeat' split
  all_goals decide
def dI (x : Int) : List UInt8 := decS x.toNat
theorem dI_length {x : Int} (h : 0 ≤ x ∧ x ≤ 10000000) : (dI x).length ≤ 21 := decS_length (by omega)
def tailI (c : Ins) : List UInt8 := if c.op = 1 ∨ c.op = 2 then dI c.num else if c.op = 7 then dI c.a else dI c.a ++ [32] ++ dI c.b
def lineI (c : Ins) : List UInt8 := wordO c.op ++ [32] ++ tailI c
def lineG (g : Gd) : List UInt8 := (if g.zero = true then [122, 101, 114, 111, 32] else [111, 116, 104, 101, 114, 32]) ++ dI g.reg ++ [10]
def headT (t : Tp) : List UInt8 := [116, 97, 112, 101, 32] ++ dI t.inputs ++ [10]
def preI (t : Tp) (i : Nat) : List UInt8 := headT t ++ (t.code.take i).flatMap fun c => lineI c ++ [10]
def preG (t : Tp) (j : Nat) : List UInt8 := preI t t.code.length ++ (t.guards.take j).flatMap lineG
def textT (t : Tp) : List UInt8 := preG t t.guards.length ++ [111, 117, 116, 32] ++ joinS t.outs [32] ++ [10]
def textO (t : Tp) : ByteArray := if okT t = true then str (textT t) else str []
/-- An instruction of a valid tape. -/
structure FitI (x : Ins) : Prop where
  op : 1 ≤ x.op ∧ x.op ≤ 7
  a : 0 ≤ x.a ∧ x.a ≤ 10000000
  b : 0 ≤ x.b ∧ x.b ≤ 10000000
  num : 0 ≤ x.num ∧ x.num ≤ 10000000
theorem okI_fit {inp k : Int} {x : Ins} (hi : inp ≤ 12) (hk : k ≤ 3200) (h : okI inp x k = true) : FitI x := by
  unfold okI at h
  by_cases h1 : x.op = 1
  · simp only [if_pos h1, Bool.and_eq_true, decide_eq_true_eq, inB_iff] at h
    exact ⟨by omega, by omega, by omega, by omega⟩
  rw [if_neg h1] at h
  by_cases h2 : x.op = 2
  · simp only [if_pos h2, Bool.and_eq_true, decide_eq_true_eq, isNum, inB_iff] at h
    exact ⟨by omega, by omega, by omega, by omega⟩
  rw [if_neg h2] at h
  by_cases h3 : x.op = 3 ∨ x.op = 4 ∨ x.op = 5 ∨ x.op = 6
  · simp only [if_pos h3, Bool.and_eq_true, decide_eq_true_eq, inB_iff] at h
    exact ⟨by omega, by omega, by omega, by omega⟩
  rw [if_neg h3] at h
  by_cases h7 : x.op = 7
  · simp only [if_pos h7, Bool.and_eq_true, decide_eq_true_eq, inB_iff] at h
    exact ⟨by omega, by omega, by omega, by omega⟩
  rw [if_neg h7] at h
  cases h
theorem tailI_length {x : Ins} (h : FitI x) : (tailI x).length ≤ 43 := by
  have h1 := dI_length h.a
  have h2 := dI_length h.b
  have h3 := dI_length h.num
  unfold tailI
  split
  · omega
  split
  · omega
  · simp only [List.length_append, List.length_cons, List.length_nil]; omega
theorem lineI_length {x : Ins} (h : FitI x) : (lineI x).length ≤ 47 := by
  have h1 := tailI_length h
  have h2 := wordO_length x.op
  unfold lineI
  simp only [List.length_append, List.length_cons, List.length_nil]
  omega
theorem lineG_length {g : Gd} (h : 0 ≤ g.reg ∧ g.reg ≤ 10000000) : (lineG g).length ≤ 28 := by
  have := dI_length h
  unfold lineG
  split <;> simp only [List.length_append, List.length_cons, List.length_nil] <;> omega
theorem flatMap_le {α β : Type} {f : α → List β} {k : Nat} : ∀ {xs : List α}, (∀ x ∈ xs, (f x).length ≤ k) → (xs.flatMap f).length ≤ k * xs.length
  | [], _ => by simp
  | x :: xs, h => by
    have h1 := h x List.mem_cons_self
    have h2 := flatMap_le (xs := xs) fun y hy => h y (List.mem_cons_of_mem _ hy)
    rw [List.flatMap_cons, List.length_append, List.length_cons, Nat.mul_succ]
    omega
theorem take_all {α : Type} {d : α} {xs : List α} {Q : α → Prop} (h : ∀ k, k < xs.length → Q (xs.getD k d)) (i : Nat) : ∀ x ∈ xs.take i, Q x := by
  intro x hx
  obtain ⟨j, hj, e⟩ := List.mem_iff_getElem.1 (List.mem_of_mem_take hx)
  have := h j hj
  rwa [List.getD_eq_getElem?_getD, List.getElem?_eq_getElem hj, Option.getD_some, e] at this
theorem ok_ins {t : Tp} (h : okT t = true) : ∀ k, k < t.code.length → FitI (t.code.getD k dIns) := by
  obtain ⟨h0, h1, h2, h3, h4, h5, h6⟩ := okT_iff.1 h
  exact fun k hk => okI_fit h0.2 (by omega) (h4 k hk)
theorem ok_gds {t : Tp} (h : okT t = true) : ∀ k, k < t.guards.length → 0 ≤ (t.guards.getD k dGd).reg ∧ (t.guards.getD k dGd).reg ≤ 10000000 := by
  obtain ⟨h0, h1, h2, h3, h4, h5, h6⟩ := okT_iff.1 h
  exact fun k hk => ⟨(h5 k hk).1, by have := (h5 k hk).2; omega⟩
theorem ok_outs {t : Tp} (h : okT t = true) : fitN t.outs := by
  obtain ⟨h0, h1, h2, h3, h4, h5, h6⟩ := okT_iff.1 h
  intro x hx
  obtain ⟨j, hj, e⟩ := List.mem_iff_getElem.1 hx
  have := h6 j hj
  rw [List.getD_eq_getElem?_getD, List.getElem?_eq_getElem hj, Option.getD_some, e] at this
  omega
theorem headT_length {t : Tp} (h : okT t = true) : (headT t).length ≤ 27 := by
  obtain ⟨h0, _⟩ := okT_iff.1 h
  have := dI_length (x := t.inputs) (by omega)
  unfold headT
  simp only [List.length_append, List.length_cons, List.length_nil]
  omega
theorem preI_length {t : Tp} (h : okT t = true) (i : Nat) : (preI t i).length ≤ 153627 := by
  have h1 := headT_length h
  obtain ⟨_, hc, _⟩ := okT_iff.1 h
  have h2 := flatMap_le (f := fun c => lineI c ++ [10]) (k := 48) (xs := t.code.take i) fun x hx => by
    have := lineI_length (take_all (d := dIns) (ok_ins h) i x hx)
    simp only [List.length_append, List.length_cons, List.length_nil]
    omega
  rw [List.length_take] at h2
  unfold preI
  rw [List.length_append]
  omega
theorem preG_length {t : Tp} (h : okT t = true) (j : Nat) : (preG t j).length ≤ 243227 := by
  have h1 := preI_length h t.code.length
  obtain ⟨_, _, hg, _⟩ := okT_iff.1 h
  have h2 := flatMap_le (f := lineG) (k := 28) (xs := t.guards.take j) fun x hx => lineG_length (take_all (d := dGd) (Q := fun g : Gd => 0 ≤ g.reg ∧ g.reg ≤ 10000000) (ok_gds h) j x hx)
  rw [List.length_take] at h2
  unfold preG
  rw [List.length_append]
  omega
theorem preI_next {t : Tp} {i : Nat} (hi : i < t.code.length) : preI t (i + 1) = preI t i ++ lineI (t.code.getD i dIns) ++ [10] := by
  unfold preI
  rw [take_snoc (d := dIns) hi, List.flatMap_append, List.flatMap_cons, List.flatMap_nil, List.append_nil]
  simp only [List.append_assoc]
theorem preI_zero (t : Tp) : preI t 0 = headT t := by simp [preI]
theorem preG_next {t : Tp} {j : Nat} (hj : j < t.guards.length) : preG t (j + 1) = preG t j ++ lineG (t.guards.getD j dGd) := by
  unfold preG
  rw [take_snoc (d := dGd) hj, List.flatMap_append, List.flatMap_cons, List.flatMap_nil, List.append_nil, List.append_assoc]
theorem preG_zero (t : Tp) : preG t 0 = preI t t.code.length := by simp [preG]
theorem tail_num {x : Ins} (h : x.op = 1 ∨ x.op = 2) : tailI x = dI x.num := if_pos h
theorem tail_neg {x : Ins} (h : x.op = 7) : tailI x = dI x.a := by rw [tailI, if_neg (by omega), if_pos h]
theorem tail_two {x : Ins} (h : ¬ (x.op = 1 ∨ x.op = 2)) (h7 : ¬ x.op = 7) : tailI x = dI x.a ++ [32] ++ dI x.b := by rw [tailI, if_neg h, if_neg h7]
def wordsI : List Value := [.string ⟨#[105, 110]⟩, .string ⟨#[110, 117, 109]⟩, .string ⟨#[97, 100, 100]⟩, .string ⟨#[115, 117, 98]⟩, .string ⟨#[109, 117, 108]⟩, .string ⟨#[100, 105, 118]⟩, .string ⟨#[110, 101, 103]⟩]
theorem wordsI_at {op : Int} (h : 1 ≤ op ∧ op ≤ 7) : wordsI[(op - 1).toNat]? = some (.string (str (wordO op))) := by
  have : op = 1 ∨ op = 2 ∨ op = 3 ∨ op = 4 ∨ op = 5 ∨ op = 6 ∨ op = 7 := by omega
  rcases this with rfl | rfl | rfl | rfl | rfl | rfl | rfl <;> rfl
theorem wordsS_at {op : Int} (h : 1 ≤ op ∧ op ≤ 7) : (Value.string ⟨#[]⟩ :: wordsI)[op.toNat]? = some (.string (str (wordO op))) := by
  have : op = 1 ∨ op = 2 ∨ op = 3 ∨ op = 4 ∨ op = 5 ∨ op = 6 ∨ op = 7 := by omega
  rcases this with rfl | rfl | rfl | rfl | rfl | rfl | rfl <;> rfl
end Eng
end Go.Proofs.YtogljflccfoaeaaDoor
