/- Numerals joined; SeriesText: the contracts of both sides, and the law's walk. Conditions: the numbers and lengths fit. -/
import Derived.Test.YtogljflccfoaeaaDoorXs
import Derived.Lib.Join
namespace Go.Proofs.YtogljflccfoaeaaDoor
open Go Go.RowKit
namespace Eng
/-! joins, plain -/
theorem joinTail_snoc (sep : List UInt8) (r : List (List UInt8)) (x : List UInt8) : Lib.joinTail sep (r ++ [x]) = Lib.joinTail sep r ++ (sep ++ x) := by
  simp [Lib.joinTail]
theorem join_snoc (sep x : List UInt8) : ∀ ls : List (List UInt8), ls ≠ [] → Lib.join (ls ++ [x]) sep = Lib.join ls sep ++ sep ++ x
  | [], h => absurd rfl h
  | y :: r, _ => by rw [List.cons_append, Lib.join_cons, Lib.join_cons, joinTail_snoc]; simp [List.append_assoc]
theorem lens_le {k : Nat} : ∀ {ls : List (List UInt8)}, (∀ l ∈ ls, l.length ≤ k) → Lib.lens ls ≤ k * ls.length
  | [], _ => by simp [Lib.lens]
  | x :: r, h => by
    have h1 := h x List.mem_cons_self
    have h2 := lens_le (ls := r) fun l hl => h l (List.mem_cons_of_mem _ hl)
    have e : Lib.lens (x :: r) = x.length + Lib.lens r := by simp [Lib.lens]
    rw [e, List.length_cons, Nat.mul_succ]
    omega
theorem join_le {k : Nat} {ls : List (List UInt8)} {sep : List UInt8} (h : ∀ l ∈ ls, l.length ≤ k) : (Lib.join ls sep).length ≤ sep.length * ls.length + k * ls.length := by
  cases ls with
  | nil => simp [Lib.join_nil]
  | cons x r =>
    have := lens_le h
    rw [Lib.join_length]
    have : sep.length * r.length ≤ sep.length * (x :: r).length := Nat.mul_le_mul_left _ (by simp)
    omega
def nums10 (xs : List Int) : List (List UInt8) := xs.map fun x => decS x.toNat
def joinS (xs : List Int) (sep : List UInt8) : List UInt8 := Lib.join (nums10 xs) sep
def fitN (xs : List Int) : Prop := ∀ x ∈ xs, 0 ≤ x ∧ x ≤ 9223372036854775807
theorem nums10_le {xs : List Int} (h : fitN xs) : ∀ l ∈ nums10 xs, l.length ≤ 21 := by
  intro l hl
  obtain ⟨x, hx, rfl⟩ := List.mem_map.1 hl
  have := h x hx
  exact decS_length (by omega)
theorem joinS_le {xs : List Int} {sep : List UInt8} (h : fitN xs) : (joinS xs sep).length ≤ sep.length * xs.length + 21 * xs.length := by
  have := join_le (sep := sep) (nums10_le h)
  rwa [show (nums10 xs).length = xs.length from by simp [nums10]] at this
theorem getD_fit {xs : List Int} (h : fitN xs) {i : Nat} (hi : i < xs.length) : 0 ≤ xs.getD i 0 ∧ xs.getD i 0 ≤ 9223372036854775807 := by
  rw [List.getD_eq_getElem?_getD, List.getElem?_eq_getElem hi]
  exact h _ (List.getElem_mem hi)
theorem take_snoc {α : Type} {d : α} {xs : List α} {i : Nat} (hi : i < xs.length) : xs.take (i + 1) = xs.take i ++ [xs.getD i d] := by
  rw [List.take_add_one, List.getElem?_eq_getElem hi, List.getD_eq_getElem?_getD, List.getElem?_eq_getElem hi]
  rfl
theorem joinS_first {xs : List Int} {sep : List UInt8} (h0 : 0 < xs.length) : joinS (xs.take 1) sep = decS (xs.getD 0 0).toNat := by
  rw [take_snoc (d := 0) h0]
  simp [joinS, nums10, Lib.join_one]
theorem joinS_next {xs : List Int} {sep : List UInt8} {i : Nat} (h0 : 0 < i) (hi : i < xs.length) : joinS (xs.take (i + 1)) sep = joinS (xs.take i) sep ++ sep ++ decS (xs.getD i 0).toNat := by
  have hne : nums10 (xs.take i) ≠ [] := by
    intro e
    have : (nums10 (xs.take i)).length = 0 := by rw [e]; rfl
    rw [nums10, List.length_map, List.length_take] at this
    omega
  rw [take_snoc (d := 0) hi, joinS, nums10, List.map_append, List.map_cons, List.map_nil]
  exact join_snoc _ _ _ hne
/-! the calls -/
theorem implDecimalI (x : Int) (h : 0 ≤ x ∧ x ≤ 9223372036854775807) (w : World) (ht : TabW w) : CallsR Tryd.prog 34 [.int .i64 x] w fun v w' => v = .string (str (decS x.toNat)) ∧ Ext w w' := by
  obtain ⟨n, rfl⟩ : ∃ n : Nat, x = n := ⟨x.toNat, by omega⟩
  exact implDecimal n (by omega) w ht
theorem specDecimalI (x : Int) (h : 0 ≤ x ∧ x ≤ 9223372036854775807) (w : World) : CallsR Tryd.prog 46 [.int .i64 x] w fun v w' => v = .string (str (decS x.toNat)) ∧ Ext w w' := by
  obtain ⟨n, rfl⟩ : ∃ n : Nat, x = n := ⟨x.toNat, by omega⟩
  exact specDecimal n (by omega) w
def strs (ls : List (List UInt8)) : List Value := ls.map fun l => Value.string (str l)
theorem joinC (s : Value) (B : Nat) (ls : List (List UInt8)) (sep : List UInt8) (w : World) (h : w.ownsRow B 9 1 s ls.length (strs ls)) (hN : ls.length ≤ 1000000) (hlen : (Lib.join ls sep).length ≤ 1000000000) :
    CallsR Tryd.prog 49 [s, .string (str sep)] w fun v w' => v = .string (str (Lib.join ls sep)) ∧ Ext w w' := by
  have hf := own_form h
  rcases h.2 with ⟨rfl, h0⟩ | ⟨g, cap, cur, rfl, _, hg, hcap, _, hsz, htk⟩
  · obtain rfl : ls = [] := List.eq_nil_of_length_eq_zero h0
    have hcon := Any.strings_Join_none layJ extraJ none 0 (str sep) w
    refine ⟨Calls.mono hcon fun e w' he => ?_, ⟨_, Tryd.func49, by decide +kernel, by rfl⟩⟩
    obtain ⟨rfl, rfl⟩ := he
    exact ⟨rfl, Ext.refl _⟩
  · obtain ⟨A, c, e, hrd⟩ := hf
    injection e with e1 _ e2
    subst e1
    have hmap : (ls.map str).map (·.data.toList) = ls := by simp [str, Function.comp_def]
    have hsep : (str sep).data.toList = sep := by simp [str]
    have hcon := Any.strings_Join layJ extraJ g 0 cap (ls.map str) (str sep) w (fun j x hj => by
        have hj' : (strs ls)[j]? = some (.string x) := by
          rw [List.getElem?_map] at hj
          rw [strs, List.getElem?_map]
          cases hq : ls[j]? with
          | none => rw [hq] at hj; cases hj
          | some l => rw [hq] at hj; injection hj with hj; rw [← hj]; rfl
        obtain ⟨b, o, eA, hc⟩ := hrd j _ hj'
        injection eA with eA
        injection eA with e1 e2 _
        subst e1 e2
        exact hc) (Array.getElem?_eq_some_iff.1 hg).1 (by rw [List.length_map]; omega) (by rw [List.length_map]; exact hcap) (by rw [hmap, hsep]; omega)
    rw [hmap, hsep, List.length_map] at hcon
    refine ⟨Calls.mono hcon fun e w' he => ?_, ⟨_, Tryd.func49, by decide +kernel, by rfl⟩⟩
    obtain ⟨rfl, hb⟩ := he
    exact ⟨rfl, hb⟩
set_option maxHeartbeats 4000000 in
theorem implJoined (A : Option Addr) (c : Nat) (xs : List Int) (sep : List UInt8) (w : World) (hx : Rd w A (ints xs)) (hn : xs.length ≤ 1000) (hb : fitN xs) (hs : sep.length ≤ 100) (ht : TabW w) :
    CallsR Tryd.prog 24 [.slice A xs.length c, .string (str sep)] w fun v w' => v = .string (str (joinS xs sep)) ∧ Ext w w' := by
  refine CallsR.enter Tryd.func24 (by decide +kernel) rfl Tryd.ntmps24 rfl ?_
  repeat' (first
    | refine EL.f (FV.assign rfl) rfl rfl ?_
    | refine EL.nil ?_
    | refine EW.seq ?_
    | refine EW.region ?_)
  refine EL.h (Hv.build0 rfl rfl) rfl (fun _ => rfl) ?_
  rintro s0 w1 ⟨ho1, he1⟩
  repeat' (first
    | refine EL.f (FV.move rfl) rfl rfl ?_
    | refine EL.f (FV.assign rfl) rfl rfl ?_
    | refine EL.f (FV.len rfl rfl) rfl rfl ?_
    | refine EL.nil ?_
    | refine EW.seq ?_
    | refine EW.region ?_
    | refine EW.block ?_)
  refine EW.loop (X := Nat × Value) (fun y wr => y.1 ≤ xs.length ∧ wr.ownsRow w.heap.size 9 1 y.2 y.1 (strs (nums10 (xs.take y.1))) ∧ Ext w wr) (fun y => [(1, .string (str sep)), (5, y.2), (9, .slice A xs.length c), (10, .int .i64 xs.length), (11, .int .i64 y.1)]) (fun y => xs.length - y.1) (0, s0) ⟨Nat.zero_le _, by rw [List.take_zero]; exact ho1, he1⟩ ⟨rfl, rfl, rfl, rfl, rfl, trivial⟩ ?_
  rintro ⟨i, s⟩ wr ⟨hi, hown, hE⟩
  dsimp only at *
  by_cases hlt : i < xs.length
  rotate_left
  · obtain rfl : i = xs.length := by omega
    rw [List.take_length] at hown
    have hl := joinS_le (sep := sep) hb
    have hl2 : sep.length * xs.length ≤ 100 * 1000 := Nat.mul_le_mul hs hn
    repeat' (first
      | refine EL.f (FV.move rfl) rfl rfl ?_
      | refine EL.fF (FV.lss rfl rfl) rfl (fun _ => rfl) (by omega) ?_
      | refine EL.nil ?_
      | refine EW.seq ?_
      | refine EW.region ?_
      | refine EW.exit ?_
      | refine EW.condF rfl ?_)
    refine EL.h (Hv.call (joinC s w.heap.size (nums10 xs) sep wr (by rw [show (nums10 xs).length = xs.length from by simp [nums10]]; exact hown) (by simp [nums10]; omega) (by rw [← joinS]; omega)) rfl) rfl (fun _ => rfl) ?_
    rintro _ w2 ⟨rfl, he2⟩
    repeat' (first
      | refine EL.f (FV.assign rfl) rfl rfl ?_
      | refine EL.nil ?_
      | refine EW.ret ?_)
    exact ⟨_, rfl, rfl, hE.trans he2⟩
  have hfit := getD_fit hb hlt
  obtain ⟨b, o, rfl, hc⟩ := hx.int hlt
  replace hc := hE.cell hc
  repeat' (first
    | (show EL _ _ _ _ (_ :: _) _ _
       first
       | (show EL _ _ _ _ (⟨_, .indexAddr _ _ _, _, _, _, _⟩ :: _) _ _; refine EL.f (FV.idx1 rfl rfl rfl rfl (by omega) (by omega)) rfl rfl ?_)
       | (show EL _ _ _ _ (⟨_, .load _ _, _, _, _, _⟩ :: _) _ _; refine EL.f (FV.load1 rfl rfl rfl (hc)) rfl rfl ?_)
       | (show EL _ _ _ _ (⟨_, .move _, _, _, _, _⟩ :: _) _ _; refine EL.f (FV.move rfl) rfl rfl ?_)
       | (show EL _ _ _ _ (⟨_, .assign _, _, _, _, _⟩ :: _) _ _; refine EL.f (FV.assign rfl) rfl rfl ?_)
       | (show EL _ _ _ _ (⟨_, .binOp .lss _ _ _ _, _, _, _, _⟩ :: _) _ _; refine EL.fT (FV.lss rfl rfl) rfl (fun _ => rfl) (by omega) ?_))
    | refine EL.nil ?_
    | refine EW.seq ?_
    | refine EW.region ?_
    | refine EW.block ?_
    | refine EW.skip ?_
    | refine EW.condT rfl ?_)
  refine EL.h (Hv.call (implDecimalI (xs.getD i 0) hfit wr (ht.ext hE)) rfl) rfl (fun _ => rfl) ?_
  rintro _ a1 ⟨rfl, ea1⟩
  skip
  refine EL.h (Hv.build1S rfl rfl rfl rfl) rfl (fun _ => rfl) ?_
  rintro _ a2 ⟨ga, rfl, hga, hgga, ea2⟩
  have E2 := ea1.trans ea2
  have oa := own_ext hown E2
  skip
  refine EL.h (Hv.append1 (B := w.heap.size) rfl rfl rfl rfl rfl oa (At.cell hga rfl) rfl (by omega) (by omega) (Nat.le_trans hE.size E2.size)) rfl (fun _ => rfl) ?_
  rintro s8 a3 ⟨h8, gra, bla⟩
  have hE8 : Ext w a3 := Below.trans (hE.trans E2) bla
  repeat' (first
    | refine EL.f (FV.move rfl) rfl rfl ?_
    | refine EL.f (FV.assign rfl) rfl rfl ?_
    | refine EL.f (FV.addI rfl rfl (by omega)) rfl rfl ?_
    | refine EL.nil ?_
    | refine EW.region ?_)
  exact ⟨(i + 1, s8), ⟨rfl, rfl, rfl, rfl, rfl, trivial⟩, ⟨by dsimp only; omega, by
    dsimp only
    rw [take_snoc (d := 0) hlt]
    simp only [nums10, strs, List.map_append, List.map_cons, List.map_nil]
    exact h8, hE8⟩, by dsimp only; omega⟩
set_option maxHeartbeats 4000000 in
theorem specList (A : Option Addr) (c : Nat) (xs : List Int) (w : World) (hx : Rd w A (ints xs)) (hn : xs.length ≤ 1000) (hb : fitN xs) :
    CallsR Tryd.prog 22 [.slice A xs.length c] w fun v w' => v = .string (str (joinS xs [32])) ∧ Ext w w' := by
  refine CallsR.enter Tryd.func22 (by decide +kernel) rfl Tryd.ntmps22 rfl ?_
  repeat' (first
    | refine EL.f (FV.assign rfl) rfl rfl ?_
    | refine EL.nil ?_
    | refine EW.seq ?_
    | refine EW.region ?_
    | refine EW.block ?_)
  refine EW.loop (X := Nat × List UInt8) (fun y wr => y.1 ≤ xs.length ∧ y.2 = joinS (xs.take y.1) [32] ∧ Ext w wr) (fun y => [(0, .slice A xs.length c), (3, .string (str y.2)), (4, .int .i64 y.1)]) (fun y => xs.length - y.1) (0, []) ⟨Nat.zero_le _, by simp [joinS, nums10, Lib.join_nil], Ext.refl _⟩ ⟨rfl, rfl, rfl, trivial⟩ ?_
  rintro ⟨i, l⟩ wr ⟨hi, hl0, hE⟩
  dsimp only at *
  subst hl0
  have hl := joinS_le (xs := xs.take i) (sep := [32]) fun x hx => hb x (List.mem_of_mem_take hx)
  rw [List.length_take, Nat.min_eq_left hi] at hl
  simp only [List.length_cons, List.length_nil] at hl
  by_cases hlt : i < xs.length
  rotate_left
  · obtain rfl : i = xs.length := by omega
    rw [List.take_length]
    repeat' (first
      | (show EL _ _ _ _ (_ :: _) _ _
         first
         | (show EL _ _ _ _ (⟨_, .move _, _, _, _, _⟩ :: _) _ _; refine EL.f (FV.move rfl) rfl rfl ?_)
         | (show EL _ _ _ _ (⟨_, .assign _, _, _, _, _⟩ :: _) _ _; refine EL.f (FV.assign rfl) rfl rfl ?_)
         | (show EL _ _ _ _ (⟨_, .call _, _, _, _, _⟩ :: _) _ _; refine EL.f (FV.len rfl rfl) rfl rfl ?_)
         | (show EL _ _ _ _ (⟨_, .binOp .lss _ _ _ _, _, _, _, _⟩ :: _) _ _; refine EL.fF (FV.lss rfl rfl) rfl (fun _ => rfl) (by omega) ?_))
      | refine EL.nil ?_
      | refine EW.seq ?_
      | refine EW.region ?_
      | refine EW.exit ?_
      | refine EW.ret ?_
      | refine EW.condF rfl ?_)
    exact ⟨_, rfl, rfl, hE⟩
  have hfit := getD_fit hb hlt
  have hd := decS_length (n := (xs.getD i 0).toNat) (by omega)
  obtain ⟨b, o, rfl, hc⟩ := hx.int hlt
  replace hc := hE.cell hc
  by_cases h0 : i = 0
  · subst h0
    repeat' (first
      | (show EL _ _ _ _ (_ :: _) _ _
         first
         | (show EL _ _ _ _ (⟨_, .indexAddr _ _ _, _, _, _, _⟩ :: _) _ _; refine EL.f (FV.idx1 rfl rfl rfl rfl (by omega) (by omega)) rfl rfl ?_)
         | (show EL _ _ _ _ (⟨_, .load _ _, _, _, _, _⟩ :: _) _ _; refine EL.f (FV.load1 rfl rfl rfl (hc)) rfl rfl ?_)
         | (show EL _ _ _ _ (⟨_, .move _, _, _, _, _⟩ :: _) _ _; refine EL.f (FV.move rfl) rfl rfl ?_)
         | (show EL _ _ _ _ (⟨_, .call _, _, _, _, _⟩ :: _) _ _; refine EL.f (FV.len rfl rfl) rfl rfl ?_)
         | (show EL _ _ _ _ (⟨_, .binOp .lss _ _ _ _, _, _, _, _⟩ :: _) _ _; refine EL.fT (FV.lss rfl rfl) rfl (fun _ => rfl) (by omega) ?_)
         | (show EL _ _ _ _ (⟨_, .binOp .gtr _ _ _ _, _, _, _, _⟩ :: _) _ _; refine EL.fF (FV.gtr rfl rfl) rfl (fun _ => rfl) (by omega) ?_))
      | refine EL.nil ?_
      | refine EW.seq ?_
      | refine EW.region ?_
      | refine EW.block ?_
      | refine EW.skip ?_
      | refine EW.condT rfl ?_
      | refine EW.condF rfl ?_)
    refine EL.h (Hv.call (specDecimalI (xs.getD 0 0) hfit wr) rfl) rfl (fun _ => rfl) ?_
    rintro _ a1 ⟨rfl, ea1⟩
    repeat' (first
      | refine EL.f (FV.move rfl) rfl rfl ?_
      | refine EL.f (FV.assign rfl) rfl rfl ?_
      | refine EL.f (FV.addI rfl rfl (by omega)) rfl rfl ?_
      | refine EL.nil ?_
      | (refine EL.f (FV.cat rfl rfl (by rw [str_size, str_size]; omega)) rfl rfl ?_)
      | refine EW.region ?_)
    refine ⟨(1, decS (xs.getD 0 0).toNat), ⟨rfl, ?_, rfl, trivial⟩, ⟨by dsimp only; omega, (joinS_first hlt).symm, hE.trans ea1⟩, by dsimp only; omega⟩
    show some (Value.string _) = some (Value.string _)
    rw [str_append]
    simp [joinS, nums10, Lib.join_nil]
  · repeat' (first
      | (show EL _ _ _ _ (_ :: _) _ _
         first
         | (show EL _ _ _ _ (⟨_, .indexAddr _ _ _, _, _, _, _⟩ :: _) _ _; refine EL.f (FV.idx1 rfl rfl rfl rfl (by omega) (by omega)) rfl rfl ?_)
         | (show EL _ _ _ _ (⟨_, .load _ _, _, _, _, _⟩ :: _) _ _; refine EL.f (FV.load1 rfl rfl rfl (hc)) rfl rfl ?_)
         | (show EL _ _ _ _ (⟨_, .move _, _, _, _, _⟩ :: _) _ _; refine EL.f (FV.move rfl) rfl rfl ?_)
         | (show EL _ _ _ _ (⟨_, .assign _, _, _, _, _⟩ :: _) _ _; refine EL.f (FV.assign rfl) rfl rfl ?_)
         | (show EL _ _ _ _ (⟨_, .call _, _, _, _, _⟩ :: _) _ _; refine EL.f (FV.len rfl rfl) rfl rfl ?_)
         | (show EL _ _ _ _ (⟨_, .binOp .lss _ _ _ _, _, _, _, _⟩ :: _) _ _; refine EL.fT (FV.lss rfl rfl) rfl (fun _ => rfl) (by omega) ?_)
         | (show EL _ _ _ _ (⟨_, .binOp .gtr _ _ _ _, _, _, _, _⟩ :: _) _ _; refine EL.fT (FV.gtr rfl rfl) rfl (fun _ => rfl) (by omega) ?_))
      | refine EL.nil ?_
      | (refine EL.f (FV.cat rfl rfl (by rw [str_size, show (ByteArray.mk #[32]).size = 1 from rfl]; omega)) rfl rfl ?_)
      | refine EW.seq ?_
      | refine EW.region ?_
      | refine EW.block ?_
      | refine EW.skip ?_
      | refine EW.condT rfl ?_)
    refine EL.h (Hv.call (specDecimalI (xs.getD i 0) hfit wr) rfl) rfl (fun _ => rfl) ?_
    rintro _ a1 ⟨rfl, ea1⟩
    have e32 : (ByteArray.mk #[32]) = str [32] := rfl
    rw [e32, str_append]
    repeat' (first
      | refine EL.f (FV.move rfl) rfl rfl ?_
      | refine EL.f (FV.assign rfl) rfl rfl ?_
      | refine EL.f (FV.addI rfl rfl (by omega)) rfl rfl ?_
      | refine EL.nil ?_
      | (refine EL.f (FV.cat rfl rfl (by rw [str_size, str_size, List.length_append, List.length_singleton]; omega)) rfl rfl ?_)
      | refine EW.region ?_)
    refine ⟨(i + 1, joinS (xs.take (i + 1)) [32]), ⟨rfl, ?_, rfl, trivial⟩, ⟨by dsimp only; omega, rfl, hE.trans ea1⟩, by dsimp only; omega⟩
    show some (Value.string _) = some (Value.string _)
    rw [str_append, joinS_next (by omega) hlt]
def fText (xs : List Int) : ByteArray := if vld xs = true then str (joinS xs [32]) else str []
theorem vld_fit {xs : List Int} (h : vld xs = true) : xs.length ≤ 13 ∧ fitN xs := by
  rw [vld, Bool.and_eq_true] at h
  have h1 := of_decide_eq_true h.1
  refine ⟨by omega, fun x hx => ?_⟩
  have h2 := of_decide_eq_true (List.all_eq_true.1 h.2 x hx)
  omega
theorem implText (A : Option Addr) (c : Nat) (xs : List Int) (w : World) (hx : Rd w A (ints xs)) (hn : xs.length ≤ 1048576) (ht : TabW w) :
    CallsR Tryd.prog 13 [.slice A xs.length c] w fun v w' => v = .string (fText xs) ∧ Ext w w' := by
  refine CallsR.enter Tryd.func13 (by decide +kernel) rfl Tryd.ntmps13 rfl ?_
  repeat' (first
    | (show EL _ _ _ _ (_ :: _) _ _
       first
       | (show EL _ _ _ _ (⟨_, .call _, _, _, _, _⟩ :: _) _ _; (refine EL.h (Hv.call (implValid A c xs w hx (by omega)) rfl) rfl (fun _ => rfl) ?_; rintro _ _ ⟨rfl, rfl⟩))
       | (show EL _ _ _ _ (⟨_, .move _, _, _, _, _⟩ :: _) _ _; refine EL.f (FV.move rfl) rfl rfl ?_)
       | (show EL _ _ _ _ (⟨_, .assign _, _, _, _, _⟩ :: _) _ _; refine EL.f (FV.assign rfl) rfl rfl ?_)
       | (show EL _ _ _ _ (⟨_, .unOp .not _ _, _, _, _, _⟩ :: _) _ _; refine EL.f (FV.not rfl) rfl rfl ?_))
    | refine EL.nil ?_
    | refine EW.seq ?_
    | refine EW.region ?_)
  cases hv : vld xs
  · repeat' (first
      | refine EL.f (FV.assign rfl) rfl rfl ?_
      | refine EL.nil ?_
      | refine EW.seq ?_
      | refine EW.region ?_
      | refine EW.ret ?_
      | refine EW.condT rfl ?_)
    exact ⟨_, rfl, by rw [fText, if_neg (by rw [hv]; decide)]; rfl, Ext.refl _⟩
  · obtain ⟨h13, hfit⟩ := vld_fit hv
    repeat' (first
      | refine EL.f (FV.move rfl) rfl rfl ?_
      | refine EW.seq ?_
      | refine EW.region ?_
      | refine EW.skip ?_
      | refine EW.condF rfl ?_)
    refine EL.h (Hv.call (implJoined A c xs [32] w hx (by omega) hfit (by decide) ht) rfl) rfl (fun _ => rfl) ?_
    rintro _ w1 ⟨rfl, he1⟩
    repeat' (first
      | refine EL.f (FV.assign rfl) rfl rfl ?_
      | refine EL.nil ?_
      | refine EW.ret ?_)
    exact ⟨_, rfl, by rw [fText, if_pos hv], he1⟩
theorem specText (A : Option Addr) (c : Nat) (xs : List Int) (w : World) (hx : Rd w A (ints xs)) (hn : xs.length ≤ 1048576) :
    CallsR Tryd.prog 11 [.slice A xs.length c] w fun v w' => v = .string (fText xs) ∧ Ext w w' := by
  refine CallsR.enter Tryd.func11 (by decide +kernel) rfl Tryd.ntmps11 rfl ?_
  repeat' (first
    | (show EL _ _ _ _ (_ :: _) _ _
       first
       | (show EL _ _ _ _ (⟨_, .call _, _, _, _, _⟩ :: _) _ _; (refine EL.h (Hv.call (specOk A c xs w hx (by omega)) rfl) rfl (fun _ => rfl) ?_; rintro _ _ ⟨rfl, rfl⟩))
       | (show EL _ _ _ _ (⟨_, .move _, _, _, _, _⟩ :: _) _ _; refine EL.f (FV.move rfl) rfl rfl ?_)
       | (show EL _ _ _ _ (⟨_, .assign _, _, _, _, _⟩ :: _) _ _; refine EL.f (FV.assign rfl) rfl rfl ?_)
       | (show EL _ _ _ _ (⟨_, .unOp .not _ _, _, _, _, _⟩ :: _) _ _; refine EL.f (FV.not rfl) rfl rfl ?_))
    | refine EL.nil ?_
    | refine EW.seq ?_
    | refine EW.region ?_)
  cases hv : vld xs
  · repeat' (first
      | refine EL.f (FV.assign rfl) rfl rfl ?_
      | refine EL.nil ?_
      | refine EW.seq ?_
      | refine EW.region ?_
      | refine EW.ret ?_
      | refine EW.condT rfl ?_)
    exact ⟨_, rfl, by rw [fText, if_neg (by rw [hv]; decide)]; rfl, Ext.refl _⟩
  · obtain ⟨h13, hfit⟩ := vld_fit hv
    repeat' (first
      | refine EL.f (FV.move rfl) rfl rfl ?_
      | refine EW.seq ?_
      | refine EW.region ?_
      | refine EW.skip ?_
      | refine EW.condF rfl ?_)
    refine EL.h (Hv.call (specList A c xs w hx (by omega) hfit) rfl) rfl (fun _ => rfl) ?_
    rintro _ w1 ⟨rfl, he1⟩
    repeat' (first
      | refine EL.f (FV.assign rfl) rfl rfl ?_
      | refine EL.nil ?_
      | refine EW.ret ?_)
    exact ⟨_, rfl, by rw [fText, if_pos hv], he1⟩
def LaidW (w : World) : Prop := TabW w
theorem lawSeriesText (A : Option Addr) (c : Nat) (xs : List Int) (w : World) (ht : LaidW w) (hx : Rd w A (ints xs)) (hm : xs.length ≤ 9223372036854775807) :
    CallsR Tryd.prog 4 [.slice A xs.length c] w fun v w' => v = .bool true ∧ Ext w w' := by
  refine CallsR.enter Tryd.func4 (by decide +kernel) rfl Tryd.ntmps4 rfl ?_
  by_cases hn : xs.length ≤ 1048576
  rotate_left
  · repeat' (first
      | (show EL _ _ _ _ (_ :: _) _ _
         first
         | (show EL _ _ _ _ (⟨_, .move _, _, _, _, _⟩ :: _) _ _; refine EL.f (FV.move rfl) rfl rfl ?_)
         | (show EL _ _ _ _ (⟨_, .assign _, _, _, _, _⟩ :: _) _ _; refine EL.f (FV.assign rfl) rfl rfl ?_)
         | (show EL _ _ _ _ (⟨_, .call _, _, _, _, _⟩ :: _) _ _; refine EL.f (FV.len rfl rfl) rfl rfl ?_)
         | (show EL _ _ _ _ (⟨_, .binOp .gtr _ _ _ _, _, _, _, _⟩ :: _) _ _; refine EL.fT (FV.gtr rfl rfl) rfl (fun _ => rfl) (by omega) ?_))
      | refine EL.nil ?_
      | refine EW.seq ?_
      | refine EW.region ?_
      | refine EW.ret ?_
      | refine EW.condT rfl ?_)
    exact ⟨_, rfl, rfl, Ext.refl _⟩
  repeat' (first
    | (show EL _ _ _ _ (_ :: _) _ _
       first
       | (show EL _ _ _ _ (⟨_, .move _, _, _, _, _⟩ :: _) _ _; refine EL.f (FV.move rfl) rfl rfl ?_)
       | (show EL _ _ _ _ (⟨_, .assign _, _, _, _, _⟩ :: _) _ _; refine EL.f (FV.assign rfl) rfl rfl ?_)
       | (show EL _ _ _ _ (⟨_, .call _, _, _, _, _⟩ :: _) _ _; refine EL.f (FV.len rfl rfl) rfl rfl ?_)
       | (show EL _ _ _ _ (⟨_, .binOp .gtr _ _ _ _, _, _, _, _⟩ :: _) _ _; refine EL.fF (FV.gtr rfl rfl) rfl (fun _ => rfl) (by omega) ?_))
    | refine EL.nil ?_
    | refine EW.seq ?_
    | refine EW.region ?_
    | refine EW.skip ?_
    | refine EW.condF rfl ?_)
  refine EL.h (Hv.call (toInts A c xs w hx hn) rfl) rfl (fun _ => rfl) ?_
  rintro _ w1 ⟨g1, rfl, hg1, hat1, e1⟩
  skip
  refine EL.h (Hv.call (specText _ _ xs w1 (At.rd hat1) hn) rfl) rfl (fun _ => rfl) ?_
  rintro _ w2 ⟨rfl, e2⟩
  have W2 := e1.trans e2
  repeat' (first
    | refine EL.f (FV.move rfl) rfl rfl ?_
    | refine EL.f (FV.assign rfl) rfl rfl ?_
    | refine EL.nil ?_
    | refine EW.seq ?_
    | refine EW.region ?_)
  refine EL.h (Hv.call (toInts A c xs w2 (hx.ext W2) hn) rfl) rfl (fun _ => rfl) ?_
  rintro _ w3 ⟨g3, rfl, hg3, hat3, e3⟩
  have W3 := W2.trans e3
  repeat' (first
    | refine EL.f (FV.move rfl) rfl rfl ?_
    | refine EL.f (FV.assign rfl) rfl rfl ?_
    | refine EL.nil ?_
    | refine EW.seq ?_
    | refine EW.region ?_)
  refine EL.h (Hv.call (implText _ _ xs w3 (At.rd hat3) hn (TabW.ext ht W3)) rfl) rfl (fun _ => rfl) ?_
  rintro _ w4 ⟨rfl, e4⟩
  have W4 := W3.trans e4
  replace hat3 := At.ext hat3 e4
  repeat' (first
    | refine EL.f (FV.neSelfS rfl rfl) rfl rfl ?_
    | refine EL.f (FV.move rfl) rfl rfl ?_
    | refine EL.f (FV.assign rfl) rfl rfl ?_
    | refine EL.nil ?_
    | refine EW.seq ?_
    | refine EW.region ?_
    | refine EW.skip ?_
    | refine EW.condF rfl ?_)
  refine EL.h (Hv.call (toInts A c xs w4 (hx.ext W4) hn) rfl) rfl (fun _ => rfl) ?_
  rintro _ w5 ⟨g5, rfl, hg5, hat5, e5⟩
  have W5 := W4.trans e5
  skip
  refine EL.h (Hv.call (eqSame _ _ _ _ xs w5 (At.rd (At.ext hat3 e5)) (At.rd hat5) hn) rfl) rfl (fun _ => rfl) ?_
  rintro _ w6 ⟨rfl, e6⟩
  repeat' (first
    | refine EL.f (FV.assign rfl) rfl rfl ?_
    | refine EL.f (FV.not rfl) rfl rfl ?_
    | refine EL.nil ?_
    | refine EW.seq ?_
    | refine EW.region ?_
    | refine EW.skip ?_
    | refine EW.ret ?_
    | refine EW.condF rfl ?_)
  exact ⟨_, rfl, rfl, W5.trans e6⟩
end Eng
end Go.Proofs.YtogljflccfoaeaaDoor
