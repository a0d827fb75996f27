/- Strings for the calculus; decimal numerals of both sides. Conditions: the numbers fit. -/
import Derived.Test.YtogljflccfoaeaaDoorVal
import Derived.Test.YtogljflccfoaeaaDoorLf
import Derived.Test.YtogljflccfoaeaaDoorAgg
import Derived.Lib.ItoaLen
import Derived.Laws.BytesString
namespace Go.Proofs.YtogljflccfoaeaaDoor
open Go Go.RowKit
namespace Eng
/-! a region whose orders fork: the state of what is done is written out -/
structure EX (P : Program) (n : Nat) (ops : Array Oper) (S : World → Prop) (Q : Env → World → Prop) (k : Nat) (listed : Array Bool) (ρ : Env) (w : World) : Prop where
  out : Region.noSelect ops = true → ∀ a, Fits ρ n a → S w → anyS P .any ops (onlyN n Q) S k listed a w
section
variable {P : Program} {n : Nat} {ops : Array Oper} {S : World → Prop} {Q : Env → World → Prop} {k : Nat} {listed : Array Bool} {ρ ρ' : Env} {w : World}
theorem EX.nil (h0 : (Region.ready .any ops listed).isEmpty = true) (h : Q ρ w) : EX P n ops S Q 0 listed ρ w := ⟨fun _ a ha _ => ⟨by simpa using h0, ρ, ha, h⟩⟩
theorem EX.f (i : Nat) {o : Oper} {v : Value} (hf : (Region.free .any ops listed i && (Region.ready .any ops listed).contains i) = true) (ho : ops[i]? = some o) (hv : FV P n S ρ o v) (hg : wantE ops ρ o = some true) (hd : putE n o.dst v ρ = some ρ') (h : EX P n ops S Q k (listed.setIfInBounds i true) ρ' w) : EX P n ops S Q (k + 1) listed ρ w :=
  ⟨fun hs a ha hS => by
    simp only [Bool.and_eq_true] at hf
    obtain ⟨hf, hr⟩ := hf
    refine anyS_take ho hs (fun _ _ _ h => h) _ listed a w (Region.free_spec ho hf) (by simpa using hr) (.inl ⟨wantE_spec ha hg, fun w' hS' => hv.out a ha w' hS'⟩) hS ?_
    exact h.out hs _ (ha.put hd) hS⟩
theorem EX.one (i : Nat) {o : Oper} {ρi : Value → Env} (hr : (Region.ready .any ops listed == [i]) = true) (ho : ops[i]? = some o) (hg : wantE ops ρ o = some true) (hd : ∀ v, putE n o.dst v ρ = some (ρi v))
    (A : Hv P n ρ o w fun v w' => S w' ∧ EX P n ops S Q k (listed.setIfInBounds i true) (ρi v) w') : EX P n ops S Q (k + 1) listed ρ w :=
  ⟨fun hs a ha hS => by
    simp only [beq_iff_eq] at hr
    refine ⟨fun h => (by rw [h] at hr; cases hr), fun x hx => ?_⟩
    rw [hr] at hx
    obtain rfl : x = i := by simpa using hx
    unfold wpOp
    simp only [ho]
    rw [if_pos (wantE_spec ha hg)]
    left
    exact A.out a ha _ _ fun v w' ⟨hS', hk⟩ => ⟨.inr hS', hk.out hs _ (ha.put (hd v)) hS'⟩⟩
theorem EX.fork (i j : Nat) {oi oj : Oper} {ρi ρj : Value → Env} (hr : (Region.ready .any ops listed == [i, j]) = true) (hoi : ops[i]? = some oi) (hoj : ops[j]? = some oj) (hgi : wantE ops ρ oi = some true) (hgj : wantE ops ρ oj = some true)
    (hdi : ∀ v, putE n oi.dst v ρ = some (ρi v)) (hdj : ∀ v, putE n oj.dst v ρ = some (ρj v))
    (A : Hv P n ρ oi w fun v w' => S w' ∧ EX P n ops S Q k (listed.setIfInBounds i true) (ρi v) w')
    (B : Hv P n ρ oj w fun v w' => S w' ∧ EX P n ops S Q k (listed.setIfInBounds j true) (ρj v) w') : EX P n ops S Q (k + 1) listed ρ w :=
  ⟨fun hs a ha hS => by
    simp only [beq_iff_eq] at hr
    refine ⟨fun h => (by rw [h] at hr; cases hr), fun x hx => ?_⟩
    rw [hr] at hx
    have hx' : x = i ∨ x = j := by simpa using hx
    rcases hx' with rfl | rfl
    · unfold wpOp
      simp only [hoi]
      rw [if_pos (wantE_spec ha hgi)]
      left
      exact A.out a ha _ _ fun v w' ⟨hS', hk⟩ => ⟨.inr hS', hk.out hs _ (ha.put (hdi v)) hS'⟩
    · unfold wpOp
      simp only [hoj]
      rw [if_pos (wantE_spec ha hgj)]
      left
      exact B.out a ha _ _ fun v w' ⟨hS', hk⟩ => ⟨.inr hS', hk.out hs _ (ha.put (hdj v)) hS'⟩⟩
theorem EW.drawX {Q : Exit → Env → World → Prop} {id : Nat} (S : World → Prop) (hm : P.follows .mixedOrders = true) (hs : Region.noSelect ops = true) (hS : S w.drew)
    (h : EX P n ops S (fun ρ' w' => Q .normal ρ' w') ops.size (Array.replicate ops.size false) ρ w.drew) : EW P n (.region id ops true) Q ρ w := by
  refine ⟨fun a ha => ?_⟩
  refine wp_mono (Q := onlyN n (fun ρ' w' => Q .normal ρ' w')) (wp_region_any hm ?_) fun e a' w' hq => by
    cases e <;> first | exact hq | exact hq.elim
  exact anyS_any _ _ _ _ (h.out hs a ha hS)
end
theorem extraJ : Builder.Extra Tryd.prog layJR where
  sizeBuilder := by kernel_rfl
  liesBuilder := by kernel_rfl
  t5 := Tryd.underlying5
  a5 := Tryd.isAgg5
  z5 := Tryd.sizeOf5
  v5 := Tryd.zeroValue5
  infoByte := by kernel_rfl
  cellsByte := by kernel_rfl
  sizeByte := by kernel_rfl
  neB5 := by decide
theorem Ext.grow (w : World) (k : Nat) (os : Array Obj) : Ext w (Sort.grow (w.drewN k) os) := by
  refine ⟨rfl, rfl, rfl, by simp [Sort.grow, World.drewN], fun j hj => ?_⟩
  simp only [Sort.grow, World.drewN]
  rw [Array.getElem?_append_left hj]
/-- The library's table of powers of ten lies where it was laid. -/
def TabW (w : World) : Prop := Lib.TabIs Tryd.prog w "internal/strconv.uint64pow10" .u64 Lib.pow10Tab
theorem TabW.ext {w w' : World} (h : TabW w) (he : Ext w w') : TabW w' := by
  unfold TabW Lib.TabIs World.var? at *
  cases hg : Tryd.prog.globalNamed "internal/strconv.uint64pow10" with
  | none => rw [hg] at h; cases h
  | some g =>
    rw [hg] at h
    simp only [Option.bind_some] at h ⊢
    cases hb : w.heap[g]? with
    | none => rw [hb] at h; cases h
    | some x =>
      have := (he.block g (Array.getElem?_eq_some_iff.1 hb).1).trans hb
      rw [this]
      rw [hb] at h
      exact h
section
variable {n : Nat} {ρ : Env} {dst : Option Tmp} {ty : TypeId} {pos : String} {af : Array Edge} {gd : Option (Nat × Bool)}
theorem FV.cat {S : World → Prop} {x y : Operand} {t u : TypeId} {b c : ByteArray} (hx : ev ρ x = some (.string b)) (hy : ev ρ y = some (.string c)) (hb : b.size + c.size ≤ 9223372036854775807) : FV Tryd.prog n S ρ ⟨dst, .binOp .add t x y u, ty, pos, af, gd⟩ (.string (b ++ c)) :=
  ⟨fun a ha w _ => by
    have : ¬ (((b.size + c.size : Nat) : Int) > IntKind.i64.max) := by
      have : IntKind.i64.max = 9223372036854775807 := by decide
      omega
    simp only [execOp, ha.eval hx, ha.eval hy, binOp, Op.stringOp, if_neg this]
    rfl⟩
theorem FV.neSelfS {S : World → Prop} {x y : Operand} {t u : TypeId} {b : ByteArray} (hx : ev ρ x = some (.string b)) (hy : ev ρ y = some (.string b)) : FV Tryd.prog n S ρ ⟨dst, .binOp .neq t x y u, ty, pos, af, gd⟩ (.bool false) :=
  ⟨fun a ha w _ => by simp [execOp, ha.eval hx, ha.eval hy, eqGuard, binOp, Op.stringOp]⟩
/-- Bytes as a text. -/
theorem FV.text {S : World → Prop} {x : Operand} {s d e : TypeId} {b o c : Nat} {ns : List Int} (hs : UTab.und Tryd.prog s = some (.slice e)) (he : UTab.und Tryd.prog e = some (.int .u8)) (hd : UTab.und Tryd.prog d = some .string) (hx : ev ρ x = some (.slice (some ⟨b, o, none⟩) ns.length c)) (hc : ∀ w, S w → Lies w b o (ns.map (Value.int .u8))) :
    FV Tryd.prog n S ρ ⟨dst, .convert s d x, ty, pos, af, gd⟩ (.string (ns.foldl (fun r n => r.push (UInt8.ofNat n.toNat)) ByteArray.empty)) :=
  ⟨fun a ha w hw => by
    have h1 := run_convert_bytes_string (P := Tryd.prog) w s d e (some ⟨b, o, none⟩) ns.length c (UTab.und_ok _ _ hs) (UTab.und_ok _ _ he) (UTab.und_ok _ _ hd)
    have h2 := run_loadCells_list (P := Tryd.prog) w ⟨b, o, none⟩ (ns.map (Value.int .u8)) fun j v hj => by rw [addr_add]; exact hc w hw j v hj
    rw [List.length_map] at h2
    simp only [execOp, ha.eval hx, Sem.run_bind, h1, run_bytesToString w ⟨b, o, none⟩ ns.length c ns h2, Result.andThen_ok]
    rfl⟩
theorem Hv.build1S {w : World} {x : Operand} {u : Value} {t e : TypeId} {z : Value} {by_ : Nat} (ht : UTab.und Tryd.prog t = some (.slice e)) (hi : UTab.inf Tryd.prog e = some (z, 1, by_)) (hx : ev ρ x = some u) (hu : u.cells = #[u]) :
    Hv Tryd.prog n ρ ⟨dst, .buildSlice t 1 #[(0, x)], ty, pos, af, gd⟩ w (fun v w' => ∃ g, v = .slice (some ⟨g, 0, none⟩) 1 1 ∧ At w' e 1 g 1 1 [u] ∧ g = w.heap.size ∧ Ext w w') :=
  (Hv.build1 ht hi hx hu).mono fun _ _ h => ⟨_, h.1, h.2 ▸ At.fresh w e #[u] 1 rfl, rfl, h.2 ▸ Ext.alloc w _⟩
end
theorem wrap8 {p : Int} (h0 : 0 ≤ p) (h1 : p ≤ 255) : IntKind.u8.wrap p = p := by
  show (if (false && decide (p % 2 ^ 8 ≥ 2 ^ (8 - 1))) = true then p % 2 ^ 8 - 2 ^ 8 else p % 2 ^ 8) = p
  rw [Bool.false_and, if_neg (by decide)]
  omega
def str (l : List UInt8) : ByteArray := ⟨l.toArray⟩
theorem str_size (l : List UInt8) : (str l).size = l.length := by simp [str, ByteArray.size]
theorem str_append (l m : List UInt8) : str l ++ str m = str (l ++ m) := by
  apply ByteArray.ext
  simp [str]
def decS (n : Nat) : List UInt8 := Lib.decDigits n
theorem decS_small {n : Nat} (h : n < 10) : decS n = [UInt8.ofNat (48 + n)] := Lib.decDigits_one h
theorem decS_big {n : Nat} (h : ¬ n < 10) : decS n = decS (n / 10) ++ [UInt8.ofNat (48 + n % 10)] := by
  unfold decS
  rw [Lib.decDigits, dif_neg h]
theorem decS_length {n : Nat} (h : n ≤ 9223372036854775807) : (decS n).length ≤ 21 := by
  have := Lib.itoa_length_le n (by omega) (by omega)
  rwa [Lib.itoa_nonneg] at this
theorem digit_text (p : Nat) : [(48 : Int) + p].foldl (fun r n => r.push (UInt8.ofNat n.toNat)) ByteArray.empty = str [UInt8.ofNat (48 + p)] := by
  rw [List.foldl_cons, List.foldl_nil, show ((48 : Int) + p).toNat = 48 + p from by omega]
  rfl
theorem formatInt (n : Nat) (h : n ≤ 9223372036854775807) (w : World) (ht : TabW w) : CallsR Tryd.prog 58 [.int .i64 n, .int .i64 10] w fun v w' => v = .string (str (decS n)) ∧ Ext w w' := by
  have hcon := Any.strconv_FormatInt_10 layF n (by omega) (by omega) w ht
  refine ⟨Calls.mono hcon fun e w' he => ?_, ⟨_, Tryd.func58, by decide +kernel, by rfl⟩⟩
  obtain ⟨rfl, k, os, rfl⟩ := he
  rw [Lib.itoa_nonneg]
  exact ⟨rfl, Ext.grow w k os⟩
theorem implDecimal (n : Nat) (h : n ≤ 9223372036854775807) (w : World) (ht : TabW w) : CallsR Tryd.prog 34 [.int .i64 n] w fun v w' => v = .string (str (decS n)) ∧ Ext w w' := by
  refine CallsR.enter Tryd.func34 (by decide +kernel) rfl Tryd.ntmps34 rfl ?_
  repeat' (first
    | (refine EL.h (Hv.call (formatInt n h _ ht) rfl) rfl (fun _ => rfl) ?_; rintro _ w1 ⟨rfl, he⟩)
    | refine EL.f (FV.move rfl) rfl rfl ?_
    | refine EL.f (FV.assign rfl) rfl rfl ?_
    | refine EL.nil ?_
    | refine EW.seq ?_
    | refine EW.region ?_
    | refine EW.ret ?_)
  exact ⟨_, rfl, rfl, he⟩
set_option maxHeartbeats 4000000 in
theorem specDecimal (n : Nat) : n ≤ 9223372036854775807 → ∀ w, CallsR Tryd.prog 46 [.int .i64 n] w fun v w' => v = .string (str (decS n)) ∧ Ext w w' := by
  induction n using Nat.strongRecOn with
  | ind n ih =>
  intro h w
  refine CallsR.enter Tryd.func46 (by decide +kernel) rfl Tryd.ntmps46 rfl ?_
  by_cases hn : n < 10
  · repeat' (first
      | (show EL _ _ _ _ (_ :: _) _ _
         first
         | (show EL _ _ _ _ (⟨_, .convert _ _ _, _, _, _, _⟩ :: _) _ _; refine EL.f (FV.conv (k := .u8) rfl rfl rfl (wrap8 (by omega) (by omega))) rfl rfl ?_)
         | (show EL _ _ _ _ (⟨_, .move _, _, _, _, _⟩ :: _) _ _; refine EL.f (FV.move rfl) rfl rfl ?_)
         | (show EL _ _ _ _ (⟨_, .assign _, _, _, _, _⟩ :: _) _ _; refine EL.f (FV.assign rfl) rfl rfl ?_)
         | (show EL _ _ _ _ (⟨_, .binOp .add _ _ _ _, _, _, _, _⟩ :: _) _ _; refine EL.f (FV.addI rfl rfl (by omega)) rfl rfl ?_)
         | (show EL _ _ _ _ (⟨_, .binOp .lss _ _ _ _, _, _, _, _⟩ :: _) _ _; refine EL.fT (FV.lss rfl rfl) rfl (fun _ => rfl) (by omega) ?_))
      | refine EL.nil ?_
      | refine EW.seq ?_
      | refine EW.region ?_
      | refine EW.condT rfl ?_)
    refine EL.h (Hv.build1S rfl rfl rfl rfl) rfl (fun _ => rfl) ?_
    rintro _ w1 ⟨g1, rfl, hat, hg, he1⟩
    repeat' (first
      | refine EL.f (FV.assign rfl) rfl rfl ?_
      | refine EL.nil ?_
      | refine EL.f (FV.text (ns := [48 + (n : Int)]) rfl rfl rfl rfl (fun _ e => e ▸ At.lies hat)) rfl rfl ?_
      | refine EW.ret ?_)
    exact ⟨_, rfl, by rw [digit_text, decS_small hn], he1⟩
  have hcall := fun w => ih (n / 10) (by omega) (by omega) w
  have e10 : ((n / 10 : Nat) : Int) = (n : Int) / 10 := by omega
  rw [e10] at hcall
  have em : (48 : Int) + (n : Int) % 10 = 48 + ((n % 10 : Nat) : Int) := by omega
  have hl := decS_length (n := n / 10) (by omega)
  have hl2 : (str (decS (n / 10))).size + (str [UInt8.ofNat (48 + n % 10)]).size ≤ 9223372036854775807 := by rw [str_size, str_size]; simp; omega
  have fin : str (decS (n / 10)) ++ str [UInt8.ofNat (48 + n % 10)] = str (decS n) := by rw [str_append, decS_big hn]
  repeat' (first
    | refine EL.f (FV.move rfl) rfl rfl ?_
    | refine EL.f (FV.assign rfl) rfl rfl ?_
    | refine EL.fF (FV.lss rfl rfl) rfl (fun _ => rfl) (by omega) ?_
    | refine EL.nil ?_
    | refine EW.seq ?_
    | refine EW.region ?_
    | refine EW.skip ?_
    | refine EW.condF rfl ?_)
  refine EW.drawX (fun w' => Ext w w') mixed (by decide +kernel) (Ext.drew _) ?_
  refine EX.f 0 (by decide +kernel) rfl (FV.move rfl) rfl rfl ?_
  refine EX.f 1 (by decide +kernel) rfl (FV.quoI rfl rfl (by decide) (by omega)) rfl rfl ?_
  refine EX.f 3 (by decide +kernel) rfl (FV.move rfl) rfl rfl ?_
  refine EX.f 4 (by decide +kernel) rfl (FV.remI rfl rfl (by decide) (by omega)) rfl rfl ?_
  refine EX.f 5 (by decide +kernel) rfl (FV.addI rfl rfl (by omega)) rfl rfl ?_
  refine EX.f 6 (by decide +kernel) rfl (FV.conv (k := .u8) rfl rfl rfl (wrap8 (by omega) (by omega))) rfl rfl ?_
  rw [em]
  refine EX.fork 2 7 (by decide +kernel) rfl rfl rfl rfl (fun _ => rfl) (fun _ => rfl) ?_ ?_
  · refine (Hv.call (hcall _) rfl).mono ?_
    rintro _ w1 ⟨rfl, he1⟩
    have E1 := (Ext.drew w).trans he1
    refine ⟨E1, ?_⟩
    refine EX.one 7 (by decide +kernel) rfl rfl (fun _ => rfl) ?_
    refine (Hv.build1S rfl rfl rfl rfl).mono ?_
    rintro _ w2 ⟨g1, rfl, hat, hg, heb⟩
    have E2 := Ext.trans E1 heb
    refine ⟨E2, ?_⟩
    refine EX.one 8 (by decide +kernel) rfl rfl (fun _ => rfl) ?_
    refine (FV.text (ns := [48 + ((n % 10 : Nat) : Int)]) rfl rfl rfl rfl (fun _ e => e ▸ At.lies hat)).hv.mono ?_
    rintro _ _ ⟨rfl, rfl⟩
    refine ⟨E2, ?_⟩
    rw [digit_text]
    refine EX.f 9 (by decide +kernel) rfl (FV.cat rfl rfl hl2) rfl rfl ?_
    refine EX.f 10 (by decide +kernel) rfl (FV.assign rfl) rfl rfl ?_
    refine EX.nil (by decide +kernel) ?_
    rw [fin]
    repeat' (first
      | refine EW.ret ?_)
    exact ⟨_, rfl, rfl, E2⟩
  · refine (Hv.build1S rfl rfl rfl rfl).mono ?_
    rintro _ w1 ⟨g1, rfl, hat, hg, heb⟩
    have E1 := Ext.trans (Ext.drew w) heb
    refine ⟨E1, ?_⟩
    refine EX.fork 2 8 (by decide +kernel) rfl rfl rfl rfl (fun _ => rfl) (fun _ => rfl) ?_ ?_
    · refine (Hv.call (hcall _) rfl).mono ?_
      rintro _ w2 ⟨rfl, he2⟩
      have E2 := E1.trans he2
      replace hat := At.ext hat he2
      refine ⟨E2, ?_⟩
      refine EX.one 8 (by decide +kernel) rfl rfl (fun _ => rfl) ?_
      refine (FV.text (ns := [48 + ((n % 10 : Nat) : Int)]) rfl rfl rfl rfl (fun _ e => e ▸ At.lies hat)).hv.mono ?_
      rintro _ _ ⟨rfl, rfl⟩
      refine ⟨E2, ?_⟩
      rw [digit_text]
      refine EX.f 9 (by decide +kernel) rfl (FV.cat rfl rfl hl2) rfl rfl ?_
      refine EX.f 10 (by decide +kernel) rfl (FV.assign rfl) rfl rfl ?_
      refine EX.nil (by decide +kernel) ?_
      rw [fin]
      repeat' (first
        | refine EW.ret ?_)
      exact ⟨_, rfl, rfl, E2⟩
    · refine (FV.text (ns := [48 + ((n % 10 : Nat) : Int)]) rfl rfl rfl rfl (fun _ e => e ▸ At.lies hat)).hv.mono ?_
      rintro _ _ ⟨rfl, rfl⟩
      refine ⟨E1, ?_⟩
      rw [digit_text]
      refine EX.one 2 (by decide +kernel) rfl rfl (fun _ => rfl) ?_
      refine (Hv.call (hcall _) rfl).mono ?_
      rintro _ w2 ⟨rfl, he2⟩
      have E2 := E1.trans he2
      refine ⟨E2, ?_⟩
      refine EX.f 9 (by decide +kernel) rfl (FV.cat rfl rfl hl2) rfl rfl ?_
      refine EX.f 10 (by decide +kernel) rfl (FV.assign rfl) rfl rfl ?_
      refine EX.nil (by decide +kernel) ?_
      rw [fin]
      repeat' (first
        | refine EW.ret ?_)
      exact ⟨_, rfl, rfl, E2⟩
end Eng
end Go.Proofs.YtogljflccfoaeaaDoor
