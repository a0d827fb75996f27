/- Reading a series: both sides. Conditions: the text's length; the library's tables and error variables lie in the world. -/
import Derived.Test.YtogljflccfoaeaaDoorRp
import Derived.Test.YtogljflccfoaeaaDoorLp
import Derived.Test.YtogljflccfoaeaaDoorStr
import Derived.WideLaws
namespace Go.Proofs.YtogljflccfoaeaaDoor
open Go Go.RowKit Go.Shelf
namespace Eng
/-- What the library's functions ask of the world. -/
structure RdW (w : World) : Prop where
  tab : TabW w
  max : ∃ m, w.cell? ⟨1, 0, none⟩ = some (.int .i64 m)
  syn : ∃ e, w.cell? ⟨2, 0, none⟩ = some e ∧ (e = .nilIface ∨ ∃ te pe, e = .iface te pe)
  rng : ∃ e, w.cell? ⟨3, 0, none⟩ = some e ∧ (e = .nilIface ∨ ∃ te pe, e = .iface te pe)
theorem RdW.ext {w w' : World} (h : RdW w) (he : Ext w w') : RdW w' := by
  obtain ⟨h1, ⟨m, h2⟩, ⟨e, h3, h4⟩, ⟨f, h5, h6⟩⟩ := h
  exact ⟨h1.ext he, ⟨m, he.cell h2⟩, ⟨e, he.cell h3, h4⟩, ⟨f, he.cell h5, h6⟩⟩
theorem str_data (l : List UInt8) : (str l).data.toList = l := by simp [str]
theorem str_of (s : ByteArray) : str s.data.toList = s := by simp [str]
/-! the library's calls -/
theorem parseI (l : List UInt8) (hl : l.length ≤ 1048576) (w : World) (h : RdW w) : CallsR Tryd.prog 63 [.string (str l), .int .i64 10, .int .i64 64] w fun v w' =>
    Ext w w' ∧ ((∃ x, Lib.parseIntB 64 l = .ok x ∧ v = .tuple #[.int .i64 x, .nilIface]) ∨ ((∀ x, Lib.parseIntB 64 l ≠ .ok x) ∧ ∃ x t u, v = .tuple #[.int .i64 x, .iface t u])) := by
  have hz := str_size l
  have hd := str_data l
  have hent : Ent Tryd.prog 63 := ⟨_, Tryd.func63, by decide +kernel, by rfl⟩
  rcases hp : Lib.parseIntB 64 l with x | - | -
  ·
    have hcon := Any.strconv_ParseInt_10_at64_ok layP (str l) (by omega) x (by rw [hd]; exact hp) w
    refine ⟨Calls.mono hcon fun e w' he => ?_, hent⟩
    obtain ⟨rfl, hw⟩ := he
    refine ⟨?_, .inl ⟨x, rfl, rfl⟩⟩
    rcases hw with rfl | ⟨t, rfl⟩
    · exact Ext.refl _
    · exact Lib.bytesWorld_below _ _ _
  ·
    obtain ⟨ev, h1, h2⟩ := h.syn
    have hcon := Any.strconv_ParseInt_10_at64_syntax layP (str l) (by omega) (by rw [hd]; exact hp) ev w h1 h2
    refine ⟨Calls.mono hcon fun e w' he => ?_, hent⟩
    obtain ⟨N, rfl, _, _, hb⟩ := he
    exact ⟨hb, .inr ⟨(fun x e => by cases e), _, _, _, rfl⟩⟩
  ·
    obtain ⟨ev, h1, h2⟩ := h.rng
    have hcon := Any.strconv_ParseInt_10_at64_range layP (str l) (by omega) (by rw [hd]; exact hp) ev w h1 h2
    refine ⟨Calls.mono hcon fun e w' he => ?_, hent⟩
    obtain ⟨N, rfl, _, _, hb⟩ := he
    exact ⟨hb, .inr ⟨(fun x e => by cases e), _, _, _, rfl⟩⟩
theorem splitB_cut (l : List UInt8) : Lib.splitB (str [32]) 0 (Lib.countB (str l) (str [32])) (str l) = (cut l).map str := by
  have h := Lib.splitB_data (str [32]) 0 (Lib.countB (str l) (str [32])) (str l)
  have hc : Lib.countB (str l) (str [32]) = Lib.count l [32] := by
    show Lib.count (str l).data.toList (str [32]).data.toList = _
    rw [str_data, str_data]
  rw [str_data, str_data] at h
  have h2 := split_cut l
  rw [hc] at h ⊢
  rw [h2] at h
  rw [← h]
  generalize Lib.splitB (str [32]) 0 (Lib.count l [32]) (str l) = ss
  induction ss with
  | nil => rfl
  | cons a r ih => rw [List.map_cons, List.map_cons, str_of, ← ih]
theorem splitC (l : List UInt8) (hl : l.length ≤ 1048576) (w : World) (h : RdW w) : CallsR Tryd.prog 44 [.string (str l), .string (str [32])] w fun v w' =>
    ∃ g, v = .slice (some ⟨g, 0, none⟩) (cut l).length (cut l).length ∧ w.heap.size ≤ g ∧ At w' 9 1 g (cut l).length (cut l).length (strs (cut l)) ∧ Ext w w' := by
  have hz := str_size l
  have hcl := cut_le l
  obtain ⟨m, hm⟩ := h.max
  have hcon := Any.strings_Split { layS with } layS.i9 (str l) (str [32]) m w (by omega) hm (by rw [str_size]; decide)
  refine ⟨Calls.mono hcon fun e w' he => ?_, ⟨_, Tryd.func44, by decide +kernel, by rfl⟩⟩
  obtain ⟨rfl, rfl⟩ := he
  have hs := splitB_cut l
  have hn : Lib.countB (str l) (str [32]) + 1 = (cut l).length := by
    have := Lib.splitB_all (str [32]) (by rw [str_size]; decide) 0 _ (str l) rfl
    rw [hs, List.length_map] at this
    exact this.symm
  rw [hn, hs, List.map_map]
  exact ⟨_, rfl, Nat.le_refl _, ⟨by simp [strs], _, heap_alloc_new w _, Nat.le_refl _, by unfold maxLen; omega, by simp, by
    rw [List.take_of_length_le (by simp)]
    rfl⟩, Ext.alloc w _⟩
theorem formatZ (x : Int) (h : -9223372036854775808 ≤ x ∧ x ≤ 9223372036854775807) (w : World) (ht : TabW w) : CallsR Tryd.prog 58 [.int .i64 x, .int .i64 10] w fun v w' => v = .string (str (Lib.itoa x)) ∧ Ext w w' := by
  have hcon := Any.strconv_FormatInt_10 layF x (by omega) (by omega) w ht
  refine ⟨Calls.mono hcon fun e w' he => ?_, ⟨_, Tryd.func58, by decide +kernel, by rfl⟩⟩
  obtain ⟨rfl, k, os, rfl⟩ := he
  exact ⟨rfl, Ext.grow w k os⟩
theorem implDecimalZ (x : Int) (h : -9223372036854775808 ≤ x ∧ x ≤ 9223372036854775807) (w : World) (ht : TabW w) : CallsR Tryd.prog 34 [.int .i64 x] w fun v w' => v = .string (str (Lib.itoa x)) ∧ Ext w w' := by
  refine CallsR.enter Tryd.func34 (by decide +kernel) rfl Tryd.ntmps34 rfl ?_
  repeat' (first
    | (refine EL.h (Hv.call (formatZ x h _ ht) rfl) rfl (fun _ => rfl) ?_; rintro _ w1 ⟨rfl, he⟩)
    | refine EL.f (FV.move rfl) rfl rfl ?_
    | refine EL.f (FV.assign rfl) rfl rfl ?_
    | refine EL.nil ?_
    | refine EW.seq ?_
    | refine EW.region ?_
    | refine EW.ret ?_)
  exact ⟨_, rfl, rfl, he⟩
/-! steps -/
section
variable {n : Nat} {S : World → Prop} {ρ : Env} {dst : Option Tmp} {ty : TypeId} {pos : String} {af : Array Edge} {g : Option (Nat × Bool)}
theorem FV.eqlL {x y : Operand} {t u : TypeId} {l m : List UInt8} (hx : ev ρ x = some (.string (str l))) (hy : ev ρ y = some (.string (str m))) : FV Tryd.prog n S ρ ⟨dst, .binOp .eql t x y u, ty, pos, af, g⟩ (.bool (decide (l = m))) :=
  ⟨fun a ha w _ => by
    have hb : ((str l).toList == (str m).toList) = decide (l = m) := by
      by_cases h : l = m
      · subst h
        rw [decide_eq_true rfl]
        exact beq_self_eq_true _
      · rw [decide_eq_false h, beq_eq_false_iff_ne]
        intro e
        apply h
        rw [ByteArray.toList_eq, ByteArray.toList_eq, str_data, str_data] at e
        exact e
    simp [execOp, ha.eval hx, ha.eval hy, eqGuard, binOp, Op.stringOp, hb]⟩
theorem FV.eqlT {x y : Operand} {t u : TypeId} {l m : List UInt8} (hx : ev ρ x = some (.string (str l))) (hy : ev ρ y = some (.string (str m))) (h : l = m) : FV Tryd.prog n S ρ ⟨dst, .binOp .eql t x y u, ty, pos, af, g⟩ (.bool true) := by
  have := FV.eqlL (n := n) (S := S) (ρ := ρ) (dst := dst) (ty := ty) (pos := pos) (af := af) (g := g) (t := t) (u := u) hx hy
  rwa [decide_eq_true h] at this
theorem FV.eqlF {x y : Operand} {t u : TypeId} {l m : List UInt8} (hx : ev ρ x = some (.string (str l))) (hy : ev ρ y = some (.string (str m))) (h : ¬ l = m) : FV Tryd.prog n S ρ ⟨dst, .binOp .eql t x y u, ty, pos, af, g⟩ (.bool false) := by
  have := FV.eqlL (n := n) (S := S) (ρ := ρ) (dst := dst) (ty := ty) (pos := pos) (af := af) (g := g) (t := t) (u := u) hx hy
  rwa [decide_eq_false h] at this
/-- A nil error against nil. -/
theorem FV.eqlNN {x : Operand} {t u : TypeId} (ht : Tryd.prog.underlying t = some (.interface (Tryd.prog.methodsAt t))) (hx : ev ρ x = some .nilIface) : FV Tryd.prog n S ρ ⟨dst, .binOp .eql t x (.const .nilIface) u, ty, pos, af, g⟩ (.bool true) :=
  ⟨fun a ha w _ => by
    have h := run_eql_nil_nil (P := Tryd.prog) w t ht
    have hc : a.eval (.const .nilIface) = .nilIface := rfl
    simp [execOp, ha.eval hx, hc, eqGuard_nil_constR, h]⟩
/-- An error that is not nil against nil. -/
theorem FV.eqlHN {x : Operand} {t u d : TypeId} {v : Value} (ht : Tryd.prog.underlying t = some (.interface (Tryd.prog.methodsAt t))) (hx : ev ρ x = some (.iface d v)) : FV Tryd.prog n S ρ ⟨dst, .binOp .eql t x (.const .nilIface) u, ty, pos, af, g⟩ (.bool false) :=
  ⟨fun a ha w _ => by
    have h := run_eql_held_nil (P := Tryd.prog) w t d v ht
    have hc : a.eval (.const .nilIface) = .nilIface := rfl
    simp [execOp, ha.eval hx, hc, eqGuard, h]⟩
theorem bytes_get {l : List UInt8} {i : Nat} (h : i < l.length) : (str l)[i]? = some (l.getD i 0) := by
  have hz := str_size l
  rw [getElem?_pos (str l) i (by omega), List.getD_eq_getElem?_getD, List.getElem?_eq_getElem h]
  simp [str]
  rfl
/-- s[i]. -/
theorem FV.idxL {x y : Operand} {t : TypeId} {l : List UInt8} {k : IntKind} {i : Nat} (ht : UTab.und Tryd.prog t = some .string) (hx : ev ρ x = some (.string (str l))) (hj : ev ρ y = some (.int k (i : Int))) (h1 : i < l.length) :
    FV Tryd.prog n S ρ ⟨dst, .index t x y, ty, pos, af, g⟩ (.int .u8 ((l.getD i 0).toNat : Int)) :=
  ⟨fun a ha w _ => by
    have h0 : (0 : Int) ≤ (i : Int) := by omega
    simp only [execOp, ha.eval hx, ha.eval hj, Instr.index, asIntOf, Sem.run_bind, Sem.run_pure, Result.andThen_ok, run_und ht, if_pos h0, Int.toNat_natCast]
    rw [bytes_get h1]
    simp⟩
theorem str_extract (l : List UInt8) (a b : Nat) : (str l).extract a b = str ((l.drop a).take (b - a)) := by
  rw [← str_of ((str l).extract a b), Lib.extract_data, str_data]
/-- s[i:j]. -/
theorem FV.piece {x y z : Operand} {t : TypeId} {l : List UInt8} {i j : Nat} (ht : UTab.und Tryd.prog t = some .string) (hx : ev ρ x = some (.string (str l))) (hy : ev ρ y = some (.int .i64 (i : Int))) (hz : ev ρ z = some (.int .i64 (j : Int))) (h1 : i ≤ j) (h2 : j ≤ l.length) :
    FV Tryd.prog n S ρ ⟨dst, .slice t x (some y) (some z) none, ty, pos, af, g⟩ (.string (str ((l.drop i).take (j - i)))) :=
  ⟨fun a ha w _ => by
    have hs := str_size l
    have h := run_slice_string (P := Tryd.prog) w t (str l) .i64 .i64 i j (UTab.und_ok _ _ ht) (by omega) (by omega) (by omega)
    simp only [Int.toNat_natCast, str_extract] at h
    simp [execOp, ha.eval hx, ha.eval hy, ha.eval hz, Instr.sliceAt, h, run_und ht]⟩
/-- s[i:]. -/
theorem FV.rest {x y : Operand} {t : TypeId} {l : List UInt8} {i : Nat} (ht : UTab.und Tryd.prog t = some .string) (hx : ev ρ x = some (.string (str l))) (hy : ev ρ y = some (.int .i64 (i : Int))) (h2 : i ≤ l.length) :
    FV Tryd.prog n S ρ ⟨dst, .slice t x (some y) none none, ty, pos, af, g⟩ (.string (str (l.drop i))) :=
  ⟨fun a ha w _ => by
    have hs := str_size l
    have h := run_slice_string_l (P := Tryd.prog) w t (str l) (UTab.und_ok _ _ ht) .i64 i (by omega) (by omega)
    rw [Int.toNat_natCast, str_extract, hs, List.take_of_length_le (by rw [List.length_drop]; omega)] at h
    simp [execOp, ha.eval hx, ha.eval hy, Instr.sliceAt, h, run_und ht]⟩
theorem FV.subU8 {x y : Operand} {t u : TypeId} {p q : Int} (hx : ev ρ x = some (.int .u8 p)) (hy : ev ρ y = some (.int .u8 q)) (h0 : 0 ≤ p - q) (h1 : p - q ≤ 255) : FV Tryd.prog n S ρ ⟨dst, .binOp .sub t x y u, ty, pos, af, g⟩ (.int .u8 (p - q)) := by
  have := FV.sub (P := Tryd.prog) (n := n) (S := S) (ρ := ρ) (dst := dst) (ty := ty) (pos := pos) (af := af) (g := g) (t := t) (u := u) hx hy
  rwa [wrap8 h0 h1] at this
end
theorem byte_lt (c : UInt8) : (c.toNat : Int) ≤ 255 := by
  have := c.toNat_lt
  omega
theorem byte_eq {c : UInt8} {k : Nat} (hk : k < 256) : (c.toNat : Int) = k ↔ c = UInt8.ofNat k := by
  constructor
  · intro h
    have : c.toNat = k := by omega
    rw [← this, UInt8.ofNat_toNat]
  · rintro rfl
    rw [UInt8.toNat_ofNat']
    omega
/-! an operation whose guard speaks of one that was passed over -/
def offE (ops : Array Oper) (ρ : Env) (o : Oper) : Bool :=
  match o.guard with
  | none => false
  | some (j, _) =>
    match ops[j]? with
    | some oj =>
      match oj.dst with
      | some d =>
        match get ρ d with
        | some (.tuple _) => true
        | _ => false
      | none => false
    | none => false
theorem EL.skipU {P : Program} {n : Nat} {ops : Array Oper} {Q : Env → World → Prop} {rest : List Oper} {o : Oper} {ρ ρ' : Env} {w : World} (hg : offE ops ρ o = true) (hd : putE n o.dst undef ρ = some ρ') (k : EL P n ops Q rest ρ' w) : EL P n ops Q (o :: rest) ρ w :=
  ⟨fun a ha => by
    unfold wpList
    have : Region.wanted o (yielded ops a.tmps) = false := by
      unfold offE at hg
      unfold Region.wanted
      cases h1 : o.guard with
      | none => simp [h1] at hg
      | some jw =>
        obtain ⟨j, want⟩ := jw
        simp only [h1] at hg ⊢
        cases h2 : ops[j]? with
        | none => simp [h2] at hg
        | some oj =>
          simp only [h2] at hg
          cases h3 : oj.dst with
          | none => simp [h3] at hg
          | some d =>
            simp only [h3] at hg
            cases h4 : get ρ d with
            | none => simp [h4] at hg
            | some v =>
              have hv := ha.val d v h4
              cases v <;> simp [h4] at hg
              unfold yielded
              simp only [h2, Option.bind_some, h3, hv]
              rfl
    rw [if_neg (by rw [this]; simp)]
    exact k.out _ (ha.put hd)⟩
theorem errT : Tryd.prog.underlying 61 = some (.interface (Tryd.prog.methodsAt 61)) := by kernel_rfl
section
variable {P : Program} [UTab P] {n : Nat} {ρ : Env} {dst : Option Tmp} {ty : TypeId} {pos : String} {af : Array Edge} {gd : Option (Nat × Bool)}
/-- 'append(s, x)'; where the row lies afterwards -/
theorem Hv.appendW {w : World} {t e : TypeId} {z : Value} {by_ B m : Nat} {x y : Operand} {s u : Value} {g c : Nat} {cs : List Value} (ht : UTab.und P t = some (.slice e)) (hi : UTab.inf P e = some (z, 1, by_)) (hz : z.cells.size = 1)
    (hx : ev ρ x = some s) (hy : ev ρ y = some (.slice (some ⟨g, 0, none⟩) 1 c)) (hown : w.ownsRow B e 1 s m cs) (hcell : w.cell? ⟨g, 0, none⟩ = some u) (h1 : u.oneCell' = true)
    (h63 : m + 1 ≤ 9223372036854775807) (hbytes : (m + 1) * by_ ≤ 140737488355328) (hB : B ≤ w.heap.size) :
    Hv P n ρ ⟨dst, .call { callee := .builtin .append, args := #[x, y], argTypes := #[t, t] }, ty, pos, af, gd⟩ w (fun v w' => w'.ownsRow B e 1 v (m + 1) (cs ++ [u]) ∧ w.grownBy w' s.ownBlock ∧ Below B w w' ∧ (v.ownBlock = s.ownBlock ∨ v.ownBlock = some w.heap.size)) :=
  ⟨fun a ha K' Q' h => by
    obtain ⟨_, _, i, _, hi', hz', hs, hby⟩ := run_inf hi w
    obtain ⟨v', w', hrun, hown', hgr, _, hat⟩ := run_append_own_at (P := P) w B t ty e i z 1 by_ (UTab.und_ok _ _ ht) hi' hz' hs hby hz (by omega) s m cs hown ⟨g, 0, none⟩ 1 c [u] rfl
      (fun j v hj => by
        cases j with
        | zero => simp at hj; subst hj; simpa [Addr.add] using hcell
        | succ j => simp at hj) (fun v hv => by simp at hv; subst hv; exact h1) (by simp only [maxLen]; omega) hbytes hB
    have hrun' : (execOp a.eval ⟨dst, .call { callee := .builtin .append, args := #[x, y], argTypes := #[t, t] }, ty, pos, af, gd⟩).run P w = .ok (.value v') w' := by
      simp [execOp, resolve, invoke, builtin, ha.eval hx, ha.eval hy, hrun]
    unfold Oper.wp
    rw [hrun']
    refine h _ _ ⟨hown', hgr, ⟨hgr.os, hgr.tape, hgr.output, hgr.size, fun k hk => hgr.block k (Nat.lt_of_lt_of_le hk hB) (fun e => ?_)⟩, hat⟩
    have := (hown.lt k e.symm).1
    omega⟩
end
/-! one word -/
/-- A number and whether it is one. -/
def WRes (r : Option Nat) (v : Value) : Prop := ∃ x b, v = .tuple #[.int .i64 x, .bool b] ∧ b = r.isSome ∧ ∀ n, r = some n → x = n
set_option maxHeartbeats 4000000 in
theorem implReadDecimal (l : List UInt8) (hl : l.length ≤ 1048576) (w : World) (hw : RdW w) : CallsR Tryd.prog 45 [.string (str l), .int .i64 0, .int .i64 1000002] w fun v w' => WRes (wv l) v ∧ Ext w w' := by
  refine CallsR.enter Tryd.func45 (by decide +kernel) rfl Tryd.ntmps45 rfl ?_
  repeat' (first
    | refine EL.f (FV.move rfl) rfl rfl ?_
    | refine EL.f (FV.assign rfl) rfl rfl ?_
    | refine EL.nil ?_
    | refine EW.seq ?_
    | refine EW.region ?_)
  refine EL.h (Hv.call (parseI l hl w hw) rfl) rfl (fun _ => rfl) ?_
  rintro v w1 ⟨he1, ⟨x, hp, rfl⟩ | ⟨hp, x, t, u, rfl⟩⟩
  · have hb := Lib.parseIntB_bounds hp
    have hb' : -9223372036854775808 ≤ x ∧ x ≤ 9223372036854775807 := by
      have e63 : (2 ^ (64 - 1) : Nat) = 9223372036854775808 := by decide
      rw [e63] at hb
      omega
    by_cases hs : Lib.itoa x = l
    · by_cases hr : 0 ≤ x ∧ x ≤ 1000002
      · repeat' (first
          | (show EL _ _ _ _ (_ :: _) _ _
             first
             | (show EL _ _ _ _ (⟨_, .binOp .eql _ _ _ _, _, _, _, _⟩ :: _) _ _; refine EL.f (FV.eqlNN errT rfl) rfl rfl ?_)
             | (show EL _ _ _ _ (⟨_, .move _, _, _, _, _⟩ :: _) _ _; refine EL.f (FV.move rfl) rfl rfl ?_)
             | (show EL _ _ _ _ (⟨_, .assign _, _, _, _, _⟩ :: _) _ _; refine EL.f (FV.assign rfl) rfl rfl ?_)
             | (show EL _ _ _ _ (⟨_, .extract _ _, _, _, _, _⟩ :: _) _ _; refine EL.f (FV.extract rfl rfl) rfl rfl ?_))
          | refine EL.nil ?_
          | refine EW.seq ?_
          | refine EW.region ?_)
        refine EL.h (Hv.call (implDecimalZ x hb' w1 (hw.ext he1).tab) rfl) rfl (fun _ => rfl) ?_
        rintro _ w2 ⟨rfl, he2⟩
        repeat' (first
          | (show EL _ _ _ _ (_ :: _) _ _
             first
             | (show EL _ _ _ _ (⟨_, .binOp .eql _ _ _ _, _, _, _, _⟩ :: _) _ _; refine EL.f (FV.eqlT rfl rfl hs) rfl rfl ?_)
             | (show EL _ _ _ _ (⟨_, .call _, _, _, _, _⟩ :: _) _ _; (refine EL.h (Hv.call (implWithin x 0 1000002 w2) rfl) rfl (fun _ => rfl) ?_; rintro _ _ ⟨rfl, rfl⟩))
             | (show EL _ _ _ _ (⟨_, .move _, _, _, _, _⟩ :: _) _ _; refine EL.f (FV.move rfl) rfl rfl ?_)
             | (show EL _ _ _ _ (⟨_, .assign _, _, _, _, _⟩ :: _) _ _; refine EL.f (FV.assign rfl) rfl rfl ?_)
             | (show EL _ _ _ _ (⟨_, .pick _ _ _, _, _, _, _⟩ :: _) _ _; refine EL.f (FV.pickT rfl rfl) rfl rfl ?_))
          | refine EL.nil ?_
          | refine EW.ret ?_)
        exact ⟨_, rfl, ⟨x, _, rfl, by rw [wv_of_same hs hr]; exact decide_eq_true hr, fun n hn => by rw [wv_of_same hs hr] at hn; injection hn with hn; omega⟩, he1.trans he2⟩
      · have hnone : wv l = none := by
          cases hv : wv l with
          | none => rfl
          | some n => have := wv_of_ok hp hv; omega
        repeat' (first
          | (show EL _ _ _ _ (_ :: _) _ _
             first
             | (show EL _ _ _ _ (⟨_, .binOp .eql _ _ _ _, _, _, _, _⟩ :: _) _ _; refine EL.f (FV.eqlNN errT rfl) rfl rfl ?_)
             | (show EL _ _ _ _ (⟨_, .move _, _, _, _, _⟩ :: _) _ _; refine EL.f (FV.move rfl) rfl rfl ?_)
             | (show EL _ _ _ _ (⟨_, .assign _, _, _, _, _⟩ :: _) _ _; refine EL.f (FV.assign rfl) rfl rfl ?_)
             | (show EL _ _ _ _ (⟨_, .extract _ _, _, _, _, _⟩ :: _) _ _; refine EL.f (FV.extract rfl rfl) rfl rfl ?_))
          | refine EL.nil ?_
          | refine EW.seq ?_
          | refine EW.region ?_)
        refine EL.h (Hv.call (implDecimalZ x hb' w1 (hw.ext he1).tab) rfl) rfl (fun _ => rfl) ?_
        rintro _ w2 ⟨rfl, he2⟩
        repeat' (first
          | (show EL _ _ _ _ (_ :: _) _ _
             first
             | (show EL _ _ _ _ (⟨_, .binOp .eql _ _ _ _, _, _, _, _⟩ :: _) _ _; refine EL.f (FV.eqlT rfl rfl hs) rfl rfl ?_)
             | (show EL _ _ _ _ (⟨_, .call _, _, _, _, _⟩ :: _) _ _; (refine EL.h (Hv.call (implWithin x 0 1000002 w2) rfl) rfl (fun _ => rfl) ?_; rintro _ _ ⟨rfl, rfl⟩))
             | (show EL _ _ _ _ (⟨_, .move _, _, _, _, _⟩ :: _) _ _; refine EL.f (FV.move rfl) rfl rfl ?_)
             | (show EL _ _ _ _ (⟨_, .assign _, _, _, _, _⟩ :: _) _ _; refine EL.f (FV.assign rfl) rfl rfl ?_)
             | (show EL _ _ _ _ (⟨_, .pick _ _ _, _, _, _, _⟩ :: _) _ _; refine EL.f (FV.pickT rfl rfl) rfl rfl ?_))
          | refine EL.nil ?_
          | refine EW.ret ?_)
        exact ⟨_, rfl, ⟨x, _, rfl, by rw [hnone]; exact decide_eq_false hr, fun n hn => by rw [hnone] at hn; cases hn⟩, he1.trans he2⟩
    · have hnone : wv l = none := by
        cases hv : wv l with
        | none => rfl
        | some n => exact absurd (wv_of_ok hp hv).2.1 hs
      repeat' (first
        | (show EL _ _ _ _ (_ :: _) _ _
           first
           | (show EL _ _ _ _ (⟨_, .binOp .eql _ _ _ _, _, _, _, _⟩ :: _) _ _; refine EL.f (FV.eqlNN errT rfl) rfl rfl ?_)
           | (show EL _ _ _ _ (⟨_, .move _, _, _, _, _⟩ :: _) _ _; refine EL.f (FV.move rfl) rfl rfl ?_)
           | (show EL _ _ _ _ (⟨_, .assign _, _, _, _, _⟩ :: _) _ _; refine EL.f (FV.assign rfl) rfl rfl ?_)
           | (show EL _ _ _ _ (⟨_, .extract _ _, _, _, _, _⟩ :: _) _ _; refine EL.f (FV.extract rfl rfl) rfl rfl ?_))
        | refine EL.nil ?_
        | refine EW.seq ?_
        | refine EW.region ?_)
      refine EL.h (Hv.call (implDecimalZ x hb' w1 (hw.ext he1).tab) rfl) rfl (fun _ => rfl) ?_
      rintro _ w2 ⟨rfl, he2⟩
      repeat' (first
        | (show EL _ _ _ _ (_ :: _) _ _
           first
           | (show EL _ _ _ _ (⟨_, _, _, _, _, some _⟩ :: _) _ _; refine EL.skip rfl rfl ?_)
           | (show EL _ _ _ _ (⟨_, .binOp .eql _ _ _ _, _, _, _, _⟩ :: _) _ _; refine EL.f (FV.eqlF rfl rfl hs) rfl rfl ?_)
           | (show EL _ _ _ _ (⟨_, .move _, _, _, _, _⟩ :: _) _ _; refine EL.f (FV.move rfl) rfl rfl ?_)
           | (show EL _ _ _ _ (⟨_, .assign _, _, _, _, _⟩ :: _) _ _; refine EL.f (FV.assign rfl) rfl rfl ?_)
           | (show EL _ _ _ _ (⟨_, .pick _ _ _, _, _, _, _⟩ :: _) _ _; first | refine EL.f (FV.pickT rfl rfl) rfl rfl ?_ | refine EL.f (FV.pickF rfl rfl) rfl rfl ?_))
        | refine EL.nil ?_
        | refine EW.ret ?_)
      exact ⟨_, rfl, ⟨x, _, rfl, by rw [hnone]; rfl, fun n hn => by rw [hnone] at hn; cases hn⟩, he1.trans he2⟩
  · have hnone := wv_of_bad hp
    repeat' (first
      | (show EL _ _ _ _ (_ :: _) _ _
         first
         | (show EL _ _ _ _ (⟨_, _, _, _, _, some _⟩ :: _) _ _; refine EL.skip rfl rfl ?_)
         | (show EL _ _ _ _ (⟨_, .binOp .eql _ _ _ _, _, _, _, _⟩ :: _) _ _; refine EL.f (FV.eqlHN errT rfl) rfl rfl ?_)
         | (show EL _ _ _ _ (⟨_, .move _, _, _, _, _⟩ :: _) _ _; refine EL.f (FV.move rfl) rfl rfl ?_)
         | (show EL _ _ _ _ (⟨_, .assign _, _, _, _, _⟩ :: _) _ _; refine EL.f (FV.assign rfl) rfl rfl ?_)
         | (show EL _ _ _ _ (⟨_, .extract _ _, _, _, _, _⟩ :: _) _ _; refine EL.f (FV.extract rfl rfl) rfl rfl ?_)
         | (show EL _ _ _ _ (⟨_, .pick _ _ _, _, _, _, _⟩ :: _) _ _; refine EL.f (FV.pickF rfl rfl) rfl rfl ?_))
      | refine EL.nil ?_
      | refine EW.seq ?_
      | refine EW.region ?_
      | refine EW.ret ?_)
    exact ⟨_, rfl, ⟨x, _, rfl, by rw [hnone]; rfl, fun n hn => by rw [hnone] at hn; cases hn⟩, he1⟩
theorem dv_empty {l : List UInt8} (h : l.length = 0) : dv l = none := if_pos (.inl h)
theorem dv_long {l : List UInt8} (h : 9 < l.length) : dv l = none := if_pos (.inr (.inl h))
theorem dv_zero {l : List UInt8} (h : 1 < l.length) (h0 : ((l.getD 0 0).toNat : Int) = 48) : dv l = none := if_pos (.inr (.inr ⟨h, (byte_eq (k := 48) (by decide)).1 h0⟩))
theorem dv_rest {l : List UInt8} (h1 : ¬ l.length = 0) (h2 : ¬ 9 < l.length) (h3 : ¬ (1 < l.length ∧ ((l.getD 0 0).toNat : Int) = 48)) : dv l = Lib.decFrom 0 l :=
  if_neg fun h => by
    rcases h with h | h | ⟨h, h'⟩
    · exact h1 h
    · exact h2 h
    · exact h3 ⟨h, (byte_eq (k := 48) (by decide)).2 h'⟩
theorem dec_bad {l : List UInt8} {i : Nat} (hi : i < l.length) (h : ¬ (48 ≤ ((l.getD i 0).toNat : Int) ∧ ((l.getD i 0).toNat : Int) ≤ 57)) : Lib.decFrom 0 l = none := by
  cases hd : Lib.decFrom 0 l with
  | none => rfl
  | some n =>
    exfalso
    obtain ⟨d, hv⟩ := Lib.digit_of_decFrom l 0 n hd i (l.getD i 0) (by rw [List.getD_eq_getElem?_getD, List.getElem?_eq_getElem hi]; rfl)
    obtain ⟨k1, k2, _⟩ := Lib.digitVal_eq hv
    omega
theorem dec_next {l : List UInt8} {i n : Nat} (hi : i < l.length) (h : 48 ≤ ((l.getD i 0).toNat : Int) ∧ ((l.getD i 0).toNat : Int) ≤ 57) (hn : Lib.decFrom 0 (l.take i) = some n) : Lib.decFrom 0 (l.take (i + 1)) = some (n * 10 + ((l.getD i 0).toNat - 48)) := by
  rw [take_snoc (d := 0) hi, decFrom_snoc, hn]
  have : Lib.digitVal (l.getD i 0) = some ((l.getD i 0).toNat - 48) := by
    unfold Lib.digitVal
    rw [if_pos (by omega)]
  simp only [this]
set_option maxHeartbeats 4000000 in
theorem specReadDecimal (l : List UInt8) (hl : l.length ≤ 1048576) (w : World) : CallsR Tryd.prog 41 [.string (str l)] w fun v w' => WRes (dv l) v ∧ Ext w w' := by
  refine CallsR.enter Tryd.func41 (by decide +kernel) rfl Tryd.ntmps41 rfl ?_
  have hz := str_size l
  have hb0 := byte_lt (l.getD 0 0)
  by_cases c1 : l.length = 0
  · repeat' (first
      | (show EL _ _ _ _ (_ :: _) _ _
         first
         | (show EL _ _ _ _ (⟨_, _, _, _, _, some _⟩ :: _) _ _; first | refine EL.skipU rfl rfl ?_ | refine EL.skip rfl rfl ?_)
         | (show EL _ _ _ _ (⟨_, .move _, _, _, _, _⟩ :: _) _ _; refine EL.f (FV.move rfl) rfl rfl ?_)
         | (show EL _ _ _ _ (⟨_, .assign _, _, _, _, _⟩ :: _) _ _; refine EL.f (FV.assign rfl) rfl rfl ?_)
         | (show EL _ _ _ _ (⟨_, .call _, _, _, _, _⟩ :: _) _ _; refine EL.f (FV.lenS rfl rfl) rfl rfl ?_)
         | (show EL _ _ _ _ (⟨_, .pick _ _ _, _, _, _, _⟩ :: _) _ _; refine EL.f (FV.pickT rfl rfl) rfl rfl ?_)
         | (show EL _ _ _ _ (⟨_, .binOp .eql _ _ _ _, _, _, _, _⟩ :: _) _ _; refine EL.fT (FV.eql rfl rfl) rfl (fun _ => rfl) (by omega) ?_))
      | refine EL.nil ?_
      | refine EW.seq ?_
      | refine EW.region ?_
      | refine EW.ret ?_
      | refine EW.condT rfl ?_)
    exact ⟨_, rfl, ⟨0, _, rfl, by rw [dv_empty c1]; rfl, fun n hn => by rw [dv_empty c1] at hn; cases hn⟩, Ext.refl _⟩
  by_cases c2 : 9 < l.length
  · repeat' (first
      | (show EL _ _ _ _ (_ :: _) _ _
         first
         | (show EL _ _ _ _ (⟨_, _, _, _, _, some _⟩ :: _) _ _; first | refine EL.skipU rfl rfl ?_ | refine EL.skip rfl rfl ?_)
         | (show EL _ _ _ _ (⟨_, .move _, _, _, _, _⟩ :: _) _ _; refine EL.f (FV.move rfl) rfl rfl ?_)
         | (show EL _ _ _ _ (⟨_, .assign _, _, _, _, _⟩ :: _) _ _; refine EL.f (FV.assign rfl) rfl rfl ?_)
         | (show EL _ _ _ _ (⟨_, .call _, _, _, _, _⟩ :: _) _ _; refine EL.f (FV.lenS rfl rfl) rfl rfl ?_)
         | (show EL _ _ _ _ (⟨_, .pick _ _ _, _, _, _, _⟩ :: _) _ _; first | refine EL.f (FV.pickT rfl rfl) rfl rfl ?_ | refine EL.f (FV.pickF rfl rfl) rfl rfl ?_)
         | (show EL _ _ _ _ (⟨_, .binOp .gtr _ _ _ _, _, _, _, _⟩ :: _) _ _; refine EL.fT (FV.gtr rfl rfl) rfl (fun _ => rfl) (by omega) ?_)
         | (show EL _ _ _ _ (⟨_, .binOp .eql _ _ _ _, _, _, _, _⟩ :: _) _ _; refine EL.fF (FV.eql rfl rfl) rfl (fun _ => rfl) (by omega) ?_))
      | refine EL.nil ?_
      | refine EW.seq ?_
      | refine EW.region ?_
      | refine EW.ret ?_
      | refine EW.condT rfl ?_)
    exact ⟨_, rfl, ⟨0, _, rfl, by rw [dv_long c2]; rfl, fun n hn => by rw [dv_long c2] at hn; cases hn⟩, Ext.refl _⟩
  by_cases c3 : 1 < l.length ∧ ((l.getD 0 0).toNat : Int) = 48
  · obtain ⟨c3, c4⟩ := c3
    repeat' (first
      | (show EL _ _ _ _ (_ :: _) _ _
         first
         | (show EL _ _ _ _ (⟨_, .index _ _ _, _, _, _, _⟩ :: _) _ _; refine EL.f (FV.idxL (i := 0) rfl rfl rfl (by omega)) rfl rfl ?_)
         | (show EL _ _ _ _ (⟨_, .move _, _, _, _, _⟩ :: _) _ _; refine EL.f (FV.move rfl) rfl rfl ?_)
         | (show EL _ _ _ _ (⟨_, .assign _, _, _, _, _⟩ :: _) _ _; refine EL.f (FV.assign rfl) rfl rfl ?_)
         | (show EL _ _ _ _ (⟨_, .call _, _, _, _, _⟩ :: _) _ _; refine EL.f (FV.lenS rfl rfl) rfl rfl ?_)
         | (show EL _ _ _ _ (⟨_, .pick _ _ _, _, _, _, _⟩ :: _) _ _; first | refine EL.f (FV.pickT rfl rfl) rfl rfl ?_ | refine EL.f (FV.pickF rfl rfl) rfl rfl ?_)
         | (show EL _ _ _ _ (⟨_, .binOp .gtr _ _ _ _, _, _, _, _⟩ :: _) _ _; first | refine EL.fT (FV.gtr rfl rfl) rfl (fun _ => rfl) (by omega) ?_ | refine EL.fF (FV.gtr rfl rfl) rfl (fun _ => rfl) (by omega) ?_)
         | (show EL _ _ _ _ (⟨_, .binOp .eql _ _ _ _, _, _, _, _⟩ :: _) _ _; first | refine EL.fT (FV.eql rfl rfl) rfl (fun _ => rfl) (by omega) ?_ | refine EL.fF (FV.eql rfl rfl) rfl (fun _ => rfl) (by omega) ?_))
      | refine EL.nil ?_
      | refine EW.seq ?_
      | refine EW.region ?_
      | refine EW.ret ?_
      | refine EW.condT rfl ?_)
    exact ⟨_, rfl, ⟨0, _, rfl, by rw [dv_zero c3 c4]; rfl, fun n hn => by rw [dv_zero c3 c4] at hn; cases hn⟩, Ext.refl _⟩
  have hdv := dv_rest c1 c2 c3
  have hsp : (1 < l.length ∧ ¬ ((l.getD 0 0).toNat : Int) = 48) ∨ l.length = 1 := by
    by_cases c5 : 1 < l.length
    · exact .inl ⟨c5, fun e => c3 ⟨c5, e⟩⟩
    · exact .inr (by omega)
  rcases hsp with ⟨c5, c6⟩ | c5
  all_goals
    repeat' (first
      | (show EL _ _ _ _ (_ :: _) _ _
         first
         | (show EL _ _ _ _ (⟨_, _, _, _, _, some _⟩ :: _) _ _; refine EL.skip rfl rfl ?_)
         | (show EL _ _ _ _ (⟨_, .index _ _ _, _, _, _, _⟩ :: _) _ _; refine EL.f (FV.idxL (i := 0) rfl rfl rfl (by omega)) rfl rfl ?_)
         | (show EL _ _ _ _ (⟨_, .move _, _, _, _, _⟩ :: _) _ _; refine EL.f (FV.move rfl) rfl rfl ?_)
         | (show EL _ _ _ _ (⟨_, .assign _, _, _, _, _⟩ :: _) _ _; refine EL.f (FV.assign rfl) rfl rfl ?_)
         | (show EL _ _ _ _ (⟨_, .call _, _, _, _, _⟩ :: _) _ _; refine EL.f (FV.lenS rfl rfl) rfl rfl ?_)
         | (show EL _ _ _ _ (⟨_, .pick _ _ _, _, _, _, _⟩ :: _) _ _; first | refine EL.f (FV.pickT rfl rfl) rfl rfl ?_ | refine EL.f (FV.pickF rfl rfl) rfl rfl ?_)
         | (show EL _ _ _ _ (⟨_, .binOp .gtr _ _ _ _, _, _, _, _⟩ :: _) _ _; first | refine EL.fT (FV.gtr rfl rfl) rfl (fun _ => rfl) (by omega) ?_ | refine EL.fF (FV.gtr rfl rfl) rfl (fun _ => rfl) (by omega) ?_)
         | (show EL _ _ _ _ (⟨_, .binOp .eql _ _ _ _, _, _, _, _⟩ :: _) _ _; refine EL.fF (FV.eql rfl rfl) rfl (fun _ => rfl) (by omega) ?_))
      | refine EL.nil ?_
      | refine EW.seq ?_
      | refine EW.region ?_
      | refine EW.block ?_
      | refine EW.skip ?_
      | refine EW.condF rfl ?_)
    refine EW.loop (X := Nat × Nat) (fun y wr => y.1 ≤ l.length ∧ Lib.decFrom 0 (l.take y.1) = some y.2 ∧ Ext w wr) (fun y => [(0, .string (str l)), (4, .int .i64 (y.2 : Int)), (5, .int .i64 (y.1 : Int))]) (fun y => l.length - y.1) (0, 0) ⟨Nat.zero_le _, rfl, Ext.refl _⟩ ⟨rfl, rfl, rfl, trivial⟩ ?_
    rintro ⟨i, n⟩ wr ⟨hi, hn, hE⟩
    dsimp only at *
    by_cases hlt : i < l.length
    rotate_left
    · obtain rfl : i = l.length := by omega
      rw [List.take_length] at hn
      repeat' (first
        | (show EL _ _ _ _ (_ :: _) _ _
           first
           | (show EL _ _ _ _ (⟨_, .move _, _, _, _, _⟩ :: _) _ _; refine EL.f (FV.move rfl) rfl rfl ?_)
           | (show EL _ _ _ _ (⟨_, .assign _, _, _, _, _⟩ :: _) _ _; refine EL.f (FV.assign rfl) rfl rfl ?_)
           | (show EL _ _ _ _ (⟨_, .call _, _, _, _, _⟩ :: _) _ _; refine EL.f (FV.lenS rfl rfl) rfl rfl ?_)
           | (show EL _ _ _ _ (⟨_, .binOp .lss _ _ _ _, _, _, _, _⟩ :: _) _ _; refine EL.fF (FV.lss rfl rfl) rfl (fun _ => rfl) (by omega) ?_))
        | refine EL.nil ?_
        | refine EW.seq ?_
        | refine EW.region ?_
        | refine EW.exit ?_
        | refine EW.ret ?_
        | refine EW.condF rfl ?_)
      exact ⟨_, rfl, ⟨n, _, rfl, by rw [hdv, hn]; rfl, fun m hm => by rw [hdv, hn] at hm; injection hm with hm; omega⟩, hE⟩
    have hbi := byte_lt (l.getD i 0)
    by_cases d1 : ((l.getD i 0).toNat : Int) < 48
    · have hnone : dv l = none := by rw [hdv]; exact dec_bad hlt (by omega)
      repeat' (first
        | (show EL _ _ _ _ (_ :: _) _ _
           first
           | (show EL _ _ _ _ (⟨_, _, _, _, _, some _⟩ :: _) _ _; refine EL.skip rfl rfl ?_)
           | (show EL _ _ _ _ (⟨_, .index _ _ _, _, _, _, _⟩ :: _) _ _; refine EL.f (FV.idxL (i := i) rfl rfl rfl (by omega)) rfl rfl ?_)
           | (show EL _ _ _ _ (⟨_, .move _, _, _, _, _⟩ :: _) _ _; refine EL.f (FV.move rfl) rfl rfl ?_)
           | (show EL _ _ _ _ (⟨_, .assign _, _, _, _, _⟩ :: _) _ _; refine EL.f (FV.assign rfl) rfl rfl ?_)
           | (show EL _ _ _ _ (⟨_, .call _, _, _, _, _⟩ :: _) _ _; refine EL.f (FV.lenS rfl rfl) rfl rfl ?_)
           | (show EL _ _ _ _ (⟨_, .pick _ _ _, _, _, _, _⟩ :: _) _ _; refine EL.f (FV.pickT rfl rfl) rfl rfl ?_)
           | (show EL _ _ _ _ (⟨_, .binOp .lss _ _ _ _, _, _, _, _⟩ :: _) _ _; refine EL.fT (FV.lss rfl rfl) rfl (fun _ => rfl) (by omega) ?_))
        | refine EL.nil ?_
        | refine EW.seq ?_
        | refine EW.region ?_
        | refine EW.block ?_
        | refine EW.skip ?_
        | refine EW.ret ?_
        | refine EW.condT rfl ?_)
      exact ⟨_, rfl, ⟨0, _, rfl, by rw [hnone]; rfl, fun m hm => by rw [hnone] at hm; cases hm⟩, hE⟩
    by_cases d2 : 57 < ((l.getD i 0).toNat : Int)
    · have hnone : dv l = none := by rw [hdv]; exact dec_bad hlt (by omega)
      repeat' (first
        | (show EL _ _ _ _ (_ :: _) _ _
           first
           | (show EL _ _ _ _ (⟨_, .index _ _ _, _, _, _, _⟩ :: _) _ _; refine EL.f (FV.idxL (i := i) rfl rfl rfl (by omega)) rfl rfl ?_)
           | (show EL _ _ _ _ (⟨_, .move _, _, _, _, _⟩ :: _) _ _; refine EL.f (FV.move rfl) rfl rfl ?_)
           | (show EL _ _ _ _ (⟨_, .assign _, _, _, _, _⟩ :: _) _ _; refine EL.f (FV.assign rfl) rfl rfl ?_)
           | (show EL _ _ _ _ (⟨_, .call _, _, _, _, _⟩ :: _) _ _; refine EL.f (FV.lenS rfl rfl) rfl rfl ?_)
           | (show EL _ _ _ _ (⟨_, .pick _ _ _, _, _, _, _⟩ :: _) _ _; refine EL.f (FV.pickF rfl rfl) rfl rfl ?_)
           | (show EL _ _ _ _ (⟨_, .binOp .lss _ _ _ _, _, _, _, _⟩ :: _) _ _; first | refine EL.fT (FV.lss rfl rfl) rfl (fun _ => rfl) (by omega) ?_ | refine EL.fF (FV.lss rfl rfl) rfl (fun _ => rfl) (by omega) ?_)
           | (show EL _ _ _ _ (⟨_, .binOp .gtr _ _ _ _, _, _, _, _⟩ :: _) _ _; refine EL.fT (FV.gtr rfl rfl) rfl (fun _ => rfl) (by omega) ?_))
        | refine EL.nil ?_
        | refine EW.seq ?_
        | refine EW.region ?_
        | refine EW.block ?_
        | refine EW.skip ?_
        | refine EW.ret ?_
        | refine EW.condT rfl ?_)
      exact ⟨_, rfl, ⟨0, _, rfl, by rw [hnone]; rfl, fun m hm => by rw [hnone] at hm; cases hm⟩, hE⟩
    have hnx := dec_next hlt (by omega) hn
    have hnb : n < 1000000000 := by
      have h1 := Lib.decFrom_lt _ 0 n hn
      rw [List.length_take] at h1
      have : 10 ^ min i l.length ≤ 10 ^ 9 := Nat.pow_le_pow_right (by decide) (by omega)
      omega
    repeat' (first
      | (show EL _ _ _ _ (_ :: _) _ _
         first
         | (show EL _ _ _ _ (⟨_, .index _ _ _, _, _, _, _⟩ :: _) _ _; refine EL.f (FV.idxL (i := i) rfl rfl rfl (by omega)) rfl rfl ?_)
         | (show EL _ _ _ _ (⟨_, .binOp .mul _ _ _ _, _, _, _, _⟩ :: _) _ _; refine EL.f (FV.mulI rfl rfl (by omega)) rfl rfl ?_)
         | (show EL _ _ _ _ (⟨_, .binOp .sub _ _ _ _, _, _, _, _⟩ :: _) _ _; refine EL.f (FV.subU8 rfl rfl (by omega) (by omega)) rfl rfl ?_)
         | (show EL _ _ _ _ (⟨_, .convert _ _ _, _, _, _, _⟩ :: _) _ _; refine EL.f (FV.conv (k := .i64) rfl rfl rfl (IntWalk.i64_in _ (by omega))) rfl rfl ?_)
         | (show EL _ _ _ _ (⟨_, .move _, _, _, _, _⟩ :: _) _ _; refine EL.f (FV.move rfl) rfl rfl ?_)
         | (show EL _ _ _ _ (⟨_, .assign _, _, _, _, _⟩ :: _) _ _; refine EL.f (FV.assign rfl) rfl rfl ?_)
         | (show EL _ _ _ _ (⟨_, .binOp .add _ _ _ _, _, _, _, _⟩ :: _) _ _; refine EL.f (FV.addI rfl rfl (by omega)) rfl rfl ?_)
         | (show EL _ _ _ _ (⟨_, .call _, _, _, _, _⟩ :: _) _ _; refine EL.f (FV.lenS rfl rfl) rfl rfl ?_)
         | (show EL _ _ _ _ (⟨_, .pick _ _ _, _, _, _, _⟩ :: _) _ _; refine EL.f (FV.pickF rfl rfl) rfl rfl ?_)
         | (show EL _ _ _ _ (⟨_, .binOp .lss _ _ _ _, _, _, _, _⟩ :: _) _ _; first | refine EL.fT (FV.lss rfl rfl) rfl (fun _ => rfl) (by omega) ?_ | refine EL.fF (FV.lss rfl rfl) rfl (fun _ => rfl) (by omega) ?_)
         | (show EL _ _ _ _ (⟨_, .binOp .gtr _ _ _ _, _, _, _, _⟩ :: _) _ _; refine EL.fF (FV.gtr rfl rfl) rfl (fun _ => rfl) (by omega) ?_))
      | refine EL.nil ?_
      | refine EW.seq ?_
      | refine EW.region ?_
      | refine EW.block ?_
      | refine EW.skip ?_
      | refine EW.condT rfl ?_
      | refine EW.condF rfl ?_)
    refine ⟨(i + 1, n * 10 + ((l.getD i 0).toNat - 48)), ⟨rfl, ?_, rfl, trivial⟩, ⟨by dsimp only; omega, hnx, hE⟩, by dsimp only; omega⟩
    show some (Value.int _ _) = some (Value.int _ _)
    congr 2
    dsimp only
    omega
/-! the pieces -/
def OwnS (B : Nat) (w : World) (v : Value) (ls : List (List UInt8)) : Prop := w.ownsRow B 9 1 v ls.length (strs ls)
theorem strs_get {ls : List (List UInt8)} {i : Nat} (h : i < ls.length) : (strs ls)[i]? = some (.string (str (ls.getD i []))) := by
  rw [strs, List.getElem?_map, List.getElem?_eq_getElem h, List.getD_eq_getElem?_getD, List.getElem?_eq_getElem h]
  rfl
theorem strs_snoc (ls : List (List UInt8)) (a : List UInt8) : strs (ls ++ [a]) = strs ls ++ [.string (str a)] := by simp [strs]
theorem cut_at {l : List UInt8} {f i : Nat} (hf : f ≤ i) (hi : i < l.length) (hc : l.getD i 0 = 32) (hn : 32 ∉ (l.drop f).take (i - f)) : cut (l.drop f) = (l.drop f).take (i - f) :: cut (l.drop (i + 1)) := by
  have h1 : (l.drop f).drop (i - f) = 32 :: l.drop (i + 1) := by
    rw [List.drop_drop, show f + (i - f) = i from by omega, List.drop_eq_getElem_cons hi]
    rw [List.getD_eq_getElem?_getD, List.getElem?_eq_getElem hi] at hc
    rw [show l[i] = 32 from hc]
  have h2 : l.drop f = (l.drop f).take (i - f) ++ 32 :: l.drop (i + 1) := by rw [← h1, List.take_append_drop]
  have h3 := cut_hit ((l.drop f).take (i - f)) (l.drop (i + 1)) hn
  rw [← h2] at h3
  exact h3
theorem no_blank {l : List UInt8} {f i : Nat} (hf : f ≤ i) (hi : i < l.length) (hc : ¬ l.getD i 0 = 32) (hn : 32 ∉ (l.drop f).take (i - f)) : 32 ∉ (l.drop f).take (i + 1 - f) := by
  have hd : i - f < (l.drop f).length := by rw [List.length_drop]; omega
  rw [show i + 1 - f = (i - f) + 1 from by omega, take_snoc (d := 0) hd]
  intro h
  rcases List.mem_append.1 h with h | h
  · exact hn h
  · rw [List.mem_singleton] at h
    apply hc
    rw [List.getD_eq_getElem?_getD, List.getElem?_drop, show f + (i - f) = i from by omega, ← List.getD_eq_getElem?_getD] at h
    exact h.symm
set_option maxHeartbeats 4000000 in
theorem specSplit (l : List UInt8) (hl : l.length ≤ 1048576) (w : World) : CallsR Tryd.prog 40 [.string (str l), .int .u8 32] w fun v w' => OwnS w.heap.size w' v (cut l) ∧ Ext w w' := by
  refine CallsR.enter Tryd.func40 (by decide +kernel) rfl Tryd.ntmps40 rfl ?_
  have hz := str_size l
  repeat' (first
    | refine EL.f (FV.assign rfl) rfl rfl ?_
    | refine EL.nil ?_
    | refine EW.seq ?_
    | refine EW.region ?_)
  refine EL.h (Hv.build0 rfl rfl) rfl (fun _ => rfl) ?_
  rintro s0 w1 ⟨ho1, he1⟩
  repeat' (first
    | refine EL.f (FV.assign rfl) rfl rfl ?_
    | refine EL.nil ?_
    | refine EW.seq ?_
    | refine EW.region ?_
    | refine EW.block ?_)
  refine EW.loop (X := Nat × Nat × List (List UInt8) × Value) (fun y wr => y.1 ≤ l.length ∧ y.2.1 ≤ y.1 ∧ y.2.2.1.length ≤ y.2.1 ∧ cut l = y.2.2.1 ++ cut (l.drop y.2.1) ∧ 32 ∉ (l.drop y.2.1).take (y.1 - y.2.1) ∧ OwnS w.heap.size wr y.2.2.2 y.2.2.1 ∧ Ext w wr) (fun y => [(0, .string (str l)), (1, .int .u8 32), (5, y.2.2.2), (6, .int .i64 (y.2.1 : Int)), (7, .int .i64 (y.1 : Int))]) (fun y => l.length - y.1) (0, 0, [], s0) ⟨Nat.zero_le _, Nat.le_refl _, Nat.le_refl _, rfl, by simp, ho1, he1⟩ ⟨rfl, rfl, rfl, rfl, rfl, trivial⟩ ?_
  rintro ⟨i, f, ds, s⟩ wr ⟨hi, hf, hds, hcut, hnb, hown, hE⟩
  dsimp only at *
  by_cases hlt : i < l.length
  rotate_left
  · obtain rfl : i = l.length := by omega
    repeat' (first
      | refine EL.f (FV.move rfl) rfl rfl ?_
      | refine EL.f (FV.lenS rfl rfl) rfl rfl ?_
      | refine EL.fF (FV.lss rfl rfl) rfl (fun _ => rfl) (by omega) ?_
      | refine EL.nil ?_
      | refine EL.f (FV.rest (i := f) rfl rfl rfl (by omega)) rfl rfl ?_
      | refine EW.seq ?_
      | refine EW.region ?_
      | refine EW.exit ?_
      | refine EW.condF rfl ?_)
    refine EL.h (Hv.build1S rfl rfl rfl rfl) rfl (fun _ => rfl) ?_
    rintro _ a2 ⟨ga, rfl, hga, hgga, ea2⟩
    have oa := own_ext hown ea2
    skip
    refine EL.h (Hv.append1 (B := w.heap.size) rfl rfl rfl rfl rfl oa (At.cell hga rfl) rfl (by omega) (by omega) (Nat.le_trans hE.size ea2.size)) rfl (fun _ => rfl) ?_
    rintro s8 a3 ⟨h8, gra, bla⟩
    have hE8 : Ext w a3 := Below.trans (hE.trans ea2) bla
    repeat' (first
      | refine EL.f (FV.assign rfl) rfl rfl ?_
      | refine EL.nil ?_
      | refine EW.ret ?_)
    refine ⟨_, rfl, ?_, hE8⟩
    rw [List.take_of_length_le (by rw [List.length_drop]; omega)] at hnb
    rw [hcut, cut_none _ hnb, OwnS, strs_snoc, List.length_append]
    exact h8
  by_cases hc : ((l.getD i 0).toNat : Int) = 32
  · have hc' : l.getD i 0 = 32 := (byte_eq (k := 32) (by decide)).1 hc
    repeat' (first
      | (show EL _ _ _ _ (_ :: _) _ _
         first
         | (show EL _ _ _ _ (⟨_, .index _ _ _, _, _, _, _⟩ :: _) _ _; refine EL.f (FV.idxL (i := i) rfl rfl rfl (by omega)) rfl rfl ?_)
         | (show EL _ _ _ _ (⟨_, .move _, _, _, _, _⟩ :: _) _ _; refine EL.f (FV.move rfl) rfl rfl ?_)
         | (show EL _ _ _ _ (⟨_, .call _, _, _, _, _⟩ :: _) _ _; refine EL.f (FV.lenS rfl rfl) rfl rfl ?_)
         | (show EL _ _ _ _ (⟨_, .binOp .lss _ _ _ _, _, _, _, _⟩ :: _) _ _; refine EL.fT (FV.lss rfl rfl) rfl (fun _ => rfl) (by omega) ?_)
         | (show EL _ _ _ _ (⟨_, .binOp .eql _ _ _ _, _, _, _, _⟩ :: _) _ _; refine EL.fT (FV.eql rfl rfl) rfl (fun _ => rfl) (by omega) ?_))
      | refine EL.nil ?_
      | refine EL.f (FV.piece (i := f) (j := i) rfl rfl rfl rfl (by omega) (by omega)) rfl rfl ?_
      | refine EW.seq ?_
      | refine EW.region ?_
      | refine EW.block ?_
      | refine EW.skip ?_
      | refine EW.condT rfl ?_)
    refine EL.h (Hv.build1S rfl rfl rfl rfl) rfl (fun _ => rfl) ?_
    rintro _ a2 ⟨ga, rfl, hga, hgga, ea2⟩
    have oa := own_ext hown ea2
    skip
    refine EL.h (Hv.append1 (B := w.heap.size) rfl rfl rfl rfl rfl oa (At.cell hga rfl) rfl (by omega) (by omega) (Nat.le_trans hE.size ea2.size)) rfl (fun _ => rfl) ?_
    rintro s8 a3 ⟨h8, gra, bla⟩
    have hE8 : Ext w a3 := Below.trans (hE.trans ea2) bla
    repeat' (first
      | refine EL.f (FV.move rfl) rfl rfl ?_
      | refine EL.f (FV.assign rfl) rfl rfl ?_
      | refine EL.f (FV.addI rfl rfl (by omega)) rfl rfl ?_
      | refine EL.nil ?_
      | refine EW.region ?_)
    refine ⟨(i + 1, i + 1, ds ++ [(l.drop f).take (i - f)], s8), ⟨rfl, rfl, rfl, rfl, rfl, trivial⟩, ⟨by dsimp only; omega, by dsimp only; omega, by dsimp only; rw [List.length_append, List.length_singleton]; omega, ?_, by dsimp only; rw [Nat.sub_self]; simp, ?_, hE8⟩, by dsimp only; omega⟩
    · dsimp only
      rw [hcut, cut_at hf hlt hc' hnb, List.append_assoc]
      rfl
    · dsimp only
      rw [OwnS, strs_snoc, List.length_append]
      exact h8
  · have hc' : ¬ l.getD i 0 = 32 := fun e => hc (by rw [e]; rfl)
    repeat' (first
      | (show EL _ _ _ _ (_ :: _) _ _
         first
         | (show EL _ _ _ _ (⟨_, .index _ _ _, _, _, _, _⟩ :: _) _ _; refine EL.f (FV.idxL (i := i) rfl rfl rfl (by omega)) rfl rfl ?_)
         | (show EL _ _ _ _ (⟨_, .move _, _, _, _, _⟩ :: _) _ _; refine EL.f (FV.move rfl) rfl rfl ?_)
         | (show EL _ _ _ _ (⟨_, .assign _, _, _, _, _⟩ :: _) _ _; refine EL.f (FV.assign rfl) rfl rfl ?_)
         | (show EL _ _ _ _ (⟨_, .binOp .add _ _ _ _, _, _, _, _⟩ :: _) _ _; refine EL.f (FV.addI rfl rfl (by omega)) rfl rfl ?_)
         | (show EL _ _ _ _ (⟨_, .call _, _, _, _, _⟩ :: _) _ _; refine EL.f (FV.lenS rfl rfl) rfl rfl ?_)
         | (show EL _ _ _ _ (⟨_, .binOp .lss _ _ _ _, _, _, _, _⟩ :: _) _ _; refine EL.fT (FV.lss rfl rfl) rfl (fun _ => rfl) (by omega) ?_)
         | (show EL _ _ _ _ (⟨_, .binOp .eql _ _ _ _, _, _, _, _⟩ :: _) _ _; refine EL.fF (FV.eql rfl rfl) rfl (fun _ => rfl) (by omega) ?_))
      | refine EL.nil ?_
      | refine EW.seq ?_
      | refine EW.region ?_
      | refine EW.block ?_
      | refine EW.skip ?_
      | refine EW.condT rfl ?_
      | refine EW.condF rfl ?_)
    exact ⟨(i + 1, f, ds, s), ⟨rfl, rfl, rfl, rfl, rfl, trivial⟩, ⟨by dsimp only; omega, by dsimp only; omega, hds, hcut, no_blank hf hlt hc' hnb, hown, hE⟩, by dsimp only; omega⟩
/-! lists -/
theorem cut_mem_le : ∀ (l a : List UInt8), a ∈ cut l → a.length ≤ l.length
  | [], a, h => by
    simp only [cut, List.mem_singleton] at h
    rw [h]
    exact Nat.le_refl _
  | b :: l, a, h => by
    have ih := cut_mem_le l
    unfold cut at h
    split at h
    · rcases List.mem_cons.1 h with rfl | h
      · exact Nat.zero_le _
      · have := ih a h
        rw [List.length_cons]
        omega
    · split at h
      · simp only [List.mem_singleton] at h
        rw [h, List.length_cons, List.length_cons]
        exact Nat.succ_le_succ (Nat.zero_le _)
      · rename_i p r e
        rw [e] at ih
        rcases List.mem_cons.1 h with rfl | h
        · have := ih p List.mem_cons_self
          rw [List.length_cons, List.length_cons]
          omega
        · have := ih a (List.mem_cons_of_mem _ h)
          rw [List.length_cons]
          omega
theorem cut_getD_le (l : List UInt8) {i : Nat} (h : i < (cut l).length) : ((cut l).getD i []).length ≤ l.length := by
  refine cut_mem_le l _ ?_
  rw [List.getD_eq_getElem?_getD, List.getElem?_eq_getElem h]
  exact List.getElem_mem h
theorem vals_take {ws : List (List UInt8)} {i : Nat} (h : i ≤ ws.length) : (vals (ws.take i)).length = i := by
  rw [vals_length, List.length_take]
  omega
theorem wv_small {a : List UInt8} {n : Nat} (h : dv a = some n) (h1 : n < 1000003) : wv a = some n := by
  rw [wv, h]
  exact if_pos h1
theorem wv_big {a : List UInt8} {n : Nat} (h : dv a = some n) (h1 : ¬ n < 1000003) : wv a = none := by
  rw [wv, h]
  exact if_neg h1
theorem wv_miss {a : List UInt8} (h : dv a = none) : wv a = none := by rw [wv, h]
/-- A list of numbers and whether all were. -/
def LRes (B : Nat) (w : World) (b : Bool) (xs : List Int) (v : Value) : Prop := ∃ s, v = .tuple #[s, .bool b] ∧ (b = true → OwnI B w s xs)
theorem own_next {B : Nat} {w : World} {s : Value} {ws : List (List UInt8)} {i : Nat} {n : Nat} (hi : i < ws.length) (hn : wv (ws.getD i []) = some n) (h : w.ownsRow B 2 1 s ((vals (ws.take i)).length + 1) (ints (vals (ws.take i)) ++ [.int .i64 (n : Int)])) : OwnI B w s (vals (ws.take (i + 1))) := by
  rw [OwnI, vals_next hi, hn, ints_append, List.length_append]
  exact h
set_option maxHeartbeats 8000000 in
theorem specReadList (l : List UInt8) (hl : l.length ≤ 1048576) (w : World) : CallsR Tryd.prog 19 [.string (str l)] w fun v w' => LRes w.heap.size w' (okW (cut l)) (vals (cut l)) v ∧ Ext w w' := by
  refine CallsR.enter Tryd.func19 (by decide +kernel) rfl Tryd.ntmps19 rfl ?_
  have hcl := cut_le l
  have hcp := cut_pos l
  repeat' (first
    | refine EL.f (FV.move rfl) rfl rfl ?_
    | refine EL.f (FV.assign rfl) rfl rfl ?_
    | refine EL.nil ?_
    | refine EW.seq ?_
    | refine EW.region ?_)
  refine EL.h (Hv.call (specSplit l hl w) rfl) rfl (fun _ => rfl) ?_
  rintro v1 w1 ⟨ho1, he1⟩
  obtain ⟨A, c, rfl, hrd⟩ := own_form ho1
  repeat' (first
    | refine EL.f (FV.assign rfl) rfl rfl ?_
    | refine EL.nil ?_
    | refine EW.seq ?_
    | refine EW.region ?_)
  refine EL.h (Hv.build0 rfl rfl) rfl (fun _ => rfl) ?_
  rintro s0 w2 ⟨ho2, he2⟩
  have hE2 := he1.trans he2
  repeat' (first
    | refine EL.f (FV.assign rfl) rfl rfl ?_
    | refine EL.nil ?_
    | refine EW.seq ?_
    | refine EW.region ?_
    | refine EW.block ?_)
  refine EW.loop (X := Nat × Value) (fun y wr => y.1 ≤ (cut l).length ∧ okW ((cut l).take y.1) = true ∧ OwnI w1.heap.size wr y.2 (vals ((cut l).take y.1)) ∧ Ext w1 wr) (fun y => [(4, .slice A (cut l).length c), (5, y.2), (6, .int .i64 (y.1 : Int))]) (fun y => (cut l).length - y.1) (0, s0) ⟨Nat.zero_le _, rfl, ho2, he2⟩ ⟨rfl, rfl, rfl, trivial⟩ ?_
  rintro ⟨i, s⟩ wr ⟨hi, hok, hown, hEr⟩
  dsimp only at *
  by_cases hlt : i < (cut l).length
  rotate_left
  · obtain rfl : i = (cut l).length := by omega
    rw [List.take_length] at hok hown
    repeat' (first
      | (show EL _ _ _ _ (_ :: _) _ _
         first
         | (show EL _ _ _ _ (⟨_, .move _, _, _, _, _⟩ :: _) _ _; refine EL.f (FV.move rfl) rfl rfl ?_)
         | (show EL _ _ _ _ (⟨_, .assign _, _, _, _, _⟩ :: _) _ _; refine EL.f (FV.assign rfl) rfl rfl ?_)
         | (show EL _ _ _ _ (⟨_, .call _, _, _, _, _⟩ :: _) _ _; refine EL.f (FV.len rfl rfl) rfl rfl ?_)
         | (show EL _ _ _ _ (⟨_, .binOp .lss _ _ _ _, _, _, _, _⟩ :: _) _ _; refine EL.fF (FV.lss rfl rfl) rfl (fun _ => rfl) (by omega) ?_))
      | refine EL.nil ?_
      | refine EW.seq ?_
      | refine EW.region ?_
      | refine EW.exit ?_
      | refine EW.ret ?_
      | refine EW.condF rfl ?_)
    exact ⟨_, rfl, ⟨s, by rw [hok], fun _ => OwnI.lower hown he1.size⟩, he1.trans hEr⟩
  have hvl := vals_take hi
  obtain ⟨b, o, rfl, hc⟩ := (hrd.ext hEr) i _ (strs_get hlt)
  repeat' (first
    | (show EL _ _ _ _ (_ :: _) _ _
       first
       | (show EL _ _ _ _ (⟨_, .indexAddr _ _ _, _, _, _, _⟩ :: _) _ _; refine EL.f (FV.idx1 rfl rfl rfl rfl (by omega) (by omega)) rfl rfl ?_)
       | (show EL _ _ _ _ (⟨_, .load _ _, _, _, _, _⟩ :: _) _ _; refine EL.f (FV.load1 rfl rfl rfl (hc)) rfl rfl ?_)
       | (show EL _ _ _ _ (⟨_, .move _, _, _, _, _⟩ :: _) _ _; refine EL.f (FV.move rfl) rfl rfl ?_)
       | (show EL _ _ _ _ (⟨_, .call _, _, _, _, _⟩ :: _) _ _; refine EL.f (FV.len rfl rfl) rfl rfl ?_)
       | (show EL _ _ _ _ (⟨_, .binOp .lss _ _ _ _, _, _, _, _⟩ :: _) _ _; refine EL.fT (FV.lss rfl rfl) rfl (fun _ => rfl) (by omega) ?_))
    | refine EL.nil ?_
    | refine EW.seq ?_
    | refine EW.region ?_
    | refine EW.block ?_
    | refine EW.skip ?_
    | refine EW.condT rfl ?_)
  refine EL.h (Hv.call (specReadDecimal ((cut l).getD i []) (by have := cut_getD_le l hlt; omega) wr) rfl) rfl (fun _ => rfl) ?_
  rintro _ w4 ⟨⟨x, bb, rfl, hbb, hx⟩, he4⟩
  have hE4 := hEr.trans he4
  cases hd : dv ((cut l).getD i []) with
  | none =>
    rw [hd] at hbb
    obtain rfl : bb = false := hbb
    have hbad := okW_bad hlt (show (wv ((cut l).getD i [])).isSome = false by rw [wv_miss hd]; rfl)
    repeat' (first
      | (show EL _ _ _ _ (_ :: _) _ _
         first
         | (show EL _ _ _ _ (⟨_, _, _, _, _, some _⟩ :: _) _ _; refine EL.skip rfl rfl ?_)
         | (show EL _ _ _ _ (⟨_, .buildSlice _ _ _, _, _, _, _⟩ :: _) _ _; (refine EL.h (Hv.build0 rfl rfl) rfl (fun _ => rfl) ?_; rintro sz w5 ⟨ho5, he5⟩))
         | (show EL _ _ _ _ (⟨_, .move _, _, _, _, _⟩ :: _) _ _; refine EL.f (FV.move rfl) rfl rfl ?_)
         | (show EL _ _ _ _ (⟨_, .assign _, _, _, _, _⟩ :: _) _ _; refine EL.f (FV.assign rfl) rfl rfl ?_)
         | (show EL _ _ _ _ (⟨_, .extract _ _, _, _, _, _⟩ :: _) _ _; refine EL.f (FV.extract rfl rfl) rfl rfl ?_)
         | (show EL _ _ _ _ (⟨_, .unOp .not _ _, _, _, _, _⟩ :: _) _ _; refine EL.f (FV.not rfl) rfl rfl ?_)
         | (show EL _ _ _ _ (⟨_, .pick _ _ _, _, _, _, _⟩ :: _) _ _; refine EL.f (FV.pickT rfl rfl) rfl rfl ?_))
      | refine EL.nil ?_
      | refine EW.seq ?_
      | refine EW.region ?_
      | refine EW.ret ?_
      | refine EW.condT rfl ?_)
    exact ⟨_, rfl, ⟨sz, by rw [hbad], fun e => by rw [hbad] at e; cases e⟩, (he1.trans hE4).trans he5⟩
  | some m =>
    rw [hd] at hbb
    obtain rfl : bb = true := hbb
    obtain rfl := hx m hd
    by_cases hm : m < 1000003
    rotate_left
    · have hbad := okW_bad hlt (show (wv ((cut l).getD i [])).isSome = false by rw [wv_big hd hm]; rfl)
      repeat' (first
        | (show EL _ _ _ _ (_ :: _) _ _
           first
           | (show EL _ _ _ _ (⟨_, .buildSlice _ _ _, _, _, _, _⟩ :: _) _ _; (refine EL.h (Hv.build0 rfl rfl) rfl (fun _ => rfl) ?_; rintro sz w5 ⟨ho5, he5⟩))
           | (show EL _ _ _ _ (⟨_, .move _, _, _, _, _⟩ :: _) _ _; refine EL.f (FV.move rfl) rfl rfl ?_)
           | (show EL _ _ _ _ (⟨_, .assign _, _, _, _, _⟩ :: _) _ _; refine EL.f (FV.assign rfl) rfl rfl ?_)
           | (show EL _ _ _ _ (⟨_, .extract _ _, _, _, _, _⟩ :: _) _ _; refine EL.f (FV.extract rfl rfl) rfl rfl ?_)
           | (show EL _ _ _ _ (⟨_, .unOp .not _ _, _, _, _, _⟩ :: _) _ _; refine EL.f (FV.not rfl) rfl rfl ?_)
           | (show EL _ _ _ _ (⟨_, .pick _ _ _, _, _, _, _⟩ :: _) _ _; refine EL.f (FV.pickF rfl rfl) rfl rfl ?_)
           | (show EL _ _ _ _ (⟨_, .binOp .geq _ _ _ _, _, _, _, _⟩ :: _) _ _; refine EL.fT (FV.geq rfl rfl) rfl (fun _ => rfl) (by omega) ?_))
        | refine EL.nil ?_
        | refine EW.seq ?_
        | refine EW.region ?_
        | refine EW.ret ?_
        | refine EW.condT rfl ?_)
      exact ⟨_, rfl, ⟨sz, by rw [hbad], fun e => by rw [hbad] at e; cases e⟩, (he1.trans hE4).trans he5⟩
    have hw1 := wv_small hd hm
    have o4 := own_ext hown he4
    repeat' (first
      | (show EL _ _ _ _ (_ :: _) _ _
         first
         | (show EL _ _ _ _ (⟨_, .move _, _, _, _, _⟩ :: _) _ _; refine EL.f (FV.move rfl) rfl rfl ?_)
         | (show EL _ _ _ _ (⟨_, .assign _, _, _, _, _⟩ :: _) _ _; refine EL.f (FV.assign rfl) rfl rfl ?_)
         | (show EL _ _ _ _ (⟨_, .extract _ _, _, _, _, _⟩ :: _) _ _; refine EL.f (FV.extract rfl rfl) rfl rfl ?_)
         | (show EL _ _ _ _ (⟨_, .unOp .not _ _, _, _, _, _⟩ :: _) _ _; refine EL.f (FV.not rfl) rfl rfl ?_)
         | (show EL _ _ _ _ (⟨_, .pick _ _ _, _, _, _, _⟩ :: _) _ _; refine EL.f (FV.pickF rfl rfl) rfl rfl ?_)
         | (show EL _ _ _ _ (⟨_, .binOp .geq _ _ _ _, _, _, _, _⟩ :: _) _ _; refine EL.fF (FV.geq rfl rfl) rfl (fun _ => rfl) (by omega) ?_))
      | refine EL.nil ?_
      | refine EW.seq ?_
      | refine EW.region ?_
      | refine EW.skip ?_
      | refine EW.condF rfl ?_)
    refine EL.h (Hv.build1S rfl rfl rfl rfl) rfl (fun _ => rfl) ?_
    rintro _ a2 ⟨ga, rfl, hga, hgga, ea2⟩
    have oa := own_ext o4 ea2
    skip
    refine EL.h (Hv.append1 (B := w1.heap.size) rfl rfl rfl rfl rfl oa (At.cell hga rfl) rfl (by omega) (by omega) (Nat.le_trans hE4.size ea2.size)) rfl (fun _ => rfl) ?_
    rintro s8 a3 ⟨h8, gra, bla⟩
    have hE8 : Ext w1 a3 := Below.trans (hE4.trans ea2) bla
    repeat' (first
      | refine EL.f (FV.move rfl) rfl rfl ?_
      | refine EL.f (FV.assign rfl) rfl rfl ?_
      | refine EL.f (FV.addI rfl rfl (by omega)) rfl rfl ?_
      | refine EL.nil ?_
      | refine EW.region ?_)
    exact ⟨(i + 1, s8), ⟨rfl, rfl, rfl, trivial⟩, ⟨by dsimp only; omega, okW_next hlt hok (by rw [hw1]; rfl), own_next hlt hw1 h8, hE8⟩, by dsimp only; omega⟩
set_option maxHeartbeats 8000000 in
theorem implReadList (l : List UInt8) (hl : l.length ≤ 1048576) (w : World) (hw : RdW w) : CallsR Tryd.prog 21 [.string (str l), .string (str [32]), .int .i64 13, .int .i64 0, .int .i64 1000002] w fun v w' =>
    ((l = [] ∧ LRes w.heap.size w' true [] v) ∨ (l ≠ [] ∧ LRes w.heap.size w' (decide (okW (cut l) = true ∧ (cut l).length ≤ 13)) (vals (cut l)) v)) ∧ Ext w w' := by
  refine CallsR.enter Tryd.func21 (by decide +kernel) rfl Tryd.ntmps21 rfl ?_
  have hcl := cut_le l
  have hcp := cut_pos l
  repeat' (first
    | refine EL.f (FV.assign rfl) rfl rfl ?_
    | refine EL.nil ?_
    | refine EW.seq ?_
    | refine EW.region ?_)
  refine EL.h (Hv.build0 rfl rfl) rfl (fun _ => rfl) ?_
  rintro s0 w1 ⟨ho1, he1⟩
  have e0 : (ByteArray.mk #[]) = str [] := rfl
  by_cases hnil : l = []
  · repeat' (first
      | refine EL.f (FV.eqlT (m := []) rfl rfl hnil) rfl rfl ?_
      | refine EL.f (FV.move rfl) rfl rfl ?_
      | refine EL.f (FV.assign rfl) rfl rfl ?_
      | refine EL.nil ?_
      | refine EW.seq ?_
      | refine EW.region ?_
      | refine EW.ret ?_
      | refine EW.condT rfl ?_)
    exact ⟨_, rfl, .inl ⟨hnil, s0, rfl, fun _ => ho1⟩, he1⟩
  repeat' (first
    | refine EL.f (FV.eqlF (m := []) rfl rfl hnil) rfl rfl ?_
    | refine EL.f (FV.move rfl) rfl rfl ?_
    | refine EL.f (FV.assign rfl) rfl rfl ?_
    | refine EL.nil ?_
    | refine EW.seq ?_
    | refine EW.region ?_
    | refine EW.skip ?_
    | refine EW.condF rfl ?_)
  refine EL.h (Hv.call (splitC l hl w1 (hw.ext he1)) rfl) rfl (fun _ => rfl) ?_
  rintro _ w2 ⟨g2, rfl, hg2, hat2, he2⟩
  have hE2 := he1.trans he2
  have ho2 := own_ext ho1 he2
  have hfar : ¬ s0.ownBlock = some g2 := fun e => by have := (World.ownsRow.lt ho1 g2 e).2; omega
  repeat' (first
    | refine EL.f (FV.move rfl) rfl rfl ?_
    | refine EL.f (FV.len rfl rfl) rfl rfl ?_
    | refine EL.nil ?_
    | refine EW.block ?_)
  refine EW.loop (X := Nat × Value) (fun y wr => y.1 ≤ (cut l).length ∧ y.1 ≤ 13 ∧ okW ((cut l).take y.1) = true ∧ OwnI w.heap.size wr y.2 (vals ((cut l).take y.1)) ∧ Ext w wr ∧ At wr 9 1 g2 (cut l).length (cut l).length (strs (cut l)) ∧ ¬ y.2.ownBlock = some g2) (fun y => [(2, .int .i64 13), (3, .int .i64 0), (4, .int .i64 1000002), (12, y.2), (23, .slice (some ⟨g2, 0, none⟩) (cut l).length (cut l).length), (24, .int .i64 ((cut l).length : Int)), (25, .int .i64 (y.1 : Int))]) (fun y => (cut l).length - y.1) (0, s0) ⟨Nat.zero_le _, Nat.zero_le _, rfl, ho2, hE2, hat2, hfar⟩ ⟨rfl, rfl, rfl, rfl, rfl, rfl, rfl, trivial⟩ ?_
  rintro ⟨i, s⟩ wr ⟨hi, hi13, hok, hown, hE, hat, hne⟩
  dsimp only at *
  have hvl := vals_take hi
  by_cases hlt : i < (cut l).length
  rotate_left
  · obtain rfl : i = (cut l).length := by omega
    rw [List.take_length] at hok hown
    repeat' (first
      | refine EL.f (FV.move rfl) rfl rfl ?_
      | refine EL.f (FV.assign rfl) rfl rfl ?_
      | refine EL.fF (FV.lss rfl rfl) rfl (fun _ => rfl) (by omega) ?_
      | refine EL.nil ?_
      | refine EW.seq ?_
      | refine EW.region ?_
      | refine EW.exit ?_
      | refine EW.ret ?_
      | refine EW.condF rfl ?_)
    exact ⟨_, rfl, .inr ⟨hnil, s, by rw [decide_eq_true ⟨hok, hi13⟩], fun _ => hown⟩, hE⟩
  have hc := At.cell hat (strs_get hlt)
  have hlen := cut_getD_le l hlt
  obtain ⟨SA, sc, rfl, _⟩ := hown.form
  repeat' (first
    | (show EL _ _ _ _ (_ :: _) _ _
       first
       | (show EL _ _ _ _ (⟨_, .indexAddr _ _ _, _, _, _, _⟩ :: _) _ _; refine EL.f (FV.idx0 rfl rfl rfl rfl (by omega) (by omega)) rfl rfl ?_)
       | (show EL _ _ _ _ (⟨_, .load _ _, _, _, _, _⟩ :: _) _ _; refine EL.f (FV.load1 rfl rfl rfl (hc)) rfl rfl ?_)
       | (show EL _ _ _ _ (⟨_, .move _, _, _, _, _⟩ :: _) _ _; refine EL.f (FV.move rfl) rfl rfl ?_)
       | (show EL _ _ _ _ (⟨_, .assign _, _, _, _, _⟩ :: _) _ _; refine EL.f (FV.assign rfl) rfl rfl ?_)
       | (show EL _ _ _ _ (⟨_, .binOp .lss _ _ _ _, _, _, _, _⟩ :: _) _ _; refine EL.fT (FV.lss rfl rfl) rfl (fun _ => rfl) (by omega) ?_))
    | refine EL.nil ?_
    | refine EW.seq ?_
    | refine EW.region ?_
    | refine EW.block ?_
    | refine EW.skip ?_
    | refine EW.condT rfl ?_)
  refine EL.h (Hv.call (implReadDecimal ((cut l).getD i []) (by omega) wr (hw.ext hE)) rfl) rfl (fun _ => rfl) ?_
  rintro _ w4 ⟨⟨x, bb, rfl, hbb, hx⟩, he4⟩
  have hE4 := hE.trans he4
  cases hd : wv ((cut l).getD i []) with
  | none =>
    rw [hd] at hbb
    obtain rfl : bb = false := hbb
    have hbad := okW_bad hlt (show (wv ((cut l).getD i [])).isSome = false by rw [hd]; rfl)
    have hdec : decide (okW (cut l) = true ∧ (cut l).length ≤ 13) = false := decide_eq_false fun e => by rw [hbad] at e; cases e.1
    repeat' (first
      | (show EL _ _ _ _ (_ :: _) _ _
         first
         | (show EL _ _ _ _ (⟨_, _, _, _, _, some _⟩ :: _) _ _; refine EL.skip rfl rfl ?_)
         | (show EL _ _ _ _ (⟨_, .move _, _, _, _, _⟩ :: _) _ _; refine EL.f (FV.move rfl) rfl rfl ?_)
         | (show EL _ _ _ _ (⟨_, .assign _, _, _, _, _⟩ :: _) _ _; refine EL.f (FV.assign rfl) rfl rfl ?_)
         | (show EL _ _ _ _ (⟨_, .extract _ _, _, _, _, _⟩ :: _) _ _; refine EL.f (FV.extract rfl rfl) rfl rfl ?_)
         | (show EL _ _ _ _ (⟨_, .unOp .not _ _, _, _, _, _⟩ :: _) _ _; refine EL.f (FV.not rfl) rfl rfl ?_)
         | (show EL _ _ _ _ (⟨_, .pick _ _ _, _, _, _, _⟩ :: _) _ _; refine EL.f (FV.pickT rfl rfl) rfl rfl ?_))
      | refine EL.nil ?_
      | refine EW.seq ?_
      | refine EW.region ?_
      | refine EW.ret ?_
      | refine EW.condT rfl ?_)
    exact ⟨_, rfl, .inr ⟨hnil, _, by rw [hdec], fun e => by rw [hdec] at e; cases e⟩, hE4⟩
  | some m =>
    rw [hd] at hbb
    obtain rfl : bb = true := hbb
    obtain rfl := hx m hd
    by_cases h13 : i = 13
    · have hdec : decide (okW (cut l) = true ∧ (cut l).length ≤ 13) = false := decide_eq_false fun e => by have := e.2; omega
      repeat' (first
        | (show EL _ _ _ _ (_ :: _) _ _
           first
           | (show EL _ _ _ _ (⟨_, .move _, _, _, _, _⟩ :: _) _ _; refine EL.f (FV.move rfl) rfl rfl ?_)
           | (show EL _ _ _ _ (⟨_, .assign _, _, _, _, _⟩ :: _) _ _; refine EL.f (FV.assign rfl) rfl rfl ?_)
           | (show EL _ _ _ _ (⟨_, .extract _ _, _, _, _, _⟩ :: _) _ _; refine EL.f (FV.extract rfl rfl) rfl rfl ?_)
           | (show EL _ _ _ _ (⟨_, .call _, _, _, _, _⟩ :: _) _ _; refine EL.f (FV.len rfl rfl) rfl rfl ?_)
           | (show EL _ _ _ _ (⟨_, .unOp .not _ _, _, _, _, _⟩ :: _) _ _; refine EL.f (FV.not rfl) rfl rfl ?_)
           | (show EL _ _ _ _ (⟨_, .pick _ _ _, _, _, _, _⟩ :: _) _ _; refine EL.f (FV.pickF rfl rfl) rfl rfl ?_)
           | (show EL _ _ _ _ (⟨_, .binOp .eql _ _ _ _, _, _, _, _⟩ :: _) _ _; refine EL.fT (FV.eql rfl rfl) rfl (fun _ => rfl) (by omega) ?_))
        | refine EL.nil ?_
        | refine EW.seq ?_
        | refine EW.region ?_
        | refine EW.ret ?_
        | refine EW.condT rfl ?_)
      exact ⟨_, rfl, .inr ⟨hnil, _, by rw [hdec], fun e => by rw [hdec] at e; cases e⟩, hE4⟩
    have o4 := own_ext hown he4
    have a4 := At.ext hat he4
    repeat' (first
      | (show EL _ _ _ _ (_ :: _) _ _
         first
         | (show EL _ _ _ _ (⟨_, .move _, _, _, _, _⟩ :: _) _ _; refine EL.f (FV.move rfl) rfl rfl ?_)
         | (show EL _ _ _ _ (⟨_, .assign _, _, _, _, _⟩ :: _) _ _; refine EL.f (FV.assign rfl) rfl rfl ?_)
         | (show EL _ _ _ _ (⟨_, .extract _ _, _, _, _, _⟩ :: _) _ _; refine EL.f (FV.extract rfl rfl) rfl rfl ?_)
         | (show EL _ _ _ _ (⟨_, .call _, _, _, _, _⟩ :: _) _ _; refine EL.f (FV.len rfl rfl) rfl rfl ?_)
         | (show EL _ _ _ _ (⟨_, .unOp .not _ _, _, _, _, _⟩ :: _) _ _; refine EL.f (FV.not rfl) rfl rfl ?_)
         | (show EL _ _ _ _ (⟨_, .pick _ _ _, _, _, _, _⟩ :: _) _ _; refine EL.f (FV.pickF rfl rfl) rfl rfl ?_)
         | (show EL _ _ _ _ (⟨_, .binOp .eql _ _ _ _, _, _, _, _⟩ :: _) _ _; refine EL.fF (FV.eql rfl rfl) rfl (fun _ => rfl) (by omega) ?_))
      | refine EL.nil ?_
      | refine EW.seq ?_
      | refine EW.region ?_
      | refine EW.skip ?_
      | refine EW.condF rfl ?_)
    refine EL.h (Hv.build1S rfl rfl rfl rfl) rfl (fun _ => rfl) ?_
    rintro _ a2 ⟨ga, rfl, hga, hgga, ea2⟩
    have oa := own_ext o4 ea2
    have aa := At.ext a4 ea2
    have la := At.lt aa
    skip
    refine EL.h (Hv.appendW (B := w.heap.size) rfl rfl rfl rfl rfl oa (At.cell hga rfl) rfl (by omega) (by omega) (Nat.le_trans hE4.size ea2.size)) rfl (fun _ => rfl) ?_
    rintro s8 a3 ⟨h8, gra, bla, hwh⟩
    have hE8 : Ext w a3 := Below.trans (hE4.trans ea2) bla
    have aa3 := At.kept aa gra (fun e => hne e.symm)
    repeat' (first
      | refine EL.f (FV.move rfl) rfl rfl ?_
      | refine EL.f (FV.assign rfl) rfl rfl ?_
      | refine EL.f (FV.addI rfl rfl (by omega)) rfl rfl ?_
      | refine EL.nil ?_
      | refine EW.region ?_)
    exact ⟨(i + 1, s8), ⟨rfl, rfl, rfl, rfl, rfl, rfl, rfl, trivial⟩, ⟨by dsimp only; omega, by dsimp only; omega, okW_next hlt hok (by rw [hd]; rfl), own_next hlt hd h8, hE8, aa3, by
      dsimp only
      rcases hwh with e | e
      · rw [e]; exact hne
      · rw [e]
        intro e'
        injection e' with e'
        omega⟩, by dsimp only; omega⟩
/-! both functions -/
theorem specReadSeries (l : List UInt8) (hl : l.length ≤ 1048576) (w : World) : CallsR Tryd.prog 6 [.string (str l)] w (SerOut w (fRead l)) := by
  refine CallsR.enter Tryd.func6 (by decide +kernel) rfl Tryd.ntmps6 rfl ?_
  have hcl := cut_le l
  repeat' (first
    | refine EL.f (FV.move rfl) rfl rfl ?_
    | refine EL.f (FV.assign rfl) rfl rfl ?_
    | refine EL.nil ?_
    | refine EW.seq ?_
    | refine EW.region ?_)
  refine EL.h (Hv.call (specReadList l hl w) rfl) rfl (fun _ => rfl) ?_
  rintro _ w1 ⟨⟨s, rfl, hs⟩, he1⟩
  cases hok : okW (cut l) with
  | false =>
    have hf : fRead l = ([], 5) := if_neg fun e => by rw [hok] at e; cases e.1
    rw [hok] at hs
    repeat' (first
      | (show EL _ _ _ _ (_ :: _) _ _
         first
         | (show EL _ _ _ _ (⟨_, _, _, _, _, some _⟩ :: _) _ _; refine EL.skip rfl rfl ?_)
         | (show EL _ _ _ _ (⟨_, .buildSlice _ _ _, _, _, _, _⟩ :: _) _ _; (refine EL.h (Hv.build0 rfl rfl) rfl (fun _ => rfl) ?_; rintro sz w5 ⟨ho5, he5⟩))
         | (show EL _ _ _ _ (⟨_, .move _, _, _, _, _⟩ :: _) _ _; refine EL.f (FV.move rfl) rfl rfl ?_)
         | (show EL _ _ _ _ (⟨_, .assign _, _, _, _, _⟩ :: _) _ _; refine EL.f (FV.assign rfl) rfl rfl ?_)
         | (show EL _ _ _ _ (⟨_, .extract _ _, _, _, _, _⟩ :: _) _ _; refine EL.f (FV.extract rfl rfl) rfl rfl ?_)
         | (show EL _ _ _ _ (⟨_, .unOp .not _ _, _, _, _, _⟩ :: _) _ _; refine EL.f (FV.not rfl) rfl rfl ?_)
         | (show EL _ _ _ _ (⟨_, .pick _ _ _, _, _, _, _⟩ :: _) _ _; refine EL.f (FV.pickT rfl rfl) rfl rfl ?_))
      | refine EL.nil ?_
      | refine EW.seq ?_
      | refine EW.region ?_
      | refine EW.ret ?_
      | refine EW.condT rfl ?_)
    rw [hf]
    exact ⟨_, rfl, sz, rfl, OwnI.lower ho5 he1.size, he1.trans he5⟩
  | true =>
    rw [hok] at hs
    have hown := hs rfl
    obtain ⟨A, c, rfl, hrd⟩ := hown.form
    have hv := vals_vld (cut_pos l)
    have hvl := vals_length (cut l)
    by_cases h13 : (cut l).length ≤ 13
    · have hf : fRead l = (vals (cut l), 0) := if_pos ⟨hok, h13⟩
      rw [decide_eq_true h13] at hv
      have hcall := specOk A c (vals (cut l)) w1 hrd (by omega)
      rw [hv] at hcall
      repeat' (first
        | (show EL _ _ _ _ (_ :: _) _ _
           first
           | (show EL _ _ _ _ (⟨_, .call _, _, _, _, _⟩ :: _) _ _; (refine EL.h (Hv.call hcall rfl) rfl (fun _ => rfl) ?_; rintro _ _ ⟨rfl, rfl⟩))
           | (show EL _ _ _ _ (⟨_, .move _, _, _, _, _⟩ :: _) _ _; refine EL.f (FV.move rfl) rfl rfl ?_)
           | (show EL _ _ _ _ (⟨_, .assign _, _, _, _, _⟩ :: _) _ _; refine EL.f (FV.assign rfl) rfl rfl ?_)
           | (show EL _ _ _ _ (⟨_, .extract _ _, _, _, _, _⟩ :: _) _ _; refine EL.f (FV.extract rfl rfl) rfl rfl ?_)
           | (show EL _ _ _ _ (⟨_, .unOp .not _ _, _, _, _, _⟩ :: _) _ _; refine EL.f (FV.not rfl) rfl rfl ?_)
           | (show EL _ _ _ _ (⟨_, .pick _ _ _, _, _, _, _⟩ :: _) _ _; refine EL.f (FV.pickF rfl rfl) rfl rfl ?_))
        | refine EL.nil ?_
        | refine EW.seq ?_
        | refine EW.region ?_
        | refine EW.skip ?_
        | refine EW.ret ?_
        | refine EW.condF rfl ?_)
      rw [hf]
      exact ⟨_, rfl, _, rfl, hown, he1⟩
    · have hf : fRead l = ([], 5) := if_neg fun e => h13 e.2
      rw [decide_eq_false h13] at hv
      have hcall := specOk A c (vals (cut l)) w1 hrd (by omega)
      rw [hv] at hcall
      repeat' (first
        | (show EL _ _ _ _ (_ :: _) _ _
           first
           | (show EL _ _ _ _ (⟨_, .call _, _, _, _, _⟩ :: _) _ _; (refine EL.h (Hv.call hcall rfl) rfl (fun _ => rfl) ?_; rintro _ _ ⟨rfl, rfl⟩))
           | (show EL _ _ _ _ (⟨_, .buildSlice _ _ _, _, _, _, _⟩ :: _) _ _; (refine EL.h (Hv.build0 rfl rfl) rfl (fun _ => rfl) ?_; rintro sz w5 ⟨ho5, he5⟩))
           | (show EL _ _ _ _ (⟨_, .move _, _, _, _, _⟩ :: _) _ _; refine EL.f (FV.move rfl) rfl rfl ?_)
           | (show EL _ _ _ _ (⟨_, .assign _, _, _, _, _⟩ :: _) _ _; refine EL.f (FV.assign rfl) rfl rfl ?_)
           | (show EL _ _ _ _ (⟨_, .extract _ _, _, _, _, _⟩ :: _) _ _; refine EL.f (FV.extract rfl rfl) rfl rfl ?_)
           | (show EL _ _ _ _ (⟨_, .unOp .not _ _, _, _, _, _⟩ :: _) _ _; refine EL.f (FV.not rfl) rfl rfl ?_)
           | (show EL _ _ _ _ (⟨_, .pick _ _ _, _, _, _, _⟩ :: _) _ _; refine EL.f (FV.pickF rfl rfl) rfl rfl ?_))
        | refine EL.nil ?_
        | refine EW.seq ?_
        | refine EW.region ?_
        | refine EW.ret ?_
        | refine EW.condT rfl ?_)
      rw [hf]
      exact ⟨_, rfl, sz, rfl, OwnI.lower ho5 he1.size, he1.trans he5⟩
theorem SerOut.nilX {w w' : World} (k : Int) (he : Ext w w') : SerOut w ([], k) (.tuple #[.slice none 0 0, .int .i64 k]) w' := ⟨_, rfl, ⟨rfl, .inl ⟨rfl, rfl⟩⟩, he⟩
theorem implReadSeries (l : List UInt8) (hl : l.length ≤ 1048576) (w : World) (hw : RdW w) : CallsR Tryd.prog 7 [.string (str l)] w (SerOut w (fRead l)) := by
  refine CallsR.enter Tryd.func7 (by decide +kernel) rfl Tryd.ntmps7 rfl ?_
  repeat' (first
    | refine EL.f (FV.move rfl) rfl rfl ?_
    | refine EL.f (FV.assign rfl) rfl rfl ?_
    | refine EL.nil ?_
    | refine EW.seq ?_
    | refine EW.region ?_)
  refine EL.h (Hv.call (implReadList l hl w hw) rfl) rfl (fun _ => rfl) ?_
  rintro _ w1 ⟨⟨hnil, s, rfl, hs⟩ | ⟨hnil, s, rfl, hs⟩, he1⟩
  · subst hnil
    have hf : fRead [] = ([], 5) := if_neg fun e => by rw [cut_nil_bad] at e; cases e.1
    obtain ⟨A, c, rfl, hrd⟩ := (hs rfl).form
    have e0 : ([] : List Int).length = 0 := rfl
    repeat' (first
      | (show EL _ _ _ _ (_ :: _) _ _
         first
         | (show EL _ _ _ _ (⟨_, .move _, _, _, _, _⟩ :: _) _ _; refine EL.f (FV.move rfl) rfl rfl ?_)
         | (show EL _ _ _ _ (⟨_, .assign _, _, _, _, _⟩ :: _) _ _; refine EL.f (FV.assign rfl) rfl rfl ?_)
         | (show EL _ _ _ _ (⟨_, .extract _ _, _, _, _, _⟩ :: _) _ _; refine EL.f (FV.extract rfl rfl) rfl rfl ?_)
         | (show EL _ _ _ _ (⟨_, .call _, _, _, _, _⟩ :: _) _ _; refine EL.f (FV.len rfl rfl) rfl rfl ?_)
         | (show EL _ _ _ _ (⟨_, .unOp .not _ _, _, _, _, _⟩ :: _) _ _; refine EL.f (FV.not rfl) rfl rfl ?_)
         | (show EL _ _ _ _ (⟨_, .pick _ _ _, _, _, _, _⟩ :: _) _ _; refine EL.f (FV.pickF rfl rfl) rfl rfl ?_)
         | (show EL _ _ _ _ (⟨_, .binOp .eql _ _ _ _, _, _, _, _⟩ :: _) _ _; refine EL.fT (FV.eql rfl rfl) rfl (fun _ => rfl) (by omega) ?_))
      | refine EL.nil ?_
      | refine EW.seq ?_
      | refine EW.region ?_
      | refine EW.ret ?_
      | refine EW.condT rfl ?_)
    rw [hf]
    exact ⟨_, rfl, SerOut.nilX 5 he1⟩
  · by_cases hall : okW (cut l) = true ∧ (cut l).length ≤ 13
    · have hf : fRead l = (vals (cut l), 0) := if_pos hall
      rw [decide_eq_true hall] at hs ⊢
      have hown := hs rfl
      obtain ⟨A, c, rfl, hrd⟩ := hown.form
      have hvl := vals_length (cut l)
      have hcp := cut_pos l
      repeat' (first
        | (show EL _ _ _ _ (_ :: _) _ _
           first
           | (show EL _ _ _ _ (⟨_, .move _, _, _, _, _⟩ :: _) _ _; refine EL.f (FV.move rfl) rfl rfl ?_)
           | (show EL _ _ _ _ (⟨_, .assign _, _, _, _, _⟩ :: _) _ _; refine EL.f (FV.assign rfl) rfl rfl ?_)
           | (show EL _ _ _ _ (⟨_, .extract _ _, _, _, _, _⟩ :: _) _ _; refine EL.f (FV.extract rfl rfl) rfl rfl ?_)
           | (show EL _ _ _ _ (⟨_, .call _, _, _, _, _⟩ :: _) _ _; refine EL.f (FV.len rfl rfl) rfl rfl ?_)
           | (show EL _ _ _ _ (⟨_, .unOp .not _ _, _, _, _, _⟩ :: _) _ _; refine EL.f (FV.not rfl) rfl rfl ?_)
           | (show EL _ _ _ _ (⟨_, .pick _ _ _, _, _, _, _⟩ :: _) _ _; refine EL.f (FV.pickF rfl rfl) rfl rfl ?_)
           | (show EL _ _ _ _ (⟨_, .binOp .eql _ _ _ _, _, _, _, _⟩ :: _) _ _; refine EL.fF (FV.eql rfl rfl) rfl (fun _ => rfl) (by omega) ?_))
        | refine EL.nil ?_
        | refine EW.seq ?_
        | refine EW.region ?_
        | refine EW.skip ?_
        | refine EW.ret ?_
        | refine EW.condF rfl ?_)
      rw [hf]
      exact ⟨_, rfl, _, rfl, hown, he1⟩
    · have hf : fRead l = ([], 5) := if_neg hall
      rw [decide_eq_false hall]
      repeat' (first
        | (show EL _ _ _ _ (_ :: _) _ _
           first
           | (show EL _ _ _ _ (⟨_, _, _, _, _, some _⟩ :: _) _ _; refine EL.skip rfl rfl ?_)
           | (show EL _ _ _ _ (⟨_, .move _, _, _, _, _⟩ :: _) _ _; refine EL.f (FV.move rfl) rfl rfl ?_)
           | (show EL _ _ _ _ (⟨_, .assign _, _, _, _, _⟩ :: _) _ _; refine EL.f (FV.assign rfl) rfl rfl ?_)
           | (show EL _ _ _ _ (⟨_, .extract _ _, _, _, _, _⟩ :: _) _ _; refine EL.f (FV.extract rfl rfl) rfl rfl ?_)
           | (show EL _ _ _ _ (⟨_, .unOp .not _ _, _, _, _, _⟩ :: _) _ _; refine EL.f (FV.not rfl) rfl rfl ?_)
           | (show EL _ _ _ _ (⟨_, .pick _ _ _, _, _, _, _⟩ :: _) _ _; refine EL.f (FV.pickT rfl rfl) rfl rfl ?_))
        | refine EL.nil ?_
        | refine EW.seq ?_
        | refine EW.region ?_
        | refine EW.ret ?_
        | refine EW.condT rfl ?_)
      rw [hf]
      exact ⟨_, rfl, SerOut.nilX 5 he1⟩
end Eng
end Go.Proofs.YtogljflccfoaeaaDoor
