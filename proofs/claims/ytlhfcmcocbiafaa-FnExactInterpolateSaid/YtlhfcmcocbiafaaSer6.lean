/- Derivatives, integrals and logarithms of series: contracts and laws. Conditions: as each says. -/
import Derived.Test.YtlhfcmcocbiafaaSer3
namespace Go.Proofs.Ytlhfcmcocbiafaa
open Go Go.RowKit
namespace Eng

def constL (n : Int) (m : Nat) : List Int := (List.replicate m 0).set 0 n
theorem constL_length (n : Int) (m : Nat) : (constL n m).length = m := by simp [constL]
theorem constL_zero (m : Nat) : constL 0 m = List.replicate m 0 := by
  cases m with
  | zero => rfl
  | succ m => simp [constL, List.replicate_succ]
theorem specConst (n : Int) (m : Nat) (hm : m ≤ 1000) (w : World) :
    CallsR Try.prog 74 [.int .i64 n, .int .i64 m] w fun v w' => ∃ g, v = .slice (some ⟨g, 0, none⟩) m m ∧ w.heap.size ≤ g ∧ AtI w' g m (constL n m) ∧ Ext w w' := by
  refine CallsR.enter Try.func74 (by decide +kernel) rfl Try.ntmps74 rfl ?_
  repeat' (first
    | (refine EL.h (Hv.make (kl := .i64) rfl rfl rfl rfl (by omega) (by omega)) rfl (fun _ => rfl) ?_; rintro _ w1 ⟨g, rfl, hg, hat, he⟩)
    | refine EW.seq ?_
    | refine EL.f (FV.move rfl) rfl rfl ?_
    | refine EL.f (FV.assign rfl) rfl rfl ?_
    | refine EL.nil ?_
    | refine EW.region ?_
    | refine EW.block ?_
    | refine EW.skip ?_
    | refine EW.exit ?_
    | refine EW.ret ?_
    | refine EW.condT rfl ?_
    | refine EW.condF rfl ?_
    | refine EL.f (FV.addI rfl rfl (by omega)) rfl rfl ?_
    | refine EL.f (FV.subI rfl rfl (by omega)) rfl rfl ?_
    | refine EL.f (FV.remI rfl rfl (by decide) (by omega)) rfl rfl ?_
    | refine EL.f (FV.quoI rfl rfl (by decide) (by omega)) rfl rfl ?_
    | refine EL.f (FV.extract rfl rfl) rfl rfl ?_
    | refine EL.f (FV.len rfl rfl) rfl rfl ?_
    | refine EL.f (FV.lenS rfl rfl) rfl rfl ?_
    | refine EL.f (FV.not rfl) rfl rfl ?_
    | refine EL.skip rfl rfl ?_
    | refine EL.f (FV.pickT rfl rfl) rfl rfl ?_
    | refine EL.f (FV.pickF rfl rfl) rfl rfl ?_
    | refine EL.fT (FV.lss rfl rfl) rfl (fun _ => rfl) (by omega) ?_
    | refine EL.fT (FV.leq rfl rfl) rfl (fun _ => rfl) (by omega) ?_
    | refine EL.fT (FV.gtr rfl rfl) rfl (fun _ => rfl) (by omega) ?_
    | refine EL.fT (FV.geq rfl rfl) rfl (fun _ => rfl) (by omega) ?_
    | refine EL.fT (FV.eql rfl rfl) rfl (fun _ => rfl) (by omega) ?_
    | refine EL.fT (FV.neq rfl rfl) rfl (fun _ => rfl) (by omega) ?_
    | refine EL.fF (FV.lss rfl rfl) rfl (fun _ => rfl) (by omega) ?_
    | refine EL.fF (FV.leq rfl rfl) rfl (fun _ => rfl) (by omega) ?_
    | refine EL.fF (FV.gtr rfl rfl) rfl (fun _ => rfl) (by omega) ?_
    | refine EL.fF (FV.geq rfl rfl) rfl (fun _ => rfl) (by omega) ?_
    | refine EL.fF (FV.eql rfl rfl) rfl (fun _ => rfl) (by omega) ?_
    | refine EL.fF (FV.neq rfl rfl) rfl (fun _ => rfl) (by omega) ?_
    | refine EL.f (FV.rem rfl rfl (by decide)) rfl rfl ?_
    | refine EL.f (FV.idx0 rfl rfl rfl rfl (by omega) (by omega)) rfl rfl ?_
    | refine EL.f (FV.idx1 rfl rfl rfl rfl (by omega) (by omega)) rfl rfl ?_
    | refine EL.f (FV.load1 rfl rfl rfl (by assumption)) rfl rfl ?_)
  rw [madeInts] at hat
  replace hat : AtI w1 g m (List.replicate m 0) := by unfold AtI; rw [List.length_replicate]; exact hat
  by_cases h0 : 0 < m
  · have hkk : 0 < (List.replicate m (0 : Int)).length := by rw [List.length_replicate]; exact h0
    repeat' (first
      | (refine EL.h (Hv.storeAt rfl rfl rfl rfl rfl hat (ints_get hkk)) rfl (fun _ => rfl) ?_; rintro _ _ ⟨rfl, _⟩)
      | refine EW.seq ?_
      | refine EL.f (FV.move rfl) rfl rfl ?_
      | refine EL.f (FV.assign rfl) rfl rfl ?_
      | refine EL.nil ?_
      | refine EW.region ?_
      | refine EW.block ?_
      | refine EW.skip ?_
      | refine EW.exit ?_
      | refine EW.ret ?_
      | refine EW.condT rfl ?_
      | refine EW.condF rfl ?_
      | refine EL.f (FV.addI rfl rfl (by omega)) rfl rfl ?_
      | refine EL.f (FV.subI rfl rfl (by omega)) rfl rfl ?_
      | refine EL.f (FV.remI rfl rfl (by decide) (by omega)) rfl rfl ?_
      | refine EL.f (FV.quoI rfl rfl (by decide) (by omega)) rfl rfl ?_
      | refine EL.f (FV.extract rfl rfl) rfl rfl ?_
      | refine EL.f (FV.len rfl rfl) rfl rfl ?_
      | refine EL.f (FV.lenS rfl rfl) rfl rfl ?_
      | refine EL.f (FV.not rfl) rfl rfl ?_
      | refine EL.skip rfl rfl ?_
      | refine EL.f (FV.pickT rfl rfl) rfl rfl ?_
      | refine EL.f (FV.pickF rfl rfl) rfl rfl ?_
      | refine EL.fT (FV.lss rfl rfl) rfl (fun _ => rfl) (by omega) ?_
      | refine EL.fT (FV.leq rfl rfl) rfl (fun _ => rfl) (by omega) ?_
      | refine EL.fT (FV.gtr rfl rfl) rfl (fun _ => rfl) (by omega) ?_
      | refine EL.fT (FV.geq rfl rfl) rfl (fun _ => rfl) (by omega) ?_
      | refine EL.fT (FV.eql rfl rfl) rfl (fun _ => rfl) (by omega) ?_
      | refine EL.fT (FV.neq rfl rfl) rfl (fun _ => rfl) (by omega) ?_
      | refine EL.fF (FV.lss rfl rfl) rfl (fun _ => rfl) (by omega) ?_
      | refine EL.fF (FV.leq rfl rfl) rfl (fun _ => rfl) (by omega) ?_
      | refine EL.fF (FV.gtr rfl rfl) rfl (fun _ => rfl) (by omega) ?_
      | refine EL.fF (FV.geq rfl rfl) rfl (fun _ => rfl) (by omega) ?_
      | refine EL.fF (FV.eql rfl rfl) rfl (fun _ => rfl) (by omega) ?_
      | refine EL.fF (FV.neq rfl rfl) rfl (fun _ => rfl) (by omega) ?_
      | refine EL.f (FV.rem rfl rfl (by decide)) rfl rfl ?_
      | refine EL.f (FV.idx0 rfl rfl rfl rfl (by omega) (by omega)) rfl rfl ?_
      | refine EL.f (FV.idx1 rfl rfl rfl rfl (by omega) (by omega)) rfl rfl ?_
      | refine EL.f (FV.load1 rfl rfl rfl (by assumption)) rfl rfl ?_)
    exact ⟨_, rfl, g, rfl, by omega, AtI.set_ hat n, Below.set_ he (by omega) _⟩
  · obtain rfl : m = 0 := by omega
    repeat' (first
      | refine EW.seq ?_
      | refine EL.f (FV.move rfl) rfl rfl ?_
      | refine EL.f (FV.assign rfl) rfl rfl ?_
      | refine EL.nil ?_
      | refine EW.region ?_
      | refine EW.block ?_
      | refine EW.skip ?_
      | refine EW.exit ?_
      | refine EW.ret ?_
      | refine EW.condT rfl ?_
      | refine EW.condF rfl ?_
      | refine EL.f (FV.addI rfl rfl (by omega)) rfl rfl ?_
      | refine EL.f (FV.subI rfl rfl (by omega)) rfl rfl ?_
      | refine EL.f (FV.remI rfl rfl (by decide) (by omega)) rfl rfl ?_
      | refine EL.f (FV.quoI rfl rfl (by decide) (by omega)) rfl rfl ?_
      | refine EL.f (FV.extract rfl rfl) rfl rfl ?_
      | refine EL.f (FV.len rfl rfl) rfl rfl ?_
      | refine EL.f (FV.lenS rfl rfl) rfl rfl ?_
      | refine EL.f (FV.not rfl) rfl rfl ?_
      | refine EL.skip rfl rfl ?_
      | refine EL.f (FV.pickT rfl rfl) rfl rfl ?_
      | refine EL.f (FV.pickF rfl rfl) rfl rfl ?_
      | refine EL.fT (FV.lss rfl rfl) rfl (fun _ => rfl) (by omega) ?_
      | refine EL.fT (FV.leq rfl rfl) rfl (fun _ => rfl) (by omega) ?_
      | refine EL.fT (FV.gtr rfl rfl) rfl (fun _ => rfl) (by omega) ?_
      | refine EL.fT (FV.geq rfl rfl) rfl (fun _ => rfl) (by omega) ?_
      | refine EL.fT (FV.eql rfl rfl) rfl (fun _ => rfl) (by omega) ?_
      | refine EL.fT (FV.neq rfl rfl) rfl (fun _ => rfl) (by omega) ?_
      | refine EL.fF (FV.lss rfl rfl) rfl (fun _ => rfl) (by omega) ?_
      | refine EL.fF (FV.leq rfl rfl) rfl (fun _ => rfl) (by omega) ?_
      | refine EL.fF (FV.gtr rfl rfl) rfl (fun _ => rfl) (by omega) ?_
      | refine EL.fF (FV.geq rfl rfl) rfl (fun _ => rfl) (by omega) ?_
      | refine EL.fF (FV.eql rfl rfl) rfl (fun _ => rfl) (by omega) ?_
      | refine EL.fF (FV.neq rfl rfl) rfl (fun _ => rfl) (by omega) ?_
      | refine EL.f (FV.rem rfl rfl (by decide)) rfl rfl ?_
      | refine EL.f (FV.idx0 rfl rfl rfl rfl (by omega) (by omega)) rfl rfl ?_
      | refine EL.f (FV.idx1 rfl rfl rfl rfl (by omega) (by omega)) rfl rfl ?_
      | refine EL.f (FV.load1 rfl rfl rfl (by assumption)) rfl rfl ?_)
    exact ⟨_, rfl, g, rfl, by omega, hat, he⟩

/-- A list whose elements from k on are 0 is filled from there on. -/
theorem filled_rest {xs : List Int} {k : Nat} (hk : k ≤ xs.length) (h : ∀ i, k ≤ i → i < xs.length → xs.getD i 0 = 0) : filled xs k xs.length = xs := by
  unfold filled
  have e : xs.drop k = List.replicate (xs.length - k) 0 := by
    apply List.ext_getElem
    · simp
    · intro i h1 h2
      simp only [List.length_drop] at h1
      have := h (k + i) (by omega) (by omega)
      rw [List.getElem_drop, List.getElem_replicate]
      rw [List.getD_eq_getElem?_getD, List.getElem?_eq_getElem (by omega)] at this
      simpa using this
  rw [← e, List.take_append_drop]

/-! derivatives -/
def derivL (xs : List Int) : List Int := mapR (fun k => if k + 1 < xs.length then ((k : Int) + 1) * xs.getD (k + 1) 0 % 1000003 else 0) xs.length
theorem derivL_length (xs : List Int) : (derivL xs).length = xs.length := mapR_length _ _
theorem nums_derivL (xs : List Int) : nums (derivL xs) = true := nums_mapR _ _ fun k _ => by split <;> omega
theorem derivL_get (xs : List Int) (k : Nat) (h : k + 1 < xs.length) : (derivL xs).getD k 0 = ((k : Int) + 1) * xs.getD (k + 1) 0 % 1000003 := by
  unfold derivL
  rw [mapR_getD _ _ _ (by omega), if_pos h]
theorem derivL_end (xs : List Int) (k : Nat) (h : xs.length ≤ k + 1) (hk : k ≤ xs.length) : filled (derivL xs) k xs.length = derivL xs := by
  have e := derivL_length xs
  have := filled_rest (xs := derivL xs) (k := k) (by omega) fun i h1 h2 => by
    unfold derivL
    rw [mapR_getD _ _ _ (by omega), if_neg (by omega)]
  rwa [e] at this
theorem implDerivative (A : Option Addr) (c : Nat) (xs : List Int) (w : World) (hx : Rd w A (ints xs)) (h0 : 1 ≤ xs.length) (hn : xs.length ≤ 1000) (nx : nums xs = true) :
    CallsR Try.prog 65 [.slice A xs.length c] w fun v w' => OwnI w.heap.size w' v (derivL xs) ∧ Ext w w' := by
  refine CallsR.enter Try.func65 (by decide +kernel) rfl Try.ntmps65 rfl ?_
  repeat' (first
    | (refine EL.h (Hv.make (kl := .i64) rfl rfl rfl rfl (by omega) (by omega)) rfl (fun _ => rfl) ?_; rintro _ w1 ⟨g, rfl, hg, hat, he⟩)
    | refine EW.seq ?_
    | refine EL.f (FV.move rfl) rfl rfl ?_
    | refine EL.f (FV.assign rfl) rfl rfl ?_
    | refine EL.nil ?_
    | refine EW.region ?_
    | refine EW.block ?_
    | refine EW.skip ?_
    | refine EW.exit ?_
    | refine EW.ret ?_
    | refine EW.condT rfl ?_
    | refine EW.condF rfl ?_
    | refine EL.f (FV.addI rfl rfl (by omega)) rfl rfl ?_
    | refine EL.f (FV.subI rfl rfl (by omega)) rfl rfl ?_
    | refine EL.f (FV.remI rfl rfl (by decide) (by omega)) rfl rfl ?_
    | refine EL.f (FV.quoI rfl rfl (by decide) (by omega)) rfl rfl ?_
    | refine EL.f (FV.extract rfl rfl) rfl rfl ?_
    | refine EL.f (FV.len rfl rfl) rfl rfl ?_
    | refine EL.f (FV.lenS rfl rfl) rfl rfl ?_
    | refine EL.f (FV.not rfl) rfl rfl ?_
    | refine EL.skip rfl rfl ?_
    | refine EL.f (FV.pickT rfl rfl) rfl rfl ?_
    | refine EL.f (FV.pickF rfl rfl) rfl rfl ?_
    | refine EL.fT (FV.lss rfl rfl) rfl (fun _ => rfl) (by omega) ?_
    | refine EL.fT (FV.leq rfl rfl) rfl (fun _ => rfl) (by omega) ?_
    | refine EL.fT (FV.gtr rfl rfl) rfl (fun _ => rfl) (by omega) ?_
    | refine EL.fT (FV.geq rfl rfl) rfl (fun _ => rfl) (by omega) ?_
    | refine EL.fT (FV.eql rfl rfl) rfl (fun _ => rfl) (by omega) ?_
    | refine EL.fT (FV.neq rfl rfl) rfl (fun _ => rfl) (by omega) ?_
    | refine EL.fF (FV.lss rfl rfl) rfl (fun _ => rfl) (by omega) ?_
    | refine EL.fF (FV.leq rfl rfl) rfl (fun _ => rfl) (by omega) ?_
    | refine EL.fF (FV.gtr rfl rfl) rfl (fun _ => rfl) (by omega) ?_
    | refine EL.fF (FV.geq rfl rfl) rfl (fun _ => rfl) (by omega) ?_
    | refine EL.fF (FV.eql rfl rfl) rfl (fun _ => rfl) (by omega) ?_
    | refine EL.fF (FV.neq rfl rfl) rfl (fun _ => rfl) (by omega) ?_
    | refine EL.f (FV.rem rfl rfl (by decide)) rfl rfl ?_
    | refine EL.f (FV.idx0 rfl rfl rfl rfl (by omega) (by omega)) rfl rfl ?_
    | refine EL.f (FV.idx1 rfl rfl rfl rfl (by omega) (by omega)) rfl rfl ?_
    | refine EL.f (FV.load1 rfl rfl rfl (by assumption)) rfl rfl ?_)
  rw [madeInts] at hat
  replace hat : AtI w1 g xs.length (List.replicate xs.length 0) := by unfold AtI; rw [List.length_replicate]; exact hat
  have hl0 := derivL_length xs
  refine EW.loop (fun k wr => k + 1 ≤ xs.length ∧ AtI wr g xs.length (filled (derivL xs) k xs.length) ∧ Below w.heap.size w wr) (fun k => [(0, .slice A xs.length c), (3, .slice (some ⟨g, 0, none⟩) xs.length xs.length), (10, .int .i64 ((xs.length : Int) - 1)), (11, .int .i64 k)]) (fun k => xs.length - k) 0 ⟨h0, by rw [filled_zero]; exact hat, he⟩ ⟨rfl, rfl, rfl, rfl, trivial⟩ ?_
  rintro k wr ⟨hk, hat, hb⟩
  have hlen := filled_length (derivL xs) k xs.length (by omega) (by omega)
  by_cases hlt : k + 1 < xs.length
  · obtain ⟨b, o, rfl, hc⟩ := hx.int hlt
    have hc' : wr.cell? ⟨b, o + ((k : Int) + 1).toNat, none⟩ = some (.int .i64 (xs.getD (k + 1) 0)) := (hb.cell (World.block_lt_of_cell? w _ hc)).trans hc
    have hm := mul_bounds (a := (k : Int) + 1) (by omega) (num_getD nx (k + 1))
    have hkk : k < (filled (derivL xs) k xs.length).length := by omega
    repeat' (first
      | refine EL.f (FV.load1 rfl rfl rfl hc') rfl rfl ?_
      | refine EL.f (FV.mulI rfl rfl (by omega)) rfl rfl ?_
      | (refine EL.h (Hv.storeAt rfl rfl rfl rfl rfl hat (ints_get hkk)) rfl (fun _ => rfl) ?_; rintro _ _ ⟨rfl, _⟩)
      | refine EW.seq ?_
      | refine EL.f (FV.move rfl) rfl rfl ?_
      | refine EL.f (FV.assign rfl) rfl rfl ?_
      | refine EL.nil ?_
      | refine EW.region ?_
      | refine EW.block ?_
      | refine EW.skip ?_
      | refine EW.exit ?_
      | refine EW.ret ?_
      | refine EW.condT rfl ?_
      | refine EW.condF rfl ?_
      | refine EL.f (FV.addI rfl rfl (by omega)) rfl rfl ?_
      | refine EL.f (FV.subI rfl rfl (by omega)) rfl rfl ?_
      | refine EL.f (FV.remI rfl rfl (by decide) (by omega)) rfl rfl ?_
      | refine EL.f (FV.quoI rfl rfl (by decide) (by omega)) rfl rfl ?_
      | refine EL.f (FV.extract rfl rfl) rfl rfl ?_
      | refine EL.f (FV.len rfl rfl) rfl rfl ?_
      | refine EL.f (FV.lenS rfl rfl) rfl rfl ?_
      | refine EL.f (FV.not rfl) rfl rfl ?_
      | refine EL.skip rfl rfl ?_
      | refine EL.f (FV.pickT rfl rfl) rfl rfl ?_
      | refine EL.f (FV.pickF rfl rfl) rfl rfl ?_
      | refine EL.fT (FV.lss rfl rfl) rfl (fun _ => rfl) (by omega) ?_
      | refine EL.fT (FV.leq rfl rfl) rfl (fun _ => rfl) (by omega) ?_
      | refine EL.fT (FV.gtr rfl rfl) rfl (fun _ => rfl) (by omega) ?_
      | refine EL.fT (FV.geq rfl rfl) rfl (fun _ => rfl) (by omega) ?_
      | refine EL.fT (FV.eql rfl rfl) rfl (fun _ => rfl) (by omega) ?_
      | refine EL.fT (FV.neq rfl rfl) rfl (fun _ => rfl) (by omega) ?_
      | refine EL.fF (FV.lss rfl rfl) rfl (fun _ => rfl) (by omega) ?_
      | refine EL.fF (FV.leq rfl rfl) rfl (fun _ => rfl) (by omega) ?_
      | refine EL.fF (FV.gtr rfl rfl) rfl (fun _ => rfl) (by omega) ?_
      | refine EL.fF (FV.geq rfl rfl) rfl (fun _ => rfl) (by omega) ?_
      | refine EL.fF (FV.eql rfl rfl) rfl (fun _ => rfl) (by omega) ?_
      | refine EL.fF (FV.neq rfl rfl) rfl (fun _ => rfl) (by omega) ?_
      | refine EL.f (FV.rem rfl rfl (by decide)) rfl rfl ?_
      | refine EL.f (FV.idx0 rfl rfl rfl rfl (by omega) (by omega)) rfl rfl ?_
      | refine EL.f (FV.idx1 rfl rfl rfl rfl (by omega) (by omega)) rfl rfl ?_
      | refine EL.f (FV.load1 rfl rfl rfl (by assumption)) rfl rfl ?_)
    refine ⟨k + 1, ⟨rfl, rfl, rfl, rfl, trivial⟩, ⟨by omega, ?_, Below.set_ hb (by omega) _⟩, by omega⟩
    have e := filled_set (derivL xs) k xs.length (by omega) (by omega)
    rw [derivL_get xs k hlt] at e
    rw [← e]
    exact AtI.set_ hat _
  · rw [derivL_end xs k (by omega) (by omega)] at hat
    repeat' (first
      | refine EW.seq ?_
      | refine EL.f (FV.move rfl) rfl rfl ?_
      | refine EL.f (FV.assign rfl) rfl rfl ?_
      | refine EL.nil ?_
      | refine EW.region ?_
      | refine EW.block ?_
      | refine EW.skip ?_
      | refine EW.exit ?_
      | refine EW.ret ?_
      | refine EW.condT rfl ?_
      | refine EW.condF rfl ?_
      | refine EL.f (FV.addI rfl rfl (by omega)) rfl rfl ?_
      | refine EL.f (FV.subI rfl rfl (by omega)) rfl rfl ?_
      | refine EL.f (FV.remI rfl rfl (by decide) (by omega)) rfl rfl ?_
      | refine EL.f (FV.quoI rfl rfl (by decide) (by omega)) rfl rfl ?_
      | refine EL.f (FV.extract rfl rfl) rfl rfl ?_
      | refine EL.f (FV.len rfl rfl) rfl rfl ?_
      | refine EL.f (FV.lenS rfl rfl) rfl rfl ?_
      | refine EL.f (FV.not rfl) rfl rfl ?_
      | refine EL.skip rfl rfl ?_
      | refine EL.f (FV.pickT rfl rfl) rfl rfl ?_
      | refine EL.f (FV.pickF rfl rfl) rfl rfl ?_
      | refine EL.fT (FV.lss rfl rfl) rfl (fun _ => rfl) (by omega) ?_
      | refine EL.fT (FV.leq rfl rfl) rfl (fun _ => rfl) (by omega) ?_
      | refine EL.fT (FV.gtr rfl rfl) rfl (fun _ => rfl) (by omega) ?_
      | refine EL.fT (FV.geq rfl rfl) rfl (fun _ => rfl) (by omega) ?_
      | refine EL.fT (FV.eql rfl rfl) rfl (fun _ => rfl) (by omega) ?_
      | refine EL.fT (FV.neq rfl rfl) rfl (fun _ => rfl) (by omega) ?_
      | refine EL.fF (FV.lss rfl rfl) rfl (fun _ => rfl) (by omega) ?_
      | refine EL.fF (FV.leq rfl rfl) rfl (fun _ => rfl) (by omega) ?_
      | refine EL.fF (FV.gtr rfl rfl) rfl (fun _ => rfl) (by omega) ?_
      | refine EL.fF (FV.geq rfl rfl) rfl (fun _ => rfl) (by omega) ?_
      | refine EL.fF (FV.eql rfl rfl) rfl (fun _ => rfl) (by omega) ?_
      | refine EL.fF (FV.neq rfl rfl) rfl (fun _ => rfl) (by omega) ?_
      | refine EL.f (FV.rem rfl rfl (by decide)) rfl rfl ?_
      | refine EL.f (FV.idx0 rfl rfl rfl rfl (by omega) (by omega)) rfl rfl ?_
      | refine EL.f (FV.idx1 rfl rfl rfl rfl (by omega) (by omega)) rfl rfl ?_
      | refine EL.f (FV.load1 rfl rfl rfl (by assumption)) rfl rfl ?_)
    refine ⟨_, rfl, ?_, hb⟩
    have := AtI.own (B := w.heap.size) hat (by omega)
    rwa [hl0] at this
theorem specDerive (A : Option Addr) (c : Nat) (xs : List Int) (w : World) (hx : Rd w A (ints xs)) (h0 : 1 ≤ xs.length) (hn : xs.length ≤ 1000) :
    CallsR Try.prog 64 [.slice A xs.length c] w fun v w' => OwnI w.heap.size w' v (derivL xs) ∧ Ext w w' := by
  refine CallsR.enter Try.func64 (by decide +kernel) rfl Try.ntmps64 rfl ?_
  repeat' (first
    | (refine EL.h (Hv.call (specConst 0 xs.length hn _) rfl) rfl (fun _ => rfl) ?_; rintro _ w1 ⟨g, rfl, hg, hat, he⟩)
    | refine EW.seq ?_
    | refine EL.f (FV.move rfl) rfl rfl ?_
    | refine EL.f (FV.assign rfl) rfl rfl ?_
    | refine EL.nil ?_
    | refine EW.region ?_
    | refine EW.block ?_
    | refine EW.skip ?_
    | refine EW.exit ?_
    | refine EW.ret ?_
    | refine EW.condT rfl ?_
    | refine EW.condF rfl ?_
    | refine EL.f (FV.addI rfl rfl (by omega)) rfl rfl ?_
    | refine EL.f (FV.subI rfl rfl (by omega)) rfl rfl ?_
    | refine EL.f (FV.remI rfl rfl (by decide) (by omega)) rfl rfl ?_
    | refine EL.f (FV.quoI rfl rfl (by decide) (by omega)) rfl rfl ?_
    | refine EL.f (FV.extract rfl rfl) rfl rfl ?_
    | refine EL.f (FV.len rfl rfl) rfl rfl ?_
    | refine EL.f (FV.lenS rfl rfl) rfl rfl ?_
    | refine EL.f (FV.not rfl) rfl rfl ?_
    | refine EL.skip rfl rfl ?_
    | refine EL.f (FV.pickT rfl rfl) rfl rfl ?_
    | refine EL.f (FV.pickF rfl rfl) rfl rfl ?_
    | refine EL.fT (FV.lss rfl rfl) rfl (fun _ => rfl) (by omega) ?_
    | refine EL.fT (FV.leq rfl rfl) rfl (fun _ => rfl) (by omega) ?_
    | refine EL.fT (FV.gtr rfl rfl) rfl (fun _ => rfl) (by omega) ?_
    | refine EL.fT (FV.geq rfl rfl) rfl (fun _ => rfl) (by omega) ?_
    | refine EL.fT (FV.eql rfl rfl) rfl (fun _ => rfl) (by omega) ?_
    | refine EL.fT (FV.neq rfl rfl) rfl (fun _ => rfl) (by omega) ?_
    | refine EL.fF (FV.lss rfl rfl) rfl (fun _ => rfl) (by omega) ?_
    | refine EL.fF (FV.leq rfl rfl) rfl (fun _ => rfl) (by omega) ?_
    | refine EL.fF (FV.gtr rfl rfl) rfl (fun _ => rfl) (by omega) ?_
    | refine EL.fF (FV.geq rfl rfl) rfl (fun _ => rfl) (by omega) ?_
    | refine EL.fF (FV.eql rfl rfl) rfl (fun _ => rfl) (by omega) ?_
    | refine EL.fF (FV.neq rfl rfl) rfl (fun _ => rfl) (by omega) ?_
    | refine EL.f (FV.rem rfl rfl (by decide)) rfl rfl ?_
    | refine EL.f (FV.idx0 rfl rfl rfl rfl (by omega) (by omega)) rfl rfl ?_
    | refine EL.f (FV.idx1 rfl rfl rfl rfl (by omega) (by omega)) rfl rfl ?_
    | refine EL.f (FV.load1 rfl rfl rfl (by assumption)) rfl rfl ?_)
  rw [constL_zero] at hat
  have hl0 := derivL_length xs
  refine EW.loop (fun k wr => k + 1 ≤ xs.length ∧ AtI wr g xs.length (filled (derivL xs) k xs.length) ∧ Below w.heap.size w wr) (fun k => [(0, .slice A xs.length c), (3, .slice (some ⟨g, 0, none⟩) xs.length xs.length), (4, .int .i64 k)]) (fun k => xs.length - k) 0 ⟨h0, by rw [filled_zero]; exact hat, he⟩ ⟨rfl, rfl, rfl, trivial⟩ ?_
  rintro k wr ⟨hk, hat, hb⟩
  have hlen := filled_length (derivL xs) k xs.length (by omega) (by omega)
  by_cases hlt : k + 1 < xs.length
  · obtain ⟨b, o, rfl, hc⟩ := hx.int hlt
    have hc' : wr.cell? ⟨b, o + ((k : Int) + 1).toNat, none⟩ = some (.int .i64 (xs.getD (k + 1) 0)) := (hb.cell (World.block_lt_of_cell? w _ hc)).trans hc
    have hkk : k < (filled (derivL xs) k xs.length).length := by omega
    repeat' (first
      | refine EL.f (FV.load1 rfl rfl rfl hc') rfl rfl ?_
      | (refine EL.h (Hv.call (specTimes _ _ _) rfl) rfl (fun _ => rfl) ?_; rintro _ _ ⟨rfl, rfl⟩)
      | (refine EL.h (Hv.storeAt rfl rfl rfl rfl rfl hat (ints_get hkk)) rfl (fun _ => rfl) ?_; rintro _ _ ⟨rfl, _⟩)
      | refine EW.seq ?_
      | refine EL.f (FV.move rfl) rfl rfl ?_
      | refine EL.f (FV.assign rfl) rfl rfl ?_
      | refine EL.nil ?_
      | refine EW.region ?_
      | refine EW.block ?_
      | refine EW.skip ?_
      | refine EW.exit ?_
      | refine EW.ret ?_
      | refine EW.condT rfl ?_
      | refine EW.condF rfl ?_
      | refine EL.f (FV.addI rfl rfl (by omega)) rfl rfl ?_
      | refine EL.f (FV.subI rfl rfl (by omega)) rfl rfl ?_
      | refine EL.f (FV.remI rfl rfl (by decide) (by omega)) rfl rfl ?_
      | refine EL.f (FV.quoI rfl rfl (by decide) (by omega)) rfl rfl ?_
      | refine EL.f (FV.extract rfl rfl) rfl rfl ?_
      | refine EL.f (FV.len rfl rfl) rfl rfl ?_
      | refine EL.f (FV.lenS rfl rfl) rfl rfl ?_
      | refine EL.f (FV.not rfl) rfl rfl ?_
      | refine EL.skip rfl rfl ?_
      | refine EL.f (FV.pickT rfl rfl) rfl rfl ?_
      | refine EL.f (FV.pickF rfl rfl) rfl rfl ?_
      | refine EL.fT (FV.lss rfl rfl) rfl (fun _ => rfl) (by omega) ?_
      | refine EL.fT (FV.leq rfl rfl) rfl (fun _ => rfl) (by omega) ?_
      | refine EL.fT (FV.gtr rfl rfl) rfl (fun _ => rfl) (by omega) ?_
      | refine EL.fT (FV.geq rfl rfl) rfl (fun _ => rfl) (by omega) ?_
      | refine EL.fT (FV.eql rfl rfl) rfl (fun _ => rfl) (by omega) ?_
      | refine EL.fT (FV.neq rfl rfl) rfl (fun _ => rfl) (by omega) ?_
      | refine EL.fF (FV.lss rfl rfl) rfl (fun _ => rfl) (by omega) ?_
      | refine EL.fF (FV.leq rfl rfl) rfl (fun _ => rfl) (by omega) ?_
      | refine EL.fF (FV.gtr rfl rfl) rfl (fun _ => rfl) (by omega) ?_
      | refine EL.fF (FV.geq rfl rfl) rfl (fun _ => rfl) (by omega) ?_
      | refine EL.fF (FV.eql rfl rfl) rfl (fun _ => rfl) (by omega) ?_
      | refine EL.fF (FV.neq rfl rfl) rfl (fun _ => rfl) (by omega) ?_
      | refine EL.f (FV.rem rfl rfl (by decide)) rfl rfl ?_
      | refine EL.f (FV.idx0 rfl rfl rfl rfl (by omega) (by omega)) rfl rfl ?_
      | refine EL.f (FV.idx1 rfl rfl rfl rfl (by omega) (by omega)) rfl rfl ?_
      | refine EL.f (FV.load1 rfl rfl rfl (by assumption)) rfl rfl ?_)
    refine ⟨k + 1, ⟨rfl, rfl, rfl, trivial⟩, ⟨by omega, ?_, Below.set_ hb (by omega) _⟩, by omega⟩
    have e := filled_set (derivL xs) k xs.length (by omega) (by omega)
    rw [derivL_get xs k hlt] at e
    rw [← e]
    exact AtI.set_ hat _
  · rw [derivL_end xs k (by omega) (by omega)] at hat
    repeat' (first
      | refine EW.seq ?_
      | refine EL.f (FV.move rfl) rfl rfl ?_
      | refine EL.f (FV.assign rfl) rfl rfl ?_
      | refine EL.nil ?_
      | refine EW.region ?_
      | refine EW.block ?_
      | refine EW.skip ?_
      | refine EW.exit ?_
      | refine EW.ret ?_
      | refine EW.condT rfl ?_
      | refine EW.condF rfl ?_
      | refine EL.f (FV.addI rfl rfl (by omega)) rfl rfl ?_
      | refine EL.f (FV.subI rfl rfl (by omega)) rfl rfl ?_
      | refine EL.f (FV.remI rfl rfl (by decide) (by omega)) rfl rfl ?_
      | refine EL.f (FV.quoI rfl rfl (by decide) (by omega)) rfl rfl ?_
      | refine EL.f (FV.extract rfl rfl) rfl rfl ?_
      | refine EL.f (FV.len rfl rfl) rfl rfl ?_
      | refine EL.f (FV.lenS rfl rfl) rfl rfl ?_
      | refine EL.f (FV.not rfl) rfl rfl ?_
      | refine EL.skip rfl rfl ?_
      | refine EL.f (FV.pickT rfl rfl) rfl rfl ?_
      | refine EL.f (FV.pickF rfl rfl) rfl rfl ?_
      | refine EL.fT (FV.lss rfl rfl) rfl (fun _ => rfl) (by omega) ?_
      | refine EL.fT (FV.leq rfl rfl) rfl (fun _ => rfl) (by omega) ?_
      | refine EL.fT (FV.gtr rfl rfl) rfl (fun _ => rfl) (by omega) ?_
      | refine EL.fT (FV.geq rfl rfl) rfl (fun _ => rfl) (by omega) ?_
      | refine EL.fT (FV.eql rfl rfl) rfl (fun _ => rfl) (by omega) ?_
      | refine EL.fT (FV.neq rfl rfl) rfl (fun _ => rfl) (by omega) ?_
      | refine EL.fF (FV.lss rfl rfl) rfl (fun _ => rfl) (by omega) ?_
      | refine EL.fF (FV.leq rfl rfl) rfl (fun _ => rfl) (by omega) ?_
      | refine EL.fF (FV.gtr rfl rfl) rfl (fun _ => rfl) (by omega) ?_
      | refine EL.fF (FV.geq rfl rfl) rfl (fun _ => rfl) (by omega) ?_
      | refine EL.fF (FV.eql rfl rfl) rfl (fun _ => rfl) (by omega) ?_
      | refine EL.fF (FV.neq rfl rfl) rfl (fun _ => rfl) (by omega) ?_
      | refine EL.f (FV.rem rfl rfl (by decide)) rfl rfl ?_
      | refine EL.f (FV.idx0 rfl rfl rfl rfl (by omega) (by omega)) rfl rfl ?_
      | refine EL.f (FV.idx1 rfl rfl rfl rfl (by omega) (by omega)) rfl rfl ?_
      | refine EL.f (FV.load1 rfl rfl rfl (by assumption)) rfl rfl ?_)
    refine ⟨_, rfl, ?_, hb⟩
    have := AtI.own (B := w.heap.size) hat (by omega)
    rwa [hl0] at this

/-! integrals -/
def integL (xs : List Int) : List Int := mapR (fun k => if k = 0 then 0 else xs.getD (k - 1) 0 * inv k % 1000003) xs.length
theorem integL_length (xs : List Int) : (integL xs).length = xs.length := mapR_length _ _
theorem nums_integL (xs : List Int) : nums (integL xs) = true := nums_mapR _ _ fun k _ => by split <;> omega
theorem integL_get (xs : List Int) (k : Nat) (h : k < xs.length) (h1 : 1 ≤ k) : (integL xs).getD k 0 = xs.getD (k - 1) 0 * inv k % 1000003 := by
  unfold integL
  rw [mapR_getD _ _ _ h, if_neg (by omega)]
theorem integL_start (xs : List Int) (h : 1 ≤ xs.length) : filled (integL xs) 1 xs.length = List.replicate xs.length 0 := by
  unfold filled integL mapR
  obtain ⟨m, hm⟩ : ∃ m, xs.length = m + 1 := ⟨xs.length - 1, by omega⟩
  rw [hm]
  simp [List.range_succ_eq_map, List.replicate_succ]
theorem implIntegral (A : Option Addr) (c : Nat) (xs : List Int) (w : World) (hx : Rd w A (ints xs)) (h0 : 1 ≤ xs.length) (hn : xs.length ≤ 1000) (nx : nums xs = true) :
    CallsR Try.prog 73 [.slice A xs.length c] w fun v w' => OwnI w.heap.size w' v (integL xs) ∧ Ext w w' := by
  refine CallsR.enter Try.func73 (by decide +kernel) rfl Try.ntmps73 rfl ?_
  repeat' (first
    | (refine EL.h (Hv.make (kl := .i64) rfl rfl rfl rfl (by omega) (by omega)) rfl (fun _ => rfl) ?_; rintro _ w1 ⟨g, rfl, hg, hat, he⟩)
    | refine EW.seq ?_
    | refine EL.f (FV.move rfl) rfl rfl ?_
    | refine EL.f (FV.assign rfl) rfl rfl ?_
    | refine EL.nil ?_
    | refine EW.region ?_
    | refine EW.block ?_
    | refine EW.skip ?_
    | refine EW.exit ?_
    | refine EW.ret ?_
    | refine EW.condT rfl ?_
    | refine EW.condF rfl ?_
    | refine EL.f (FV.addI rfl rfl (by omega)) rfl rfl ?_
    | refine EL.f (FV.subI rfl rfl (by omega)) rfl rfl ?_
    | refine EL.f (FV.remI rfl rfl (by decide) (by omega)) rfl rfl ?_
    | refine EL.f (FV.quoI rfl rfl (by decide) (by omega)) rfl rfl ?_
    | refine EL.f (FV.extract rfl rfl) rfl rfl ?_
    | refine EL.f (FV.len rfl rfl) rfl rfl ?_
    | refine EL.f (FV.lenS rfl rfl) rfl rfl ?_
    | refine EL.f (FV.not rfl) rfl rfl ?_
    | refine EL.skip rfl rfl ?_
    | refine EL.f (FV.pickT rfl rfl) rfl rfl ?_
    | refine EL.f (FV.pickF rfl rfl) rfl rfl ?_
    | refine EL.fT (FV.lss rfl rfl) rfl (fun _ => rfl) (by omega) ?_
    | refine EL.fT (FV.leq rfl rfl) rfl (fun _ => rfl) (by omega) ?_
    | refine EL.fT (FV.gtr rfl rfl) rfl (fun _ => rfl) (by omega) ?_
    | refine EL.fT (FV.geq rfl rfl) rfl (fun _ => rfl) (by omega) ?_
    | refine EL.fT (FV.eql rfl rfl) rfl (fun _ => rfl) (by omega) ?_
    | refine EL.fT (FV.neq rfl rfl) rfl (fun _ => rfl) (by omega) ?_
    | refine EL.fF (FV.lss rfl rfl) rfl (fun _ => rfl) (by omega) ?_
    | refine EL.fF (FV.leq rfl rfl) rfl (fun _ => rfl) (by omega) ?_
    | refine EL.fF (FV.gtr rfl rfl) rfl (fun _ => rfl) (by omega) ?_
    | refine EL.fF (FV.geq rfl rfl) rfl (fun _ => rfl) (by omega) ?_
    | refine EL.fF (FV.eql rfl rfl) rfl (fun _ => rfl) (by omega) ?_
    | refine EL.fF (FV.neq rfl rfl) rfl (fun _ => rfl) (by omega) ?_
    | refine EL.f (FV.rem rfl rfl (by decide)) rfl rfl ?_
    | refine EL.f (FV.idx0 rfl rfl rfl rfl (by omega) (by omega)) rfl rfl ?_
    | refine EL.f (FV.idx1 rfl rfl rfl rfl (by omega) (by omega)) rfl rfl ?_
    | refine EL.f (FV.load1 rfl rfl rfl (by assumption)) rfl rfl ?_)
  rw [madeInts] at hat
  replace hat : AtI w1 g xs.length (List.replicate xs.length 0) := by unfold AtI; rw [List.length_replicate]; exact hat
  have hl0 := integL_length xs
  refine EW.loop (fun k wr => 1 ≤ k ∧ k ≤ xs.length ∧ AtI wr g xs.length (filled (integL xs) k xs.length) ∧ Below w.heap.size w wr) (fun k => [(0, .slice A xs.length c), (3, .slice (some ⟨g, 0, none⟩) xs.length xs.length), (4, .int .i64 k)]) (fun k => xs.length - k) 1 ⟨Nat.le_refl _, h0, by rw [integL_start xs h0]; exact hat, he⟩ ⟨rfl, rfl, rfl, trivial⟩ ?_
  rintro k wr ⟨h1, hk, hat, hb⟩
  have hlen := filled_length (integL xs) k xs.length (by omega) (by omega)
  by_cases hlt : k < xs.length
  · obtain ⟨b, o, rfl, hc⟩ := hx.int (show k - 1 < xs.length by omega)
    have hc' := (hb.cell (World.block_lt_of_cell? w _ hc)).trans hc
    rw [show k - 1 = ((k : Int) - 1).toNat from by omega] at hc'
    rw [show ((k : Int) - 1).toNat = k - 1 from by omega] at hc'
    have hc'' : wr.cell? ⟨b, o + ((k : Int) - 1).toNat, none⟩ = some (.int .i64 (xs.getD (k - 1) 0)) := by
      rw [show ((k : Int) - 1).toNat = k - 1 from by omega]; exact hc'
    have hm := mul_bounds (num_getD nx (k - 1)) (inv_bounds k)
    have hkk : k < (filled (integL xs) k xs.length).length := by omega
    repeat' (first
      | refine EW.seq ?_
      | refine EL.f (FV.move rfl) rfl rfl ?_
      | refine EL.f (FV.assign rfl) rfl rfl ?_
      | refine EL.nil ?_
      | refine EW.region ?_
      | refine EW.block ?_
      | refine EW.skip ?_
      | refine EW.exit ?_
      | refine EW.ret ?_
      | refine EW.condT rfl ?_
      | refine EW.condF rfl ?_
      | refine EL.f (FV.addI rfl rfl (by omega)) rfl rfl ?_
      | refine EL.f (FV.subI rfl rfl (by omega)) rfl rfl ?_
      | refine EL.f (FV.remI rfl rfl (by decide) (by omega)) rfl rfl ?_
      | refine EL.f (FV.quoI rfl rfl (by decide) (by omega)) rfl rfl ?_
      | refine EL.f (FV.extract rfl rfl) rfl rfl ?_
      | refine EL.f (FV.len rfl rfl) rfl rfl ?_
      | refine EL.f (FV.lenS rfl rfl) rfl rfl ?_
      | refine EL.f (FV.not rfl) rfl rfl ?_
      | refine EL.skip rfl rfl ?_
      | refine EL.f (FV.pickT rfl rfl) rfl rfl ?_
      | refine EL.f (FV.pickF rfl rfl) rfl rfl ?_
      | refine EL.fT (FV.lss rfl rfl) rfl (fun _ => rfl) (by omega) ?_
      | refine EL.fT (FV.leq rfl rfl) rfl (fun _ => rfl) (by omega) ?_
      | refine EL.fT (FV.gtr rfl rfl) rfl (fun _ => rfl) (by omega) ?_
      | refine EL.fT (FV.geq rfl rfl) rfl (fun _ => rfl) (by omega) ?_
      | refine EL.fT (FV.eql rfl rfl) rfl (fun _ => rfl) (by omega) ?_
      | refine EL.fT (FV.neq rfl rfl) rfl (fun _ => rfl) (by omega) ?_
      | refine EL.fF (FV.lss rfl rfl) rfl (fun _ => rfl) (by omega) ?_
      | refine EL.fF (FV.leq rfl rfl) rfl (fun _ => rfl) (by omega) ?_
      | refine EL.fF (FV.gtr rfl rfl) rfl (fun _ => rfl) (by omega) ?_
      | refine EL.fF (FV.geq rfl rfl) rfl (fun _ => rfl) (by omega) ?_
      | refine EL.fF (FV.eql rfl rfl) rfl (fun _ => rfl) (by omega) ?_
      | refine EL.fF (FV.neq rfl rfl) rfl (fun _ => rfl) (by omega) ?_
      | refine EL.f (FV.rem rfl rfl (by decide)) rfl rfl ?_
      | refine EL.f (FV.idx0 rfl rfl rfl rfl (by omega) (by omega)) rfl rfl ?_
      | refine EL.f (FV.idx1 rfl rfl rfl rfl (by omega) (by omega)) rfl rfl ?_
      | refine EL.f (FV.load1 rfl rfl rfl (by assumption)) rfl rfl ?_)
    refine EW.draw (fun w' => w' = wr.drew) (pl 0 8 ++ [(8, false), (9, true), (10, true), (11, true), (12, false)]) mixed (by decide +kernel) rfl ?_
    repeat' (first
      | refine EP.f rfl (FV.load rfl rfl rfl (fun _ h' => atDrew h' hc'')) rfl rfl ?_
      | refine EP.f rfl (FV.mulI rfl rfl (by omega)) rfl rfl ?_
      | (refine EP.h rfl rfl (Hv.call (implInverse0 _ _) rfl) rfl (fun _ => rfl) ?_; rintro _ _ ⟨rfl, rfl⟩; refine ⟨rfl, ?_⟩)
      | refine EP.nil ?_
      | refine EP.f rfl (FV.move rfl) rfl rfl ?_
      | refine EP.f rfl (FV.assign rfl) rfl rfl ?_
      | refine EP.f rfl (FV.addI rfl rfl (by omega)) rfl rfl ?_
      | refine EP.f rfl (FV.subI rfl rfl (by omega)) rfl rfl ?_
      | refine EP.f rfl (FV.remI rfl rfl (by decide) (by omega)) rfl rfl ?_
      | refine EP.f rfl (FV.extract rfl rfl) rfl rfl ?_
      | refine EP.f rfl (FV.len rfl rfl) rfl rfl ?_
      | refine EP.f rfl (FV.idx0 rfl rfl rfl rfl (by omega) (by omega)) rfl rfl ?_
      | refine EP.f rfl (FV.idx1 rfl rfl rfl rfl (by omega) (by omega)) rfl rfl ?_
      | refine EP.f rfl (FV.not rfl) rfl rfl ?_)
    refine EP.last rfl rfl (by decide +kernel) (Hv.storeAt rfl rfl rfl rfl rfl (At.ext hat (Ext.drew _)) (ints_get hkk)) rfl (fun _ => rfl) ?_
    rintro _ _ ⟨rfl, _⟩
    repeat' (first
      | refine EW.seq ?_
      | refine EL.f (FV.move rfl) rfl rfl ?_
      | refine EL.f (FV.assign rfl) rfl rfl ?_
      | refine EL.nil ?_
      | refine EW.region ?_
      | refine EW.block ?_
      | refine EW.skip ?_
      | refine EW.exit ?_
      | refine EW.ret ?_
      | refine EW.condT rfl ?_
      | refine EW.condF rfl ?_
      | refine EL.f (FV.addI rfl rfl (by omega)) rfl rfl ?_
      | refine EL.f (FV.subI rfl rfl (by omega)) rfl rfl ?_
      | refine EL.f (FV.remI rfl rfl (by decide) (by omega)) rfl rfl ?_
      | refine EL.f (FV.quoI rfl rfl (by decide) (by omega)) rfl rfl ?_
      | refine EL.f (FV.extract rfl rfl) rfl rfl ?_
      | refine EL.f (FV.len rfl rfl) rfl rfl ?_
      | refine EL.f (FV.lenS rfl rfl) rfl rfl ?_
      | refine EL.f (FV.not rfl) rfl rfl ?_
      | refine EL.skip rfl rfl ?_
      | refine EL.f (FV.pickT rfl rfl) rfl rfl ?_
      | refine EL.f (FV.pickF rfl rfl) rfl rfl ?_
      | refine EL.fT (FV.lss rfl rfl) rfl (fun _ => rfl) (by omega) ?_
      | refine EL.fT (FV.leq rfl rfl) rfl (fun _ => rfl) (by omega) ?_
      | refine EL.fT (FV.gtr rfl rfl) rfl (fun _ => rfl) (by omega) ?_
      | refine EL.fT (FV.geq rfl rfl) rfl (fun _ => rfl) (by omega) ?_
      | refine EL.fT (FV.eql rfl rfl) rfl (fun _ => rfl) (by omega) ?_
      | refine EL.fT (FV.neq rfl rfl) rfl (fun _ => rfl) (by omega) ?_
      | refine EL.fF (FV.lss rfl rfl) rfl (fun _ => rfl) (by omega) ?_
      | refine EL.fF (FV.leq rfl rfl) rfl (fun _ => rfl) (by omega) ?_
      | refine EL.fF (FV.gtr rfl rfl) rfl (fun _ => rfl) (by omega) ?_
      | refine EL.fF (FV.geq rfl rfl) rfl (fun _ => rfl) (by omega) ?_
      | refine EL.fF (FV.eql rfl rfl) rfl (fun _ => rfl) (by omega) ?_
      | refine EL.fF (FV.neq rfl rfl) rfl (fun _ => rfl) (by omega) ?_
      | refine EL.f (FV.rem rfl rfl (by decide)) rfl rfl ?_
      | refine EL.f (FV.idx0 rfl rfl rfl rfl (by omega) (by omega)) rfl rfl ?_
      | refine EL.f (FV.idx1 rfl rfl rfl rfl (by omega) (by omega)) rfl rfl ?_
      | refine EL.f (FV.load1 rfl rfl rfl (by assumption)) rfl rfl ?_)
    refine ⟨k + 1, ⟨rfl, rfl, rfl, trivial⟩, ⟨by omega, by omega, ?_, Below.set_ hb.drew (by omega) _⟩, by omega⟩
    have e := filled_set (integL xs) k xs.length (by omega) (by omega)
    rw [integL_get xs k hlt h1] at e
    rw [← e]
    exact AtI.set_ (At.ext hat (Ext.drew _)) _
  · obtain rfl : k = xs.length := by omega
    have e := filled_full (integL xs)
    rw [hl0] at e
    rw [e] at hat
    repeat' (first
      | refine EW.seq ?_
      | refine EL.f (FV.move rfl) rfl rfl ?_
      | refine EL.f (FV.assign rfl) rfl rfl ?_
      | refine EL.nil ?_
      | refine EW.region ?_
      | refine EW.block ?_
      | refine EW.skip ?_
      | refine EW.exit ?_
      | refine EW.ret ?_
      | refine EW.condT rfl ?_
      | refine EW.condF rfl ?_
      | refine EL.f (FV.addI rfl rfl (by omega)) rfl rfl ?_
      | refine EL.f (FV.subI rfl rfl (by omega)) rfl rfl ?_
      | refine EL.f (FV.remI rfl rfl (by decide) (by omega)) rfl rfl ?_
      | refine EL.f (FV.quoI rfl rfl (by decide) (by omega)) rfl rfl ?_
      | refine EL.f (FV.extract rfl rfl) rfl rfl ?_
      | refine EL.f (FV.len rfl rfl) rfl rfl ?_
      | refine EL.f (FV.lenS rfl rfl) rfl rfl ?_
      | refine EL.f (FV.not rfl) rfl rfl ?_
      | refine EL.skip rfl rfl ?_
      | refine EL.f (FV.pickT rfl rfl) rfl rfl ?_
      | refine EL.f (FV.pickF rfl rfl) rfl rfl ?_
      | refine EL.fT (FV.lss rfl rfl) rfl (fun _ => rfl) (by omega) ?_
      | refine EL.fT (FV.leq rfl rfl) rfl (fun _ => rfl) (by omega) ?_
      | refine EL.fT (FV.gtr rfl rfl) rfl (fun _ => rfl) (by omega) ?_
      | refine EL.fT (FV.geq rfl rfl) rfl (fun _ => rfl) (by omega) ?_
      | refine EL.fT (FV.eql rfl rfl) rfl (fun _ => rfl) (by omega) ?_
      | refine EL.fT (FV.neq rfl rfl) rfl (fun _ => rfl) (by omega) ?_
      | refine EL.fF (FV.lss rfl rfl) rfl (fun _ => rfl) (by omega) ?_
      | refine EL.fF (FV.leq rfl rfl) rfl (fun _ => rfl) (by omega) ?_
      | refine EL.fF (FV.gtr rfl rfl) rfl (fun _ => rfl) (by omega) ?_
      | refine EL.fF (FV.geq rfl rfl) rfl (fun _ => rfl) (by omega) ?_
      | refine EL.fF (FV.eql rfl rfl) rfl (fun _ => rfl) (by omega) ?_
      | refine EL.fF (FV.neq rfl rfl) rfl (fun _ => rfl) (by omega) ?_
      | refine EL.f (FV.rem rfl rfl (by decide)) rfl rfl ?_
      | refine EL.f (FV.idx0 rfl rfl rfl rfl (by omega) (by omega)) rfl rfl ?_
      | refine EL.f (FV.idx1 rfl rfl rfl rfl (by omega) (by omega)) rfl rfl ?_
      | refine EL.f (FV.load1 rfl rfl rfl (by assumption)) rfl rfl ?_)
    refine ⟨_, rfl, ?_, hb⟩
    have := AtI.own (B := w.heap.size) hat (by omega)
    rwa [hl0] at this
theorem specIntegral (A : Option Addr) (c : Nat) (xs : List Int) (w : World) (hx : Rd w A (ints xs)) (h0 : 1 ≤ xs.length) (hn : xs.length ≤ 1000) :
    CallsR Try.prog 72 [.slice A xs.length c] w fun v w' => OwnI w.heap.size w' v (integL xs) ∧ Ext w w' := by
  refine CallsR.enter Try.func72 (by decide +kernel) rfl Try.ntmps72 rfl ?_
  repeat' (first
    | (refine EL.h (Hv.call (specConst 0 xs.length hn _) rfl) rfl (fun _ => rfl) ?_; rintro _ w1 ⟨g, rfl, hg, hat, he⟩)
    | refine EW.seq ?_
    | refine EL.f (FV.move rfl) rfl rfl ?_
    | refine EL.f (FV.assign rfl) rfl rfl ?_
    | refine EL.nil ?_
    | refine EW.region ?_
    | refine EW.block ?_
    | refine EW.skip ?_
    | refine EW.exit ?_
    | refine EW.ret ?_
    | refine EW.condT rfl ?_
    | refine EW.condF rfl ?_
    | refine EL.f (FV.addI rfl rfl (by omega)) rfl rfl ?_
    | refine EL.f (FV.subI rfl rfl (by omega)) rfl rfl ?_
    | refine EL.f (FV.remI rfl rfl (by decide) (by omega)) rfl rfl ?_
    | refine EL.f (FV.quoI rfl rfl (by decide) (by omega)) rfl rfl ?_
    | refine EL.f (FV.extract rfl rfl) rfl rfl ?_
    | refine EL.f (FV.len rfl rfl) rfl rfl ?_
    | refine EL.f (FV.lenS rfl rfl) rfl rfl ?_
    | refine EL.f (FV.not rfl) rfl rfl ?_
    | refine EL.skip rfl rfl ?_
    | refine EL.f (FV.pickT rfl rfl) rfl rfl ?_
    | refine EL.f (FV.pickF rfl rfl) rfl rfl ?_
    | refine EL.fT (FV.lss rfl rfl) rfl (fun _ => rfl) (by omega) ?_
    | refine EL.fT (FV.leq rfl rfl) rfl (fun _ => rfl) (by omega) ?_
    | refine EL.fT (FV.gtr rfl rfl) rfl (fun _ => rfl) (by omega) ?_
    | refine EL.fT (FV.geq rfl rfl) rfl (fun _ => rfl) (by omega) ?_
    | refine EL.fT (FV.eql rfl rfl) rfl (fun _ => rfl) (by omega) ?_
    | refine EL.fT (FV.neq rfl rfl) rfl (fun _ => rfl) (by omega) ?_
    | refine EL.fF (FV.lss rfl rfl) rfl (fun _ => rfl) (by omega) ?_
    | refine EL.fF (FV.leq rfl rfl) rfl (fun _ => rfl) (by omega) ?_
    | refine EL.fF (FV.gtr rfl rfl) rfl (fun _ => rfl) (by omega) ?_
    | refine EL.fF (FV.geq rfl rfl) rfl (fun _ => rfl) (by omega) ?_
    | refine EL.fF (FV.eql rfl rfl) rfl (fun _ => rfl) (by omega) ?_
    | refine EL.fF (FV.neq rfl rfl) rfl (fun _ => rfl) (by omega) ?_
    | refine EL.f (FV.rem rfl rfl (by decide)) rfl rfl ?_
    | refine EL.f (FV.idx0 rfl rfl rfl rfl (by omega) (by omega)) rfl rfl ?_
    | refine EL.f (FV.idx1 rfl rfl rfl rfl (by omega) (by omega)) rfl rfl ?_
    | refine EL.f (FV.load1 rfl rfl rfl (by assumption)) rfl rfl ?_)
  rw [constL_zero] at hat
  have hl0 := integL_length xs
  refine EW.loop (fun k wr => 1 ≤ k ∧ k ≤ xs.length ∧ AtI wr g xs.length (filled (integL xs) k xs.length) ∧ Below w.heap.size w wr) (fun k => [(0, .slice A xs.length c), (3, .slice (some ⟨g, 0, none⟩) xs.length xs.length), (4, .int .i64 k)]) (fun k => xs.length - k) 1 ⟨Nat.le_refl _, h0, by rw [integL_start xs h0]; exact hat, he⟩ ⟨rfl, rfl, rfl, trivial⟩ ?_
  rintro k wr ⟨h1, hk, hat, hb⟩
  have hlen := filled_length (integL xs) k xs.length (by omega) (by omega)
  by_cases hlt : k < xs.length
  · obtain ⟨b, o, rfl, hc⟩ := hx.int (show k - 1 < xs.length by omega)
    have hc' := (hb.cell (World.block_lt_of_cell? w _ hc)).trans hc
    have hc'' : wr.cell? ⟨b, o + ((k : Int) - 1).toNat, none⟩ = some (.int .i64 (xs.getD (k - 1) 0)) := by
      rw [show ((k : Int) - 1).toNat = k - 1 from by omega]; exact hc'
    have hkk : k < (filled (integL xs) k xs.length).length := by omega
    repeat' (first
      | refine EW.seq ?_
      | refine EL.f (FV.move rfl) rfl rfl ?_
      | refine EL.f (FV.assign rfl) rfl rfl ?_
      | refine EL.nil ?_
      | refine EW.region ?_
      | refine EW.block ?_
      | refine EW.skip ?_
      | refine EW.exit ?_
      | refine EW.ret ?_
      | refine EW.condT rfl ?_
      | refine EW.condF rfl ?_
      | refine EL.f (FV.addI rfl rfl (by omega)) rfl rfl ?_
      | refine EL.f (FV.subI rfl rfl (by omega)) rfl rfl ?_
      | refine EL.f (FV.remI rfl rfl (by decide) (by omega)) rfl rfl ?_
      | refine EL.f (FV.quoI rfl rfl (by decide) (by omega)) rfl rfl ?_
      | refine EL.f (FV.extract rfl rfl) rfl rfl ?_
      | refine EL.f (FV.len rfl rfl) rfl rfl ?_
      | refine EL.f (FV.lenS rfl rfl) rfl rfl ?_
      | refine EL.f (FV.not rfl) rfl rfl ?_
      | refine EL.skip rfl rfl ?_
      | refine EL.f (FV.pickT rfl rfl) rfl rfl ?_
      | refine EL.f (FV.pickF rfl rfl) rfl rfl ?_
      | refine EL.fT (FV.lss rfl rfl) rfl (fun _ => rfl) (by omega) ?_
      | refine EL.fT (FV.leq rfl rfl) rfl (fun _ => rfl) (by omega) ?_
      | refine EL.fT (FV.gtr rfl rfl) rfl (fun _ => rfl) (by omega) ?_
      | refine EL.fT (FV.geq rfl rfl) rfl (fun _ => rfl) (by omega) ?_
      | refine EL.fT (FV.eql rfl rfl) rfl (fun _ => rfl) (by omega) ?_
      | refine EL.fT (FV.neq rfl rfl) rfl (fun _ => rfl) (by omega) ?_
      | refine EL.fF (FV.lss rfl rfl) rfl (fun _ => rfl) (by omega) ?_
      | refine EL.fF (FV.leq rfl rfl) rfl (fun _ => rfl) (by omega) ?_
      | refine EL.fF (FV.gtr rfl rfl) rfl (fun _ => rfl) (by omega) ?_
      | refine EL.fF (FV.geq rfl rfl) rfl (fun _ => rfl) (by omega) ?_
      | refine EL.fF (FV.eql rfl rfl) rfl (fun _ => rfl) (by omega) ?_
      | refine EL.fF (FV.neq rfl rfl) rfl (fun _ => rfl) (by omega) ?_
      | refine EL.f (FV.rem rfl rfl (by decide)) rfl rfl ?_
      | refine EL.f (FV.idx0 rfl rfl rfl rfl (by omega) (by omega)) rfl rfl ?_
      | refine EL.f (FV.idx1 rfl rfl rfl rfl (by omega) (by omega)) rfl rfl ?_
      | refine EL.f (FV.load1 rfl rfl rfl (by assumption)) rfl rfl ?_)
    refine EW.draw (fun w' => w' = wr.drew) (pl 0 8 ++ [(8, false), (9, false), (10, true), (11, false)]) mixed (by decide +kernel) rfl ?_
    repeat' (first
      | refine EP.f rfl (FV.load rfl rfl rfl (fun _ h' => atDrew h' hc'')) rfl rfl ?_
      | (refine EP.h rfl rfl (Hv.call (specInverse0 _ _) rfl) rfl (fun _ => rfl) ?_; rintro _ _ ⟨rfl, rfl⟩; refine ⟨rfl, ?_⟩)
      | (refine EP.h rfl rfl (Hv.call (specTimes _ _ _) rfl) rfl (fun _ => rfl) ?_; rintro _ _ ⟨rfl, rfl⟩; refine ⟨rfl, ?_⟩)
      | refine EP.nil ?_
      | refine EP.f rfl (FV.move rfl) rfl rfl ?_
      | refine EP.f rfl (FV.assign rfl) rfl rfl ?_
      | refine EP.f rfl (FV.addI rfl rfl (by omega)) rfl rfl ?_
      | refine EP.f rfl (FV.subI rfl rfl (by omega)) rfl rfl ?_
      | refine EP.f rfl (FV.remI rfl rfl (by decide) (by omega)) rfl rfl ?_
      | refine EP.f rfl (FV.extract rfl rfl) rfl rfl ?_
      | refine EP.f rfl (FV.len rfl rfl) rfl rfl ?_
      | refine EP.f rfl (FV.idx0 rfl rfl rfl rfl (by omega) (by omega)) rfl rfl ?_
      | refine EP.f rfl (FV.idx1 rfl rfl rfl rfl (by omega) (by omega)) rfl rfl ?_
      | refine EP.f rfl (FV.not rfl) rfl rfl ?_)
    refine EP.last rfl rfl (by decide +kernel) (Hv.storeAt rfl rfl rfl rfl rfl (At.ext hat (Ext.drew _)) (ints_get hkk)) rfl (fun _ => rfl) ?_
    rintro _ _ ⟨rfl, _⟩
    repeat' (first
      | refine EW.seq ?_
      | refine EL.f (FV.move rfl) rfl rfl ?_
      | refine EL.f (FV.assign rfl) rfl rfl ?_
      | refine EL.nil ?_
      | refine EW.region ?_
      | refine EW.block ?_
      | refine EW.skip ?_
      | refine EW.exit ?_
      | refine EW.ret ?_
      | refine EW.condT rfl ?_
      | refine EW.condF rfl ?_
      | refine EL.f (FV.addI rfl rfl (by omega)) rfl rfl ?_
      | refine EL.f (FV.subI rfl rfl (by omega)) rfl rfl ?_
      | refine EL.f (FV.remI rfl rfl (by decide) (by omega)) rfl rfl ?_
      | refine EL.f (FV.quoI rfl rfl (by decide) (by omega)) rfl rfl ?_
      | refine EL.f (FV.extract rfl rfl) rfl rfl ?_
      | refine EL.f (FV.len rfl rfl) rfl rfl ?_
      | refine EL.f (FV.lenS rfl rfl) rfl rfl ?_
      | refine EL.f (FV.not rfl) rfl rfl ?_
      | refine EL.skip rfl rfl ?_
      | refine EL.f (FV.pickT rfl rfl) rfl rfl ?_
      | refine EL.f (FV.pickF rfl rfl) rfl rfl ?_
      | refine EL.fT (FV.lss rfl rfl) rfl (fun _ => rfl) (by omega) ?_
      | refine EL.fT (FV.leq rfl rfl) rfl (fun _ => rfl) (by omega) ?_
      | refine EL.fT (FV.gtr rfl rfl) rfl (fun _ => rfl) (by omega) ?_
      | refine EL.fT (FV.geq rfl rfl) rfl (fun _ => rfl) (by omega) ?_
      | refine EL.fT (FV.eql rfl rfl) rfl (fun _ => rfl) (by omega) ?_
      | refine EL.fT (FV.neq rfl rfl) rfl (fun _ => rfl) (by omega) ?_
      | refine EL.fF (FV.lss rfl rfl) rfl (fun _ => rfl) (by omega) ?_
      | refine EL.fF (FV.leq rfl rfl) rfl (fun _ => rfl) (by omega) ?_
      | refine EL.fF (FV.gtr rfl rfl) rfl (fun _ => rfl) (by omega) ?_
      | refine EL.fF (FV.geq rfl rfl) rfl (fun _ => rfl) (by omega) ?_
      | refine EL.fF (FV.eql rfl rfl) rfl (fun _ => rfl) (by omega) ?_
      | refine EL.fF (FV.neq rfl rfl) rfl (fun _ => rfl) (by omega) ?_
      | refine EL.f (FV.rem rfl rfl (by decide)) rfl rfl ?_
      | refine EL.f (FV.idx0 rfl rfl rfl rfl (by omega) (by omega)) rfl rfl ?_
      | refine EL.f (FV.idx1 rfl rfl rfl rfl (by omega) (by omega)) rfl rfl ?_
      | refine EL.f (FV.load1 rfl rfl rfl (by assumption)) rfl rfl ?_)
    refine ⟨k + 1, ⟨rfl, rfl, rfl, trivial⟩, ⟨by omega, by omega, ?_, Below.set_ hb.drew (by omega) _⟩, by omega⟩
    have e := filled_set (integL xs) k xs.length (by omega) (by omega)
    rw [integL_get xs k hlt h1] at e
    rw [← e]
    exact AtI.set_ (At.ext hat (Ext.drew _)) _
  · obtain rfl : k = xs.length := by omega
    have e := filled_full (integL xs)
    rw [hl0] at e
    rw [e] at hat
    repeat' (first
      | refine EW.seq ?_
      | refine EL.f (FV.move rfl) rfl rfl ?_
      | refine EL.f (FV.assign rfl) rfl rfl ?_
      | refine EL.nil ?_
      | refine EW.region ?_
      | refine EW.block ?_
      | refine EW.skip ?_
      | refine EW.exit ?_
      | refine EW.ret ?_
      | refine EW.condT rfl ?_
      | refine EW.condF rfl ?_
      | refine EL.f (FV.addI rfl rfl (by omega)) rfl rfl ?_
      | refine EL.f (FV.subI rfl rfl (by omega)) rfl rfl ?_
      | refine EL.f (FV.remI rfl rfl (by decide) (by omega)) rfl rfl ?_
      | refine EL.f (FV.quoI rfl rfl (by decide) (by omega)) rfl rfl ?_
      | refine EL.f (FV.extract rfl rfl) rfl rfl ?_
      | refine EL.f (FV.len rfl rfl) rfl rfl ?_
      | refine EL.f (FV.lenS rfl rfl) rfl rfl ?_
      | refine EL.f (FV.not rfl) rfl rfl ?_
      | refine EL.skip rfl rfl ?_
      | refine EL.f (FV.pickT rfl rfl) rfl rfl ?_
      | refine EL.f (FV.pickF rfl rfl) rfl rfl ?_
      | refine EL.fT (FV.lss rfl rfl) rfl (fun _ => rfl) (by omega) ?_
      | refine EL.fT (FV.leq rfl rfl) rfl (fun _ => rfl) (by omega) ?_
      | refine EL.fT (FV.gtr rfl rfl) rfl (fun _ => rfl) (by omega) ?_
      | refine EL.fT (FV.geq rfl rfl) rfl (fun _ => rfl) (by omega) ?_
      | refine EL.fT (FV.eql rfl rfl) rfl (fun _ => rfl) (by omega) ?_
      | refine EL.fT (FV.neq rfl rfl) rfl (fun _ => rfl) (by omega) ?_
      | refine EL.fF (FV.lss rfl rfl) rfl (fun _ => rfl) (by omega) ?_
      | refine EL.fF (FV.leq rfl rfl) rfl (fun _ => rfl) (by omega) ?_
      | refine EL.fF (FV.gtr rfl rfl) rfl (fun _ => rfl) (by omega) ?_
      | refine EL.fF (FV.geq rfl rfl) rfl (fun _ => rfl) (by omega) ?_
      | refine EL.fF (FV.eql rfl rfl) rfl (fun _ => rfl) (by omega) ?_
      | refine EL.fF (FV.neq rfl rfl) rfl (fun _ => rfl) (by omega) ?_
      | refine EL.f (FV.rem rfl rfl (by decide)) rfl rfl ?_
      | refine EL.f (FV.idx0 rfl rfl rfl rfl (by omega) (by omega)) rfl rfl ?_
      | refine EL.f (FV.idx1 rfl rfl rfl rfl (by omega) (by omega)) rfl rfl ?_
      | refine EL.f (FV.load1 rfl rfl rfl (by assumption)) rfl rfl ?_)
    refine ⟨_, rfl, ?_, hb⟩
    have := AtI.own (B := w.heap.size) hat (by omega)
    rwa [hl0] at this

def DerivR (xs : List Int) : List Int × Int := if vld xs = true then (derivL xs, 0) else ([], 1)
theorem DerivR_len (xs : List Int) : (DerivR xs).1.length ≤ 1048576 := by
  unfold DerivR
  split
  · rename_i h; have := vld_len h; simp only; rw [derivL_length]; omega
  · simp
theorem implDerivativeOfS (A : Option Addr) (c : Nat) (xs : List Int) (w : World) (hx : Rd w A (ints xs)) (hn : xs.length ≤ 1048576) :
    CallsR Try.prog 37 [.slice A xs.length c] w (SerOut w (DerivR xs)) := by
  refine CallsR.enter Try.func37 (by decide +kernel) rfl Try.ntmps37 rfl ?_
  have cx := implValid A c xs w hx (by omega)
  unfold DerivR
  cases vx : vld xs
  · rw [vx] at cx
    repeat' (first
      | (refine EL.h (Hv.call cx rfl) rfl (fun _ => rfl) ?_; rintro _ _ ⟨rfl, rfl⟩)
      | refine EW.seq ?_
      | refine EL.f (FV.move rfl) rfl rfl ?_
      | refine EL.f (FV.assign rfl) rfl rfl ?_
      | refine EL.nil ?_
      | refine EW.region ?_
      | refine EW.block ?_
      | refine EW.skip ?_
      | refine EW.exit ?_
      | refine EW.ret ?_
      | refine EW.condT rfl ?_
      | refine EW.condF rfl ?_
      | refine EL.f (FV.addI rfl rfl (by omega)) rfl rfl ?_
      | refine EL.f (FV.subI rfl rfl (by omega)) rfl rfl ?_
      | refine EL.f (FV.remI rfl rfl (by decide) (by omega)) rfl rfl ?_
      | refine EL.f (FV.quoI rfl rfl (by decide) (by omega)) rfl rfl ?_
      | refine EL.f (FV.extract rfl rfl) rfl rfl ?_
      | refine EL.f (FV.len rfl rfl) rfl rfl ?_
      | refine EL.f (FV.lenS rfl rfl) rfl rfl ?_
      | refine EL.f (FV.not rfl) rfl rfl ?_
      | refine EL.skip rfl rfl ?_
      | refine EL.f (FV.pickT rfl rfl) rfl rfl ?_
      | refine EL.f (FV.pickF rfl rfl) rfl rfl ?_
      | refine EL.fT (FV.lss rfl rfl) rfl (fun _ => rfl) (by omega) ?_
      | refine EL.fT (FV.leq rfl rfl) rfl (fun _ => rfl) (by omega) ?_
      | refine EL.fT (FV.gtr rfl rfl) rfl (fun _ => rfl) (by omega) ?_
      | refine EL.fT (FV.geq rfl rfl) rfl (fun _ => rfl) (by omega) ?_
      | refine EL.fT (FV.eql rfl rfl) rfl (fun _ => rfl) (by omega) ?_
      | refine EL.fT (FV.neq rfl rfl) rfl (fun _ => rfl) (by omega) ?_
      | refine EL.fF (FV.lss rfl rfl) rfl (fun _ => rfl) (by omega) ?_
      | refine EL.fF (FV.leq rfl rfl) rfl (fun _ => rfl) (by omega) ?_
      | refine EL.fF (FV.gtr rfl rfl) rfl (fun _ => rfl) (by omega) ?_
      | refine EL.fF (FV.geq rfl rfl) rfl (fun _ => rfl) (by omega) ?_
      | refine EL.fF (FV.eql rfl rfl) rfl (fun _ => rfl) (by omega) ?_
      | refine EL.fF (FV.neq rfl rfl) rfl (fun _ => rfl) (by omega) ?_
      | refine EL.f (FV.rem rfl rfl (by decide)) rfl rfl ?_
      | refine EL.f (FV.idx0 rfl rfl rfl rfl (by omega) (by omega)) rfl rfl ?_
      | refine EL.f (FV.idx1 rfl rfl rfl rfl (by omega) (by omega)) rfl rfl ?_
      | refine EL.f (FV.load1 rfl rfl rfl (by assumption)) rfl rfl ?_)
    exact ⟨_, rfl, SerOut.nil _ _⟩
  · rw [vx] at cx
    have hl := vld_len vx
    repeat' (first
      | (refine EL.h (Hv.call cx rfl) rfl (fun _ => rfl) ?_; rintro _ _ ⟨rfl, rfl⟩)
      | (refine EL.h (Hv.call (implDerivative A c xs w hx hl.1 (by omega) hl.2.2) rfl) rfl (fun _ => rfl) ?_; rintro v w' ⟨ho, he⟩)
      | refine EW.seq ?_
      | refine EL.f (FV.move rfl) rfl rfl ?_
      | refine EL.f (FV.assign rfl) rfl rfl ?_
      | refine EL.nil ?_
      | refine EW.region ?_
      | refine EW.block ?_
      | refine EW.skip ?_
      | refine EW.exit ?_
      | refine EW.ret ?_
      | refine EW.condT rfl ?_
      | refine EW.condF rfl ?_
      | refine EL.f (FV.addI rfl rfl (by omega)) rfl rfl ?_
      | refine EL.f (FV.subI rfl rfl (by omega)) rfl rfl ?_
      | refine EL.f (FV.remI rfl rfl (by decide) (by omega)) rfl rfl ?_
      | refine EL.f (FV.quoI rfl rfl (by decide) (by omega)) rfl rfl ?_
      | refine EL.f (FV.extract rfl rfl) rfl rfl ?_
      | refine EL.f (FV.len rfl rfl) rfl rfl ?_
      | refine EL.f (FV.lenS rfl rfl) rfl rfl ?_
      | refine EL.f (FV.not rfl) rfl rfl ?_
      | refine EL.skip rfl rfl ?_
      | refine EL.f (FV.pickT rfl rfl) rfl rfl ?_
      | refine EL.f (FV.pickF rfl rfl) rfl rfl ?_
      | refine EL.fT (FV.lss rfl rfl) rfl (fun _ => rfl) (by omega) ?_
      | refine EL.fT (FV.leq rfl rfl) rfl (fun _ => rfl) (by omega) ?_
      | refine EL.fT (FV.gtr rfl rfl) rfl (fun _ => rfl) (by omega) ?_
      | refine EL.fT (FV.geq rfl rfl) rfl (fun _ => rfl) (by omega) ?_
      | refine EL.fT (FV.eql rfl rfl) rfl (fun _ => rfl) (by omega) ?_
      | refine EL.fT (FV.neq rfl rfl) rfl (fun _ => rfl) (by omega) ?_
      | refine EL.fF (FV.lss rfl rfl) rfl (fun _ => rfl) (by omega) ?_
      | refine EL.fF (FV.leq rfl rfl) rfl (fun _ => rfl) (by omega) ?_
      | refine EL.fF (FV.gtr rfl rfl) rfl (fun _ => rfl) (by omega) ?_
      | refine EL.fF (FV.geq rfl rfl) rfl (fun _ => rfl) (by omega) ?_
      | refine EL.fF (FV.eql rfl rfl) rfl (fun _ => rfl) (by omega) ?_
      | refine EL.fF (FV.neq rfl rfl) rfl (fun _ => rfl) (by omega) ?_
      | refine EL.f (FV.rem rfl rfl (by decide)) rfl rfl ?_
      | refine EL.f (FV.idx0 rfl rfl rfl rfl (by omega) (by omega)) rfl rfl ?_
      | refine EL.f (FV.idx1 rfl rfl rfl rfl (by omega) (by omega)) rfl rfl ?_
      | refine EL.f (FV.load1 rfl rfl rfl (by assumption)) rfl rfl ?_)
    exact ⟨_, rfl, v, rfl, ho, he⟩
theorem specDerivativeOfS (A : Option Addr) (c : Nat) (xs : List Int) (w : World) (hx : Rd w A (ints xs)) (hn : xs.length ≤ 1048576) :
    CallsR Try.prog 36 [.slice A xs.length c] w (SerOut w (DerivR xs)) := by
  refine CallsR.enter Try.func36 (by decide +kernel) rfl Try.ntmps36 rfl ?_
  have cx := specOk A c xs w hx (by omega)
  unfold DerivR
  cases vx : vld xs
  · rw [vx] at cx
    repeat' (first
      | (refine EL.h (Hv.call cx rfl) rfl (fun _ => rfl) ?_; rintro _ _ ⟨rfl, rfl⟩)
      | (refine EL.h (Hv.build0 rfl rfl) rfl (fun _ => rfl) ?_; rintro v w' ⟨ho, he⟩)
      | refine EW.seq ?_
      | refine EL.f (FV.move rfl) rfl rfl ?_
      | refine EL.f (FV.assign rfl) rfl rfl ?_
      | refine EL.nil ?_
      | refine EW.region ?_
      | refine EW.block ?_
      | refine EW.skip ?_
      | refine EW.exit ?_
      | refine EW.ret ?_
      | refine EW.condT rfl ?_
      | refine EW.condF rfl ?_
      | refine EL.f (FV.addI rfl rfl (by omega)) rfl rfl ?_
      | refine EL.f (FV.subI rfl rfl (by omega)) rfl rfl ?_
      | refine EL.f (FV.remI rfl rfl (by decide) (by omega)) rfl rfl ?_
      | refine EL.f (FV.quoI rfl rfl (by decide) (by omega)) rfl rfl ?_
      | refine EL.f (FV.extract rfl rfl) rfl rfl ?_
      | refine EL.f (FV.len rfl rfl) rfl rfl ?_
      | refine EL.f (FV.lenS rfl rfl) rfl rfl ?_
      | refine EL.f (FV.not rfl) rfl rfl ?_
      | refine EL.skip rfl rfl ?_
      | refine EL.f (FV.pickT rfl rfl) rfl rfl ?_
      | refine EL.f (FV.pickF rfl rfl) rfl rfl ?_
      | refine EL.fT (FV.lss rfl rfl) rfl (fun _ => rfl) (by omega) ?_
      | refine EL.fT (FV.leq rfl rfl) rfl (fun _ => rfl) (by omega) ?_
      | refine EL.fT (FV.gtr rfl rfl) rfl (fun _ => rfl) (by omega) ?_
      | refine EL.fT (FV.geq rfl rfl) rfl (fun _ => rfl) (by omega) ?_
      | refine EL.fT (FV.eql rfl rfl) rfl (fun _ => rfl) (by omega) ?_
      | refine EL.fT (FV.neq rfl rfl) rfl (fun _ => rfl) (by omega) ?_
      | refine EL.fF (FV.lss rfl rfl) rfl (fun _ => rfl) (by omega) ?_
      | refine EL.fF (FV.leq rfl rfl) rfl (fun _ => rfl) (by omega) ?_
      | refine EL.fF (FV.gtr rfl rfl) rfl (fun _ => rfl) (by omega) ?_
      | refine EL.fF (FV.geq rfl rfl) rfl (fun _ => rfl) (by omega) ?_
      | refine EL.fF (FV.eql rfl rfl) rfl (fun _ => rfl) (by omega) ?_
      | refine EL.fF (FV.neq rfl rfl) rfl (fun _ => rfl) (by omega) ?_
      | refine EL.f (FV.rem rfl rfl (by decide)) rfl rfl ?_
      | refine EL.f (FV.idx0 rfl rfl rfl rfl (by omega) (by omega)) rfl rfl ?_
      | refine EL.f (FV.idx1 rfl rfl rfl rfl (by omega) (by omega)) rfl rfl ?_
      | refine EL.f (FV.load1 rfl rfl rfl (by assumption)) rfl rfl ?_)
    exact ⟨_, rfl, v, rfl, ho, he⟩
  · rw [vx] at cx
    have hl := vld_len vx
    repeat' (first
      | (refine EL.h (Hv.call cx rfl) rfl (fun _ => rfl) ?_; rintro _ _ ⟨rfl, rfl⟩)
      | (refine EL.h (Hv.call (specDerive A c xs w hx hl.1 (by omega)) rfl) rfl (fun _ => rfl) ?_; rintro v w' ⟨ho, he⟩)
      | refine EW.seq ?_
      | refine EL.f (FV.move rfl) rfl rfl ?_
      | refine EL.f (FV.assign rfl) rfl rfl ?_
      | refine EL.nil ?_
      | refine EW.region ?_
      | refine EW.block ?_
      | refine EW.skip ?_
      | refine EW.exit ?_
      | refine EW.ret ?_
      | refine EW.condT rfl ?_
      | refine EW.condF rfl ?_
      | refine EL.f (FV.addI rfl rfl (by omega)) rfl rfl ?_
      | refine EL.f (FV.subI rfl rfl (by omega)) rfl rfl ?_
      | refine EL.f (FV.remI rfl rfl (by decide) (by omega)) rfl rfl ?_
      | refine EL.f (FV.quoI rfl rfl (by decide) (by omega)) rfl rfl ?_
      | refine EL.f (FV.extract rfl rfl) rfl rfl ?_
      | refine EL.f (FV.len rfl rfl) rfl rfl ?_
      | refine EL.f (FV.lenS rfl rfl) rfl rfl ?_
      | refine EL.f (FV.not rfl) rfl rfl ?_
      | refine EL.skip rfl rfl ?_
      | refine EL.f (FV.pickT rfl rfl) rfl rfl ?_
      | refine EL.f (FV.pickF rfl rfl) rfl rfl ?_
      | refine EL.fT (FV.lss rfl rfl) rfl (fun _ => rfl) (by omega) ?_
      | refine EL.fT (FV.leq rfl rfl) rfl (fun _ => rfl) (by omega) ?_
      | refine EL.fT (FV.gtr rfl rfl) rfl (fun _ => rfl) (by omega) ?_
      | refine EL.fT (FV.geq rfl rfl) rfl (fun _ => rfl) (by omega) ?_
      | refine EL.fT (FV.eql rfl rfl) rfl (fun _ => rfl) (by omega) ?_
      | refine EL.fT (FV.neq rfl rfl) rfl (fun _ => rfl) (by omega) ?_
      | refine EL.fF (FV.lss rfl rfl) rfl (fun _ => rfl) (by omega) ?_
      | refine EL.fF (FV.leq rfl rfl) rfl (fun _ => rfl) (by omega) ?_
      | refine EL.fF (FV.gtr rfl rfl) rfl (fun _ => rfl) (by omega) ?_
      | refine EL.fF (FV.geq rfl rfl) rfl (fun _ => rfl) (by omega) ?_
      | refine EL.fF (FV.eql rfl rfl) rfl (fun _ => rfl) (by omega) ?_
      | refine EL.fF (FV.neq rfl rfl) rfl (fun _ => rfl) (by omega) ?_
      | refine EL.f (FV.rem rfl rfl (by decide)) rfl rfl ?_
      | refine EL.f (FV.idx0 rfl rfl rfl rfl (by omega) (by omega)) rfl rfl ?_
      | refine EL.f (FV.idx1 rfl rfl rfl rfl (by omega) (by omega)) rfl rfl ?_
      | refine EL.f (FV.load1 rfl rfl rfl (by assumption)) rfl rfl ?_)
    exact ⟨_, rfl, v, rfl, ho, he⟩
theorem lawDerivativeOf (A0 : Option Addr) (c0 : Nat) (xs0 : List Int) (w : World) (h0 : Rd w A0 (ints xs0)) : CallsR Try.prog 10 [.slice A0 xs0.length c0] w fun v w' => v = .bool true ∧ Ext w w' := by
  refine CallsR.enter Try.func10 (by decide +kernel) rfl Try.ntmps10 rfl ?_
  by_cases hl0 : (1048576 : Int) < xs0.length
  · repeat' (first
      | refine EW.seq ?_
      | refine EL.f (FV.move rfl) rfl rfl ?_
      | refine EL.f (FV.assign rfl) rfl rfl ?_
      | refine EL.nil ?_
      | refine EW.region ?_
      | refine EW.block ?_
      | refine EW.skip ?_
      | refine EW.exit ?_
      | refine EW.ret ?_
      | refine EW.condT rfl ?_
      | refine EW.condF rfl ?_
      | refine EL.f (FV.addI rfl rfl (by omega)) rfl rfl ?_
      | refine EL.f (FV.subI rfl rfl (by omega)) rfl rfl ?_
      | refine EL.f (FV.remI rfl rfl (by decide) (by omega)) rfl rfl ?_
      | refine EL.f (FV.quoI rfl rfl (by decide) (by omega)) rfl rfl ?_
      | refine EL.f (FV.extract rfl rfl) rfl rfl ?_
      | refine EL.f (FV.len rfl rfl) rfl rfl ?_
      | refine EL.f (FV.lenS rfl rfl) rfl rfl ?_
      | refine EL.f (FV.not rfl) rfl rfl ?_
      | refine EL.skip rfl rfl ?_
      | refine EL.f (FV.pickT rfl rfl) rfl rfl ?_
      | refine EL.f (FV.pickF rfl rfl) rfl rfl ?_
      | refine EL.fT (FV.lss rfl rfl) rfl (fun _ => rfl) (by omega) ?_
      | refine EL.fT (FV.leq rfl rfl) rfl (fun _ => rfl) (by omega) ?_
      | refine EL.fT (FV.gtr rfl rfl) rfl (fun _ => rfl) (by omega) ?_
      | refine EL.fT (FV.geq rfl rfl) rfl (fun _ => rfl) (by omega) ?_
      | refine EL.fT (FV.eql rfl rfl) rfl (fun _ => rfl) (by omega) ?_
      | refine EL.fT (FV.neq rfl rfl) rfl (fun _ => rfl) (by omega) ?_
      | refine EL.fF (FV.lss rfl rfl) rfl (fun _ => rfl) (by omega) ?_
      | refine EL.fF (FV.leq rfl rfl) rfl (fun _ => rfl) (by omega) ?_
      | refine EL.fF (FV.gtr rfl rfl) rfl (fun _ => rfl) (by omega) ?_
      | refine EL.fF (FV.geq rfl rfl) rfl (fun _ => rfl) (by omega) ?_
      | refine EL.fF (FV.eql rfl rfl) rfl (fun _ => rfl) (by omega) ?_
      | refine EL.fF (FV.neq rfl rfl) rfl (fun _ => rfl) (by omega) ?_
      | refine EL.f (FV.rem rfl rfl (by decide)) rfl rfl ?_
      | refine EL.f (FV.idx0 rfl rfl rfl rfl (by omega) (by omega)) rfl rfl ?_
      | refine EL.f (FV.idx1 rfl rfl rfl rfl (by omega) (by omega)) rfl rfl ?_
      | refine EL.f (FV.load1 rfl rfl rfl (by assumption)) rfl rfl ?_)
    exact ⟨_, rfl, rfl, Ext.refl _⟩
  have hn0 : xs0.length ≤ 1048576 := by omega
  have hr := DerivR_len xs0
  repeat' (first
    | refine EW.seq ?_
    | refine EL.f (FV.move rfl) rfl rfl ?_
    | refine EL.f (FV.assign rfl) rfl rfl ?_
    | refine EL.nil ?_
    | refine EW.region ?_
    | refine EW.block ?_
    | refine EW.skip ?_
    | refine EW.exit ?_
    | refine EW.ret ?_
    | refine EW.condT rfl ?_
    | refine EW.condF rfl ?_
    | refine EL.f (FV.addI rfl rfl (by omega)) rfl rfl ?_
    | refine EL.f (FV.subI rfl rfl (by omega)) rfl rfl ?_
    | refine EL.f (FV.remI rfl rfl (by decide) (by omega)) rfl rfl ?_
    | refine EL.f (FV.quoI rfl rfl (by decide) (by omega)) rfl rfl ?_
    | refine EL.f (FV.extract rfl rfl) rfl rfl ?_
    | refine EL.f (FV.len rfl rfl) rfl rfl ?_
    | refine EL.f (FV.lenS rfl rfl) rfl rfl ?_
    | refine EL.f (FV.not rfl) rfl rfl ?_
    | refine EL.skip rfl rfl ?_
    | refine EL.f (FV.pickT rfl rfl) rfl rfl ?_
    | refine EL.f (FV.pickF rfl rfl) rfl rfl ?_
    | refine EL.fT (FV.lss rfl rfl) rfl (fun _ => rfl) (by omega) ?_
    | refine EL.fT (FV.leq rfl rfl) rfl (fun _ => rfl) (by omega) ?_
    | refine EL.fT (FV.gtr rfl rfl) rfl (fun _ => rfl) (by omega) ?_
    | refine EL.fT (FV.geq rfl rfl) rfl (fun _ => rfl) (by omega) ?_
    | refine EL.fT (FV.eql rfl rfl) rfl (fun _ => rfl) (by omega) ?_
    | refine EL.fT (FV.neq rfl rfl) rfl (fun _ => rfl) (by omega) ?_
    | refine EL.fF (FV.lss rfl rfl) rfl (fun _ => rfl) (by omega) ?_
    | refine EL.fF (FV.leq rfl rfl) rfl (fun _ => rfl) (by omega) ?_
    | refine EL.fF (FV.gtr rfl rfl) rfl (fun _ => rfl) (by omega) ?_
    | refine EL.fF (FV.geq rfl rfl) rfl (fun _ => rfl) (by omega) ?_
    | refine EL.fF (FV.eql rfl rfl) rfl (fun _ => rfl) (by omega) ?_
    | refine EL.fF (FV.neq rfl rfl) rfl (fun _ => rfl) (by omega) ?_
    | refine EL.f (FV.rem rfl rfl (by decide)) rfl rfl ?_
    | refine EL.f (FV.idx0 rfl rfl rfl rfl (by omega) (by omega)) rfl rfl ?_
    | refine EL.f (FV.idx1 rfl rfl rfl rfl (by omega) (by omega)) rfl rfl ?_
    | refine EL.f (FV.load1 rfl rfl rfl (by assumption)) rfl rfl ?_)
  refine EL.h (Hv.call (toInts A0 c0 xs0 w (h0.ext (Ext.refl w)) hn0) rfl) rfl (fun _ => rfl) ?_
  rintro _ u1 ⟨p0, rfl, pb0, pt0, e1⟩
  have W1 := (Ext.refl w).trans e1
  repeat' (first
    | refine EW.seq ?_
    | refine EL.f (FV.move rfl) rfl rfl ?_
    | refine EL.f (FV.assign rfl) rfl rfl ?_
    | refine EL.nil ?_
    | refine EW.region ?_
    | refine EW.block ?_
    | refine EW.skip ?_
    | refine EW.exit ?_
    | refine EW.ret ?_
    | refine EW.condT rfl ?_
    | refine EW.condF rfl ?_
    | refine EL.f (FV.addI rfl rfl (by omega)) rfl rfl ?_
    | refine EL.f (FV.subI rfl rfl (by omega)) rfl rfl ?_
    | refine EL.f (FV.remI rfl rfl (by decide) (by omega)) rfl rfl ?_
    | refine EL.f (FV.quoI rfl rfl (by decide) (by omega)) rfl rfl ?_
    | refine EL.f (FV.extract rfl rfl) rfl rfl ?_
    | refine EL.f (FV.len rfl rfl) rfl rfl ?_
    | refine EL.f (FV.lenS rfl rfl) rfl rfl ?_
    | refine EL.f (FV.not rfl) rfl rfl ?_
    | refine EL.skip rfl rfl ?_
    | refine EL.f (FV.pickT rfl rfl) rfl rfl ?_
    | refine EL.f (FV.pickF rfl rfl) rfl rfl ?_
    | refine EL.fT (FV.lss rfl rfl) rfl (fun _ => rfl) (by omega) ?_
    | refine EL.fT (FV.leq rfl rfl) rfl (fun _ => rfl) (by omega) ?_
    | refine EL.fT (FV.gtr rfl rfl) rfl (fun _ => rfl) (by omega) ?_
    | refine EL.fT (FV.geq rfl rfl) rfl (fun _ => rfl) (by omega) ?_
    | refine EL.fT (FV.eql rfl rfl) rfl (fun _ => rfl) (by omega) ?_
    | refine EL.fT (FV.neq rfl rfl) rfl (fun _ => rfl) (by omega) ?_
    | refine EL.fF (FV.lss rfl rfl) rfl (fun _ => rfl) (by omega) ?_
    | refine EL.fF (FV.leq rfl rfl) rfl (fun _ => rfl) (by omega) ?_
    | refine EL.fF (FV.gtr rfl rfl) rfl (fun _ => rfl) (by omega) ?_
    | refine EL.fF (FV.geq rfl rfl) rfl (fun _ => rfl) (by omega) ?_
    | refine EL.fF (FV.eql rfl rfl) rfl (fun _ => rfl) (by omega) ?_
    | refine EL.fF (FV.neq rfl rfl) rfl (fun _ => rfl) (by omega) ?_
    | refine EL.f (FV.rem rfl rfl (by decide)) rfl rfl ?_
    | refine EL.f (FV.idx0 rfl rfl rfl rfl (by omega) (by omega)) rfl rfl ?_
    | refine EL.f (FV.idx1 rfl rfl rfl rfl (by omega) (by omega)) rfl rfl ?_
    | refine EL.f (FV.load1 rfl rfl rfl (by assumption)) rfl rfl ?_)
  refine EL.h (Hv.call (specDerivativeOfS (some ⟨p0, 0, none⟩) _ xs0 u1 (At.rd pt0) hn0) rfl) rfl (fun _ => rfl) ?_
  rintro _ u2 ⟨sv, rfl, sown, e2⟩
  have W2 := W1.trans e2
  obtain ⟨SA, sc, rfl, sr⟩ := sown.form
  repeat' (first
    | refine EW.seq ?_
    | refine EL.f (FV.move rfl) rfl rfl ?_
    | refine EL.f (FV.assign rfl) rfl rfl ?_
    | refine EL.nil ?_
    | refine EW.region ?_
    | refine EW.block ?_
    | refine EW.skip ?_
    | refine EW.exit ?_
    | refine EW.ret ?_
    | refine EW.condT rfl ?_
    | refine EW.condF rfl ?_
    | refine EL.f (FV.addI rfl rfl (by omega)) rfl rfl ?_
    | refine EL.f (FV.subI rfl rfl (by omega)) rfl rfl ?_
    | refine EL.f (FV.remI rfl rfl (by decide) (by omega)) rfl rfl ?_
    | refine EL.f (FV.quoI rfl rfl (by decide) (by omega)) rfl rfl ?_
    | refine EL.f (FV.extract rfl rfl) rfl rfl ?_
    | refine EL.f (FV.len rfl rfl) rfl rfl ?_
    | refine EL.f (FV.lenS rfl rfl) rfl rfl ?_
    | refine EL.f (FV.not rfl) rfl rfl ?_
    | refine EL.skip rfl rfl ?_
    | refine EL.f (FV.pickT rfl rfl) rfl rfl ?_
    | refine EL.f (FV.pickF rfl rfl) rfl rfl ?_
    | refine EL.fT (FV.lss rfl rfl) rfl (fun _ => rfl) (by omega) ?_
    | refine EL.fT (FV.leq rfl rfl) rfl (fun _ => rfl) (by omega) ?_
    | refine EL.fT (FV.gtr rfl rfl) rfl (fun _ => rfl) (by omega) ?_
    | refine EL.fT (FV.geq rfl rfl) rfl (fun _ => rfl) (by omega) ?_
    | refine EL.fT (FV.eql rfl rfl) rfl (fun _ => rfl) (by omega) ?_
    | refine EL.fT (FV.neq rfl rfl) rfl (fun _ => rfl) (by omega) ?_
    | refine EL.fF (FV.lss rfl rfl) rfl (fun _ => rfl) (by omega) ?_
    | refine EL.fF (FV.leq rfl rfl) rfl (fun _ => rfl) (by omega) ?_
    | refine EL.fF (FV.gtr rfl rfl) rfl (fun _ => rfl) (by omega) ?_
    | refine EL.fF (FV.geq rfl rfl) rfl (fun _ => rfl) (by omega) ?_
    | refine EL.fF (FV.eql rfl rfl) rfl (fun _ => rfl) (by omega) ?_
    | refine EL.fF (FV.neq rfl rfl) rfl (fun _ => rfl) (by omega) ?_
    | refine EL.f (FV.rem rfl rfl (by decide)) rfl rfl ?_
    | refine EL.f (FV.idx0 rfl rfl rfl rfl (by omega) (by omega)) rfl rfl ?_
    | refine EL.f (FV.idx1 rfl rfl rfl rfl (by omega) (by omega)) rfl rfl ?_
    | refine EL.f (FV.load1 rfl rfl rfl (by assumption)) rfl rfl ?_)
  refine EL.h (Hv.call (toInts A0 c0 xs0 u2 (h0.ext W2) hn0) rfl) rfl (fun _ => rfl) ?_
  rintro _ u3 ⟨x0, rfl, xb0, xt0, e3⟩
  have W3 := W2.trans e3
  have S3 := (Ext.refl u2).trans e3
  have xl0 := At.lt xt0
  repeat' (first
    | refine EW.seq ?_
    | refine EL.f (FV.move rfl) rfl rfl ?_
    | refine EL.f (FV.assign rfl) rfl rfl ?_
    | refine EL.nil ?_
    | refine EW.region ?_
    | refine EW.block ?_
    | refine EW.skip ?_
    | refine EW.exit ?_
    | refine EW.ret ?_
    | refine EW.condT rfl ?_
    | refine EW.condF rfl ?_
    | refine EL.f (FV.addI rfl rfl (by omega)) rfl rfl ?_
    | refine EL.f (FV.subI rfl rfl (by omega)) rfl rfl ?_
    | refine EL.f (FV.remI rfl rfl (by decide) (by omega)) rfl rfl ?_
    | refine EL.f (FV.quoI rfl rfl (by decide) (by omega)) rfl rfl ?_
    | refine EL.f (FV.extract rfl rfl) rfl rfl ?_
    | refine EL.f (FV.len rfl rfl) rfl rfl ?_
    | refine EL.f (FV.lenS rfl rfl) rfl rfl ?_
    | refine EL.f (FV.not rfl) rfl rfl ?_
    | refine EL.skip rfl rfl ?_
    | refine EL.f (FV.pickT rfl rfl) rfl rfl ?_
    | refine EL.f (FV.pickF rfl rfl) rfl rfl ?_
    | refine EL.fT (FV.lss rfl rfl) rfl (fun _ => rfl) (by omega) ?_
    | refine EL.fT (FV.leq rfl rfl) rfl (fun _ => rfl) (by omega) ?_
    | refine EL.fT (FV.gtr rfl rfl) rfl (fun _ => rfl) (by omega) ?_
    | refine EL.fT (FV.geq rfl rfl) rfl (fun _ => rfl) (by omega) ?_
    | refine EL.fT (FV.eql rfl rfl) rfl (fun _ => rfl) (by omega) ?_
    | refine EL.fT (FV.neq rfl rfl) rfl (fun _ => rfl) (by omega) ?_
    | refine EL.fF (FV.lss rfl rfl) rfl (fun _ => rfl) (by omega) ?_
    | refine EL.fF (FV.leq rfl rfl) rfl (fun _ => rfl) (by omega) ?_
    | refine EL.fF (FV.gtr rfl rfl) rfl (fun _ => rfl) (by omega) ?_
    | refine EL.fF (FV.geq rfl rfl) rfl (fun _ => rfl) (by omega) ?_
    | refine EL.fF (FV.eql rfl rfl) rfl (fun _ => rfl) (by omega) ?_
    | refine EL.fF (FV.neq rfl rfl) rfl (fun _ => rfl) (by omega) ?_
    | refine EL.f (FV.rem rfl rfl (by decide)) rfl rfl ?_
    | refine EL.f (FV.idx0 rfl rfl rfl rfl (by omega) (by omega)) rfl rfl ?_
    | refine EL.f (FV.idx1 rfl rfl rfl rfl (by omega) (by omega)) rfl rfl ?_
    | refine EL.f (FV.load1 rfl rfl rfl (by assumption)) rfl rfl ?_)
  refine EL.h (Hv.call (implDerivativeOfS (some ⟨x0, 0, none⟩) _ xs0 u3 (At.rd xt0) hn0) rfl) rfl (fun _ => rfl) ?_
  rintro _ u4 ⟨gv, rfl, gown, e4⟩
  have W4 := W3.trans e4
  have S4 := S3.trans e4
  replace xt0 := At.ext xt0 e4
  obtain ⟨GA, gc, rfl, _⟩ := gown.form
  have xg0 : x0 < u3.heap.size := by have := xl0;  omega
  have xs_0 : u2.heap.size ≤ x0 := by have := xb0;  omega
  have ug : u2.heap.size ≤ u3.heap.size := by have := e3.size; omega
  repeat' (first
    | refine EW.seq ?_
    | refine EL.f (FV.move rfl) rfl rfl ?_
    | refine EL.f (FV.assign rfl) rfl rfl ?_
    | refine EL.nil ?_
    | refine EW.region ?_
    | refine EW.block ?_
    | refine EW.skip ?_
    | refine EW.exit ?_
    | refine EW.ret ?_
    | refine EW.condT rfl ?_
    | refine EW.condF rfl ?_
    | refine EL.f (FV.addI rfl rfl (by omega)) rfl rfl ?_
    | refine EL.f (FV.subI rfl rfl (by omega)) rfl rfl ?_
    | refine EL.f (FV.remI rfl rfl (by decide) (by omega)) rfl rfl ?_
    | refine EL.f (FV.quoI rfl rfl (by decide) (by omega)) rfl rfl ?_
    | refine EL.f (FV.extract rfl rfl) rfl rfl ?_
    | refine EL.f (FV.len rfl rfl) rfl rfl ?_
    | refine EL.f (FV.lenS rfl rfl) rfl rfl ?_
    | refine EL.f (FV.not rfl) rfl rfl ?_
    | refine EL.skip rfl rfl ?_
    | refine EL.f (FV.pickT rfl rfl) rfl rfl ?_
    | refine EL.f (FV.pickF rfl rfl) rfl rfl ?_
    | refine EL.fT (FV.lss rfl rfl) rfl (fun _ => rfl) (by omega) ?_
    | refine EL.fT (FV.leq rfl rfl) rfl (fun _ => rfl) (by omega) ?_
    | refine EL.fT (FV.gtr rfl rfl) rfl (fun _ => rfl) (by omega) ?_
    | refine EL.fT (FV.geq rfl rfl) rfl (fun _ => rfl) (by omega) ?_
    | refine EL.fT (FV.eql rfl rfl) rfl (fun _ => rfl) (by omega) ?_
    | refine EL.fT (FV.neq rfl rfl) rfl (fun _ => rfl) (by omega) ?_
    | refine EL.fF (FV.lss rfl rfl) rfl (fun _ => rfl) (by omega) ?_
    | refine EL.fF (FV.leq rfl rfl) rfl (fun _ => rfl) (by omega) ?_
    | refine EL.fF (FV.gtr rfl rfl) rfl (fun _ => rfl) (by omega) ?_
    | refine EL.fF (FV.geq rfl rfl) rfl (fun _ => rfl) (by omega) ?_
    | refine EL.fF (FV.eql rfl rfl) rfl (fun _ => rfl) (by omega) ?_
    | refine EL.fF (FV.neq rfl rfl) rfl (fun _ => rfl) (by omega) ?_
    | refine EL.f (FV.rem rfl rfl (by decide)) rfl rfl ?_
    | refine EL.f (FV.idx0 rfl rfl rfl rfl (by omega) (by omega)) rfl rfl ?_
    | refine EL.f (FV.idx1 rfl rfl rfl rfl (by omega) (by omega)) rfl rfl ?_
    | refine EL.f (FV.load1 rfl rfl rfl (by assumption)) rfl rfl ?_)
  refine EL.h (Hv.call (eqSame GA SA gc sc _ u4 (OwnI.rd gown) (sr.ext S4) hr) rfl) rfl (fun _ => rfl) ?_
  rintro _ u5 ⟨rfl, e5⟩
  have W5 := W4.trans e5
  have S5 := S4.trans e5
  replace xt0 := At.ext xt0 e5
  replace gown := OwnI.ext gown e5
  repeat' (first
    | refine EW.seq ?_
    | refine EL.f (FV.move rfl) rfl rfl ?_
    | refine EL.f (FV.assign rfl) rfl rfl ?_
    | refine EL.nil ?_
    | refine EW.region ?_
    | refine EW.block ?_
    | refine EW.skip ?_
    | refine EW.exit ?_
    | refine EW.ret ?_
    | refine EW.condT rfl ?_
    | refine EW.condF rfl ?_
    | refine EL.f (FV.addI rfl rfl (by omega)) rfl rfl ?_
    | refine EL.f (FV.subI rfl rfl (by omega)) rfl rfl ?_
    | refine EL.f (FV.remI rfl rfl (by decide) (by omega)) rfl rfl ?_
    | refine EL.f (FV.quoI rfl rfl (by decide) (by omega)) rfl rfl ?_
    | refine EL.f (FV.extract rfl rfl) rfl rfl ?_
    | refine EL.f (FV.len rfl rfl) rfl rfl ?_
    | refine EL.f (FV.lenS rfl rfl) rfl rfl ?_
    | refine EL.f (FV.not rfl) rfl rfl ?_
    | refine EL.skip rfl rfl ?_
    | refine EL.f (FV.pickT rfl rfl) rfl rfl ?_
    | refine EL.f (FV.pickF rfl rfl) rfl rfl ?_
    | refine EL.fT (FV.lss rfl rfl) rfl (fun _ => rfl) (by omega) ?_
    | refine EL.fT (FV.leq rfl rfl) rfl (fun _ => rfl) (by omega) ?_
    | refine EL.fT (FV.gtr rfl rfl) rfl (fun _ => rfl) (by omega) ?_
    | refine EL.fT (FV.geq rfl rfl) rfl (fun _ => rfl) (by omega) ?_
    | refine EL.fT (FV.eql rfl rfl) rfl (fun _ => rfl) (by omega) ?_
    | refine EL.fT (FV.neq rfl rfl) rfl (fun _ => rfl) (by omega) ?_
    | refine EL.fF (FV.lss rfl rfl) rfl (fun _ => rfl) (by omega) ?_
    | refine EL.fF (FV.leq rfl rfl) rfl (fun _ => rfl) (by omega) ?_
    | refine EL.fF (FV.gtr rfl rfl) rfl (fun _ => rfl) (by omega) ?_
    | refine EL.fF (FV.geq rfl rfl) rfl (fun _ => rfl) (by omega) ?_
    | refine EL.fF (FV.eql rfl rfl) rfl (fun _ => rfl) (by omega) ?_
    | refine EL.fF (FV.neq rfl rfl) rfl (fun _ => rfl) (by omega) ?_
    | refine EL.f (FV.rem rfl rfl (by decide)) rfl rfl ?_
    | refine EL.f (FV.idx0 rfl rfl rfl rfl (by omega) (by omega)) rfl rfl ?_
    | refine EL.f (FV.idx1 rfl rfl rfl rfl (by omega) (by omega)) rfl rfl ?_
    | refine EL.f (FV.load1 rfl rfl rfl (by assumption)) rfl rfl ?_)
  refine EL.h (Hv.call (toInts A0 c0 xs0 u5 (h0.ext W5) hn0) rfl) rfl (fun _ => rfl) ?_
  rintro _ u6 ⟨y0, rfl, yb0, yt0, e6⟩
  have W6 := W5.trans e6
  have S6 := S5.trans e6
  replace xt0 := At.ext xt0 e6
  replace gown := OwnI.ext gown e6
  repeat' (first
    | refine EW.seq ?_
    | refine EL.f (FV.move rfl) rfl rfl ?_
    | refine EL.f (FV.assign rfl) rfl rfl ?_
    | refine EL.nil ?_
    | refine EW.region ?_
    | refine EW.block ?_
    | refine EW.skip ?_
    | refine EW.exit ?_
    | refine EW.ret ?_
    | refine EW.condT rfl ?_
    | refine EW.condF rfl ?_
    | refine EL.f (FV.addI rfl rfl (by omega)) rfl rfl ?_
    | refine EL.f (FV.subI rfl rfl (by omega)) rfl rfl ?_
    | refine EL.f (FV.remI rfl rfl (by decide) (by omega)) rfl rfl ?_
    | refine EL.f (FV.quoI rfl rfl (by decide) (by omega)) rfl rfl ?_
    | refine EL.f (FV.extract rfl rfl) rfl rfl ?_
    | refine EL.f (FV.len rfl rfl) rfl rfl ?_
    | refine EL.f (FV.lenS rfl rfl) rfl rfl ?_
    | refine EL.f (FV.not rfl) rfl rfl ?_
    | refine EL.skip rfl rfl ?_
    | refine EL.f (FV.pickT rfl rfl) rfl rfl ?_
    | refine EL.f (FV.pickF rfl rfl) rfl rfl ?_
    | refine EL.fT (FV.lss rfl rfl) rfl (fun _ => rfl) (by omega) ?_
    | refine EL.fT (FV.leq rfl rfl) rfl (fun _ => rfl) (by omega) ?_
    | refine EL.fT (FV.gtr rfl rfl) rfl (fun _ => rfl) (by omega) ?_
    | refine EL.fT (FV.geq rfl rfl) rfl (fun _ => rfl) (by omega) ?_
    | refine EL.fT (FV.eql rfl rfl) rfl (fun _ => rfl) (by omega) ?_
    | refine EL.fT (FV.neq rfl rfl) rfl (fun _ => rfl) (by omega) ?_
    | refine EL.fF (FV.lss rfl rfl) rfl (fun _ => rfl) (by omega) ?_
    | refine EL.fF (FV.leq rfl rfl) rfl (fun _ => rfl) (by omega) ?_
    | refine EL.fF (FV.gtr rfl rfl) rfl (fun _ => rfl) (by omega) ?_
    | refine EL.fF (FV.geq rfl rfl) rfl (fun _ => rfl) (by omega) ?_
    | refine EL.fF (FV.eql rfl rfl) rfl (fun _ => rfl) (by omega) ?_
    | refine EL.fF (FV.neq rfl rfl) rfl (fun _ => rfl) (by omega) ?_
    | refine EL.f (FV.rem rfl rfl (by decide)) rfl rfl ?_
    | refine EL.f (FV.idx0 rfl rfl rfl rfl (by omega) (by omega)) rfl rfl ?_
    | refine EL.f (FV.idx1 rfl rfl rfl rfl (by omega) (by omega)) rfl rfl ?_
    | refine EL.f (FV.load1 rfl rfl rfl (by assumption)) rfl rfl ?_)
  refine EL.h (Hv.call (eqSame (some ⟨x0, 0, none⟩) (some ⟨y0, 0, none⟩) _ _ xs0 u6 (At.rd xt0) (At.rd yt0) hn0) rfl) rfl (fun _ => rfl) ?_
  rintro _ u7 ⟨rfl, e7⟩
  have W7 := W6.trans e7
  have S7 := S6.trans e7
  replace xt0 := At.ext xt0 e7
  replace gown := OwnI.ext gown e7
  repeat' (first
    | refine EW.seq ?_
    | refine EL.f (FV.move rfl) rfl rfl ?_
    | refine EL.f (FV.assign rfl) rfl rfl ?_
    | refine EL.nil ?_
    | refine EW.region ?_
    | refine EW.block ?_
    | refine EW.skip ?_
    | refine EW.exit ?_
    | refine EW.ret ?_
    | refine EW.condT rfl ?_
    | refine EW.condF rfl ?_
    | refine EL.f (FV.addI rfl rfl (by omega)) rfl rfl ?_
    | refine EL.f (FV.subI rfl rfl (by omega)) rfl rfl ?_
    | refine EL.f (FV.remI rfl rfl (by decide) (by omega)) rfl rfl ?_
    | refine EL.f (FV.quoI rfl rfl (by decide) (by omega)) rfl rfl ?_
    | refine EL.f (FV.extract rfl rfl) rfl rfl ?_
    | refine EL.f (FV.len rfl rfl) rfl rfl ?_
    | refine EL.f (FV.lenS rfl rfl) rfl rfl ?_
    | refine EL.f (FV.not rfl) rfl rfl ?_
    | refine EL.skip rfl rfl ?_
    | refine EL.f (FV.pickT rfl rfl) rfl rfl ?_
    | refine EL.f (FV.pickF rfl rfl) rfl rfl ?_
    | refine EL.fT (FV.lss rfl rfl) rfl (fun _ => rfl) (by omega) ?_
    | refine EL.fT (FV.leq rfl rfl) rfl (fun _ => rfl) (by omega) ?_
    | refine EL.fT (FV.gtr rfl rfl) rfl (fun _ => rfl) (by omega) ?_
    | refine EL.fT (FV.geq rfl rfl) rfl (fun _ => rfl) (by omega) ?_
    | refine EL.fT (FV.eql rfl rfl) rfl (fun _ => rfl) (by omega) ?_
    | refine EL.fT (FV.neq rfl rfl) rfl (fun _ => rfl) (by omega) ?_
    | refine EL.fF (FV.lss rfl rfl) rfl (fun _ => rfl) (by omega) ?_
    | refine EL.fF (FV.leq rfl rfl) rfl (fun _ => rfl) (by omega) ?_
    | refine EL.fF (FV.gtr rfl rfl) rfl (fun _ => rfl) (by omega) ?_
    | refine EL.fF (FV.geq rfl rfl) rfl (fun _ => rfl) (by omega) ?_
    | refine EL.fF (FV.eql rfl rfl) rfl (fun _ => rfl) (by omega) ?_
    | refine EL.fF (FV.neq rfl rfl) rfl (fun _ => rfl) (by omega) ?_
    | refine EL.f (FV.rem rfl rfl (by decide)) rfl rfl ?_
    | refine EL.f (FV.idx0 rfl rfl rfl rfl (by omega) (by omega)) rfl rfl ?_
    | refine EL.f (FV.idx1 rfl rfl rfl rfl (by omega) (by omega)) rfl rfl ?_
    | refine EL.f (FV.load1 rfl rfl rfl (by assumption)) rfl rfl ?_)
  refine EL.h (Hv.call (markInts _ x0 xs0 (1) u7 (AtI.own (B := x0) xt0 (Nat.le_refl _)) hn0 (by omega)) rfl) rfl (fun _ => rfl) ?_
  rintro _ u8 ⟨rfl, _, gr0⟩
  have W8 := Ext.mark (g := x0) W7 gr0 (by have := xs_0; have := W2.size; omega)
  have S8 := Ext.mark (g := x0) S7 gr0 xs_0
  replace gown := OwnI.keep (g := x0) gown gr0 xg0
  repeat' (first
    | refine EW.seq ?_
    | refine EL.f (FV.move rfl) rfl rfl ?_
    | refine EL.f (FV.assign rfl) rfl rfl ?_
    | refine EL.nil ?_
    | refine EW.region ?_
    | refine EW.block ?_
    | refine EW.skip ?_
    | refine EW.exit ?_
    | refine EW.ret ?_
    | refine EW.condT rfl ?_
    | refine EW.condF rfl ?_
    | refine EL.f (FV.addI rfl rfl (by omega)) rfl rfl ?_
    | refine EL.f (FV.subI rfl rfl (by omega)) rfl rfl ?_
    | refine EL.f (FV.remI rfl rfl (by decide) (by omega)) rfl rfl ?_
    | refine EL.f (FV.quoI rfl rfl (by decide) (by omega)) rfl rfl ?_
    | refine EL.f (FV.extract rfl rfl) rfl rfl ?_
    | refine EL.f (FV.len rfl rfl) rfl rfl ?_
    | refine EL.f (FV.lenS rfl rfl) rfl rfl ?_
    | refine EL.f (FV.not rfl) rfl rfl ?_
    | refine EL.skip rfl rfl ?_
    | refine EL.f (FV.pickT rfl rfl) rfl rfl ?_
    | refine EL.f (FV.pickF rfl rfl) rfl rfl ?_
    | refine EL.fT (FV.lss rfl rfl) rfl (fun _ => rfl) (by omega) ?_
    | refine EL.fT (FV.leq rfl rfl) rfl (fun _ => rfl) (by omega) ?_
    | refine EL.fT (FV.gtr rfl rfl) rfl (fun _ => rfl) (by omega) ?_
    | refine EL.fT (FV.geq rfl rfl) rfl (fun _ => rfl) (by omega) ?_
    | refine EL.fT (FV.eql rfl rfl) rfl (fun _ => rfl) (by omega) ?_
    | refine EL.fT (FV.neq rfl rfl) rfl (fun _ => rfl) (by omega) ?_
    | refine EL.fF (FV.lss rfl rfl) rfl (fun _ => rfl) (by omega) ?_
    | refine EL.fF (FV.leq rfl rfl) rfl (fun _ => rfl) (by omega) ?_
    | refine EL.fF (FV.gtr rfl rfl) rfl (fun _ => rfl) (by omega) ?_
    | refine EL.fF (FV.geq rfl rfl) rfl (fun _ => rfl) (by omega) ?_
    | refine EL.fF (FV.eql rfl rfl) rfl (fun _ => rfl) (by omega) ?_
    | refine EL.fF (FV.neq rfl rfl) rfl (fun _ => rfl) (by omega) ?_
    | refine EL.f (FV.rem rfl rfl (by decide)) rfl rfl ?_
    | refine EL.f (FV.idx0 rfl rfl rfl rfl (by omega) (by omega)) rfl rfl ?_
    | refine EL.f (FV.idx1 rfl rfl rfl rfl (by omega) (by omega)) rfl rfl ?_
    | refine EL.f (FV.load1 rfl rfl rfl (by assumption)) rfl rfl ?_)
  refine EL.h (Hv.call (eqSame GA SA gc sc _ u8 (OwnI.rd gown) (sr.ext S8) hr) rfl) rfl (fun _ => rfl) ?_
  rintro _ u9 ⟨rfl, e9⟩
  have W9 := W8.trans e9
  have S9 := S8.trans e9
  replace gown := OwnI.ext gown e9
  repeat' (first
    | refine EW.seq ?_
    | refine EL.f (FV.move rfl) rfl rfl ?_
    | refine EL.f (FV.assign rfl) rfl rfl ?_
    | refine EL.nil ?_
    | refine EW.region ?_
    | refine EW.block ?_
    | refine EW.skip ?_
    | refine EW.exit ?_
    | refine EW.ret ?_
    | refine EW.condT rfl ?_
    | refine EW.condF rfl ?_
    | refine EL.f (FV.addI rfl rfl (by omega)) rfl rfl ?_
    | refine EL.f (FV.subI rfl rfl (by omega)) rfl rfl ?_
    | refine EL.f (FV.remI rfl rfl (by decide) (by omega)) rfl rfl ?_
    | refine EL.f (FV.quoI rfl rfl (by decide) (by omega)) rfl rfl ?_
    | refine EL.f (FV.extract rfl rfl) rfl rfl ?_
    | refine EL.f (FV.len rfl rfl) rfl rfl ?_
    | refine EL.f (FV.lenS rfl rfl) rfl rfl ?_
    | refine EL.f (FV.not rfl) rfl rfl ?_
    | refine EL.skip rfl rfl ?_
    | refine EL.f (FV.pickT rfl rfl) rfl rfl ?_
    | refine EL.f (FV.pickF rfl rfl) rfl rfl ?_
    | refine EL.fT (FV.lss rfl rfl) rfl (fun _ => rfl) (by omega) ?_
    | refine EL.fT (FV.leq rfl rfl) rfl (fun _ => rfl) (by omega) ?_
    | refine EL.fT (FV.gtr rfl rfl) rfl (fun _ => rfl) (by omega) ?_
    | refine EL.fT (FV.geq rfl rfl) rfl (fun _ => rfl) (by omega) ?_
    | refine EL.fT (FV.eql rfl rfl) rfl (fun _ => rfl) (by omega) ?_
    | refine EL.fT (FV.neq rfl rfl) rfl (fun _ => rfl) (by omega) ?_
    | refine EL.fF (FV.lss rfl rfl) rfl (fun _ => rfl) (by omega) ?_
    | refine EL.fF (FV.leq rfl rfl) rfl (fun _ => rfl) (by omega) ?_
    | refine EL.fF (FV.gtr rfl rfl) rfl (fun _ => rfl) (by omega) ?_
    | refine EL.fF (FV.geq rfl rfl) rfl (fun _ => rfl) (by omega) ?_
    | refine EL.fF (FV.eql rfl rfl) rfl (fun _ => rfl) (by omega) ?_
    | refine EL.fF (FV.neq rfl rfl) rfl (fun _ => rfl) (by omega) ?_
    | refine EL.f (FV.rem rfl rfl (by decide)) rfl rfl ?_
    | refine EL.f (FV.idx0 rfl rfl rfl rfl (by omega) (by omega)) rfl rfl ?_
    | refine EL.f (FV.idx1 rfl rfl rfl rfl (by omega) (by omega)) rfl rfl ?_
    | refine EL.f (FV.load1 rfl rfl rfl (by assumption)) rfl rfl ?_)
  refine EL.h (Hv.call (markInts _ u3.heap.size _ 1 u9 gown hr (by omega)) rfl) rfl (fun _ => rfl) ?_
  rintro _ u10 ⟨rfl, gmk, grg⟩
  have W10 := Ext.markO W9 gown grg (by have := ug; have := W2.size; omega)
  have S10 := Ext.markO S9 gown grg ug
  replace gown := gmk
  repeat' (first
    | refine EW.seq ?_
    | refine EL.f (FV.move rfl) rfl rfl ?_
    | refine EL.f (FV.assign rfl) rfl rfl ?_
    | refine EL.nil ?_
    | refine EW.region ?_
    | refine EW.block ?_
    | refine EW.skip ?_
    | refine EW.exit ?_
    | refine EW.ret ?_
    | refine EW.condT rfl ?_
    | refine EW.condF rfl ?_
    | refine EL.f (FV.addI rfl rfl (by omega)) rfl rfl ?_
    | refine EL.f (FV.subI rfl rfl (by omega)) rfl rfl ?_
    | refine EL.f (FV.remI rfl rfl (by decide) (by omega)) rfl rfl ?_
    | refine EL.f (FV.quoI rfl rfl (by decide) (by omega)) rfl rfl ?_
    | refine EL.f (FV.extract rfl rfl) rfl rfl ?_
    | refine EL.f (FV.len rfl rfl) rfl rfl ?_
    | refine EL.f (FV.lenS rfl rfl) rfl rfl ?_
    | refine EL.f (FV.not rfl) rfl rfl ?_
    | refine EL.skip rfl rfl ?_
    | refine EL.f (FV.pickT rfl rfl) rfl rfl ?_
    | refine EL.f (FV.pickF rfl rfl) rfl rfl ?_
    | refine EL.fT (FV.lss rfl rfl) rfl (fun _ => rfl) (by omega) ?_
    | refine EL.fT (FV.leq rfl rfl) rfl (fun _ => rfl) (by omega) ?_
    | refine EL.fT (FV.gtr rfl rfl) rfl (fun _ => rfl) (by omega) ?_
    | refine EL.fT (FV.geq rfl rfl) rfl (fun _ => rfl) (by omega) ?_
    | refine EL.fT (FV.eql rfl rfl) rfl (fun _ => rfl) (by omega) ?_
    | refine EL.fT (FV.neq rfl rfl) rfl (fun _ => rfl) (by omega) ?_
    | refine EL.fF (FV.lss rfl rfl) rfl (fun _ => rfl) (by omega) ?_
    | refine EL.fF (FV.leq rfl rfl) rfl (fun _ => rfl) (by omega) ?_
    | refine EL.fF (FV.gtr rfl rfl) rfl (fun _ => rfl) (by omega) ?_
    | refine EL.fF (FV.geq rfl rfl) rfl (fun _ => rfl) (by omega) ?_
    | refine EL.fF (FV.eql rfl rfl) rfl (fun _ => rfl) (by omega) ?_
    | refine EL.fF (FV.neq rfl rfl) rfl (fun _ => rfl) (by omega) ?_
    | refine EL.f (FV.rem rfl rfl (by decide)) rfl rfl ?_
    | refine EL.f (FV.idx0 rfl rfl rfl rfl (by omega) (by omega)) rfl rfl ?_
    | refine EL.f (FV.idx1 rfl rfl rfl rfl (by omega) (by omega)) rfl rfl ?_
    | refine EL.f (FV.load1 rfl rfl rfl (by assumption)) rfl rfl ?_)
  refine EL.h (Hv.call (heldInts GA gc _ 1 u10 (OwnI.rd gown) hr (by omega)) rfl) rfl (fun _ => rfl) ?_
  rintro _ _ ⟨rfl, rfl⟩
  repeat' (first
    | refine EW.seq ?_
    | refine EL.f (FV.move rfl) rfl rfl ?_
    | refine EL.f (FV.assign rfl) rfl rfl ?_
    | refine EL.nil ?_
    | refine EW.region ?_
    | refine EW.block ?_
    | refine EW.skip ?_
    | refine EW.exit ?_
    | refine EW.ret ?_
    | refine EW.condT rfl ?_
    | refine EW.condF rfl ?_
    | refine EL.f (FV.addI rfl rfl (by omega)) rfl rfl ?_
    | refine EL.f (FV.subI rfl rfl (by omega)) rfl rfl ?_
    | refine EL.f (FV.remI rfl rfl (by decide) (by omega)) rfl rfl ?_
    | refine EL.f (FV.quoI rfl rfl (by decide) (by omega)) rfl rfl ?_
    | refine EL.f (FV.extract rfl rfl) rfl rfl ?_
    | refine EL.f (FV.len rfl rfl) rfl rfl ?_
    | refine EL.f (FV.lenS rfl rfl) rfl rfl ?_
    | refine EL.f (FV.not rfl) rfl rfl ?_
    | refine EL.skip rfl rfl ?_
    | refine EL.f (FV.pickT rfl rfl) rfl rfl ?_
    | refine EL.f (FV.pickF rfl rfl) rfl rfl ?_
    | refine EL.fT (FV.lss rfl rfl) rfl (fun _ => rfl) (by omega) ?_
    | refine EL.fT (FV.leq rfl rfl) rfl (fun _ => rfl) (by omega) ?_
    | refine EL.fT (FV.gtr rfl rfl) rfl (fun _ => rfl) (by omega) ?_
    | refine EL.fT (FV.geq rfl rfl) rfl (fun _ => rfl) (by omega) ?_
    | refine EL.fT (FV.eql rfl rfl) rfl (fun _ => rfl) (by omega) ?_
    | refine EL.fT (FV.neq rfl rfl) rfl (fun _ => rfl) (by omega) ?_
    | refine EL.fF (FV.lss rfl rfl) rfl (fun _ => rfl) (by omega) ?_
    | refine EL.fF (FV.leq rfl rfl) rfl (fun _ => rfl) (by omega) ?_
    | refine EL.fF (FV.gtr rfl rfl) rfl (fun _ => rfl) (by omega) ?_
    | refine EL.fF (FV.geq rfl rfl) rfl (fun _ => rfl) (by omega) ?_
    | refine EL.fF (FV.eql rfl rfl) rfl (fun _ => rfl) (by omega) ?_
    | refine EL.fF (FV.neq rfl rfl) rfl (fun _ => rfl) (by omega) ?_
    | refine EL.f (FV.rem rfl rfl (by decide)) rfl rfl ?_
    | refine EL.f (FV.idx0 rfl rfl rfl rfl (by omega) (by omega)) rfl rfl ?_
    | refine EL.f (FV.idx1 rfl rfl rfl rfl (by omega) (by omega)) rfl rfl ?_
    | refine EL.f (FV.load1 rfl rfl rfl (by assumption)) rfl rfl ?_)
  refine EL.h (Hv.call (toInts A0 c0 xs0 u10 (h0.ext W10) hn0) rfl) rfl (fun _ => rfl) ?_
  rintro _ u11 ⟨z0, rfl, zb0, zt0, e11⟩
  have W11 := W10.trans e11
  have S11 := S10.trans e11
  replace gown := OwnI.ext gown e11
  repeat' (first
    | refine EW.seq ?_
    | refine EL.f (FV.move rfl) rfl rfl ?_
    | refine EL.f (FV.assign rfl) rfl rfl ?_
    | refine EL.nil ?_
    | refine EW.region ?_
    | refine EW.block ?_
    | refine EW.skip ?_
    | refine EW.exit ?_
    | refine EW.ret ?_
    | refine EW.condT rfl ?_
    | refine EW.condF rfl ?_
    | refine EL.f (FV.addI rfl rfl (by omega)) rfl rfl ?_
    | refine EL.f (FV.subI rfl rfl (by omega)) rfl rfl ?_
    | refine EL.f (FV.remI rfl rfl (by decide) (by omega)) rfl rfl ?_
    | refine EL.f (FV.quoI rfl rfl (by decide) (by omega)) rfl rfl ?_
    | refine EL.f (FV.extract rfl rfl) rfl rfl ?_
    | refine EL.f (FV.len rfl rfl) rfl rfl ?_
    | refine EL.f (FV.lenS rfl rfl) rfl rfl ?_
    | refine EL.f (FV.not rfl) rfl rfl ?_
    | refine EL.skip rfl rfl ?_
    | refine EL.f (FV.pickT rfl rfl) rfl rfl ?_
    | refine EL.f (FV.pickF rfl rfl) rfl rfl ?_
    | refine EL.fT (FV.lss rfl rfl) rfl (fun _ => rfl) (by omega) ?_
    | refine EL.fT (FV.leq rfl rfl) rfl (fun _ => rfl) (by omega) ?_
    | refine EL.fT (FV.gtr rfl rfl) rfl (fun _ => rfl) (by omega) ?_
    | refine EL.fT (FV.geq rfl rfl) rfl (fun _ => rfl) (by omega) ?_
    | refine EL.fT (FV.eql rfl rfl) rfl (fun _ => rfl) (by omega) ?_
    | refine EL.fT (FV.neq rfl rfl) rfl (fun _ => rfl) (by omega) ?_
    | refine EL.fF (FV.lss rfl rfl) rfl (fun _ => rfl) (by omega) ?_
    | refine EL.fF (FV.leq rfl rfl) rfl (fun _ => rfl) (by omega) ?_
    | refine EL.fF (FV.gtr rfl rfl) rfl (fun _ => rfl) (by omega) ?_
    | refine EL.fF (FV.geq rfl rfl) rfl (fun _ => rfl) (by omega) ?_
    | refine EL.fF (FV.eql rfl rfl) rfl (fun _ => rfl) (by omega) ?_
    | refine EL.fF (FV.neq rfl rfl) rfl (fun _ => rfl) (by omega) ?_
    | refine EL.f (FV.rem rfl rfl (by decide)) rfl rfl ?_
    | refine EL.f (FV.idx0 rfl rfl rfl rfl (by omega) (by omega)) rfl rfl ?_
    | refine EL.f (FV.idx1 rfl rfl rfl rfl (by omega) (by omega)) rfl rfl ?_
    | refine EL.f (FV.load1 rfl rfl rfl (by assumption)) rfl rfl ?_)
  refine EL.h (Hv.call (implDerivativeOfS (some ⟨z0, 0, none⟩) _ xs0 u11 (At.rd zt0) hn0) rfl) rfl (fun _ => rfl) ?_
  rintro _ u12 ⟨hv, rfl, hown, e12⟩
  have W12 := W11.trans e12
  have S12 := S11.trans e12
  replace gown := OwnI.ext gown e12
  obtain ⟨HA, hc, rfl, hrd⟩ := hown.form
  repeat' (first
    | refine EW.seq ?_
    | refine EL.f (FV.move rfl) rfl rfl ?_
    | refine EL.f (FV.assign rfl) rfl rfl ?_
    | refine EL.nil ?_
    | refine EW.region ?_
    | refine EW.block ?_
    | refine EW.skip ?_
    | refine EW.exit ?_
    | refine EW.ret ?_
    | refine EW.condT rfl ?_
    | refine EW.condF rfl ?_
    | refine EL.f (FV.addI rfl rfl (by omega)) rfl rfl ?_
    | refine EL.f (FV.subI rfl rfl (by omega)) rfl rfl ?_
    | refine EL.f (FV.remI rfl rfl (by decide) (by omega)) rfl rfl ?_
    | refine EL.f (FV.quoI rfl rfl (by decide) (by omega)) rfl rfl ?_
    | refine EL.f (FV.extract rfl rfl) rfl rfl ?_
    | refine EL.f (FV.len rfl rfl) rfl rfl ?_
    | refine EL.f (FV.lenS rfl rfl) rfl rfl ?_
    | refine EL.f (FV.not rfl) rfl rfl ?_
    | refine EL.skip rfl rfl ?_
    | refine EL.f (FV.pickT rfl rfl) rfl rfl ?_
    | refine EL.f (FV.pickF rfl rfl) rfl rfl ?_
    | refine EL.fT (FV.lss rfl rfl) rfl (fun _ => rfl) (by omega) ?_
    | refine EL.fT (FV.leq rfl rfl) rfl (fun _ => rfl) (by omega) ?_
    | refine EL.fT (FV.gtr rfl rfl) rfl (fun _ => rfl) (by omega) ?_
    | refine EL.fT (FV.geq rfl rfl) rfl (fun _ => rfl) (by omega) ?_
    | refine EL.fT (FV.eql rfl rfl) rfl (fun _ => rfl) (by omega) ?_
    | refine EL.fT (FV.neq rfl rfl) rfl (fun _ => rfl) (by omega) ?_
    | refine EL.fF (FV.lss rfl rfl) rfl (fun _ => rfl) (by omega) ?_
    | refine EL.fF (FV.leq rfl rfl) rfl (fun _ => rfl) (by omega) ?_
    | refine EL.fF (FV.gtr rfl rfl) rfl (fun _ => rfl) (by omega) ?_
    | refine EL.fF (FV.geq rfl rfl) rfl (fun _ => rfl) (by omega) ?_
    | refine EL.fF (FV.eql rfl rfl) rfl (fun _ => rfl) (by omega) ?_
    | refine EL.fF (FV.neq rfl rfl) rfl (fun _ => rfl) (by omega) ?_
    | refine EL.f (FV.rem rfl rfl (by decide)) rfl rfl ?_
    | refine EL.f (FV.idx0 rfl rfl rfl rfl (by omega) (by omega)) rfl rfl ?_
    | refine EL.f (FV.idx1 rfl rfl rfl rfl (by omega) (by omega)) rfl rfl ?_
    | refine EL.f (FV.load1 rfl rfl rfl (by assumption)) rfl rfl ?_)
  refine EL.h (Hv.call (eqSame HA SA hc sc _ u12 hrd (sr.ext S12) hr) rfl) rfl (fun _ => rfl) ?_
  rintro _ u13 ⟨rfl, e13⟩
  have W13 := W12.trans e13
  have S13 := S12.trans e13
  replace gown := OwnI.ext gown e13
  repeat' (first
    | refine EW.seq ?_
    | refine EL.f (FV.move rfl) rfl rfl ?_
    | refine EL.f (FV.assign rfl) rfl rfl ?_
    | refine EL.nil ?_
    | refine EW.region ?_
    | refine EW.block ?_
    | refine EW.skip ?_
    | refine EW.exit ?_
    | refine EW.ret ?_
    | refine EW.condT rfl ?_
    | refine EW.condF rfl ?_
    | refine EL.f (FV.addI rfl rfl (by omega)) rfl rfl ?_
    | refine EL.f (FV.subI rfl rfl (by omega)) rfl rfl ?_
    | refine EL.f (FV.remI rfl rfl (by decide) (by omega)) rfl rfl ?_
    | refine EL.f (FV.quoI rfl rfl (by decide) (by omega)) rfl rfl ?_
    | refine EL.f (FV.extract rfl rfl) rfl rfl ?_
    | refine EL.f (FV.len rfl rfl) rfl rfl ?_
    | refine EL.f (FV.lenS rfl rfl) rfl rfl ?_
    | refine EL.f (FV.not rfl) rfl rfl ?_
    | refine EL.skip rfl rfl ?_
    | refine EL.f (FV.pickT rfl rfl) rfl rfl ?_
    | refine EL.f (FV.pickF rfl rfl) rfl rfl ?_
    | refine EL.fT (FV.lss rfl rfl) rfl (fun _ => rfl) (by omega) ?_
    | refine EL.fT (FV.leq rfl rfl) rfl (fun _ => rfl) (by omega) ?_
    | refine EL.fT (FV.gtr rfl rfl) rfl (fun _ => rfl) (by omega) ?_
    | refine EL.fT (FV.geq rfl rfl) rfl (fun _ => rfl) (by omega) ?_
    | refine EL.fT (FV.eql rfl rfl) rfl (fun _ => rfl) (by omega) ?_
    | refine EL.fT (FV.neq rfl rfl) rfl (fun _ => rfl) (by omega) ?_
    | refine EL.fF (FV.lss rfl rfl) rfl (fun _ => rfl) (by omega) ?_
    | refine EL.fF (FV.leq rfl rfl) rfl (fun _ => rfl) (by omega) ?_
    | refine EL.fF (FV.gtr rfl rfl) rfl (fun _ => rfl) (by omega) ?_
    | refine EL.fF (FV.geq rfl rfl) rfl (fun _ => rfl) (by omega) ?_
    | refine EL.fF (FV.eql rfl rfl) rfl (fun _ => rfl) (by omega) ?_
    | refine EL.fF (FV.neq rfl rfl) rfl (fun _ => rfl) (by omega) ?_
    | refine EL.f (FV.rem rfl rfl (by decide)) rfl rfl ?_
    | refine EL.f (FV.idx0 rfl rfl rfl rfl (by omega) (by omega)) rfl rfl ?_
    | refine EL.f (FV.idx1 rfl rfl rfl rfl (by omega) (by omega)) rfl rfl ?_
    | refine EL.f (FV.load1 rfl rfl rfl (by assumption)) rfl rfl ?_)
  refine EL.h (Hv.call (heldInts GA gc _ 1 u13 (OwnI.rd gown) hr (by omega)) rfl) rfl (fun _ => rfl) ?_
  rintro _ _ ⟨rfl, rfl⟩
  repeat' (first
    | refine EW.seq ?_
    | refine EL.f (FV.move rfl) rfl rfl ?_
    | refine EL.f (FV.assign rfl) rfl rfl ?_
    | refine EL.nil ?_
    | refine EW.region ?_
    | refine EW.block ?_
    | refine EW.skip ?_
    | refine EW.exit ?_
    | refine EW.ret ?_
    | refine EW.condT rfl ?_
    | refine EW.condF rfl ?_
    | refine EL.f (FV.addI rfl rfl (by omega)) rfl rfl ?_
    | refine EL.f (FV.subI rfl rfl (by omega)) rfl rfl ?_
    | refine EL.f (FV.remI rfl rfl (by decide) (by omega)) rfl rfl ?_
    | refine EL.f (FV.quoI rfl rfl (by decide) (by omega)) rfl rfl ?_
    | refine EL.f (FV.extract rfl rfl) rfl rfl ?_
    | refine EL.f (FV.len rfl rfl) rfl rfl ?_
    | refine EL.f (FV.lenS rfl rfl) rfl rfl ?_
    | refine EL.f (FV.not rfl) rfl rfl ?_
    | refine EL.skip rfl rfl ?_
    | refine EL.f (FV.pickT rfl rfl) rfl rfl ?_
    | refine EL.f (FV.pickF rfl rfl) rfl rfl ?_
    | refine EL.fT (FV.lss rfl rfl) rfl (fun _ => rfl) (by omega) ?_
    | refine EL.fT (FV.leq rfl rfl) rfl (fun _ => rfl) (by omega) ?_
    | refine EL.fT (FV.gtr rfl rfl) rfl (fun _ => rfl) (by omega) ?_
    | refine EL.fT (FV.geq rfl rfl) rfl (fun _ => rfl) (by omega) ?_
    | refine EL.fT (FV.eql rfl rfl) rfl (fun _ => rfl) (by omega) ?_
    | refine EL.fT (FV.neq rfl rfl) rfl (fun _ => rfl) (by omega) ?_
    | refine EL.fF (FV.lss rfl rfl) rfl (fun _ => rfl) (by omega) ?_
    | refine EL.fF (FV.leq rfl rfl) rfl (fun _ => rfl) (by omega) ?_
    | refine EL.fF (FV.gtr rfl rfl) rfl (fun _ => rfl) (by omega) ?_
    | refine EL.fF (FV.geq rfl rfl) rfl (fun _ => rfl) (by omega) ?_
    | refine EL.fF (FV.eql rfl rfl) rfl (fun _ => rfl) (by omega) ?_
    | refine EL.fF (FV.neq rfl rfl) rfl (fun _ => rfl) (by omega) ?_
    | refine EL.f (FV.rem rfl rfl (by decide)) rfl rfl ?_
    | refine EL.f (FV.idx0 rfl rfl rfl rfl (by omega) (by omega)) rfl rfl ?_
    | refine EL.f (FV.idx1 rfl rfl rfl rfl (by omega) (by omega)) rfl rfl ?_
    | refine EL.f (FV.load1 rfl rfl rfl (by assumption)) rfl rfl ?_)
  exact ⟨_, rfl, rfl, W13⟩
def IntegR (xs : List Int) : List Int × Int := if vld xs = true then (integL xs, 0) else ([], 1)
theorem IntegR_len (xs : List Int) : (IntegR xs).1.length ≤ 1048576 := by
  unfold IntegR
  split
  · rename_i h; have := vld_len h; simp only; rw [integL_length]; omega
  · simp
theorem implIntegralOfS (A : Option Addr) (c : Nat) (xs : List Int) (w : World) (hx : Rd w A (ints xs)) (hn : xs.length ≤ 1048576) :
    CallsR Try.prog 45 [.slice A xs.length c] w (SerOut w (IntegR xs)) := by
  refine CallsR.enter Try.func45 (by decide +kernel) rfl Try.ntmps45 rfl ?_
  have cx := implValid A c xs w hx (by omega)
  unfold IntegR
  cases vx : vld xs
  · rw [vx] at cx
    repeat' (first
      | (refine EL.h (Hv.call cx rfl) rfl (fun _ => rfl) ?_; rintro _ _ ⟨rfl, rfl⟩)
      | refine EW.seq ?_
      | refine EL.f (FV.move rfl) rfl rfl ?_
      | refine EL.f (FV.assign rfl) rfl rfl ?_
      | refine EL.nil ?_
      | refine EW.region ?_
      | refine EW.block ?_
      | refine EW.skip ?_
      | refine EW.exit ?_
      | refine EW.ret ?_
      | refine EW.condT rfl ?_
      | refine EW.condF rfl ?_
      | refine EL.f (FV.addI rfl rfl (by omega)) rfl rfl ?_
      | refine EL.f (FV.subI rfl rfl (by omega)) rfl rfl ?_
      | refine EL.f (FV.remI rfl rfl (by decide) (by omega)) rfl rfl ?_
      | refine EL.f (FV.quoI rfl rfl (by decide) (by omega)) rfl rfl ?_
      | refine EL.f (FV.extract rfl rfl) rfl rfl ?_
      | refine EL.f (FV.len rfl rfl) rfl rfl ?_
      | refine EL.f (FV.lenS rfl rfl) rfl rfl ?_
      | refine EL.f (FV.not rfl) rfl rfl ?_
      | refine EL.skip rfl rfl ?_
      | refine EL.f (FV.pickT rfl rfl) rfl rfl ?_
      | refine EL.f (FV.pickF rfl rfl) rfl rfl ?_
      | refine EL.fT (FV.lss rfl rfl) rfl (fun _ => rfl) (by omega) ?_
      | refine EL.fT (FV.leq rfl rfl) rfl (fun _ => rfl) (by omega) ?_
      | refine EL.fT (FV.gtr rfl rfl) rfl (fun _ => rfl) (by omega) ?_
      | refine EL.fT (FV.geq rfl rfl) rfl (fun _ => rfl) (by omega) ?_
      | refine EL.fT (FV.eql rfl rfl) rfl (fun _ => rfl) (by omega) ?_
      | refine EL.fT (FV.neq rfl rfl) rfl (fun _ => rfl) (by omega) ?_
      | refine EL.fF (FV.lss rfl rfl) rfl (fun _ => rfl) (by omega) ?_
      | refine EL.fF (FV.leq rfl rfl) rfl (fun _ => rfl) (by omega) ?_
      | refine EL.fF (FV.gtr rfl rfl) rfl (fun _ => rfl) (by omega) ?_
      | refine EL.fF (FV.geq rfl rfl) rfl (fun _ => rfl) (by omega) ?_
      | refine EL.fF (FV.eql rfl rfl) rfl (fun _ => rfl) (by omega) ?_
      | refine EL.fF (FV.neq rfl rfl) rfl (fun _ => rfl) (by omega) ?_
      | refine EL.f (FV.rem rfl rfl (by decide)) rfl rfl ?_
      | refine EL.f (FV.idx0 rfl rfl rfl rfl (by omega) (by omega)) rfl rfl ?_
      | refine EL.f (FV.idx1 rfl rfl rfl rfl (by omega) (by omega)) rfl rfl ?_
      | refine EL.f (FV.load1 rfl rfl rfl (by assumption)) rfl rfl ?_)
    exact ⟨_, rfl, SerOut.nil _ _⟩
  · rw [vx] at cx
    have hl := vld_len vx
    repeat' (first
      | (refine EL.h (Hv.call cx rfl) rfl (fun _ => rfl) ?_; rintro _ _ ⟨rfl, rfl⟩)
      | (refine EL.h (Hv.call (implIntegral A c xs w hx hl.1 (by omega) hl.2.2) rfl) rfl (fun _ => rfl) ?_; rintro v w' ⟨ho, he⟩)
      | refine EW.seq ?_
      | refine EL.f (FV.move rfl) rfl rfl ?_
      | refine EL.f (FV.assign rfl) rfl rfl ?_
      | refine EL.nil ?_
      | refine EW.region ?_
      | refine EW.block ?_
      | refine EW.skip ?_
      | refine EW.exit ?_
      | refine EW.ret ?_
      | refine EW.condT rfl ?_
      | refine EW.condF rfl ?_
      | refine EL.f (FV.addI rfl rfl (by omega)) rfl rfl ?_
      | refine EL.f (FV.subI rfl rfl (by omega)) rfl rfl ?_
      | refine EL.f (FV.remI rfl rfl (by decide) (by omega)) rfl rfl ?_
      | refine EL.f (FV.quoI rfl rfl (by decide) (by omega)) rfl rfl ?_
      | refine EL.f (FV.extract rfl rfl) rfl rfl ?_
      | refine EL.f (FV.len rfl rfl) rfl rfl ?_
      | refine EL.f (FV.lenS rfl rfl) rfl rfl ?_
      | refine EL.f (FV.not rfl) rfl rfl ?_
      | refine EL.skip rfl rfl ?_
      | refine EL.f (FV.pickT rfl rfl) rfl rfl ?_
      | refine EL.f (FV.pickF rfl rfl) rfl rfl ?_
      | refine EL.fT (FV.lss rfl rfl) rfl (fun _ => rfl) (by omega) ?_
      | refine EL.fT (FV.leq rfl rfl) rfl (fun _ => rfl) (by omega) ?_
      | refine EL.fT (FV.gtr rfl rfl) rfl (fun _ => rfl) (by omega) ?_
      | refine EL.fT (FV.geq rfl rfl) rfl (fun _ => rfl) (by omega) ?_
      | refine EL.fT (FV.eql rfl rfl) rfl (fun _ => rfl) (by omega) ?_
      | refine EL.fT (FV.neq rfl rfl) rfl (fun _ => rfl) (by omega) ?_
      | refine EL.fF (FV.lss rfl rfl) rfl (fun _ => rfl) (by omega) ?_
      | refine EL.fF (FV.leq rfl rfl) rfl (fun _ => rfl) (by omega) ?_
      | refine EL.fF (FV.gtr rfl rfl) rfl (fun _ => rfl) (by omega) ?_
      | refine EL.fF (FV.geq rfl rfl) rfl (fun _ => rfl) (by omega) ?_
      | refine EL.fF (FV.eql rfl rfl) rfl (fun _ => rfl) (by omega) ?_
      | refine EL.fF (FV.neq rfl rfl) rfl (fun _ => rfl) (by omega) ?_
      | refine EL.f (FV.rem rfl rfl (by decide)) rfl rfl ?_
      | refine EL.f (FV.idx0 rfl rfl rfl rfl (by omega) (by omega)) rfl rfl ?_
      | refine EL.f (FV.idx1 rfl rfl rfl rfl (by omega) (by omega)) rfl rfl ?_
      | refine EL.f (FV.load1 rfl rfl rfl (by assumption)) rfl rfl ?_)
    exact ⟨_, rfl, v, rfl, ho, he⟩
theorem specIntegralOfS (A : Option Addr) (c : Nat) (xs : List Int) (w : World) (hx : Rd w A (ints xs)) (hn : xs.length ≤ 1048576) :
    CallsR Try.prog 44 [.slice A xs.length c] w (SerOut w (IntegR xs)) := by
  refine CallsR.enter Try.func44 (by decide +kernel) rfl Try.ntmps44 rfl ?_
  have cx := specOk A c xs w hx (by omega)
  unfold IntegR
  cases vx : vld xs
  · rw [vx] at cx
    repeat' (first
      | (refine EL.h (Hv.call cx rfl) rfl (fun _ => rfl) ?_; rintro _ _ ⟨rfl, rfl⟩)
      | (refine EL.h (Hv.build0 rfl rfl) rfl (fun _ => rfl) ?_; rintro v w' ⟨ho, he⟩)
      | refine EW.seq ?_
      | refine EL.f (FV.move rfl) rfl rfl ?_
      | refine EL.f (FV.assign rfl) rfl rfl ?_
      | refine EL.nil ?_
      | refine EW.region ?_
      | refine EW.block ?_
      | refine EW.skip ?_
      | refine EW.exit ?_
      | refine EW.ret ?_
      | refine EW.condT rfl ?_
      | refine EW.condF rfl ?_
      | refine EL.f (FV.addI rfl rfl (by omega)) rfl rfl ?_
      | refine EL.f (FV.subI rfl rfl (by omega)) rfl rfl ?_
      | refine EL.f (FV.remI rfl rfl (by decide) (by omega)) rfl rfl ?_
      | refine EL.f (FV.quoI rfl rfl (by decide) (by omega)) rfl rfl ?_
      | refine EL.f (FV.extract rfl rfl) rfl rfl ?_
      | refine EL.f (FV.len rfl rfl) rfl rfl ?_
      | refine EL.f (FV.lenS rfl rfl) rfl rfl ?_
      | refine EL.f (FV.not rfl) rfl rfl ?_
      | refine EL.skip rfl rfl ?_
      | refine EL.f (FV.pickT rfl rfl) rfl rfl ?_
      | refine EL.f (FV.pickF rfl rfl) rfl rfl ?_
      | refine EL.fT (FV.lss rfl rfl) rfl (fun _ => rfl) (by omega) ?_
      | refine EL.fT (FV.leq rfl rfl) rfl (fun _ => rfl) (by omega) ?_
      | refine EL.fT (FV.gtr rfl rfl) rfl (fun _ => rfl) (by omega) ?_
      | refine EL.fT (FV.geq rfl rfl) rfl (fun _ => rfl) (by omega) ?_
      | refine EL.fT (FV.eql rfl rfl) rfl (fun _ => rfl) (by omega) ?_
      | refine EL.fT (FV.neq rfl rfl) rfl (fun _ => rfl) (by omega) ?_
      | refine EL.fF (FV.lss rfl rfl) rfl (fun _ => rfl) (by omega) ?_
      | refine EL.fF (FV.leq rfl rfl) rfl (fun _ => rfl) (by omega) ?_
      | refine EL.fF (FV.gtr rfl rfl) rfl (fun _ => rfl) (by omega) ?_
      | refine EL.fF (FV.geq rfl rfl) rfl (fun _ => rfl) (by omega) ?_
      | refine EL.fF (FV.eql rfl rfl) rfl (fun _ => rfl) (by omega) ?_
      | refine EL.fF (FV.neq rfl rfl) rfl (fun _ => rfl) (by omega) ?_
      | refine EL.f (FV.rem rfl rfl (by decide)) rfl rfl ?_
      | refine EL.f (FV.idx0 rfl rfl rfl rfl (by omega) (by omega)) rfl rfl ?_
      | refine EL.f (FV.idx1 rfl rfl rfl rfl (by omega) (by omega)) rfl rfl ?_
      | refine EL.f (FV.load1 rfl rfl rfl (by assumption)) rfl rfl ?_)
    exact ⟨_, rfl, v, rfl, ho, he⟩
  · rw [vx] at cx
    have hl := vld_len vx
    repeat' (first
      | (refine EL.h (Hv.call cx rfl) rfl (fun _ => rfl) ?_; rintro _ _ ⟨rfl, rfl⟩)
      | (refine EL.h (Hv.call (specIntegral A c xs w hx hl.1 (by omega)) rfl) rfl (fun _ => rfl) ?_; rintro v w' ⟨ho, he⟩)
      | refine EW.seq ?_
      | refine EL.f (FV.move rfl) rfl rfl ?_
      | refine EL.f (FV.assign rfl) rfl rfl ?_
      | refine EL.nil ?_
      | refine EW.region ?_
      | refine EW.block ?_
      | refine EW.skip ?_
      | refine EW.exit ?_
      | refine EW.ret ?_
      | refine EW.condT rfl ?_
      | refine EW.condF rfl ?_
      | refine EL.f (FV.addI rfl rfl (by omega)) rfl rfl ?_
      | refine EL.f (FV.subI rfl rfl (by omega)) rfl rfl ?_
      | refine EL.f (FV.remI rfl rfl (by decide) (by omega)) rfl rfl ?_
      | refine EL.f (FV.quoI rfl rfl (by decide) (by omega)) rfl rfl ?_
      | refine EL.f (FV.extract rfl rfl) rfl rfl ?_
      | refine EL.f (FV.len rfl rfl) rfl rfl ?_
      | refine EL.f (FV.lenS rfl rfl) rfl rfl ?_
      | refine EL.f (FV.not rfl) rfl rfl ?_
      | refine EL.skip rfl rfl ?_
      | refine EL.f (FV.pickT rfl rfl) rfl rfl ?_
      | refine EL.f (FV.pickF rfl rfl) rfl rfl ?_
      | refine EL.fT (FV.lss rfl rfl) rfl (fun _ => rfl) (by omega) ?_
      | refine EL.fT (FV.leq rfl rfl) rfl (fun _ => rfl) (by omega) ?_
      | refine EL.fT (FV.gtr rfl rfl) rfl (fun _ => rfl) (by omega) ?_
      | refine EL.fT (FV.geq rfl rfl) rfl (fun _ => rfl) (by omega) ?_
      | refine EL.fT (FV.eql rfl rfl) rfl (fun _ => rfl) (by omega) ?_
      | refine EL.fT (FV.neq rfl rfl) rfl (fun _ => rfl) (by omega) ?_
      | refine EL.fF (FV.lss rfl rfl) rfl (fun _ => rfl) (by omega) ?_
      | refine EL.fF (FV.leq rfl rfl) rfl (fun _ => rfl) (by omega) ?_
      | refine EL.fF (FV.gtr rfl rfl) rfl (fun _ => rfl) (by omega) ?_
      | refine EL.fF (FV.geq rfl rfl) rfl (fun _ => rfl) (by omega) ?_
      | refine EL.fF (FV.eql rfl rfl) rfl (fun _ => rfl) (by omega) ?_
      | refine EL.fF (FV.neq rfl rfl) rfl (fun _ => rfl) (by omega) ?_
      | refine EL.f (FV.rem rfl rfl (by decide)) rfl rfl ?_
      | refine EL.f (FV.idx0 rfl rfl rfl rfl (by omega) (by omega)) rfl rfl ?_
      | refine EL.f (FV.idx1 rfl rfl rfl rfl (by omega) (by omega)) rfl rfl ?_
      | refine EL.f (FV.load1 rfl rfl rfl (by assumption)) rfl rfl ?_)
    exact ⟨_, rfl, v, rfl, ho, he⟩
theorem lawIntegralOf (A0 : Option Addr) (c0 : Nat) (xs0 : List Int) (w : World) (h0 : Rd w A0 (ints xs0)) : CallsR Try.prog 13 [.slice A0 xs0.length c0] w fun v w' => v = .bool true ∧ Ext w w' := by
  refine CallsR.enter Try.func13 (by decide +kernel) rfl Try.ntmps13 rfl ?_
  by_cases hl0 : (1048576 : Int) < xs0.length
  · repeat' (first
      | refine EW.seq ?_
      | refine EL.f (FV.move rfl) rfl rfl ?_
      | refine EL.f (FV.assign rfl) rfl rfl ?_
      | refine EL.nil ?_
      | refine EW.region ?_
      | refine EW.block ?_
      | refine EW.skip ?_
      | refine EW.exit ?_
      | refine EW.ret ?_
      | refine EW.condT rfl ?_
      | refine EW.condF rfl ?_
      | refine EL.f (FV.addI rfl rfl (by omega)) rfl rfl ?_
      | refine EL.f (FV.subI rfl rfl (by omega)) rfl rfl ?_
      | refine EL.f (FV.remI rfl rfl (by decide) (by omega)) rfl rfl ?_
      | refine EL.f (FV.quoI rfl rfl (by decide) (by omega)) rfl rfl ?_
      | refine EL.f (FV.extract rfl rfl) rfl rfl ?_
      | refine EL.f (FV.len rfl rfl) rfl rfl ?_
      | refine EL.f (FV.lenS rfl rfl) rfl rfl ?_
      | refine EL.f (FV.not rfl) rfl rfl ?_
      | refine EL.skip rfl rfl ?_
      | refine EL.f (FV.pickT rfl rfl) rfl rfl ?_
      | refine EL.f (FV.pickF rfl rfl) rfl rfl ?_
      | refine EL.fT (FV.lss rfl rfl) rfl (fun _ => rfl) (by omega) ?_
      | refine EL.fT (FV.leq rfl rfl) rfl (fun _ => rfl) (by omega) ?_
      | refine EL.fT (FV.gtr rfl rfl) rfl (fun _ => rfl) (by omega) ?_
      | refine EL.fT (FV.geq rfl rfl) rfl (fun _ => rfl) (by omega) ?_
      | refine EL.fT (FV.eql rfl rfl) rfl (fun _ => rfl) (by omega) ?_
      | refine EL.fT (FV.neq rfl rfl) rfl (fun _ => rfl) (by omega) ?_
      | refine EL.fF (FV.lss rfl rfl) rfl (fun _ => rfl) (by omega) ?_
      | refine EL.fF (FV.leq rfl rfl) rfl (fun _ => rfl) (by omega) ?_
      | refine EL.fF (FV.gtr rfl rfl) rfl (fun _ => rfl) (by omega) ?_
      | refine EL.fF (FV.geq rfl rfl) rfl (fun _ => rfl) (by omega) ?_
      | refine EL.fF (FV.eql rfl rfl) rfl (fun _ => rfl) (by omega) ?_
      | refine EL.fF (FV.neq rfl rfl) rfl (fun _ => rfl) (by omega) ?_
      | refine EL.f (FV.rem rfl rfl (by decide)) rfl rfl ?_
      | refine EL.f (FV.idx0 rfl rfl rfl rfl (by omega) (by omega)) rfl rfl ?_
      | refine EL.f (FV.idx1 rfl rfl rfl rfl (by omega) (by omega)) rfl rfl ?_
      | refine EL.f (FV.load1 rfl rfl rfl (by assumption)) rfl rfl ?_)
    exact ⟨_, rfl, rfl, Ext.refl _⟩
  have hn0 : xs0.length ≤ 1048576 := by omega
  have hr := IntegR_len xs0
  repeat' (first
    | refine EW.seq ?_
    | refine EL.f (FV.move rfl) rfl rfl ?_
    | refine EL.f (FV.assign rfl) rfl rfl ?_
    | refine EL.nil ?_
    | refine EW.region ?_
    | refine EW.block ?_
    | refine EW.skip ?_
    | refine EW.exit ?_
    | refine EW.ret ?_
    | refine EW.condT rfl ?_
    | refine EW.condF rfl ?_
    | refine EL.f (FV.addI rfl rfl (by omega)) rfl rfl ?_
    | refine EL.f (FV.subI rfl rfl (by omega)) rfl rfl ?_
    | refine EL.f (FV.remI rfl rfl (by decide) (by omega)) rfl rfl ?_
    | refine EL.f (FV.quoI rfl rfl (by decide) (by omega)) rfl rfl ?_
    | refine EL.f (FV.extract rfl rfl) rfl rfl ?_
    | refine EL.f (FV.len rfl rfl) rfl rfl ?_
    | refine EL.f (FV.lenS rfl rfl) rfl rfl ?_
    | refine EL.f (FV.not rfl) rfl rfl ?_
    | refine EL.skip rfl rfl ?_
    | refine EL.f (FV.pickT rfl rfl) rfl rfl ?_
    | refine EL.f (FV.pickF rfl rfl) rfl rfl ?_
    | refine EL.fT (FV.lss rfl rfl) rfl (fun _ => rfl) (by omega) ?_
    | refine EL.fT (FV.leq rfl rfl) rfl (fun _ => rfl) (by omega) ?_
    | refine EL.fT (FV.gtr rfl rfl) rfl (fun _ => rfl) (by omega) ?_
    | refine EL.fT (FV.geq rfl rfl) rfl (fun _ => rfl) (by omega) ?_
    | refine EL.fT (FV.eql rfl rfl) rfl (fun _ => rfl) (by omega) ?_
    | refine EL.fT (FV.neq rfl rfl) rfl (fun _ => rfl) (by omega) ?_
    | refine EL.fF (FV.lss rfl rfl) rfl (fun _ => rfl) (by omega) ?_
    | refine EL.fF (FV.leq rfl rfl) rfl (fun _ => rfl) (by omega) ?_
    | refine EL.fF (FV.gtr rfl rfl) rfl (fun _ => rfl) (by omega) ?_
    | refine EL.fF (FV.geq rfl rfl) rfl (fun _ => rfl) (by omega) ?_
    | refine EL.fF (FV.eql rfl rfl) rfl (fun _ => rfl) (by omega) ?_
    | refine EL.fF (FV.neq rfl rfl) rfl (fun _ => rfl) (by omega) ?_
    | refine EL.f (FV.rem rfl rfl (by decide)) rfl rfl ?_
    | refine EL.f (FV.idx0 rfl rfl rfl rfl (by omega) (by omega)) rfl rfl ?_
    | refine EL.f (FV.idx1 rfl rfl rfl rfl (by omega) (by omega)) rfl rfl ?_
    | refine EL.f (FV.load1 rfl rfl rfl (by assumption)) rfl rfl ?_)
  refine EL.h (Hv.call (toInts A0 c0 xs0 w (h0.ext (Ext.refl w)) hn0) rfl) rfl (fun _ => rfl) ?_
  rintro _ u1 ⟨p0, rfl, pb0, pt0, e1⟩
  have W1 := (Ext.refl w).trans e1
  repeat' (first
    | refine EW.seq ?_
    | refine EL.f (FV.move rfl) rfl rfl ?_
    | refine EL.f (FV.assign rfl) rfl rfl ?_
    | refine EL.nil ?_
    | refine EW.region ?_
    | refine EW.block ?_
    | refine EW.skip ?_
    | refine EW.exit ?_
    | refine EW.ret ?_
    | refine EW.condT rfl ?_
    | refine EW.condF rfl ?_
    | refine EL.f (FV.addI rfl rfl (by omega)) rfl rfl ?_
    | refine EL.f (FV.subI rfl rfl (by omega)) rfl rfl ?_
    | refine EL.f (FV.remI rfl rfl (by decide) (by omega)) rfl rfl ?_
    | refine EL.f (FV.quoI rfl rfl (by decide) (by omega)) rfl rfl ?_
    | refine EL.f (FV.extract rfl rfl) rfl rfl ?_
    | refine EL.f (FV.len rfl rfl) rfl rfl ?_
    | refine EL.f (FV.lenS rfl rfl) rfl rfl ?_
    | refine EL.f (FV.not rfl) rfl rfl ?_
    | refine EL.skip rfl rfl ?_
    | refine EL.f (FV.pickT rfl rfl) rfl rfl ?_
    | refine EL.f (FV.pickF rfl rfl) rfl rfl ?_
    | refine EL.fT (FV.lss rfl rfl) rfl (fun _ => rfl) (by omega) ?_
    | refine EL.fT (FV.leq rfl rfl) rfl (fun _ => rfl) (by omega) ?_
    | refine EL.fT (FV.gtr rfl rfl) rfl (fun _ => rfl) (by omega) ?_
    | refine EL.fT (FV.geq rfl rfl) rfl (fun _ => rfl) (by omega) ?_
    | refine EL.fT (FV.eql rfl rfl) rfl (fun _ => rfl) (by omega) ?_
    | refine EL.fT (FV.neq rfl rfl) rfl (fun _ => rfl) (by omega) ?_
    | refine EL.fF (FV.lss rfl rfl) rfl (fun _ => rfl) (by omega) ?_
    | refine EL.fF (FV.leq rfl rfl) rfl (fun _ => rfl) (by omega) ?_
    | refine EL.fF (FV.gtr rfl rfl) rfl (fun _ => rfl) (by omega) ?_
    | refine EL.fF (FV.geq rfl rfl) rfl (fun _ => rfl) (by omega) ?_
    | refine EL.fF (FV.eql rfl rfl) rfl (fun _ => rfl) (by omega) ?_
    | refine EL.fF (FV.neq rfl rfl) rfl (fun _ => rfl) (by omega) ?_
    | refine EL.f (FV.rem rfl rfl (by decide)) rfl rfl ?_
    | refine EL.f (FV.idx0 rfl rfl rfl rfl (by omega) (by omega)) rfl rfl ?_
    | refine EL.f (FV.idx1 rfl rfl rfl rfl (by omega) (by omega)) rfl rfl ?_
    | refine EL.f (FV.load1 rfl rfl rfl (by assumption)) rfl rfl ?_)
  refine EL.h (Hv.call (specIntegralOfS (some ⟨p0, 0, none⟩) _ xs0 u1 (At.rd pt0) hn0) rfl) rfl (fun _ => rfl) ?_
  rintro _ u2 ⟨sv, rfl, sown, e2⟩
  have W2 := W1.trans e2
  obtain ⟨SA, sc, rfl, sr⟩ := sown.form
  repeat' (first
    | refine EW.seq ?_
    | refine EL.f (FV.move rfl) rfl rfl ?_
    | refine EL.f (FV.assign rfl) rfl rfl ?_
    | refine EL.nil ?_
    | refine EW.region ?_
    | refine EW.block ?_
    | refine EW.skip ?_
    | refine EW.exit ?_
    | refine EW.ret ?_
    | refine EW.condT rfl ?_
    | refine EW.condF rfl ?_
    | refine EL.f (FV.addI rfl rfl (by omega)) rfl rfl ?_
    | refine EL.f (FV.subI rfl rfl (by omega)) rfl rfl ?_
    | refine EL.f (FV.remI rfl rfl (by decide) (by omega)) rfl rfl ?_
    | refine EL.f (FV.quoI rfl rfl (by decide) (by omega)) rfl rfl ?_
    | refine EL.f (FV.extract rfl rfl) rfl rfl ?_
    | refine EL.f (FV.len rfl rfl) rfl rfl ?_
    | refine EL.f (FV.lenS rfl rfl) rfl rfl ?_
    | refine EL.f (FV.not rfl) rfl rfl ?_
    | refine EL.skip rfl rfl ?_
    | refine EL.f (FV.pickT rfl rfl) rfl rfl ?_
    | refine EL.f (FV.pickF rfl rfl) rfl rfl ?_
    | refine EL.fT (FV.lss rfl rfl) rfl (fun _ => rfl) (by omega) ?_
    | refine EL.fT (FV.leq rfl rfl) rfl (fun _ => rfl) (by omega) ?_
    | refine EL.fT (FV.gtr rfl rfl) rfl (fun _ => rfl) (by omega) ?_
    | refine EL.fT (FV.geq rfl rfl) rfl (fun _ => rfl) (by omega) ?_
    | refine EL.fT (FV.eql rfl rfl) rfl (fun _ => rfl) (by omega) ?_
    | refine EL.fT (FV.neq rfl rfl) rfl (fun _ => rfl) (by omega) ?_
    | refine EL.fF (FV.lss rfl rfl) rfl (fun _ => rfl) (by omega) ?_
    | refine EL.fF (FV.leq rfl rfl) rfl (fun _ => rfl) (by omega) ?_
    | refine EL.fF (FV.gtr rfl rfl) rfl (fun _ => rfl) (by omega) ?_
    | refine EL.fF (FV.geq rfl rfl) rfl (fun _ => rfl) (by omega) ?_
    | refine EL.fF (FV.eql rfl rfl) rfl (fun _ => rfl) (by omega) ?_
    | refine EL.fF (FV.neq rfl rfl) rfl (fun _ => rfl) (by omega) ?_
    | refine EL.f (FV.rem rfl rfl (by decide)) rfl rfl ?_
    | refine EL.f (FV.idx0 rfl rfl rfl rfl (by omega) (by omega)) rfl rfl ?_
    | refine EL.f (FV.idx1 rfl rfl rfl rfl (by omega) (by omega)) rfl rfl ?_
    | refine EL.f (FV.load1 rfl rfl rfl (by assumption)) rfl rfl ?_)
  refine EL.h (Hv.call (toInts A0 c0 xs0 u2 (h0.ext W2) hn0) rfl) rfl (fun _ => rfl) ?_
  rintro _ u3 ⟨x0, rfl, xb0, xt0, e3⟩
  have W3 := W2.trans e3
  have S3 := (Ext.refl u2).trans e3
  have xl0 := At.lt xt0
  repeat' (first
    | refine EW.seq ?_
    | refine EL.f (FV.move rfl) rfl rfl ?_
    | refine EL.f (FV.assign rfl) rfl rfl ?_
    | refine EL.nil ?_
    | refine EW.region ?_
    | refine EW.block ?_
    | refine EW.skip ?_
    | refine EW.exit ?_
    | refine EW.ret ?_
    | refine EW.condT rfl ?_
    | refine EW.condF rfl ?_
    | refine EL.f (FV.addI rfl rfl (by omega)) rfl rfl ?_
    | refine EL.f (FV.subI rfl rfl (by omega)) rfl rfl ?_
    | refine EL.f (FV.remI rfl rfl (by decide) (by omega)) rfl rfl ?_
    | refine EL.f (FV.quoI rfl rfl (by decide) (by omega)) rfl rfl ?_
    | refine EL.f (FV.extract rfl rfl) rfl rfl ?_
    | refine EL.f (FV.len rfl rfl) rfl rfl ?_
    | refine EL.f (FV.lenS rfl rfl) rfl rfl ?_
    | refine EL.f (FV.not rfl) rfl rfl ?_
    | refine EL.skip rfl rfl ?_
    | refine EL.f (FV.pickT rfl rfl) rfl rfl ?_
    | refine EL.f (FV.pickF rfl rfl) rfl rfl ?_
    | refine EL.fT (FV.lss rfl rfl) rfl (fun _ => rfl) (by omega) ?_
    | refine EL.fT (FV.leq rfl rfl) rfl (fun _ => rfl) (by omega) ?_
    | refine EL.fT (FV.gtr rfl rfl) rfl (fun _ => rfl) (by omega) ?_
    | refine EL.fT (FV.geq rfl rfl) rfl (fun _ => rfl) (by omega) ?_
    | refine EL.fT (FV.eql rfl rfl) rfl (fun _ => rfl) (by omega) ?_
    | refine EL.fT (FV.neq rfl rfl) rfl (fun _ => rfl) (by omega) ?_
    | refine EL.fF (FV.lss rfl rfl) rfl (fun _ => rfl) (by omega) ?_
    | refine EL.fF (FV.leq rfl rfl) rfl (fun _ => rfl) (by omega) ?_
    | refine EL.fF (FV.gtr rfl rfl) rfl (fun _ => rfl) (by omega) ?_
    | refine EL.fF (FV.geq rfl rfl) rfl (fun _ => rfl) (by omega) ?_
    | refine EL.fF (FV.eql rfl rfl) rfl (fun _ => rfl) (by omega) ?_
    | refine EL.fF (FV.neq rfl rfl) rfl (fun _ => rfl) (by omega) ?_
    | refine EL.f (FV.rem rfl rfl (by decide)) rfl rfl ?_
    | refine EL.f (FV.idx0 rfl rfl rfl rfl (by omega) (by omega)) rfl rfl ?_
    | refine EL.f (FV.idx1 rfl rfl rfl rfl (by omega) (by omega)) rfl rfl ?_
    | refine EL.f (FV.load1 rfl rfl rfl (by assumption)) rfl rfl ?_)
  refine EL.h (Hv.call (implIntegralOfS (some ⟨x0, 0, none⟩) _ xs0 u3 (At.rd xt0) hn0) rfl) rfl (fun _ => rfl) ?_
  rintro _ u4 ⟨gv, rfl, gown, e4⟩
  have W4 := W3.trans e4
  have S4 := S3.trans e4
  replace xt0 := At.ext xt0 e4
  obtain ⟨GA, gc, rfl, _⟩ := gown.form
  have xg0 : x0 < u3.heap.size := by have := xl0;  omega
  have xs_0 : u2.heap.size ≤ x0 := by have := xb0;  omega
  have ug : u2.heap.size ≤ u3.heap.size := by have := e3.size; omega
  repeat' (first
    | refine EW.seq ?_
    | refine EL.f (FV.move rfl) rfl rfl ?_
    | refine EL.f (FV.assign rfl) rfl rfl ?_
    | refine EL.nil ?_
    | refine EW.region ?_
    | refine EW.block ?_
    | refine EW.skip ?_
    | refine EW.exit ?_
    | refine EW.ret ?_
    | refine EW.condT rfl ?_
    | refine EW.condF rfl ?_
    | refine EL.f (FV.addI rfl rfl (by omega)) rfl rfl ?_
    | refine EL.f (FV.subI rfl rfl (by omega)) rfl rfl ?_
    | refine EL.f (FV.remI rfl rfl (by decide) (by omega)) rfl rfl ?_
    | refine EL.f (FV.quoI rfl rfl (by decide) (by omega)) rfl rfl ?_
    | refine EL.f (FV.extract rfl rfl) rfl rfl ?_
    | refine EL.f (FV.len rfl rfl) rfl rfl ?_
    | refine EL.f (FV.lenS rfl rfl) rfl rfl ?_
    | refine EL.f (FV.not rfl) rfl rfl ?_
    | refine EL.skip rfl rfl ?_
    | refine EL.f (FV.pickT rfl rfl) rfl rfl ?_
    | refine EL.f (FV.pickF rfl rfl) rfl rfl ?_
    | refine EL.fT (FV.lss rfl rfl) rfl (fun _ => rfl) (by omega) ?_
    | refine EL.fT (FV.leq rfl rfl) rfl (fun _ => rfl) (by omega) ?_
    | refine EL.fT (FV.gtr rfl rfl) rfl (fun _ => rfl) (by omega) ?_
    | refine EL.fT (FV.geq rfl rfl) rfl (fun _ => rfl) (by omega) ?_
    | refine EL.fT (FV.eql rfl rfl) rfl (fun _ => rfl) (by omega) ?_
    | refine EL.fT (FV.neq rfl rfl) rfl (fun _ => rfl) (by omega) ?_
    | refine EL.fF (FV.lss rfl rfl) rfl (fun _ => rfl) (by omega) ?_
    | refine EL.fF (FV.leq rfl rfl) rfl (fun _ => rfl) (by omega) ?_
    | refine EL.fF (FV.gtr rfl rfl) rfl (fun _ => rfl) (by omega) ?_
    | refine EL.fF (FV.geq rfl rfl) rfl (fun _ => rfl) (by omega) ?_
    | refine EL.fF (FV.eql rfl rfl) rfl (fun _ => rfl) (by omega) ?_
    | refine EL.fF (FV.neq rfl rfl) rfl (fun _ => rfl) (by omega) ?_
    | refine EL.f (FV.rem rfl rfl (by decide)) rfl rfl ?_
    | refine EL.f (FV.idx0 rfl rfl rfl rfl (by omega) (by omega)) rfl rfl ?_
    | refine EL.f (FV.idx1 rfl rfl rfl rfl (by omega) (by omega)) rfl rfl ?_
    | refine EL.f (FV.load1 rfl rfl rfl (by assumption)) rfl rfl ?_)
  refine EL.h (Hv.call (eqSame GA SA gc sc _ u4 (OwnI.rd gown) (sr.ext S4) hr) rfl) rfl (fun _ => rfl) ?_
  rintro _ u5 ⟨rfl, e5⟩
  have W5 := W4.trans e5
  have S5 := S4.trans e5
  replace xt0 := At.ext xt0 e5
  replace gown := OwnI.ext gown e5
  repeat' (first
    | refine EW.seq ?_
    | refine EL.f (FV.move rfl) rfl rfl ?_
    | refine EL.f (FV.assign rfl) rfl rfl ?_
    | refine EL.nil ?_
    | refine EW.region ?_
    | refine EW.block ?_
    | refine EW.skip ?_
    | refine EW.exit ?_
    | refine EW.ret ?_
    | refine EW.condT rfl ?_
    | refine EW.condF rfl ?_
    | refine EL.f (FV.addI rfl rfl (by omega)) rfl rfl ?_
    | refine EL.f (FV.subI rfl rfl (by omega)) rfl rfl ?_
    | refine EL.f (FV.remI rfl rfl (by decide) (by omega)) rfl rfl ?_
    | refine EL.f (FV.quoI rfl rfl (by decide) (by omega)) rfl rfl ?_
    | refine EL.f (FV.extract rfl rfl) rfl rfl ?_
    | refine EL.f (FV.len rfl rfl) rfl rfl ?_
    | refine EL.f (FV.lenS rfl rfl) rfl rfl ?_
    | refine EL.f (FV.not rfl) rfl rfl ?_
    | refine EL.skip rfl rfl ?_
    | refine EL.f (FV.pickT rfl rfl) rfl rfl ?_
    | refine EL.f (FV.pickF rfl rfl) rfl rfl ?_
    | refine EL.fT (FV.lss rfl rfl) rfl (fun _ => rfl) (by omega) ?_
    | refine EL.fT (FV.leq rfl rfl) rfl (fun _ => rfl) (by omega) ?_
    | refine EL.fT (FV.gtr rfl rfl) rfl (fun _ => rfl) (by omega) ?_
    | refine EL.fT (FV.geq rfl rfl) rfl (fun _ => rfl) (by omega) ?_
    | refine EL.fT (FV.eql rfl rfl) rfl (fun _ => rfl) (by omega) ?_
    | refine EL.fT (FV.neq rfl rfl) rfl (fun _ => rfl) (by omega) ?_
    | refine EL.fF (FV.lss rfl rfl) rfl (fun _ => rfl) (by omega) ?_
    | refine EL.fF (FV.leq rfl rfl) rfl (fun _ => rfl) (by omega) ?_
    | refine EL.fF (FV.gtr rfl rfl) rfl (fun _ => rfl) (by omega) ?_
    | refine EL.fF (FV.geq rfl rfl) rfl (fun _ => rfl) (by omega) ?_
    | refine EL.fF (FV.eql rfl rfl) rfl (fun _ => rfl) (by omega) ?_
    | refine EL.fF (FV.neq rfl rfl) rfl (fun _ => rfl) (by omega) ?_
    | refine EL.f (FV.rem rfl rfl (by decide)) rfl rfl ?_
    | refine EL.f (FV.idx0 rfl rfl rfl rfl (by omega) (by omega)) rfl rfl ?_
    | refine EL.f (FV.idx1 rfl rfl rfl rfl (by omega) (by omega)) rfl rfl ?_
    | refine EL.f (FV.load1 rfl rfl rfl (by assumption)) rfl rfl ?_)
  refine EL.h (Hv.call (toInts A0 c0 xs0 u5 (h0.ext W5) hn0) rfl) rfl (fun _ => rfl) ?_
  rintro _ u6 ⟨y0, rfl, yb0, yt0, e6⟩
  have W6 := W5.trans e6
  have S6 := S5.trans e6
  replace xt0 := At.ext xt0 e6
  replace gown := OwnI.ext gown e6
  repeat' (first
    | refine EW.seq ?_
    | refine EL.f (FV.move rfl) rfl rfl ?_
    | refine EL.f (FV.assign rfl) rfl rfl ?_
    | refine EL.nil ?_
    | refine EW.region ?_
    | refine EW.block ?_
    | refine EW.skip ?_
    | refine EW.exit ?_
    | refine EW.ret ?_
    | refine EW.condT rfl ?_
    | refine EW.condF rfl ?_
    | refine EL.f (FV.addI rfl rfl (by omega)) rfl rfl ?_
    | refine EL.f (FV.subI rfl rfl (by omega)) rfl rfl ?_
    | refine EL.f (FV.remI rfl rfl (by decide) (by omega)) rfl rfl ?_
    | refine EL.f (FV.quoI rfl rfl (by decide) (by omega)) rfl rfl ?_
    | refine EL.f (FV.extract rfl rfl) rfl rfl ?_
    | refine EL.f (FV.len rfl rfl) rfl rfl ?_
    | refine EL.f (FV.lenS rfl rfl) rfl rfl ?_
    | refine EL.f (FV.not rfl) rfl rfl ?_
    | refine EL.skip rfl rfl ?_
    | refine EL.f (FV.pickT rfl rfl) rfl rfl ?_
    | refine EL.f (FV.pickF rfl rfl) rfl rfl ?_
    | refine EL.fT (FV.lss rfl rfl) rfl (fun _ => rfl) (by omega) ?_
    | refine EL.fT (FV.leq rfl rfl) rfl (fun _ => rfl) (by omega) ?_
    | refine EL.fT (FV.gtr rfl rfl) rfl (fun _ => rfl) (by omega) ?_
    | refine EL.fT (FV.geq rfl rfl) rfl (fun _ => rfl) (by omega) ?_
    | refine EL.fT (FV.eql rfl rfl) rfl (fun _ => rfl) (by omega) ?_
    | refine EL.fT (FV.neq rfl rfl) rfl (fun _ => rfl) (by omega) ?_
    | refine EL.fF (FV.lss rfl rfl) rfl (fun _ => rfl) (by omega) ?_
    | refine EL.fF (FV.leq rfl rfl) rfl (fun _ => rfl) (by omega) ?_
    | refine EL.fF (FV.gtr rfl rfl) rfl (fun _ => rfl) (by omega) ?_
    | refine EL.fF (FV.geq rfl rfl) rfl (fun _ => rfl) (by omega) ?_
    | refine EL.fF (FV.eql rfl rfl) rfl (fun _ => rfl) (by omega) ?_
    | refine EL.fF (FV.neq rfl rfl) rfl (fun _ => rfl) (by omega) ?_
    | refine EL.f (FV.rem rfl rfl (by decide)) rfl rfl ?_
    | refine EL.f (FV.idx0 rfl rfl rfl rfl (by omega) (by omega)) rfl rfl ?_
    | refine EL.f (FV.idx1 rfl rfl rfl rfl (by omega) (by omega)) rfl rfl ?_
    | refine EL.f (FV.load1 rfl rfl rfl (by assumption)) rfl rfl ?_)
  refine EL.h (Hv.call (eqSame (some ⟨x0, 0, none⟩) (some ⟨y0, 0, none⟩) _ _ xs0 u6 (At.rd xt0) (At.rd yt0) hn0) rfl) rfl (fun _ => rfl) ?_
  rintro _ u7 ⟨rfl, e7⟩
  have W7 := W6.trans e7
  have S7 := S6.trans e7
  replace xt0 := At.ext xt0 e7
  replace gown := OwnI.ext gown e7
  repeat' (first
    | refine EW.seq ?_
    | refine EL.f (FV.move rfl) rfl rfl ?_
    | refine EL.f (FV.assign rfl) rfl rfl ?_
    | refine EL.nil ?_
    | refine EW.region ?_
    | refine EW.block ?_
    | refine EW.skip ?_
    | refine EW.exit ?_
    | refine EW.ret ?_
    | refine EW.condT rfl ?_
    | refine EW.condF rfl ?_
    | refine EL.f (FV.addI rfl rfl (by omega)) rfl rfl ?_
    | refine EL.f (FV.subI rfl rfl (by omega)) rfl rfl ?_
    | refine EL.f (FV.remI rfl rfl (by decide) (by omega)) rfl rfl ?_
    | refine EL.f (FV.quoI rfl rfl (by decide) (by omega)) rfl rfl ?_
    | refine EL.f (FV.extract rfl rfl) rfl rfl ?_
    | refine EL.f (FV.len rfl rfl) rfl rfl ?_
    | refine EL.f (FV.lenS rfl rfl) rfl rfl ?_
    | refine EL.f (FV.not rfl) rfl rfl ?_
    | refine EL.skip rfl rfl ?_
    | refine EL.f (FV.pickT rfl rfl) rfl rfl ?_
    | refine EL.f (FV.pickF rfl rfl) rfl rfl ?_
    | refine EL.fT (FV.lss rfl rfl) rfl (fun _ => rfl) (by omega) ?_
    | refine EL.fT (FV.leq rfl rfl) rfl (fun _ => rfl) (by omega) ?_
    | refine EL.fT (FV.gtr rfl rfl) rfl (fun _ => rfl) (by omega) ?_
    | refine EL.fT (FV.geq rfl rfl) rfl (fun _ => rfl) (by omega) ?_
    | refine EL.fT (FV.eql rfl rfl) rfl (fun _ => rfl) (by omega) ?_
    | refine EL.fT (FV.neq rfl rfl) rfl (fun _ => rfl) (by omega) ?_
    | refine EL.fF (FV.lss rfl rfl) rfl (fun _ => rfl) (by omega) ?_
    | refine EL.fF (FV.leq rfl rfl) rfl (fun _ => rfl) (by omega) ?_
    | refine EL.fF (FV.gtr rfl rfl) rfl (fun _ => rfl) (by omega) ?_
    | refine EL.fF (FV.geq rfl rfl) rfl (fun _ => rfl) (by omega) ?_
    | refine EL.fF (FV.eql rfl rfl) rfl (fun _ => rfl) (by omega) ?_
    | refine EL.fF (FV.neq rfl rfl) rfl (fun _ => rfl) (by omega) ?_
    | refine EL.f (FV.rem rfl rfl (by decide)) rfl rfl ?_
    | refine EL.f (FV.idx0 rfl rfl rfl rfl (by omega) (by omega)) rfl rfl ?_
    | refine EL.f (FV.idx1 rfl rfl rfl rfl (by omega) (by omega)) rfl rfl ?_
    | refine EL.f (FV.load1 rfl rfl rfl (by assumption)) rfl rfl ?_)
  refine EL.h (Hv.call (markInts _ x0 xs0 (1) u7 (AtI.own (B := x0) xt0 (Nat.le_refl _)) hn0 (by omega)) rfl) rfl (fun _ => rfl) ?_
  rintro _ u8 ⟨rfl, _, gr0⟩
  have W8 := Ext.mark (g := x0) W7 gr0 (by have := xs_0; have := W2.size; omega)
  have S8 := Ext.mark (g := x0) S7 gr0 xs_0
  replace gown := OwnI.keep (g := x0) gown gr0 xg0
  repeat' (first
    | refine EW.seq ?_
    | refine EL.f (FV.move rfl) rfl rfl ?_
    | refine EL.f (FV.assign rfl) rfl rfl ?_
    | refine EL.nil ?_
    | refine EW.region ?_
    | refine EW.block ?_
    | refine EW.skip ?_
    | refine EW.exit ?_
    | refine EW.ret ?_
    | refine EW.condT rfl ?_
    | refine EW.condF rfl ?_
    | refine EL.f (FV.addI rfl rfl (by omega)) rfl rfl ?_
    | refine EL.f (FV.subI rfl rfl (by omega)) rfl rfl ?_
    | refine EL.f (FV.remI rfl rfl (by decide) (by omega)) rfl rfl ?_
    | refine EL.f (FV.quoI rfl rfl (by decide) (by omega)) rfl rfl ?_
    | refine EL.f (FV.extract rfl rfl) rfl rfl ?_
    | refine EL.f (FV.len rfl rfl) rfl rfl ?_
    | refine EL.f (FV.lenS rfl rfl) rfl rfl ?_
    | refine EL.f (FV.not rfl) rfl rfl ?_
    | refine EL.skip rfl rfl ?_
    | refine EL.f (FV.pickT rfl rfl) rfl rfl ?_
    | refine EL.f (FV.pickF rfl rfl) rfl rfl ?_
    | refine EL.fT (FV.lss rfl rfl) rfl (fun _ => rfl) (by omega) ?_
    | refine EL.fT (FV.leq rfl rfl) rfl (fun _ => rfl) (by omega) ?_
    | refine EL.fT (FV.gtr rfl rfl) rfl (fun _ => rfl) (by omega) ?_
    | refine EL.fT (FV.geq rfl rfl) rfl (fun _ => rfl) (by omega) ?_
    | refine EL.fT (FV.eql rfl rfl) rfl (fun _ => rfl) (by omega) ?_
    | refine EL.fT (FV.neq rfl rfl) rfl (fun _ => rfl) (by omega) ?_
    | refine EL.fF (FV.lss rfl rfl) rfl (fun _ => rfl) (by omega) ?_
    | refine EL.fF (FV.leq rfl rfl) rfl (fun _ => rfl) (by omega) ?_
    | refine EL.fF (FV.gtr rfl rfl) rfl (fun _ => rfl) (by omega) ?_
    | refine EL.fF (FV.geq rfl rfl) rfl (fun _ => rfl) (by omega) ?_
    | refine EL.fF (FV.eql rfl rfl) rfl (fun _ => rfl) (by omega) ?_
    | refine EL.fF (FV.neq rfl rfl) rfl (fun _ => rfl) (by omega) ?_
    | refine EL.f (FV.rem rfl rfl (by decide)) rfl rfl ?_
    | refine EL.f (FV.idx0 rfl rfl rfl rfl (by omega) (by omega)) rfl rfl ?_
    | refine EL.f (FV.idx1 rfl rfl rfl rfl (by omega) (by omega)) rfl rfl ?_
    | refine EL.f (FV.load1 rfl rfl rfl (by assumption)) rfl rfl ?_)
  refine EL.h (Hv.call (eqSame GA SA gc sc _ u8 (OwnI.rd gown) (sr.ext S8) hr) rfl) rfl (fun _ => rfl) ?_
  rintro _ u9 ⟨rfl, e9⟩
  have W9 := W8.trans e9
  have S9 := S8.trans e9
  replace gown := OwnI.ext gown e9
  repeat' (first
    | refine EW.seq ?_
    | refine EL.f (FV.move rfl) rfl rfl ?_
    | refine EL.f (FV.assign rfl) rfl rfl ?_
    | refine EL.nil ?_
    | refine EW.region ?_
    | refine EW.block ?_
    | refine EW.skip ?_
    | refine EW.exit ?_
    | refine EW.ret ?_
    | refine EW.condT rfl ?_
    | refine EW.condF rfl ?_
    | refine EL.f (FV.addI rfl rfl (by omega)) rfl rfl ?_
    | refine EL.f (FV.subI rfl rfl (by omega)) rfl rfl ?_
    | refine EL.f (FV.remI rfl rfl (by decide) (by omega)) rfl rfl ?_
    | refine EL.f (FV.quoI rfl rfl (by decide) (by omega)) rfl rfl ?_
    | refine EL.f (FV.extract rfl rfl) rfl rfl ?_
    | refine EL.f (FV.len rfl rfl) rfl rfl ?_
    | refine EL.f (FV.lenS rfl rfl) rfl rfl ?_
    | refine EL.f (FV.not rfl) rfl rfl ?_
    | refine EL.skip rfl rfl ?_
    | refine EL.f (FV.pickT rfl rfl) rfl rfl ?_
    | refine EL.f (FV.pickF rfl rfl) rfl rfl ?_
    | refine EL.fT (FV.lss rfl rfl) rfl (fun _ => rfl) (by omega) ?_
    | refine EL.fT (FV.leq rfl rfl) rfl (fun _ => rfl) (by omega) ?_
    | refine EL.fT (FV.gtr rfl rfl) rfl (fun _ => rfl) (by omega) ?_
    | refine EL.fT (FV.geq rfl rfl) rfl (fun _ => rfl) (by omega) ?_
    | refine EL.fT (FV.eql rfl rfl) rfl (fun _ => rfl) (by omega) ?_
    | refine EL.fT (FV.neq rfl rfl) rfl (fun _ => rfl) (by omega) ?_
    | refine EL.fF (FV.lss rfl rfl) rfl (fun _ => rfl) (by omega) ?_
    | refine EL.fF (FV.leq rfl rfl) rfl (fun _ => rfl) (by omega) ?_
    | refine EL.fF (FV.gtr rfl rfl) rfl (fun _ => rfl) (by omega) ?_
    | refine EL.fF (FV.geq rfl rfl) rfl (fun _ => rfl) (by omega) ?_
    | refine EL.fF (FV.eql rfl rfl) rfl (fun _ => rfl) (by omega) ?_
    | refine EL.fF (FV.neq rfl rfl) rfl (fun _ => rfl) (by omega) ?_
    | refine EL.f (FV.rem rfl rfl (by decide)) rfl rfl ?_
    | refine EL.f (FV.idx0 rfl rfl rfl rfl (by omega) (by omega)) rfl rfl ?_
    | refine EL.f (FV.idx1 rfl rfl rfl rfl (by omega) (by omega)) rfl rfl ?_
    | refine EL.f (FV.load1 rfl rfl rfl (by assumption)) rfl rfl ?_)
  refine EL.h (Hv.call (markInts _ u3.heap.size _ 1 u9 gown hr (by omega)) rfl) rfl (fun _ => rfl) ?_
  rintro _ u10 ⟨rfl, gmk, grg⟩
  have W10 := Ext.markO W9 gown grg (by have := ug; have := W2.size; omega)
  have S10 := Ext.markO S9 gown grg ug
  replace gown := gmk
  repeat' (first
    | refine EW.seq ?_
    | refine EL.f (FV.move rfl) rfl rfl ?_
    | refine EL.f (FV.assign rfl) rfl rfl ?_
    | refine EL.nil ?_
    | refine EW.region ?_
    | refine EW.block ?_
    | refine EW.skip ?_
    | refine EW.exit ?_
    | refine EW.ret ?_
    | refine EW.condT rfl ?_
    | refine EW.condF rfl ?_
    | refine EL.f (FV.addI rfl rfl (by omega)) rfl rfl ?_
    | refine EL.f (FV.subI rfl rfl (by omega)) rfl rfl ?_
    | refine EL.f (FV.remI rfl rfl (by decide) (by omega)) rfl rfl ?_
    | refine EL.f (FV.quoI rfl rfl (by decide) (by omega)) rfl rfl ?_
    | refine EL.f (FV.extract rfl rfl) rfl rfl ?_
    | refine EL.f (FV.len rfl rfl) rfl rfl ?_
    | refine EL.f (FV.lenS rfl rfl) rfl rfl ?_
    | refine EL.f (FV.not rfl) rfl rfl ?_
    | refine EL.skip rfl rfl ?_
    | refine EL.f (FV.pickT rfl rfl) rfl rfl ?_
    | refine EL.f (FV.pickF rfl rfl) rfl rfl ?_
    | refine EL.fT (FV.lss rfl rfl) rfl (fun _ => rfl) (by omega) ?_
    | refine EL.fT (FV.leq rfl rfl) rfl (fun _ => rfl) (by omega) ?_
    | refine EL.fT (FV.gtr rfl rfl) rfl (fun _ => rfl) (by omega) ?_
    | refine EL.fT (FV.geq rfl rfl) rfl (fun _ => rfl) (by omega) ?_
    | refine EL.fT (FV.eql rfl rfl) rfl (fun _ => rfl) (by omega) ?_
    | refine EL.fT (FV.neq rfl rfl) rfl (fun _ => rfl) (by omega) ?_
    | refine EL.fF (FV.lss rfl rfl) rfl (fun _ => rfl) (by omega) ?_
    | refine EL.fF (FV.leq rfl rfl) rfl (fun _ => rfl) (by omega) ?_
    | refine EL.fF (FV.gtr rfl rfl) rfl (fun _ => rfl) (by omega) ?_
    | refine EL.fF (FV.geq rfl rfl) rfl (fun _ => rfl) (by omega) ?_
    | refine EL.fF (FV.eql rfl rfl) rfl (fun _ => rfl) (by omega) ?_
    | refine EL.fF (FV.neq rfl rfl) rfl (fun _ => rfl) (by omega) ?_
    | refine EL.f (FV.rem rfl rfl (by decide)) rfl rfl ?_
    | refine EL.f (FV.idx0 rfl rfl rfl rfl (by omega) (by omega)) rfl rfl ?_
    | refine EL.f (FV.idx1 rfl rfl rfl rfl (by omega) (by omega)) rfl rfl ?_
    | refine EL.f (FV.load1 rfl rfl rfl (by assumption)) rfl rfl ?_)
  refine EL.h (Hv.call (heldInts GA gc _ 1 u10 (OwnI.rd gown) hr (by omega)) rfl) rfl (fun _ => rfl) ?_
  rintro _ _ ⟨rfl, rfl⟩
  repeat' (first
    | refine EW.seq ?_
    | refine EL.f (FV.move rfl) rfl rfl ?_
    | refine EL.f (FV.assign rfl) rfl rfl ?_
    | refine EL.nil ?_
    | refine EW.region ?_
    | refine EW.block ?_
    | refine EW.skip ?_
    | refine EW.exit ?_
    | refine EW.ret ?_
    | refine EW.condT rfl ?_
    | refine EW.condF rfl ?_
    | refine EL.f (FV.addI rfl rfl (by omega)) rfl rfl ?_
    | refine EL.f (FV.subI rfl rfl (by omega)) rfl rfl ?_
    | refine EL.f (FV.remI rfl rfl (by decide) (by omega)) rfl rfl ?_
    | refine EL.f (FV.quoI rfl rfl (by decide) (by omega)) rfl rfl ?_
    | refine EL.f (FV.extract rfl rfl) rfl rfl ?_
    | refine EL.f (FV.len rfl rfl) rfl rfl ?_
    | refine EL.f (FV.lenS rfl rfl) rfl rfl ?_
    | refine EL.f (FV.not rfl) rfl rfl ?_
    | refine EL.skip rfl rfl ?_
    | refine EL.f (FV.pickT rfl rfl) rfl rfl ?_
    | refine EL.f (FV.pickF rfl rfl) rfl rfl ?_
    | refine EL.fT (FV.lss rfl rfl) rfl (fun _ => rfl) (by omega) ?_
    | refine EL.fT (FV.leq rfl rfl) rfl (fun _ => rfl) (by omega) ?_
    | refine EL.fT (FV.gtr rfl rfl) rfl (fun _ => rfl) (by omega) ?_
    | refine EL.fT (FV.geq rfl rfl) rfl (fun _ => rfl) (by omega) ?_
    | refine EL.fT (FV.eql rfl rfl) rfl (fun _ => rfl) (by omega) ?_
    | refine EL.fT (FV.neq rfl rfl) rfl (fun _ => rfl) (by omega) ?_
    | refine EL.fF (FV.lss rfl rfl) rfl (fun _ => rfl) (by omega) ?_
    | refine EL.fF (FV.leq rfl rfl) rfl (fun _ => rfl) (by omega) ?_
    | refine EL.fF (FV.gtr rfl rfl) rfl (fun _ => rfl) (by omega) ?_
    | refine EL.fF (FV.geq rfl rfl) rfl (fun _ => rfl) (by omega) ?_
    | refine EL.fF (FV.eql rfl rfl) rfl (fun _ => rfl) (by omega) ?_
    | refine EL.fF (FV.neq rfl rfl) rfl (fun _ => rfl) (by omega) ?_
    | refine EL.f (FV.rem rfl rfl (by decide)) rfl rfl ?_
    | refine EL.f (FV.idx0 rfl rfl rfl rfl (by omega) (by omega)) rfl rfl ?_
    | refine EL.f (FV.idx1 rfl rfl rfl rfl (by omega) (by omega)) rfl rfl ?_
    | refine EL.f (FV.load1 rfl rfl rfl (by assumption)) rfl rfl ?_)
  refine EL.h (Hv.call (toInts A0 c0 xs0 u10 (h0.ext W10) hn0) rfl) rfl (fun _ => rfl) ?_
  rintro _ u11 ⟨z0, rfl, zb0, zt0, e11⟩
  have W11 := W10.trans e11
  have S11 := S10.trans e11
  replace gown := OwnI.ext gown e11
  repeat' (first
    | refine EW.seq ?_
    | refine EL.f (FV.move rfl) rfl rfl ?_
    | refine EL.f (FV.assign rfl) rfl rfl ?_
    | refine EL.nil ?_
    | refine EW.region ?_
    | refine EW.block ?_
    | refine EW.skip ?_
    | refine EW.exit ?_
    | refine EW.ret ?_
    | refine EW.condT rfl ?_
    | refine EW.condF rfl ?_
    | refine EL.f (FV.addI rfl rfl (by omega)) rfl rfl ?_
    | refine EL.f (FV.subI rfl rfl (by omega)) rfl rfl ?_
    | refine EL.f (FV.remI rfl rfl (by decide) (by omega)) rfl rfl ?_
    | refine EL.f (FV.quoI rfl rfl (by decide) (by omega)) rfl rfl ?_
    | refine EL.f (FV.extract rfl rfl) rfl rfl ?_
    | refine EL.f (FV.len rfl rfl) rfl rfl ?_
    | refine EL.f (FV.lenS rfl rfl) rfl rfl ?_
    | refine EL.f (FV.not rfl) rfl rfl ?_
    | refine EL.skip rfl rfl ?_
    | refine EL.f (FV.pickT rfl rfl) rfl rfl ?_
    | refine EL.f (FV.pickF rfl rfl) rfl rfl ?_
    | refine EL.fT (FV.lss rfl rfl) rfl (fun _ => rfl) (by omega) ?_
    | refine EL.fT (FV.leq rfl rfl) rfl (fun _ => rfl) (by omega) ?_
    | refine EL.fT (FV.gtr rfl rfl) rfl (fun _ => rfl) (by omega) ?_
    | refine EL.fT (FV.geq rfl rfl) rfl (fun _ => rfl) (by omega) ?_
    | refine EL.fT (FV.eql rfl rfl) rfl (fun _ => rfl) (by omega) ?_
    | refine EL.fT (FV.neq rfl rfl) rfl (fun _ => rfl) (by omega) ?_
    | refine EL.fF (FV.lss rfl rfl) rfl (fun _ => rfl) (by omega) ?_
    | refine EL.fF (FV.leq rfl rfl) rfl (fun _ => rfl) (by omega) ?_
    | refine EL.fF (FV.gtr rfl rfl) rfl (fun _ => rfl) (by omega) ?_
    | refine EL.fF (FV.geq rfl rfl) rfl (fun _ => rfl) (by omega) ?_
    | refine EL.fF (FV.eql rfl rfl) rfl (fun _ => rfl) (by omega) ?_
    | refine EL.fF (FV.neq rfl rfl) rfl (fun _ => rfl) (by omega) ?_
    | refine EL.f (FV.rem rfl rfl (by decide)) rfl rfl ?_
    | refine EL.f (FV.idx0 rfl rfl rfl rfl (by omega) (by omega)) rfl rfl ?_
    | refine EL.f (FV.idx1 rfl rfl rfl rfl (by omega) (by omega)) rfl rfl ?_
    | refine EL.f (FV.load1 rfl rfl rfl (by assumption)) rfl rfl ?_)
  refine EL.h (Hv.call (implIntegralOfS (some ⟨z0, 0, none⟩) _ xs0 u11 (At.rd zt0) hn0) rfl) rfl (fun _ => rfl) ?_
  rintro _ u12 ⟨hv, rfl, hown, e12⟩
  have W12 := W11.trans e12
  have S12 := S11.trans e12
  replace gown := OwnI.ext gown e12
  obtain ⟨HA, hc, rfl, hrd⟩ := hown.form
  repeat' (first
    | refine EW.seq ?_
    | refine EL.f (FV.move rfl) rfl rfl ?_
    | refine EL.f (FV.assign rfl) rfl rfl ?_
    | refine EL.nil ?_
    | refine EW.region ?_
    | refine EW.block ?_
    | refine EW.skip ?_
    | refine EW.exit ?_
    | refine EW.ret ?_
    | refine EW.condT rfl ?_
    | refine EW.condF rfl ?_
    | refine EL.f (FV.addI rfl rfl (by omega)) rfl rfl ?_
    | refine EL.f (FV.subI rfl rfl (by omega)) rfl rfl ?_
    | refine EL.f (FV.remI rfl rfl (by decide) (by omega)) rfl rfl ?_
    | refine EL.f (FV.quoI rfl rfl (by decide) (by omega)) rfl rfl ?_
    | refine EL.f (FV.extract rfl rfl) rfl rfl ?_
    | refine EL.f (FV.len rfl rfl) rfl rfl ?_
    | refine EL.f (FV.lenS rfl rfl) rfl rfl ?_
    | refine EL.f (FV.not rfl) rfl rfl ?_
    | refine EL.skip rfl rfl ?_
    | refine EL.f (FV.pickT rfl rfl) rfl rfl ?_
    | refine EL.f (FV.pickF rfl rfl) rfl rfl ?_
    | refine EL.fT (FV.lss rfl rfl) rfl (fun _ => rfl) (by omega) ?_
    | refine EL.fT (FV.leq rfl rfl) rfl (fun _ => rfl) (by omega) ?_
    | refine EL.fT (FV.gtr rfl rfl) rfl (fun _ => rfl) (by omega) ?_
    | refine EL.fT (FV.geq rfl rfl) rfl (fun _ => rfl) (by omega) ?_
    | refine EL.fT (FV.eql rfl rfl) rfl (fun _ => rfl) (by omega) ?_
    | refine EL.fT (FV.neq rfl rfl) rfl (fun _ => rfl) (by omega) ?_
    | refine EL.fF (FV.lss rfl rfl) rfl (fun _ => rfl) (by omega) ?_
    | refine EL.fF (FV.leq rfl rfl) rfl (fun _ => rfl) (by omega) ?_
    | refine EL.fF (FV.gtr rfl rfl) rfl (fun _ => rfl) (by omega) ?_
    | refine EL.fF (FV.geq rfl rfl) rfl (fun _ => rfl) (by omega) ?_
    | refine EL.fF (FV.eql rfl rfl) rfl (fun _ => rfl) (by omega) ?_
    | refine EL.fF (FV.neq rfl rfl) rfl (fun _ => rfl) (by omega) ?_
    | refine EL.f (FV.rem rfl rfl (by decide)) rfl rfl ?_
    | refine EL.f (FV.idx0 rfl rfl rfl rfl (by omega) (by omega)) rfl rfl ?_
    | refine EL.f (FV.idx1 rfl rfl rfl rfl (by omega) (by omega)) rfl rfl ?_
    | refine EL.f (FV.load1 rfl rfl rfl (by assumption)) rfl rfl ?_)
  refine EL.h (Hv.call (eqSame HA SA hc sc _ u12 hrd (sr.ext S12) hr) rfl) rfl (fun _ => rfl) ?_
  rintro _ u13 ⟨rfl, e13⟩
  have W13 := W12.trans e13
  have S13 := S12.trans e13
  replace gown := OwnI.ext gown e13
  repeat' (first
    | refine EW.seq ?_
    | refine EL.f (FV.move rfl) rfl rfl ?_
    | refine EL.f (FV.assign rfl) rfl rfl ?_
    | refine EL.nil ?_
    | refine EW.region ?_
    | refine EW.block ?_
    | refine EW.skip ?_
    | refine EW.exit ?_
    | refine EW.ret ?_
    | refine EW.condT rfl ?_
    | refine EW.condF rfl ?_
    | refine EL.f (FV.addI rfl rfl (by omega)) rfl rfl ?_
    | refine EL.f (FV.subI rfl rfl (by omega)) rfl rfl ?_
    | refine EL.f (FV.remI rfl rfl (by decide) (by omega)) rfl rfl ?_
    | refine EL.f (FV.quoI rfl rfl (by decide) (by omega)) rfl rfl ?_
    | refine EL.f (FV.extract rfl rfl) rfl rfl ?_
    | refine EL.f (FV.len rfl rfl) rfl rfl ?_
    | refine EL.f (FV.lenS rfl rfl) rfl rfl ?_
    | refine EL.f (FV.not rfl) rfl rfl ?_
    | refine EL.skip rfl rfl ?_
    | refine EL.f (FV.pickT rfl rfl) rfl rfl ?_
    | refine EL.f (FV.pickF rfl rfl) rfl rfl ?_
    | refine EL.fT (FV.lss rfl rfl) rfl (fun _ => rfl) (by omega) ?_
    | refine EL.fT (FV.leq rfl rfl) rfl (fun _ => rfl) (by omega) ?_
    | refine EL.fT (FV.gtr rfl rfl) rfl (fun _ => rfl) (by omega) ?_
    | refine EL.fT (FV.geq rfl rfl) rfl (fun _ => rfl) (by omega) ?_
    | refine EL.fT (FV.eql rfl rfl) rfl (fun _ => rfl) (by omega) ?_
    | refine EL.fT (FV.neq rfl rfl) rfl (fun _ => rfl) (by omega) ?_
    | refine EL.fF (FV.lss rfl rfl) rfl (fun _ => rfl) (by omega) ?_
    | refine EL.fF (FV.leq rfl rfl) rfl (fun _ => rfl) (by omega) ?_
    | refine EL.fF (FV.gtr rfl rfl) rfl (fun _ => rfl) (by omega) ?_
    | refine EL.fF (FV.geq rfl rfl) rfl (fun _ => rfl) (by omega) ?_
    | refine EL.fF (FV.eql rfl rfl) rfl (fun _ => rfl) (by omega) ?_
    | refine EL.fF (FV.neq rfl rfl) rfl (fun _ => rfl) (by omega) ?_
    | refine EL.f (FV.rem rfl rfl (by decide)) rfl rfl ?_
    | refine EL.f (FV.idx0 rfl rfl rfl rfl (by omega) (by omega)) rfl rfl ?_
    | refine EL.f (FV.idx1 rfl rfl rfl rfl (by omega) (by omega)) rfl rfl ?_
    | refine EL.f (FV.load1 rfl rfl rfl (by assumption)) rfl rfl ?_)
  refine EL.h (Hv.call (heldInts GA gc _ 1 u13 (OwnI.rd gown) hr (by omega)) rfl) rfl (fun _ => rfl) ?_
  rintro _ _ ⟨rfl, rfl⟩
  repeat' (first
    | refine EW.seq ?_
    | refine EL.f (FV.move rfl) rfl rfl ?_
    | refine EL.f (FV.assign rfl) rfl rfl ?_
    | refine EL.nil ?_
    | refine EW.region ?_
    | refine EW.block ?_
    | refine EW.skip ?_
    | refine EW.exit ?_
    | refine EW.ret ?_
    | refine EW.condT rfl ?_
    | refine EW.condF rfl ?_
    | refine EL.f (FV.addI rfl rfl (by omega)) rfl rfl ?_
    | refine EL.f (FV.subI rfl rfl (by omega)) rfl rfl ?_
    | refine EL.f (FV.remI rfl rfl (by decide) (by omega)) rfl rfl ?_
    | refine EL.f (FV.quoI rfl rfl (by decide) (by omega)) rfl rfl ?_
    | refine EL.f (FV.extract rfl rfl) rfl rfl ?_
    | refine EL.f (FV.len rfl rfl) rfl rfl ?_
    | refine EL.f (FV.lenS rfl rfl) rfl rfl ?_
    | refine EL.f (FV.not rfl) rfl rfl ?_
    | refine EL.skip rfl rfl ?_
    | refine EL.f (FV.pickT rfl rfl) rfl rfl ?_
    | refine EL.f (FV.pickF rfl rfl) rfl rfl ?_
    | refine EL.fT (FV.lss rfl rfl) rfl (fun _ => rfl) (by omega) ?_
    | refine EL.fT (FV.leq rfl rfl) rfl (fun _ => rfl) (by omega) ?_
    | refine EL.fT (FV.gtr rfl rfl) rfl (fun _ => rfl) (by omega) ?_
    | refine EL.fT (FV.geq rfl rfl) rfl (fun _ => rfl) (by omega) ?_
    | refine EL.fT (FV.eql rfl rfl) rfl (fun _ => rfl) (by omega) ?_
    | refine EL.fT (FV.neq rfl rfl) rfl (fun _ => rfl) (by omega) ?_
    | refine EL.fF (FV.lss rfl rfl) rfl (fun _ => rfl) (by omega) ?_
    | refine EL.fF (FV.leq rfl rfl) rfl (fun _ => rfl) (by omega) ?_
    | refine EL.fF (FV.gtr rfl rfl) rfl (fun _ => rfl) (by omega) ?_
    | refine EL.fF (FV.geq rfl rfl) rfl (fun _ => rfl) (by omega) ?_
    | refine EL.fF (FV.eql rfl rfl) rfl (fun _ => rfl) (by omega) ?_
    | refine EL.fF (FV.neq rfl rfl) rfl (fun _ => rfl) (by omega) ?_
    | refine EL.f (FV.rem rfl rfl (by decide)) rfl rfl ?_
    | refine EL.f (FV.idx0 rfl rfl rfl rfl (by omega) (by omega)) rfl rfl ?_
    | refine EL.f (FV.idx1 rfl rfl rfl rfl (by omega) (by omega)) rfl rfl ?_
    | refine EL.f (FV.load1 rfl rfl rfl (by assumption)) rfl rfl ?_)
  exact ⟨_, rfl, rfl, W13⟩
end Eng
end Go.Proofs.Ytlhfcmcocbiafaa
