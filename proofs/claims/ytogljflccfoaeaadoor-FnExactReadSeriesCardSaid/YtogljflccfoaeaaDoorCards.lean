/-
  DERIVED. GIVEN WITH THE SEED: THE CARDS: each row of YtogljflccfoaeaaDoorRows.lean that lists a variable, with what it lists TIED to the program's text (the seventh form; the later family's looks); each row that meets fmt, with fmt's text TOLD by the authors' own Lean function (tested against real Go, not proved from fmt's source: count such statements apart). THE CARD IS WHAT COUNTS. Prove the row's statement (the work); the ties are given (YtogljflccfoaeaaDoorTie.lean); close each card by the builder's one call (the guide's Derived/Test/ToyasCard.lean, 'card_holds'). Laid BY PROGRAM, IN A SANDBOX (cutbox-door.mjs). By AI agents, Wed Nov 11 2026. No macro, syntax, notation, axiom, sorry.
-/
import Derived.Test.YtogljflccfoaeaaDoorRows
import GoSem.ClaimSeven
namespace Go.Proofs.YtogljflccfoaeaaDoor
namespace Rows

/-- THE TIED CARD OF 'laws.FnExactReadSeries'. -/
def fnExactReadSeriesCard : Claim7 := { stood := { row := fnExactReadSeriesRow, standIns := [], harness := (true, "071b3f4f6670153195e15ddd84241d025b15e156fca9e39e42e1b2926556d5f5"), looks := true }, kinds := [], alts := [], laidByText := true, laidKinds := [.data, .data, .data, .data, .sentinel, .sentinel, .pinned], laidTests := true, laidLooks := .later }
def FnExactReadSeriesCardSaid : Prop := Claim7.holds Tryd.pinned (.plain (OpenSpec.ofChange fnExactReadSeriesSpec)) fnExactReadSeriesCard

/-- THE TIED CARD OF 'laws.FnExactSeriesText'. -/
def fnExactSeriesTextCard : Claim7 := { stood := { row := fnExactSeriesTextRow, standIns := [], harness := (true, "071b3f4f6670153195e15ddd84241d025b15e156fca9e39e42e1b2926556d5f5"), looks := true }, kinds := [], alts := [], laidByText := true, laidKinds := [.data, .data, .data], laidTests := true, laidLooks := .later }
def FnExactSeriesTextCardSaid : Prop := Claim7.holds Tryd.pinned (.plain (OpenSpec.ofChange fnExactSeriesTextSpec)) fnExactSeriesTextCard

/-- THE TIED CARD OF 'laws.FnExactTapeText'. -/
def fnExactTapeTextCard : Claim7 := { stood := { row := fnExactTapeTextRow, standIns := [], harness := (true, "071b3f4f6670153195e15ddd84241d025b15e156fca9e39e42e1b2926556d5f5"), looks := true }, kinds := [], alts := [], laidByText := true, laidKinds := [.data, .data, .data], laidTests := true, laidLooks := .later }
def FnExactTapeTextCardSaid : Prop := Claim7.holds Tryd.pinned (.plain (OpenSpec.ofChange fnExactTapeTextSpec)) fnExactTapeTextCard

/-- THE SECOND FORM's CARD OF 'laws.FnExactReadSeries'. -/
def fnExactReadSeriesUptoCard : Claim7 := { stood := { row := fnExactReadSeriesUptoRow, standIns := [], harness := (true, "071b3f4f6670153195e15ddd84241d025b15e156fca9e39e42e1b2926556d5f5"), looks := true }, kinds := [], alts := [], laidByText := true, laidKinds := [.data, .data, .data, .data, .sentinel, .sentinel, .pinned], laidTests := true, laidLooks := .later }
def FnExactReadSeriesUptoCardSaid : Prop := Claim7.holds Tryd.pinned (.plain (OpenSpec.upto fnExactReadSeriesSpec)) fnExactReadSeriesUptoCard

/-- THE SECOND FORM's CARD OF 'laws.FnExactSeriesText'. -/
def fnExactSeriesTextUptoCard : Claim7 := { stood := { row := fnExactSeriesTextUptoRow, standIns := [], harness := (true, "071b3f4f6670153195e15ddd84241d025b15e156fca9e39e42e1b2926556d5f5"), looks := true }, kinds := [], alts := [], laidByText := true, laidKinds := [.data, .data, .data], laidTests := true, laidLooks := .later }
def FnExactSeriesTextUptoCardSaid : Prop := Claim7.holds Tryd.pinned (.plain (OpenSpec.upto fnExactSeriesTextSpec)) fnExactSeriesTextUptoCard

/-- THE SECOND FORM's CARD OF 'laws.FnExactTapeText'. -/
def fnExactTapeTextUptoCard : Claim7 := { stood := { row := fnExactTapeTextUptoRow, standIns := [], harness := (true, "071b3f4f6670153195e15ddd84241d025b15e156fca9e39e42e1b2926556d5f5"), looks := true }, kinds := [], alts := [], laidByText := true, laidKinds := [.data, .data, .data], laidTests := true, laidLooks := .later }
def FnExactTapeTextUptoCardSaid : Prop := Claim7.holds Tryd.pinned (.plain (OpenSpec.upto fnExactTapeTextSpec)) fnExactTapeTextUptoCard
end Rows
end Go.Proofs.YtogljflccfoaeaaDoor
