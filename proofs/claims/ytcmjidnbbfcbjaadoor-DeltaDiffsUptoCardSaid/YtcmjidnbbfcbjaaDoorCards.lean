/-
  DERIVED. GIVEN WITH THE SEED: THE CARDS: each row of YtcmjidnbbfcbjaaDoorRows.lean that lists a variable, with what it lists TIED to the program's text (the seventh form; the later family's looks); each row that meets fmt, with fmt's text TOLD by the authors' own Lean function (tested against real Go, not proved from fmt's source: count such statements apart). THE CARD IS WHAT COUNTS. Prove the row's statement (the work); the ties are given (YtcmjidnbbfcbjaaDoorTie.lean); close each card by the builder's one call (the guide's Derived/Test/ToyasCard.lean, 'card_holds'). Laid BY PROGRAM, IN A SANDBOX (cutbox-door.mjs). By AI agents, Wed Nov 11 2026. No macro, syntax, notation, axiom, sorry.
-/
import Derived.Test.YtcmjidnbbfcbjaaDoorRows
import GoSem.ClaimSeven
namespace Go.Proofs.YtcmjidnbbfcbjaaDoor
namespace Rows

/-- THE TIED CARD OF 'selvedgelaw24.DeltaDiffs'. -/
def deltaDiffsCard : Claim7 := { stood := { row := deltaDiffsRow, standIns := [], harness := (true, "5553bed873bf44223cf8672a17f1224f5f25296bbfffe46e5e7028abd0569ead"), looks := false }, kinds := [], alts := [], laidByText := true, laidKinds := [.data, .data, .data], laidTests := true, laidLooks := .later }
def DeltaDiffsCardSaid : Prop := Claim7.holds Tryd.pinned (.plain (OpenSpec.ofChange deltaDiffsSpec)) deltaDiffsCard

/-- THE TIED CARD OF 'selvedgelaw24.DeltaQuotes'. -/
def deltaQuotesCard : Claim7 := { stood := { row := deltaQuotesRow, standIns := [], harness := (true, "5553bed873bf44223cf8672a17f1224f5f25296bbfffe46e5e7028abd0569ead"), looks := false }, kinds := [], alts := [], laidByText := true, laidKinds := [.data, .data, .data], laidTests := true, laidLooks := .later }
def DeltaQuotesCardSaid : Prop := Claim7.holds Tryd.pinned (.plain (OpenSpec.ofChange deltaQuotesSpec)) deltaQuotesCard

/-- THE SECOND FORM's CARD OF 'selvedgelaw24.DeltaDiffs'. -/
def deltaDiffsUptoCard : Claim7 := { stood := { row := deltaDiffsUptoRow, standIns := [], harness := (true, "5553bed873bf44223cf8672a17f1224f5f25296bbfffe46e5e7028abd0569ead"), looks := false }, kinds := [], alts := [], laidByText := true, laidKinds := [.data, .data, .data], laidTests := true, laidLooks := .later }
def DeltaDiffsUptoCardSaid : Prop := Claim7.holds Tryd.pinned (.plain (OpenSpec.upto deltaDiffsSpec)) deltaDiffsUptoCard

/-- THE SECOND FORM's CARD OF 'selvedgelaw24.DeltaQuotes'. -/
def deltaQuotesUptoCard : Claim7 := { stood := { row := deltaQuotesUptoRow, standIns := [], harness := (true, "5553bed873bf44223cf8672a17f1224f5f25296bbfffe46e5e7028abd0569ead"), looks := false }, kinds := [], alts := [], laidByText := true, laidKinds := [.data, .data, .data], laidTests := true, laidLooks := .later }
def DeltaQuotesUptoCardSaid : Prop := Claim7.holds Tryd.pinned (.plain (OpenSpec.upto deltaQuotesSpec)) deltaQuotesUptoCard
end Rows
end Go.Proofs.YtcmjidnbbfcbjaaDoor
