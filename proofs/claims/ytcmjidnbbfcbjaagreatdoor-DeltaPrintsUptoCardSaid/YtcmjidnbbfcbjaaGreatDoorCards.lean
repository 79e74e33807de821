/-
  DERIVED. GIVEN WITH THE SEED: THE CARDS: each row of YtcmjidnbbfcbjaaGreatDoorRows.lean that lists a variable, with what it lists TIED to the program's text (the seventh form; the later family's looks); each row that meets fmt, with fmt's text TOLD by the authors' own Lean function (tested against real Go, not proved from fmt's source: count such statements apart). THE CARD IS WHAT COUNTS. Prove the row's statement (the work); the ties are given (YtcmjidnbbfcbjaaGreatDoorTie.lean); close each card by the builder's one call (the guide's Derived/Test/ToyasCard.lean, 'card_holds'). Laid BY PROGRAM, IN A SANDBOX (cutbox-door.mjs). By AI agents, Wed Nov 11 2026. No macro, syntax, notation, axiom, sorry.
-/
import Derived.Test.YtcmjidnbbfcbjaaGreatDoorRows
import GoSem.ClaimSeven
namespace Go.Proofs.YtcmjidnbbfcbjaaGreatDoor
namespace Rows

/-- THE TIED CARD OF 'selvedgelaw24.DeltaMakes'. -/
def deltaMakesCard : Claim7 := { stood := { row := deltaMakesRow, standIns := [], harness := (true, "bc6829616db1d52b9474e27ddf4934531d2de61b05cce841c133b104000298e6"), looks := true }, kinds := [], alts := [], laidByText := true, laidKinds := [.data, .data, .data], laidTests := true, laidLooks := .later }
def DeltaMakesCardSaid : Prop := Claim7.holds Tryz.pinned (.plain (OpenSpec.ofChange deltaMakesSpec)) deltaMakesCard

/-- THE TIED CARD OF 'selvedgelaw24.DeltaMerges'. -/
def deltaMergesCard : Claim7 := { stood := { row := deltaMergesRow, standIns := [], harness := (true, "bc6829616db1d52b9474e27ddf4934531d2de61b05cce841c133b104000298e6"), looks := true }, kinds := [], alts := [], laidByText := true, laidKinds := [.data, .data, .data], laidTests := true, laidLooks := .later }
def DeltaMergesCardSaid : Prop := Claim7.holds Tryz.pinned (.plain (OpenSpec.ofChange deltaMergesSpec)) deltaMergesCard

/-- THE TIED CARD OF 'selvedgelaw24.DeltaAlone'. -/
def deltaAloneCard : Claim7 := { stood := { row := deltaAloneRow, standIns := [], harness := (true, "bc6829616db1d52b9474e27ddf4934531d2de61b05cce841c133b104000298e6"), looks := true }, kinds := [], alts := [], laidByText := true, laidKinds := [.data, .data, .data], laidTests := true, laidLooks := .later }
def DeltaAloneCardSaid : Prop := Claim7.holds Tryz.pinned (.plain (OpenSpec.ofChange deltaAloneSpec)) deltaAloneCard

/-- THE TIED CARD OF 'selvedgelaw24.DeltaBoth'. -/
def deltaBothCard : Claim7 := { stood := { row := deltaBothRow, standIns := [], harness := (true, "bc6829616db1d52b9474e27ddf4934531d2de61b05cce841c133b104000298e6"), looks := true }, kinds := [], alts := [], laidByText := true, laidKinds := [.data, .data, .data], laidTests := true, laidLooks := .later }
def DeltaBothCardSaid : Prop := Claim7.holds Tryz.pinned (.plain (OpenSpec.ofChange deltaBothSpec)) deltaBothCard

/-- THE TIED CARD OF 'selvedgelaw24.DeltaPrints'. -/
def deltaPrintsCard : Claim7 := { stood := { row := deltaPrintsRow, standIns := [], harness := (true, "bc6829616db1d52b9474e27ddf4934531d2de61b05cce841c133b104000298e6"), looks := true }, kinds := [], alts := [], laidByText := true, laidKinds := [.data, .data, .data, .data, .sentinel, .sentinel, .pinned], laidTests := true, laidLooks := .later }
def DeltaPrintsCardSaid : Prop := Claim7.holds Tryz.pinned (.plain (OpenSpec.ofChange deltaPrintsSpec)) deltaPrintsCard

/-- THE TIED CARD OF 'selvedgelaw24.DeltaTold'. -/
def deltaToldCard : Claim7 := { stood := { row := deltaToldRow, standIns := [], harness := (true, "bc6829616db1d52b9474e27ddf4934531d2de61b05cce841c133b104000298e6"), looks := true }, kinds := [], alts := [], laidByText := true, laidKinds := [.data, .data, .data, .data, .sentinel, .sentinel, .pinned], laidTests := true, laidLooks := .later }
def DeltaToldCardSaid : Prop := Claim7.holds Tryz.pinned (.plain (OpenSpec.ofChange deltaToldSpec)) deltaToldCard

/-- THE SECOND FORM's CARD OF 'selvedgelaw24.DeltaMakes'. -/
def deltaMakesUptoCard : Claim7 := { stood := { row := deltaMakesUptoRow, standIns := [], harness := (true, "bc6829616db1d52b9474e27ddf4934531d2de61b05cce841c133b104000298e6"), looks := true }, kinds := [], alts := [], laidByText := true, laidKinds := [.data, .data, .data], laidTests := true, laidLooks := .later }
def DeltaMakesUptoCardSaid : Prop := Claim7.holds Tryz.pinned (.plain (OpenSpec.upto deltaMakesSpec)) deltaMakesUptoCard

/-- THE SECOND FORM's CARD OF 'selvedgelaw24.DeltaMerges'. -/
def deltaMergesUptoCard : Claim7 := { stood := { row := deltaMergesUptoRow, standIns := [], harness := (true, "bc6829616db1d52b9474e27ddf4934531d2de61b05cce841c133b104000298e6"), looks := true }, kinds := [], alts := [], laidByText := true, laidKinds := [.data, .data, .data], laidTests := true, laidLooks := .later }
def DeltaMergesUptoCardSaid : Prop := Claim7.holds Tryz.pinned (.plain (OpenSpec.upto deltaMergesSpec)) deltaMergesUptoCard

/-- THE SECOND FORM's CARD OF 'selvedgelaw24.DeltaAlone'. -/
def deltaAloneUptoCard : Claim7 := { stood := { row := deltaAloneUptoRow, standIns := [], harness := (true, "bc6829616db1d52b9474e27ddf4934531d2de61b05cce841c133b104000298e6"), looks := true }, kinds := [], alts := [], laidByText := true, laidKinds := [.data, .data, .data], laidTests := true, laidLooks := .later }
def DeltaAloneUptoCardSaid : Prop := Claim7.holds Tryz.pinned (.plain (OpenSpec.upto deltaAloneSpec)) deltaAloneUptoCard

/-- THE SECOND FORM's CARD OF 'selvedgelaw24.DeltaBoth'. -/
def deltaBothUptoCard : Claim7 := { stood := { row := deltaBothUptoRow, standIns := [], harness := (true, "bc6829616db1d52b9474e27ddf4934531d2de61b05cce841c133b104000298e6"), looks := true }, kinds := [], alts := [], laidByText := true, laidKinds := [.data, .data, .data], laidTests := true, laidLooks := .later }
def DeltaBothUptoCardSaid : Prop := Claim7.holds Tryz.pinned (.plain (OpenSpec.upto deltaBothSpec)) deltaBothUptoCard

/-- THE SECOND FORM's CARD OF 'selvedgelaw24.DeltaPrints'. -/
def deltaPrintsUptoCard : Claim7 := { stood := { row := deltaPrintsUptoRow, standIns := [], harness := (true, "bc6829616db1d52b9474e27ddf4934531d2de61b05cce841c133b104000298e6"), looks := true }, kinds := [], alts := [], laidByText := true, laidKinds := [.data, .data, .data, .data, .sentinel, .sentinel, .pinned], laidTests := true, laidLooks := .later }
def DeltaPrintsUptoCardSaid : Prop := Claim7.holds Tryz.pinned (.plain (OpenSpec.upto deltaPrintsSpec)) deltaPrintsUptoCard

/-- THE SECOND FORM's CARD OF 'selvedgelaw24.DeltaTold'. -/
def deltaToldUptoCard : Claim7 := { stood := { row := deltaToldUptoRow, standIns := [], harness := (true, "bc6829616db1d52b9474e27ddf4934531d2de61b05cce841c133b104000298e6"), looks := true }, kinds := [], alts := [], laidByText := true, laidKinds := [.data, .data, .data, .data, .sentinel, .sentinel, .pinned], laidTests := true, laidLooks := .later }
def DeltaToldUptoCardSaid : Prop := Claim7.holds Tryz.pinned (.plain (OpenSpec.upto deltaToldSpec)) deltaToldUptoCard
end Rows
end Go.Proofs.YtcmjidnbbfcbjaaGreatDoor
