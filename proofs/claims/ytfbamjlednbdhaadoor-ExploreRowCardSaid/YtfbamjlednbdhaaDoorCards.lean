/-
  DERIVED. GIVEN WITH THE SEED: THE CARDS: each row of YtfbamjlednbdhaaDoorRows.lean that lists a variable, with what it lists TIED to the program's text (the seventh form; the later family's looks); each row that meets fmt, with fmt's text TOLD by the authors' own Lean function (tested against real Go, not proved from fmt's source: count such statements apart). THE CARD IS WHAT COUNTS. Prove the row's statement (the work); the ties are given (YtfbamjlednbdhaaDoorTie.lean); close each card by the builder's one call (the guide's Derived/Test/ToyasCard.lean, 'card_holds'). Laid BY PROGRAM, IN A SANDBOX (cutbox-door.mjs). By AI agents, Wed Nov 11 2026. No macro, syntax, notation, axiom, sorry.
-/
import Derived.Test.YtfbamjlednbdhaaDoorRows
import GoSem.ClaimSeven
namespace Go.Proofs.YtfbamjlednbdhaaDoor
namespace Rows

/-- THE TIED CARD OF 'selvedgelaw23.ExploreCounts'. -/
def exploreCountsCard : Claim7 := { stood := { row := exploreCountsRow, standIns := [], harness := (true, "4058caf8757cdfd67b77406a77a30f383bd4bf0b4c90d41692801cee22df98c9"), looks := false }, kinds := [], alts := [], laidByText := true, laidKinds := [.data, .data], laidTests := true, laidLooks := .later }
def ExploreCountsCardSaid : Prop := Claim7.holds Tryd.pinned (.plain (OpenSpec.ofChange exploreCountsSpec)) exploreCountsCard

/-- THE TIED CARD OF 'selvedgelaw23.ExploreAlls'. -/
def exploreAllsCard : Claim7 := { stood := { row := exploreAllsRow, standIns := [], harness := (true, "4058caf8757cdfd67b77406a77a30f383bd4bf0b4c90d41692801cee22df98c9"), looks := false }, kinds := [], alts := [], laidByText := true, laidKinds := [.data, .data], laidTests := true, laidLooks := .later }
def ExploreAllsCardSaid : Prop := Claim7.holds Tryd.pinned (.plain (OpenSpec.ofChange exploreAllsSpec)) exploreAllsCard

/-- THE TIED CARD OF 'selvedgelaw23.ExploreRow'. -/
def exploreRowCard : Claim7 := { stood := { row := exploreRowRow, standIns := [], harness := (true, "4058caf8757cdfd67b77406a77a30f383bd4bf0b4c90d41692801cee22df98c9"), looks := false }, kinds := [], alts := [], laidByText := true, laidKinds := [.data, .data], laidTests := true, laidLooks := .later }
def ExploreRowCardSaid : Prop := Claim7.holds Tryd.pinned (.plain (OpenSpec.ofChange exploreRowSpec)) exploreRowCard

/-- THE TIED CARD OF 'selvedgelaw23.ExploreLists'. -/
def exploreListsCard : Claim7 := { stood := { row := exploreListsRow, standIns := [], harness := (true, "4058caf8757cdfd67b77406a77a30f383bd4bf0b4c90d41692801cee22df98c9"), looks := false }, kinds := [], alts := [], laidByText := true, laidKinds := [.data, .data], laidTests := true, laidLooks := .later }
def ExploreListsCardSaid : Prop := Claim7.holds Tryd.pinned (.plain (OpenSpec.ofChange exploreListsSpec)) exploreListsCard

/-- THE SECOND FORM's CARD OF 'selvedgelaw23.ExploreCounts'. -/
def exploreCountsUptoCard : Claim7 := { stood := { row := exploreCountsUptoRow, standIns := [], harness := (true, "4058caf8757cdfd67b77406a77a30f383bd4bf0b4c90d41692801cee22df98c9"), looks := false }, kinds := [], alts := [], laidByText := true, laidKinds := [.data, .data], laidTests := true, laidLooks := .later }
def ExploreCountsUptoCardSaid : Prop := Claim7.holds Tryd.pinned (.plain (OpenSpec.upto exploreCountsSpec)) exploreCountsUptoCard

/-- THE SECOND FORM's CARD OF 'selvedgelaw23.ExploreAlls'. -/
def exploreAllsUptoCard : Claim7 := { stood := { row := exploreAllsUptoRow, standIns := [], harness := (true, "4058caf8757cdfd67b77406a77a30f383bd4bf0b4c90d41692801cee22df98c9"), looks := false }, kinds := [], alts := [], laidByText := true, laidKinds := [.data, .data], laidTests := true, laidLooks := .later }
def ExploreAllsUptoCardSaid : Prop := Claim7.holds Tryd.pinned (.plain (OpenSpec.upto exploreAllsSpec)) exploreAllsUptoCard

/-- THE SECOND FORM's CARD OF 'selvedgelaw23.ExploreRow'. -/
def exploreRowUptoCard : Claim7 := { stood := { row := exploreRowUptoRow, standIns := [], harness := (true, "4058caf8757cdfd67b77406a77a30f383bd4bf0b4c90d41692801cee22df98c9"), looks := false }, kinds := [], alts := [], laidByText := true, laidKinds := [.data, .data], laidTests := true, laidLooks := .later }
def ExploreRowUptoCardSaid : Prop := Claim7.holds Tryd.pinned (.plain (OpenSpec.upto exploreRowSpec)) exploreRowUptoCard

/-- THE SECOND FORM's CARD OF 'selvedgelaw23.ExploreLists'. -/
def exploreListsUptoCard : Claim7 := { stood := { row := exploreListsUptoRow, standIns := [], harness := (true, "4058caf8757cdfd67b77406a77a30f383bd4bf0b4c90d41692801cee22df98c9"), looks := false }, kinds := [], alts := [], laidByText := true, laidKinds := [.data, .data], laidTests := true, laidLooks := .later }
def ExploreListsUptoCardSaid : Prop := Claim7.holds Tryd.pinned (.plain (OpenSpec.upto exploreListsSpec)) exploreListsUptoCard
end Rows
end Go.Proofs.YtfbamjlednbdhaaDoor
