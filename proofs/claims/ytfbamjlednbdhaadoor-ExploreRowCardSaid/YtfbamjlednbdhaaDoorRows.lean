/-
  NARROWER THAN 'FOR EVERY INPUT', by the rows' own cells (each row's printed sentence says how): ExploreCounts: laid · ExploreAlls: laid · ExploreRow: laid · ExploreLists: laid.
  DERIVED. THE GIVEN ROWS OF THIS SEAT. 4 by the template 'for every input the law returns true; each argument reads behind the call as it read before'; 0 by the template 'total and deterministic' (their statements: YtfbamjlednbdhaaDoorTotals.lean).
  GIVEN WITH THE SEED: the statements are not yours to turn. If you find one false, say at which input.
  Laid BY PROGRAM, IN A SANDBOX (cutbox-rows.mjs): the forced cells as the released guide's own fill.sh prints them over the translation 8574ab092016cba6… (all of the seat's roots in one cut). By AI agents, Wed Nov 11 2026. No macro, syntax, notation, axiom, sorry.
-/
import Derived.Test.YtfbamjlednbdhaaDoorChecked
import GoSem.Claim
import GoSem.ClaimJoined
import GoSem.ClaimMapViews
import Derived.JoinedTies
import Derived.KernelRfl
namespace Go.Proofs.YtfbamjlednbdhaaDoor
/- THE CELL 'sum', in the pinned program and in every row, IS THE sha256 OF THE DUMP (.gsa) THAT YtfbamjlednbdhaaDoorProg.lean LOADS. Nothing in Lean hashes anything: it is a label: what it is worth is what the hold of that sum in a sandbox is worth. -/
noncomputable def Tryd.pinned : Pinned := { name := "ytfbamjlednbdhaadoor", sum := "8574ab092016cba662785a93eb3d20e53f8f7a282c93bb58c769b46bad609507", checked := Tryd.checked }
namespace Rows
def none {H : Type} : Left H := { results := [], args := [] }

/- WHAT THE LISTED PACKAGE-LEVEL VARIABLES READ AS WHEN THE CALL BEGINS. Each datum BY PROGRAM (the guide's laid-datum.mjs) off the statement by which the dump's own 'gosem.cut.vars' lays the variable. In a bare row this is a premise. The card (YtfbamjlednbdhaaDoorCards.lean) ties it to the program's text. -/
def laid_math_bits_deBruijn32tab {H : Type} : DataW H := .agg [.lit (.int .u8 0), .lit (.int .u8 1), .lit (.int .u8 28), .lit (.int .u8 2), .lit (.int .u8 29), .lit (.int .u8 14), .lit (.int .u8 24), .lit (.int .u8 3), .lit (.int .u8 30), .lit (.int .u8 22), .lit (.int .u8 20), .lit (.int .u8 15), .lit (.int .u8 25), .lit (.int .u8 17), .lit (.int .u8 4), .lit (.int .u8 8), .lit (.int .u8 31), .lit (.int .u8 27), .lit (.int .u8 13), .lit (.int .u8 23), .lit (.int .u8 21), .lit (.int .u8 19), .lit (.int .u8 16), .lit (.int .u8 7), .lit (.int .u8 26), .lit (.int .u8 12), .lit (.int .u8 18), .lit (.int .u8 6), .lit (.int .u8 11), .lit (.int .u8 5), .lit (.int .u8 10), .lit (.int .u8 9)]
def laid_math_bits_deBruijn64tab {H : Type} : DataW H := .agg [.lit (.int .u8 0), .lit (.int .u8 1), .lit (.int .u8 56), .lit (.int .u8 2), .lit (.int .u8 57), .lit (.int .u8 49), .lit (.int .u8 28), .lit (.int .u8 3), .lit (.int .u8 61), .lit (.int .u8 58), .lit (.int .u8 42), .lit (.int .u8 50), .lit (.int .u8 38), .lit (.int .u8 29), .lit (.int .u8 17), .lit (.int .u8 4), .lit (.int .u8 62), .lit (.int .u8 47), .lit (.int .u8 59), .lit (.int .u8 36), .lit (.int .u8 45), .lit (.int .u8 43), .lit (.int .u8 51), .lit (.int .u8 22), .lit (.int .u8 53), .lit (.int .u8 39), .lit (.int .u8 33), .lit (.int .u8 30), .lit (.int .u8 24), .lit (.int .u8 18), .lit (.int .u8 12), .lit (.int .u8 5), .lit (.int .u8 63), .lit (.int .u8 55), .lit (.int .u8 48), .lit (.int .u8 27), .lit (.int .u8 60), .lit (.int .u8 41), .lit (.int .u8 37), .lit (.int .u8 16), .lit (.int .u8 46), .lit (.int .u8 35), .lit (.int .u8 44), .lit (.int .u8 21), .lit (.int .u8 52), .lit (.int .u8 32), .lit (.int .u8 23), .lit (.int .u8 11), .lit (.int .u8 54), .lit (.int .u8 26), .lit (.int .u8 40), .lit (.int .u8 15), .lit (.int .u8 34), .lit (.int .u8 20), .lit (.int .u8 31), .lit (.int .u8 10), .lit (.int .u8 25), .lit (.int .u8 14), .lit (.int .u8 19), .lit (.int .u8 9), .lit (.int .u8 13), .lit (.int .u8 8), .lit (.int .u8 7), .lit (.int .u8 6)]

/-- 'selvedgelaw23.ExploreCounts': WHATEVER THE INPUT: true; the input reads as it did. -/
def exploreCountsSpec : ChangeSpec := { name := "exploreCounts", fn := fun _ => fun
  | [d] => { results := [.lit (.bool true)], args := [d] }
  | _ => none }
def exploreCountsRow : OpenClaim := { program := "ytfbamjlednbdhaadoor", sum := "8574ab092016cba662785a93eb3d20e53f8f7a282c93bb58c769b46bad609507", func := "selvedge/selvedgelaw23.ExploreCounts", spec := "exploreCounts", unfollowed := true, recurses := true, named := ["math/bits.deBruijn32tab", "math/bits.deBruijn64tab"], apart := false, laid := [("math/bits.deBruijn32tab", laid_math_bits_deBruijn32tab), ("math/bits.deBruijn64tab", laid_math_bits_deBruijn64tab)] }
def ExploreCountsSaid : Prop := exploreCountsRow.holds Tryd.pinned (OpenSpec.ofChange exploreCountsSpec)

/-- ITS FALSE NEIGHBOUR: 'it returns false'. Refute it at one input. -/
def exploreCountsWrong : ChangeSpec := { name := "exploreCounts", fn := fun _ => fun
  | [d] => { results := [.lit (.bool false)], args := [d] }
  | _ => none }
def ExploreCountsWrongFalsely : Prop := exploreCountsRow.holds Tryd.pinned (OpenSpec.ofChange exploreCountsWrong)

/-- 'selvedgelaw23.ExploreAlls': WHATEVER THE INPUT: true; the input reads as it did. -/
def exploreAllsSpec : ChangeSpec := { name := "exploreAlls", fn := fun _ => fun
  | [d1, d2] => { results := [.lit (.bool true)], args := [d1, d2] }
  | _ => none }
def exploreAllsRow : OpenClaim := { program := "ytfbamjlednbdhaadoor", sum := "8574ab092016cba662785a93eb3d20e53f8f7a282c93bb58c769b46bad609507", func := "selvedge/selvedgelaw23.ExploreAlls", spec := "exploreAlls", unfollowed := true, recurses := true, named := ["math/bits.deBruijn32tab", "math/bits.deBruijn64tab"], apart := false, laid := [("math/bits.deBruijn32tab", laid_math_bits_deBruijn32tab), ("math/bits.deBruijn64tab", laid_math_bits_deBruijn64tab)] }
def ExploreAllsSaid : Prop := exploreAllsRow.holds Tryd.pinned (OpenSpec.ofChange exploreAllsSpec)

/-- ITS FALSE NEIGHBOUR: 'it returns false'. Refute it at one input. -/
def exploreAllsWrong : ChangeSpec := { name := "exploreAlls", fn := fun _ => fun
  | [d1, d2] => { results := [.lit (.bool false)], args := [d1, d2] }
  | _ => none }
def ExploreAllsWrongFalsely : Prop := exploreAllsRow.holds Tryd.pinned (OpenSpec.ofChange exploreAllsWrong)

/-- 'selvedgelaw23.ExploreRow': WHATEVER THE INPUT: true; the input reads as it did. -/
def exploreRowSpec : ChangeSpec := { name := "exploreRow", fn := fun _ => fun
  | [d] => { results := [.lit (.bool true)], args := [d] }
  | _ => none }
def exploreRowRow : OpenClaim := { program := "ytfbamjlednbdhaadoor", sum := "8574ab092016cba662785a93eb3d20e53f8f7a282c93bb58c769b46bad609507", func := "selvedge/selvedgelaw23.ExploreRow", spec := "exploreRow", unfollowed := true, recurses := true, named := ["math/bits.deBruijn32tab", "math/bits.deBruijn64tab"], apart := false, laid := [("math/bits.deBruijn32tab", laid_math_bits_deBruijn32tab), ("math/bits.deBruijn64tab", laid_math_bits_deBruijn64tab)] }
def ExploreRowSaid : Prop := exploreRowRow.holds Tryd.pinned (OpenSpec.ofChange exploreRowSpec)

/-- ITS FALSE NEIGHBOUR: 'it returns false'. Refute it at one input. -/
def exploreRowWrong : ChangeSpec := { name := "exploreRow", fn := fun _ => fun
  | [d] => { results := [.lit (.bool false)], args := [d] }
  | _ => none }
def ExploreRowWrongFalsely : Prop := exploreRowRow.holds Tryd.pinned (OpenSpec.ofChange exploreRowWrong)

/-- 'selvedgelaw23.ExploreLists': WHATEVER THE INPUT: true; the input reads as it did. -/
def exploreListsSpec : ChangeSpec := { name := "exploreLists", fn := fun _ => fun
  | [d] => { results := [.lit (.bool true)], args := [d] }
  | _ => none }
def exploreListsRow : OpenClaim := { program := "ytfbamjlednbdhaadoor", sum := "8574ab092016cba662785a93eb3d20e53f8f7a282c93bb58c769b46bad609507", func := "selvedge/selvedgelaw23.ExploreLists", spec := "exploreLists", unfollowed := true, recurses := true, named := ["math/bits.deBruijn32tab", "math/bits.deBruijn64tab"], apart := false, laid := [("math/bits.deBruijn32tab", laid_math_bits_deBruijn32tab), ("math/bits.deBruijn64tab", laid_math_bits_deBruijn64tab)] }
def ExploreListsSaid : Prop := exploreListsRow.holds Tryd.pinned (OpenSpec.ofChange exploreListsSpec)

/-- ITS FALSE NEIGHBOUR: 'it returns false'. Refute it at one input. -/
def exploreListsWrong : ChangeSpec := { name := "exploreLists", fn := fun _ => fun
  | [d] => { results := [.lit (.bool false)], args := [d] }
  | _ => none }
def ExploreListsWrongFalsely : Prop := exploreListsRow.holds Tryd.pinned (OpenSpec.ofChange exploreListsWrong)

/- THE SECOND FORM. 'bulk': how many values and letters a reading holds, each counted each time it is reached (what is shared counts as often as it is met; a slice's spare places count too). A statement '..UptoSaid' is the law's where the arguments, and the package variables that the reading takes, are together of bulk at most 1048576: NARROWER than '..Said'. Prove '..Said' where nothing that the law and all that it calls make is longer than what came in: it says more and counts as full. Else prove '..UptoSaid'. A law counts once. -/
mutual
def uptoBulk {H : Type} : DataW H → Nat
  | .lit (.string bytes) => bytes.length + 1
  | .lit _ => 1
  | .nil => 1
  | .ptr d => uptoBulk d + 1
  | .slice elems spare => uptoBulkAll elems + uptoBulkAll spare + 1
  | .agg parts => uptoBulkAll parts + 1
  | .iface _ d => uptoBulk d + 1
  | .map entries => uptoBulkEntries entries + 1
  | .held _ => 1
def uptoBulkAll {H : Type} : List (DataW H) → Nat
  | [] => 0
  | d :: r => uptoBulk d + uptoBulkAll r
def uptoBulkEntries {H : Type} : List (Lit × DataW H) → Nat
  | [] => 0
  | x :: r => uptoBulkEntry x + uptoBulkEntries r
def uptoBulkEntry {H : Type} : Lit × DataW H → Nat
  | (.string bytes, d) => bytes.length + uptoBulk d + 1
  | (_, d) => uptoBulk d + 1
 end
def uptoSmall : (H : Type) → List (DataW H) → Bool := fun _ ds => decide (uptoBulkAll ds ≤ 1048576)
def OpenSpec.upto (s : _root_.Go.ChangeSpec) : _root_.Go.OpenSpec := { _root_.Go.OpenSpec.ofChange s with cond := some uptoSmall }

/-- 'selvedgelaw23.ExploreCounts', WHERE WHAT IT READS IS OF BULK AT MOST 1048576: true; the input reads as it did. -/
def exploreCountsUptoRow : OpenClaim := { program := "ytfbamjlednbdhaadoor", sum := "8574ab092016cba662785a93eb3d20e53f8f7a282c93bb58c769b46bad609507", func := "selvedge/selvedgelaw23.ExploreCounts", spec := "exploreCounts", unfollowed := true, recurses := true, named := ["math/bits.deBruijn32tab", "math/bits.deBruijn64tab"], apart := false, laid := [("math/bits.deBruijn32tab", laid_math_bits_deBruijn32tab), ("math/bits.deBruijn64tab", laid_math_bits_deBruijn64tab)], narrowed := true }
def ExploreCountsUptoSaid : Prop := exploreCountsUptoRow.holds Tryd.pinned (OpenSpec.upto exploreCountsSpec)

/-- 'selvedgelaw23.ExploreAlls', WHERE WHAT IT READS IS OF BULK AT MOST 1048576: true; the input reads as it did. -/
def exploreAllsUptoRow : OpenClaim := { program := "ytfbamjlednbdhaadoor", sum := "8574ab092016cba662785a93eb3d20e53f8f7a282c93bb58c769b46bad609507", func := "selvedge/selvedgelaw23.ExploreAlls", spec := "exploreAlls", unfollowed := true, recurses := true, named := ["math/bits.deBruijn32tab", "math/bits.deBruijn64tab"], apart := false, laid := [("math/bits.deBruijn32tab", laid_math_bits_deBruijn32tab), ("math/bits.deBruijn64tab", laid_math_bits_deBruijn64tab)], narrowed := true }
def ExploreAllsUptoSaid : Prop := exploreAllsUptoRow.holds Tryd.pinned (OpenSpec.upto exploreAllsSpec)

/-- 'selvedgelaw23.ExploreRow', WHERE WHAT IT READS IS OF BULK AT MOST 1048576: true; the input reads as it did. -/
def exploreRowUptoRow : OpenClaim := { program := "ytfbamjlednbdhaadoor", sum := "8574ab092016cba662785a93eb3d20e53f8f7a282c93bb58c769b46bad609507", func := "selvedge/selvedgelaw23.ExploreRow", spec := "exploreRow", unfollowed := true, recurses := true, named := ["math/bits.deBruijn32tab", "math/bits.deBruijn64tab"], apart := false, laid := [("math/bits.deBruijn32tab", laid_math_bits_deBruijn32tab), ("math/bits.deBruijn64tab", laid_math_bits_deBruijn64tab)], narrowed := true }
def ExploreRowUptoSaid : Prop := exploreRowUptoRow.holds Tryd.pinned (OpenSpec.upto exploreRowSpec)

/-- 'selvedgelaw23.ExploreLists', WHERE WHAT IT READS IS OF BULK AT MOST 1048576: true; the input reads as it did. -/
def exploreListsUptoRow : OpenClaim := { program := "ytfbamjlednbdhaadoor", sum := "8574ab092016cba662785a93eb3d20e53f8f7a282c93bb58c769b46bad609507", func := "selvedge/selvedgelaw23.ExploreLists", spec := "exploreLists", unfollowed := true, recurses := true, named := ["math/bits.deBruijn32tab", "math/bits.deBruijn64tab"], apart := false, laid := [("math/bits.deBruijn32tab", laid_math_bits_deBruijn32tab), ("math/bits.deBruijn64tab", laid_math_bits_deBruijn64tab)], narrowed := true }
def ExploreListsUptoSaid : Prop := exploreListsUptoRow.holds Tryd.pinned (OpenSpec.upto exploreListsSpec)

end Rows
end Go.Proofs.YtfbamjlednbdhaaDoor
