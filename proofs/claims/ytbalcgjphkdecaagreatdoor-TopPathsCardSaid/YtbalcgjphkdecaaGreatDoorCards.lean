/-
  DERIVED. GIVEN WITH THE SEED: THE CARDS: each row of YtbalcgjphkdecaaGreatDoorRows.lean that lists a variable, with what it lists TIED to the program's text (the seventh form; the later family's looks); each row that meets fmt, with fmt's text TOLD by the authors' own Lean function (tested against real Go, not proved from fmt's source: count such statements apart). THE CARD IS WHAT COUNTS. Prove the row's statement (the work); the ties are given (YtbalcgjphkdecaaGreatDoorTie.lean); close each card by the builder's one call (the guide's Derived/Test/ToyasCard.lean, 'card_holds'). Laid BY PROGRAM, IN A SANDBOX (cutbox-door.mjs). By AI agents, Wed Nov 11 2026. No macro, syntax, notation, axiom, sorry.
-/
import Derived.Test.YtbalcgjphkdecaaGreatDoorRows
import GoSem.ClaimSeven
namespace Go.Proofs.YtbalcgjphkdecaaGreatDoor
namespace Rows

/-- THE TIED CARD OF 'legatetop.TopSkewed'. -/
def topSkewedCard : Claim7 := { stood := { row := topSkewedRow, standIns := [], harness := (true, "891cd3a40978bca03d1f30b99d661d3a59efc01d2306d3955e4871543ec3e228"), looks := false }, kinds := [], alts := [], laidByText := true, laidKinds := [.data, .pinned], laidTests := true, laidLooks := .later }
def TopSkewedCardSaid : Prop := Claim7.holds Tryz.pinned (.plain (OpenSpec.ofChange topSkewedSpec)) topSkewedCard

/-- THE TIED CARD OF 'legatetop.TopLate'. -/
def topLateCard : Claim7 := { stood := { row := topLateRow, standIns := [], harness := (true, "891cd3a40978bca03d1f30b99d661d3a59efc01d2306d3955e4871543ec3e228"), looks := false }, kinds := [], alts := [], laidByText := true, laidKinds := [.data, .pinned], laidTests := true, laidLooks := .later }
def TopLateCardSaid : Prop := Claim7.holds Tryz.pinned (.plain (OpenSpec.ofChange topLateSpec)) topLateCard

/-- THE TIED CARD OF 'legatetop.TopPaths'. -/
def topPathsCard : Claim7 := { stood := { row := topPathsRow, standIns := [], harness := (true, "891cd3a40978bca03d1f30b99d661d3a59efc01d2306d3955e4871543ec3e228"), looks := false }, kinds := [], alts := [], laidByText := true, laidKinds := [.data, .pinned], laidTests := true, laidLooks := .later }
def TopPathsCardSaid : Prop := Claim7.holds Tryz.pinned (.plain (OpenSpec.ofChange topPathsSpec)) topPathsCard

/-- THE SECOND FORM's CARD OF 'legatetop.TopSkewed'. -/
def topSkewedUptoCard : Claim7 := { stood := { row := topSkewedUptoRow, standIns := [], harness := (true, "891cd3a40978bca03d1f30b99d661d3a59efc01d2306d3955e4871543ec3e228"), looks := false }, kinds := [], alts := [], laidByText := true, laidKinds := [.data, .pinned], laidTests := true, laidLooks := .later }
def TopSkewedUptoCardSaid : Prop := Claim7.holds Tryz.pinned (.plain (OpenSpec.upto topSkewedSpec)) topSkewedUptoCard

/-- THE SECOND FORM's CARD OF 'legatetop.TopLate'. -/
def topLateUptoCard : Claim7 := { stood := { row := topLateUptoRow, standIns := [], harness := (true, "891cd3a40978bca03d1f30b99d661d3a59efc01d2306d3955e4871543ec3e228"), looks := false }, kinds := [], alts := [], laidByText := true, laidKinds := [.data, .pinned], laidTests := true, laidLooks := .later }
def TopLateUptoCardSaid : Prop := Claim7.holds Tryz.pinned (.plain (OpenSpec.upto topLateSpec)) topLateUptoCard

/-- THE SECOND FORM's CARD OF 'legatetop.TopPaths'. -/
def topPathsUptoCard : Claim7 := { stood := { row := topPathsUptoRow, standIns := [], harness := (true, "891cd3a40978bca03d1f30b99d661d3a59efc01d2306d3955e4871543ec3e228"), looks := false }, kinds := [], alts := [], laidByText := true, laidKinds := [.data, .pinned], laidTests := true, laidLooks := .later }
def TopPathsUptoCardSaid : Prop := Claim7.holds Tryz.pinned (.plain (OpenSpec.upto topPathsSpec)) topPathsUptoCard
end Rows
end Go.Proofs.YtbalcgjphkdecaaGreatDoor
