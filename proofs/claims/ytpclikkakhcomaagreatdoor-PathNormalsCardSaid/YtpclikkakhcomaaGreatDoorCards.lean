/-
  DERIVED. GIVEN WITH THE SEED: THE CARDS: each row of YtpclikkakhcomaaGreatDoorRows.lean that lists a variable, with what it lists TIED to the program's text (the seventh form; the later family's looks); each row that meets fmt, with fmt's text TOLD by the authors' own Lean function (tested against real Go, not proved from fmt's source: count such statements apart). THE CARD IS WHAT COUNTS. Prove the row's statement (the work); the ties are given (YtpclikkakhcomaaGreatDoorTie.lean); close each card by the builder's one call (the guide's Derived/Test/ToyasCard.lean, 'card_holds'). Laid BY PROGRAM, IN A SANDBOX (cutbox-door.mjs). By AI agents, Wed Nov 11 2026. No macro, syntax, notation, axiom, sorry.
-/
import Derived.Test.YtpclikkakhcomaaGreatDoorRows
import GoSem.ClaimSeven
namespace Go.Proofs.YtpclikkakhcomaaGreatDoor
namespace Rows

/-- THE TIED CARD OF 'lanternlaw08.PathDots'. -/
def pathDotsCard : Claim7 := { stood := { row := pathDotsRow, standIns := [], harness := (true, "ae0b47af7e0f5c4cb443a6ae23e0427fa2b0536c3ee83cdab05f33f6cd49b387"), looks := true }, kinds := [], alts := [], laidByText := true, laidKinds := [.data, .data, .data, .data, .sentinel, .sentinel, .pinned], laidTests := true, laidLooks := .later }
def PathDotsCardSaid : Prop := Claim7.holds Tryz.pinned (.plain (OpenSpec.ofChange pathDotsSpec)) pathDotsCard

/-- THE TIED CARD OF 'lanternlaw08.PathOwn'. -/
def pathOwnCard : Claim7 := { stood := { row := pathOwnRow, standIns := [], harness := (true, "ae0b47af7e0f5c4cb443a6ae23e0427fa2b0536c3ee83cdab05f33f6cd49b387"), looks := true }, kinds := [], alts := [], laidByText := true, laidKinds := [.data, .data, .data, .data, .sentinel, .sentinel, .pinned], laidTests := true, laidLooks := .later }
def PathOwnCardSaid : Prop := Claim7.holds Tryz.pinned (.plain (OpenSpec.ofChange pathOwnSpec)) pathOwnCard

/-- THE TIED CARD OF 'lanternlaw08.PathNormals'. -/
def pathNormalsCard : Claim7 := { stood := { row := pathNormalsRow, standIns := [], harness := (true, "ae0b47af7e0f5c4cb443a6ae23e0427fa2b0536c3ee83cdab05f33f6cd49b387"), looks := true }, kinds := [], alts := [], laidByText := true, laidKinds := [.data, .data, .data, .data, .sentinel, .sentinel, .pinned], laidTests := true, laidLooks := .later }
def PathNormalsCardSaid : Prop := Claim7.holds Tryz.pinned (.plain (OpenSpec.ofChange pathNormalsSpec)) pathNormalsCard

/-- THE SECOND FORM's CARD OF 'lanternlaw08.PathDots'. -/
def pathDotsUptoCard : Claim7 := { stood := { row := pathDotsUptoRow, standIns := [], harness := (true, "ae0b47af7e0f5c4cb443a6ae23e0427fa2b0536c3ee83cdab05f33f6cd49b387"), looks := true }, kinds := [], alts := [], laidByText := true, laidKinds := [.data, .data, .data, .data, .sentinel, .sentinel, .pinned], laidTests := true, laidLooks := .later }
def PathDotsUptoCardSaid : Prop := Claim7.holds Tryz.pinned (.plain (OpenSpec.upto pathDotsSpec)) pathDotsUptoCard

/-- THE SECOND FORM's CARD OF 'lanternlaw08.PathOwn'. -/
def pathOwnUptoCard : Claim7 := { stood := { row := pathOwnUptoRow, standIns := [], harness := (true, "ae0b47af7e0f5c4cb443a6ae23e0427fa2b0536c3ee83cdab05f33f6cd49b387"), looks := true }, kinds := [], alts := [], laidByText := true, laidKinds := [.data, .data, .data, .data, .sentinel, .sentinel, .pinned], laidTests := true, laidLooks := .later }
def PathOwnUptoCardSaid : Prop := Claim7.holds Tryz.pinned (.plain (OpenSpec.upto pathOwnSpec)) pathOwnUptoCard

/-- THE SECOND FORM's CARD OF 'lanternlaw08.PathNormals'. -/
def pathNormalsUptoCard : Claim7 := { stood := { row := pathNormalsUptoRow, standIns := [], harness := (true, "ae0b47af7e0f5c4cb443a6ae23e0427fa2b0536c3ee83cdab05f33f6cd49b387"), looks := true }, kinds := [], alts := [], laidByText := true, laidKinds := [.data, .data, .data, .data, .sentinel, .sentinel, .pinned], laidTests := true, laidLooks := .later }
def PathNormalsUptoCardSaid : Prop := Claim7.holds Tryz.pinned (.plain (OpenSpec.upto pathNormalsSpec)) pathNormalsUptoCard
end Rows
end Go.Proofs.YtpclikkakhcomaaGreatDoor
