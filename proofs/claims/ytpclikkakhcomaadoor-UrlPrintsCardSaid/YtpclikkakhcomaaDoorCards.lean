/-
  DERIVED. GIVEN WITH THE SEED: THE CARDS: each row of YtpclikkakhcomaaDoorRows.lean that lists a variable, with what it lists TIED to the program's text (the seventh form; the later family's looks); each row that meets fmt, with fmt's text TOLD by the authors' own Lean function (tested against real Go, not proved from fmt's source: count such statements apart). THE CARD IS WHAT COUNTS. Prove the row's statement (the work); the ties are given (YtpclikkakhcomaaDoorTie.lean); close each card by the builder's one call (the guide's Derived/Test/ToyasCard.lean, 'card_holds'). Laid BY PROGRAM, IN A SANDBOX (cutbox-door.mjs). By AI agents, Wed Nov 11 2026. No macro, syntax, notation, axiom, sorry.
-/
import Derived.Test.YtpclikkakhcomaaDoorRows
import GoSem.ClaimSeven
namespace Go.Proofs.YtpclikkakhcomaaDoor
namespace Rows

/-- THE TIED CARD OF 'lanternlaw07.UrlUnescapes'. -/
def urlUnescapesCard : Claim7 := { stood := { row := urlUnescapesRow, standIns := [], harness := (true, "92ecb0bc8eca8fe7b5762710064a1d2c7ac863b19ca6c3587bef7a306ecedb0d"), looks := false }, kinds := [], alts := [], laidByText := true, laidKinds := [.data, .pinned], laidTests := true, laidLooks := .later }
def UrlUnescapesCardSaid : Prop := Claim7.holds Tryd.pinned (.plain (OpenSpec.ofChange urlUnescapesSpec)) urlUnescapesCard

/-- THE TIED CARD OF 'lanternlaw07.UrlPrints'. -/
def urlPrintsCard : Claim7 := { stood := { row := urlPrintsRow, standIns := [], harness := (true, "92ecb0bc8eca8fe7b5762710064a1d2c7ac863b19ca6c3587bef7a306ecedb0d"), looks := false }, kinds := [], alts := [], laidByText := true, laidKinds := [.data, .pinned], laidTests := true, laidLooks := .later }
def UrlPrintsCardSaid : Prop := Claim7.holds Tryd.pinned (.plain (OpenSpec.ofChange urlPrintsSpec)) urlPrintsCard

/-- THE TIED CARD OF 'lanternlaw07.UrlEscapes'. -/
def urlEscapesCard : Claim7 := { stood := { row := urlEscapesRow, standIns := [], harness := (true, "92ecb0bc8eca8fe7b5762710064a1d2c7ac863b19ca6c3587bef7a306ecedb0d"), looks := false }, kinds := [], alts := [], laidByText := true, laidKinds := [.data, .pinned], laidTests := true, laidLooks := .later }
def UrlEscapesCardSaid : Prop := Claim7.holds Tryd.pinned (.plain (OpenSpec.ofChange urlEscapesSpec)) urlEscapesCard

/-- THE SECOND FORM's CARD OF 'lanternlaw07.UrlUnescapes'. -/
def urlUnescapesUptoCard : Claim7 := { stood := { row := urlUnescapesUptoRow, standIns := [], harness := (true, "92ecb0bc8eca8fe7b5762710064a1d2c7ac863b19ca6c3587bef7a306ecedb0d"), looks := false }, kinds := [], alts := [], laidByText := true, laidKinds := [.data, .pinned], laidTests := true, laidLooks := .later }
def UrlUnescapesUptoCardSaid : Prop := Claim7.holds Tryd.pinned (.plain (OpenSpec.upto urlUnescapesSpec)) urlUnescapesUptoCard

/-- THE SECOND FORM's CARD OF 'lanternlaw07.UrlPrints'. -/
def urlPrintsUptoCard : Claim7 := { stood := { row := urlPrintsUptoRow, standIns := [], harness := (true, "92ecb0bc8eca8fe7b5762710064a1d2c7ac863b19ca6c3587bef7a306ecedb0d"), looks := false }, kinds := [], alts := [], laidByText := true, laidKinds := [.data, .pinned], laidTests := true, laidLooks := .later }
def UrlPrintsUptoCardSaid : Prop := Claim7.holds Tryd.pinned (.plain (OpenSpec.upto urlPrintsSpec)) urlPrintsUptoCard

/-- THE SECOND FORM's CARD OF 'lanternlaw07.UrlEscapes'. -/
def urlEscapesUptoCard : Claim7 := { stood := { row := urlEscapesUptoRow, standIns := [], harness := (true, "92ecb0bc8eca8fe7b5762710064a1d2c7ac863b19ca6c3587bef7a306ecedb0d"), looks := false }, kinds := [], alts := [], laidByText := true, laidKinds := [.data, .pinned], laidTests := true, laidLooks := .later }
def UrlEscapesUptoCardSaid : Prop := Claim7.holds Tryd.pinned (.plain (OpenSpec.upto urlEscapesSpec)) urlEscapesUptoCard
end Rows
end Go.Proofs.YtpclikkakhcomaaDoor
