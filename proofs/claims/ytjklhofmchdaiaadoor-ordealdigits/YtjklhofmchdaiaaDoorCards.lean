/-
  DERIVED. GIVEN WITH THE SEED: THE CARDS: each row of YtjklhofmchdaiaaDoorRows.lean that lists a variable, with what it lists TIED to the program's text (the seventh form; the later family's looks); each row that meets fmt, with fmt's text TOLD by the authors' own Lean function (tested against real Go, not proved from fmt's source: count such statements apart). THE CARD IS WHAT COUNTS. Prove the row's statement (the work); the ties are given (YtjklhofmchdaiaaDoorTie.lean); close each card by the builder's one call (the guide's Derived/Test/ToyasCard.lean, 'card_holds'). Laid BY PROGRAM, IN A SANDBOX (cutbox-door.mjs). By AI agents, Wed Nov 11 2026. No macro, syntax, notation, axiom, sorry.
-/
import Derived.Test.YtjklhofmchdaiaaDoorRows
import GoSem.ClaimSeven
namespace Go.Proofs.YtjklhofmchdaiaaDoor
namespace Rows

/-- THE TIED CARD OF 'ordealtop.OrdealDigits'. -/
def ordealDigitsCard : Claim7 := { stood := { row := ordealDigitsRow, standIns := [], harness := (true, "5849b9decaff6450d9f924a31ed2f83f2793350629da37dcf65e3e57ba0aa05e"), looks := false }, kinds := [], alts := [], laidByText := true, laidKinds := [.data, .data, .data], laidTests := true, laidLooks := .later }
def OrdealDigitsCardSaid : Prop := Claim7.holds Tryd.pinned (.plain (OpenSpec.ofChange ordealDigitsSpec)) ordealDigitsCard

/-- THE TIED CARD OF 'ordealtop.OrdealSealed'. -/
def ordealSealedCard : Claim7 := { stood := { row := ordealSealedRow, standIns := [], harness := (true, "5849b9decaff6450d9f924a31ed2f83f2793350629da37dcf65e3e57ba0aa05e"), looks := false }, kinds := [], alts := [], laidByText := true, laidKinds := [.data, .data, .data], laidTests := true, laidLooks := .later }
def OrdealSealedCardSaid : Prop := Claim7.holds Tryd.pinned (.plain (OpenSpec.ofChange ordealSealedSpec)) ordealSealedCard

/-- THE SECOND FORM's CARD OF 'ordealtop.OrdealDigits'. -/
def ordealDigitsUptoCard : Claim7 := { stood := { row := ordealDigitsUptoRow, standIns := [], harness := (true, "5849b9decaff6450d9f924a31ed2f83f2793350629da37dcf65e3e57ba0aa05e"), looks := false }, kinds := [], alts := [], laidByText := true, laidKinds := [.data, .data, .data], laidTests := true, laidLooks := .later }
def OrdealDigitsUptoCardSaid : Prop := Claim7.holds Tryd.pinned (.plain (OpenSpec.upto ordealDigitsSpec)) ordealDigitsUptoCard

/-- THE SECOND FORM's CARD OF 'ordealtop.OrdealSealed'. -/
def ordealSealedUptoCard : Claim7 := { stood := { row := ordealSealedUptoRow, standIns := [], harness := (true, "5849b9decaff6450d9f924a31ed2f83f2793350629da37dcf65e3e57ba0aa05e"), looks := false }, kinds := [], alts := [], laidByText := true, laidKinds := [.data, .data, .data], laidTests := true, laidLooks := .later }
def OrdealSealedUptoCardSaid : Prop := Claim7.holds Tryd.pinned (.plain (OpenSpec.upto ordealSealedSpec)) ordealSealedUptoCard
end Rows
end Go.Proofs.YtjklhofmchdaiaaDoor
