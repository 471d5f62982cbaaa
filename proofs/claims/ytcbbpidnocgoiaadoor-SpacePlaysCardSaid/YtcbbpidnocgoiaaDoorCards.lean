/-
  DERIVED. GIVEN WITH THE SEED: THE CARDS: each row of YtcbbpidnocgoiaaDoorRows.lean that lists a variable, with what it lists TIED to the program's text (the seventh form; the later family's looks); each row that meets fmt, with fmt's text TOLD by the authors' own Lean function (tested against real Go, not proved from fmt's source: count such statements apart). THE CARD IS WHAT COUNTS. Prove the row's statement (the work); the ties are given (YtcbbpidnocgoiaaDoorTie.lean); close each card by the builder's one call (the guide's Derived/Test/ToyasCard.lean, 'card_holds'). Laid BY PROGRAM, IN A SANDBOX (cutbox-door.mjs). By AI agents, Wed Nov 11 2026. No macro, syntax, notation, axiom, sorry.
-/
import Derived.Test.YtcbbpidnocgoiaaDoorRows
import GoSem.ClaimSeven
namespace Go.Proofs.YtcbbpidnocgoiaaDoor
namespace Rows

/-- THE TIED CARD OF 'keywaylaw06.SpacePlays'. -/
def spacePlaysCard : Claim7 := { stood := { row := spacePlaysRow, standIns := [], harness := (true, "37eda63dfc40520de62f8d55dddc7cd0118689a45a8e57d892b5f9376cda4a8b"), looks := false }, kinds := [], alts := [], laidByText := true, laidKinds := [.data], laidTests := true, laidLooks := .later }
def SpacePlaysCardSaid : Prop := Claim7.holds Tryd.pinned (.plain (OpenSpec.ofChange spacePlaysSpec)) spacePlaysCard

/-- THE TIED CARD OF 'keywaylaw06.SpaceCopies'. -/
def spaceCopiesCard : Claim7 := { stood := { row := spaceCopiesRow, standIns := [], harness := (true, "37eda63dfc40520de62f8d55dddc7cd0118689a45a8e57d892b5f9376cda4a8b"), looks := false }, kinds := [], alts := [], laidByText := true, laidKinds := [.data], laidTests := true, laidLooks := .later }
def SpaceCopiesCardSaid : Prop := Claim7.holds Tryd.pinned (.plain (OpenSpec.ofChange spaceCopiesSpec)) spaceCopiesCard

/-- THE TIED CARD OF 'keywaylaw06.SpaceNone'. -/
def spaceNoneCard : Claim7 := { stood := { row := spaceNoneRow, standIns := [], harness := (true, "37eda63dfc40520de62f8d55dddc7cd0118689a45a8e57d892b5f9376cda4a8b"), looks := false }, kinds := [], alts := [], laidByText := true, laidKinds := [.data], laidTests := true, laidLooks := .later }
def SpaceNoneCardSaid : Prop := Claim7.holds Tryd.pinned (.plain (OpenSpec.ofChange spaceNoneSpec)) spaceNoneCard

/-- THE SECOND FORM's CARD OF 'keywaylaw06.SpacePlays'. -/
def spacePlaysUptoCard : Claim7 := { stood := { row := spacePlaysUptoRow, standIns := [], harness := (true, "37eda63dfc40520de62f8d55dddc7cd0118689a45a8e57d892b5f9376cda4a8b"), looks := false }, kinds := [], alts := [], laidByText := true, laidKinds := [.data], laidTests := true, laidLooks := .later }
def SpacePlaysUptoCardSaid : Prop := Claim7.holds Tryd.pinned (.plain (OpenSpec.upto spacePlaysSpec)) spacePlaysUptoCard

/-- THE SECOND FORM's CARD OF 'keywaylaw06.SpaceCopies'. -/
def spaceCopiesUptoCard : Claim7 := { stood := { row := spaceCopiesUptoRow, standIns := [], harness := (true, "37eda63dfc40520de62f8d55dddc7cd0118689a45a8e57d892b5f9376cda4a8b"), looks := false }, kinds := [], alts := [], laidByText := true, laidKinds := [.data], laidTests := true, laidLooks := .later }
def SpaceCopiesUptoCardSaid : Prop := Claim7.holds Tryd.pinned (.plain (OpenSpec.upto spaceCopiesSpec)) spaceCopiesUptoCard

/-- THE SECOND FORM's CARD OF 'keywaylaw06.SpaceNone'. -/
def spaceNoneUptoCard : Claim7 := { stood := { row := spaceNoneUptoRow, standIns := [], harness := (true, "37eda63dfc40520de62f8d55dddc7cd0118689a45a8e57d892b5f9376cda4a8b"), looks := false }, kinds := [], alts := [], laidByText := true, laidKinds := [.data], laidTests := true, laidLooks := .later }
def SpaceNoneUptoCardSaid : Prop := Claim7.holds Tryd.pinned (.plain (OpenSpec.upto spaceNoneSpec)) spaceNoneUptoCard
end Rows
end Go.Proofs.YtcbbpidnocgoiaaDoor
