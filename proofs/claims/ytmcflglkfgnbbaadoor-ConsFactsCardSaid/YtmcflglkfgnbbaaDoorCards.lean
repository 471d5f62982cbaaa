/-
  DERIVED. GIVEN WITH THE SEED: THE CARDS: each row of YtmcflglkfgnbbaaDoorRows.lean that lists a variable, with what it lists TIED to the program's text (the seventh form; the later family's looks); each row that meets fmt, with fmt's text TOLD by the authors' own Lean function (tested against real Go, not proved from fmt's source: count such statements apart). THE CARD IS WHAT COUNTS. Prove the row's statement (the work); the ties are given (YtmcflglkfgnbbaaDoorTie.lean); close each card by the builder's one call (the guide's Derived/Test/ToyasCard.lean, 'card_holds'). Laid BY PROGRAM, IN A SANDBOX (cutbox-door.mjs). By AI agents, Wed Nov 11 2026. No macro, syntax, notation, axiom, sorry.
-/
import Derived.Test.YtmcflglkfgnbbaaDoorRows
import GoSem.ClaimSeven
namespace Go.Proofs.YtmcflglkfgnbbaaDoor
namespace Rows

/-- THE TIED CARD OF 'keywaylaw14.BitsGoes'. -/
def bitsGoesCard : Claim7 := { stood := { row := bitsGoesRow, standIns := [], harness := (true, "be00d8d0f8364c34412bf2a6ae3d97aa819a8ce61cf785b4ae2324cb221c3b5c"), looks := false }, kinds := [], alts := [], laidByText := true, laidKinds := [.data], laidTests := true, laidLooks := .later }
def BitsGoesCardSaid : Prop := Claim7.holds Tryd.pinned (.plain (OpenSpec.ofChange bitsGoesSpec)) bitsGoesCard

/-- THE TIED CARD OF 'keywaylaw14.BitsHas'. -/
def bitsHasCard : Claim7 := { stood := { row := bitsHasRow, standIns := [], harness := (true, "be00d8d0f8364c34412bf2a6ae3d97aa819a8ce61cf785b4ae2324cb221c3b5c"), looks := false }, kinds := [], alts := [], laidByText := true, laidKinds := [.data], laidTests := true, laidLooks := .later }
def BitsHasCardSaid : Prop := Claim7.holds Tryd.pinned (.plain (OpenSpec.ofChange bitsHasSpec)) bitsHasCard

/-- THE TIED CARD OF 'keywaylaw14.BitsOps'. -/
def bitsOpsCard : Claim7 := { stood := { row := bitsOpsRow, standIns := [], harness := (true, "be00d8d0f8364c34412bf2a6ae3d97aa819a8ce61cf785b4ae2324cb221c3b5c"), looks := false }, kinds := [], alts := [], laidByText := true, laidKinds := [.data], laidTests := true, laidLooks := .later }
def BitsOpsCardSaid : Prop := Claim7.holds Tryd.pinned (.plain (OpenSpec.ofChange bitsOpsSpec)) bitsOpsCard

/-- THE TIED CARD OF 'keywaylaw25.ConsFacts'. -/
def consFactsCard : Claim7 := { stood := { row := consFactsRow, standIns := [], harness := (true, "be00d8d0f8364c34412bf2a6ae3d97aa819a8ce61cf785b4ae2324cb221c3b5c"), looks := false }, kinds := [], alts := [], laidByText := true, laidKinds := [.data], laidTests := true, laidLooks := .later }
def ConsFactsCardSaid : Prop := Claim7.holds Tryd.pinned (.plain (OpenSpec.ofChange consFactsSpec)) consFactsCard

/-- THE SECOND FORM's CARD OF 'keywaylaw14.BitsGoes'. -/
def bitsGoesUptoCard : Claim7 := { stood := { row := bitsGoesUptoRow, standIns := [], harness := (true, "be00d8d0f8364c34412bf2a6ae3d97aa819a8ce61cf785b4ae2324cb221c3b5c"), looks := false }, kinds := [], alts := [], laidByText := true, laidKinds := [.data], laidTests := true, laidLooks := .later }
def BitsGoesUptoCardSaid : Prop := Claim7.holds Tryd.pinned (.plain (OpenSpec.upto bitsGoesSpec)) bitsGoesUptoCard

/-- THE SECOND FORM's CARD OF 'keywaylaw14.BitsHas'. -/
def bitsHasUptoCard : Claim7 := { stood := { row := bitsHasUptoRow, standIns := [], harness := (true, "be00d8d0f8364c34412bf2a6ae3d97aa819a8ce61cf785b4ae2324cb221c3b5c"), looks := false }, kinds := [], alts := [], laidByText := true, laidKinds := [.data], laidTests := true, laidLooks := .later }
def BitsHasUptoCardSaid : Prop := Claim7.holds Tryd.pinned (.plain (OpenSpec.upto bitsHasSpec)) bitsHasUptoCard

/-- THE SECOND FORM's CARD OF 'keywaylaw14.BitsOps'. -/
def bitsOpsUptoCard : Claim7 := { stood := { row := bitsOpsUptoRow, standIns := [], harness := (true, "be00d8d0f8364c34412bf2a6ae3d97aa819a8ce61cf785b4ae2324cb221c3b5c"), looks := false }, kinds := [], alts := [], laidByText := true, laidKinds := [.data], laidTests := true, laidLooks := .later }
def BitsOpsUptoCardSaid : Prop := Claim7.holds Tryd.pinned (.plain (OpenSpec.upto bitsOpsSpec)) bitsOpsUptoCard

/-- THE SECOND FORM's CARD OF 'keywaylaw25.ConsFacts'. -/
def consFactsUptoCard : Claim7 := { stood := { row := consFactsUptoRow, standIns := [], harness := (true, "be00d8d0f8364c34412bf2a6ae3d97aa819a8ce61cf785b4ae2324cb221c3b5c"), looks := false }, kinds := [], alts := [], laidByText := true, laidKinds := [.data], laidTests := true, laidLooks := .later }
def ConsFactsUptoCardSaid : Prop := Claim7.holds Tryd.pinned (.plain (OpenSpec.upto consFactsSpec)) consFactsUptoCard
end Rows
end Go.Proofs.YtmcflglkfgnbbaaDoor
