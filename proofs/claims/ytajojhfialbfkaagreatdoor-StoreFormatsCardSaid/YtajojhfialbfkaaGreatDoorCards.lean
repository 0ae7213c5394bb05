/-
  DERIVED. GIVEN WITH THE SEED: THE CARDS: each row of YtajojhfialbfkaaGreatDoorRows.lean that lists a variable, with what it lists TIED to the program's text (the seventh form; the later family's looks); each row that meets fmt, with fmt's text TOLD by the authors' own Lean function (tested against real Go, not proved from fmt's source: count such statements apart). THE CARD IS WHAT COUNTS. Prove the row's statement (the work); the ties are given (YtajojhfialbfkaaGreatDoorTie.lean); close each card by the builder's one call (the guide's Derived/Test/ToyasCard.lean, 'card_holds'). Laid BY PROGRAM, IN A SANDBOX (cutbox-door.mjs). By AI agents, Wed Nov 11 2026. No macro, syntax, notation, axiom, sorry.
-/
import Derived.Test.YtajojhfialbfkaaGreatDoorRows
import GoSem.ClaimSeven
namespace Go.Proofs.YtajojhfialbfkaaGreatDoor
namespace Rows

/-- THE TIED CARD OF 'stereobatelaw16.CoreApart'. -/
def coreApartCard : Claim7 := { stood := { row := coreApartRow, standIns := [], harness := (true, "553fd52bb226eef5a6f4cb5e5544845aebc690486954eec0edbd706e1d16f0f2"), looks := true }, kinds := [], alts := [], laidByText := true, laidKinds := [.data, .data, .pinned], laidTests := true, laidLooks := .later }
def CoreApartCardSaid : Prop := Claim7.holds Tryz.pinned (.plain (OpenSpec.ofChange coreApartSpec)) coreApartCard

/-- THE TIED CARD OF 'stereobatelaw18.StoreFormats'. -/
def storeFormatsCard : Claim7 := { stood := { row := storeFormatsRow, standIns := [], harness := (true, "553fd52bb226eef5a6f4cb5e5544845aebc690486954eec0edbd706e1d16f0f2"), looks := true }, kinds := [], alts := [], laidByText := true, laidKinds := [.data, .pinned], laidTests := true, laidLooks := .later }
def StoreFormatsCardSaid : Prop := Claim7.holds Tryz.pinned (.plain (OpenSpec.ofChange storeFormatsSpec)) storeFormatsCard

/-- THE SECOND FORM's CARD OF 'stereobatelaw16.CoreApart'. -/
def coreApartUptoCard : Claim7 := { stood := { row := coreApartUptoRow, standIns := [], harness := (true, "553fd52bb226eef5a6f4cb5e5544845aebc690486954eec0edbd706e1d16f0f2"), looks := true }, kinds := [], alts := [], laidByText := true, laidKinds := [.data, .data, .pinned], laidTests := true, laidLooks := .later }
def CoreApartUptoCardSaid : Prop := Claim7.holds Tryz.pinned (.plain (OpenSpec.upto coreApartSpec)) coreApartUptoCard

/-- THE SECOND FORM's CARD OF 'stereobatelaw18.StoreFormats'. -/
def storeFormatsUptoCard : Claim7 := { stood := { row := storeFormatsUptoRow, standIns := [], harness := (true, "553fd52bb226eef5a6f4cb5e5544845aebc690486954eec0edbd706e1d16f0f2"), looks := true }, kinds := [], alts := [], laidByText := true, laidKinds := [.data, .pinned], laidTests := true, laidLooks := .later }
def StoreFormatsUptoCardSaid : Prop := Claim7.holds Tryz.pinned (.plain (OpenSpec.upto storeFormatsSpec)) storeFormatsUptoCard
end Rows
end Go.Proofs.YtajojhfialbfkaaGreatDoor
