/-
  DERIVED. GIVEN WITH THE SEED: THE CARDS: each row of YtppabkcakledcaaGreatDoorRows.lean that lists a variable, with what it lists TIED to the program's text (the seventh form; the later family's looks); each row that meets fmt, with fmt's text TOLD by the authors' own Lean function (tested against real Go, not proved from fmt's source: count such statements apart). THE CARD IS WHAT COUNTS. Prove the row's statement (the work); the ties are given (YtppabkcakledcaaGreatDoorTie.lean); close each card by the builder's one call (the guide's Derived/Test/ToyasCard.lean, 'card_holds'). Laid BY PROGRAM, IN A SANDBOX (cutbox-door.mjs). By AI agents, Wed Nov 11 2026. No macro, syntax, notation, axiom, sorry.
-/
import Derived.Test.YtppabkcakledcaaGreatDoorRows
import GoSem.ClaimSeven
namespace Go.Proofs.YtppabkcakledcaaGreatDoor
namespace Rows

/-- THE TIED CARD OF 'grommetlaw26.ServerFirst'. -/
def serverFirstCard : Claim7 := { stood := { row := serverFirstRow, standIns := [], harness := (true, "162091cbeaa38ccd3ba163d75affb48164db6112fcefee89f412852dd374dc71"), looks := false }, kinds := [], alts := [], laidByText := true, laidKinds := [.data, .data, .data], laidTests := true, laidLooks := .later }
def ServerFirstCardSaid : Prop := Claim7.holds Tryz.pinned (.plain (OpenSpec.ofChange serverFirstSpec)) serverFirstCard

/-- THE TIED CARD OF 'grommetlaw26.ServerNil'. -/
def serverNilCard : Claim7 := { stood := { row := serverNilRow, standIns := [], harness := (true, "162091cbeaa38ccd3ba163d75affb48164db6112fcefee89f412852dd374dc71"), looks := false }, kinds := [], alts := [], laidByText := true, laidKinds := [.data, .data, .data], laidTests := true, laidLooks := .later }
def ServerNilCardSaid : Prop := Claim7.holds Tryz.pinned (.plain (OpenSpec.ofChange serverNilSpec)) serverNilCard

/-- THE SECOND FORM's CARD OF 'grommetlaw26.ServerFirst'. -/
def serverFirstUptoCard : Claim7 := { stood := { row := serverFirstUptoRow, standIns := [], harness := (true, "162091cbeaa38ccd3ba163d75affb48164db6112fcefee89f412852dd374dc71"), looks := false }, kinds := [], alts := [], laidByText := true, laidKinds := [.data, .data, .data], laidTests := true, laidLooks := .later }
def ServerFirstUptoCardSaid : Prop := Claim7.holds Tryz.pinned (.plain (OpenSpec.upto serverFirstSpec)) serverFirstUptoCard

/-- THE SECOND FORM's CARD OF 'grommetlaw26.ServerNil'. -/
def serverNilUptoCard : Claim7 := { stood := { row := serverNilUptoRow, standIns := [], harness := (true, "162091cbeaa38ccd3ba163d75affb48164db6112fcefee89f412852dd374dc71"), looks := false }, kinds := [], alts := [], laidByText := true, laidKinds := [.data, .data, .data], laidTests := true, laidLooks := .later }
def ServerNilUptoCardSaid : Prop := Claim7.holds Tryz.pinned (.plain (OpenSpec.upto serverNilSpec)) serverNilUptoCard
end Rows
end Go.Proofs.YtppabkcakledcaaGreatDoor
