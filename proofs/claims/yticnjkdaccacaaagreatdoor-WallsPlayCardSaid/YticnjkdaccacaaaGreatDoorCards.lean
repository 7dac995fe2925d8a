/-
  DERIVED. GIVEN WITH THE SEED: THE CARDS: each row of YticnjkdaccacaaaGreatDoorRows.lean that lists a variable, with what it lists TIED to the program's text (the seventh form; the later family's looks); each row that meets fmt, with fmt's text TOLD by the authors' own Lean function (tested against real Go, not proved from fmt's source: count such statements apart). THE CARD IS WHAT COUNTS. Prove the row's statement (the work); the ties are given (YticnjkdaccacaaaGreatDoorTie.lean); close each card by the builder's one call (the guide's Derived/Test/ToyasCard.lean, 'card_holds'). Laid BY PROGRAM, IN A SANDBOX (cutbox-door.mjs). By AI agents, Wed Nov 11 2026. No macro, syntax, notation, axiom, sorry.
-/
import Derived.Test.YticnjkdaccacaaaGreatDoorRows
import GoSem.ClaimSeven
namespace Go.Proofs.YticnjkdaccacaaaGreatDoor
namespace Rows

/-- THE TIED CARD OF 'concordatlaw04.SectorsPlay'. -/
def sectorsPlayCard : Claim7 := { stood := { row := sectorsPlayRow, standIns := [], harness := (true, "8e1b67c097ab7e9fdbceefeba192b3f8650cecfb9c5951a071061954cdfc76dd"), looks := false }, kinds := [], alts := [], laidByText := true, laidKinds := [.data, .data, .data], laidTests := true, laidLooks := .later }
def SectorsPlayCardSaid : Prop := Claim7.holds Tryz.pinned (.plain (OpenSpec.ofChange sectorsPlaySpec)) sectorsPlayCard

/-- THE TIED CARD OF 'concordatlaw06.WallsPlay'. -/
def wallsPlayCard : Claim7 := { stood := { row := wallsPlayRow, standIns := [], harness := (true, "8e1b67c097ab7e9fdbceefeba192b3f8650cecfb9c5951a071061954cdfc76dd"), looks := false }, kinds := [], alts := [], laidByText := true, laidKinds := [.data, .data, .data], laidTests := true, laidLooks := .later }
def WallsPlayCardSaid : Prop := Claim7.holds Tryz.pinned (.plain (OpenSpec.ofChange wallsPlaySpec)) wallsPlayCard

/-- THE TIED CARD OF 'concordatlaw09.ClocksPlay'. -/
def clocksPlayCard : Claim7 := { stood := { row := clocksPlayRow, standIns := [], harness := (true, "8e1b67c097ab7e9fdbceefeba192b3f8650cecfb9c5951a071061954cdfc76dd"), looks := false }, kinds := [], alts := [], laidByText := true, laidKinds := [.data, .data, .data], laidTests := true, laidLooks := .later }
def ClocksPlayCardSaid : Prop := Claim7.holds Tryz.pinned (.plain (OpenSpec.ofChange clocksPlaySpec)) clocksPlayCard

/-- THE TIED CARD OF 'concordatlaw12.RingsOrder'. -/
def ringsOrderCard : Claim7 := { stood := { row := ringsOrderRow, standIns := [], harness := (true, "8e1b67c097ab7e9fdbceefeba192b3f8650cecfb9c5951a071061954cdfc76dd"), looks := false }, kinds := [], alts := [], laidByText := true, laidKinds := [.data, .data, .data], laidTests := true, laidLooks := .later }
def RingsOrderCardSaid : Prop := Claim7.holds Tryz.pinned (.plain (OpenSpec.ofChange ringsOrderSpec)) ringsOrderCard

/-- THE TIED CARD OF 'concordatlaw21.ChiefsPlay'. -/
def chiefsPlayCard : Claim7 := { stood := { row := chiefsPlayRow, standIns := [], harness := (true, "8e1b67c097ab7e9fdbceefeba192b3f8650cecfb9c5951a071061954cdfc76dd"), looks := false }, kinds := [], alts := [], laidByText := true, laidKinds := [.data, .data, .data], laidTests := true, laidLooks := .later }
def ChiefsPlayCardSaid : Prop := Claim7.holds Tryz.pinned (.plain (OpenSpec.ofChange chiefsPlaySpec)) chiefsPlayCard

/-- THE SECOND FORM's CARD OF 'concordatlaw04.SectorsPlay'. -/
def sectorsPlayUptoCard : Claim7 := { stood := { row := sectorsPlayUptoRow, standIns := [], harness := (true, "8e1b67c097ab7e9fdbceefeba192b3f8650cecfb9c5951a071061954cdfc76dd"), looks := false }, kinds := [], alts := [], laidByText := true, laidKinds := [.data, .data, .data], laidTests := true, laidLooks := .later }
def SectorsPlayUptoCardSaid : Prop := Claim7.holds Tryz.pinned (.plain (OpenSpec.upto sectorsPlaySpec)) sectorsPlayUptoCard

/-- THE SECOND FORM's CARD OF 'concordatlaw06.WallsPlay'. -/
def wallsPlayUptoCard : Claim7 := { stood := { row := wallsPlayUptoRow, standIns := [], harness := (true, "8e1b67c097ab7e9fdbceefeba192b3f8650cecfb9c5951a071061954cdfc76dd"), looks := false }, kinds := [], alts := [], laidByText := true, laidKinds := [.data, .data, .data], laidTests := true, laidLooks := .later }
def WallsPlayUptoCardSaid : Prop := Claim7.holds Tryz.pinned (.plain (OpenSpec.upto wallsPlaySpec)) wallsPlayUptoCard

/-- THE SECOND FORM's CARD OF 'concordatlaw09.ClocksPlay'. -/
def clocksPlayUptoCard : Claim7 := { stood := { row := clocksPlayUptoRow, standIns := [], harness := (true, "8e1b67c097ab7e9fdbceefeba192b3f8650cecfb9c5951a071061954cdfc76dd"), looks := false }, kinds := [], alts := [], laidByText := true, laidKinds := [.data, .data, .data], laidTests := true, laidLooks := .later }
def ClocksPlayUptoCardSaid : Prop := Claim7.holds Tryz.pinned (.plain (OpenSpec.upto clocksPlaySpec)) clocksPlayUptoCard

/-- THE SECOND FORM's CARD OF 'concordatlaw12.RingsOrder'. -/
def ringsOrderUptoCard : Claim7 := { stood := { row := ringsOrderUptoRow, standIns := [], harness := (true, "8e1b67c097ab7e9fdbceefeba192b3f8650cecfb9c5951a071061954cdfc76dd"), looks := false }, kinds := [], alts := [], laidByText := true, laidKinds := [.data, .data, .data], laidTests := true, laidLooks := .later }
def RingsOrderUptoCardSaid : Prop := Claim7.holds Tryz.pinned (.plain (OpenSpec.upto ringsOrderSpec)) ringsOrderUptoCard

/-- THE SECOND FORM's CARD OF 'concordatlaw21.ChiefsPlay'. -/
def chiefsPlayUptoCard : Claim7 := { stood := { row := chiefsPlayUptoRow, standIns := [], harness := (true, "8e1b67c097ab7e9fdbceefeba192b3f8650cecfb9c5951a071061954cdfc76dd"), looks := false }, kinds := [], alts := [], laidByText := true, laidKinds := [.data, .data, .data], laidTests := true, laidLooks := .later }
def ChiefsPlayUptoCardSaid : Prop := Claim7.holds Tryz.pinned (.plain (OpenSpec.upto chiefsPlaySpec)) chiefsPlayUptoCard
end Rows
end Go.Proofs.YticnjkdaccacaaaGreatDoor
