/-
  DERIVED. GIVEN WITH THE SEED: THE CARDS: each row of YtiiinmleiigckaaGreatDoorRows.lean that lists a variable, with what it lists TIED to the program's text (the seventh form; the later family's looks); each row that meets fmt, with fmt's text TOLD by the authors' own Lean function (tested against real Go, not proved from fmt's source: count such statements apart). THE CARD IS WHAT COUNTS. Prove the row's statement (the work); the ties are given (YtiiinmleiigckaaGreatDoorTie.lean); close each card by the builder's one call (the guide's Derived/Test/ToyasCard.lean, 'card_holds'). Laid BY PROGRAM, IN A SANDBOX (cutbox-door.mjs). By AI agents, Wed Nov 11 2026. No macro, syntax, notation, axiom, sorry.
-/
import Derived.Test.YtiiinmleiigckaaGreatDoorRows
import GoSem.ClaimSeven
namespace Go.Proofs.YtiiinmleiigckaaGreatDoor
namespace Rows

/-- THE TIED CARD OF 'shelfmarklaw17.ObjectsRuns'. -/
def objectsRunsCard : Claim7 := { stood := { row := objectsRunsRow, standIns := [], harness := (true, "2a0baa76c7de724ffcac30d863ed509548870bee4165550b10d52ae66515f2ec"), looks := true }, kinds := [], alts := [], laidByText := true, laidKinds := [.data, .pinned], laidTests := true, laidLooks := .later }
def ObjectsRunsCardSaid : Prop := Claim7.holds Tryz.pinned (.plain (OpenSpec.ofChange objectsRunsSpec)) objectsRunsCard

/-- THE TIED CARD OF 'shelfmarklaw17.ObjectsRaw'. -/
def objectsRawCard : Claim7 := { stood := { row := objectsRawRow, standIns := [], harness := (true, "2a0baa76c7de724ffcac30d863ed509548870bee4165550b10d52ae66515f2ec"), looks := true }, kinds := [], alts := [], laidByText := true, laidKinds := [.data, .pinned], laidTests := true, laidLooks := .later }
def ObjectsRawCardSaid : Prop := Claim7.holds Tryz.pinned (.plain (OpenSpec.ofChange objectsRawSpec)) objectsRawCard

/-- THE TIED CARD OF 'shelfmarklaw17.ObjectsTwo'. -/
def objectsTwoCard : Claim7 := { stood := { row := objectsTwoRow, standIns := [], harness := (true, "2a0baa76c7de724ffcac30d863ed509548870bee4165550b10d52ae66515f2ec"), looks := true }, kinds := [], alts := [], laidByText := true, laidKinds := [.data, .pinned], laidTests := true, laidLooks := .later }
def ObjectsTwoCardSaid : Prop := Claim7.holds Tryz.pinned (.plain (OpenSpec.ofChange objectsTwoSpec)) objectsTwoCard

/-- THE TIED CARD OF 'shelfmarklaw17.ObjectsFull'. -/
def objectsFullCard : Claim7 := { stood := { row := objectsFullRow, standIns := [], harness := (true, "2a0baa76c7de724ffcac30d863ed509548870bee4165550b10d52ae66515f2ec"), looks := true }, kinds := [], alts := [], laidByText := true, laidKinds := [.data, .pinned], laidTests := true, laidLooks := .later }
def ObjectsFullCardSaid : Prop := Claim7.holds Tryz.pinned (.plain (OpenSpec.ofChange objectsFullSpec)) objectsFullCard

/-- THE TIED CARD OF 'shelfmarklaw17.ObjectsWhere'. -/
def objectsWhereCard : Claim7 := { stood := { row := objectsWhereRow, standIns := [], harness := (true, "2a0baa76c7de724ffcac30d863ed509548870bee4165550b10d52ae66515f2ec"), looks := true }, kinds := [], alts := [], laidByText := true, laidKinds := [.data, .pinned], laidTests := true, laidLooks := .later }
def ObjectsWhereCardSaid : Prop := Claim7.holds Tryz.pinned (.plain (OpenSpec.ofChange objectsWhereSpec)) objectsWhereCard

/-- THE TIED CARD OF 'shelfmarklaw17.ObjectsCrash'. -/
def objectsCrashCard : Claim7 := { stood := { row := objectsCrashRow, standIns := [], harness := (true, "2a0baa76c7de724ffcac30d863ed509548870bee4165550b10d52ae66515f2ec"), looks := true }, kinds := [], alts := [], laidByText := true, laidKinds := [.data, .pinned], laidTests := true, laidLooks := .later }
def ObjectsCrashCardSaid : Prop := Claim7.holds Tryz.pinned (.plain (OpenSpec.ofChange objectsCrashSpec)) objectsCrashCard

/-- THE TIED CARD OF 'shelfmarklaw17.ObjectsGoes'. -/
def objectsGoesCard : Claim7 := { stood := { row := objectsGoesRow, standIns := [], harness := (true, "2a0baa76c7de724ffcac30d863ed509548870bee4165550b10d52ae66515f2ec"), looks := true }, kinds := [], alts := [], laidByText := true, laidKinds := [.data, .pinned], laidTests := true, laidLooks := .later }
def ObjectsGoesCardSaid : Prop := Claim7.holds Tryz.pinned (.plain (OpenSpec.ofChange objectsGoesSpec)) objectsGoesCard

/-- THE TIED CARD OF 'shelfmarklaw17.ObjectsDown'. -/
def objectsDownCard : Claim7 := { stood := { row := objectsDownRow, standIns := [], harness := (true, "2a0baa76c7de724ffcac30d863ed509548870bee4165550b10d52ae66515f2ec"), looks := true }, kinds := [], alts := [], laidByText := true, laidKinds := [.data, .pinned], laidTests := true, laidLooks := .later }
def ObjectsDownCardSaid : Prop := Claim7.holds Tryz.pinned (.plain (OpenSpec.ofChange objectsDownSpec)) objectsDownCard

/-- THE SECOND FORM's CARD OF 'shelfmarklaw17.ObjectsRuns'. -/
def objectsRunsUptoCard : Claim7 := { stood := { row := objectsRunsUptoRow, standIns := [], harness := (true, "2a0baa76c7de724ffcac30d863ed509548870bee4165550b10d52ae66515f2ec"), looks := true }, kinds := [], alts := [], laidByText := true, laidKinds := [.data, .pinned], laidTests := true, laidLooks := .later }
def ObjectsRunsUptoCardSaid : Prop := Claim7.holds Tryz.pinned (.plain (OpenSpec.upto objectsRunsSpec)) objectsRunsUptoCard

/-- THE SECOND FORM's CARD OF 'shelfmarklaw17.ObjectsRaw'. -/
def objectsRawUptoCard : Claim7 := { stood := { row := objectsRawUptoRow, standIns := [], harness := (true, "2a0baa76c7de724ffcac30d863ed509548870bee4165550b10d52ae66515f2ec"), looks := true }, kinds := [], alts := [], laidByText := true, laidKinds := [.data, .pinned], laidTests := true, laidLooks := .later }
def ObjectsRawUptoCardSaid : Prop := Claim7.holds Tryz.pinned (.plain (OpenSpec.upto objectsRawSpec)) objectsRawUptoCard

/-- THE SECOND FORM's CARD OF 'shelfmarklaw17.ObjectsTwo'. -/
def objectsTwoUptoCard : Claim7 := { stood := { row := objectsTwoUptoRow, standIns := [], harness := (true, "2a0baa76c7de724ffcac30d863ed509548870bee4165550b10d52ae66515f2ec"), looks := true }, kinds := [], alts := [], laidByText := true, laidKinds := [.data, .pinned], laidTests := true, laidLooks := .later }
def ObjectsTwoUptoCardSaid : Prop := Claim7.holds Tryz.pinned (.plain (OpenSpec.upto objectsTwoSpec)) objectsTwoUptoCard

/-- THE SECOND FORM's CARD OF 'shelfmarklaw17.ObjectsFull'. -/
def objectsFullUptoCard : Claim7 := { stood := { row := objectsFullUptoRow, standIns := [], harness := (true, "2a0baa76c7de724ffcac30d863ed509548870bee4165550b10d52ae66515f2ec"), looks := true }, kinds := [], alts := [], laidByText := true, laidKinds := [.data, .pinned], laidTests := true, laidLooks := .later }
def ObjectsFullUptoCardSaid : Prop := Claim7.holds Tryz.pinned (.plain (OpenSpec.upto objectsFullSpec)) objectsFullUptoCard

/-- THE SECOND FORM's CARD OF 'shelfmarklaw17.ObjectsWhere'. -/
def objectsWhereUptoCard : Claim7 := { stood := { row := objectsWhereUptoRow, standIns := [], harness := (true, "2a0baa76c7de724ffcac30d863ed509548870bee4165550b10d52ae66515f2ec"), looks := true }, kinds := [], alts := [], laidByText := true, laidKinds := [.data, .pinned], laidTests := true, laidLooks := .later }
def ObjectsWhereUptoCardSaid : Prop := Claim7.holds Tryz.pinned (.plain (OpenSpec.upto objectsWhereSpec)) objectsWhereUptoCard

/-- THE SECOND FORM's CARD OF 'shelfmarklaw17.ObjectsCrash'. -/
def objectsCrashUptoCard : Claim7 := { stood := { row := objectsCrashUptoRow, standIns := [], harness := (true, "2a0baa76c7de724ffcac30d863ed509548870bee4165550b10d52ae66515f2ec"), looks := true }, kinds := [], alts := [], laidByText := true, laidKinds := [.data, .pinned], laidTests := true, laidLooks := .later }
def ObjectsCrashUptoCardSaid : Prop := Claim7.holds Tryz.pinned (.plain (OpenSpec.upto objectsCrashSpec)) objectsCrashUptoCard

/-- THE SECOND FORM's CARD OF 'shelfmarklaw17.ObjectsGoes'. -/
def objectsGoesUptoCard : Claim7 := { stood := { row := objectsGoesUptoRow, standIns := [], harness := (true, "2a0baa76c7de724ffcac30d863ed509548870bee4165550b10d52ae66515f2ec"), looks := true }, kinds := [], alts := [], laidByText := true, laidKinds := [.data, .pinned], laidTests := true, laidLooks := .later }
def ObjectsGoesUptoCardSaid : Prop := Claim7.holds Tryz.pinned (.plain (OpenSpec.upto objectsGoesSpec)) objectsGoesUptoCard

/-- THE SECOND FORM's CARD OF 'shelfmarklaw17.ObjectsDown'. -/
def objectsDownUptoCard : Claim7 := { stood := { row := objectsDownUptoRow, standIns := [], harness := (true, "2a0baa76c7de724ffcac30d863ed509548870bee4165550b10d52ae66515f2ec"), looks := true }, kinds := [], alts := [], laidByText := true, laidKinds := [.data, .pinned], laidTests := true, laidLooks := .later }
def ObjectsDownUptoCardSaid : Prop := Claim7.holds Tryz.pinned (.plain (OpenSpec.upto objectsDownSpec)) objectsDownUptoCard
end Rows
end Go.Proofs.YtiiinmleiigckaaGreatDoor
