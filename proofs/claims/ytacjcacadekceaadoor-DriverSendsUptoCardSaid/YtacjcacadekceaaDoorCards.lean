/-
  DERIVED. GIVEN WITH THE SEED: THE CARDS: each row of YtacjcacadekceaaDoorRows.lean that lists a variable, with what it lists TIED to the program's text (the seventh form; the later family's looks); each row that meets fmt, with fmt's text TOLD by the authors' own Lean function (tested against real Go, not proved from fmt's source: count such statements apart). THE CARD IS WHAT COUNTS. Prove the row's statement (the work); the ties are given (YtacjcacadekceaaDoorTie.lean); close each card by the builder's one call (the guide's Derived/Test/ToyasCard.lean, 'card_holds'). Laid BY PROGRAM, IN A SANDBOX (cutbox-door.mjs). By AI agents, Wed Nov 11 2026. No macro, syntax, notation, axiom, sorry.
-/
import Derived.Test.YtacjcacadekceaaDoorRows
import GoSem.ClaimSeven
namespace Go.Proofs.YtacjcacadekceaaDoor
namespace Rows

/-- THE TIED CARD OF 'testbenchlaw36.DriverValid'. -/
def driverValidCard : Claim7 := { stood := { row := driverValidRow, standIns := [], harness := (true, "dfecd5e0a4a7dcb01ca4f915318adea62aff8f42fbb21b495dddf563a30baf07"), looks := false }, kinds := [], alts := [], laidByText := true, laidKinds := [.widerDeep], laidTests := true, laidLooks := .later }
def DriverValidCardSaid : Prop := Claim7.holds Tryd.pinned (.plain (OpenSpec.ofChange driverValidSpec)) driverValidCard

/-- THE TIED CARD OF 'testbenchlaw36.DriverDrives'. -/
def driverDrivesCard : Claim7 := { stood := { row := driverDrivesRow, standIns := [], harness := (true, "dfecd5e0a4a7dcb01ca4f915318adea62aff8f42fbb21b495dddf563a30baf07"), looks := false }, kinds := [], alts := [], laidByText := true, laidKinds := [.widerDeep], laidTests := true, laidLooks := .later }
def DriverDrivesCardSaid : Prop := Claim7.holds Tryd.pinned (.plain (OpenSpec.ofChange driverDrivesSpec)) driverDrivesCard

/-- THE TIED CARD OF 'testbenchlaw36.DriverSteps'. -/
def driverStepsCard : Claim7 := { stood := { row := driverStepsRow, standIns := [], harness := (true, "dfecd5e0a4a7dcb01ca4f915318adea62aff8f42fbb21b495dddf563a30baf07"), looks := false }, kinds := [], alts := [], laidByText := true, laidKinds := [.widerDeep], laidTests := true, laidLooks := .later }
def DriverStepsCardSaid : Prop := Claim7.holds Tryd.pinned (.plain (OpenSpec.ofChange driverStepsSpec)) driverStepsCard

/-- THE TIED CARD OF 'testbenchlaw36.DriverSends'. -/
def driverSendsCard : Claim7 := { stood := { row := driverSendsRow, standIns := [], harness := (true, "dfecd5e0a4a7dcb01ca4f915318adea62aff8f42fbb21b495dddf563a30baf07"), looks := false }, kinds := [], alts := [], laidByText := true, laidKinds := [.widerDeep], laidTests := true, laidLooks := .later }
def DriverSendsCardSaid : Prop := Claim7.holds Tryd.pinned (.plain (OpenSpec.ofChange driverSendsSpec)) driverSendsCard

/-- THE TIED CARD OF 'testbenchlaw36.DriverKeeps'. -/
def driverKeepsCard : Claim7 := { stood := { row := driverKeepsRow, standIns := [], harness := (true, "dfecd5e0a4a7dcb01ca4f915318adea62aff8f42fbb21b495dddf563a30baf07"), looks := false }, kinds := [], alts := [], laidByText := true, laidKinds := [.widerDeep], laidTests := true, laidLooks := .later }
def DriverKeepsCardSaid : Prop := Claim7.holds Tryd.pinned (.plain (OpenSpec.ofChange driverKeepsSpec)) driverKeepsCard

/-- THE SECOND FORM's CARD OF 'testbenchlaw36.DriverValid'. -/
def driverValidUptoCard : Claim7 := { stood := { row := driverValidUptoRow, standIns := [], harness := (true, "dfecd5e0a4a7dcb01ca4f915318adea62aff8f42fbb21b495dddf563a30baf07"), looks := false }, kinds := [], alts := [], laidByText := true, laidKinds := [.widerDeep], laidTests := true, laidLooks := .later }
def DriverValidUptoCardSaid : Prop := Claim7.holds Tryd.pinned (.plain (OpenSpec.upto driverValidSpec)) driverValidUptoCard

/-- THE SECOND FORM's CARD OF 'testbenchlaw36.DriverDrives'. -/
def driverDrivesUptoCard : Claim7 := { stood := { row := driverDrivesUptoRow, standIns := [], harness := (true, "dfecd5e0a4a7dcb01ca4f915318adea62aff8f42fbb21b495dddf563a30baf07"), looks := false }, kinds := [], alts := [], laidByText := true, laidKinds := [.widerDeep], laidTests := true, laidLooks := .later }
def DriverDrivesUptoCardSaid : Prop := Claim7.holds Tryd.pinned (.plain (OpenSpec.upto driverDrivesSpec)) driverDrivesUptoCard

/-- THE SECOND FORM's CARD OF 'testbenchlaw36.DriverSteps'. -/
def driverStepsUptoCard : Claim7 := { stood := { row := driverStepsUptoRow, standIns := [], harness := (true, "dfecd5e0a4a7dcb01ca4f915318adea62aff8f42fbb21b495dddf563a30baf07"), looks := false }, kinds := [], alts := [], laidByText := true, laidKinds := [.widerDeep], laidTests := true, laidLooks := .later }
def DriverStepsUptoCardSaid : Prop := Claim7.holds Tryd.pinned (.plain (OpenSpec.upto driverStepsSpec)) driverStepsUptoCard

/-- THE SECOND FORM's CARD OF 'testbenchlaw36.DriverSends'. -/
def driverSendsUptoCard : Claim7 := { stood := { row := driverSendsUptoRow, standIns := [], harness := (true, "dfecd5e0a4a7dcb01ca4f915318adea62aff8f42fbb21b495dddf563a30baf07"), looks := false }, kinds := [], alts := [], laidByText := true, laidKinds := [.widerDeep], laidTests := true, laidLooks := .later }
def DriverSendsUptoCardSaid : Prop := Claim7.holds Tryd.pinned (.plain (OpenSpec.upto driverSendsSpec)) driverSendsUptoCard

/-- THE SECOND FORM's CARD OF 'testbenchlaw36.DriverKeeps'. -/
def driverKeepsUptoCard : Claim7 := { stood := { row := driverKeepsUptoRow, standIns := [], harness := (true, "dfecd5e0a4a7dcb01ca4f915318adea62aff8f42fbb21b495dddf563a30baf07"), looks := false }, kinds := [], alts := [], laidByText := true, laidKinds := [.widerDeep], laidTests := true, laidLooks := .later }
def DriverKeepsUptoCardSaid : Prop := Claim7.holds Tryd.pinned (.plain (OpenSpec.upto driverKeepsSpec)) driverKeepsUptoCard
end Rows
end Go.Proofs.YtacjcacadekceaaDoor
