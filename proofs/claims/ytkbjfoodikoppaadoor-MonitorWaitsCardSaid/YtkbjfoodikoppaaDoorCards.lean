/-
  DERIVED. GIVEN WITH THE SEED: THE CARDS: each row of YtkbjfoodikoppaaDoorRows.lean that lists a variable, with what it lists TIED to the program's text (the seventh form; the later family's looks); each row that meets fmt, with fmt's text TOLD by the authors' own Lean function (tested against real Go, not proved from fmt's source: count such statements apart). THE CARD IS WHAT COUNTS. Prove the row's statement (the work); the ties are given (YtkbjfoodikoppaaDoorTie.lean); close each card by the builder's one call (the guide's Derived/Test/ToyasCard.lean, 'card_holds'). Laid BY PROGRAM, IN A SANDBOX (cutbox-door.mjs). By AI agents, Wed Nov 11 2026. No macro, syntax, notation, axiom, sorry.
-/
import Derived.Test.YtkbjfoodikoppaaDoorRows
import GoSem.ClaimSeven
namespace Go.Proofs.YtkbjfoodikoppaaDoor
namespace Rows

/-- THE TIED CARD OF 'testbenchlaw37.MonitorTransfers'. -/
def monitorTransfersCard : Claim7 := { stood := { row := monitorTransfersRow, standIns := [], harness := (true, "09a6faec504022434bf0a317fca361aac4ed234a21a2cc5e834a94d045b48d8c"), looks := false }, kinds := [], alts := [], laidByText := true, laidKinds := [.widerDeep], laidTests := true, laidLooks := .later }
def MonitorTransfersCardSaid : Prop := Claim7.holds Tryd.pinned (.plain (OpenSpec.ofChange monitorTransfersSpec)) monitorTransfersCard

/-- THE TIED CARD OF 'testbenchlaw37.MonitorStable'. -/
def monitorStableCard : Claim7 := { stood := { row := monitorStableRow, standIns := [], harness := (true, "09a6faec504022434bf0a317fca361aac4ed234a21a2cc5e834a94d045b48d8c"), looks := false }, kinds := [], alts := [], laidByText := true, laidKinds := [.widerDeep], laidTests := true, laidLooks := .later }
def MonitorStableCardSaid : Prop := Claim7.holds Tryd.pinned (.plain (OpenSpec.ofChange monitorStableSpec)) monitorStableCard

/-- THE TIED CARD OF 'testbenchlaw37.MonitorSees'. -/
def monitorSeesCard : Claim7 := { stood := { row := monitorSeesRow, standIns := [], harness := (true, "09a6faec504022434bf0a317fca361aac4ed234a21a2cc5e834a94d045b48d8c"), looks := false }, kinds := [], alts := [], laidByText := true, laidKinds := [.widerDeep], laidTests := true, laidLooks := .later }
def MonitorSeesCardSaid : Prop := Claim7.holds Tryd.pinned (.plain (OpenSpec.ofChange monitorSeesSpec)) monitorSeesCard

/-- THE TIED CARD OF 'testbenchlaw37.MonitorDelays'. -/
def monitorDelaysCard : Claim7 := { stood := { row := monitorDelaysRow, standIns := [], harness := (true, "09a6faec504022434bf0a317fca361aac4ed234a21a2cc5e834a94d045b48d8c"), looks := false }, kinds := [], alts := [], laidByText := true, laidKinds := [.widerDeep], laidTests := true, laidLooks := .later }
def MonitorDelaysCardSaid : Prop := Claim7.holds Tryd.pinned (.plain (OpenSpec.ofChange monitorDelaysSpec)) monitorDelaysCard

/-- THE TIED CARD OF 'testbenchlaw37.MonitorCuts'. -/
def monitorCutsCard : Claim7 := { stood := { row := monitorCutsRow, standIns := [], harness := (true, "09a6faec504022434bf0a317fca361aac4ed234a21a2cc5e834a94d045b48d8c"), looks := false }, kinds := [], alts := [], laidByText := true, laidKinds := [.widerDeep], laidTests := true, laidLooks := .later }
def MonitorCutsCardSaid : Prop := Claim7.holds Tryd.pinned (.plain (OpenSpec.ofChange monitorCutsSpec)) monitorCutsCard

/-- THE TIED CARD OF 'testbenchlaw37.MonitorWaits'. -/
def monitorWaitsCard : Claim7 := { stood := { row := monitorWaitsRow, standIns := [], harness := (true, "09a6faec504022434bf0a317fca361aac4ed234a21a2cc5e834a94d045b48d8c"), looks := false }, kinds := [], alts := [], laidByText := true, laidKinds := [.widerDeep], laidTests := true, laidLooks := .later }
def MonitorWaitsCardSaid : Prop := Claim7.holds Tryd.pinned (.plain (OpenSpec.ofChange monitorWaitsSpec)) monitorWaitsCard

/-- THE SECOND FORM's CARD OF 'testbenchlaw37.MonitorTransfers'. -/
def monitorTransfersUptoCard : Claim7 := { stood := { row := monitorTransfersUptoRow, standIns := [], harness := (true, "09a6faec504022434bf0a317fca361aac4ed234a21a2cc5e834a94d045b48d8c"), looks := false }, kinds := [], alts := [], laidByText := true, laidKinds := [.widerDeep], laidTests := true, laidLooks := .later }
def MonitorTransfersUptoCardSaid : Prop := Claim7.holds Tryd.pinned (.plain (OpenSpec.upto monitorTransfersSpec)) monitorTransfersUptoCard

/-- THE SECOND FORM's CARD OF 'testbenchlaw37.MonitorStable'. -/
def monitorStableUptoCard : Claim7 := { stood := { row := monitorStableUptoRow, standIns := [], harness := (true, "09a6faec504022434bf0a317fca361aac4ed234a21a2cc5e834a94d045b48d8c"), looks := false }, kinds := [], alts := [], laidByText := true, laidKinds := [.widerDeep], laidTests := true, laidLooks := .later }
def MonitorStableUptoCardSaid : Prop := Claim7.holds Tryd.pinned (.plain (OpenSpec.upto monitorStableSpec)) monitorStableUptoCard

/-- THE SECOND FORM's CARD OF 'testbenchlaw37.MonitorSees'. -/
def monitorSeesUptoCard : Claim7 := { stood := { row := monitorSeesUptoRow, standIns := [], harness := (true, "09a6faec504022434bf0a317fca361aac4ed234a21a2cc5e834a94d045b48d8c"), looks := false }, kinds := [], alts := [], laidByText := true, laidKinds := [.widerDeep], laidTests := true, laidLooks := .later }
def MonitorSeesUptoCardSaid : Prop := Claim7.holds Tryd.pinned (.plain (OpenSpec.upto monitorSeesSpec)) monitorSeesUptoCard

/-- THE SECOND FORM's CARD OF 'testbenchlaw37.MonitorDelays'. -/
def monitorDelaysUptoCard : Claim7 := { stood := { row := monitorDelaysUptoRow, standIns := [], harness := (true, "09a6faec504022434bf0a317fca361aac4ed234a21a2cc5e834a94d045b48d8c"), looks := false }, kinds := [], alts := [], laidByText := true, laidKinds := [.widerDeep], laidTests := true, laidLooks := .later }
def MonitorDelaysUptoCardSaid : Prop := Claim7.holds Tryd.pinned (.plain (OpenSpec.upto monitorDelaysSpec)) monitorDelaysUptoCard

/-- THE SECOND FORM's CARD OF 'testbenchlaw37.MonitorCuts'. -/
def monitorCutsUptoCard : Claim7 := { stood := { row := monitorCutsUptoRow, standIns := [], harness := (true, "09a6faec504022434bf0a317fca361aac4ed234a21a2cc5e834a94d045b48d8c"), looks := false }, kinds := [], alts := [], laidByText := true, laidKinds := [.widerDeep], laidTests := true, laidLooks := .later }
def MonitorCutsUptoCardSaid : Prop := Claim7.holds Tryd.pinned (.plain (OpenSpec.upto monitorCutsSpec)) monitorCutsUptoCard

/-- THE SECOND FORM's CARD OF 'testbenchlaw37.MonitorWaits'. -/
def monitorWaitsUptoCard : Claim7 := { stood := { row := monitorWaitsUptoRow, standIns := [], harness := (true, "09a6faec504022434bf0a317fca361aac4ed234a21a2cc5e834a94d045b48d8c"), looks := false }, kinds := [], alts := [], laidByText := true, laidKinds := [.widerDeep], laidTests := true, laidLooks := .later }
def MonitorWaitsUptoCardSaid : Prop := Claim7.holds Tryd.pinned (.plain (OpenSpec.upto monitorWaitsSpec)) monitorWaitsUptoCard
end Rows
end Go.Proofs.YtkbjfoodikoppaaDoor
