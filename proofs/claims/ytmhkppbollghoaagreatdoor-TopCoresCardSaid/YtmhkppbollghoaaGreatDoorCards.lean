/-
  DERIVED. GIVEN WITH THE SEED: THE CARDS: each row of YtmhkppbollghoaaGreatDoorRows.lean that lists a variable, with what it lists TIED to the program's text (the seventh form; the later family's looks); each row that meets fmt, with fmt's text TOLD by the authors' own Lean function (tested against real Go, not proved from fmt's source: count such statements apart). THE CARD IS WHAT COUNTS. Prove the row's statement (the work); the ties are given (YtmhkppbollghoaaGreatDoorTie.lean); close each card by the builder's one call (the guide's Derived/Test/ToyasCard.lean, 'card_holds'). Laid BY PROGRAM, IN A SANDBOX (cutbox-door.mjs). By AI agents, Wed Nov 11 2026. No macro, syntax, notation, axiom, sorry.
-/
import Derived.Test.YtmhkppbollghoaaGreatDoorRows
import GoSem.ClaimSeven
namespace Go.Proofs.YtmhkppbollghoaaGreatDoor
namespace Rows

/-- THE TIED CARD OF 'testbenchtop.TopDiagrams'. -/
def topDiagramsCard : Claim7 := { stood := { row := topDiagramsRow, standIns := [], harness := (true, "61b5febd8429c882e2d0061e7233208d11695e2a710c077d555023d4aad768eb"), looks := true }, kinds := [], alts := [], laidByText := true, laidKinds := [.data, .data, .data, .widerDeep], laidTests := true, laidLooks := .later }
def TopDiagramsCardSaid : Prop := Claim7.holds Tryz.pinned (.plain (OpenSpec.ofChange topDiagramsSpec)) topDiagramsCard

/-- THE TIED CARD OF 'testbenchtop.TopCores'. -/
def topCoresCard : Claim7 := { stood := { row := topCoresRow, standIns := [], harness := (true, "61b5febd8429c882e2d0061e7233208d11695e2a710c077d555023d4aad768eb"), looks := true }, kinds := [], alts := [], laidByText := true, laidKinds := [.data, .data, .data, .widerDeep], laidTests := true, laidLooks := .later }
def TopCoresCardSaid : Prop := Claim7.holds Tryz.pinned (.plain (OpenSpec.ofChange topCoresSpec)) topCoresCard

/-- THE SECOND FORM's CARD OF 'testbenchtop.TopDiagrams'. -/
def topDiagramsUptoCard : Claim7 := { stood := { row := topDiagramsUptoRow, standIns := [], harness := (true, "61b5febd8429c882e2d0061e7233208d11695e2a710c077d555023d4aad768eb"), looks := true }, kinds := [], alts := [], laidByText := true, laidKinds := [.data, .data, .data, .widerDeep], laidTests := true, laidLooks := .later }
def TopDiagramsUptoCardSaid : Prop := Claim7.holds Tryz.pinned (.plain (OpenSpec.upto topDiagramsSpec)) topDiagramsUptoCard

/-- THE SECOND FORM's CARD OF 'testbenchtop.TopCores'. -/
def topCoresUptoCard : Claim7 := { stood := { row := topCoresUptoRow, standIns := [], harness := (true, "61b5febd8429c882e2d0061e7233208d11695e2a710c077d555023d4aad768eb"), looks := true }, kinds := [], alts := [], laidByText := true, laidKinds := [.data, .data, .data, .widerDeep], laidTests := true, laidLooks := .later }
def TopCoresUptoCardSaid : Prop := Claim7.holds Tryz.pinned (.plain (OpenSpec.upto topCoresSpec)) topCoresUptoCard
end Rows
end Go.Proofs.YtmhkppbollghoaaGreatDoor
