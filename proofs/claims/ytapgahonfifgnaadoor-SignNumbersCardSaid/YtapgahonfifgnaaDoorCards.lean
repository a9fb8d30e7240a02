/-
  DERIVED. GIVEN WITH THE SEED: THE CARDS: each row of YtapgahonfifgnaaDoorRows.lean that lists a variable, with what it lists TIED to the program's text (the seventh form; the later family's looks); each row that meets fmt, with fmt's text TOLD by the authors' own Lean function (tested against real Go, not proved from fmt's source: count such statements apart). THE CARD IS WHAT COUNTS. Prove the row's statement (the work); the ties are given (YtapgahonfifgnaaDoorTie.lean); close each card by the builder's one call (the guide's Derived/Test/ToyasCard.lean, 'card_holds'). Laid BY PROGRAM, IN A SANDBOX (cutbox-door.mjs). By AI agents, Wed Nov 11 2026. No macro, syntax, notation, axiom, sorry.
-/
import Derived.Test.YtapgahonfifgnaaDoorRows
import GoSem.ClaimSeven
namespace Go.Proofs.YtapgahonfifgnaaDoor
namespace Rows

/-- THE TIED CARD OF 'testbenchlaw54.SignTexts'. -/
def signTextsCard : Claim7 := { stood := { row := signTextsRow, standIns := [], harness := (true, "ebcfc5b38a46c133488be467080128418218ae94be0f125f4a780fd926ef24b9"), looks := false }, kinds := [], alts := [], laidByText := true, laidKinds := [.widerDeep], laidTests := true, laidLooks := .later }
def SignTextsCardSaid : Prop := Claim7.holds Tryd.pinned (.plain (OpenSpec.ofChange signTextsSpec)) signTextsCard

/-- THE TIED CARD OF 'testbenchlaw54.SignSorts'. -/
def signSortsCard : Claim7 := { stood := { row := signSortsRow, standIns := [], harness := (true, "ebcfc5b38a46c133488be467080128418218ae94be0f125f4a780fd926ef24b9"), looks := false }, kinds := [], alts := [], laidByText := true, laidKinds := [.widerDeep], laidTests := true, laidLooks := .later }
def SignSortsCardSaid : Prop := Claim7.holds Tryd.pinned (.plain (OpenSpec.ofChange signSortsSpec)) signSortsCard

/-- THE TIED CARD OF 'testbenchlaw54.SignLists'. -/
def signListsCard : Claim7 := { stood := { row := signListsRow, standIns := [], harness := (true, "ebcfc5b38a46c133488be467080128418218ae94be0f125f4a780fd926ef24b9"), looks := false }, kinds := [], alts := [], laidByText := true, laidKinds := [.widerDeep], laidTests := true, laidLooks := .later }
def SignListsCardSaid : Prop := Claim7.holds Tryd.pinned (.plain (OpenSpec.ofChange signListsSpec)) signListsCard

/-- THE TIED CARD OF 'testbenchlaw54.SignBuckets'. -/
def signBucketsCard : Claim7 := { stood := { row := signBucketsRow, standIns := [], harness := (true, "ebcfc5b38a46c133488be467080128418218ae94be0f125f4a780fd926ef24b9"), looks := false }, kinds := [], alts := [], laidByText := true, laidKinds := [.widerDeep], laidTests := true, laidLooks := .later }
def SignBucketsCardSaid : Prop := Claim7.holds Tryd.pinned (.plain (OpenSpec.ofChange signBucketsSpec)) signBucketsCard

/-- THE TIED CARD OF 'testbenchlaw54.SignNumbers'. -/
def signNumbersCard : Claim7 := { stood := { row := signNumbersRow, standIns := [], harness := (true, "ebcfc5b38a46c133488be467080128418218ae94be0f125f4a780fd926ef24b9"), looks := false }, kinds := [], alts := [], laidByText := true, laidKinds := [.widerDeep], laidTests := true, laidLooks := .later }
def SignNumbersCardSaid : Prop := Claim7.holds Tryd.pinned (.plain (OpenSpec.ofChange signNumbersSpec)) signNumbersCard

/-- THE TIED CARD OF 'testbenchlaw54.SignEquivalent'. -/
def signEquivalentCard : Claim7 := { stood := { row := signEquivalentRow, standIns := [], harness := (true, "ebcfc5b38a46c133488be467080128418218ae94be0f125f4a780fd926ef24b9"), looks := false }, kinds := [], alts := [], laidByText := true, laidKinds := [.widerDeep], laidTests := true, laidLooks := .later }
def SignEquivalentCardSaid : Prop := Claim7.holds Tryd.pinned (.plain (OpenSpec.ofChange signEquivalentSpec)) signEquivalentCard

/-- THE SECOND FORM's CARD OF 'testbenchlaw54.SignTexts'. -/
def signTextsUptoCard : Claim7 := { stood := { row := signTextsUptoRow, standIns := [], harness := (true, "ebcfc5b38a46c133488be467080128418218ae94be0f125f4a780fd926ef24b9"), looks := false }, kinds := [], alts := [], laidByText := true, laidKinds := [.widerDeep], laidTests := true, laidLooks := .later }
def SignTextsUptoCardSaid : Prop := Claim7.holds Tryd.pinned (.plain (OpenSpec.upto signTextsSpec)) signTextsUptoCard

/-- THE SECOND FORM's CARD OF 'testbenchlaw54.SignSorts'. -/
def signSortsUptoCard : Claim7 := { stood := { row := signSortsUptoRow, standIns := [], harness := (true, "ebcfc5b38a46c133488be467080128418218ae94be0f125f4a780fd926ef24b9"), looks := false }, kinds := [], alts := [], laidByText := true, laidKinds := [.widerDeep], laidTests := true, laidLooks := .later }
def SignSortsUptoCardSaid : Prop := Claim7.holds Tryd.pinned (.plain (OpenSpec.upto signSortsSpec)) signSortsUptoCard

/-- THE SECOND FORM's CARD OF 'testbenchlaw54.SignLists'. -/
def signListsUptoCard : Claim7 := { stood := { row := signListsUptoRow, standIns := [], harness := (true, "ebcfc5b38a46c133488be467080128418218ae94be0f125f4a780fd926ef24b9"), looks := false }, kinds := [], alts := [], laidByText := true, laidKinds := [.widerDeep], laidTests := true, laidLooks := .later }
def SignListsUptoCardSaid : Prop := Claim7.holds Tryd.pinned (.plain (OpenSpec.upto signListsSpec)) signListsUptoCard

/-- THE SECOND FORM's CARD OF 'testbenchlaw54.SignBuckets'. -/
def signBucketsUptoCard : Claim7 := { stood := { row := signBucketsUptoRow, standIns := [], harness := (true, "ebcfc5b38a46c133488be467080128418218ae94be0f125f4a780fd926ef24b9"), looks := false }, kinds := [], alts := [], laidByText := true, laidKinds := [.widerDeep], laidTests := true, laidLooks := .later }
def SignBucketsUptoCardSaid : Prop := Claim7.holds Tryd.pinned (.plain (OpenSpec.upto signBucketsSpec)) signBucketsUptoCard

/-- THE SECOND FORM's CARD OF 'testbenchlaw54.SignNumbers'. -/
def signNumbersUptoCard : Claim7 := { stood := { row := signNumbersUptoRow, standIns := [], harness := (true, "ebcfc5b38a46c133488be467080128418218ae94be0f125f4a780fd926ef24b9"), looks := false }, kinds := [], alts := [], laidByText := true, laidKinds := [.widerDeep], laidTests := true, laidLooks := .later }
def SignNumbersUptoCardSaid : Prop := Claim7.holds Tryd.pinned (.plain (OpenSpec.upto signNumbersSpec)) signNumbersUptoCard

/-- THE SECOND FORM's CARD OF 'testbenchlaw54.SignEquivalent'. -/
def signEquivalentUptoCard : Claim7 := { stood := { row := signEquivalentUptoRow, standIns := [], harness := (true, "ebcfc5b38a46c133488be467080128418218ae94be0f125f4a780fd926ef24b9"), looks := false }, kinds := [], alts := [], laidByText := true, laidKinds := [.widerDeep], laidTests := true, laidLooks := .later }
def SignEquivalentUptoCardSaid : Prop := Claim7.holds Tryd.pinned (.plain (OpenSpec.upto signEquivalentSpec)) signEquivalentUptoCard
end Rows
end Go.Proofs.YtapgahonfifgnaaDoor
