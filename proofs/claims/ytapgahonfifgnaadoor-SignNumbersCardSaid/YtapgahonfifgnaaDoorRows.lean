/-
  NARROWER THAN 'FOR EVERY INPUT', by the rows' own cells (each row's printed sentence says how): SignTexts: laid · SignSorts: laid · SignLists: laid · SignBuckets: laid · SignNumbers: laid · SignEquivalent: laid.
  DERIVED. THE GIVEN ROWS OF THIS SEAT. 6 by the template 'for every input the law returns true; each argument reads behind the call as it read before'; 0 by the template 'total and deterministic' (their statements: YtapgahonfifgnaaDoorTotals.lean).
  GIVEN WITH THE SEED: the statements are not yours to turn. If you find one false, say at which input.
  Laid BY PROGRAM, IN A SANDBOX (cutbox-rows.mjs): the forced cells as the released guide's own fill.sh prints them over the translation 82588b8242e897e0… (all of the seat's roots in one cut). By AI agents, Wed Nov 11 2026. No macro, syntax, notation, axiom, sorry.
-/
import Derived.Test.YtapgahonfifgnaaDoorChecked
import GoSem.Claim
import GoSem.ClaimJoined
import GoSem.ClaimMapViews
import Derived.JoinedTies
import Derived.KernelRfl
namespace Go.Proofs.YtapgahonfifgnaaDoor
/- THE CELL 'sum', in the pinned program and in every row, IS THE sha256 OF THE DUMP (.gsa) THAT YtapgahonfifgnaaDoorProg.lean LOADS. Nothing in Lean hashes anything: it is a label: what it is worth is what the hold of that sum in a sandbox is worth. -/
noncomputable def Tryd.pinned : Pinned := { name := "ytapgahonfifgnaadoor", sum := "82588b8242e897e07068b352c56b0726c2a8673c37a9f93da500272f0ce7bcfd", checked := Tryd.checked }
namespace Rows
def none {H : Type} : Left H := { results := [], args := [] }

/- WHAT THE LISTED PACKAGE-LEVEL VARIABLES READ AS WHEN THE CALL BEGINS. Each datum BY PROGRAM (the guide's laid-datum.mjs) off the statement by which the dump's own 'gosem.cut.vars' lays the variable. In a bare row this is a premise. The card (YtapgahonfifgnaaDoorCards.lean) ties it to the program's text. -/
def laid_testbench_lexer_keywords {H : Type} : DataW H := .slice [.lit (.string [99, 108, 97, 115, 115]), .lit (.string [101, 120, 116, 101, 110, 100, 115]), .lit (.string [114, 97, 110, 100]), .lit (.string [114, 97, 110, 100, 99]), .lit (.string [115, 116, 97, 116, 101]), .lit (.string [99, 111, 110, 115, 116, 114, 97, 105, 110, 116]), .lit (.string [115, 111, 102, 116]), .lit (.string [100, 105, 115, 116]), .lit (.string [105, 102]), .lit (.string [101, 108, 115, 101]), .lit (.string [101, 97, 99, 104]), .lit (.string [105, 110]), .lit (.string [115, 111, 108, 118, 101]), .lit (.string [98, 101, 102, 111, 114, 101]), .lit (.string [105, 110, 115, 105, 100, 101]), .lit (.string [112, 114, 111, 112, 101, 114, 116, 121]), .lit (.string [115, 101, 113]), .lit (.string [97, 110, 100]), .lit (.string [111, 114]), .lit (.string [110, 111, 116]), .lit (.string [115, 101, 116]), .lit (.string [104, 111, 108, 100]), .lit (.string [112, 108, 97, 105, 110]), .lit (.string [114, 101, 112, 101, 97, 116])] []

/-- 'testbenchlaw54.SignTexts': WHATEVER THE INPUT: true; the input reads as it did. -/
def signTextsSpec : ChangeSpec := { name := "signTexts", fn := fun _ => fun
  | [d1, d2] => { results := [.lit (.bool true)], args := [d1, d2] }
  | _ => none }
def signTextsRow : OpenClaim := { program := "ytapgahonfifgnaadoor", sum := "82588b8242e897e07068b352c56b0726c2a8673c37a9f93da500272f0ce7bcfd", func := "testbench/testbenchlaw54.SignTexts", spec := "signTexts", inPlace := ["internal/bytealg.IndexByteString", "internal/bytealg.IndexString"], named := ["internal/bytealg.MaxLen", "testbench/lexer.keywords"], apart := false, laid := [("testbench/lexer.keywords", laid_testbench_lexer_keywords)] }
def SignTextsSaid : Prop := signTextsRow.holds Tryd.pinned (OpenSpec.ofChange signTextsSpec)

/-- ITS FALSE NEIGHBOUR: 'it returns false'. Refute it at one input. -/
def signTextsWrong : ChangeSpec := { name := "signTexts", fn := fun _ => fun
  | [d1, d2] => { results := [.lit (.bool false)], args := [d1, d2] }
  | _ => none }
def SignTextsWrongFalsely : Prop := signTextsRow.holds Tryd.pinned (OpenSpec.ofChange signTextsWrong)

/-- 'testbenchlaw54.SignSorts': WHATEVER THE INPUT: true; the input reads as it did. -/
def signSortsSpec : ChangeSpec := { name := "signSorts", fn := fun _ => fun
  | [d1, d2, d3] => { results := [.lit (.bool true)], args := [d1, d2, d3] }
  | _ => none }
def signSortsRow : OpenClaim := { program := "ytapgahonfifgnaadoor", sum := "82588b8242e897e07068b352c56b0726c2a8673c37a9f93da500272f0ce7bcfd", func := "testbench/testbenchlaw54.SignSorts", spec := "signSorts", inPlace := ["internal/bytealg.IndexByteString", "internal/bytealg.IndexString"], named := ["internal/bytealg.MaxLen", "testbench/lexer.keywords"], apart := false, laid := [("testbench/lexer.keywords", laid_testbench_lexer_keywords)] }
def SignSortsSaid : Prop := signSortsRow.holds Tryd.pinned (OpenSpec.ofChange signSortsSpec)

/-- ITS FALSE NEIGHBOUR: 'it returns false'. Refute it at one input. -/
def signSortsWrong : ChangeSpec := { name := "signSorts", fn := fun _ => fun
  | [d1, d2, d3] => { results := [.lit (.bool false)], args := [d1, d2, d3] }
  | _ => none }
def SignSortsWrongFalsely : Prop := signSortsRow.holds Tryd.pinned (OpenSpec.ofChange signSortsWrong)

/-- 'testbenchlaw54.SignLists': WHATEVER THE INPUT: true; the input reads as it did. -/
def signListsSpec : ChangeSpec := { name := "signLists", fn := fun _ => fun
  | [d] => { results := [.lit (.bool true)], args := [d] }
  | _ => none }
def signListsRow : OpenClaim := { program := "ytapgahonfifgnaadoor", sum := "82588b8242e897e07068b352c56b0726c2a8673c37a9f93da500272f0ce7bcfd", func := "testbench/testbenchlaw54.SignLists", spec := "signLists", inPlace := ["internal/bytealg.IndexByteString", "internal/bytealg.IndexString"], named := ["internal/bytealg.MaxLen", "testbench/lexer.keywords"], apart := false, laid := [("testbench/lexer.keywords", laid_testbench_lexer_keywords)] }
def SignListsSaid : Prop := signListsRow.holds Tryd.pinned (OpenSpec.ofChange signListsSpec)

/-- ITS FALSE NEIGHBOUR: 'it returns false'. Refute it at one input. -/
def signListsWrong : ChangeSpec := { name := "signLists", fn := fun _ => fun
  | [d] => { results := [.lit (.bool false)], args := [d] }
  | _ => none }
def SignListsWrongFalsely : Prop := signListsRow.holds Tryd.pinned (OpenSpec.ofChange signListsWrong)

/-- 'testbenchlaw54.SignBuckets': WHATEVER THE INPUT: true; the input reads as it did. -/
def signBucketsSpec : ChangeSpec := { name := "signBuckets", fn := fun _ => fun
  | [d] => { results := [.lit (.bool true)], args := [d] }
  | _ => none }
def signBucketsRow : OpenClaim := { program := "ytapgahonfifgnaadoor", sum := "82588b8242e897e07068b352c56b0726c2a8673c37a9f93da500272f0ce7bcfd", func := "testbench/testbenchlaw54.SignBuckets", spec := "signBuckets", inPlace := ["internal/bytealg.IndexByteString", "internal/bytealg.IndexString"], named := ["internal/bytealg.MaxLen", "testbench/lexer.keywords"], apart := false, laid := [("testbench/lexer.keywords", laid_testbench_lexer_keywords)] }
def SignBucketsSaid : Prop := signBucketsRow.holds Tryd.pinned (OpenSpec.ofChange signBucketsSpec)

/-- ITS FALSE NEIGHBOUR: 'it returns false'. Refute it at one input. -/
def signBucketsWrong : ChangeSpec := { name := "signBuckets", fn := fun _ => fun
  | [d] => { results := [.lit (.bool false)], args := [d] }
  | _ => none }
def SignBucketsWrongFalsely : Prop := signBucketsRow.holds Tryd.pinned (OpenSpec.ofChange signBucketsWrong)

/-- 'testbenchlaw54.SignNumbers': WHATEVER THE INPUT: true; the input reads as it did. -/
def signNumbersSpec : ChangeSpec := { name := "signNumbers", fn := fun _ => fun
  | [d1, d2, d3] => { results := [.lit (.bool true)], args := [d1, d2, d3] }
  | _ => none }
def signNumbersRow : OpenClaim := { program := "ytapgahonfifgnaadoor", sum := "82588b8242e897e07068b352c56b0726c2a8673c37a9f93da500272f0ce7bcfd", func := "testbench/testbenchlaw54.SignNumbers", spec := "signNumbers", inPlace := ["internal/bytealg.IndexByteString", "internal/bytealg.IndexString"], named := ["internal/bytealg.MaxLen", "testbench/lexer.keywords"], apart := false, laid := [("testbench/lexer.keywords", laid_testbench_lexer_keywords)] }
def SignNumbersSaid : Prop := signNumbersRow.holds Tryd.pinned (OpenSpec.ofChange signNumbersSpec)

/-- ITS FALSE NEIGHBOUR: 'it returns false'. Refute it at one input. -/
def signNumbersWrong : ChangeSpec := { name := "signNumbers", fn := fun _ => fun
  | [d1, d2, d3] => { results := [.lit (.bool false)], args := [d1, d2, d3] }
  | _ => none }
def SignNumbersWrongFalsely : Prop := signNumbersRow.holds Tryd.pinned (OpenSpec.ofChange signNumbersWrong)

/-- 'testbenchlaw54.SignEquivalent': WHATEVER THE INPUT: true; the input reads as it did. -/
def signEquivalentSpec : ChangeSpec := { name := "signEquivalent", fn := fun _ => fun
  | [d1, d2, d3] => { results := [.lit (.bool true)], args := [d1, d2, d3] }
  | _ => none }
def signEquivalentRow : OpenClaim := { program := "ytapgahonfifgnaadoor", sum := "82588b8242e897e07068b352c56b0726c2a8673c37a9f93da500272f0ce7bcfd", func := "testbench/testbenchlaw54.SignEquivalent", spec := "signEquivalent", inPlace := ["internal/bytealg.IndexByteString", "internal/bytealg.IndexString"], named := ["internal/bytealg.MaxLen", "testbench/lexer.keywords"], apart := false, laid := [("testbench/lexer.keywords", laid_testbench_lexer_keywords)] }
def SignEquivalentSaid : Prop := signEquivalentRow.holds Tryd.pinned (OpenSpec.ofChange signEquivalentSpec)

/-- ITS FALSE NEIGHBOUR: 'it returns false'. Refute it at one input. -/
def signEquivalentWrong : ChangeSpec := { name := "signEquivalent", fn := fun _ => fun
  | [d1, d2, d3] => { results := [.lit (.bool false)], args := [d1, d2, d3] }
  | _ => none }
def SignEquivalentWrongFalsely : Prop := signEquivalentRow.holds Tryd.pinned (OpenSpec.ofChange signEquivalentWrong)

/- THE SECOND FORM. 'bulk': how many values and letters a reading holds, each counted each time it is reached (what is shared counts as often as it is met; a slice's spare places count too). A statement '..UptoSaid' is the law's where the arguments, and the package variables that the reading takes, are together of bulk at most 1048576: NARROWER than '..Said'. Prove '..Said' where nothing that the law and all that it calls make is longer than what came in: it says more and counts as full. Else prove '..UptoSaid'. A law counts once. -/
mutual
def uptoBulk {H : Type} : DataW H → Nat
  | .lit (.string bytes) => bytes.length + 1
  | .lit _ => 1
  | .nil => 1
  | .ptr d => uptoBulk d + 1
  | .slice elems spare => uptoBulkAll elems + uptoBulkAll spare + 1
  | .agg parts => uptoBulkAll parts + 1
  | .iface _ d => uptoBulk d + 1
  | .map entries => uptoBulkEntries entries + 1
  | .held _ => 1
def uptoBulkAll {H : Type} : List (DataW H) → Nat
  | [] => 0
  | d :: r => uptoBulk d + uptoBulkAll r
def uptoBulkEntries {H : Type} : List (Lit × DataW H) → Nat
  | [] => 0
  | x :: r => uptoBulkEntry x + uptoBulkEntries r
def uptoBulkEntry {H : Type} : Lit × DataW H → Nat
  | (.string bytes, d) => bytes.length + uptoBulk d + 1
  | (_, d) => uptoBulk d + 1
 end
def uptoSmall : (H : Type) → List (DataW H) → Bool := fun _ ds => decide (uptoBulkAll ds ≤ 1048576)
def OpenSpec.upto (s : _root_.Go.ChangeSpec) : _root_.Go.OpenSpec := { _root_.Go.OpenSpec.ofChange s with cond := some uptoSmall }

/-- 'testbenchlaw54.SignTexts', WHERE WHAT IT READS IS OF BULK AT MOST 1048576: true; the input reads as it did. -/
def signTextsUptoRow : OpenClaim := { program := "ytapgahonfifgnaadoor", sum := "82588b8242e897e07068b352c56b0726c2a8673c37a9f93da500272f0ce7bcfd", func := "testbench/testbenchlaw54.SignTexts", spec := "signTexts", inPlace := ["internal/bytealg.IndexByteString", "internal/bytealg.IndexString"], named := ["internal/bytealg.MaxLen", "testbench/lexer.keywords"], apart := false, laid := [("testbench/lexer.keywords", laid_testbench_lexer_keywords)], narrowed := true }
def SignTextsUptoSaid : Prop := signTextsUptoRow.holds Tryd.pinned (OpenSpec.upto signTextsSpec)

/-- 'testbenchlaw54.SignSorts', WHERE WHAT IT READS IS OF BULK AT MOST 1048576: true; the input reads as it did. -/
def signSortsUptoRow : OpenClaim := { program := "ytapgahonfifgnaadoor", sum := "82588b8242e897e07068b352c56b0726c2a8673c37a9f93da500272f0ce7bcfd", func := "testbench/testbenchlaw54.SignSorts", spec := "signSorts", inPlace := ["internal/bytealg.IndexByteString", "internal/bytealg.IndexString"], named := ["internal/bytealg.MaxLen", "testbench/lexer.keywords"], apart := false, laid := [("testbench/lexer.keywords", laid_testbench_lexer_keywords)], narrowed := true }
def SignSortsUptoSaid : Prop := signSortsUptoRow.holds Tryd.pinned (OpenSpec.upto signSortsSpec)

/-- 'testbenchlaw54.SignLists', WHERE WHAT IT READS IS OF BULK AT MOST 1048576: true; the input reads as it did. -/
def signListsUptoRow : OpenClaim := { program := "ytapgahonfifgnaadoor", sum := "82588b8242e897e07068b352c56b0726c2a8673c37a9f93da500272f0ce7bcfd", func := "testbench/testbenchlaw54.SignLists", spec := "signLists", inPlace := ["internal/bytealg.IndexByteString", "internal/bytealg.IndexString"], named := ["internal/bytealg.MaxLen", "testbench/lexer.keywords"], apart := false, laid := [("testbench/lexer.keywords", laid_testbench_lexer_keywords)], narrowed := true }
def SignListsUptoSaid : Prop := signListsUptoRow.holds Tryd.pinned (OpenSpec.upto signListsSpec)

/-- 'testbenchlaw54.SignBuckets', WHERE WHAT IT READS IS OF BULK AT MOST 1048576: true; the input reads as it did. -/
def signBucketsUptoRow : OpenClaim := { program := "ytapgahonfifgnaadoor", sum := "82588b8242e897e07068b352c56b0726c2a8673c37a9f93da500272f0ce7bcfd", func := "testbench/testbenchlaw54.SignBuckets", spec := "signBuckets", inPlace := ["internal/bytealg.IndexByteString", "internal/bytealg.IndexString"], named := ["internal/bytealg.MaxLen", "testbench/lexer.keywords"], apart := false, laid := [("testbench/lexer.keywords", laid_testbench_lexer_keywords)], narrowed := true }
def SignBucketsUptoSaid : Prop := signBucketsUptoRow.holds Tryd.pinned (OpenSpec.upto signBucketsSpec)

/-- 'testbenchlaw54.SignNumbers', WHERE WHAT IT READS IS OF BULK AT MOST 1048576: true; the input reads as it did. -/
def signNumbersUptoRow : OpenClaim := { program := "ytapgahonfifgnaadoor", sum := "82588b8242e897e07068b352c56b0726c2a8673c37a9f93da500272f0ce7bcfd", func := "testbench/testbenchlaw54.SignNumbers", spec := "signNumbers", inPlace := ["internal/bytealg.IndexByteString", "internal/bytealg.IndexString"], named := ["internal/bytealg.MaxLen", "testbench/lexer.keywords"], apart := false, laid := [("testbench/lexer.keywords", laid_testbench_lexer_keywords)], narrowed := true }
def SignNumbersUptoSaid : Prop := signNumbersUptoRow.holds Tryd.pinned (OpenSpec.upto signNumbersSpec)

/-- 'testbenchlaw54.SignEquivalent', WHERE WHAT IT READS IS OF BULK AT MOST 1048576: true; the input reads as it did. -/
def signEquivalentUptoRow : OpenClaim := { program := "ytapgahonfifgnaadoor", sum := "82588b8242e897e07068b352c56b0726c2a8673c37a9f93da500272f0ce7bcfd", func := "testbench/testbenchlaw54.SignEquivalent", spec := "signEquivalent", inPlace := ["internal/bytealg.IndexByteString", "internal/bytealg.IndexString"], named := ["internal/bytealg.MaxLen", "testbench/lexer.keywords"], apart := false, laid := [("testbench/lexer.keywords", laid_testbench_lexer_keywords)], narrowed := true }
def SignEquivalentUptoSaid : Prop := signEquivalentUptoRow.holds Tryd.pinned (OpenSpec.upto signEquivalentSpec)

end Rows
end Go.Proofs.YtapgahonfifgnaaDoor
