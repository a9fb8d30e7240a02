/-
  NARROWER THAN 'FOR EVERY INPUT', by the rows' own cells (each row's printed sentence says how): MonitorTransfers: laid · MonitorStable: laid · MonitorSees: laid · MonitorDelays: laid · MonitorCuts: laid · MonitorWaits: laid.
  DERIVED. THE GIVEN ROWS OF THIS SEAT. 6 by the template 'for every input the law returns true; each argument reads behind the call as it read before'; 0 by the template 'total and deterministic' (their statements: YtkbjfoodikoppaaDoorTotals.lean).
  GIVEN WITH THE SEED: the statements are not yours to turn. If you find one false, say at which input.
  Laid BY PROGRAM, IN A SANDBOX (cutbox-rows.mjs): the forced cells as the released guide's own fill.sh prints them over the translation d924c5ecbb540c50… (all of the seat's roots in one cut). By AI agents, Wed Nov 11 2026. No macro, syntax, notation, axiom, sorry.
-/
import Derived.Test.YtkbjfoodikoppaaDoorChecked
import GoSem.Claim
import GoSem.ClaimJoined
import GoSem.ClaimMapViews
import Derived.JoinedTies
import Derived.KernelRfl
namespace Go.Proofs.YtkbjfoodikoppaaDoor
/- THE CELL 'sum', in the pinned program and in every row, IS THE sha256 OF THE DUMP (.gsa) THAT YtkbjfoodikoppaaDoorProg.lean LOADS. Nothing in Lean hashes anything: it is a label: what it is worth is what the hold of that sum in a sandbox is worth. -/
noncomputable def Tryd.pinned : Pinned := { name := "ytkbjfoodikoppaadoor", sum := "d924c5ecbb540c50e07e88dc4a458fcfd6cd68fbfd81be93181e79dd74509858", checked := Tryd.checked }
namespace Rows
def none {H : Type} : Left H := { results := [], args := [] }

/- WHAT THE LISTED PACKAGE-LEVEL VARIABLES READ AS WHEN THE CALL BEGINS. Each datum BY PROGRAM (the guide's laid-datum.mjs) off the statement by which the dump's own 'gosem.cut.vars' lays the variable. In a bare row this is a premise. The card (YtkbjfoodikoppaaDoorCards.lean) ties it to the program's text. -/
def laid_testbench_lexer_keywords {H : Type} : DataW H := .slice [.lit (.string [99, 108, 97, 115, 115]), .lit (.string [101, 120, 116, 101, 110, 100, 115]), .lit (.string [114, 97, 110, 100]), .lit (.string [114, 97, 110, 100, 99]), .lit (.string [115, 116, 97, 116, 101]), .lit (.string [99, 111, 110, 115, 116, 114, 97, 105, 110, 116]), .lit (.string [115, 111, 102, 116]), .lit (.string [100, 105, 115, 116]), .lit (.string [105, 102]), .lit (.string [101, 108, 115, 101]), .lit (.string [101, 97, 99, 104]), .lit (.string [105, 110]), .lit (.string [115, 111, 108, 118, 101]), .lit (.string [98, 101, 102, 111, 114, 101]), .lit (.string [105, 110, 115, 105, 100, 101]), .lit (.string [112, 114, 111, 112, 101, 114, 116, 121]), .lit (.string [115, 101, 113]), .lit (.string [97, 110, 100]), .lit (.string [111, 114]), .lit (.string [110, 111, 116]), .lit (.string [115, 101, 116]), .lit (.string [104, 111, 108, 100]), .lit (.string [112, 108, 97, 105, 110]), .lit (.string [114, 101, 112, 101, 97, 116])] []

/-- 'testbenchlaw37.MonitorTransfers': WHATEVER THE INPUT: true; the input reads as it did. -/
def monitorTransfersSpec : ChangeSpec := { name := "monitorTransfers", fn := fun _ => fun
  | [d1, d2] => { results := [.lit (.bool true)], args := [d1, d2] }
  | _ => none }
def monitorTransfersRow : OpenClaim := { program := "ytkbjfoodikoppaadoor", sum := "d924c5ecbb540c50e07e88dc4a458fcfd6cd68fbfd81be93181e79dd74509858", func := "testbench/testbenchlaw37.MonitorTransfers", spec := "monitorTransfers", inPlace := ["internal/bytealg.IndexByteString", "internal/bytealg.IndexString"], unfollowed := true, recurses := true, named := ["testbench/lexer.keywords", "internal/bytealg.MaxLen"], apart := false, laid := [("testbench/lexer.keywords", laid_testbench_lexer_keywords)] }
def MonitorTransfersSaid : Prop := monitorTransfersRow.holds Tryd.pinned (OpenSpec.ofChange monitorTransfersSpec)

/-- ITS FALSE NEIGHBOUR: 'it returns false'. Refute it at one input. -/
def monitorTransfersWrong : ChangeSpec := { name := "monitorTransfers", fn := fun _ => fun
  | [d1, d2] => { results := [.lit (.bool false)], args := [d1, d2] }
  | _ => none }
def MonitorTransfersWrongFalsely : Prop := monitorTransfersRow.holds Tryd.pinned (OpenSpec.ofChange monitorTransfersWrong)

/-- 'testbenchlaw37.MonitorStable': WHATEVER THE INPUT: true; the input reads as it did. -/
def monitorStableSpec : ChangeSpec := { name := "monitorStable", fn := fun _ => fun
  | [d1, d2, d3] => { results := [.lit (.bool true)], args := [d1, d2, d3] }
  | _ => none }
def monitorStableRow : OpenClaim := { program := "ytkbjfoodikoppaadoor", sum := "d924c5ecbb540c50e07e88dc4a458fcfd6cd68fbfd81be93181e79dd74509858", func := "testbench/testbenchlaw37.MonitorStable", spec := "monitorStable", inPlace := ["internal/bytealg.IndexByteString", "internal/bytealg.IndexString"], unfollowed := true, recurses := true, named := ["testbench/lexer.keywords", "internal/bytealg.MaxLen"], apart := false, laid := [("testbench/lexer.keywords", laid_testbench_lexer_keywords)] }
def MonitorStableSaid : Prop := monitorStableRow.holds Tryd.pinned (OpenSpec.ofChange monitorStableSpec)

/-- ITS FALSE NEIGHBOUR: 'it returns false'. Refute it at one input. -/
def monitorStableWrong : ChangeSpec := { name := "monitorStable", fn := fun _ => fun
  | [d1, d2, d3] => { results := [.lit (.bool false)], args := [d1, d2, d3] }
  | _ => none }
def MonitorStableWrongFalsely : Prop := monitorStableRow.holds Tryd.pinned (OpenSpec.ofChange monitorStableWrong)

/-- 'testbenchlaw37.MonitorSees': WHATEVER THE INPUT: true; the input reads as it did. -/
def monitorSeesSpec : ChangeSpec := { name := "monitorSees", fn := fun _ => fun
  | [d1, d2] => { results := [.lit (.bool true)], args := [d1, d2] }
  | _ => none }
def monitorSeesRow : OpenClaim := { program := "ytkbjfoodikoppaadoor", sum := "d924c5ecbb540c50e07e88dc4a458fcfd6cd68fbfd81be93181e79dd74509858", func := "testbench/testbenchlaw37.MonitorSees", spec := "monitorSees", inPlace := ["internal/bytealg.IndexByteString", "internal/bytealg.IndexString"], unfollowed := true, recurses := true, named := ["testbench/lexer.keywords", "internal/bytealg.MaxLen"], apart := false, laid := [("testbench/lexer.keywords", laid_testbench_lexer_keywords)] }
def MonitorSeesSaid : Prop := monitorSeesRow.holds Tryd.pinned (OpenSpec.ofChange monitorSeesSpec)

/-- ITS FALSE NEIGHBOUR: 'it returns false'. Refute it at one input. -/
def monitorSeesWrong : ChangeSpec := { name := "monitorSees", fn := fun _ => fun
  | [d1, d2] => { results := [.lit (.bool false)], args := [d1, d2] }
  | _ => none }
def MonitorSeesWrongFalsely : Prop := monitorSeesRow.holds Tryd.pinned (OpenSpec.ofChange monitorSeesWrong)

/-- 'testbenchlaw37.MonitorDelays': WHATEVER THE INPUT: true; the input reads as it did. -/
def monitorDelaysSpec : ChangeSpec := { name := "monitorDelays", fn := fun _ => fun
  | [d1, d2, d3] => { results := [.lit (.bool true)], args := [d1, d2, d3] }
  | _ => none }
def monitorDelaysRow : OpenClaim := { program := "ytkbjfoodikoppaadoor", sum := "d924c5ecbb540c50e07e88dc4a458fcfd6cd68fbfd81be93181e79dd74509858", func := "testbench/testbenchlaw37.MonitorDelays", spec := "monitorDelays", inPlace := ["internal/bytealg.IndexByteString", "internal/bytealg.IndexString"], unfollowed := true, recurses := true, named := ["testbench/lexer.keywords", "internal/bytealg.MaxLen"], apart := false, laid := [("testbench/lexer.keywords", laid_testbench_lexer_keywords)] }
def MonitorDelaysSaid : Prop := monitorDelaysRow.holds Tryd.pinned (OpenSpec.ofChange monitorDelaysSpec)

/-- ITS FALSE NEIGHBOUR: 'it returns false'. Refute it at one input. -/
def monitorDelaysWrong : ChangeSpec := { name := "monitorDelays", fn := fun _ => fun
  | [d1, d2, d3] => { results := [.lit (.bool false)], args := [d1, d2, d3] }
  | _ => none }
def MonitorDelaysWrongFalsely : Prop := monitorDelaysRow.holds Tryd.pinned (OpenSpec.ofChange monitorDelaysWrong)

/-- 'testbenchlaw37.MonitorCuts': WHATEVER THE INPUT: true; the input reads as it did. -/
def monitorCutsSpec : ChangeSpec := { name := "monitorCuts", fn := fun _ => fun
  | [d1, d2, d3] => { results := [.lit (.bool true)], args := [d1, d2, d3] }
  | _ => none }
def monitorCutsRow : OpenClaim := { program := "ytkbjfoodikoppaadoor", sum := "d924c5ecbb540c50e07e88dc4a458fcfd6cd68fbfd81be93181e79dd74509858", func := "testbench/testbenchlaw37.MonitorCuts", spec := "monitorCuts", inPlace := ["internal/bytealg.IndexByteString", "internal/bytealg.IndexString"], unfollowed := true, recurses := true, named := ["testbench/lexer.keywords", "internal/bytealg.MaxLen"], apart := false, laid := [("testbench/lexer.keywords", laid_testbench_lexer_keywords)] }
def MonitorCutsSaid : Prop := monitorCutsRow.holds Tryd.pinned (OpenSpec.ofChange monitorCutsSpec)

/-- ITS FALSE NEIGHBOUR: 'it returns false'. Refute it at one input. -/
def monitorCutsWrong : ChangeSpec := { name := "monitorCuts", fn := fun _ => fun
  | [d1, d2, d3] => { results := [.lit (.bool false)], args := [d1, d2, d3] }
  | _ => none }
def MonitorCutsWrongFalsely : Prop := monitorCutsRow.holds Tryd.pinned (OpenSpec.ofChange monitorCutsWrong)

/-- 'testbenchlaw37.MonitorWaits': WHATEVER THE INPUT: true; the input reads as it did. -/
def monitorWaitsSpec : ChangeSpec := { name := "monitorWaits", fn := fun _ => fun
  | [d1, d2] => { results := [.lit (.bool true)], args := [d1, d2] }
  | _ => none }
def monitorWaitsRow : OpenClaim := { program := "ytkbjfoodikoppaadoor", sum := "d924c5ecbb540c50e07e88dc4a458fcfd6cd68fbfd81be93181e79dd74509858", func := "testbench/testbenchlaw37.MonitorWaits", spec := "monitorWaits", inPlace := ["internal/bytealg.IndexByteString", "internal/bytealg.IndexString"], unfollowed := true, recurses := true, named := ["testbench/lexer.keywords", "internal/bytealg.MaxLen"], apart := false, laid := [("testbench/lexer.keywords", laid_testbench_lexer_keywords)] }
def MonitorWaitsSaid : Prop := monitorWaitsRow.holds Tryd.pinned (OpenSpec.ofChange monitorWaitsSpec)

/-- ITS FALSE NEIGHBOUR: 'it returns false'. Refute it at one input. -/
def monitorWaitsWrong : ChangeSpec := { name := "monitorWaits", fn := fun _ => fun
  | [d1, d2] => { results := [.lit (.bool false)], args := [d1, d2] }
  | _ => none }
def MonitorWaitsWrongFalsely : Prop := monitorWaitsRow.holds Tryd.pinned (OpenSpec.ofChange monitorWaitsWrong)

/- THE SECOND FORM. 'bulk': how many values and letters a reading holds, each counted each time it is reached (what is shared counts as often as it is met; a slice's spare places count too). A statement '..UptoSaid' is the law's where the arguments, and the package variables that the reading takes, are together of bulk at most 1048576: NARROWER than '..Said'. Prove '..Said' where nothing that the law and all that it calls make is longer than what came in: it says more and counts as full. Else prove '..UptoSaid'. A law counts once. -/
mutual
def uptoBulk {H : Type} : DataW H → Nat
  | .lit (.string bytes) => bytes.length + 1
  | .lit _ => 1
  | .nil => 1
  | .ptr d => uptoBulk d + 1
  | .slice elems spare => uptoBulkAll elems + uptoBulkAll spare + 1
  | .agg parts => uptoBulkAll parts + 1
  | .iface _ d => uptoBulk d + 1
  | .map entries => uptoBulkEntries entries + 1
  | .held _ => 1
def uptoBulkAll {H : Type} : List (DataW H) → Nat
  | [] => 0
  | d :: r => uptoBulk d + uptoBulkAll r
def uptoBulkEntries {H : Type} : List (Lit × DataW H) → Nat
  | [] => 0
  | x :: r => uptoBulkEntry x + uptoBulkEntries r
def uptoBulkEntry {H : Type} : Lit × DataW H → Nat
  | (.string bytes, d) => bytes.length + uptoBulk d + 1
  | (_, d) => uptoBulk d + 1
 end
def uptoSmall : (H : Type) → List (DataW H) → Bool := fun _ ds => decide (uptoBulkAll ds ≤ 1048576)
def OpenSpec.upto (s : _root_.Go.ChangeSpec) : _root_.Go.OpenSpec := { _root_.Go.OpenSpec.ofChange s with cond := some uptoSmall }

/-- 'testbenchlaw37.MonitorTransfers', WHERE WHAT IT READS IS OF BULK AT MOST 1048576: true; the input reads as it did. -/
def monitorTransfersUptoRow : OpenClaim := { program := "ytkbjfoodikoppaadoor", sum := "d924c5ecbb540c50e07e88dc4a458fcfd6cd68fbfd81be93181e79dd74509858", func := "testbench/testbenchlaw37.MonitorTransfers", spec := "monitorTransfers", inPlace := ["internal/bytealg.IndexByteString", "internal/bytealg.IndexString"], unfollowed := true, recurses := true, named := ["testbench/lexer.keywords", "internal/bytealg.MaxLen"], apart := false, laid := [("testbench/lexer.keywords", laid_testbench_lexer_keywords)], narrowed := true }
def MonitorTransfersUptoSaid : Prop := monitorTransfersUptoRow.holds Tryd.pinned (OpenSpec.upto monitorTransfersSpec)

/-- 'testbenchlaw37.MonitorStable', WHERE WHAT IT READS IS OF BULK AT MOST 1048576: true; the input reads as it did. -/
def monitorStableUptoRow : OpenClaim := { program := "ytkbjfoodikoppaadoor", sum := "d924c5ecbb540c50e07e88dc4a458fcfd6cd68fbfd81be93181e79dd74509858", func := "testbench/testbenchlaw37.MonitorStable", spec := "monitorStable", inPlace := ["internal/bytealg.IndexByteString", "internal/bytealg.IndexString"], unfollowed := true, recurses := true, named := ["testbench/lexer.keywords", "internal/bytealg.MaxLen"], apart := false, laid := [("testbench/lexer.keywords", laid_testbench_lexer_keywords)], narrowed := true }
def MonitorStableUptoSaid : Prop := monitorStableUptoRow.holds Tryd.pinned (OpenSpec.upto monitorStableSpec)

/-- 'testbenchlaw37.MonitorSees', WHERE WHAT IT READS IS OF BULK AT MOST 1048576: true; the input reads as it did. -/
def monitorSeesUptoRow : OpenClaim := { program := "ytkbjfoodikoppaadoor", sum := "d924c5ecbb540c50e07e88dc4a458fcfd6cd68fbfd81be93181e79dd74509858", func := "testbench/testbenchlaw37.MonitorSees", spec := "monitorSees", inPlace := ["internal/bytealg.IndexByteString", "internal/bytealg.IndexString"], unfollowed := true, recurses := true, named := ["testbench/lexer.keywords", "internal/bytealg.MaxLen"], apart := false, laid := [("testbench/lexer.keywords", laid_testbench_lexer_keywords)], narrowed := true }
def MonitorSeesUptoSaid : Prop := monitorSeesUptoRow.holds Tryd.pinned (OpenSpec.upto monitorSeesSpec)

/-- 'testbenchlaw37.MonitorDelays', WHERE WHAT IT READS IS OF BULK AT MOST 1048576: true; the input reads as it did. -/
def monitorDelaysUptoRow : OpenClaim := { program := "ytkbjfoodikoppaadoor", sum := "d924c5ecbb540c50e07e88dc4a458fcfd6cd68fbfd81be93181e79dd74509858", func := "testbench/testbenchlaw37.MonitorDelays", spec := "monitorDelays", inPlace := ["internal/bytealg.IndexByteString", "internal/bytealg.IndexString"], unfollowed := true, recurses := true, named := ["testbench/lexer.keywords", "internal/bytealg.MaxLen"], apart := false, laid := [("testbench/lexer.keywords", laid_testbench_lexer_keywords)], narrowed := true }
def MonitorDelaysUptoSaid : Prop := monitorDelaysUptoRow.holds Tryd.pinned (OpenSpec.upto monitorDelaysSpec)

/-- 'testbenchlaw37.MonitorCuts', WHERE WHAT IT READS IS OF BULK AT MOST 1048576: true; the input reads as it did. -/
def monitorCutsUptoRow : OpenClaim := { program := "ytkbjfoodikoppaadoor", sum := "d924c5ecbb540c50e07e88dc4a458fcfd6cd68fbfd81be93181e79dd74509858", func := "testbench/testbenchlaw37.MonitorCuts", spec := "monitorCuts", inPlace := ["internal/bytealg.IndexByteString", "internal/bytealg.IndexString"], unfollowed := true, recurses := true, named := ["testbench/lexer.keywords", "internal/bytealg.MaxLen"], apart := false, laid := [("testbench/lexer.keywords", laid_testbench_lexer_keywords)], narrowed := true }
def MonitorCutsUptoSaid : Prop := monitorCutsUptoRow.holds Tryd.pinned (OpenSpec.upto monitorCutsSpec)

/-- 'testbenchlaw37.MonitorWaits', WHERE WHAT IT READS IS OF BULK AT MOST 1048576: true; the input reads as it did. -/
def monitorWaitsUptoRow : OpenClaim := { program := "ytkbjfoodikoppaadoor", sum := "d924c5ecbb540c50e07e88dc4a458fcfd6cd68fbfd81be93181e79dd74509858", func := "testbench/testbenchlaw37.MonitorWaits", spec := "monitorWaits", inPlace := ["internal/bytealg.IndexByteString", "internal/bytealg.IndexString"], unfollowed := true, recurses := true, named := ["testbench/lexer.keywords", "internal/bytealg.MaxLen"], apart := false, laid := [("testbench/lexer.keywords", laid_testbench_lexer_keywords)], narrowed := true }
def MonitorWaitsUptoSaid : Prop := monitorWaitsUptoRow.holds Tryd.pinned (OpenSpec.upto monitorWaitsSpec)

end Rows
end Go.Proofs.YtkbjfoodikoppaaDoor
