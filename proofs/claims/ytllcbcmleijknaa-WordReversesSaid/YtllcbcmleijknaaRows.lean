/-
  No cell of these rows narrows 'for every input' (looked for: loops, veiled, ifaces, maps, wideKeys, modest, calm, conditions, laid).
  DERIVED. THE GIVEN ROWS OF THIS SEAT. 7 by the template 'for every input the law returns true; each argument reads behind the call as it read before'; 0 by the template 'total and deterministic' (their statements: YtllcbcmleijknaaTotals.lean).
  GIVEN WITH THE SEED: the statements are not yours to turn. If you find one false, say at which input.
  Laid BY PROGRAM, IN A SANDBOX (cutbox-rows.mjs): the forced cells as the released guide's own fill.sh prints them over the translation a6d07a3b116548d0… (all of the seat's roots in one cut). By AI agents, Wed Nov 11 2026. No macro, syntax, notation, axiom, sorry.
-/
import Derived.Test.YtllcbcmleijknaaChecked
import GoSem.Claim
import GoSem.ClaimJoined
import GoSem.ClaimMapViews
import Derived.JoinedTies
import Derived.KernelRfl
namespace Go.Proofs.Ytllcbcmleijknaa
/- THE CELL 'sum', in the pinned program and in every row, IS THE sha256 OF THE DUMP (.gsa) THAT YtllcbcmleijknaaProg.lean LOADS. Nothing in Lean hashes anything: it is a label: what it is worth is what the hold of that sum in a sandbox is worth. -/
noncomputable def Try.pinned : Pinned := { name := "ytllcbcmleijknaa", sum := "a6d07a3b116548d02de5741553d938a5242cef9490fb6278b63f6a94a155949f", checked := Try.checked }
namespace Rows
def none {H : Type} : Left H := { results := [], args := [] }

/-- 'testbenchlaw02.WordWraps': WHATEVER THE INPUT: true; the input reads as it did. -/
def wordWrapsSpec : ChangeSpec := { name := "wordWraps", fn := fun _ => fun
  | [d] => { results := [.lit (.bool true)], args := [d] }
  | _ => none }
def wordWrapsRow : OpenClaim := { program := "ytllcbcmleijknaa", sum := "a6d07a3b116548d02de5741553d938a5242cef9490fb6278b63f6a94a155949f", func := "testbench/testbenchlaw02.WordWraps", spec := "wordWraps", unfollowed := true, recurses := true, apart := false }
def WordWrapsSaid : Prop := wordWrapsRow.holds Try.pinned (OpenSpec.ofChange wordWrapsSpec)

/-- ITS FALSE NEIGHBOUR: 'it returns false'. Refute it at one input. -/
def wordWrapsWrong : ChangeSpec := { name := "wordWraps", fn := fun _ => fun
  | [d] => { results := [.lit (.bool false)], args := [d] }
  | _ => none }
def WordWrapsWrongFalsely : Prop := wordWrapsRow.holds Try.pinned (OpenSpec.ofChange wordWrapsWrong)

/-- 'testbenchlaw02.WordFits': WHATEVER THE INPUT: true; the input reads as it did. -/
def wordFitsSpec : ChangeSpec := { name := "wordFits", fn := fun _ => fun
  | [d1, d2] => { results := [.lit (.bool true)], args := [d1, d2] }
  | _ => none }
def wordFitsRow : OpenClaim := { program := "ytllcbcmleijknaa", sum := "a6d07a3b116548d02de5741553d938a5242cef9490fb6278b63f6a94a155949f", func := "testbench/testbenchlaw02.WordFits", spec := "wordFits", unfollowed := true, recurses := true, apart := false }
def WordFitsSaid : Prop := wordFitsRow.holds Try.pinned (OpenSpec.ofChange wordFitsSpec)

/-- ITS FALSE NEIGHBOUR: 'it returns false'. Refute it at one input. -/
def wordFitsWrong : ChangeSpec := { name := "wordFits", fn := fun _ => fun
  | [d1, d2] => { results := [.lit (.bool false)], args := [d1, d2] }
  | _ => none }
def WordFitsWrongFalsely : Prop := wordFitsRow.holds Try.pinned (OpenSpec.ofChange wordFitsWrong)

/-- 'testbenchlaw02.WordReverses': WHATEVER THE INPUT: true; the input reads as it did. -/
def wordReversesSpec : ChangeSpec := { name := "wordReverses", fn := fun _ => fun
  | [d1, d2] => { results := [.lit (.bool true)], args := [d1, d2] }
  | _ => none }
def wordReversesRow : OpenClaim := { program := "ytllcbcmleijknaa", sum := "a6d07a3b116548d02de5741553d938a5242cef9490fb6278b63f6a94a155949f", func := "testbench/testbenchlaw02.WordReverses", spec := "wordReverses", unfollowed := true, recurses := true, apart := false }
def WordReversesSaid : Prop := wordReversesRow.holds Try.pinned (OpenSpec.ofChange wordReversesSpec)

/-- ITS FALSE NEIGHBOUR: 'it returns false'. Refute it at one input. -/
def wordReversesWrong : ChangeSpec := { name := "wordReverses", fn := fun _ => fun
  | [d1, d2] => { results := [.lit (.bool false)], args := [d1, d2] }
  | _ => none }
def WordReversesWrongFalsely : Prop := wordReversesRow.holds Try.pinned (OpenSpec.ofChange wordReversesWrong)

/-- 'testbenchlaw02.WordShifts': WHATEVER THE INPUT: true; the input reads as it did. -/
def wordShiftsSpec : ChangeSpec := { name := "wordShifts", fn := fun _ => fun
  | [d1, d2] => { results := [.lit (.bool true)], args := [d1, d2] }
  | _ => none }
def wordShiftsRow : OpenClaim := { program := "ytllcbcmleijknaa", sum := "a6d07a3b116548d02de5741553d938a5242cef9490fb6278b63f6a94a155949f", func := "testbench/testbenchlaw02.WordShifts", spec := "wordShifts", unfollowed := true, recurses := true, apart := false }
def WordShiftsSaid : Prop := wordShiftsRow.holds Try.pinned (OpenSpec.ofChange wordShiftsSpec)

/-- ITS FALSE NEIGHBOUR: 'it returns false'. Refute it at one input. -/
def wordShiftsWrong : ChangeSpec := { name := "wordShifts", fn := fun _ => fun
  | [d1, d2] => { results := [.lit (.bool false)], args := [d1, d2] }
  | _ => none }
def WordShiftsWrongFalsely : Prop := wordShiftsRow.holds Try.pinned (OpenSpec.ofChange wordShiftsWrong)

/-- 'testbenchlaw02.WordBits': WHATEVER THE INPUT: true; the input reads as it did. -/
def wordBitsSpec : ChangeSpec := { name := "wordBits", fn := fun _ => fun
  | [d1, d2] => { results := [.lit (.bool true)], args := [d1, d2] }
  | _ => none }
def wordBitsRow : OpenClaim := { program := "ytllcbcmleijknaa", sum := "a6d07a3b116548d02de5741553d938a5242cef9490fb6278b63f6a94a155949f", func := "testbench/testbenchlaw02.WordBits", spec := "wordBits", unfollowed := true, recurses := true, apart := false }
def WordBitsSaid : Prop := wordBitsRow.holds Try.pinned (OpenSpec.ofChange wordBitsSpec)

/-- ITS FALSE NEIGHBOUR: 'it returns false'. Refute it at one input. -/
def wordBitsWrong : ChangeSpec := { name := "wordBits", fn := fun _ => fun
  | [d1, d2] => { results := [.lit (.bool false)], args := [d1, d2] }
  | _ => none }
def WordBitsWrongFalsely : Prop := wordBitsRow.holds Try.pinned (OpenSpec.ofChange wordBitsWrong)

/-- 'testbenchlaw02.WordArithmetic': WHATEVER THE INPUT: true; the input reads as it did. -/
def wordArithmeticSpec : ChangeSpec := { name := "wordArithmetic", fn := fun _ => fun
  | [d1, d2] => { results := [.lit (.bool true)], args := [d1, d2] }
  | _ => none }
def wordArithmeticRow : OpenClaim := { program := "ytllcbcmleijknaa", sum := "a6d07a3b116548d02de5741553d938a5242cef9490fb6278b63f6a94a155949f", func := "testbench/testbenchlaw02.WordArithmetic", spec := "wordArithmetic", unfollowed := true, recurses := true, apart := false }
def WordArithmeticSaid : Prop := wordArithmeticRow.holds Try.pinned (OpenSpec.ofChange wordArithmeticSpec)

/-- ITS FALSE NEIGHBOUR: 'it returns false'. Refute it at one input. -/
def wordArithmeticWrong : ChangeSpec := { name := "wordArithmetic", fn := fun _ => fun
  | [d1, d2] => { results := [.lit (.bool false)], args := [d1, d2] }
  | _ => none }
def WordArithmeticWrongFalsely : Prop := wordArithmeticRow.holds Try.pinned (OpenSpec.ofChange wordArithmeticWrong)

/-- 'testbenchlaw02.WordRing': WHATEVER THE INPUT: true; the input reads as it did. -/
def wordRingSpec : ChangeSpec := { name := "wordRing", fn := fun _ => fun
  | [d1, d2, d3] => { results := [.lit (.bool true)], args := [d1, d2, d3] }
  | _ => none }
def wordRingRow : OpenClaim := { program := "ytllcbcmleijknaa", sum := "a6d07a3b116548d02de5741553d938a5242cef9490fb6278b63f6a94a155949f", func := "testbench/testbenchlaw02.WordRing", spec := "wordRing", unfollowed := true, recurses := true, apart := false }
def WordRingSaid : Prop := wordRingRow.holds Try.pinned (OpenSpec.ofChange wordRingSpec)

/-- ITS FALSE NEIGHBOUR: 'it returns false'. Refute it at one input. -/
def wordRingWrong : ChangeSpec := { name := "wordRing", fn := fun _ => fun
  | [d1, d2, d3] => { results := [.lit (.bool false)], args := [d1, d2, d3] }
  | _ => none }
def WordRingWrongFalsely : Prop := wordRingRow.holds Try.pinned (OpenSpec.ofChange wordRingWrong)

/- THE SECOND FORM. 'bulk': how many values and letters a reading holds, each counted each time it is reached (what is shared counts as often as it is met; a slice's spare places count too). A statement '..UptoSaid' is the law's where the arguments, and the package variables that the reading takes, are together of bulk at most 1048576: NARROWER than '..Said'. Prove '..Said' where nothing that the law and all that it calls make is longer than what came in: it says more and counts as full. Else prove '..UptoSaid'. A law counts once. -/
mutual
def uptoBulk {H : Type} : DataW H → Nat
  | .lit (.string bytes) => bytes.length + 1
  | .lit _ => 1
  | .nil => 1
  | .ptr d => uptoBulk d + 1
  | .slice elems spare => uptoBulkAll elems + uptoBulkAll spare + 1
  | .agg parts => uptoBulkAll parts + 1
  | .iface _ d => uptoBulk d + 1
  | .map entries => uptoBulkEntries entries + 1
  | .held _ => 1
def uptoBulkAll {H : Type} : List (DataW H) → Nat
  | [] => 0
  | d :: r => uptoBulk d + uptoBulkAll r
def uptoBulkEntries {H : Type} : List (Lit × DataW H) → Nat
  | [] => 0
  | x :: r => uptoBulkEntry x + uptoBulkEntries r
def uptoBulkEntry {H : Type} : Lit × DataW H → Nat
  | (.string bytes, d) => bytes.length + uptoBulk d + 1
  | (_, d) => uptoBulk d + 1
 end
def uptoSmall : (H : Type) → List (DataW H) → Bool := fun _ ds => decide (uptoBulkAll ds ≤ 1048576)
def OpenSpec.upto (s : _root_.Go.ChangeSpec) : _root_.Go.OpenSpec := { _root_.Go.OpenSpec.ofChange s with cond := some uptoSmall }

/-- 'testbenchlaw02.WordWraps', WHERE WHAT IT READS IS OF BULK AT MOST 1048576: true; the input reads as it did. -/
def wordWrapsUptoRow : OpenClaim := { program := "ytllcbcmleijknaa", sum := "a6d07a3b116548d02de5741553d938a5242cef9490fb6278b63f6a94a155949f", func := "testbench/testbenchlaw02.WordWraps", spec := "wordWraps", unfollowed := true, recurses := true, apart := false, narrowed := true }
def WordWrapsUptoSaid : Prop := wordWrapsUptoRow.holds Try.pinned (OpenSpec.upto wordWrapsSpec)

/-- 'testbenchlaw02.WordFits', WHERE WHAT IT READS IS OF BULK AT MOST 1048576: true; the input reads as it did. -/
def wordFitsUptoRow : OpenClaim := { program := "ytllcbcmleijknaa", sum := "a6d07a3b116548d02de5741553d938a5242cef9490fb6278b63f6a94a155949f", func := "testbench/testbenchlaw02.WordFits", spec := "wordFits", unfollowed := true, recurses := true, apart := false, narrowed := true }
def WordFitsUptoSaid : Prop := wordFitsUptoRow.holds Try.pinned (OpenSpec.upto wordFitsSpec)

/-- 'testbenchlaw02.WordReverses', WHERE WHAT IT READS IS OF BULK AT MOST 1048576: true; the input reads as it did. -/
def wordReversesUptoRow : OpenClaim := { program := "ytllcbcmleijknaa", sum := "a6d07a3b116548d02de5741553d938a5242cef9490fb6278b63f6a94a155949f", func := "testbench/testbenchlaw02.WordReverses", spec := "wordReverses", unfollowed := true, recurses := true, apart := false, narrowed := true }
def WordReversesUptoSaid : Prop := wordReversesUptoRow.holds Try.pinned (OpenSpec.upto wordReversesSpec)

/-- 'testbenchlaw02.WordShifts', WHERE WHAT IT READS IS OF BULK AT MOST 1048576: true; the input reads as it did. -/
def wordShiftsUptoRow : OpenClaim := { program := "ytllcbcmleijknaa", sum := "a6d07a3b116548d02de5741553d938a5242cef9490fb6278b63f6a94a155949f", func := "testbench/testbenchlaw02.WordShifts", spec := "wordShifts", unfollowed := true, recurses := true, apart := false, narrowed := true }
def WordShiftsUptoSaid : Prop := wordShiftsUptoRow.holds Try.pinned (OpenSpec.upto wordShiftsSpec)

/-- 'testbenchlaw02.WordBits', WHERE WHAT IT READS IS OF BULK AT MOST 1048576: true; the input reads as it did. -/
def wordBitsUptoRow : OpenClaim := { program := "ytllcbcmleijknaa", sum := "a6d07a3b116548d02de5741553d938a5242cef9490fb6278b63f6a94a155949f", func := "testbench/testbenchlaw02.WordBits", spec := "wordBits", unfollowed := true, recurses := true, apart := false, narrowed := true }
def WordBitsUptoSaid : Prop := wordBitsUptoRow.holds Try.pinned (OpenSpec.upto wordBitsSpec)

/-- 'testbenchlaw02.WordArithmetic', WHERE WHAT IT READS IS OF BULK AT MOST 1048576: true; the input reads as it did. -/
def wordArithmeticUptoRow : OpenClaim := { program := "ytllcbcmleijknaa", sum := "a6d07a3b116548d02de5741553d938a5242cef9490fb6278b63f6a94a155949f", func := "testbench/testbenchlaw02.WordArithmetic", spec := "wordArithmetic", unfollowed := true, recurses := true, apart := false, narrowed := true }
def WordArithmeticUptoSaid : Prop := wordArithmeticUptoRow.holds Try.pinned (OpenSpec.upto wordArithmeticSpec)

/-- 'testbenchlaw02.WordRing', WHERE WHAT IT READS IS OF BULK AT MOST 1048576: true; the input reads as it did. -/
def wordRingUptoRow : OpenClaim := { program := "ytllcbcmleijknaa", sum := "a6d07a3b116548d02de5741553d938a5242cef9490fb6278b63f6a94a155949f", func := "testbench/testbenchlaw02.WordRing", spec := "wordRing", unfollowed := true, recurses := true, apart := false, narrowed := true }
def WordRingUptoSaid : Prop := wordRingUptoRow.holds Try.pinned (OpenSpec.upto wordRingSpec)

end Rows
end Go.Proofs.Ytllcbcmleijknaa
