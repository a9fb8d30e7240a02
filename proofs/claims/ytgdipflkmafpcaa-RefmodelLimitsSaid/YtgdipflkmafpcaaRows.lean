/-
  No cell of these rows narrows 'for every input' (looked for: loops, veiled, ifaces, maps, wideKeys, modest, calm, conditions, laid).
  DERIVED. THE GIVEN ROWS OF THIS SEAT. 7 by the template 'for every input the law returns true; each argument reads behind the call as it read before'; 0 by the template 'total and deterministic' (their statements: YtgdipflkmafpcaaTotals.lean).
  GIVEN WITH THE SEED: the statements are not yours to turn. If you find one false, say at which input.
  Laid BY PROGRAM, IN A SANDBOX (cutbox-rows.mjs): the forced cells as the released guide's own fill.sh prints them over the translation 167ed8166bba19cd… (all of the seat's roots in one cut). By AI agents, Wed Nov 11 2026. No macro, syntax, notation, axiom, sorry.
-/
import Derived.Test.YtgdipflkmafpcaaChecked
import GoSem.Claim
import GoSem.ClaimJoined
import GoSem.ClaimMapViews
import Derived.JoinedTies
import Derived.KernelRfl
namespace Go.Proofs.Ytgdipflkmafpcaa
/- THE CELL 'sum', in the pinned program and in every row, IS THE sha256 OF THE DUMP (.gsa) THAT YtgdipflkmafpcaaProg.lean LOADS. Nothing in Lean hashes anything: it is a label: what it is worth is what the hold of that sum in a sandbox is worth. -/
noncomputable def Try.pinned : Pinned := { name := "ytgdipflkmafpcaa", sum := "167ed8166bba19cd5e7174d71ba35fc4083dea00ad35a9a6dd93a0b0659a6816", checked := Try.checked }
namespace Rows
def none {H : Type} : Left H := { results := [], args := [] }

/-- 'testbenchlaw38.RefmodelNames': WHATEVER THE INPUT: true; the input reads as it did. -/
def refmodelNamesSpec : ChangeSpec := { name := "refmodelNames", fn := fun _ => fun
  | [d] => { results := [.lit (.bool true)], args := [d] }
  | _ => none }
def refmodelNamesRow : OpenClaim := { program := "ytgdipflkmafpcaa", sum := "167ed8166bba19cd5e7174d71ba35fc4083dea00ad35a9a6dd93a0b0659a6816", func := "testbench/testbenchlaw38.RefmodelNames", spec := "refmodelNames", unfollowed := true, recurses := true, apart := false }
def RefmodelNamesSaid : Prop := refmodelNamesRow.holds Try.pinned (OpenSpec.ofChange refmodelNamesSpec)

/-- ITS FALSE NEIGHBOUR: 'it returns false'. Refute it at one input. -/
def refmodelNamesWrong : ChangeSpec := { name := "refmodelNames", fn := fun _ => fun
  | [d] => { results := [.lit (.bool false)], args := [d] }
  | _ => none }
def RefmodelNamesWrongFalsely : Prop := refmodelNamesRow.holds Try.pinned (OpenSpec.ofChange refmodelNamesWrong)

/-- 'testbenchlaw38.RefmodelExpects': WHATEVER THE INPUT: true; the input reads as it did. -/
def refmodelExpectsSpec : ChangeSpec := { name := "refmodelExpects", fn := fun _ => fun
  | [d1, d2] => { results := [.lit (.bool true)], args := [d1, d2] }
  | _ => none }
def refmodelExpectsRow : OpenClaim := { program := "ytgdipflkmafpcaa", sum := "167ed8166bba19cd5e7174d71ba35fc4083dea00ad35a9a6dd93a0b0659a6816", func := "testbench/testbenchlaw38.RefmodelExpects", spec := "refmodelExpects", unfollowed := true, recurses := true, apart := false }
def RefmodelExpectsSaid : Prop := refmodelExpectsRow.holds Try.pinned (OpenSpec.ofChange refmodelExpectsSpec)

/-- ITS FALSE NEIGHBOUR: 'it returns false'. Refute it at one input. -/
def refmodelExpectsWrong : ChangeSpec := { name := "refmodelExpects", fn := fun _ => fun
  | [d1, d2] => { results := [.lit (.bool false)], args := [d1, d2] }
  | _ => none }
def RefmodelExpectsWrongFalsely : Prop := refmodelExpectsRow.holds Try.pinned (OpenSpec.ofChange refmodelExpectsWrong)

/-- 'testbenchlaw38.RefmodelLocal': WHATEVER THE INPUT: true; the input reads as it did. -/
def refmodelLocalSpec : ChangeSpec := { name := "refmodelLocal", fn := fun _ => fun
  | [d1, d2, d3] => { results := [.lit (.bool true)], args := [d1, d2, d3] }
  | _ => none }
def refmodelLocalRow : OpenClaim := { program := "ytgdipflkmafpcaa", sum := "167ed8166bba19cd5e7174d71ba35fc4083dea00ad35a9a6dd93a0b0659a6816", func := "testbench/testbenchlaw38.RefmodelLocal", spec := "refmodelLocal", unfollowed := true, recurses := true, apart := false }
def RefmodelLocalSaid : Prop := refmodelLocalRow.holds Try.pinned (OpenSpec.ofChange refmodelLocalSpec)

/-- ITS FALSE NEIGHBOUR: 'it returns false'. Refute it at one input. -/
def refmodelLocalWrong : ChangeSpec := { name := "refmodelLocal", fn := fun _ => fun
  | [d1, d2, d3] => { results := [.lit (.bool false)], args := [d1, d2, d3] }
  | _ => none }
def RefmodelLocalWrongFalsely : Prop := refmodelLocalRow.holds Try.pinned (OpenSpec.ofChange refmodelLocalWrong)

/-- 'testbenchlaw38.RefmodelBounds': WHATEVER THE INPUT: true; the input reads as it did. -/
def refmodelBoundsSpec : ChangeSpec := { name := "refmodelBounds", fn := fun _ => fun
  | [d1, d2] => { results := [.lit (.bool true)], args := [d1, d2] }
  | _ => none }
def refmodelBoundsRow : OpenClaim := { program := "ytgdipflkmafpcaa", sum := "167ed8166bba19cd5e7174d71ba35fc4083dea00ad35a9a6dd93a0b0659a6816", func := "testbench/testbenchlaw38.RefmodelBounds", spec := "refmodelBounds", unfollowed := true, recurses := true, apart := false }
def RefmodelBoundsSaid : Prop := refmodelBoundsRow.holds Try.pinned (OpenSpec.ofChange refmodelBoundsSpec)

/-- ITS FALSE NEIGHBOUR: 'it returns false'. Refute it at one input. -/
def refmodelBoundsWrong : ChangeSpec := { name := "refmodelBounds", fn := fun _ => fun
  | [d1, d2] => { results := [.lit (.bool false)], args := [d1, d2] }
  | _ => none }
def RefmodelBoundsWrongFalsely : Prop := refmodelBoundsRow.holds Try.pinned (OpenSpec.ofChange refmodelBoundsWrong)

/-- 'testbenchlaw38.RefmodelParts': WHATEVER THE INPUT: true; the input reads as it did. -/
def refmodelPartsSpec : ChangeSpec := { name := "refmodelParts", fn := fun _ => fun
  | [d1, d2, d3] => { results := [.lit (.bool true)], args := [d1, d2, d3] }
  | _ => none }
def refmodelPartsRow : OpenClaim := { program := "ytgdipflkmafpcaa", sum := "167ed8166bba19cd5e7174d71ba35fc4083dea00ad35a9a6dd93a0b0659a6816", func := "testbench/testbenchlaw38.RefmodelParts", spec := "refmodelParts", unfollowed := true, recurses := true, apart := false }
def RefmodelPartsSaid : Prop := refmodelPartsRow.holds Try.pinned (OpenSpec.ofChange refmodelPartsSpec)

/-- ITS FALSE NEIGHBOUR: 'it returns false'. Refute it at one input. -/
def refmodelPartsWrong : ChangeSpec := { name := "refmodelParts", fn := fun _ => fun
  | [d1, d2, d3] => { results := [.lit (.bool false)], args := [d1, d2, d3] }
  | _ => none }
def RefmodelPartsWrongFalsely : Prop := refmodelPartsRow.holds Try.pinned (OpenSpec.ofChange refmodelPartsWrong)

/-- 'testbenchlaw38.RefmodelPrefix': WHATEVER THE INPUT: true; the input reads as it did. -/
def refmodelPrefixSpec : ChangeSpec := { name := "refmodelPrefix", fn := fun _ => fun
  | [d1, d2, d3] => { results := [.lit (.bool true)], args := [d1, d2, d3] }
  | _ => none }
def refmodelPrefixRow : OpenClaim := { program := "ytgdipflkmafpcaa", sum := "167ed8166bba19cd5e7174d71ba35fc4083dea00ad35a9a6dd93a0b0659a6816", func := "testbench/testbenchlaw38.RefmodelPrefix", spec := "refmodelPrefix", unfollowed := true, recurses := true, apart := false }
def RefmodelPrefixSaid : Prop := refmodelPrefixRow.holds Try.pinned (OpenSpec.ofChange refmodelPrefixSpec)

/-- ITS FALSE NEIGHBOUR: 'it returns false'. Refute it at one input. -/
def refmodelPrefixWrong : ChangeSpec := { name := "refmodelPrefix", fn := fun _ => fun
  | [d1, d2, d3] => { results := [.lit (.bool false)], args := [d1, d2, d3] }
  | _ => none }
def RefmodelPrefixWrongFalsely : Prop := refmodelPrefixRow.holds Try.pinned (OpenSpec.ofChange refmodelPrefixWrong)

/-- 'testbenchlaw38.RefmodelLimits': WHATEVER THE INPUT: true; the input reads as it did. -/
def refmodelLimitsSpec : ChangeSpec := { name := "refmodelLimits", fn := fun _ => fun
  | [d] => { results := [.lit (.bool true)], args := [d] }
  | _ => none }
def refmodelLimitsRow : OpenClaim := { program := "ytgdipflkmafpcaa", sum := "167ed8166bba19cd5e7174d71ba35fc4083dea00ad35a9a6dd93a0b0659a6816", func := "testbench/testbenchlaw38.RefmodelLimits", spec := "refmodelLimits", unfollowed := true, recurses := true, apart := false }
def RefmodelLimitsSaid : Prop := refmodelLimitsRow.holds Try.pinned (OpenSpec.ofChange refmodelLimitsSpec)

/-- ITS FALSE NEIGHBOUR: 'it returns false'. Refute it at one input. -/
def refmodelLimitsWrong : ChangeSpec := { name := "refmodelLimits", fn := fun _ => fun
  | [d] => { results := [.lit (.bool false)], args := [d] }
  | _ => none }
def RefmodelLimitsWrongFalsely : Prop := refmodelLimitsRow.holds Try.pinned (OpenSpec.ofChange refmodelLimitsWrong)

/- THE SECOND FORM. 'bulk': how many values and letters a reading holds, each counted each time it is reached (what is shared counts as often as it is met; a slice's spare places count too). A statement '..UptoSaid' is the law's where the arguments, and the package variables that the reading takes, are together of bulk at most 1048576: NARROWER than '..Said'. Prove '..Said' where nothing that the law and all that it calls make is longer than what came in: it says more and counts as full. Else prove '..UptoSaid'. A law counts once. -/
mutual
def uptoBulk {H : Type} : DataW H → Nat
  | .lit (.string bytes) => bytes.length + 1
  | .lit _ => 1
  | .nil => 1
  | .ptr d => uptoBulk d + 1
  | .slice elems spare => uptoBulkAll elems + uptoBulkAll spare + 1
  | .agg parts => uptoBulkAll parts + 1
  | .iface _ d => uptoBulk d + 1
  | .map entries => uptoBulkEntries entries + 1
  | .held _ => 1
def uptoBulkAll {H : Type} : List (DataW H) → Nat
  | [] => 0
  | d :: r => uptoBulk d + uptoBulkAll r
def uptoBulkEntries {H : Type} : List (Lit × DataW H) → Nat
  | [] => 0
  | x :: r => uptoBulkEntry x + uptoBulkEntries r
def uptoBulkEntry {H : Type} : Lit × DataW H → Nat
  | (.string bytes, d) => bytes.length + uptoBulk d + 1
  | (_, d) => uptoBulk d + 1
 end
def uptoSmall : (H : Type) → List (DataW H) → Bool := fun _ ds => decide (uptoBulkAll ds ≤ 1048576)
def OpenSpec.upto (s : _root_.Go.ChangeSpec) : _root_.Go.OpenSpec := { _root_.Go.OpenSpec.ofChange s with cond := some uptoSmall }

/-- 'testbenchlaw38.RefmodelNames', WHERE WHAT IT READS IS OF BULK AT MOST 1048576: true; the input reads as it did. -/
def refmodelNamesUptoRow : OpenClaim := { program := "ytgdipflkmafpcaa", sum := "167ed8166bba19cd5e7174d71ba35fc4083dea00ad35a9a6dd93a0b0659a6816", func := "testbench/testbenchlaw38.RefmodelNames", spec := "refmodelNames", unfollowed := true, recurses := true, apart := false, narrowed := true }
def RefmodelNamesUptoSaid : Prop := refmodelNamesUptoRow.holds Try.pinned (OpenSpec.upto refmodelNamesSpec)

/-- 'testbenchlaw38.RefmodelExpects', WHERE WHAT IT READS IS OF BULK AT MOST 1048576: true; the input reads as it did. -/
def refmodelExpectsUptoRow : OpenClaim := { program := "ytgdipflkmafpcaa", sum := "167ed8166bba19cd5e7174d71ba35fc4083dea00ad35a9a6dd93a0b0659a6816", func := "testbench/testbenchlaw38.RefmodelExpects", spec := "refmodelExpects", unfollowed := true, recurses := true, apart := false, narrowed := true }
def RefmodelExpectsUptoSaid : Prop := refmodelExpectsUptoRow.holds Try.pinned (OpenSpec.upto refmodelExpectsSpec)

/-- 'testbenchlaw38.RefmodelLocal', WHERE WHAT IT READS IS OF BULK AT MOST 1048576: true; the input reads as it did. -/
def refmodelLocalUptoRow : OpenClaim := { program := "ytgdipflkmafpcaa", sum := "167ed8166bba19cd5e7174d71ba35fc4083dea00ad35a9a6dd93a0b0659a6816", func := "testbench/testbenchlaw38.RefmodelLocal", spec := "refmodelLocal", unfollowed := true, recurses := true, apart := false, narrowed := true }
def RefmodelLocalUptoSaid : Prop := refmodelLocalUptoRow.holds Try.pinned (OpenSpec.upto refmodelLocalSpec)

/-- 'testbenchlaw38.RefmodelBounds', WHERE WHAT IT READS IS OF BULK AT MOST 1048576: true; the input reads as it did. -/
def refmodelBoundsUptoRow : OpenClaim := { program := "ytgdipflkmafpcaa", sum := "167ed8166bba19cd5e7174d71ba35fc4083dea00ad35a9a6dd93a0b0659a6816", func := "testbench/testbenchlaw38.RefmodelBounds", spec := "refmodelBounds", unfollowed := true, recurses := true, apart := false, narrowed := true }
def RefmodelBoundsUptoSaid : Prop := refmodelBoundsUptoRow.holds Try.pinned (OpenSpec.upto refmodelBoundsSpec)

/-- 'testbenchlaw38.RefmodelParts', WHERE WHAT IT READS IS OF BULK AT MOST 1048576: true; the input reads as it did. -/
def refmodelPartsUptoRow : OpenClaim := { program := "ytgdipflkmafpcaa", sum := "167ed8166bba19cd5e7174d71ba35fc4083dea00ad35a9a6dd93a0b0659a6816", func := "testbench/testbenchlaw38.RefmodelParts", spec := "refmodelParts", unfollowed := true, recurses := true, apart := false, narrowed := true }
def RefmodelPartsUptoSaid : Prop := refmodelPartsUptoRow.holds Try.pinned (OpenSpec.upto refmodelPartsSpec)

/-- 'testbenchlaw38.RefmodelPrefix', WHERE WHAT IT READS IS OF BULK AT MOST 1048576: true; the input reads as it did. -/
def refmodelPrefixUptoRow : OpenClaim := { program := "ytgdipflkmafpcaa", sum := "167ed8166bba19cd5e7174d71ba35fc4083dea00ad35a9a6dd93a0b0659a6816", func := "testbench/testbenchlaw38.RefmodelPrefix", spec := "refmodelPrefix", unfollowed := true, recurses := true, apart := false, narrowed := true }
def RefmodelPrefixUptoSaid : Prop := refmodelPrefixUptoRow.holds Try.pinned (OpenSpec.upto refmodelPrefixSpec)

/-- 'testbenchlaw38.RefmodelLimits', WHERE WHAT IT READS IS OF BULK AT MOST 1048576: true; the input reads as it did. -/
def refmodelLimitsUptoRow : OpenClaim := { program := "ytgdipflkmafpcaa", sum := "167ed8166bba19cd5e7174d71ba35fc4083dea00ad35a9a6dd93a0b0659a6816", func := "testbench/testbenchlaw38.RefmodelLimits", spec := "refmodelLimits", unfollowed := true, recurses := true, apart := false, narrowed := true }
def RefmodelLimitsUptoSaid : Prop := refmodelLimitsUptoRow.holds Try.pinned (OpenSpec.upto refmodelLimitsSpec)

end Rows
end Go.Proofs.Ytgdipflkmafpcaa
