/-
  NARROWER THAN 'FOR EVERY INPUT', by the rows' own cells (each row's printed sentence says how): CrossSizes: loops · CrossNumbers: loops · CrossFinds: loops · CrossIndexes: loops · CrossGrows: loops · CrossProducts: loops.
  DERIVED. THE GIVEN ROWS OF THIS SEAT. 6 by the template 'for every input the law returns true; each argument reads behind the call as it read before'; 0 by the template 'total and deterministic' (their statements: YtkoonehfphkmaaaTotals.lean).
  GIVEN WITH THE SEED: the statements are not yours to turn. If you find one false, say at which input.
  Laid BY PROGRAM, IN A SANDBOX (cutbox-rows.mjs): the forced cells as the released guide's own fill.sh prints them over the translation f989c5832bba3b39… (all of the seat's roots in one cut). By AI agents, Wed Nov 11 2026. No macro, syntax, notation, axiom, sorry.
-/
import Derived.Test.YtkoonehfphkmaaaChecked
import GoSem.Claim
import GoSem.ClaimJoined
import GoSem.ClaimMapViews
import Derived.JoinedTies
import Derived.KernelRfl
namespace Go.Proofs.Ytkoonehfphkmaaa
/- THE CELL 'sum', in the pinned program and in every row, IS THE sha256 OF THE DUMP (.gsa) THAT YtkoonehfphkmaaaProg.lean LOADS. Nothing in Lean hashes anything: it is a label: what it is worth is what the hold of that sum in a sandbox is worth. -/
noncomputable def Try.pinned : Pinned := { name := "ytkoonehfphkmaaa", sum := "f989c5832bba3b39c8028d09f3ec5ca8b3f832edd40acc66b9cbdd63373dac17", checked := Try.checked }
namespace Rows
def none {H : Type} : Left H := { results := [], args := [] }

/-- 'testbenchlaw47.CrossSizes': WHATEVER THE INPUT: true; the input reads as it did. -/
def crossSizesSpec : ChangeSpec := { name := "crossSizes", fn := fun _ => fun
  | [d1, d2, d3] => { results := [.lit (.bool true)], args := [d1, d2, d3] }
  | _ => none }
def crossSizesRow : OpenClaim := { program := "ytkoonehfphkmaaa", sum := "f989c5832bba3b39c8028d09f3ec5ca8b3f832edd40acc66b9cbdd63373dac17", func := "testbench/testbenchlaw47.CrossSizes", spec := "crossSizes", unfollowed := true, recurses := true, loops := true, apart := false }
def CrossSizesSaid : Prop := crossSizesRow.holds Try.pinned (OpenSpec.ofChange crossSizesSpec)

/-- ITS FALSE NEIGHBOUR: 'it returns false'. Refute it at one input. -/
def crossSizesWrong : ChangeSpec := { name := "crossSizes", fn := fun _ => fun
  | [d1, d2, d3] => { results := [.lit (.bool false)], args := [d1, d2, d3] }
  | _ => none }
def CrossSizesWrongFalsely : Prop := crossSizesRow.holds Try.pinned (OpenSpec.ofChange crossSizesWrong)

/-- 'testbenchlaw47.CrossNumbers': WHATEVER THE INPUT: true; the input reads as it did. -/
def crossNumbersSpec : ChangeSpec := { name := "crossNumbers", fn := fun _ => fun
  | [d1, d2, d3] => { results := [.lit (.bool true)], args := [d1, d2, d3] }
  | _ => none }
def crossNumbersRow : OpenClaim := { program := "ytkoonehfphkmaaa", sum := "f989c5832bba3b39c8028d09f3ec5ca8b3f832edd40acc66b9cbdd63373dac17", func := "testbench/testbenchlaw47.CrossNumbers", spec := "crossNumbers", unfollowed := true, recurses := true, loops := true, apart := false }
def CrossNumbersSaid : Prop := crossNumbersRow.holds Try.pinned (OpenSpec.ofChange crossNumbersSpec)

/-- ITS FALSE NEIGHBOUR: 'it returns false'. Refute it at one input. -/
def crossNumbersWrong : ChangeSpec := { name := "crossNumbers", fn := fun _ => fun
  | [d1, d2, d3] => { results := [.lit (.bool false)], args := [d1, d2, d3] }
  | _ => none }
def CrossNumbersWrongFalsely : Prop := crossNumbersRow.holds Try.pinned (OpenSpec.ofChange crossNumbersWrong)

/-- 'testbenchlaw47.CrossFinds': WHATEVER THE INPUT: true; the input reads as it did. -/
def crossFindsSpec : ChangeSpec := { name := "crossFinds", fn := fun _ => fun
  | [d1, d2, d3] => { results := [.lit (.bool true)], args := [d1, d2, d3] }
  | _ => none }
def crossFindsRow : OpenClaim := { program := "ytkoonehfphkmaaa", sum := "f989c5832bba3b39c8028d09f3ec5ca8b3f832edd40acc66b9cbdd63373dac17", func := "testbench/testbenchlaw47.CrossFinds", spec := "crossFinds", unfollowed := true, recurses := true, loops := true, apart := false }
def CrossFindsSaid : Prop := crossFindsRow.holds Try.pinned (OpenSpec.ofChange crossFindsSpec)

/-- ITS FALSE NEIGHBOUR: 'it returns false'. Refute it at one input. -/
def crossFindsWrong : ChangeSpec := { name := "crossFinds", fn := fun _ => fun
  | [d1, d2, d3] => { results := [.lit (.bool false)], args := [d1, d2, d3] }
  | _ => none }
def CrossFindsWrongFalsely : Prop := crossFindsRow.holds Try.pinned (OpenSpec.ofChange crossFindsWrong)

/-- 'testbenchlaw47.CrossIndexes': WHATEVER THE INPUT: true; the input reads as it did. -/
def crossIndexesSpec : ChangeSpec := { name := "crossIndexes", fn := fun _ => fun
  | [d1, d2] => { results := [.lit (.bool true)], args := [d1, d2] }
  | _ => none }
def crossIndexesRow : OpenClaim := { program := "ytkoonehfphkmaaa", sum := "f989c5832bba3b39c8028d09f3ec5ca8b3f832edd40acc66b9cbdd63373dac17", func := "testbench/testbenchlaw47.CrossIndexes", spec := "crossIndexes", unfollowed := true, recurses := true, loops := true, apart := false }
def CrossIndexesSaid : Prop := crossIndexesRow.holds Try.pinned (OpenSpec.ofChange crossIndexesSpec)

/-- ITS FALSE NEIGHBOUR: 'it returns false'. Refute it at one input. -/
def crossIndexesWrong : ChangeSpec := { name := "crossIndexes", fn := fun _ => fun
  | [d1, d2] => { results := [.lit (.bool false)], args := [d1, d2] }
  | _ => none }
def CrossIndexesWrongFalsely : Prop := crossIndexesRow.holds Try.pinned (OpenSpec.ofChange crossIndexesWrong)

/-- 'testbenchlaw47.CrossGrows': WHATEVER THE INPUT: true; the input reads as it did. -/
def crossGrowsSpec : ChangeSpec := { name := "crossGrows", fn := fun _ => fun
  | [d1, d2, d3, d4] => { results := [.lit (.bool true)], args := [d1, d2, d3, d4] }
  | _ => none }
def crossGrowsRow : OpenClaim := { program := "ytkoonehfphkmaaa", sum := "f989c5832bba3b39c8028d09f3ec5ca8b3f832edd40acc66b9cbdd63373dac17", func := "testbench/testbenchlaw47.CrossGrows", spec := "crossGrows", unfollowed := true, recurses := true, loops := true, apart := false }
def CrossGrowsSaid : Prop := crossGrowsRow.holds Try.pinned (OpenSpec.ofChange crossGrowsSpec)

/-- ITS FALSE NEIGHBOUR: 'it returns false'. Refute it at one input. -/
def crossGrowsWrong : ChangeSpec := { name := "crossGrows", fn := fun _ => fun
  | [d1, d2, d3, d4] => { results := [.lit (.bool false)], args := [d1, d2, d3, d4] }
  | _ => none }
def CrossGrowsWrongFalsely : Prop := crossGrowsRow.holds Try.pinned (OpenSpec.ofChange crossGrowsWrong)

/-- 'testbenchlaw47.CrossProducts': WHATEVER THE INPUT: true; the input reads as it did. -/
def crossProductsSpec : ChangeSpec := { name := "crossProducts", fn := fun _ => fun
  | [d1, d2, d3] => { results := [.lit (.bool true)], args := [d1, d2, d3] }
  | _ => none }
def crossProductsRow : OpenClaim := { program := "ytkoonehfphkmaaa", sum := "f989c5832bba3b39c8028d09f3ec5ca8b3f832edd40acc66b9cbdd63373dac17", func := "testbench/testbenchlaw47.CrossProducts", spec := "crossProducts", unfollowed := true, recurses := true, loops := true, apart := false }
def CrossProductsSaid : Prop := crossProductsRow.holds Try.pinned (OpenSpec.ofChange crossProductsSpec)

/-- ITS FALSE NEIGHBOUR: 'it returns false'. Refute it at one input. -/
def crossProductsWrong : ChangeSpec := { name := "crossProducts", fn := fun _ => fun
  | [d1, d2, d3] => { results := [.lit (.bool false)], args := [d1, d2, d3] }
  | _ => none }
def CrossProductsWrongFalsely : Prop := crossProductsRow.holds Try.pinned (OpenSpec.ofChange crossProductsWrong)

/- THE SECOND FORM. 'bulk': how many values and letters a reading holds, each counted each time it is reached (what is shared counts as often as it is met; a slice's spare places count too). A statement '..UptoSaid' is the law's where the arguments, and the package variables that the reading takes, are together of bulk at most 1048576: NARROWER than '..Said'. Prove '..Said' where nothing that the law and all that it calls make is longer than what came in: it says more and counts as full. Else prove '..UptoSaid'. A law counts once. -/
mutual
def uptoBulk {H : Type} : DataW H → Nat
  | .lit (.string bytes) => bytes.length + 1
  | .lit _ => 1
  | .nil => 1
  | .ptr d => uptoBulk d + 1
  | .slice elems spare => uptoBulkAll elems + uptoBulkAll spare + 1
  | .agg parts => uptoBulkAll parts + 1
  | .iface _ d => uptoBulk d + 1
  | .map entries => uptoBulkEntries entries + 1
  | .held _ => 1
def uptoBulkAll {H : Type} : List (DataW H) → Nat
  | [] => 0
  | d :: r => uptoBulk d + uptoBulkAll r
def uptoBulkEntries {H : Type} : List (Lit × DataW H) → Nat
  | [] => 0
  | x :: r => uptoBulkEntry x + uptoBulkEntries r
def uptoBulkEntry {H : Type} : Lit × DataW H → Nat
  | (.string bytes, d) => bytes.length + uptoBulk d + 1
  | (_, d) => uptoBulk d + 1
 end
def uptoSmall : (H : Type) → List (DataW H) → Bool := fun _ ds => decide (uptoBulkAll ds ≤ 1048576)
def OpenSpec.upto (s : _root_.Go.ChangeSpec) : _root_.Go.OpenSpec := { _root_.Go.OpenSpec.ofChange s with cond := some uptoSmall }

/-- 'testbenchlaw47.CrossSizes', WHERE WHAT IT READS IS OF BULK AT MOST 1048576: true; the input reads as it did. -/
def crossSizesUptoRow : OpenClaim := { program := "ytkoonehfphkmaaa", sum := "f989c5832bba3b39c8028d09f3ec5ca8b3f832edd40acc66b9cbdd63373dac17", func := "testbench/testbenchlaw47.CrossSizes", spec := "crossSizes", unfollowed := true, recurses := true, loops := true, apart := false, narrowed := true }
def CrossSizesUptoSaid : Prop := crossSizesUptoRow.holds Try.pinned (OpenSpec.upto crossSizesSpec)

/-- 'testbenchlaw47.CrossNumbers', WHERE WHAT IT READS IS OF BULK AT MOST 1048576: true; the input reads as it did. -/
def crossNumbersUptoRow : OpenClaim := { program := "ytkoonehfphkmaaa", sum := "f989c5832bba3b39c8028d09f3ec5ca8b3f832edd40acc66b9cbdd63373dac17", func := "testbench/testbenchlaw47.CrossNumbers", spec := "crossNumbers", unfollowed := true, recurses := true, loops := true, apart := false, narrowed := true }
def CrossNumbersUptoSaid : Prop := crossNumbersUptoRow.holds Try.pinned (OpenSpec.upto crossNumbersSpec)

/-- 'testbenchlaw47.CrossFinds', WHERE WHAT IT READS IS OF BULK AT MOST 1048576: true; the input reads as it did. -/
def crossFindsUptoRow : OpenClaim := { program := "ytkoonehfphkmaaa", sum := "f989c5832bba3b39c8028d09f3ec5ca8b3f832edd40acc66b9cbdd63373dac17", func := "testbench/testbenchlaw47.CrossFinds", spec := "crossFinds", unfollowed := true, recurses := true, loops := true, apart := false, narrowed := true }
def CrossFindsUptoSaid : Prop := crossFindsUptoRow.holds Try.pinned (OpenSpec.upto crossFindsSpec)

/-- 'testbenchlaw47.CrossIndexes', WHERE WHAT IT READS IS OF BULK AT MOST 1048576: true; the input reads as it did. -/
def crossIndexesUptoRow : OpenClaim := { program := "ytkoonehfphkmaaa", sum := "f989c5832bba3b39c8028d09f3ec5ca8b3f832edd40acc66b9cbdd63373dac17", func := "testbench/testbenchlaw47.CrossIndexes", spec := "crossIndexes", unfollowed := true, recurses := true, loops := true, apart := false, narrowed := true }
def CrossIndexesUptoSaid : Prop := crossIndexesUptoRow.holds Try.pinned (OpenSpec.upto crossIndexesSpec)

/-- 'testbenchlaw47.CrossGrows', WHERE WHAT IT READS IS OF BULK AT MOST 1048576: true; the input reads as it did. -/
def crossGrowsUptoRow : OpenClaim := { program := "ytkoonehfphkmaaa", sum := "f989c5832bba3b39c8028d09f3ec5ca8b3f832edd40acc66b9cbdd63373dac17", func := "testbench/testbenchlaw47.CrossGrows", spec := "crossGrows", unfollowed := true, recurses := true, loops := true, apart := false, narrowed := true }
def CrossGrowsUptoSaid : Prop := crossGrowsUptoRow.holds Try.pinned (OpenSpec.upto crossGrowsSpec)

/-- 'testbenchlaw47.CrossProducts', WHERE WHAT IT READS IS OF BULK AT MOST 1048576: true; the input reads as it did. -/
def crossProductsUptoRow : OpenClaim := { program := "ytkoonehfphkmaaa", sum := "f989c5832bba3b39c8028d09f3ec5ca8b3f832edd40acc66b9cbdd63373dac17", func := "testbench/testbenchlaw47.CrossProducts", spec := "crossProducts", unfollowed := true, recurses := true, loops := true, apart := false, narrowed := true }
def CrossProductsUptoSaid : Prop := crossProductsUptoRow.holds Try.pinned (OpenSpec.upto crossProductsSpec)

end Rows
end Go.Proofs.Ytkoonehfphkmaaa
