/-
  No cell of these rows narrows 'for every input' (looked for: loops, veiled, ifaces, maps, wideKeys, modest, calm, conditions, laid).
  DERIVED. THE GIVEN ROWS OF THIS SEAT. 6 by the template 'for every input the law returns true; each argument reads behind the call as it read before'; 0 by the template 'total and deterministic' (their statements: YtfoncpamepepmaaTotals.lean).
  GIVEN WITH THE SEED: the statements are not yours to turn. If you find one false, say at which input.
  Laid BY PROGRAM, IN A SANDBOX (cutbox-rows.mjs): the forced cells as the released guide's own fill.sh prints them over the translation 2b01bee778a4ac27… (all of the seat's roots in one cut). By AI agents, Wed Nov 11 2026. No macro, syntax, notation, axiom, sorry.
-/
import Derived.Test.YtfoncpamepepmaaChecked
import GoSem.Claim
import GoSem.ClaimJoined
import GoSem.ClaimMapViews
import Derived.JoinedTies
import Derived.KernelRfl
namespace Go.Proofs.Ytfoncpamepepmaa
/- THE CELL 'sum', in the pinned program and in every row, IS THE sha256 OF THE DUMP (.gsa) THAT YtfoncpamepepmaaProg.lean LOADS. Nothing in Lean hashes anything: it is a label: what it is worth is what the hold of that sum in a sandbox is worth. -/
noncomputable def Try.pinned : Pinned := { name := "ytfoncpamepepmaa", sum := "2b01bee778a4ac27e5dcd8552427e4133d9ef86614653e5c7bffa17968c8b158", checked := Try.checked }
namespace Rows
def none {H : Type} : Left H := { results := [], args := [] }

/-- 'testbenchlaw29.ArbiterTurns': WHATEVER THE INPUT: true; the input reads as it did. -/
def arbiterTurnsSpec : ChangeSpec := { name := "arbiterTurns", fn := fun _ => fun
  | [d] => { results := [.lit (.bool true)], args := [d] }
  | _ => none }
def arbiterTurnsRow : OpenClaim := { program := "ytfoncpamepepmaa", sum := "2b01bee778a4ac27e5dcd8552427e4133d9ef86614653e5c7bffa17968c8b158", func := "testbench/testbenchlaw29.ArbiterTurns", spec := "arbiterTurns", unfollowed := true, recurses := true, apart := false }
def ArbiterTurnsSaid : Prop := arbiterTurnsRow.holds Try.pinned (OpenSpec.ofChange arbiterTurnsSpec)

/-- ITS FALSE NEIGHBOUR: 'it returns false'. Refute it at one input. -/
def arbiterTurnsWrong : ChangeSpec := { name := "arbiterTurns", fn := fun _ => fun
  | [d] => { results := [.lit (.bool false)], args := [d] }
  | _ => none }
def ArbiterTurnsWrongFalsely : Prop := arbiterTurnsRow.holds Try.pinned (OpenSpec.ofChange arbiterTurnsWrong)

/-- 'testbenchlaw29.ArbiterFirst': WHATEVER THE INPUT: true; the input reads as it did. -/
def arbiterFirstSpec : ChangeSpec := { name := "arbiterFirst", fn := fun _ => fun
  | [d] => { results := [.lit (.bool true)], args := [d] }
  | _ => none }
def arbiterFirstRow : OpenClaim := { program := "ytfoncpamepepmaa", sum := "2b01bee778a4ac27e5dcd8552427e4133d9ef86614653e5c7bffa17968c8b158", func := "testbench/testbenchlaw29.ArbiterFirst", spec := "arbiterFirst", unfollowed := true, recurses := true, apart := false }
def ArbiterFirstSaid : Prop := arbiterFirstRow.holds Try.pinned (OpenSpec.ofChange arbiterFirstSpec)

/-- ITS FALSE NEIGHBOUR: 'it returns false'. Refute it at one input. -/
def arbiterFirstWrong : ChangeSpec := { name := "arbiterFirst", fn := fun _ => fun
  | [d] => { results := [.lit (.bool false)], args := [d] }
  | _ => none }
def ArbiterFirstWrongFalsely : Prop := arbiterFirstRow.holds Try.pinned (OpenSpec.ofChange arbiterFirstWrong)

/-- 'testbenchlaw29.ArbiterSingles': WHATEVER THE INPUT: true; the input reads as it did. -/
def arbiterSinglesSpec : ChangeSpec := { name := "arbiterSingles", fn := fun _ => fun
  | [d1, d2] => { results := [.lit (.bool true)], args := [d1, d2] }
  | _ => none }
def arbiterSinglesRow : OpenClaim := { program := "ytfoncpamepepmaa", sum := "2b01bee778a4ac27e5dcd8552427e4133d9ef86614653e5c7bffa17968c8b158", func := "testbench/testbenchlaw29.ArbiterSingles", spec := "arbiterSingles", unfollowed := true, recurses := true, apart := false }
def ArbiterSinglesSaid : Prop := arbiterSinglesRow.holds Try.pinned (OpenSpec.ofChange arbiterSinglesSpec)

/-- ITS FALSE NEIGHBOUR: 'it returns false'. Refute it at one input. -/
def arbiterSinglesWrong : ChangeSpec := { name := "arbiterSingles", fn := fun _ => fun
  | [d1, d2] => { results := [.lit (.bool false)], args := [d1, d2] }
  | _ => none }
def ArbiterSinglesWrongFalsely : Prop := arbiterSinglesRow.holds Try.pinned (OpenSpec.ofChange arbiterSinglesWrong)

/-- 'testbenchlaw29.ArbiterTrims': WHATEVER THE INPUT: true; the input reads as it did. -/
def arbiterTrimsSpec : ChangeSpec := { name := "arbiterTrims", fn := fun _ => fun
  | [d1, d2] => { results := [.lit (.bool true)], args := [d1, d2] }
  | _ => none }
def arbiterTrimsRow : OpenClaim := { program := "ytfoncpamepepmaa", sum := "2b01bee778a4ac27e5dcd8552427e4133d9ef86614653e5c7bffa17968c8b158", func := "testbench/testbenchlaw29.ArbiterTrims", spec := "arbiterTrims", unfollowed := true, recurses := true, apart := false }
def ArbiterTrimsSaid : Prop := arbiterTrimsRow.holds Try.pinned (OpenSpec.ofChange arbiterTrimsSpec)

/-- ITS FALSE NEIGHBOUR: 'it returns false'. Refute it at one input. -/
def arbiterTrimsWrong : ChangeSpec := { name := "arbiterTrims", fn := fun _ => fun
  | [d1, d2] => { results := [.lit (.bool false)], args := [d1, d2] }
  | _ => none }
def ArbiterTrimsWrongFalsely : Prop := arbiterTrimsRow.holds Try.pinned (OpenSpec.ofChange arbiterTrimsWrong)

/-- 'testbenchlaw29.ArbiterDraws': WHATEVER THE INPUT: true; the input reads as it did. -/
def arbiterDrawsSpec : ChangeSpec := { name := "arbiterDraws", fn := fun _ => fun
  | [d1, d2, d3] => { results := [.lit (.bool true)], args := [d1, d2, d3] }
  | _ => none }
def arbiterDrawsRow : OpenClaim := { program := "ytfoncpamepepmaa", sum := "2b01bee778a4ac27e5dcd8552427e4133d9ef86614653e5c7bffa17968c8b158", func := "testbench/testbenchlaw29.ArbiterDraws", spec := "arbiterDraws", unfollowed := true, recurses := true, apart := false }
def ArbiterDrawsSaid : Prop := arbiterDrawsRow.holds Try.pinned (OpenSpec.ofChange arbiterDrawsSpec)

/-- ITS FALSE NEIGHBOUR: 'it returns false'. Refute it at one input. -/
def arbiterDrawsWrong : ChangeSpec := { name := "arbiterDraws", fn := fun _ => fun
  | [d1, d2, d3] => { results := [.lit (.bool false)], args := [d1, d2, d3] }
  | _ => none }
def ArbiterDrawsWrongFalsely : Prop := arbiterDrawsRow.holds Try.pinned (OpenSpec.ofChange arbiterDrawsWrong)

/-- 'testbenchlaw29.ArbiterKeeps': WHATEVER THE INPUT: true; the input reads as it did. -/
def arbiterKeepsSpec : ChangeSpec := { name := "arbiterKeeps", fn := fun _ => fun
  | [d1, d2] => { results := [.lit (.bool true)], args := [d1, d2] }
  | _ => none }
def arbiterKeepsRow : OpenClaim := { program := "ytfoncpamepepmaa", sum := "2b01bee778a4ac27e5dcd8552427e4133d9ef86614653e5c7bffa17968c8b158", func := "testbench/testbenchlaw29.ArbiterKeeps", spec := "arbiterKeeps", unfollowed := true, recurses := true, apart := false }
def ArbiterKeepsSaid : Prop := arbiterKeepsRow.holds Try.pinned (OpenSpec.ofChange arbiterKeepsSpec)

/-- ITS FALSE NEIGHBOUR: 'it returns false'. Refute it at one input. -/
def arbiterKeepsWrong : ChangeSpec := { name := "arbiterKeeps", fn := fun _ => fun
  | [d1, d2] => { results := [.lit (.bool false)], args := [d1, d2] }
  | _ => none }
def ArbiterKeepsWrongFalsely : Prop := arbiterKeepsRow.holds Try.pinned (OpenSpec.ofChange arbiterKeepsWrong)

/- THE SECOND FORM. 'bulk': how many values and letters a reading holds, each counted each time it is reached (what is shared counts as often as it is met; a slice's spare places count too). A statement '..UptoSaid' is the law's where the arguments, and the package variables that the reading takes, are together of bulk at most 1048576: NARROWER than '..Said'. Prove '..Said' where nothing that the law and all that it calls make is longer than what came in: it says more and counts as full. Else prove '..UptoSaid'. A law counts once. -/
mutual
def uptoBulk {H : Type} : DataW H → Nat
  | .lit (.string bytes) => bytes.length + 1
  | .lit _ => 1
  | .nil => 1
  | .ptr d => uptoBulk d + 1
  | .slice elems spare => uptoBulkAll elems + uptoBulkAll spare + 1
  | .agg parts => uptoBulkAll parts + 1
  | .iface _ d => uptoBulk d + 1
  | .map entries => uptoBulkEntries entries + 1
  | .held _ => 1
def uptoBulkAll {H : Type} : List (DataW H) → Nat
  | [] => 0
  | d :: r => uptoBulk d + uptoBulkAll r
def uptoBulkEntries {H : Type} : List (Lit × DataW H) → Nat
  | [] => 0
  | x :: r => uptoBulkEntry x + uptoBulkEntries r
def uptoBulkEntry {H : Type} : Lit × DataW H → Nat
  | (.string bytes, d) => bytes.length + uptoBulk d + 1
  | (_, d) => uptoBulk d + 1
 end
def uptoSmall : (H : Type) → List (DataW H) → Bool := fun _ ds => decide (uptoBulkAll ds ≤ 1048576)
def OpenSpec.upto (s : _root_.Go.ChangeSpec) : _root_.Go.OpenSpec := { _root_.Go.OpenSpec.ofChange s with cond := some uptoSmall }

/-- 'testbenchlaw29.ArbiterTurns', WHERE WHAT IT READS IS OF BULK AT MOST 1048576: true; the input reads as it did. -/
def arbiterTurnsUptoRow : OpenClaim := { program := "ytfoncpamepepmaa", sum := "2b01bee778a4ac27e5dcd8552427e4133d9ef86614653e5c7bffa17968c8b158", func := "testbench/testbenchlaw29.ArbiterTurns", spec := "arbiterTurns", unfollowed := true, recurses := true, apart := false, narrowed := true }
def ArbiterTurnsUptoSaid : Prop := arbiterTurnsUptoRow.holds Try.pinned (OpenSpec.upto arbiterTurnsSpec)

/-- 'testbenchlaw29.ArbiterFirst', WHERE WHAT IT READS IS OF BULK AT MOST 1048576: true; the input reads as it did. -/
def arbiterFirstUptoRow : OpenClaim := { program := "ytfoncpamepepmaa", sum := "2b01bee778a4ac27e5dcd8552427e4133d9ef86614653e5c7bffa17968c8b158", func := "testbench/testbenchlaw29.ArbiterFirst", spec := "arbiterFirst", unfollowed := true, recurses := true, apart := false, narrowed := true }
def ArbiterFirstUptoSaid : Prop := arbiterFirstUptoRow.holds Try.pinned (OpenSpec.upto arbiterFirstSpec)

/-- 'testbenchlaw29.ArbiterSingles', WHERE WHAT IT READS IS OF BULK AT MOST 1048576: true; the input reads as it did. -/
def arbiterSinglesUptoRow : OpenClaim := { program := "ytfoncpamepepmaa", sum := "2b01bee778a4ac27e5dcd8552427e4133d9ef86614653e5c7bffa17968c8b158", func := "testbench/testbenchlaw29.ArbiterSingles", spec := "arbiterSingles", unfollowed := true, recurses := true, apart := false, narrowed := true }
def ArbiterSinglesUptoSaid : Prop := arbiterSinglesUptoRow.holds Try.pinned (OpenSpec.upto arbiterSinglesSpec)

/-- 'testbenchlaw29.ArbiterTrims', WHERE WHAT IT READS IS OF BULK AT MOST 1048576: true; the input reads as it did. -/
def arbiterTrimsUptoRow : OpenClaim := { program := "ytfoncpamepepmaa", sum := "2b01bee778a4ac27e5dcd8552427e4133d9ef86614653e5c7bffa17968c8b158", func := "testbench/testbenchlaw29.ArbiterTrims", spec := "arbiterTrims", unfollowed := true, recurses := true, apart := false, narrowed := true }
def ArbiterTrimsUptoSaid : Prop := arbiterTrimsUptoRow.holds Try.pinned (OpenSpec.upto arbiterTrimsSpec)

/-- 'testbenchlaw29.ArbiterDraws', WHERE WHAT IT READS IS OF BULK AT MOST 1048576: true; the input reads as it did. -/
def arbiterDrawsUptoRow : OpenClaim := { program := "ytfoncpamepepmaa", sum := "2b01bee778a4ac27e5dcd8552427e4133d9ef86614653e5c7bffa17968c8b158", func := "testbench/testbenchlaw29.ArbiterDraws", spec := "arbiterDraws", unfollowed := true, recurses := true, apart := false, narrowed := true }
def ArbiterDrawsUptoSaid : Prop := arbiterDrawsUptoRow.holds Try.pinned (OpenSpec.upto arbiterDrawsSpec)

/-- 'testbenchlaw29.ArbiterKeeps', WHERE WHAT IT READS IS OF BULK AT MOST 1048576: true; the input reads as it did. -/
def arbiterKeepsUptoRow : OpenClaim := { program := "ytfoncpamepepmaa", sum := "2b01bee778a4ac27e5dcd8552427e4133d9ef86614653e5c7bffa17968c8b158", func := "testbench/testbenchlaw29.ArbiterKeeps", spec := "arbiterKeeps", unfollowed := true, recurses := true, apart := false, narrowed := true }
def ArbiterKeepsUptoSaid : Prop := arbiterKeepsUptoRow.holds Try.pinned (OpenSpec.upto arbiterKeepsSpec)

end Rows
end Go.Proofs.Ytfoncpamepepmaa
