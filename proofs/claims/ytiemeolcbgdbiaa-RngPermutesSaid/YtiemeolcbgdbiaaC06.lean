import Derived.Test.YtiemeolcbgdbiaaVxEv2
import Derived.KernelRfl
import Derived.Test.YtiemeolcbgdbiaaProg
set_option linter.unusedSimpArgs false
set_option linter.unusedVariables false
namespace Go.Proofs.Rg
open Go.Vx

/-- testbench/testbenchlaw06.RngBelow -/
def ac3 : AC :=
  .seq (.reg 1 [⟨(some 2), 0, none, (.op (.box 2 (.t 0)))⟩,
    ⟨(some 4), 1, none, (.op (.mov (.k (.d (.bool false)))))⟩])
  (.seq (.reg 1 [⟨(some 12), 0, none, (.op (.load true 2 (.t 2)))⟩,
    ⟨(some 13), 0, none, (.op (.mov (.t 1)))⟩,
    ⟨(some 14), 0, none, (.call (.k (.fn (.func 10) [] [])) [(.t 12), (.t 13)])⟩,
    ⟨(some 11), 0, none, (.op (.mov (.t 14)))⟩,
    ⟨(some 15), 0, none, (.op (.ext (.t 11) 0))⟩,
    ⟨(some 16), 0, none, (.op (.ext (.t 11) 1))⟩,
    ⟨(some 17), 0, none, (.op (.ext (.t 11) 2))⟩,
    ⟨(some 6), 0, none, (.op (.alloc [(.int .u64 0), (.int .u64 0)]))⟩,
    ⟨(some 5), 1, none, (.op (.mov (.t 15)))⟩,
    ⟨none, 1, none, (.op (.store 2 (.t 6) (.t 16)))⟩,
    ⟨(some 7), 1, none, (.op (.mov (.t 17)))⟩])
  (.seq (.reg 1 [⟨(some 19), 0, none, (.op (.load true 2 (.t 2)))⟩,
    ⟨(some 20), 0, none, (.op (.mov (.t 1)))⟩,
    ⟨(some 21), 0, none, (.call (.k (.fn (.func 11) [] [])) [(.t 19), (.t 20)])⟩,
    ⟨(some 18), 0, none, (.op (.mov (.t 21)))⟩,
    ⟨(some 22), 0, none, (.op (.ext (.t 18) 0))⟩,
    ⟨(some 23), 0, none, (.op (.ext (.t 18) 1))⟩,
    ⟨(some 24), 0, none, (.op (.ext (.t 18) 2))⟩,
    ⟨(some 9), 0, none, (.op (.alloc [(.int .u64 0), (.int .u64 0)]))⟩,
    ⟨(some 8), 1, none, (.op (.mov (.t 22)))⟩,
    ⟨none, 1, none, (.op (.store 2 (.t 9) (.t 23)))⟩,
    ⟨(some 10), 1, none, (.op (.mov (.t 24)))⟩])
  (.seq (.reg 0 [⟨(some 25), 0, none, (.op (.mov (.t 5)))⟩,
    ⟨(some 26), 0, none, (.op (.mov (.t 8)))⟩,
    ⟨(some 27), 0, none, (.op (.bin .eql (.t 25) (.t 26)))⟩,
    ⟨(some 28), 0, none, (.op (.mov (.t 27)))⟩,
    ⟨(some 29), 0, (some (28, true)), (.op (.load true 2 (.t 6)))⟩,
    ⟨(some 30), 0, (some (28, true)), (.op (.load true 2 (.t 9)))⟩,
    ⟨(some 31), 0, (some (28, true)), (.op (.eqS false [0, 0] (.t 29) (.t 30)))⟩,
    ⟨(some 32), 0, none, (.op (.pick (.t 28) (.t 31) (.k (.d (.bool false)))))⟩,
    ⟨(some 33), 0, none, (.op (.mov (.t 32)))⟩,
    ⟨(some 34), 0, (some (33, true)), (.op (.mov (.t 7)))⟩,
    ⟨(some 35), 0, (some (33, true)), (.op (.mov (.t 10)))⟩,
    ⟨(some 36), 0, (some (33, true)), (.op (.bin .eql (.t 34) (.t 35)))⟩,
    ⟨(some 37), 0, none, (.op (.pick (.t 33) (.t 36) (.k (.d (.bool false)))))⟩,
    ⟨(some 38), 0, none, (.op (.mov (.t 37)))⟩,
    ⟨(some 39), 0, (some (38, true)), (.op (.mov (.t 7)))⟩,
    ⟨(some 40), 0, (some (38, true)), (.op (.bin .neq (.t 39) (.k (.d (.int .i64 0)))))⟩,
    ⟨(some 41), 0, (some (38, true)), (.op (.mov (.t 40)))⟩,
    ⟨(some 42), 0, (some (41, false)), (.op (.mov (.t 5)))⟩,
    ⟨(some 43), 0, (some (41, false)), (.op (.bin .geq (.t 42) (.k (.d (.int .i64 0)))))⟩,
    ⟨(some 44), 0, (some (41, false)), (.op (.mov (.t 43)))⟩,
    ⟨(some 45), 0, (some (44, true)), (.op (.mov (.t 5)))⟩,
    ⟨(some 46), 0, (some (44, true)), (.op (.mov (.t 1)))⟩,
    ⟨(some 47), 0, (some (44, true)), (.op (.bin .lss (.t 45) (.t 46)))⟩,
    ⟨(some 48), 0, (some (41, false)), (.op (.pick (.t 44) (.t 47) (.k (.d (.bool false)))))⟩,
    ⟨(some 49), 0, (some (38, true)), (.op (.pick (.t 41) (.k (.d (.bool true))) (.t 48)))⟩,
    ⟨(some 50), 0, none, (.op (.pick (.t 38) (.t 49) (.k (.d (.bool false)))))⟩,
    ⟨(some 51), 0, none, (.op (.mov (.t 50)))⟩,
    ⟨(some 52), 0, (some (51, true)), (.call (.k (.fn (.func 12) [] [])) [])⟩,
    ⟨(some 53), 0, none, (.op (.pick (.t 51) (.t 52) (.k (.d (.bool false)))))⟩,
    ⟨(some 4), 0, none, (.op (.mov (.t 53)))⟩])
  (.ret))))
theorem cc3 : Try.f3.body.bind (compC Try.prog) = some ac3 := by kernel_rfl
theorem go3 {vals : List V} {v : V} (ac : AC) (he : ac.erase = ac3) (hw : wpC Try.prog 0 ac (retQ [.tmp 4] v) ⟨vals ++ List.replicate (54 - vals.length) (.tup []), []⟩) : CallP Try.prog 3 vals v :=
  call_of Try.func3 rfl rfl rfl (cc3.trans (congrArg some he.symm)) hw
theorem gi3 {vals : List V} {rows : Go.Vx.Rows} {K : V → Go.Vx.Rows → Prop} (ac : AC) (he : ac.erase = ac3) (hw : wpC Try.prog rows.length ac (retI [.tmp 4] K) ⟨vals ++ List.replicate (54 - vals.length) (.tup []), rows⟩) : InlP Try.prog 3 vals rows K :=
  inl_of' Try.func3 rfl rfl rfl (cc3.trans (congrArg some he.symm)) hw
theorem gm3 {vals : List V} {v : V} {sz : Nat} {es es' : List (List V)} (ac : AC) (he : ac.erase = ac3) (hw : wpC Try.prog 1 ac (retM [.tmp 4] v sz es') ⟨vals ++ List.replicate (54 - vals.length) (.tup []), [.live sz es]⟩) : CallM Try.prog 3 vals sz es v es' :=
  callM_of' Try.func3 rfl rfl rfl (cc3.trans (congrArg some he.symm)) hw

/-- testbench/testbenchlaw06.RngWeighted -/
def ac4 : AC :=
  .seq (.reg 1 [⟨(some 2), 0, none, (.op (.box 2 (.t 0)))⟩,
    ⟨(some 4), 1, none, (.op (.mov (.k (.d (.bool false)))))⟩])
  (.seq (.reg 0 [⟨(some 11), 0, none, (.op (.mov (.t 1)))⟩,
    ⟨(some 12), 0, none, (.op (.mov (.t 1)))⟩,
    ⟨(some 13), 0, none, (.op (.len false (.t 12)))⟩,
    ⟨(some 14), 0, none, (.op (.mn (.t 13) (.k (.d (.int .i64 40)))))⟩,
    ⟨(some 15), 0, none, (.op (.slice 1 (.t 11) none (some (.t 14))))⟩,
    ⟨(some 1), 0, none, (.op (.mov (.t 15)))⟩])
  (.seq (.reg 1 [⟨(some 17), 0, none, (.op (.load true 2 (.t 2)))⟩,
    ⟨(some 18), 0, none, (.op (.mov (.t 1)))⟩,
    ⟨(some 19), 0, none, (.call (.k (.fn (.func 13) [] [])) [(.t 17), (.t 18)])⟩,
    ⟨(some 16), 0, none, (.op (.mov (.t 19)))⟩,
    ⟨(some 20), 0, none, (.op (.ext (.t 16) 0))⟩,
    ⟨(some 21), 0, none, (.op (.ext (.t 16) 1))⟩,
    ⟨(some 22), 0, none, (.op (.ext (.t 16) 2))⟩,
    ⟨(some 6), 0, none, (.op (.alloc [(.int .u64 0), (.int .u64 0)]))⟩,
    ⟨(some 5), 1, none, (.op (.mov (.t 20)))⟩,
    ⟨none, 1, none, (.op (.store 2 (.t 6) (.t 21)))⟩,
    ⟨(some 7), 1, none, (.op (.mov (.t 22)))⟩])
  (.seq (.reg 1 [⟨(some 24), 0, none, (.op (.load true 2 (.t 2)))⟩,
    ⟨(some 25), 0, none, (.op (.mov (.t 1)))⟩,
    ⟨(some 26), 0, none, (.call (.k (.fn (.func 14) [] [])) [(.t 24), (.t 25)])⟩,
    ⟨(some 23), 0, none, (.op (.mov (.t 26)))⟩,
    ⟨(some 27), 0, none, (.op (.ext (.t 23) 0))⟩,
    ⟨(some 28), 0, none, (.op (.ext (.t 23) 1))⟩,
    ⟨(some 29), 0, none, (.op (.ext (.t 23) 2))⟩,
    ⟨(some 9), 0, none, (.op (.alloc [(.int .u64 0), (.int .u64 0)]))⟩,
    ⟨(some 8), 1, none, (.op (.mov (.t 27)))⟩,
    ⟨none, 1, none, (.op (.store 2 (.t 9) (.t 28)))⟩,
    ⟨(some 10), 1, none, (.op (.mov (.t 29)))⟩])
  (.seq (.reg 0 [⟨(some 30), 0, none, (.op (.mov (.t 5)))⟩,
    ⟨(some 31), 0, none, (.op (.mov (.t 8)))⟩,
    ⟨(some 32), 0, none, (.op (.bin .eql (.t 30) (.t 31)))⟩,
    ⟨(some 33), 0, none, (.op (.mov (.t 32)))⟩,
    ⟨(some 34), 0, (some (33, true)), (.op (.load true 2 (.t 6)))⟩,
    ⟨(some 35), 0, (some (33, true)), (.op (.load true 2 (.t 9)))⟩,
    ⟨(some 36), 0, (some (33, true)), (.op (.eqS false [0, 0] (.t 34) (.t 35)))⟩,
    ⟨(some 37), 0, none, (.op (.pick (.t 33) (.t 36) (.k (.d (.bool false)))))⟩,
    ⟨(some 38), 0, none, (.op (.mov (.t 37)))⟩,
    ⟨(some 39), 0, (some (38, true)), (.op (.mov (.t 7)))⟩,
    ⟨(some 40), 0, (some (38, true)), (.op (.mov (.t 10)))⟩,
    ⟨(some 41), 0, (some (38, true)), (.op (.bin .eql (.t 39) (.t 40)))⟩,
    ⟨(some 42), 0, none, (.op (.pick (.t 38) (.t 41) (.k (.d (.bool false)))))⟩,
    ⟨(some 43), 0, none, (.op (.mov (.t 42)))⟩,
    ⟨(some 44), 0, (some (43, true)), (.op (.mov (.t 7)))⟩,
    ⟨(some 45), 0, (some (43, true)), (.op (.bin .neq (.t 44) (.k (.d (.int .i64 0)))))⟩,
    ⟨(some 46), 0, (some (43, true)), (.op (.mov (.t 45)))⟩,
    ⟨(some 47), 0, (some (46, false)), (.op (.mov (.t 5)))⟩,
    ⟨(some 48), 0, (some (46, false)), (.op (.bin .geq (.t 47) (.k (.d (.int .i64 0)))))⟩,
    ⟨(some 49), 0, (some (46, false)), (.op (.mov (.t 48)))⟩,
    ⟨(some 50), 0, (some (49, true)), (.op (.mov (.t 5)))⟩,
    ⟨(some 51), 0, (some (49, true)), (.op (.mov (.t 1)))⟩,
    ⟨(some 52), 0, (some (49, true)), (.op (.len false (.t 51)))⟩,
    ⟨(some 53), 0, (some (49, true)), (.op (.bin .lss (.t 50) (.t 52)))⟩,
    ⟨(some 54), 0, (some (46, false)), (.op (.pick (.t 49) (.t 53) (.k (.d (.bool false)))))⟩,
    ⟨(some 55), 0, (some (46, false)), (.op (.mov (.t 54)))⟩,
    ⟨(some 56), 0, (some (55, true)), (.op (.mov (.t 1)))⟩,
    ⟨(some 57), 0, (some (55, true)), (.op (.mov (.t 5)))⟩,
    ⟨(some 58), 0, (some (55, true)), (.op (.idxA 1 none (.t 56) (.t 57)))⟩,
    ⟨(some 59), 0, (some (55, true)), (.op (.load false 1 (.t 58)))⟩,
    ⟨(some 60), 0, (some (55, true)), (.op (.bin .gtr (.t 59) (.k (.d (.int .i64 0)))))⟩,
    ⟨(some 61), 0, (some (46, false)), (.op (.pick (.t 55) (.t 60) (.k (.d (.bool false)))))⟩,
    ⟨(some 62), 0, (some (43, true)), (.op (.pick (.t 46) (.k (.d (.bool true))) (.t 61)))⟩,
    ⟨(some 63), 0, none, (.op (.pick (.t 43) (.t 62) (.k (.d (.bool false)))))⟩,
    ⟨(some 64), 0, none, (.op (.mov (.t 63)))⟩,
    ⟨(some 65), 0, (some (64, true)), (.call (.k (.fn (.func 12) [] [])) [])⟩,
    ⟨(some 66), 0, none, (.op (.pick (.t 64) (.t 65) (.k (.d (.bool false)))))⟩,
    ⟨(some 4), 0, none, (.op (.mov (.t 66)))⟩])
  (.ret)))))
theorem cc4 : Try.f4.body.bind (compC Try.prog) = some ac4 := by kernel_rfl
theorem go4 {vals : List V} {v : V} (ac : AC) (he : ac.erase = ac4) (hw : wpC Try.prog 0 ac (retQ [.tmp 4] v) ⟨vals ++ List.replicate (67 - vals.length) (.tup []), []⟩) : CallP Try.prog 4 vals v :=
  call_of Try.func4 rfl rfl rfl (cc4.trans (congrArg some he.symm)) hw
theorem gi4 {vals : List V} {rows : Go.Vx.Rows} {K : V → Go.Vx.Rows → Prop} (ac : AC) (he : ac.erase = ac4) (hw : wpC Try.prog rows.length ac (retI [.tmp 4] K) ⟨vals ++ List.replicate (67 - vals.length) (.tup []), rows⟩) : InlP Try.prog 4 vals rows K :=
  inl_of' Try.func4 rfl rfl rfl (cc4.trans (congrArg some he.symm)) hw
theorem gm4 {vals : List V} {v : V} {sz : Nat} {es es' : List (List V)} (ac : AC) (he : ac.erase = ac4) (hw : wpC Try.prog 1 ac (retM [.tmp 4] v sz es') ⟨vals ++ List.replicate (67 - vals.length) (.tup []), [.live sz es]⟩) : CallM Try.prog 4 vals sz es v es' :=
  callM_of' Try.func4 rfl rfl rfl (cc4.trans (congrArg some he.symm)) hw

/-- testbench/testbenchlaw06.RngShuffle -/
def ac5 : AC :=
  .seq (.reg 1 [⟨(some 2), 0, none, (.op (.box 2 (.t 0)))⟩,
    ⟨(some 4), 1, none, (.op (.mov (.k (.d (.bool false)))))⟩])
  (.seq (.reg 1 [⟨(some 12), 0, none, (.op (.load true 2 (.t 2)))⟩,
    ⟨(some 13), 0, none, (.op (.mov (.t 1)))⟩,
    ⟨(some 14), 0, none, (.call (.k (.fn (.func 15) [] [])) [(.t 12), (.t 13)])⟩,
    ⟨(some 11), 0, none, (.op (.mov (.t 14)))⟩,
    ⟨(some 15), 0, none, (.op (.ext (.t 11) 0))⟩,
    ⟨(some 16), 0, none, (.op (.ext (.t 11) 1))⟩,
    ⟨(some 17), 0, none, (.op (.ext (.t 11) 2))⟩,
    ⟨(some 6), 0, none, (.op (.alloc [(.int .u64 0), (.int .u64 0)]))⟩,
    ⟨(some 5), 1, none, (.op (.mov (.t 15)))⟩,
    ⟨none, 1, none, (.op (.store 2 (.t 6) (.t 16)))⟩,
    ⟨(some 7), 1, none, (.op (.mov (.t 17)))⟩])
  (.seq (.reg 1 [⟨(some 19), 0, none, (.op (.load true 2 (.t 2)))⟩,
    ⟨(some 20), 0, none, (.op (.mov (.t 1)))⟩,
    ⟨(some 21), 0, none, (.call (.k (.fn (.func 16) [] [])) [(.t 19), (.t 20)])⟩,
    ⟨(some 18), 0, none, (.op (.mov (.t 21)))⟩,
    ⟨(some 22), 0, none, (.op (.ext (.t 18) 0))⟩,
    ⟨(some 23), 0, none, (.op (.ext (.t 18) 1))⟩,
    ⟨(some 24), 0, none, (.op (.ext (.t 18) 2))⟩,
    ⟨(some 9), 0, none, (.op (.alloc [(.int .u64 0), (.int .u64 0)]))⟩,
    ⟨(some 8), 1, none, (.op (.mov (.t 22)))⟩,
    ⟨none, 1, none, (.op (.store 2 (.t 9) (.t 23)))⟩,
    ⟨(some 10), 1, none, (.op (.mov (.t 24)))⟩])
  (.seq (.reg 0 [⟨(some 25), 0, none, (.op (.mov (.t 5)))⟩,
    ⟨(some 26), 0, none, (.op (.mov (.t 8)))⟩,
    ⟨(some 27), 0, none, (.call (.k (.fn (.func 17) [] [])) [(.t 25), (.t 26)])⟩,
    ⟨(some 28), 0, none, (.op (.mov (.t 27)))⟩,
    ⟨(some 29), 0, (some (28, true)), (.op (.load true 2 (.t 6)))⟩,
    ⟨(some 30), 0, (some (28, true)), (.op (.load true 2 (.t 9)))⟩,
    ⟨(some 31), 0, (some (28, true)), (.op (.eqS false [0, 0] (.t 29) (.t 30)))⟩,
    ⟨(some 32), 0, none, (.op (.pick (.t 28) (.t 31) (.k (.d (.bool false)))))⟩,
    ⟨(some 33), 0, none, (.op (.mov (.t 32)))⟩,
    ⟨(some 34), 0, (some (33, true)), (.op (.mov (.t 7)))⟩,
    ⟨(some 35), 0, (some (33, true)), (.op (.mov (.t 10)))⟩,
    ⟨(some 36), 0, (some (33, true)), (.op (.bin .eql (.t 34) (.t 35)))⟩,
    ⟨(some 37), 0, none, (.op (.pick (.t 33) (.t 36) (.k (.d (.bool false)))))⟩,
    ⟨(some 38), 0, none, (.op (.mov (.t 37)))⟩,
    ⟨(some 39), 0, (some (38, true)), (.call (.k (.fn (.func 12) [] [])) [])⟩,
    ⟨(some 40), 0, none, (.op (.pick (.t 38) (.t 39) (.k (.d (.bool false)))))⟩,
    ⟨(some 4), 0, none, (.op (.mov (.t 40)))⟩])
  (.ret))))
theorem cc5 : Try.f5.body.bind (compC Try.prog) = some ac5 := by kernel_rfl
theorem go5 {vals : List V} {v : V} (ac : AC) (he : ac.erase = ac5) (hw : wpC Try.prog 0 ac (retQ [.tmp 4] v) ⟨vals ++ List.replicate (41 - vals.length) (.tup []), []⟩) : CallP Try.prog 5 vals v :=
  call_of Try.func5 rfl rfl rfl (cc5.trans (congrArg some he.symm)) hw
theorem gi5 {vals : List V} {rows : Go.Vx.Rows} {K : V → Go.Vx.Rows → Prop} (ac : AC) (he : ac.erase = ac5) (hw : wpC Try.prog rows.length ac (retI [.tmp 4] K) ⟨vals ++ List.replicate (41 - vals.length) (.tup []), rows⟩) : InlP Try.prog 5 vals rows K :=
  inl_of' Try.func5 rfl rfl rfl (cc5.trans (congrArg some he.symm)) hw
theorem gm5 {vals : List V} {v : V} {sz : Nat} {es es' : List (List V)} (ac : AC) (he : ac.erase = ac5) (hw : wpC Try.prog 1 ac (retM [.tmp 4] v sz es') ⟨vals ++ List.replicate (41 - vals.length) (.tup []), [.live sz es]⟩) : CallM Try.prog 5 vals sz es v es' :=
  callM_of' Try.func5 rfl rfl rfl (cc5.trans (congrArg some he.symm)) hw

/-- testbench/testbenchlaw06.RngDifferent -/
def ac6 : AC :=
  .seq (.reg 1 [⟨(some 2), 0, none, (.op (.box 2 (.t 0)))⟩,
    ⟨(some 4), 1, none, (.op (.mov (.k (.d (.bool false)))))⟩])
  (.seq (.reg 1 [⟨(some 10), 0, none, (.op (.load true 2 (.t 2)))⟩,
    ⟨(some 11), 0, none, (.call (.k (.fn (.func 18) [] [])) [(.t 10)])⟩,
    ⟨(some 9), 0, none, (.op (.mov (.t 11)))⟩,
    ⟨(some 12), 0, none, (.op (.ext (.t 9) 0))⟩,
    ⟨(some 13), 0, none, (.op (.ext (.t 9) 1))⟩,
    ⟨(some 6), 0, none, (.op (.alloc [(.int .u64 0), (.int .u64 0)]))⟩,
    ⟨(some 5), 1, none, (.op (.mov (.t 12)))⟩,
    ⟨none, 1, none, (.op (.store 2 (.t 6) (.t 13)))⟩])
  (.seq (.reg 1 [⟨(some 15), 0, none, (.op (.fldA 0 (.t 2)))⟩,
    ⟨(some 16), 0, none, (.op (.load false 1 (.t 15)))⟩,
    ⟨(some 17), 0, none, (.op (.mov (.t 1)))⟩,
    ⟨(some 18), 0, none, (.op (.build [(.int .u64 0), (.int .u64 0)] [(0, 1, (.t 16)), (1, 1, (.t 17))]))⟩,
    ⟨(some 19), 0, none, (.call (.k (.fn (.func 18) [] [])) [(.t 18)])⟩,
    ⟨(some 14), 0, none, (.op (.mov (.t 19)))⟩,
    ⟨(some 20), 0, none, (.op (.ext (.t 14) 0))⟩,
    ⟨(some 21), 0, none, (.op (.ext (.t 14) 1))⟩,
    ⟨(some 8), 0, none, (.op (.alloc [(.int .u64 0), (.int .u64 0)]))⟩,
    ⟨(some 7), 1, none, (.op (.mov (.t 20)))⟩,
    ⟨none, 1, none, (.op (.store 2 (.t 8) (.t 21)))⟩])
  (.seq (.reg 0 [⟨(some 22), 0, none, (.op (.mov (.t 5)))⟩,
    ⟨(some 23), 0, none, (.op (.mov (.t 7)))⟩,
    ⟨(some 24), 0, none, (.op (.bin .eql (.t 22) (.t 23)))⟩,
    ⟨(some 25), 0, none, (.op (.fldA 1 (.t 2)))⟩,
    ⟨(some 26), 0, none, (.op (.load false 1 (.t 25)))⟩,
    ⟨(some 27), 0, none, (.op (.mov (.t 1)))⟩,
    ⟨(some 28), 0, none, (.op (.bin .eql (.t 26) (.t 27)))⟩,
    ⟨(some 29), 0, none, (.op (.eqB false (.t 24) (.t 28)))⟩,
    ⟨(some 30), 0, none, (.op (.mov (.t 29)))⟩,
    ⟨(some 31), 0, (some (30, true)), (.call (.k (.fn (.func 12) [] [])) [])⟩,
    ⟨(some 32), 0, none, (.op (.pick (.t 30) (.t 31) (.k (.d (.bool false)))))⟩,
    ⟨(some 4), 0, none, (.op (.mov (.t 32)))⟩])
  (.ret))))
theorem cc6 : Try.f6.body.bind (compC Try.prog) = some ac6 := by kernel_rfl
theorem go6 {vals : List V} {v : V} (ac : AC) (he : ac.erase = ac6) (hw : wpC Try.prog 0 ac (retQ [.tmp 4] v) ⟨vals ++ List.replicate (33 - vals.length) (.tup []), []⟩) : CallP Try.prog 6 vals v :=
  call_of Try.func6 rfl rfl rfl (cc6.trans (congrArg some he.symm)) hw
theorem gi6 {vals : List V} {rows : Go.Vx.Rows} {K : V → Go.Vx.Rows → Prop} (ac : AC) (he : ac.erase = ac6) (hw : wpC Try.prog rows.length ac (retI [.tmp 4] K) ⟨vals ++ List.replicate (33 - vals.length) (.tup []), rows⟩) : InlP Try.prog 6 vals rows K :=
  inl_of' Try.func6 rfl rfl rfl (cc6.trans (congrArg some he.symm)) hw
theorem gm6 {vals : List V} {v : V} {sz : Nat} {es es' : List (List V)} (ac : AC) (he : ac.erase = ac6) (hw : wpC Try.prog 1 ac (retM [.tmp 4] v sz es') ⟨vals ++ List.replicate (33 - vals.length) (.tup []), [.live sz es]⟩) : CallM Try.prog 6 vals sz es v es' :=
  callM_of' Try.func6 rfl rfl rfl (cc6.trans (congrArg some he.symm)) hw

/-- testbench/testbenchlaw06.RngPermutes -/
def ac7 : AC :=
  .seq (.reg 1 [⟨(some 2), 0, none, (.op (.box 2 (.t 0)))⟩,
    ⟨(some 4), 1, none, (.op (.mov (.k (.d (.bool false)))))⟩])
  (.seq (.reg 0 [⟨(some 15), 0, none, (.op (.mov (.t 1)))⟩,
    ⟨(some 16), 0, none, (.op (.conv .i64 (.t 15)))⟩,
    ⟨(some 17), 0, none, (.op (.bin .rem (.t 16) (.k (.d (.int .i64 201)))))⟩,
    ⟨(some 5), 0, none, (.op (.mov (.t 17)))⟩])
  (.seq (.reg 1 [⟨(some 19), 0, none, (.op (.load true 2 (.t 2)))⟩,
    ⟨(some 20), 0, none, (.op (.mov (.t 5)))⟩,
    ⟨(some 21), 0, none, (.call (.k (.fn (.func 15) [] [])) [(.t 19), (.t 20)])⟩,
    ⟨(some 18), 0, none, (.op (.mov (.t 21)))⟩,
    ⟨(some 22), 0, none, (.op (.ext (.t 18) 0))⟩,
    ⟨(some 23), 0, none, (.op (.ext (.t 18) 1))⟩,
    ⟨(some 24), 0, none, (.op (.ext (.t 18) 2))⟩,
    ⟨(some 7), 0, none, (.op (.alloc [(.int .u64 0), (.int .u64 0)]))⟩,
    ⟨(some 6), 1, none, (.op (.mov (.t 22)))⟩,
    ⟨none, 1, none, (.op (.store 2 (.t 7) (.t 23)))⟩,
    ⟨(some 8), 1, none, (.op (.mov (.t 24)))⟩])
  (.seq (.seq (.reg 0 [⟨(some 25), 0, none, (.op (.mov (.t 8)))⟩,
    ⟨(some 26), 0, none, (.op (.bin .neq (.t 25) (.k (.d (.int .i64 0)))))⟩,
    ⟨(some 27), 0, none, (.op (.mov (.t 26)))⟩,
    ⟨(some 28), 0, (some (27, false)), (.op (.mov (.t 6)))⟩,
    ⟨(some 29), 0, (some (27, false)), (.op (.len false (.t 28)))⟩,
    ⟨(some 30), 0, (some (27, false)), (.op (.mov (.t 5)))⟩,
    ⟨(some 31), 0, (some (27, false)), (.op (.bin .neq (.t 29) (.t 30)))⟩,
    ⟨(some 32), 0, none, (.op (.pick (.t 27) (.k (.d (.bool true))) (.t 31)))⟩])
  (.cond (.t 32)
    (.seq (.reg 0 [⟨(some 4), 0, none, (.op (.mov (.k (.d (.bool false)))))⟩])
    (.ret))
    (.skip)))
  (.seq (.reg 1 [⟨(some 33), 0, none, (.op (.mov (.t 5)))⟩,
    ⟨(some 34), 0, none, (.op (.mksl 1 1 [(.bool false)] (.t 33) (.t 33)))⟩,
    ⟨(some 9), 1, none, (.op (.mov (.t 34)))⟩])
  (.seq (.seq (.reg 0 [⟨(some 35), 0, none, (.op (.mov (.t 6)))⟩,
    ⟨(some 36), 0, none, (.op (.len false (.t 35)))⟩,
    ⟨(some 37), 0, none, (.op (.mov (.k (.d (.int .i64 0)))))⟩])
  (.block 0
   (.loop
    (.seq (.reg 0 [⟨(some 38), 0, none, (.op (.bin .lss (.t 37) (.t 36)))⟩])
    (.seq (.cond (.t 38)
      (.skip)
      (.exit 0))
    (.seq (.block 1
     (.seq (.reg 0 [⟨(some 39), 0, none, (.op (.idxA 1 none (.t 35) (.t 37)))⟩,
       ⟨(some 40), 0, none, (.op (.load false 1 (.t 39)))⟩,
       ⟨(some 11), 0, none, (.op (.mov (.t 40)))⟩])
     (.seq (.seq (.reg 0 [⟨(some 41), 0, none, (.op (.mov (.t 11)))⟩,
       ⟨(some 42), 0, none, (.op (.bin .lss (.t 41) (.k (.d (.int .i64 0)))))⟩,
       ⟨(some 43), 0, none, (.op (.mov (.t 42)))⟩,
       ⟨(some 44), 0, (some (43, false)), (.op (.mov (.t 11)))⟩,
       ⟨(some 45), 0, (some (43, false)), (.op (.mov (.t 5)))⟩,
       ⟨(some 46), 0, (some (43, false)), (.op (.bin .geq (.t 44) (.t 45)))⟩,
       ⟨(some 47), 0, none, (.op (.pick (.t 43) (.k (.d (.bool true))) (.t 46)))⟩,
       ⟨(some 48), 0, none, (.op (.mov (.t 47)))⟩,
       ⟨(some 49), 0, (some (48, false)), (.op (.mov (.t 9)))⟩,
       ⟨(some 50), 0, (some (48, false)), (.op (.mov (.t 11)))⟩,
       ⟨(some 51), 0, (some (48, false)), (.op (.idxA 1 none (.t 49) (.t 50)))⟩,
       ⟨(some 52), 0, (some (48, false)), (.op (.load false 1 (.t 51)))⟩,
       ⟨(some 53), 0, none, (.op (.pick (.t 48) (.k (.d (.bool true))) (.t 52)))⟩])
     (.cond (.t 53)
       (.seq (.reg 0 [⟨(some 4), 0, none, (.op (.mov (.k (.d (.bool false)))))⟩])
       (.ret))
       (.skip)))
     (.reg 0 [⟨(some 54), 0, none, (.op (.mov (.t 9)))⟩,
       ⟨(some 55), 0, none, (.op (.mov (.t 11)))⟩,
       ⟨(some 56), 0, none, (.op (.idxA 1 none (.t 54) (.t 55)))⟩,
       ⟨none, 0, none, (.op (.store 1 (.t 56) (.k (.d (.bool true)))))⟩]))))
    (.reg 0 [⟨(some 57), 0, none, (.op (.bin .add (.t 37) (.k (.d (.int .i64 1)))))⟩,
      ⟨(some 37), 0, none, (.op (.mov (.t 57)))⟩])))))))
  (.seq (.reg 1 [⟨(some 58), 0, none, (.op (.load true 2 (.t 2)))⟩,
    ⟨(some 12), 0, none, (.op (.alloc [(.int .u64 0), (.int .u64 0)]))⟩,
    ⟨none, 1, none, (.op (.store 2 (.t 12) (.t 58)))⟩])
  (.seq (.seq (.reg 0 [⟨(some 59), 0, none, (.op (.mov (.t 5)))⟩,
    ⟨(some 13), 0, none, (.op (.mov (.t 59)))⟩])
  (.block 2
   (.loop
    (.seq (.seq (.reg 0 [⟨(some 60), 0, none, (.op (.mov (.t 13)))⟩,
      ⟨(some 61), 0, none, (.op (.bin .gtr (.t 60) (.k (.d (.int .i64 1)))))⟩])
    (.cond (.t 61)
      (.skip)
      (.exit 2)))
    (.seq (.block 3
     (.seq (.reg 0 [⟨(some 14), 0, none, (.op (.mov (.k (.d (.int .i64 0)))))⟩])
     (.seq (.reg 0 [⟨(some 65), 0, none, (.op (.load true 2 (.t 12)))⟩,
       ⟨(some 66), 0, none, (.op (.mov (.t 13)))⟩,
       ⟨(some 67), 0, none, (.call (.k (.fn (.func 10) [] [])) [(.t 65), (.t 66)])⟩,
       ⟨(some 64), 0, none, (.op (.mov (.t 67)))⟩,
       ⟨(some 68), 0, none, (.op (.ext (.t 64) 0))⟩,
       ⟨(some 69), 0, none, (.op (.ext (.t 64) 1))⟩,
       ⟨(some 70), 0, none, (.op (.ext (.t 64) 2))⟩,
       ⟨none, 0, none, (.op (.store 2 (.t 12) (.t 69)))⟩,
       ⟨(some 14), 0, none, (.op (.mov (.t 70)))⟩])
     (.seq (.reg 0 [⟨(some 71), 0, none, (.op (.mov (.t 14)))⟩,
       ⟨(some 72), 0, none, (.op (.bin .neq (.t 71) (.k (.d (.int .i64 0)))))⟩])
     (.cond (.t 72)
       (.seq (.reg 0 [⟨(some 4), 0, none, (.op (.mov (.k (.d (.bool false)))))⟩])
       (.ret))
       (.skip))))))
    (.reg 0 [⟨(some 62), 0, none, (.op (.mov (.t 13)))⟩,
      ⟨(some 63), 0, none, (.op (.bin .sub (.t 62) (.k (.d (.int .i64 1)))))⟩,
      ⟨(some 13), 0, none, (.op (.mov (.t 63)))⟩]))))))
  (.seq (.reg 0 [⟨(some 73), 0, none, (.op (.load true 2 (.t 7)))⟩,
    ⟨(some 74), 0, none, (.op (.load true 2 (.t 12)))⟩,
    ⟨(some 75), 0, none, (.op (.eqS false [0, 0] (.t 73) (.t 74)))⟩,
    ⟨(some 76), 0, none, (.op (.mov (.t 75)))⟩,
    ⟨(some 77), 0, (some (76, true)), (.call (.k (.fn (.func 12) [] [])) [])⟩,
    ⟨(some 78), 0, none, (.op (.pick (.t 76) (.t 77) (.k (.d (.bool false)))))⟩,
    ⟨(some 4), 0, none, (.op (.mov (.t 78)))⟩])
  (.ret)))))))))
theorem cc7 : Try.f7.body.bind (compC Try.prog) = some ac7 := by kernel_rfl
theorem go7 {vals : List V} {v : V} (ac : AC) (he : ac.erase = ac7) (hw : wpC Try.prog 0 ac (retQ [.tmp 4] v) ⟨vals ++ List.replicate (79 - vals.length) (.tup []), []⟩) : CallP Try.prog 7 vals v :=
  call_of Try.func7 rfl rfl rfl (cc7.trans (congrArg some he.symm)) hw
theorem gi7 {vals : List V} {rows : Go.Vx.Rows} {K : V → Go.Vx.Rows → Prop} (ac : AC) (he : ac.erase = ac7) (hw : wpC Try.prog rows.length ac (retI [.tmp 4] K) ⟨vals ++ List.replicate (79 - vals.length) (.tup []), rows⟩) : InlP Try.prog 7 vals rows K :=
  inl_of' Try.func7 rfl rfl rfl (cc7.trans (congrArg some he.symm)) hw
theorem gm7 {vals : List V} {v : V} {sz : Nat} {es es' : List (List V)} (ac : AC) (he : ac.erase = ac7) (hw : wpC Try.prog 1 ac (retM [.tmp 4] v sz es') ⟨vals ++ List.replicate (79 - vals.length) (.tup []), [.live sz es]⟩) : CallM Try.prog 7 vals sz es v es' :=
  callM_of' Try.func7 rfl rfl rfl (cc7.trans (congrArg some he.symm)) hw

/-- testbench/testbenchlaw06.RngStreams -/
def ac8 : AC :=
  .seq (.reg 1 [⟨(some 3), 0, none, (.op (.box 2 (.t 0)))⟩,
    ⟨(some 6), 1, none, (.op (.mov (.k (.d (.bool false)))))⟩])
  (.seq (.reg 1 [⟨(some 12), 0, none, (.op (.load true 2 (.t 3)))⟩,
    ⟨(some 13), 0, none, (.call (.k (.fn (.func 18) [] [])) [(.t 12)])⟩,
    ⟨(some 11), 0, none, (.op (.mov (.t 13)))⟩,
    ⟨(some 14), 0, none, (.op (.ext (.t 11) 0))⟩,
    ⟨(some 15), 0, none, (.op (.ext (.t 11) 1))⟩,
    ⟨(some 8), 0, none, (.op (.alloc [(.int .u64 0), (.int .u64 0)]))⟩,
    ⟨(some 7), 1, none, (.op (.mov (.t 14)))⟩,
    ⟨none, 1, none, (.op (.store 2 (.t 8) (.t 15)))⟩])
  (.seq (.reg 1 [⟨(some 17), 0, none, (.op (.load true 2 (.t 3)))⟩,
    ⟨(some 18), 0, none, (.call (.k (.fn (.func 19) [] [])) [(.t 17)])⟩,
    ⟨(some 16), 0, none, (.op (.mov (.t 18)))⟩,
    ⟨(some 19), 0, none, (.op (.ext (.t 16) 0))⟩,
    ⟨(some 20), 0, none, (.op (.ext (.t 16) 1))⟩,
    ⟨(some 10), 0, none, (.op (.alloc [(.int .u64 0), (.int .u64 0)]))⟩,
    ⟨(some 9), 1, none, (.op (.mov (.t 19)))⟩,
    ⟨none, 1, none, (.op (.store 2 (.t 10) (.t 20)))⟩])
  (.seq (.regD 0 [(⟨(some 21), 0, none, (.op (.fldA 0 (.t 3)))⟩, []),
    (⟨(some 22), 0, none, (.op (.load false 1 (.t 21)))⟩, [0]),
    (⟨(some 23), 0, none, (.call (.k (.fn (.func 20) [] [])) [(.t 22)])⟩, [1, 0]),
    (⟨(some 24), 0, none, (.op (.fldA 0 (.t 3)))⟩, []),
    (⟨(some 25), 0, none, (.op (.load false 1 (.t 24)))⟩, [3]),
    (⟨(some 26), 0, none, (.call (.k (.fn (.func 21) [] [])) [(.t 25)])⟩, [4, 3, 2, 1, 0]),
    (⟨(some 27), 0, none, (.op (.eqS false [0, 0] (.t 23) (.t 26)))⟩, [2, 1, 0, 5, 4, 3]),
    (⟨(some 28), 0, none, (.op (.mov (.t 27)))⟩, [6, 2, 1, 0, 5, 4, 3]),
    (⟨(some 29), 0, (some (28, true)), (.op (.load true 2 (.t 3)))⟩, [7, 6, 2, 1, 0, 5, 4, 3]),
    (⟨(some 30), 0, (some (28, true)), (.op (.mov (.t 1)))⟩, [7, 6, 2, 1, 0, 5, 4, 3]),
    (⟨(some 31), 0, (some (28, true)), (.call (.k (.fn (.func 22) [] [])) [(.t 29), (.t 30)])⟩, [8, 7, 6, 2, 1, 0, 5, 4, 3, 9]),
    (⟨(some 32), 0, (some (28, true)), (.op (.load true 2 (.t 3)))⟩, [7, 6, 2, 1, 0, 5, 4, 3]),
    (⟨(some 33), 0, (some (28, true)), (.op (.mov (.t 1)))⟩, [7, 6, 2, 1, 0, 5, 4, 3]),
    (⟨(some 34), 0, (some (28, true)), (.call (.k (.fn (.func 23) [] [])) [(.t 32), (.t 33)])⟩, [11, 7, 6, 2, 1, 0, 5, 4, 3, 12, 10, 8, 9]),
    (⟨(some 35), 0, (some (28, true)), (.op (.eqS false [0, 0] (.t 31) (.t 34)))⟩, [10, 8, 7, 6, 2, 1, 0, 5, 4, 3, 9, 13, 11, 12]),
    (⟨(some 36), 0, none, (.op (.pick (.t 28) (.t 35) (.k (.d (.bool false)))))⟩, [7, 6, 2, 1, 0, 5, 4, 3, 14, 10, 8, 9, 13, 11, 12]),
    (⟨(some 37), 0, none, (.op (.mov (.t 36)))⟩, [15, 7, 6, 2, 1, 0, 5, 4, 3, 14, 10, 8, 9, 13, 11, 12]),
    (⟨(some 38), 0, (some (37, true)), (.op (.mov (.t 7)))⟩, [16, 15, 7, 6, 2, 1, 0, 5, 4, 3, 14, 10, 8, 9, 13, 11, 12]),
    (⟨(some 39), 0, (some (37, true)), (.op (.mov (.t 9)))⟩, [16, 15, 7, 6, 2, 1, 0, 5, 4, 3, 14, 10, 8, 9, 13, 11, 12]),
    (⟨(some 40), 0, (some (37, true)), (.op (.bin .eql (.t 38) (.t 39)))⟩, [17, 16, 15, 7, 6, 2, 1, 0, 5, 4, 3, 14, 10, 8, 9, 13, 11, 12, 18]),
    (⟨(some 41), 0, none, (.op (.pick (.t 37) (.t 40) (.k (.d (.bool false)))))⟩, [16, 15, 7, 6, 2, 1, 0, 5, 4, 3, 14, 10, 8, 9, 13, 11, 12, 19, 17, 18]),
    (⟨(some 42), 0, none, (.op (.mov (.t 41)))⟩, [20, 16, 15, 7, 6, 2, 1, 0, 5, 4, 3, 14, 10, 8, 9, 13, 11, 12, 19, 17, 18]),
    (⟨(some 43), 0, (some (42, true)), (.op (.load true 2 (.t 8)))⟩, [21, 20, 16, 15, 7, 6, 2, 1, 0, 5, 4, 3, 14, 10, 8, 9, 13, 11, 12, 19, 17, 18]),
    (⟨(some 44), 0, (some (42, true)), (.op (.load true 2 (.t 10)))⟩, [21, 20, 16, 15, 7, 6, 2, 1, 0, 5, 4, 3, 14, 10, 8, 9, 13, 11, 12, 19, 17, 18]),
    (⟨(some 45), 0, (some (42, true)), (.op (.eqS false [0, 0] (.t 43) (.t 44)))⟩, [22, 21, 20, 16, 15, 7, 6, 2, 1, 0, 5, 4, 3, 14, 10, 8, 9, 13, 11, 12, 19, 17, 18, 23]),
    (⟨(some 46), 0, none, (.op (.pick (.t 42) (.t 45) (.k (.d (.bool false)))))⟩, [21, 20, 16, 15, 7, 6, 2, 1, 0, 5, 4, 3, 14, 10, 8, 9, 13, 11, 12, 19, 17, 18, 24, 22, 23]),
    (⟨(some 47), 0, none, (.op (.mov (.t 46)))⟩, [25, 21, 20, 16, 15, 7, 6, 2, 1, 0, 5, 4, 3, 14, 10, 8, 9, 13, 11, 12, 19, 17, 18, 24, 22, 23]),
    (⟨(some 48), 0, (some (47, true)), (.op (.load true 2 (.t 3)))⟩, [26, 25, 21, 20, 16, 15, 7, 6, 2, 1, 0, 5, 4, 3, 14, 10, 8, 9, 13, 11, 12, 19, 17, 18, 24, 22, 23]),
    (⟨(some 49), 0, (some (47, true)), (.op (.mov (.t 2)))⟩, [26, 25, 21, 20, 16, 15, 7, 6, 2, 1, 0, 5, 4, 3, 14, 10, 8, 9, 13, 11, 12, 19, 17, 18, 24, 22, 23]),
    (⟨(some 50), 0, (some (47, true)), (.call (.k (.fn (.func 24) [] [])) [(.t 48), (.t 49)])⟩, [27, 26, 25, 21, 20, 16, 15, 7, 6, 2, 1, 0, 5, 4, 3, 14, 10, 8, 9, 13, 11, 12, 19, 17, 18, 24, 22, 23, 28]),
    (⟨(some 51), 0, (some (47, true)), (.op (.load true 2 (.t 3)))⟩, [26, 25, 21, 20, 16, 15, 7, 6, 2, 1, 0, 5, 4, 3, 14, 10, 8, 9, 13, 11, 12, 19, 17, 18, 24, 22, 23]),
    (⟨(some 52), 0, (some (47, true)), (.op (.mov (.t 2)))⟩, [26, 25, 21, 20, 16, 15, 7, 6, 2, 1, 0, 5, 4, 3, 14, 10, 8, 9, 13, 11, 12, 19, 17, 18, 24, 22, 23]),
    (⟨(some 53), 0, (some (47, true)), (.call (.k (.fn (.func 25) [] [])) [(.t 51), (.t 52)])⟩, [30, 26, 25, 21, 20, 16, 15, 7, 6, 2, 1, 0, 5, 4, 3, 14, 10, 8, 9, 13, 11, 12, 19, 17, 18, 24, 22, 23, 31, 29, 27, 28]),
    (⟨(some 54), 0, (some (47, true)), (.op (.eqS false [0, 0] (.t 50) (.t 53)))⟩, [29, 27, 26, 25, 21, 20, 16, 15, 7, 6, 2, 1, 0, 5, 4, 3, 14, 10, 8, 9, 13, 11, 12, 19, 17, 18, 24, 22, 23, 28, 32, 30, 31]),
    (⟨(some 55), 0, none, (.op (.pick (.t 47) (.t 54) (.k (.d (.bool false)))))⟩, [26, 25, 21, 20, 16, 15, 7, 6, 2, 1, 0, 5, 4, 3, 14, 10, 8, 9, 13, 11, 12, 19, 17, 18, 24, 22, 23, 33, 29, 27, 28, 32, 30, 31]),
    (⟨(some 56), 0, none, (.op (.mov (.t 55)))⟩, [34, 26, 25, 21, 20, 16, 15, 7, 6, 2, 1, 0, 5, 4, 3, 14, 10, 8, 9, 13, 11, 12, 19, 17, 18, 24, 22, 23, 33, 29, 27, 28, 32, 30, 31]),
    (⟨(some 57), 0, (some (56, true)), (.call (.k (.fn (.func 12) [] [])) [])⟩, [35, 34, 26, 25, 21, 20, 16, 15, 7, 6, 2, 1, 0, 5, 4, 3, 14, 10, 8, 9, 13, 11, 12, 19, 17, 18, 24, 22, 23, 33, 29, 27, 28, 32, 30, 31]),
    (⟨(some 58), 0, none, (.op (.pick (.t 56) (.t 57) (.k (.d (.bool false)))))⟩, [35, 34, 26, 25, 21, 20, 16, 15, 7, 6, 2, 1, 0, 5, 4, 3, 14, 10, 8, 9, 13, 11, 12, 19, 17, 18, 24, 22, 23, 33, 29, 27, 28, 32, 30, 31, 36]),
    (⟨(some 6), 0, none, (.op (.mov (.t 58)))⟩, [37, 35, 34, 26, 25, 21, 20, 16, 15, 7, 6, 2, 1, 0, 5, 4, 3, 14, 10, 8, 9, 13, 11, 12, 19, 17, 18, 24, 22, 23, 33, 29, 27, 28, 32, 30, 31, 36])])
  (.ret))))
theorem cc8 : Try.f8.body.bind (compC Try.prog) = some ac8 := by kernel_rfl
theorem go8 {vals : List V} {v : V} (ac : AC) (he : ac.erase = ac8) (hw : wpC Try.prog 0 ac (retQ [.tmp 6] v) ⟨vals ++ List.replicate (59 - vals.length) (.tup []), []⟩) : CallP Try.prog 8 vals v :=
  call_of Try.func8 rfl rfl rfl (cc8.trans (congrArg some he.symm)) hw
theorem gi8 {vals : List V} {rows : Go.Vx.Rows} {K : V → Go.Vx.Rows → Prop} (ac : AC) (he : ac.erase = ac8) (hw : wpC Try.prog rows.length ac (retI [.tmp 6] K) ⟨vals ++ List.replicate (59 - vals.length) (.tup []), rows⟩) : InlP Try.prog 8 vals rows K :=
  inl_of' Try.func8 rfl rfl rfl (cc8.trans (congrArg some he.symm)) hw
theorem gm8 {vals : List V} {v : V} {sz : Nat} {es es' : List (List V)} (ac : AC) (he : ac.erase = ac8) (hw : wpC Try.prog 1 ac (retM [.tmp 6] v sz es') ⟨vals ++ List.replicate (59 - vals.length) (.tup []), [.live sz es]⟩) : CallM Try.prog 8 vals sz es v es' :=
  callM_of' Try.func8 rfl rfl rfl (cc8.trans (congrArg some he.symm)) hw

/-- testbench/testbenchlaw06.RngHierarchy -/
def ac9 : AC :=
  .seq (.reg 1 [⟨(some 3), 0, none, (.op (.box 2 (.t 0)))⟩,
    ⟨(some 6), 1, none, (.op (.mov (.k (.d (.bool false)))))⟩])
  (.seq (.reg 1 [⟨(some 16), 0, none, (.op (.load true 2 (.t 3)))⟩,
    ⟨(some 17), 0, none, (.op (.mov (.t 1)))⟩,
    ⟨(some 18), 0, none, (.call (.k (.fn (.func 22) [] [])) [(.t 16), (.t 17)])⟩,
    ⟨(some 7), 0, none, (.op (.alloc [(.int .u64 0), (.int .u64 0)]))⟩,
    ⟨none, 1, none, (.op (.store 2 (.t 7) (.t 18)))⟩])
  (.seq (.reg 0 [⟨(some 19), 0, none, (.op (.mov (.t 2)))⟩,
    ⟨(some 20), 0, none, (.op (.conv .i64 (.t 19)))⟩,
    ⟨(some 21), 0, none, (.op (.bin .rem (.t 20) (.k (.d (.int .i64 101)))))⟩,
    ⟨(some 8), 0, none, (.op (.mov (.t 21)))⟩])
  (.seq (.regD 2 [(⟨(some 22), 0, none, (.op (.load true 2 (.t 3)))⟩, []),
    (⟨(some 23), 0, none, (.op (.load true 2 (.t 7)))⟩, []),
    (⟨(some 9), 0, none, (.op (.alloc [(.int .u64 0), (.int .u64 0)]))⟩, []),
    (⟨(some 10), 1, none, (.op (.alloc [(.int .u64 0), (.int .u64 0)]))⟩, []),
    (⟨none, 2, none, (.op (.store 2 (.t 9) (.t 22)))⟩, [2, 0, 3]),
    (⟨none, 2, none, (.op (.store 2 (.t 10) (.t 23)))⟩, [3, 1, 4, 2, 0])])
  (.seq (.seq (.reg 0 [⟨(some 11), 0, none, (.op (.mov (.k (.d (.int .i64 0)))))⟩])
  (.block 0
   (.loop
    (.seq (.seq (.reg 0 [⟨(some 24), 0, none, (.op (.mov (.t 11)))⟩,
      ⟨(some 25), 0, none, (.op (.mov (.t 8)))⟩,
      ⟨(some 26), 0, none, (.op (.bin .lss (.t 24) (.t 25)))⟩])
    (.cond (.t 26)
      (.skip)
      (.exit 0)))
    (.seq (.block 1
     (.seq (.reg 0 [⟨(some 30), 0, none, (.op (.load true 2 (.t 9)))⟩,
       ⟨(some 31), 0, none, (.call (.k (.fn (.func 18) [] [])) [(.t 30)])⟩,
       ⟨(some 29), 0, none, (.op (.mov (.t 31)))⟩,
       ⟨(some 32), 0, none, (.op (.ext (.t 29) 0))⟩,
       ⟨(some 33), 0, none, (.op (.ext (.t 29) 1))⟩,
       ⟨none, 0, none, (.op (.store 2 (.t 9) (.t 33)))⟩])
     (.reg 0 [⟨(some 35), 0, none, (.op (.load true 2 (.t 10)))⟩,
       ⟨(some 36), 0, none, (.call (.k (.fn (.func 18) [] [])) [(.t 35)])⟩,
       ⟨(some 34), 0, none, (.op (.mov (.t 36)))⟩,
       ⟨(some 37), 0, none, (.op (.ext (.t 34) 0))⟩,
       ⟨(some 38), 0, none, (.op (.ext (.t 34) 1))⟩,
       ⟨none, 0, none, (.op (.store 2 (.t 10) (.t 38)))⟩])))
    (.reg 0 [⟨(some 27), 0, none, (.op (.mov (.t 11)))⟩,
      ⟨(some 28), 0, none, (.op (.bin .add (.t 27) (.k (.d (.int .i64 1)))))⟩,
      ⟨(some 11), 0, none, (.op (.mov (.t 28)))⟩]))))))
  (.seq (.seq (.regD 0 [(⟨(some 39), 0, none, (.op (.load true 2 (.t 9)))⟩, []),
    (⟨(some 40), 0, none, (.op (.load true 2 (.t 3)))⟩, []),
    (⟨(some 41), 0, none, (.op (.mov (.t 8)))⟩, []),
    (⟨(some 42), 0, none, (.call (.k (.fn (.func 24) [] [])) [(.t 40), (.t 41)])⟩, [1, 2]),
    (⟨(some 43), 0, none, (.op (.eqS true [0, 0] (.t 39) (.t 42)))⟩, [0, 3, 1, 2]),
    (⟨(some 44), 0, none, (.op (.mov (.t 43)))⟩, [4, 0, 3, 1, 2]),
    (⟨(some 45), 0, (some (44, false)), (.op (.load true 2 (.t 10)))⟩, [5, 4, 0, 3, 1, 2]),
    (⟨(some 46), 0, (some (44, false)), (.op (.load true 2 (.t 7)))⟩, [5, 4, 0, 3, 1, 2]),
    (⟨(some 47), 0, (some (44, false)), (.op (.mov (.t 8)))⟩, [5, 4, 0, 3, 1, 2]),
    (⟨(some 48), 0, (some (44, false)), (.call (.k (.fn (.func 24) [] [])) [(.t 46), (.t 47)])⟩, [7, 5, 4, 0, 3, 1, 2, 8]),
    (⟨(some 49), 0, (some (44, false)), (.op (.eqS true [0, 0] (.t 45) (.t 48)))⟩, [6, 5, 4, 0, 3, 1, 2, 9, 7, 8]),
    (⟨(some 50), 0, none, (.op (.pick (.t 44) (.k (.d (.bool true))) (.t 49)))⟩, [5, 4, 0, 3, 1, 2, 10, 6, 9, 7, 8]),
    (⟨(some 51), 0, none, (.op (.mov (.t 50)))⟩, [11, 5, 4, 0, 3, 1, 2, 10, 6, 9, 7, 8]),
    (⟨(some 52), 0, (some (51, false)), (.op (.load true 2 (.t 9)))⟩, [12, 11, 5, 4, 0, 3, 1, 2, 10, 6, 9, 7, 8]),
    (⟨(some 53), 0, (some (51, false)), (.op (.mov (.t 1)))⟩, [12, 11, 5, 4, 0, 3, 1, 2, 10, 6, 9, 7, 8]),
    (⟨(some 54), 0, (some (51, false)), (.call (.k (.fn (.func 22) [] [])) [(.t 52), (.t 53)])⟩, [13, 12, 11, 5, 4, 0, 3, 1, 2, 10, 6, 9, 7, 8, 14]),
    (⟨(some 55), 0, (some (51, false)), (.op (.load true 2 (.t 7)))⟩, [12, 11, 5, 4, 0, 3, 1, 2, 10, 6, 9, 7, 8]),
    (⟨(some 56), 0, (some (51, false)), (.op (.eqS true [0, 0] (.t 54) (.t 55)))⟩, [15, 13, 12, 11, 5, 4, 0, 3, 1, 2, 10, 6, 9, 7, 8, 14, 16]),
    (⟨(some 57), 0, none, (.op (.pick (.t 51) (.k (.d (.bool true))) (.t 56)))⟩, [12, 11, 5, 4, 0, 3, 1, 2, 10, 6, 9, 7, 8, 17, 15, 13, 14, 16]),
    (⟨(some 58), 0, none, (.op (.mov (.t 57)))⟩, [18, 12, 11, 5, 4, 0, 3, 1, 2, 10, 6, 9, 7, 8, 17, 15, 13, 14, 16]),
    (⟨(some 59), 0, (some (58, false)), (.op (.load true 2 (.t 3)))⟩, [19, 18, 12, 11, 5, 4, 0, 3, 1, 2, 10, 6, 9, 7, 8, 17, 15, 13, 14, 16]),
    (⟨(some 60), 0, (some (58, false)), (.op (.mov (.t 2)))⟩, [19, 18, 12, 11, 5, 4, 0, 3, 1, 2, 10, 6, 9, 7, 8, 17, 15, 13, 14, 16]),
    (⟨(some 61), 0, (some (58, false)), (.op (.conv .i64 (.t 60)))⟩, [21, 19, 18, 12, 11, 5, 4, 0, 3, 1, 2, 10, 6, 9, 7, 8, 17, 15, 13, 14, 16]),
    (⟨(some 62), 0, (some (58, false)), (.call (.k (.fn (.func 24) [] [])) [(.t 59), (.t 61)])⟩, [20, 19, 18, 12, 11, 5, 4, 0, 3, 1, 2, 10, 6, 9, 7, 8, 17, 15, 13, 14, 16, 22, 21]),
    (⟨(some 63), 0, (some (58, false)), (.op (.mov (.t 1)))⟩, [19, 18, 12, 11, 5, 4, 0, 3, 1, 2, 10, 6, 9, 7, 8, 17, 15, 13, 14, 16]),
    (⟨(some 64), 0, (some (58, false)), (.call (.k (.fn (.func 22) [] [])) [(.t 62), (.t 63)])⟩, [23, 20, 19, 18, 12, 11, 5, 4, 0, 3, 1, 2, 10, 6, 9, 7, 8, 17, 15, 13, 14, 16, 22, 21, 24]),
    (⟨(some 65), 0, (some (58, false)), (.op (.load true 2 (.t 7)))⟩, [19, 18, 12, 11, 5, 4, 0, 3, 1, 2, 10, 6, 9, 7, 8, 17, 15, 13, 14, 16]),
    (⟨(some 66), 0, (some (58, false)), (.op (.eqS true [0, 0] (.t 64) (.t 65)))⟩, [25, 23, 20, 19, 18, 12, 11, 5, 4, 0, 3, 1, 2, 10, 6, 9, 7, 8, 17, 15, 13, 14, 16, 22, 21, 24, 26]),
    (⟨(some 67), 0, none, (.op (.pick (.t 58) (.k (.d (.bool true))) (.t 66)))⟩, [19, 18, 12, 11, 5, 4, 0, 3, 1, 2, 10, 6, 9, 7, 8, 17, 15, 13, 14, 16, 27, 25, 23, 20, 22, 21, 24, 26]),
    (⟨(some 68), 0, none, (.op (.mov (.t 67)))⟩, [28, 19, 18, 12, 11, 5, 4, 0, 3, 1, 2, 10, 6, 9, 7, 8, 17, 15, 13, 14, 16, 27, 25, 23, 20, 22, 21, 24, 26]),
    (⟨(some 69), 0, (some (68, false)), (.op (.fldA 1 (.t 7)))⟩, [29, 28, 19, 18, 12, 11, 5, 4, 0, 3, 1, 2, 10, 6, 9, 7, 8, 17, 15, 13, 14, 16, 27, 25, 23, 20, 22, 21, 24, 26]),
    (⟨(some 70), 0, (some (68, false)), (.op (.load false 1 (.t 69)))⟩, [30, 29, 28, 19, 18, 12, 11, 5, 4, 0, 3, 1, 2, 10, 6, 9, 7, 8, 17, 15, 13, 14, 16, 27, 25, 23, 20, 22, 21, 24, 26]),
    (⟨(some 71), 0, (some (68, false)), (.op (.bin .neq (.t 70) (.k (.d (.int .u64 0)))))⟩, [31, 30, 29, 28, 19, 18, 12, 11, 5, 4, 0, 3, 1, 2, 10, 6, 9, 7, 8, 17, 15, 13, 14, 16, 27, 25, 23, 20, 22, 21, 24, 26]),
    (⟨(some 72), 0, none, (.op (.pick (.t 68) (.k (.d (.bool true))) (.t 71)))⟩, [29, 28, 19, 18, 12, 11, 5, 4, 0, 3, 1, 2, 10, 6, 9, 7, 8, 17, 15, 13, 14, 16, 27, 25, 23, 20, 22, 21, 24, 26, 32, 31, 30])])
  (.cond (.t 72)
    (.seq (.reg 0 [⟨(some 6), 0, none, (.op (.mov (.k (.d (.bool false)))))⟩])
    (.ret))
    (.skip)))
  (.seq (.reg 1 [⟨(some 74), 0, none, (.op (.load true 2 (.t 9)))⟩,
    ⟨(some 75), 0, none, (.call (.k (.fn (.func 18) [] [])) [(.t 74)])⟩,
    ⟨(some 73), 0, none, (.op (.mov (.t 75)))⟩,
    ⟨(some 76), 0, none, (.op (.ext (.t 73) 0))⟩,
    ⟨(some 77), 0, none, (.op (.ext (.t 73) 1))⟩,
    ⟨(some 13), 0, none, (.op (.alloc [(.int .u64 0), (.int .u64 0)]))⟩,
    ⟨(some 12), 1, none, (.op (.mov (.t 76)))⟩,
    ⟨none, 1, none, (.op (.store 2 (.t 13) (.t 77)))⟩])
  (.seq (.reg 1 [⟨(some 79), 0, none, (.op (.fldA 0 (.t 3)))⟩,
    ⟨(some 80), 0, none, (.op (.load false 1 (.t 79)))⟩,
    ⟨(some 81), 0, none, (.op (.fldA 1 (.t 3)))⟩,
    ⟨(some 82), 0, none, (.op (.load false 1 (.t 81)))⟩,
    ⟨(some 83), 0, none, (.op (.mov (.t 8)))⟩,
    ⟨(some 84), 0, none, (.op (.conv .u64 (.t 83)))⟩,
    ⟨(some 85), 0, none, (.op (.bin .add (.t 82) (.t 84)))⟩,
    ⟨(some 86), 0, none, (.op (.build [(.int .u64 0), (.int .u64 0)] [(0, 1, (.t 80)), (1, 1, (.t 85))]))⟩,
    ⟨(some 87), 0, none, (.call (.k (.fn (.func 18) [] [])) [(.t 86)])⟩,
    ⟨(some 78), 0, none, (.op (.mov (.t 87)))⟩,
    ⟨(some 88), 0, none, (.op (.ext (.t 78) 0))⟩,
    ⟨(some 89), 0, none, (.op (.ext (.t 78) 1))⟩,
    ⟨(some 15), 0, none, (.op (.alloc [(.int .u64 0), (.int .u64 0)]))⟩,
    ⟨(some 14), 1, none, (.op (.mov (.t 88)))⟩,
    ⟨none, 1, none, (.op (.store 2 (.t 15) (.t 89)))⟩])
  (.seq (.regD 0 [(⟨(some 90), 0, none, (.op (.mov (.t 12)))⟩, []),
    (⟨(some 91), 0, none, (.op (.mov (.t 14)))⟩, []),
    (⟨(some 92), 0, none, (.op (.bin .eql (.t 90) (.t 91)))⟩, [0, 1]),
    (⟨(some 93), 0, none, (.op (.mov (.t 92)))⟩, [2, 0, 1]),
    (⟨(some 94), 0, (some (93, true)), (.op (.load true 2 (.t 3)))⟩, [3, 2, 0, 1]),
    (⟨(some 95), 0, (some (93, true)), (.op (.mov (.t 8)))⟩, [3, 2, 0, 1]),
    (⟨(some 96), 0, (some (93, true)), (.op (.bin .sub (.k (.d (.int .i64 (-1)))) (.t 95)))⟩, [5, 3, 2, 0, 1]),
    (⟨(some 97), 0, (some (93, true)), (.call (.k (.fn (.func 24) [] [])) [(.t 94), (.t 96)])⟩, [4, 3, 2, 0, 1, 6, 5]),
    (⟨(some 98), 0, (some (93, true)), (.op (.load true 2 (.t 3)))⟩, [3, 2, 0, 1]),
    (⟨(some 99), 0, (some (93, true)), (.op (.eqS false [0, 0] (.t 97) (.t 98)))⟩, [7, 4, 3, 2, 0, 1, 6, 5, 8]),
    (⟨(some 100), 0, none, (.op (.pick (.t 93) (.t 99) (.k (.d (.bool false)))))⟩, [3, 2, 0, 1, 9, 7, 4, 6, 5, 8]),
    (⟨(some 101), 0, none, (.op (.mov (.t 100)))⟩, [10, 3, 2, 0, 1, 9, 7, 4, 6, 5, 8]),
    (⟨(some 102), 0, (some (101, true)), (.call (.k (.fn (.func 12) [] [])) [])⟩, [11, 10, 3, 2, 0, 1, 9, 7, 4, 6, 5, 8]),
    (⟨(some 103), 0, none, (.op (.pick (.t 101) (.t 102) (.k (.d (.bool false)))))⟩, [11, 10, 3, 2, 0, 1, 9, 7, 4, 6, 5, 8, 12]),
    (⟨(some 6), 0, none, (.op (.mov (.t 103)))⟩, [13, 11, 10, 3, 2, 0, 1, 9, 7, 4, 6, 5, 8, 12])])
  (.ret)))))))))
theorem cc9 : Try.f9.body.bind (compC Try.prog) = some ac9 := by kernel_rfl
theorem go9 {vals : List V} {v : V} (ac : AC) (he : ac.erase = ac9) (hw : wpC Try.prog 0 ac (retQ [.tmp 6] v) ⟨vals ++ List.replicate (104 - vals.length) (.tup []), []⟩) : CallP Try.prog 9 vals v :=
  call_of Try.func9 rfl rfl rfl (cc9.trans (congrArg some he.symm)) hw
theorem gi9 {vals : List V} {rows : Go.Vx.Rows} {K : V → Go.Vx.Rows → Prop} (ac : AC) (he : ac.erase = ac9) (hw : wpC Try.prog rows.length ac (retI [.tmp 6] K) ⟨vals ++ List.replicate (104 - vals.length) (.tup []), rows⟩) : InlP Try.prog 9 vals rows K :=
  inl_of' Try.func9 rfl rfl rfl (cc9.trans (congrArg some he.symm)) hw
theorem gm9 {vals : List V} {v : V} {sz : Nat} {es es' : List (List V)} (ac : AC) (he : ac.erase = ac9) (hw : wpC Try.prog 1 ac (retM [.tmp 6] v sz es') ⟨vals ++ List.replicate (104 - vals.length) (.tup []), [.live sz es]⟩) : CallM Try.prog 9 vals sz es v es' :=
  callM_of' Try.func9 rfl rfl rfl (cc9.trans (congrArg some he.symm)) hw

/-- testbench/rng.Below -/
def ac10 : AC :=
  .seq (.reg 2 [⟨(some 2), 0, none, (.op (.box 2 (.t 0)))⟩,
    ⟨(some 4), 1, none, (.op (.mov (.k (.d (.int .i64 0)))))⟩,
    ⟨(some 5), 1, none, (.op (.alloc [(.int .u64 0), (.int .u64 0)]))⟩,
    ⟨(some 6), 2, none, (.op (.mov (.k (.d (.int .i64 0)))))⟩])
  (.seq (.seq (.reg 0 [⟨(some 8), 0, none, (.op (.mov (.t 1)))⟩,
    ⟨(some 9), 0, none, (.op (.bin .lss (.t 8) (.k (.d (.int .i64 1)))))⟩,
    ⟨(some 10), 0, none, (.op (.mov (.t 9)))⟩,
    ⟨(some 11), 0, (some (10, false)), (.op (.mov (.t 1)))⟩,
    ⟨(some 12), 0, (some (10, false)), (.op (.bin .gtr (.t 11) (.k (.d (.int .i64 4611686018427387904)))))⟩,
    ⟨(some 13), 0, none, (.op (.pick (.t 10) (.k (.d (.bool true))) (.t 12)))⟩])
  (.cond (.t 13)
    (.seq (.reg 0 [⟨(some 14), 0, none, (.op (.build [(.int .u64 0), (.int .u64 0)] []))⟩,
      ⟨(some 4), 0, none, (.op (.mov (.k (.d (.int .i64 0)))))⟩,
      ⟨none, 0, none, (.op (.store 2 (.t 5) (.t 14)))⟩,
      ⟨(some 6), 0, none, (.op (.mov (.k (.d (.int .i64 1)))))⟩])
    (.ret))
    (.skip)))
  (.seq (.reg 0 [⟨(some 15), 0, none, (.call (.k (.fn (.func 26) [] [])) [(.t 2)])⟩,
    ⟨(some 16), 0, none, (.op (.mov (.t 1)))⟩,
    ⟨(some 17), 0, none, (.call (.t 15) [(.t 16)])⟩,
    ⟨(some 7), 0, none, (.op (.mov (.t 17)))⟩])
  (.seq (.regD 0 [(⟨(some 18), 0, none, (.op (.mov (.t 7)))⟩, []),
    (⟨(some 19), 0, none, (.op (.load true 2 (.t 2)))⟩, []),
    (⟨(some 4), 0, none, (.op (.mov (.t 18)))⟩, [0]),
    (⟨none, 0, none, (.op (.store 2 (.t 5) (.t 19)))⟩, [1, 2, 0]),
    (⟨(some 6), 0, none, (.op (.mov (.k (.d (.int .i64 0)))))⟩, [3, 1, 2, 0])])
  (.ret))))
theorem cc10 : Try.f10.body.bind (compC Try.prog) = some ac10 := by kernel_rfl
theorem go10 {vals : List V} {v : V} (ac : AC) (he : ac.erase = ac10) (hw : wpC Try.prog 0 ac (retQ [.tmp 4, .cell 5 true 2, .tmp 6] v) ⟨vals ++ List.replicate (20 - vals.length) (.tup []), []⟩) : CallP Try.prog 10 vals v :=
  call_of Try.func10 rfl rfl rfl (cc10.trans (congrArg some he.symm)) hw
theorem gi10 {vals : List V} {rows : Go.Vx.Rows} {K : V → Go.Vx.Rows → Prop} (ac : AC) (he : ac.erase = ac10) (hw : wpC Try.prog rows.length ac (retI [.tmp 4, .cell 5 true 2, .tmp 6] K) ⟨vals ++ List.replicate (20 - vals.length) (.tup []), rows⟩) : InlP Try.prog 10 vals rows K :=
  inl_of' Try.func10 rfl rfl rfl (cc10.trans (congrArg some he.symm)) hw
theorem gm10 {vals : List V} {v : V} {sz : Nat} {es es' : List (List V)} (ac : AC) (he : ac.erase = ac10) (hw : wpC Try.prog 1 ac (retM [.tmp 4, .cell 5 true 2, .tmp 6] v sz es') ⟨vals ++ List.replicate (20 - vals.length) (.tup []), [.live sz es]⟩) : CallM Try.prog 10 vals sz es v es' :=
  callM_of' Try.func10 rfl rfl rfl (cc10.trans (congrArg some he.symm)) hw

/-- testbench/testbenchref06.Below -/
def ac11 : AC :=
  .seq (.reg 2 [⟨(some 2), 0, none, (.op (.box 2 (.t 0)))⟩,
    ⟨(some 4), 1, none, (.op (.mov (.k (.d (.int .i64 0)))))⟩,
    ⟨(some 5), 1, none, (.op (.alloc [(.int .u64 0), (.int .u64 0)]))⟩,
    ⟨(some 6), 2, none, (.op (.mov (.k (.d (.int .i64 0)))))⟩])
  (.seq (.seq (.reg 0 [⟨(some 12), 0, none, (.op (.mov (.t 1)))⟩,
    ⟨(some 13), 0, none, (.op (.bin .lss (.t 12) (.k (.d (.int .i64 1)))))⟩,
    ⟨(some 14), 0, none, (.op (.mov (.t 13)))⟩,
    ⟨(some 15), 0, (some (14, false)), (.op (.mov (.t 1)))⟩,
    ⟨(some 16), 0, (some (14, false)), (.op (.bin .gtr (.t 15) (.k (.d (.int .i64 4611686018427387904)))))⟩,
    ⟨(some 17), 0, none, (.op (.pick (.t 14) (.k (.d (.bool true))) (.t 16)))⟩])
  (.cond (.t 17)
    (.seq (.reg 0 [⟨(some 18), 0, none, (.op (.build [(.int .u64 0), (.int .u64 0)] []))⟩,
      ⟨(some 4), 0, none, (.op (.mov (.k (.d (.int .i64 0)))))⟩,
      ⟨none, 0, none, (.op (.store 2 (.t 5) (.t 18)))⟩,
      ⟨(some 6), 0, none, (.op (.mov (.k (.d (.int .i64 1)))))⟩])
    (.ret))
    (.skip)))
  (.seq (.reg 0 [⟨(some 19), 0, none, (.op (.mov (.t 1)))⟩,
    ⟨(some 20), 0, none, (.op (.conv .u64 (.t 19)))⟩,
    ⟨(some 7), 0, none, (.op (.mov (.t 20)))⟩])
  (.seq (.reg 0 [⟨(some 21), 0, none, (.op (.mov (.t 7)))⟩,
    ⟨(some 22), 0, none, (.op (.bin .rem (.k (.d (.int .u64 18446744073709551615))) (.t 21)))⟩,
    ⟨(some 8), 0, none, (.op (.mov (.t 22)))⟩])
  (.seq (.reg 0 [⟨(some 23), 0, none, (.op (.mov (.t 8)))⟩,
    ⟨(some 24), 0, none, (.op (.bin .add (.t 23) (.k (.d (.int .u64 1)))))⟩,
    ⟨(some 25), 0, none, (.op (.mov (.t 7)))⟩,
    ⟨(some 26), 0, none, (.op (.bin .rem (.t 24) (.t 25)))⟩,
    ⟨(some 8), 0, none, (.op (.mov (.t 26)))⟩])
  (.seq (.seq (.reg 0 [⟨(some 9), 0, none, (.op (.mov (.k (.d (.int .i64 0)))))⟩])
  (.block 0
   (.loop
    (.seq (.seq (.reg 0 [⟨(some 27), 0, none, (.op (.mov (.t 9)))⟩,
      ⟨(some 28), 0, none, (.op (.bin .lss (.t 27) (.k (.d (.int .i64 64)))))⟩])
    (.cond (.t 28)
      (.skip)
      (.exit 0)))
    (.seq (.block 1
     (.seq (.reg 1 [⟨(some 32), 0, none, (.op (.load true 2 (.t 2)))⟩,
       ⟨(some 33), 0, none, (.call (.k (.fn (.func 19) [] [])) [(.t 32)])⟩,
       ⟨(some 31), 0, none, (.op (.mov (.t 33)))⟩,
       ⟨(some 34), 0, none, (.op (.ext (.t 31) 0))⟩,
       ⟨(some 35), 0, none, (.op (.ext (.t 31) 1))⟩,
       ⟨(some 11), 0, none, (.op (.alloc [(.int .u64 0), (.int .u64 0)]))⟩,
       ⟨(some 10), 1, none, (.op (.mov (.t 34)))⟩,
       ⟨none, 1, none, (.op (.store 2 (.t 11) (.t 35)))⟩])
     (.seq (.reg 0 [⟨(some 36), 0, none, (.op (.load true 2 (.t 11)))⟩,
       ⟨none, 0, none, (.op (.store 2 (.t 2) (.t 36)))⟩])
     (.seq (.reg 0 [⟨(some 37), 0, none, (.op (.mov (.t 8)))⟩,
       ⟨(some 38), 0, none, (.op (.bin .eql (.t 37) (.k (.d (.int .u64 0)))))⟩,
       ⟨(some 39), 0, none, (.op (.mov (.t 38)))⟩,
       ⟨(some 40), 0, (some (39, false)), (.op (.mov (.t 10)))⟩,
       ⟨(some 41), 0, (some (39, false)), (.op (.mov (.t 8)))⟩,
       ⟨(some 42), 0, (some (39, false)), (.op (.un .neg (.t 41)))⟩,
       ⟨(some 43), 0, (some (39, false)), (.op (.bin .lss (.t 40) (.t 42)))⟩,
       ⟨(some 44), 0, none, (.op (.pick (.t 39) (.k (.d (.bool true))) (.t 43)))⟩,
       ⟨(some 45), 0, none, (.op (.mov (.t 44)))⟩,
       ⟨(some 46), 0, (some (45, false)), (.op (.mov (.t 9)))⟩,
       ⟨(some 47), 0, (some (45, false)), (.op (.bin .eql (.t 46) (.k (.d (.int .i64 63)))))⟩,
       ⟨(some 48), 0, none, (.op (.pick (.t 45) (.k (.d (.bool true))) (.t 47)))⟩])
     (.cond (.t 48)
       (.seq (.regD 0 [(⟨(some 49), 0, none, (.op (.mov (.t 10)))⟩, []),
         (⟨(some 50), 0, none, (.op (.mov (.t 7)))⟩, []),
         (⟨(some 51), 0, none, (.op (.bin .rem (.t 49) (.t 50)))⟩, [0, 1]),
         (⟨(some 52), 0, none, (.op (.conv .i64 (.t 51)))⟩, [2, 0, 1]),
         (⟨(some 53), 0, none, (.op (.load true 2 (.t 2)))⟩, []),
         (⟨(some 4), 0, none, (.op (.mov (.t 52)))⟩, [3, 2, 0, 1]),
         (⟨none, 0, none, (.op (.store 2 (.t 5) (.t 53)))⟩, [4, 5, 3, 2, 0, 1]),
         (⟨(some 6), 0, none, (.op (.mov (.k (.d (.int .i64 0)))))⟩, [6, 4, 5, 3, 2, 0, 1])])
       (.ret))
       (.skip))))))
    (.reg 0 [⟨(some 29), 0, none, (.op (.mov (.t 9)))⟩,
      ⟨(some 30), 0, none, (.op (.bin .add (.t 29) (.k (.d (.int .i64 1)))))⟩,
      ⟨(some 9), 0, none, (.op (.mov (.t 30)))⟩]))))))
  (.seq (.regD 0 [(⟨(some 54), 0, none, (.op (.load true 2 (.t 2)))⟩, []),
    (⟨(some 4), 0, none, (.op (.mov (.k (.d (.int .i64 0)))))⟩, []),
    (⟨none, 0, none, (.op (.store 2 (.t 5) (.t 54)))⟩, [0, 1]),
    (⟨(some 6), 0, none, (.op (.mov (.k (.d (.int .i64 0)))))⟩, [2, 0, 1])])
  (.ret)))))))
theorem cc11 : Try.f11.body.bind (compC Try.prog) = some ac11 := by kernel_rfl
theorem go11 {vals : List V} {v : V} (ac : AC) (he : ac.erase = ac11) (hw : wpC Try.prog 0 ac (retQ [.tmp 4, .cell 5 true 2, .tmp 6] v) ⟨vals ++ List.replicate (55 - vals.length) (.tup []), []⟩) : CallP Try.prog 11 vals v :=
  call_of Try.func11 rfl rfl rfl (cc11.trans (congrArg some he.symm)) hw
theorem gi11 {vals : List V} {rows : Go.Vx.Rows} {K : V → Go.Vx.Rows → Prop} (ac : AC) (he : ac.erase = ac11) (hw : wpC Try.prog rows.length ac (retI [.tmp 4, .cell 5 true 2, .tmp 6] K) ⟨vals ++ List.replicate (55 - vals.length) (.tup []), rows⟩) : InlP Try.prog 11 vals rows K :=
  inl_of' Try.func11 rfl rfl rfl (cc11.trans (congrArg some he.symm)) hw
theorem gm11 {vals : List V} {v : V} {sz : Nat} {es es' : List (List V)} (ac : AC) (he : ac.erase = ac11) (hw : wpC Try.prog 1 ac (retM [.tmp 4, .cell 5 true 2, .tmp 6] v sz es') ⟨vals ++ List.replicate (55 - vals.length) (.tup []), [.live sz es]⟩) : CallM Try.prog 11 vals sz es v es' :=
  callM_of' Try.func11 rfl rfl rfl (cc11.trans (congrArg some he.symm)) hw

/-- testbench/testbenchlaw06.awake -/
def ac12 : AC :=
  .seq (.reg 0 [⟨(some 0), 0, none, (.op (.mov (.k (.d (.bool false)))))⟩])
  (.seq (.reg 1 [⟨(some 14), 0, none, (.call (.k (.fn (.func 20) [] [])) [(.k (.d (.int .u64 7)))])⟩,
    ⟨(some 1), 0, none, (.op (.alloc [(.int .u64 0), (.int .u64 0)]))⟩,
    ⟨none, 1, none, (.op (.store 2 (.t 1) (.t 14)))⟩])
  (.seq (.reg 1 [⟨(some 16), 0, none, (.op (.load true 2 (.t 1)))⟩,
    ⟨(some 17), 0, none, (.call (.k (.fn (.func 10) [] [])) [(.t 16), (.k (.d (.int .i64 1)))])⟩,
    ⟨(some 15), 0, none, (.op (.mov (.t 17)))⟩,
    ⟨(some 18), 0, none, (.op (.ext (.t 15) 0))⟩,
    ⟨(some 19), 0, none, (.op (.ext (.t 15) 1))⟩,
    ⟨(some 20), 0, none, (.op (.ext (.t 15) 2))⟩,
    ⟨(some 3), 0, none, (.op (.alloc [(.int .u64 0), (.int .u64 0)]))⟩,
    ⟨(some 2), 1, none, (.op (.mov (.t 18)))⟩,
    ⟨none, 1, none, (.op (.store 2 (.t 3) (.t 19)))⟩,
    ⟨(some 4), 1, none, (.op (.mov (.t 20)))⟩])
  (.seq (.reg 2 [⟨(some 22), 0, none, (.op (.load true 2 (.t 1)))⟩,
    ⟨(some 23), 0, none, (.op (.buildSl 1 3 [(.int .i64 0)] [(0, (.k (.d (.int .i64 0)))), (1, (.k (.d (.int .i64 3)))), (2, (.k (.d (.int .i64 0))))]))⟩,
    ⟨(some 24), 1, none, (.call (.k (.fn (.func 13) [] [])) [(.t 22), (.t 23)])⟩,
    ⟨(some 21), 1, none, (.op (.mov (.t 24)))⟩,
    ⟨(some 25), 1, none, (.op (.ext (.t 21) 0))⟩,
    ⟨(some 26), 1, none, (.op (.ext (.t 21) 1))⟩,
    ⟨(some 27), 1, none, (.op (.ext (.t 21) 2))⟩,
    ⟨(some 6), 1, none, (.op (.alloc [(.int .u64 0), (.int .u64 0)]))⟩,
    ⟨(some 5), 2, none, (.op (.mov (.t 25)))⟩,
    ⟨none, 2, none, (.op (.store 2 (.t 6) (.t 26)))⟩,
    ⟨(some 7), 2, none, (.op (.mov (.t 27)))⟩])
  (.seq (.reg 1 [⟨(some 29), 0, none, (.op (.load true 2 (.t 1)))⟩,
    ⟨(some 30), 0, none, (.call (.k (.fn (.func 15) [] [])) [(.t 29), (.k (.d (.int .i64 0)))])⟩,
    ⟨(some 28), 0, none, (.op (.mov (.t 30)))⟩,
    ⟨(some 31), 0, none, (.op (.ext (.t 28) 0))⟩,
    ⟨(some 32), 0, none, (.op (.ext (.t 28) 1))⟩,
    ⟨(some 33), 0, none, (.op (.ext (.t 28) 2))⟩,
    ⟨(some 9), 0, none, (.op (.alloc [(.int .u64 0), (.int .u64 0)]))⟩,
    ⟨(some 8), 1, none, (.op (.mov (.t 31)))⟩,
    ⟨none, 1, none, (.op (.store 2 (.t 9) (.t 32)))⟩,
    ⟨(some 10), 1, none, (.op (.mov (.t 33)))⟩])
  (.seq (.reg 1 [⟨(some 35), 0, none, (.op (.load true 2 (.t 1)))⟩,
    ⟨(some 36), 0, none, (.call (.k (.fn (.func 15) [] [])) [(.t 35), (.k (.d (.int .i64 1)))])⟩,
    ⟨(some 34), 0, none, (.op (.mov (.t 36)))⟩,
    ⟨(some 37), 0, none, (.op (.ext (.t 34) 0))⟩,
    ⟨(some 38), 0, none, (.op (.ext (.t 34) 1))⟩,
    ⟨(some 39), 0, none, (.op (.ext (.t 34) 2))⟩,
    ⟨(some 12), 0, none, (.op (.alloc [(.int .u64 0), (.int .u64 0)]))⟩,
    ⟨(some 11), 1, none, (.op (.mov (.t 37)))⟩,
    ⟨none, 1, none, (.op (.store 2 (.t 12) (.t 38)))⟩,
    ⟨(some 13), 1, none, (.op (.mov (.t 39)))⟩])
  (.seq (.reg 0 [⟨(some 40), 0, none, (.op (.mov (.t 2)))⟩,
    ⟨(some 41), 0, none, (.op (.bin .eql (.t 40) (.k (.d (.int .i64 0)))))⟩,
    ⟨(some 42), 0, none, (.op (.mov (.t 41)))⟩,
    ⟨(some 43), 0, (some (42, true)), (.op (.fldA 0 (.t 3)))⟩,
    ⟨(some 44), 0, (some (42, true)), (.op (.load false 1 (.t 43)))⟩,
    ⟨(some 45), 0, (some (42, true)), (.op (.fldA 0 (.t 1)))⟩,
    ⟨(some 46), 0, (some (42, true)), (.op (.load false 1 (.t 45)))⟩,
    ⟨(some 47), 0, (some (42, true)), (.op (.bin .eql (.t 44) (.t 46)))⟩,
    ⟨(some 48), 0, none, (.op (.pick (.t 42) (.t 47) (.k (.d (.bool false)))))⟩,
    ⟨(some 49), 0, none, (.op (.mov (.t 48)))⟩,
    ⟨(some 50), 0, (some (49, true)), (.op (.fldA 1 (.t 3)))⟩,
    ⟨(some 51), 0, (some (49, true)), (.op (.load false 1 (.t 50)))⟩,
    ⟨(some 52), 0, (some (49, true)), (.op (.bin .eql (.t 51) (.k (.d (.int .u64 1)))))⟩,
    ⟨(some 53), 0, none, (.op (.pick (.t 49) (.t 52) (.k (.d (.bool false)))))⟩,
    ⟨(some 54), 0, none, (.op (.mov (.t 53)))⟩,
    ⟨(some 55), 0, (some (54, true)), (.op (.mov (.t 4)))⟩,
    ⟨(some 56), 0, (some (54, true)), (.op (.bin .eql (.t 55) (.k (.d (.int .i64 0)))))⟩,
    ⟨(some 57), 0, none, (.op (.pick (.t 54) (.t 56) (.k (.d (.bool false)))))⟩,
    ⟨(some 58), 0, none, (.op (.mov (.t 57)))⟩,
    ⟨(some 59), 0, (some (58, true)), (.op (.mov (.t 5)))⟩,
    ⟨(some 60), 0, (some (58, true)), (.op (.bin .eql (.t 59) (.k (.d (.int .i64 1)))))⟩,
    ⟨(some 61), 0, none, (.op (.pick (.t 58) (.t 60) (.k (.d (.bool false)))))⟩,
    ⟨(some 62), 0, none, (.op (.mov (.t 61)))⟩,
    ⟨(some 63), 0, (some (62, true)), (.op (.mov (.t 7)))⟩,
    ⟨(some 64), 0, (some (62, true)), (.op (.bin .eql (.t 63) (.k (.d (.int .i64 0)))))⟩,
    ⟨(some 65), 0, none, (.op (.pick (.t 62) (.t 64) (.k (.d (.bool false)))))⟩,
    ⟨(some 66), 0, none, (.op (.mov (.t 65)))⟩,
    ⟨(some 67), 0, (some (66, true)), (.op (.mov (.t 8)))⟩,
    ⟨(some 68), 0, (some (66, true)), (.op (.len false (.t 67)))⟩,
    ⟨(some 69), 0, (some (66, true)), (.op (.bin .eql (.t 68) (.k (.d (.int .i64 0)))))⟩,
    ⟨(some 70), 0, none, (.op (.pick (.t 66) (.t 69) (.k (.d (.bool false)))))⟩,
    ⟨(some 71), 0, none, (.op (.mov (.t 70)))⟩,
    ⟨(some 72), 0, (some (71, true)), (.op (.load true 2 (.t 9)))⟩,
    ⟨(some 73), 0, (some (71, true)), (.op (.load true 2 (.t 1)))⟩,
    ⟨(some 74), 0, (some (71, true)), (.op (.eqS false [0, 0] (.t 72) (.t 73)))⟩,
    ⟨(some 75), 0, none, (.op (.pick (.t 71) (.t 74) (.k (.d (.bool false)))))⟩,
    ⟨(some 76), 0, none, (.op (.mov (.t 75)))⟩,
    ⟨(some 77), 0, (some (76, true)), (.op (.mov (.t 10)))⟩,
    ⟨(some 78), 0, (some (76, true)), (.op (.bin .eql (.t 77) (.k (.d (.int .i64 0)))))⟩,
    ⟨(some 79), 0, none, (.op (.pick (.t 76) (.t 78) (.k (.d (.bool false)))))⟩,
    ⟨(some 80), 0, none, (.op (.mov (.t 79)))⟩,
    ⟨(some 81), 0, (some (80, true)), (.op (.mov (.t 11)))⟩,
    ⟨(some 82), 0, (some (80, true)), (.op (.len false (.t 81)))⟩,
    ⟨(some 83), 0, (some (80, true)), (.op (.bin .eql (.t 82) (.k (.d (.int .i64 1)))))⟩,
    ⟨(some 84), 0, none, (.op (.pick (.t 80) (.t 83) (.k (.d (.bool false)))))⟩,
    ⟨(some 85), 0, none, (.op (.mov (.t 84)))⟩,
    ⟨(some 86), 0, (some (85, true)), (.op (.mov (.t 13)))⟩,
    ⟨(some 87), 0, (some (85, true)), (.op (.bin .eql (.t 86) (.k (.d (.int .i64 0)))))⟩,
    ⟨(some 88), 0, none, (.op (.pick (.t 85) (.t 87) (.k (.d (.bool false)))))⟩,
    ⟨(some 0), 0, none, (.op (.mov (.t 88)))⟩])
  (.ret)))))))
theorem cc12 : Try.f12.body.bind (compC Try.prog) = some ac12 := by kernel_rfl
theorem go12 {vals : List V} {v : V} (ac : AC) (he : ac.erase = ac12) (hw : wpC Try.prog 0 ac (retQ [.tmp 0] v) ⟨vals ++ List.replicate (89 - vals.length) (.tup []), []⟩) : CallP Try.prog 12 vals v :=
  call_of Try.func12 rfl rfl rfl (cc12.trans (congrArg some he.symm)) hw
theorem gi12 {vals : List V} {rows : Go.Vx.Rows} {K : V → Go.Vx.Rows → Prop} (ac : AC) (he : ac.erase = ac12) (hw : wpC Try.prog rows.length ac (retI [.tmp 0] K) ⟨vals ++ List.replicate (89 - vals.length) (.tup []), rows⟩) : InlP Try.prog 12 vals rows K :=
  inl_of' Try.func12 rfl rfl rfl (cc12.trans (congrArg some he.symm)) hw
theorem gm12 {vals : List V} {v : V} {sz : Nat} {es es' : List (List V)} (ac : AC) (he : ac.erase = ac12) (hw : wpC Try.prog 1 ac (retM [.tmp 0] v sz es') ⟨vals ++ List.replicate (89 - vals.length) (.tup []), [.live sz es]⟩) : CallM Try.prog 12 vals sz es v es' :=
  callM_of' Try.func12 rfl rfl rfl (cc12.trans (congrArg some he.symm)) hw

/-- testbench/rng.Weighted -/
def ac13 : AC :=
  .seq (.reg 2 [⟨(some 2), 0, none, (.op (.box 2 (.t 0)))⟩,
    ⟨(some 4), 1, none, (.op (.mov (.k (.d (.int .i64 0)))))⟩,
    ⟨(some 5), 1, none, (.op (.alloc [(.int .u64 0), (.int .u64 0)]))⟩,
    ⟨(some 6), 2, none, (.op (.mov (.k (.d (.int .i64 0)))))⟩])
  (.seq (.reg 0 [⟨(some 13), 0, none, (.op (.mov (.t 1)))⟩,
    ⟨(some 14), 0, none, (.call (.k (.fn (.func 27) [] [])) [(.t 13)])⟩,
    ⟨(some 12), 0, none, (.op (.mov (.t 14)))⟩,
    ⟨(some 15), 0, none, (.op (.ext (.t 12) 0))⟩,
    ⟨(some 16), 0, none, (.op (.ext (.t 12) 1))⟩,
    ⟨(some 7), 0, none, (.op (.mov (.t 15)))⟩,
    ⟨(some 8), 0, none, (.op (.mov (.t 16)))⟩])
  (.seq (.seq (.reg 0 [⟨(some 17), 0, none, (.op (.mov (.t 8)))⟩,
    ⟨(some 18), 0, none, (.op (.un .not (.t 17)))⟩])
  (.cond (.t 18)
    (.seq (.reg 0 [⟨(some 19), 0, none, (.op (.build [(.int .u64 0), (.int .u64 0)] []))⟩,
      ⟨(some 4), 0, none, (.op (.mov (.k (.d (.int .i64 0)))))⟩,
      ⟨none, 0, none, (.op (.store 2 (.t 5) (.t 19)))⟩,
      ⟨(some 6), 0, none, (.op (.mov (.k (.d (.int .i64 1)))))⟩])
    (.ret))
    (.skip)))
  (.seq (.reg 0 [⟨(some 20), 0, none, (.call (.k (.fn (.func 26) [] [])) [(.t 2)])⟩,
    ⟨(some 21), 0, none, (.op (.mov (.t 7)))⟩,
    ⟨(some 22), 0, none, (.call (.t 20) [(.t 21)])⟩,
    ⟨(some 9), 0, none, (.op (.mov (.t 22)))⟩])
  (.seq (.seq (.reg 0 [⟨(some 23), 0, none, (.op (.mov (.t 1)))⟩,
    ⟨(some 24), 0, none, (.op (.len false (.t 23)))⟩,
    ⟨(some 25), 0, none, (.op (.mov (.k (.d (.int .i64 0)))))⟩])
  (.block 0
   (.loop
    (.seq (.reg 0 [⟨(some 26), 0, none, (.op (.bin .lss (.t 25) (.t 24)))⟩])
    (.seq (.cond (.t 26)
      (.skip)
      (.exit 0))
    (.seq (.block 1
     (.seq (.reg 0 [⟨(some 27), 0, none, (.op (.mov (.t 25)))⟩,
       ⟨(some 28), 0, none, (.op (.idxA 1 none (.t 23) (.t 25)))⟩,
       ⟨(some 29), 0, none, (.op (.load false 1 (.t 28)))⟩,
       ⟨(some 10), 0, none, (.op (.mov (.t 27)))⟩,
       ⟨(some 11), 0, none, (.op (.mov (.t 29)))⟩])
     (.seq (.seq (.reg 0 [⟨(some 30), 0, none, (.op (.mov (.t 9)))⟩,
       ⟨(some 31), 0, none, (.op (.mov (.t 11)))⟩,
       ⟨(some 32), 0, none, (.op (.bin .lss (.t 30) (.t 31)))⟩])
     (.cond (.t 32)
       (.seq (.regD 0 [(⟨(some 33), 0, none, (.op (.mov (.t 10)))⟩, []),
         (⟨(some 34), 0, none, (.op (.load true 2 (.t 2)))⟩, []),
         (⟨(some 4), 0, none, (.op (.mov (.t 33)))⟩, [0]),
         (⟨none, 0, none, (.op (.store 2 (.t 5) (.t 34)))⟩, [1, 2, 0]),
         (⟨(some 6), 0, none, (.op (.mov (.k (.d (.int .i64 0)))))⟩, [3, 1, 2, 0])])
       (.ret))
       (.skip)))
     (.reg 0 [⟨(some 35), 0, none, (.op (.mov (.t 9)))⟩,
       ⟨(some 36), 0, none, (.op (.mov (.t 11)))⟩,
       ⟨(some 37), 0, none, (.op (.bin .sub (.t 35) (.t 36)))⟩,
       ⟨(some 9), 0, none, (.op (.mov (.t 37)))⟩]))))
    (.reg 0 [⟨(some 38), 0, none, (.op (.bin .add (.t 25) (.k (.d (.int .i64 1)))))⟩,
      ⟨(some 25), 0, none, (.op (.mov (.t 38)))⟩])))))))
  (.seq (.reg 0 [⟨(some 39), 0, none, (.op (.build [(.int .u64 0), (.int .u64 0)] []))⟩,
    ⟨(some 4), 0, none, (.op (.mov (.k (.d (.int .i64 0)))))⟩,
    ⟨none, 0, none, (.op (.store 2 (.t 5) (.t 39)))⟩,
    ⟨(some 6), 0, none, (.op (.mov (.k (.d (.int .i64 1)))))⟩])
  (.ret))))))
theorem cc13 : Try.f13.body.bind (compC Try.prog) = some ac13 := by kernel_rfl
theorem go13 {vals : List V} {v : V} (ac : AC) (he : ac.erase = ac13) (hw : wpC Try.prog 0 ac (retQ [.tmp 4, .cell 5 true 2, .tmp 6] v) ⟨vals ++ List.replicate (40 - vals.length) (.tup []), []⟩) : CallP Try.prog 13 vals v :=
  call_of Try.func13 rfl rfl rfl (cc13.trans (congrArg some he.symm)) hw
theorem gi13 {vals : List V} {rows : Go.Vx.Rows} {K : V → Go.Vx.Rows → Prop} (ac : AC) (he : ac.erase = ac13) (hw : wpC Try.prog rows.length ac (retI [.tmp 4, .cell 5 true 2, .tmp 6] K) ⟨vals ++ List.replicate (40 - vals.length) (.tup []), rows⟩) : InlP Try.prog 13 vals rows K :=
  inl_of' Try.func13 rfl rfl rfl (cc13.trans (congrArg some he.symm)) hw
theorem gm13 {vals : List V} {v : V} {sz : Nat} {es es' : List (List V)} (ac : AC) (he : ac.erase = ac13) (hw : wpC Try.prog 1 ac (retM [.tmp 4, .cell 5 true 2, .tmp 6] v sz es') ⟨vals ++ List.replicate (40 - vals.length) (.tup []), [.live sz es]⟩) : CallM Try.prog 13 vals sz es v es' :=
  callM_of' Try.func13 rfl rfl rfl (cc13.trans (congrArg some he.symm)) hw

/-- testbench/testbenchref06.Weighted -/
def ac14 : AC :=
  .seq (.reg 2 [⟨(some 2), 0, none, (.op (.box 2 (.t 0)))⟩,
    ⟨(some 4), 1, none, (.op (.mov (.k (.d (.int .i64 0)))))⟩,
    ⟨(some 5), 1, none, (.op (.alloc [(.int .u64 0), (.int .u64 0)]))⟩,
    ⟨(some 6), 2, none, (.op (.mov (.k (.d (.int .i64 0)))))⟩])
  (.seq (.reg 0 [⟨(some 7), 0, none, (.op (.mov (.k (.d (.int .i64 0)))))⟩])
  (.seq (.seq (.reg 0 [⟨(some 8), 0, none, (.op (.mov (.k (.d (.int .i64 0)))))⟩])
  (.block 0
   (.loop
    (.seq (.seq (.reg 0 [⟨(some 13), 0, none, (.op (.mov (.t 8)))⟩,
      ⟨(some 14), 0, none, (.op (.mov (.t 1)))⟩,
      ⟨(some 15), 0, none, (.op (.len false (.t 14)))⟩,
      ⟨(some 16), 0, none, (.op (.bin .lss (.t 13) (.t 15)))⟩])
    (.cond (.t 16)
      (.skip)
      (.exit 0)))
    (.seq (.block 1
     (.seq (.seq (.reg 0 [⟨(some 19), 0, none, (.op (.mov (.t 1)))⟩,
       ⟨(some 20), 0, none, (.op (.mov (.t 8)))⟩,
       ⟨(some 21), 0, none, (.op (.idxA 1 none (.t 19) (.t 20)))⟩,
       ⟨(some 22), 0, none, (.op (.load false 1 (.t 21)))⟩,
       ⟨(some 23), 0, none, (.op (.bin .lss (.t 22) (.k (.d (.int .i64 0)))))⟩,
       ⟨(some 24), 0, none, (.op (.mov (.t 23)))⟩,
       ⟨(some 25), 0, (some (24, false)), (.op (.mov (.t 1)))⟩,
       ⟨(some 26), 0, (some (24, false)), (.op (.mov (.t 8)))⟩,
       ⟨(some 27), 0, (some (24, false)), (.op (.idxA 1 none (.t 25) (.t 26)))⟩,
       ⟨(some 28), 0, (some (24, false)), (.op (.load false 1 (.t 27)))⟩,
       ⟨(some 29), 0, (some (24, false)), (.op (.mov (.t 7)))⟩,
       ⟨(some 30), 0, (some (24, false)), (.op (.bin .sub (.k (.d (.int .i64 1099511627776))) (.t 29)))⟩,
       ⟨(some 31), 0, (some (24, false)), (.op (.bin .gtr (.t 28) (.t 30)))⟩,
       ⟨(some 32), 0, none, (.op (.pick (.t 24) (.k (.d (.bool true))) (.t 31)))⟩])
     (.cond (.t 32)
       (.seq (.reg 0 [⟨(some 33), 0, none, (.op (.build [(.int .u64 0), (.int .u64 0)] []))⟩,
         ⟨(some 4), 0, none, (.op (.mov (.k (.d (.int .i64 0)))))⟩,
         ⟨none, 0, none, (.op (.store 2 (.t 5) (.t 33)))⟩,
         ⟨(some 6), 0, none, (.op (.mov (.k (.d (.int .i64 1)))))⟩])
       (.ret))
       (.skip)))
     (.reg 0 [⟨(some 34), 0, none, (.op (.mov (.t 7)))⟩,
       ⟨(some 35), 0, none, (.op (.mov (.t 1)))⟩,
       ⟨(some 36), 0, none, (.op (.mov (.t 8)))⟩,
       ⟨(some 37), 0, none, (.op (.idxA 1 none (.t 35) (.t 36)))⟩,
       ⟨(some 38), 0, none, (.op (.load false 1 (.t 37)))⟩,
       ⟨(some 39), 0, none, (.op (.bin .add (.t 34) (.t 38)))⟩,
       ⟨(some 7), 0, none, (.op (.mov (.t 39)))⟩])))
    (.reg 0 [⟨(some 17), 0, none, (.op (.mov (.t 8)))⟩,
      ⟨(some 18), 0, none, (.op (.bin .add (.t 17) (.k (.d (.int .i64 1)))))⟩,
      ⟨(some 8), 0, none, (.op (.mov (.t 18)))⟩]))))))
  (.seq (.seq (.reg 0 [⟨(some 40), 0, none, (.op (.mov (.t 7)))⟩,
    ⟨(some 41), 0, none, (.op (.bin .eql (.t 40) (.k (.d (.int .i64 0)))))⟩])
  (.cond (.t 41)
    (.seq (.reg 0 [⟨(some 42), 0, none, (.op (.build [(.int .u64 0), (.int .u64 0)] []))⟩,
      ⟨(some 4), 0, none, (.op (.mov (.k (.d (.int .i64 0)))))⟩,
      ⟨none, 0, none, (.op (.store 2 (.t 5) (.t 42)))⟩,
      ⟨(some 6), 0, none, (.op (.mov (.k (.d (.int .i64 1)))))⟩])
    (.ret))
    (.skip)))
  (.seq (.reg 1 [⟨(some 44), 0, none, (.op (.load true 2 (.t 2)))⟩,
    ⟨(some 45), 0, none, (.op (.mov (.t 7)))⟩,
    ⟨(some 46), 0, none, (.call (.k (.fn (.func 11) [] [])) [(.t 44), (.t 45)])⟩,
    ⟨(some 43), 0, none, (.op (.mov (.t 46)))⟩,
    ⟨(some 47), 0, none, (.op (.ext (.t 43) 0))⟩,
    ⟨(some 48), 0, none, (.op (.ext (.t 43) 1))⟩,
    ⟨(some 49), 0, none, (.op (.ext (.t 43) 2))⟩,
    ⟨(some 10), 0, none, (.op (.alloc [(.int .u64 0), (.int .u64 0)]))⟩,
    ⟨(some 9), 1, none, (.op (.mov (.t 47)))⟩,
    ⟨none, 1, none, (.op (.store 2 (.t 10) (.t 48)))⟩,
    ⟨(some 11), 1, none, (.op (.mov (.t 49)))⟩])
  (.seq (.reg 0 [⟨(some 12), 0, none, (.op (.mov (.k (.d (.int .i64 0)))))⟩])
  (.seq (.block 2
   (.loop
    (.seq (.seq (.reg 0 [⟨(some 50), 0, none, (.op (.mov (.t 9)))⟩,
      ⟨(some 51), 0, none, (.op (.mov (.t 1)))⟩,
      ⟨(some 52), 0, none, (.op (.mov (.t 12)))⟩,
      ⟨(some 53), 0, none, (.op (.idxA 1 none (.t 51) (.t 52)))⟩,
      ⟨(some 54), 0, none, (.op (.load false 1 (.t 53)))⟩,
      ⟨(some 55), 0, none, (.op (.bin .geq (.t 50) (.t 54)))⟩])
    (.cond (.t 55)
      (.skip)
      (.exit 2)))
    (.block 3
     (.seq (.reg 0 [⟨(some 56), 0, none, (.op (.mov (.t 9)))⟩,
       ⟨(some 57), 0, none, (.op (.mov (.t 1)))⟩,
       ⟨(some 58), 0, none, (.op (.mov (.t 12)))⟩,
       ⟨(some 59), 0, none, (.op (.idxA 1 none (.t 57) (.t 58)))⟩,
       ⟨(some 60), 0, none, (.op (.load false 1 (.t 59)))⟩,
       ⟨(some 61), 0, none, (.op (.bin .sub (.t 56) (.t 60)))⟩,
       ⟨(some 9), 0, none, (.op (.mov (.t 61)))⟩])
     (.reg 0 [⟨(some 62), 0, none, (.op (.mov (.t 12)))⟩,
       ⟨(some 63), 0, none, (.op (.bin .add (.t 62) (.k (.d (.int .i64 1)))))⟩,
       ⟨(some 12), 0, none, (.op (.mov (.t 63)))⟩]))))))
  (.seq (.regD 0 [(⟨(some 64), 0, none, (.op (.mov (.t 12)))⟩, []),
    (⟨(some 65), 0, none, (.op (.load true 2 (.t 10)))⟩, []),
    (⟨(some 4), 0, none, (.op (.mov (.t 64)))⟩, [0]),
    (⟨none, 0, none, (.op (.store 2 (.t 5) (.t 65)))⟩, [1, 2, 0]),
    (⟨(some 6), 0, none, (.op (.mov (.k (.d (.int .i64 0)))))⟩, [3, 1, 2, 0])])
  (.ret))))))))
theorem cc14 : Try.f14.body.bind (compC Try.prog) = some ac14 := by kernel_rfl
theorem go14 {vals : List V} {v : V} (ac : AC) (he : ac.erase = ac14) (hw : wpC Try.prog 0 ac (retQ [.tmp 4, .cell 5 true 2, .tmp 6] v) ⟨vals ++ List.replicate (66 - vals.length) (.tup []), []⟩) : CallP Try.prog 14 vals v :=
  call_of Try.func14 rfl rfl rfl (cc14.trans (congrArg some he.symm)) hw
theorem gi14 {vals : List V} {rows : Go.Vx.Rows} {K : V → Go.Vx.Rows → Prop} (ac : AC) (he : ac.erase = ac14) (hw : wpC Try.prog rows.length ac (retI [.tmp 4, .cell 5 true 2, .tmp 6] K) ⟨vals ++ List.replicate (66 - vals.length) (.tup []), rows⟩) : InlP Try.prog 14 vals rows K :=
  inl_of' Try.func14 rfl rfl rfl (cc14.trans (congrArg some he.symm)) hw
theorem gm14 {vals : List V} {v : V} {sz : Nat} {es es' : List (List V)} (ac : AC) (he : ac.erase = ac14) (hw : wpC Try.prog 1 ac (retM [.tmp 4, .cell 5 true 2, .tmp 6] v sz es') ⟨vals ++ List.replicate (66 - vals.length) (.tup []), [.live sz es]⟩) : CallM Try.prog 14 vals sz es v es' :=
  callM_of' Try.func14 rfl rfl rfl (cc14.trans (congrArg some he.symm)) hw

/-- testbench/rng.Shuffle -/
def ac15 : AC :=
  .seq (.reg 2 [⟨(some 2), 0, none, (.op (.box 2 (.t 0)))⟩,
    ⟨(some 4), 1, none, (.op (.mov (.k (.d .nils))))⟩,
    ⟨(some 5), 1, none, (.op (.alloc [(.int .u64 0), (.int .u64 0)]))⟩,
    ⟨(some 6), 2, none, (.op (.mov (.k (.d (.int .i64 0)))))⟩])
  (.seq (.seq (.reg 0 [⟨(some 12), 0, none, (.op (.mov (.t 1)))⟩,
    ⟨(some 13), 0, none, (.op (.bin .lss (.t 12) (.k (.d (.int .i64 0)))))⟩,
    ⟨(some 14), 0, none, (.op (.mov (.t 13)))⟩,
    ⟨(some 15), 0, (some (14, false)), (.op (.mov (.t 1)))⟩,
    ⟨(some 16), 0, (some (14, false)), (.op (.bin .gtr (.t 15) (.k (.d (.int .i64 4096)))))⟩,
    ⟨(some 17), 0, none, (.op (.pick (.t 14) (.k (.d (.bool true))) (.t 16)))⟩])
  (.cond (.t 17)
    (.seq (.reg 0 [⟨(some 18), 0, none, (.op (.build [(.int .u64 0), (.int .u64 0)] []))⟩,
      ⟨(some 4), 0, none, (.op (.mov (.k (.d .nils))))⟩,
      ⟨none, 0, none, (.op (.store 2 (.t 5) (.t 18)))⟩,
      ⟨(some 6), 0, none, (.op (.mov (.k (.d (.int .i64 1)))))⟩])
    (.ret))
    (.skip)))
  (.seq (.reg 1 [⟨(some 19), 0, none, (.op (.mov (.t 1)))⟩,
    ⟨(some 20), 0, none, (.op (.mksl 1 8 [(.int .i64 0)] (.t 19) (.t 19)))⟩,
    ⟨(some 7), 1, none, (.op (.mov (.t 20)))⟩])
  (.seq (.seq (.reg 0 [⟨(some 21), 0, none, (.op (.mov (.t 7)))⟩,
    ⟨(some 22), 0, none, (.op (.len false (.t 21)))⟩,
    ⟨(some 23), 0, none, (.op (.mov (.k (.d (.int .i64 0)))))⟩])
  (.block 0
   (.loop
    (.seq (.reg 0 [⟨(some 24), 0, none, (.op (.bin .lss (.t 23) (.t 22)))⟩])
    (.seq (.cond (.t 24)
      (.skip)
      (.exit 0))
    (.seq (.block 1
     (.seq (.reg 0 [⟨(some 25), 0, none, (.op (.mov (.t 23)))⟩,
       ⟨(some 8), 0, none, (.op (.mov (.t 25)))⟩])
     (.reg 0 [⟨(some 26), 0, none, (.op (.mov (.t 7)))⟩,
       ⟨(some 27), 0, none, (.op (.mov (.t 8)))⟩,
       ⟨(some 28), 0, none, (.op (.mov (.t 8)))⟩,
       ⟨(some 29), 0, none, (.op (.idxA 1 none (.t 26) (.t 27)))⟩,
       ⟨none, 0, none, (.op (.store 1 (.t 29) (.t 28)))⟩])))
    (.reg 0 [⟨(some 30), 0, none, (.op (.bin .add (.t 23) (.k (.d (.int .i64 1)))))⟩,
      ⟨(some 23), 0, none, (.op (.mov (.t 30)))⟩])))))))
  (.seq (.reg 0 [⟨(some 31), 0, none, (.call (.k (.fn (.func 26) [] [])) [(.t 2)])⟩,
    ⟨(some 9), 0, none, (.op (.mov (.t 31)))⟩])
  (.seq (.seq (.reg 0 [⟨(some 32), 0, none, (.op (.mov (.t 1)))⟩,
    ⟨(some 33), 0, none, (.op (.bin .sub (.t 32) (.k (.d (.int .i64 1)))))⟩,
    ⟨(some 10), 0, none, (.op (.mov (.t 33)))⟩])
  (.block 2
   (.loop
    (.seq (.seq (.reg 0 [⟨(some 34), 0, none, (.op (.mov (.t 10)))⟩,
      ⟨(some 35), 0, none, (.op (.bin .gtr (.t 34) (.k (.d (.int .i64 0)))))⟩])
    (.cond (.t 35)
      (.skip)
      (.exit 2)))
    (.seq (.block 3
     (.seq (.reg 0 [⟨(some 38), 0, none, (.op (.mov (.t 9)))⟩,
       ⟨(some 39), 0, none, (.op (.mov (.t 10)))⟩,
       ⟨(some 40), 0, none, (.op (.bin .add (.t 39) (.k (.d (.int .i64 1)))))⟩,
       ⟨(some 41), 0, none, (.call (.t 38) [(.t 40)])⟩,
       ⟨(some 11), 0, none, (.op (.mov (.t 41)))⟩])
     (.regD 0 [(⟨(some 42), 0, none, (.op (.mov (.t 7)))⟩, []),
       (⟨(some 43), 0, none, (.op (.mov (.t 10)))⟩, []),
       (⟨(some 44), 0, none, (.op (.mov (.t 7)))⟩, []),
       (⟨(some 45), 0, none, (.op (.mov (.t 11)))⟩, []),
       (⟨(some 46), 0, none, (.op (.mov (.t 7)))⟩, []),
       (⟨(some 47), 0, none, (.op (.mov (.t 11)))⟩, []),
       (⟨(some 48), 0, none, (.op (.idxA 1 none (.t 46) (.t 47)))⟩, [4, 5]),
       (⟨(some 49), 0, none, (.op (.load false 1 (.t 48)))⟩, [6, 4, 5]),
       (⟨(some 50), 0, none, (.op (.mov (.t 7)))⟩, []),
       (⟨(some 51), 0, none, (.op (.mov (.t 10)))⟩, []),
       (⟨(some 52), 0, none, (.op (.idxA 1 none (.t 50) (.t 51)))⟩, [8, 9]),
       (⟨(some 53), 0, none, (.op (.load false 1 (.t 52)))⟩, [10, 8, 9]),
       (⟨(some 54), 0, none, (.op (.idxA 1 none (.t 42) (.t 43)))⟩, [0, 1, 4, 5, 6, 7, 11, 10, 8, 9]),
       (⟨none, 0, none, (.op (.store 1 (.t 54) (.t 49)))⟩, [12, 0, 1, 4, 5, 6, 7, 11, 10, 8, 9]),
       (⟨(some 55), 0, none, (.op (.idxA 1 none (.t 44) (.t 45)))⟩, [2, 3, 0, 1, 4, 5, 6, 7, 8, 9, 10, 11, 12, 13]),
       (⟨none, 0, none, (.op (.store 1 (.t 55) (.t 53)))⟩, [14, 2, 3, 0, 1, 4, 5, 6, 7, 8, 9, 10, 11, 12, 13])])))
    (.reg 0 [⟨(some 36), 0, none, (.op (.mov (.t 10)))⟩,
      ⟨(some 37), 0, none, (.op (.bin .sub (.t 36) (.k (.d (.int .i64 1)))))⟩,
      ⟨(some 10), 0, none, (.op (.mov (.t 37)))⟩]))))))
  (.seq (.regD 0 [(⟨(some 56), 0, none, (.op (.mov (.t 7)))⟩, []),
    (⟨(some 57), 0, none, (.op (.load true 2 (.t 2)))⟩, []),
    (⟨(some 4), 0, none, (.op (.mov (.t 56)))⟩, [0]),
    (⟨none, 0, none, (.op (.store 2 (.t 5) (.t 57)))⟩, [1, 2, 0]),
    (⟨(some 6), 0, none, (.op (.mov (.k (.d (.int .i64 0)))))⟩, [3, 1, 2, 0])])
  (.ret)))))))
theorem cc15 : Try.f15.body.bind (compC Try.prog) = some ac15 := by kernel_rfl
theorem go15 {vals : List V} {v : V} (ac : AC) (he : ac.erase = ac15) (hw : wpC Try.prog 0 ac (retQ [.tmp 4, .cell 5 true 2, .tmp 6] v) ⟨vals ++ List.replicate (58 - vals.length) (.tup []), []⟩) : CallP Try.prog 15 vals v :=
  call_of Try.func15 rfl rfl rfl (cc15.trans (congrArg some he.symm)) hw
theorem gi15 {vals : List V} {rows : Go.Vx.Rows} {K : V → Go.Vx.Rows → Prop} (ac : AC) (he : ac.erase = ac15) (hw : wpC Try.prog rows.length ac (retI [.tmp 4, .cell 5 true 2, .tmp 6] K) ⟨vals ++ List.replicate (58 - vals.length) (.tup []), rows⟩) : InlP Try.prog 15 vals rows K :=
  inl_of' Try.func15 rfl rfl rfl (cc15.trans (congrArg some he.symm)) hw
theorem gm15 {vals : List V} {v : V} {sz : Nat} {es es' : List (List V)} (ac : AC) (he : ac.erase = ac15) (hw : wpC Try.prog 1 ac (retM [.tmp 4, .cell 5 true 2, .tmp 6] v sz es') ⟨vals ++ List.replicate (58 - vals.length) (.tup []), [.live sz es]⟩) : CallM Try.prog 15 vals sz es v es' :=
  callM_of' Try.func15 rfl rfl rfl (cc15.trans (congrArg some he.symm)) hw

/-- testbench/testbenchref06.Shuffle -/
def ac16 : AC :=
  .seq (.reg 2 [⟨(some 2), 0, none, (.op (.box 2 (.t 0)))⟩,
    ⟨(some 4), 1, none, (.op (.mov (.k (.d .nils))))⟩,
    ⟨(some 5), 1, none, (.op (.alloc [(.int .u64 0), (.int .u64 0)]))⟩,
    ⟨(some 6), 2, none, (.op (.mov (.k (.d (.int .i64 0)))))⟩])
  (.seq (.seq (.reg 0 [⟨(some 14), 0, none, (.op (.mov (.t 1)))⟩,
    ⟨(some 15), 0, none, (.op (.bin .lss (.t 14) (.k (.d (.int .i64 0)))))⟩,
    ⟨(some 16), 0, none, (.op (.mov (.t 15)))⟩,
    ⟨(some 17), 0, (some (16, false)), (.op (.mov (.t 1)))⟩,
    ⟨(some 18), 0, (some (16, false)), (.op (.bin .gtr (.t 17) (.k (.d (.int .i64 4096)))))⟩,
    ⟨(some 19), 0, none, (.op (.pick (.t 16) (.k (.d (.bool true))) (.t 18)))⟩])
  (.cond (.t 19)
    (.seq (.reg 0 [⟨(some 20), 0, none, (.op (.build [(.int .u64 0), (.int .u64 0)] []))⟩,
      ⟨(some 4), 0, none, (.op (.mov (.k (.d .nils))))⟩,
      ⟨none, 0, none, (.op (.store 2 (.t 5) (.t 20)))⟩,
      ⟨(some 6), 0, none, (.op (.mov (.k (.d (.int .i64 1)))))⟩])
    (.ret))
    (.skip)))
  (.seq (.reg 1 [⟨(some 21), 0, none, (.op (.mov (.t 1)))⟩,
    ⟨(some 22), 0, none, (.op (.mksl 1 8 [(.int .i64 0)] (.t 21) (.t 21)))⟩,
    ⟨(some 7), 1, none, (.op (.mov (.t 22)))⟩])
  (.seq (.seq (.reg 0 [⟨(some 8), 0, none, (.op (.mov (.k (.d (.int .i64 0)))))⟩])
  (.block 0
   (.loop
    (.seq (.seq (.reg 0 [⟨(some 23), 0, none, (.op (.mov (.t 8)))⟩,
      ⟨(some 24), 0, none, (.op (.mov (.t 1)))⟩,
      ⟨(some 25), 0, none, (.op (.bin .lss (.t 23) (.t 24)))⟩])
    (.cond (.t 25)
      (.skip)
      (.exit 0)))
    (.seq (.block 1
     (.reg 0 [⟨(some 28), 0, none, (.op (.mov (.t 7)))⟩,
       ⟨(some 29), 0, none, (.op (.mov (.t 8)))⟩,
       ⟨(some 30), 0, none, (.op (.mov (.t 8)))⟩,
       ⟨(some 31), 0, none, (.op (.idxA 1 none (.t 28) (.t 29)))⟩,
       ⟨none, 0, none, (.op (.store 1 (.t 31) (.t 30)))⟩]))
    (.reg 0 [⟨(some 26), 0, none, (.op (.mov (.t 8)))⟩,
      ⟨(some 27), 0, none, (.op (.bin .add (.t 26) (.k (.d (.int .i64 1)))))⟩,
      ⟨(some 8), 0, none, (.op (.mov (.t 27)))⟩]))))))
  (.seq (.seq (.reg 0 [⟨(some 32), 0, none, (.op (.mov (.t 1)))⟩,
    ⟨(some 33), 0, none, (.op (.bin .sub (.t 32) (.k (.d (.int .i64 1)))))⟩,
    ⟨(some 9), 0, none, (.op (.mov (.t 33)))⟩])
  (.block 2
   (.loop
    (.seq (.seq (.reg 0 [⟨(some 34), 0, none, (.op (.mov (.t 9)))⟩,
      ⟨(some 35), 0, none, (.op (.bin .gtr (.t 34) (.k (.d (.int .i64 0)))))⟩])
    (.cond (.t 35)
      (.skip)
      (.exit 2)))
    (.seq (.block 3
     (.seq (.reg 1 [⟨(some 39), 0, none, (.op (.load true 2 (.t 2)))⟩,
       ⟨(some 40), 0, none, (.op (.mov (.t 9)))⟩,
       ⟨(some 41), 0, none, (.op (.bin .add (.t 40) (.k (.d (.int .i64 1)))))⟩,
       ⟨(some 42), 0, none, (.call (.k (.fn (.func 11) [] [])) [(.t 39), (.t 41)])⟩,
       ⟨(some 38), 0, none, (.op (.mov (.t 42)))⟩,
       ⟨(some 43), 0, none, (.op (.ext (.t 38) 0))⟩,
       ⟨(some 44), 0, none, (.op (.ext (.t 38) 1))⟩,
       ⟨(some 45), 0, none, (.op (.ext (.t 38) 2))⟩,
       ⟨(some 11), 0, none, (.op (.alloc [(.int .u64 0), (.int .u64 0)]))⟩,
       ⟨(some 10), 1, none, (.op (.mov (.t 43)))⟩,
       ⟨none, 1, none, (.op (.store 2 (.t 11) (.t 44)))⟩,
       ⟨(some 12), 1, none, (.op (.mov (.t 45)))⟩])
     (.seq (.reg 0 [⟨(some 46), 0, none, (.op (.load true 2 (.t 11)))⟩,
       ⟨none, 0, none, (.op (.store 2 (.t 2) (.t 46)))⟩])
     (.seq (.reg 0 [⟨(some 47), 0, none, (.op (.mov (.t 7)))⟩,
       ⟨(some 48), 0, none, (.op (.mov (.t 9)))⟩,
       ⟨(some 49), 0, none, (.op (.idxA 1 none (.t 47) (.t 48)))⟩,
       ⟨(some 50), 0, none, (.op (.load false 1 (.t 49)))⟩,
       ⟨(some 13), 0, none, (.op (.mov (.t 50)))⟩])
     (.seq (.reg 0 [⟨(some 51), 0, none, (.op (.mov (.t 7)))⟩,
       ⟨(some 52), 0, none, (.op (.mov (.t 9)))⟩,
       ⟨(some 53), 0, none, (.op (.mov (.t 7)))⟩,
       ⟨(some 54), 0, none, (.op (.mov (.t 10)))⟩,
       ⟨(some 55), 0, none, (.op (.idxA 1 none (.t 53) (.t 54)))⟩,
       ⟨(some 56), 0, none, (.op (.load false 1 (.t 55)))⟩,
       ⟨(some 57), 0, none, (.op (.idxA 1 none (.t 51) (.t 52)))⟩,
       ⟨none, 0, none, (.op (.store 1 (.t 57) (.t 56)))⟩])
     (.reg 0 [⟨(some 58), 0, none, (.op (.mov (.t 7)))⟩,
       ⟨(some 59), 0, none, (.op (.mov (.t 10)))⟩,
       ⟨(some 60), 0, none, (.op (.mov (.t 13)))⟩,
       ⟨(some 61), 0, none, (.op (.idxA 1 none (.t 58) (.t 59)))⟩,
       ⟨none, 0, none, (.op (.store 1 (.t 61) (.t 60)))⟩]))))))
    (.reg 0 [⟨(some 36), 0, none, (.op (.mov (.t 9)))⟩,
      ⟨(some 37), 0, none, (.op (.bin .sub (.t 36) (.k (.d (.int .i64 1)))))⟩,
      ⟨(some 9), 0, none, (.op (.mov (.t 37)))⟩]))))))
  (.seq (.regD 0 [(⟨(some 62), 0, none, (.op (.mov (.t 7)))⟩, []),
    (⟨(some 63), 0, none, (.op (.load true 2 (.t 2)))⟩, []),
    (⟨(some 4), 0, none, (.op (.mov (.t 62)))⟩, [0]),
    (⟨none, 0, none, (.op (.store 2 (.t 5) (.t 63)))⟩, [1, 2, 0]),
    (⟨(some 6), 0, none, (.op (.mov (.k (.d (.int .i64 0)))))⟩, [3, 1, 2, 0])])
  (.ret))))))
theorem cc16 : Try.f16.body.bind (compC Try.prog) = some ac16 := by kernel_rfl
theorem go16 {vals : List V} {v : V} (ac : AC) (he : ac.erase = ac16) (hw : wpC Try.prog 0 ac (retQ [.tmp 4, .cell 5 true 2, .tmp 6] v) ⟨vals ++ List.replicate (64 - vals.length) (.tup []), []⟩) : CallP Try.prog 16 vals v :=
  call_of Try.func16 rfl rfl rfl (cc16.trans (congrArg some he.symm)) hw
theorem gi16 {vals : List V} {rows : Go.Vx.Rows} {K : V → Go.Vx.Rows → Prop} (ac : AC) (he : ac.erase = ac16) (hw : wpC Try.prog rows.length ac (retI [.tmp 4, .cell 5 true 2, .tmp 6] K) ⟨vals ++ List.replicate (64 - vals.length) (.tup []), rows⟩) : InlP Try.prog 16 vals rows K :=
  inl_of' Try.func16 rfl rfl rfl (cc16.trans (congrArg some he.symm)) hw
theorem gm16 {vals : List V} {v : V} {sz : Nat} {es es' : List (List V)} (ac : AC) (he : ac.erase = ac16) (hw : wpC Try.prog 1 ac (retM [.tmp 4, .cell 5 true 2, .tmp 6] v sz es') ⟨vals ++ List.replicate (64 - vals.length) (.tup []), [.live sz es]⟩) : CallM Try.prog 16 vals sz es v es' :=
  callM_of' Try.func16 rfl rfl rfl (cc16.trans (congrArg some he.symm)) hw

/-- testbench/testbenchref06.Same -/
def ac17 : AC :=
  .seq (.reg 0 [⟨(some 4), 0, none, (.op (.mov (.k (.d (.bool false)))))⟩])
  (.seq (.seq (.reg 0 [⟨(some 6), 0, none, (.op (.mov (.t 0)))⟩,
    ⟨(some 7), 0, none, (.op (.len false (.t 6)))⟩,
    ⟨(some 8), 0, none, (.op (.mov (.t 1)))⟩,
    ⟨(some 9), 0, none, (.op (.len false (.t 8)))⟩,
    ⟨(some 10), 0, none, (.op (.bin .neq (.t 7) (.t 9)))⟩])
  (.cond (.t 10)
    (.seq (.reg 0 [⟨(some 4), 0, none, (.op (.mov (.k (.d (.bool false)))))⟩])
    (.ret))
    (.skip)))
  (.seq (.seq (.reg 0 [⟨(some 5), 0, none, (.op (.mov (.k (.d (.int .i64 0)))))⟩])
  (.block 0
   (.loop
    (.seq (.seq (.reg 0 [⟨(some 11), 0, none, (.op (.mov (.t 5)))⟩,
      ⟨(some 12), 0, none, (.op (.mov (.t 0)))⟩,
      ⟨(some 13), 0, none, (.op (.len false (.t 12)))⟩,
      ⟨(some 14), 0, none, (.op (.bin .lss (.t 11) (.t 13)))⟩])
    (.cond (.t 14)
      (.skip)
      (.exit 0)))
    (.seq (.block 1
     (.seq (.regD 0 [(⟨(some 17), 0, none, (.op (.mov (.t 0)))⟩, []),
       (⟨(some 18), 0, none, (.op (.mov (.t 5)))⟩, []),
       (⟨(some 19), 0, none, (.op (.idxA 1 none (.t 17) (.t 18)))⟩, [0, 1]),
       (⟨(some 20), 0, none, (.op (.load false 1 (.t 19)))⟩, [2, 0, 1]),
       (⟨(some 21), 0, none, (.op (.mov (.t 1)))⟩, []),
       (⟨(some 22), 0, none, (.op (.mov (.t 5)))⟩, []),
       (⟨(some 23), 0, none, (.op (.idxA 1 none (.t 21) (.t 22)))⟩, [4, 5]),
       (⟨(some 24), 0, none, (.op (.load false 1 (.t 23)))⟩, [6, 4, 5]),
       (⟨(some 25), 0, none, (.op (.bin .neq (.t 20) (.t 24)))⟩, [3, 2, 0, 1, 7, 6, 4, 5])])
     (.cond (.t 25)
       (.seq (.reg 0 [⟨(some 4), 0, none, (.op (.mov (.k (.d (.bool false)))))⟩])
       (.ret))
       (.skip))))
    (.reg 0 [⟨(some 15), 0, none, (.op (.mov (.t 5)))⟩,
      ⟨(some 16), 0, none, (.op (.bin .add (.t 15) (.k (.d (.int .i64 1)))))⟩,
      ⟨(some 5), 0, none, (.op (.mov (.t 16)))⟩]))))))
  (.seq (.reg 0 [⟨(some 4), 0, none, (.op (.mov (.k (.d (.bool true)))))⟩])
  (.ret))))
theorem cc17 : Try.f17.body.bind (compC Try.prog) = some ac17 := by kernel_rfl
theorem go17 {vals : List V} {v : V} (ac : AC) (he : ac.erase = ac17) (hw : wpC Try.prog 0 ac (retQ [.tmp 4] v) ⟨vals ++ List.replicate (26 - vals.length) (.tup []), []⟩) : CallP Try.prog 17 vals v :=
  call_of Try.func17 rfl rfl rfl (cc17.trans (congrArg some he.symm)) hw
theorem gi17 {vals : List V} {rows : Go.Vx.Rows} {K : V → Go.Vx.Rows → Prop} (ac : AC) (he : ac.erase = ac17) (hw : wpC Try.prog rows.length ac (retI [.tmp 4] K) ⟨vals ++ List.replicate (26 - vals.length) (.tup []), rows⟩) : InlP Try.prog 17 vals rows K :=
  inl_of' Try.func17 rfl rfl rfl (cc17.trans (congrArg some he.symm)) hw
theorem gm17 {vals : List V} {v : V} {sz : Nat} {es es' : List (List V)} (ac : AC) (he : ac.erase = ac17) (hw : wpC Try.prog 1 ac (retM [.tmp 4] v sz es') ⟨vals ++ List.replicate (26 - vals.length) (.tup []), [.live sz es]⟩) : CallM Try.prog 17 vals sz es v es' :=
  callM_of' Try.func17 rfl rfl rfl (cc17.trans (congrArg some he.symm)) hw

/-- testbench/rng.Next -/
def ac18 : AC :=
  .seq (.reg 2 [⟨(some 1), 0, none, (.op (.box 2 (.t 0)))⟩,
    ⟨(some 2), 1, none, (.op (.mov (.k (.d (.int .u64 0)))))⟩,
    ⟨(some 3), 1, none, (.op (.alloc [(.int .u64 0), (.int .u64 0)]))⟩])
  (.seq (.reg 0 [⟨(some 5), 0, none, (.op (.fldA 0 (.t 1)))⟩,
    ⟨(some 6), 0, none, (.op (.load false 1 (.t 5)))⟩,
    ⟨(some 7), 0, none, (.op (.fldA 1 (.t 1)))⟩,
    ⟨(some 8), 0, none, (.op (.load false 1 (.t 7)))⟩,
    ⟨(some 9), 0, none, (.call (.k (.fn (.func 28) [] [])) [(.t 6), (.t 8)])⟩,
    ⟨(some 4), 0, none, (.op (.mov (.t 9)))⟩])
  (.seq (.reg 0 [⟨(some 10), 0, none, (.op (.fldA 1 (.t 1)))⟩,
    ⟨(some 11), 0, none, (.op (.load false 1 (.t 10)))⟩,
    ⟨(some 12), 0, none, (.op (.bin .add (.t 11) (.k (.d (.int .u64 1)))))⟩,
    ⟨(some 13), 0, none, (.op (.fldA 1 (.t 1)))⟩,
    ⟨none, 0, none, (.op (.store 1 (.t 13) (.t 12)))⟩])
  (.seq (.regD 0 [(⟨(some 14), 0, none, (.op (.mov (.t 4)))⟩, []),
    (⟨(some 15), 0, none, (.op (.load true 2 (.t 1)))⟩, []),
    (⟨(some 2), 0, none, (.op (.mov (.t 14)))⟩, [0]),
    (⟨none, 0, none, (.op (.store 2 (.t 3) (.t 15)))⟩, [1, 2, 0])])
  (.ret))))
theorem cc18 : Try.f18.body.bind (compC Try.prog) = some ac18 := by kernel_rfl
theorem go18 {vals : List V} {v : V} (ac : AC) (he : ac.erase = ac18) (hw : wpC Try.prog 0 ac (retQ [.tmp 2, .cell 3 true 2] v) ⟨vals ++ List.replicate (16 - vals.length) (.tup []), []⟩) : CallP Try.prog 18 vals v :=
  call_of Try.func18 rfl rfl rfl (cc18.trans (congrArg some he.symm)) hw
theorem gi18 {vals : List V} {rows : Go.Vx.Rows} {K : V → Go.Vx.Rows → Prop} (ac : AC) (he : ac.erase = ac18) (hw : wpC Try.prog rows.length ac (retI [.tmp 2, .cell 3 true 2] K) ⟨vals ++ List.replicate (16 - vals.length) (.tup []), rows⟩) : InlP Try.prog 18 vals rows K :=
  inl_of' Try.func18 rfl rfl rfl (cc18.trans (congrArg some he.symm)) hw
theorem gm18 {vals : List V} {v : V} {sz : Nat} {es es' : List (List V)} (ac : AC) (he : ac.erase = ac18) (hw : wpC Try.prog 1 ac (retM [.tmp 2, .cell 3 true 2] v sz es') ⟨vals ++ List.replicate (16 - vals.length) (.tup []), [.live sz es]⟩) : CallM Try.prog 18 vals sz es v es' :=
  callM_of' Try.func18 rfl rfl rfl (cc18.trans (congrArg some he.symm)) hw

/-- testbench/testbenchref06.Next -/
def ac19 : AC :=
  .seq (.reg 2 [⟨(some 1), 0, none, (.op (.box 2 (.t 0)))⟩,
    ⟨(some 2), 1, none, (.op (.mov (.k (.d (.int .u64 0)))))⟩,
    ⟨(some 3), 1, none, (.op (.alloc [(.int .u64 0), (.int .u64 0)]))⟩])
  (.seq (.regD 0 [(⟨(some 4), 0, none, (.op (.fldA 0 (.t 1)))⟩, []),
    (⟨(some 5), 0, none, (.op (.load false 1 (.t 4)))⟩, [0]),
    (⟨(some 6), 0, none, (.op (.fldA 1 (.t 1)))⟩, []),
    (⟨(some 7), 0, none, (.op (.load false 1 (.t 6)))⟩, [2]),
    (⟨(some 8), 0, none, (.call (.k (.fn (.func 29) [] [])) [(.t 5), (.t 7)])⟩, [1, 0, 3, 2]),
    (⟨(some 9), 0, none, (.op (.fldA 0 (.t 1)))⟩, []),
    (⟨(some 10), 0, none, (.op (.load false 1 (.t 9)))⟩, [5]),
    (⟨(some 11), 0, none, (.op (.fldA 1 (.t 1)))⟩, []),
    (⟨(some 12), 0, none, (.op (.load false 1 (.t 11)))⟩, [7]),
    (⟨(some 13), 0, none, (.op (.bin .add (.t 12) (.k (.d (.int .u64 1)))))⟩, [8, 7]),
    (⟨(some 14), 0, none, (.op (.build [(.int .u64 0), (.int .u64 0)] [(0, 1, (.t 10)), (1, 1, (.t 13))]))⟩, [6, 5, 9, 8, 7]),
    (⟨(some 2), 0, none, (.op (.mov (.t 8)))⟩, [4, 1, 0, 3, 2]),
    (⟨none, 0, none, (.op (.store 2 (.t 3) (.t 14)))⟩, [10, 6, 5, 9, 8, 7, 11, 4, 1, 0, 3, 2])])
  (.ret))
theorem cc19 : Try.f19.body.bind (compC Try.prog) = some ac19 := by kernel_rfl
theorem go19 {vals : List V} {v : V} (ac : AC) (he : ac.erase = ac19) (hw : wpC Try.prog 0 ac (retQ [.tmp 2, .cell 3 true 2] v) ⟨vals ++ List.replicate (15 - vals.length) (.tup []), []⟩) : CallP Try.prog 19 vals v :=
  call_of Try.func19 rfl rfl rfl (cc19.trans (congrArg some he.symm)) hw
theorem gi19 {vals : List V} {rows : Go.Vx.Rows} {K : V → Go.Vx.Rows → Prop} (ac : AC) (he : ac.erase = ac19) (hw : wpC Try.prog rows.length ac (retI [.tmp 2, .cell 3 true 2] K) ⟨vals ++ List.replicate (15 - vals.length) (.tup []), rows⟩) : InlP Try.prog 19 vals rows K :=
  inl_of' Try.func19 rfl rfl rfl (cc19.trans (congrArg some he.symm)) hw
theorem gm19 {vals : List V} {v : V} {sz : Nat} {es es' : List (List V)} (ac : AC) (he : ac.erase = ac19) (hw : wpC Try.prog 1 ac (retM [.tmp 2, .cell 3 true 2] v sz es') ⟨vals ++ List.replicate (15 - vals.length) (.tup []), [.live sz es]⟩) : CallM Try.prog 19 vals sz es v es' :=
  callM_of' Try.func19 rfl rfl rfl (cc19.trans (congrArg some he.symm)) hw

/-- testbench/rng.New -/
def ac20 : AC :=
  .seq (.reg 1 [⟨(some 2), 0, none, (.op (.alloc [(.int .u64 0), (.int .u64 0)]))⟩])
  (.seq (.reg 0 [⟨(some 3), 0, none, (.op (.mov (.t 0)))⟩,
    ⟨(some 4), 0, none, (.call (.k (.fn (.func 30) [] [])) [(.t 3)])⟩,
    ⟨(some 5), 0, none, (.op (.build [(.int .u64 0), (.int .u64 0)] [(0, 1, (.t 4))]))⟩,
    ⟨none, 0, none, (.op (.store 2 (.t 2) (.t 5)))⟩])
  (.ret))
theorem cc20 : Try.f20.body.bind (compC Try.prog) = some ac20 := by kernel_rfl
theorem go20 {vals : List V} {v : V} (ac : AC) (he : ac.erase = ac20) (hw : wpC Try.prog 0 ac (retQ [.cell 2 true 2] v) ⟨vals ++ List.replicate (6 - vals.length) (.tup []), []⟩) : CallP Try.prog 20 vals v :=
  call_of Try.func20 rfl rfl rfl (cc20.trans (congrArg some he.symm)) hw
theorem gi20 {vals : List V} {rows : Go.Vx.Rows} {K : V → Go.Vx.Rows → Prop} (ac : AC) (he : ac.erase = ac20) (hw : wpC Try.prog rows.length ac (retI [.cell 2 true 2] K) ⟨vals ++ List.replicate (6 - vals.length) (.tup []), rows⟩) : InlP Try.prog 20 vals rows K :=
  inl_of' Try.func20 rfl rfl rfl (cc20.trans (congrArg some he.symm)) hw
theorem gm20 {vals : List V} {v : V} {sz : Nat} {es es' : List (List V)} (ac : AC) (he : ac.erase = ac20) (hw : wpC Try.prog 1 ac (retM [.cell 2 true 2] v sz es') ⟨vals ++ List.replicate (6 - vals.length) (.tup []), [.live sz es]⟩) : CallM Try.prog 20 vals sz es v es' :=
  callM_of' Try.func20 rfl rfl rfl (cc20.trans (congrArg some he.symm)) hw

/-- testbench/testbenchref06.New -/
def ac21 : AC :=
  .seq (.reg 1 [⟨(some 2), 0, none, (.op (.alloc [(.int .u64 0), (.int .u64 0)]))⟩])
  (.seq (.reg 0 [⟨(some 3), 0, none, (.op (.mov (.t 0)))⟩,
    ⟨(some 4), 0, none, (.call (.k (.fn (.func 31) [] [])) [(.t 3)])⟩,
    ⟨(some 5), 0, none, (.op (.build [(.int .u64 0), (.int .u64 0)] [(0, 1, (.t 4))]))⟩,
    ⟨none, 0, none, (.op (.store 2 (.t 2) (.t 5)))⟩])
  (.ret))
theorem cc21 : Try.f21.body.bind (compC Try.prog) = some ac21 := by kernel_rfl
theorem go21 {vals : List V} {v : V} (ac : AC) (he : ac.erase = ac21) (hw : wpC Try.prog 0 ac (retQ [.cell 2 true 2] v) ⟨vals ++ List.replicate (6 - vals.length) (.tup []), []⟩) : CallP Try.prog 21 vals v :=
  call_of Try.func21 rfl rfl rfl (cc21.trans (congrArg some he.symm)) hw
theorem gi21 {vals : List V} {rows : Go.Vx.Rows} {K : V → Go.Vx.Rows → Prop} (ac : AC) (he : ac.erase = ac21) (hw : wpC Try.prog rows.length ac (retI [.cell 2 true 2] K) ⟨vals ++ List.replicate (6 - vals.length) (.tup []), rows⟩) : InlP Try.prog 21 vals rows K :=
  inl_of' Try.func21 rfl rfl rfl (cc21.trans (congrArg some he.symm)) hw
theorem gm21 {vals : List V} {v : V} {sz : Nat} {es es' : List (List V)} (ac : AC) (he : ac.erase = ac21) (hw : wpC Try.prog 1 ac (retM [.cell 2 true 2] v sz es') ⟨vals ++ List.replicate (6 - vals.length) (.tup []), [.live sz es]⟩) : CallM Try.prog 21 vals sz es v es' :=
  callM_of' Try.func21 rfl rfl rfl (cc21.trans (congrArg some he.symm)) hw

/-- testbench/rng.Child -/
def ac22 : AC :=
  .seq (.reg 2 [⟨(some 2), 0, none, (.op (.box 2 (.t 0)))⟩,
    ⟨(some 4), 1, none, (.op (.alloc [(.int .u64 0), (.int .u64 0)]))⟩])
  (.seq (.regD 0 [(⟨(some 5), 0, none, (.op (.fldA 0 (.t 2)))⟩, []),
    (⟨(some 6), 0, none, (.op (.load false 1 (.t 5)))⟩, [0]),
    (⟨(some 7), 0, none, (.op (.mov (.t 1)))⟩, []),
    (⟨(some 8), 0, none, (.call (.k (.fn (.func 32) [] [])) [(.t 7)])⟩, [2]),
    (⟨(some 9), 0, none, (.call (.k (.fn (.func 28) [] [])) [(.t 6), (.t 8)])⟩, [1, 0, 3, 2]),
    (⟨(some 10), 0, none, (.op (.build [(.int .u64 0), (.int .u64 0)] [(0, 1, (.t 9))]))⟩, [4, 1, 0, 3, 2]),
    (⟨none, 0, none, (.op (.store 2 (.t 4) (.t 10)))⟩, [5, 4, 1, 0, 3, 2])])
  (.ret))
theorem cc22 : Try.f22.body.bind (compC Try.prog) = some ac22 := by kernel_rfl
theorem go22 {vals : List V} {v : V} (ac : AC) (he : ac.erase = ac22) (hw : wpC Try.prog 0 ac (retQ [.cell 4 true 2] v) ⟨vals ++ List.replicate (11 - vals.length) (.tup []), []⟩) : CallP Try.prog 22 vals v :=
  call_of Try.func22 rfl rfl rfl (cc22.trans (congrArg some he.symm)) hw
theorem gi22 {vals : List V} {rows : Go.Vx.Rows} {K : V → Go.Vx.Rows → Prop} (ac : AC) (he : ac.erase = ac22) (hw : wpC Try.prog rows.length ac (retI [.cell 4 true 2] K) ⟨vals ++ List.replicate (11 - vals.length) (.tup []), rows⟩) : InlP Try.prog 22 vals rows K :=
  inl_of' Try.func22 rfl rfl rfl (cc22.trans (congrArg some he.symm)) hw
theorem gm22 {vals : List V} {v : V} {sz : Nat} {es es' : List (List V)} (ac : AC) (he : ac.erase = ac22) (hw : wpC Try.prog 1 ac (retM [.cell 4 true 2] v sz es') ⟨vals ++ List.replicate (11 - vals.length) (.tup []), [.live sz es]⟩) : CallM Try.prog 22 vals sz es v es' :=
  callM_of' Try.func22 rfl rfl rfl (cc22.trans (congrArg some he.symm)) hw

/-- testbench/testbenchref06.Child -/
def ac23 : AC :=
  .seq (.reg 2 [⟨(some 2), 0, none, (.op (.box 2 (.t 0)))⟩,
    ⟨(some 4), 1, none, (.op (.alloc [(.int .u64 0), (.int .u64 0)]))⟩])
  (.seq (.regD 0 [(⟨(some 5), 0, none, (.op (.fldA 0 (.t 2)))⟩, []),
    (⟨(some 6), 0, none, (.op (.load false 1 (.t 5)))⟩, [0]),
    (⟨(some 7), 0, none, (.op (.mov (.t 1)))⟩, []),
    (⟨(some 8), 0, none, (.call (.k (.fn (.func 33) [] [])) [(.t 7)])⟩, [2]),
    (⟨(some 9), 0, none, (.call (.k (.fn (.func 29) [] [])) [(.t 6), (.t 8)])⟩, [1, 0, 3, 2]),
    (⟨(some 10), 0, none, (.op (.build [(.int .u64 0), (.int .u64 0)] [(0, 1, (.t 9))]))⟩, [4, 1, 0, 3, 2]),
    (⟨none, 0, none, (.op (.store 2 (.t 4) (.t 10)))⟩, [5, 4, 1, 0, 3, 2])])
  (.ret))
theorem cc23 : Try.f23.body.bind (compC Try.prog) = some ac23 := by kernel_rfl
theorem go23 {vals : List V} {v : V} (ac : AC) (he : ac.erase = ac23) (hw : wpC Try.prog 0 ac (retQ [.cell 4 true 2] v) ⟨vals ++ List.replicate (11 - vals.length) (.tup []), []⟩) : CallP Try.prog 23 vals v :=
  call_of Try.func23 rfl rfl rfl (cc23.trans (congrArg some he.symm)) hw
theorem gi23 {vals : List V} {rows : Go.Vx.Rows} {K : V → Go.Vx.Rows → Prop} (ac : AC) (he : ac.erase = ac23) (hw : wpC Try.prog rows.length ac (retI [.cell 4 true 2] K) ⟨vals ++ List.replicate (11 - vals.length) (.tup []), rows⟩) : InlP Try.prog 23 vals rows K :=
  inl_of' Try.func23 rfl rfl rfl (cc23.trans (congrArg some he.symm)) hw
theorem gm23 {vals : List V} {v : V} {sz : Nat} {es es' : List (List V)} (ac : AC) (he : ac.erase = ac23) (hw : wpC Try.prog 1 ac (retM [.cell 4 true 2] v sz es') ⟨vals ++ List.replicate (11 - vals.length) (.tup []), [.live sz es]⟩) : CallM Try.prog 23 vals sz es v es' :=
  callM_of' Try.func23 rfl rfl rfl (cc23.trans (congrArg some he.symm)) hw

/-- testbench/rng.Skip -/
def ac24 : AC :=
  .seq (.reg 2 [⟨(some 2), 0, none, (.op (.box 2 (.t 0)))⟩,
    ⟨(some 4), 1, none, (.op (.alloc [(.int .u64 0), (.int .u64 0)]))⟩])
  (.seq (.seq (.reg 0 [⟨(some 5), 0, none, (.op (.mov (.t 1)))⟩,
    ⟨(some 6), 0, none, (.op (.bin .gtr (.t 5) (.k (.d (.int .i64 0)))))⟩])
  (.cond (.t 6)
    (.reg 0 [⟨(some 7), 0, none, (.op (.fldA 1 (.t 2)))⟩,
      ⟨(some 8), 0, none, (.op (.load false 1 (.t 7)))⟩,
      ⟨(some 9), 0, none, (.op (.mov (.t 1)))⟩,
      ⟨(some 10), 0, none, (.op (.conv .u64 (.t 9)))⟩,
      ⟨(some 11), 0, none, (.op (.bin .add (.t 8) (.t 10)))⟩,
      ⟨(some 12), 0, none, (.op (.fldA 1 (.t 2)))⟩,
      ⟨none, 0, none, (.op (.store 1 (.t 12) (.t 11)))⟩])
    (.skip)))
  (.seq (.reg 0 [⟨(some 13), 0, none, (.op (.load true 2 (.t 2)))⟩,
    ⟨none, 0, none, (.op (.store 2 (.t 4) (.t 13)))⟩])
  (.ret)))
theorem cc24 : Try.f24.body.bind (compC Try.prog) = some ac24 := by kernel_rfl
theorem go24 {vals : List V} {v : V} (ac : AC) (he : ac.erase = ac24) (hw : wpC Try.prog 0 ac (retQ [.cell 4 true 2] v) ⟨vals ++ List.replicate (14 - vals.length) (.tup []), []⟩) : CallP Try.prog 24 vals v :=
  call_of Try.func24 rfl rfl rfl (cc24.trans (congrArg some he.symm)) hw
theorem gi24 {vals : List V} {rows : Go.Vx.Rows} {K : V → Go.Vx.Rows → Prop} (ac : AC) (he : ac.erase = ac24) (hw : wpC Try.prog rows.length ac (retI [.cell 4 true 2] K) ⟨vals ++ List.replicate (14 - vals.length) (.tup []), rows⟩) : InlP Try.prog 24 vals rows K :=
  inl_of' Try.func24 rfl rfl rfl (cc24.trans (congrArg some he.symm)) hw
theorem gm24 {vals : List V} {v : V} {sz : Nat} {es es' : List (List V)} (ac : AC) (he : ac.erase = ac24) (hw : wpC Try.prog 1 ac (retM [.cell 4 true 2] v sz es') ⟨vals ++ List.replicate (14 - vals.length) (.tup []), [.live sz es]⟩) : CallM Try.prog 24 vals sz es v es' :=
  callM_of' Try.func24 rfl rfl rfl (cc24.trans (congrArg some he.symm)) hw

/-- testbench/testbenchref06.Skip -/
def ac25 : AC :=
  .seq (.reg 2 [⟨(some 2), 0, none, (.op (.box 2 (.t 0)))⟩,
    ⟨(some 4), 1, none, (.op (.alloc [(.int .u64 0), (.int .u64 0)]))⟩])
  (.seq (.seq (.reg 0 [⟨(some 5), 0, none, (.op (.mov (.t 1)))⟩,
    ⟨(some 6), 0, none, (.op (.bin .lss (.t 5) (.k (.d (.int .i64 0)))))⟩])
  (.cond (.t 6)
    (.seq (.reg 0 [⟨(some 7), 0, none, (.op (.load true 2 (.t 2)))⟩,
      ⟨none, 0, none, (.op (.store 2 (.t 4) (.t 7)))⟩])
    (.ret))
    (.skip)))
  (.seq (.reg 0 [⟨(some 8), 0, none, (.op (.fldA 0 (.t 2)))⟩,
    ⟨(some 9), 0, none, (.op (.load false 1 (.t 8)))⟩,
    ⟨(some 10), 0, none, (.op (.fldA 1 (.t 2)))⟩,
    ⟨(some 11), 0, none, (.op (.load false 1 (.t 10)))⟩,
    ⟨(some 12), 0, none, (.op (.mov (.t 1)))⟩,
    ⟨(some 13), 0, none, (.op (.conv .u64 (.t 12)))⟩,
    ⟨(some 14), 0, none, (.op (.bin .add (.t 11) (.t 13)))⟩,
    ⟨(some 15), 0, none, (.op (.build [(.int .u64 0), (.int .u64 0)] [(0, 1, (.t 9)), (1, 1, (.t 14))]))⟩,
    ⟨none, 0, none, (.op (.store 2 (.t 4) (.t 15)))⟩])
  (.ret)))
theorem cc25 : Try.f25.body.bind (compC Try.prog) = some ac25 := by kernel_rfl
theorem go25 {vals : List V} {v : V} (ac : AC) (he : ac.erase = ac25) (hw : wpC Try.prog 0 ac (retQ [.cell 4 true 2] v) ⟨vals ++ List.replicate (16 - vals.length) (.tup []), []⟩) : CallP Try.prog 25 vals v :=
  call_of Try.func25 rfl rfl rfl (cc25.trans (congrArg some he.symm)) hw
theorem gi25 {vals : List V} {rows : Go.Vx.Rows} {K : V → Go.Vx.Rows → Prop} (ac : AC) (he : ac.erase = ac25) (hw : wpC Try.prog rows.length ac (retI [.cell 4 true 2] K) ⟨vals ++ List.replicate (16 - vals.length) (.tup []), rows⟩) : InlP Try.prog 25 vals rows K :=
  inl_of' Try.func25 rfl rfl rfl (cc25.trans (congrArg some he.symm)) hw
theorem gm25 {vals : List V} {v : V} {sz : Nat} {es es' : List (List V)} (ac : AC) (he : ac.erase = ac25) (hw : wpC Try.prog 1 ac (retM [.cell 4 true 2] v sz es') ⟨vals ++ List.replicate (16 - vals.length) (.tup []), [.live sz es]⟩) : CallM Try.prog 25 vals sz es v es' :=
  callM_of' Try.func25 rfl rfl rfl (cc25.trans (congrArg some he.symm)) hw

/-- testbench/rng.chooser -/
def ac26 : AC :=
  .seq (.reg 1 [⟨(some 1), 0, none, (.op (.box 1 (.t 0)))⟩,
    ⟨(some 2), 1, none, (.op (.mov (.k .any)))⟩])
  (.seq (.reg 0 [⟨(some 3), 0, none, (.op (.mkfn (.func 34) [] [(.t 1)]))⟩,
    ⟨(some 2), 0, none, (.op (.mov (.t 3)))⟩])
  (.ret))
theorem cc26 : Try.f26.body.bind (compC Try.prog) = some ac26 := by kernel_rfl
theorem go26 {vals : List V} {v : V} (ac : AC) (he : ac.erase = ac26) (hw : wpC Try.prog 0 ac (retQ [.tmp 2] v) ⟨vals ++ List.replicate (4 - vals.length) (.tup []), []⟩) : CallP Try.prog 26 vals v :=
  call_of Try.func26 rfl rfl rfl (cc26.trans (congrArg some he.symm)) hw
theorem gi26 {vals : List V} {rows : Go.Vx.Rows} {K : V → Go.Vx.Rows → Prop} (ac : AC) (he : ac.erase = ac26) (hw : wpC Try.prog rows.length ac (retI [.tmp 2] K) ⟨vals ++ List.replicate (4 - vals.length) (.tup []), rows⟩) : InlP Try.prog 26 vals rows K :=
  inl_of' Try.func26 rfl rfl rfl (cc26.trans (congrArg some he.symm)) hw
theorem gm26 {vals : List V} {v : V} {sz : Nat} {es es' : List (List V)} (ac : AC) (he : ac.erase = ac26) (hw : wpC Try.prog 1 ac (retM [.tmp 2] v sz es') ⟨vals ++ List.replicate (4 - vals.length) (.tup []), [.live sz es]⟩) : CallM Try.prog 26 vals sz es v es' :=
  callM_of' Try.func26 rfl rfl rfl (cc26.trans (congrArg some he.symm)) hw

/-- testbench/rng.total -/
def ac27 : AC :=
  .seq (.reg 0 [⟨(some 2), 0, none, (.op (.mov (.k (.d (.int .i64 0)))))⟩,
    ⟨(some 3), 0, none, (.op (.mov (.k (.d (.bool false)))))⟩])
  (.seq (.reg 0 [⟨(some 4), 0, none, (.op (.mov (.k (.d (.int .i64 0)))))⟩])
  (.seq (.seq (.reg 0 [⟨(some 7), 0, none, (.op (.mov (.t 0)))⟩,
    ⟨(some 8), 0, none, (.op (.len false (.t 7)))⟩,
    ⟨(some 9), 0, none, (.op (.mov (.k (.d (.int .i64 0)))))⟩])
  (.block 0
   (.loop
    (.seq (.reg 0 [⟨(some 10), 0, none, (.op (.bin .lss (.t 9) (.t 8)))⟩])
    (.seq (.cond (.t 10)
      (.skip)
      (.exit 0))
    (.seq (.block 1
     (.seq (.reg 0 [⟨(some 11), 0, none, (.op (.idxA 1 none (.t 7) (.t 9)))⟩,
       ⟨(some 12), 0, none, (.op (.load false 1 (.t 11)))⟩,
       ⟨(some 6), 0, none, (.op (.mov (.t 12)))⟩])
     (.seq (.seq (.reg 0 [⟨(some 13), 0, none, (.op (.mov (.t 6)))⟩,
       ⟨(some 14), 0, none, (.op (.bin .lss (.t 13) (.k (.d (.int .i64 0)))))⟩,
       ⟨(some 15), 0, none, (.op (.mov (.t 14)))⟩,
       ⟨(some 16), 0, (some (15, false)), (.op (.mov (.t 6)))⟩,
       ⟨(some 17), 0, (some (15, false)), (.op (.mov (.t 4)))⟩,
       ⟨(some 18), 0, (some (15, false)), (.op (.bin .sub (.k (.d (.int .i64 1099511627776))) (.t 17)))⟩,
       ⟨(some 19), 0, (some (15, false)), (.op (.bin .gtr (.t 16) (.t 18)))⟩,
       ⟨(some 20), 0, none, (.op (.pick (.t 15) (.k (.d (.bool true))) (.t 19)))⟩])
     (.cond (.t 20)
       (.seq (.reg 0 [⟨(some 2), 0, none, (.op (.mov (.k (.d (.int .i64 0)))))⟩,
         ⟨(some 3), 0, none, (.op (.mov (.k (.d (.bool false)))))⟩])
       (.ret))
       (.skip)))
     (.reg 0 [⟨(some 21), 0, none, (.op (.mov (.t 4)))⟩,
       ⟨(some 22), 0, none, (.op (.mov (.t 6)))⟩,
       ⟨(some 23), 0, none, (.op (.bin .add (.t 21) (.t 22)))⟩,
       ⟨(some 4), 0, none, (.op (.mov (.t 23)))⟩]))))
    (.reg 0 [⟨(some 24), 0, none, (.op (.bin .add (.t 9) (.k (.d (.int .i64 1)))))⟩,
      ⟨(some 9), 0, none, (.op (.mov (.t 24)))⟩])))))))
  (.seq (.reg 0 [⟨(some 25), 0, none, (.op (.mov (.t 4)))⟩,
    ⟨(some 26), 0, none, (.op (.mov (.t 4)))⟩,
    ⟨(some 27), 0, none, (.op (.bin .gtr (.t 26) (.k (.d (.int .i64 0)))))⟩,
    ⟨(some 2), 0, none, (.op (.mov (.t 25)))⟩,
    ⟨(some 3), 0, none, (.op (.mov (.t 27)))⟩])
  (.ret))))
theorem cc27 : Try.f27.body.bind (compC Try.prog) = some ac27 := by kernel_rfl
theorem go27 {vals : List V} {v : V} (ac : AC) (he : ac.erase = ac27) (hw : wpC Try.prog 0 ac (retQ [.tmp 2, .tmp 3] v) ⟨vals ++ List.replicate (28 - vals.length) (.tup []), []⟩) : CallP Try.prog 27 vals v :=
  call_of Try.func27 rfl rfl rfl (cc27.trans (congrArg some he.symm)) hw
theorem gi27 {vals : List V} {rows : Go.Vx.Rows} {K : V → Go.Vx.Rows → Prop} (ac : AC) (he : ac.erase = ac27) (hw : wpC Try.prog rows.length ac (retI [.tmp 2, .tmp 3] K) ⟨vals ++ List.replicate (28 - vals.length) (.tup []), rows⟩) : InlP Try.prog 27 vals rows K :=
  inl_of' Try.func27 rfl rfl rfl (cc27.trans (congrArg some he.symm)) hw
theorem gm27 {vals : List V} {v : V} {sz : Nat} {es es' : List (List V)} (ac : AC) (he : ac.erase = ac27) (hw : wpC Try.prog 1 ac (retM [.tmp 2, .tmp 3] v sz es') ⟨vals ++ List.replicate (28 - vals.length) (.tup []), [.live sz es]⟩) : CallM Try.prog 27 vals sz es v es' :=
  callM_of' Try.func27 rfl rfl rfl (cc27.trans (congrArg some he.symm)) hw

/-- testbench/hash.Mix -/
def ac28 : AC :=
  .seq (.reg 0 [⟨(some 4), 0, none, (.op (.mov (.k (.d (.int .u64 0)))))⟩])
  (.seq (.reg 0 [⟨(some 5), 0, none, (.op (.mov (.t 0)))⟩,
    ⟨(some 6), 0, none, (.op (.mov (.t 1)))⟩,
    ⟨(some 7), 0, none, (.op (.bin .add (.t 6) (.k (.d (.int .u64 1)))))⟩,
    ⟨(some 8), 0, none, (.op (.bin .mul (.k (.d (.int .u64 11400714819323198485))) (.t 7)))⟩,
    ⟨(some 9), 0, none, (.op (.bin .add (.t 5) (.t 8)))⟩,
    ⟨(some 10), 0, none, (.call (.k (.fn (.func 30) [] [])) [(.t 9)])⟩,
    ⟨(some 4), 0, none, (.op (.mov (.t 10)))⟩])
  (.ret))
theorem cc28 : Try.f28.body.bind (compC Try.prog) = some ac28 := by kernel_rfl
theorem go28 {vals : List V} {v : V} (ac : AC) (he : ac.erase = ac28) (hw : wpC Try.prog 0 ac (retQ [.tmp 4] v) ⟨vals ++ List.replicate (11 - vals.length) (.tup []), []⟩) : CallP Try.prog 28 vals v :=
  call_of Try.func28 rfl rfl rfl (cc28.trans (congrArg some he.symm)) hw
theorem gi28 {vals : List V} {rows : Go.Vx.Rows} {K : V → Go.Vx.Rows → Prop} (ac : AC) (he : ac.erase = ac28) (hw : wpC Try.prog rows.length ac (retI [.tmp 4] K) ⟨vals ++ List.replicate (11 - vals.length) (.tup []), rows⟩) : InlP Try.prog 28 vals rows K :=
  inl_of' Try.func28 rfl rfl rfl (cc28.trans (congrArg some he.symm)) hw
theorem gm28 {vals : List V} {v : V} {sz : Nat} {es es' : List (List V)} (ac : AC) (he : ac.erase = ac28) (hw : wpC Try.prog 1 ac (retM [.tmp 4] v sz es') ⟨vals ++ List.replicate (11 - vals.length) (.tup []), [.live sz es]⟩) : CallM Try.prog 28 vals sz es v es' :=
  callM_of' Try.func28 rfl rfl rfl (cc28.trans (congrArg some he.symm)) hw

/-- testbench/testbenchref04.Mix -/
def ac29 : AC :=
  .seq (.reg 0 [⟨(some 4), 0, none, (.op (.mov (.k (.d (.int .u64 0)))))⟩])
  (.seq (.reg 0 [⟨(some 5), 0, none, (.op (.mov (.t 0)))⟩,
    ⟨(some 6), 0, none, (.op (.mov (.t 1)))⟩,
    ⟨(some 7), 0, none, (.op (.bin .add (.t 6) (.k (.d (.int .u64 1)))))⟩,
    ⟨(some 8), 0, none, (.op (.bin .mul (.k (.d (.int .u64 11400714819323198485))) (.t 7)))⟩,
    ⟨(some 9), 0, none, (.op (.bin .add (.t 5) (.t 8)))⟩,
    ⟨(some 10), 0, none, (.call (.k (.fn (.func 31) [] [])) [(.t 9)])⟩,
    ⟨(some 4), 0, none, (.op (.mov (.t 10)))⟩])
  (.ret))
theorem cc29 : Try.f29.body.bind (compC Try.prog) = some ac29 := by kernel_rfl
theorem go29 {vals : List V} {v : V} (ac : AC) (he : ac.erase = ac29) (hw : wpC Try.prog 0 ac (retQ [.tmp 4] v) ⟨vals ++ List.replicate (11 - vals.length) (.tup []), []⟩) : CallP Try.prog 29 vals v :=
  call_of Try.func29 rfl rfl rfl (cc29.trans (congrArg some he.symm)) hw
theorem gi29 {vals : List V} {rows : Go.Vx.Rows} {K : V → Go.Vx.Rows → Prop} (ac : AC) (he : ac.erase = ac29) (hw : wpC Try.prog rows.length ac (retI [.tmp 4] K) ⟨vals ++ List.replicate (11 - vals.length) (.tup []), rows⟩) : InlP Try.prog 29 vals rows K :=
  inl_of' Try.func29 rfl rfl rfl (cc29.trans (congrArg some he.symm)) hw
theorem gm29 {vals : List V} {v : V} {sz : Nat} {es es' : List (List V)} (ac : AC) (he : ac.erase = ac29) (hw : wpC Try.prog 1 ac (retM [.tmp 4] v sz es') ⟨vals ++ List.replicate (11 - vals.length) (.tup []), [.live sz es]⟩) : CallM Try.prog 29 vals sz es v es' :=
  callM_of' Try.func29 rfl rfl rfl (cc29.trans (congrArg some he.symm)) hw

/-- testbench/hash.Finish -/
def ac30 : AC :=
  .seq (.reg 0 [⟨(some 2), 0, none, (.op (.mov (.k (.d (.int .u64 0)))))⟩])
  (.seq (.reg 0 [⟨(some 3), 0, none, (.op (.mov (.t 0)))⟩,
    ⟨(some 4), 0, none, (.op (.mov (.t 0)))⟩,
    ⟨(some 5), 0, none, (.op (.bin .shr (.t 4) (.k (.d (.int .u64 30)))))⟩,
    ⟨(some 6), 0, none, (.op (.bin .xor (.t 3) (.t 5)))⟩,
    ⟨(some 7), 0, none, (.op (.bin .mul (.t 6) (.k (.d (.int .u64 13787848793156543929)))))⟩,
    ⟨(some 0), 0, none, (.op (.mov (.t 7)))⟩])
  (.seq (.reg 0 [⟨(some 8), 0, none, (.op (.mov (.t 0)))⟩,
    ⟨(some 9), 0, none, (.op (.mov (.t 0)))⟩,
    ⟨(some 10), 0, none, (.op (.bin .shr (.t 9) (.k (.d (.int .u64 27)))))⟩,
    ⟨(some 11), 0, none, (.op (.bin .xor (.t 8) (.t 10)))⟩,
    ⟨(some 12), 0, none, (.op (.bin .mul (.t 11) (.k (.d (.int .u64 10723151780598845931)))))⟩,
    ⟨(some 0), 0, none, (.op (.mov (.t 12)))⟩])
  (.seq (.reg 0 [⟨(some 13), 0, none, (.op (.mov (.t 0)))⟩,
    ⟨(some 14), 0, none, (.op (.mov (.t 0)))⟩,
    ⟨(some 15), 0, none, (.op (.bin .shr (.t 14) (.k (.d (.int .u64 31)))))⟩,
    ⟨(some 16), 0, none, (.op (.bin .xor (.t 13) (.t 15)))⟩,
    ⟨(some 2), 0, none, (.op (.mov (.t 16)))⟩])
  (.ret))))
theorem cc30 : Try.f30.body.bind (compC Try.prog) = some ac30 := by kernel_rfl
theorem go30 {vals : List V} {v : V} (ac : AC) (he : ac.erase = ac30) (hw : wpC Try.prog 0 ac (retQ [.tmp 2] v) ⟨vals ++ List.replicate (17 - vals.length) (.tup []), []⟩) : CallP Try.prog 30 vals v :=
  call_of Try.func30 rfl rfl rfl (cc30.trans (congrArg some he.symm)) hw
theorem gi30 {vals : List V} {rows : Go.Vx.Rows} {K : V → Go.Vx.Rows → Prop} (ac : AC) (he : ac.erase = ac30) (hw : wpC Try.prog rows.length ac (retI [.tmp 2] K) ⟨vals ++ List.replicate (17 - vals.length) (.tup []), rows⟩) : InlP Try.prog 30 vals rows K :=
  inl_of' Try.func30 rfl rfl rfl (cc30.trans (congrArg some he.symm)) hw
theorem gm30 {vals : List V} {v : V} {sz : Nat} {es es' : List (List V)} (ac : AC) (he : ac.erase = ac30) (hw : wpC Try.prog 1 ac (retM [.tmp 2] v sz es') ⟨vals ++ List.replicate (17 - vals.length) (.tup []), [.live sz es]⟩) : CallM Try.prog 30 vals sz es v es' :=
  callM_of' Try.func30 rfl rfl rfl (cc30.trans (congrArg some he.symm)) hw

/-- testbench/testbenchref04.Finish -/
def ac31 : AC :=
  .seq (.reg 0 [⟨(some 2), 0, none, (.op (.mov (.k (.d (.int .u64 0)))))⟩])
  (.seq (.reg 0 [⟨(some 3), 0, none, (.op (.mov (.t 0)))⟩,
    ⟨(some 4), 0, none, (.op (.mov (.t 0)))⟩,
    ⟨(some 5), 0, none, (.op (.bin .shr (.t 4) (.k (.d (.int .u64 30)))))⟩,
    ⟨(some 6), 0, none, (.op (.bin .xor (.t 3) (.t 5)))⟩,
    ⟨(some 0), 0, none, (.op (.mov (.t 6)))⟩])
  (.seq (.reg 0 [⟨(some 7), 0, none, (.op (.mov (.t 0)))⟩,
    ⟨(some 8), 0, none, (.op (.bin .mul (.t 7) (.k (.d (.int .u64 13787848793156543929)))))⟩,
    ⟨(some 0), 0, none, (.op (.mov (.t 8)))⟩])
  (.seq (.reg 0 [⟨(some 9), 0, none, (.op (.mov (.t 0)))⟩,
    ⟨(some 10), 0, none, (.op (.mov (.t 0)))⟩,
    ⟨(some 11), 0, none, (.op (.bin .shr (.t 10) (.k (.d (.int .u64 27)))))⟩,
    ⟨(some 12), 0, none, (.op (.bin .xor (.t 9) (.t 11)))⟩,
    ⟨(some 0), 0, none, (.op (.mov (.t 12)))⟩])
  (.seq (.reg 0 [⟨(some 13), 0, none, (.op (.mov (.t 0)))⟩,
    ⟨(some 14), 0, none, (.op (.bin .mul (.t 13) (.k (.d (.int .u64 10723151780598845931)))))⟩,
    ⟨(some 0), 0, none, (.op (.mov (.t 14)))⟩])
  (.seq (.reg 0 [⟨(some 15), 0, none, (.op (.mov (.t 0)))⟩,
    ⟨(some 16), 0, none, (.op (.mov (.t 0)))⟩,
    ⟨(some 17), 0, none, (.op (.bin .shr (.t 16) (.k (.d (.int .u64 31)))))⟩,
    ⟨(some 18), 0, none, (.op (.bin .xor (.t 15) (.t 17)))⟩,
    ⟨(some 2), 0, none, (.op (.mov (.t 18)))⟩])
  (.ret))))))
theorem cc31 : Try.f31.body.bind (compC Try.prog) = some ac31 := by kernel_rfl
theorem go31 {vals : List V} {v : V} (ac : AC) (he : ac.erase = ac31) (hw : wpC Try.prog 0 ac (retQ [.tmp 2] v) ⟨vals ++ List.replicate (19 - vals.length) (.tup []), []⟩) : CallP Try.prog 31 vals v :=
  call_of Try.func31 rfl rfl rfl (cc31.trans (congrArg some he.symm)) hw
theorem gi31 {vals : List V} {rows : Go.Vx.Rows} {K : V → Go.Vx.Rows → Prop} (ac : AC) (he : ac.erase = ac31) (hw : wpC Try.prog rows.length ac (retI [.tmp 2] K) ⟨vals ++ List.replicate (19 - vals.length) (.tup []), rows⟩) : InlP Try.prog 31 vals rows K :=
  inl_of' Try.func31 rfl rfl rfl (cc31.trans (congrArg some he.symm)) hw
theorem gm31 {vals : List V} {v : V} {sz : Nat} {es es' : List (List V)} (ac : AC) (he : ac.erase = ac31) (hw : wpC Try.prog 1 ac (retM [.tmp 2] v sz es') ⟨vals ++ List.replicate (19 - vals.length) (.tup []), [.live sz es]⟩) : CallM Try.prog 31 vals sz es v es' :=
  callM_of' Try.func31 rfl rfl rfl (cc31.trans (congrArg some he.symm)) hw

/-- testbench/hash.Hash -/
def ac32 : AC :=
  .seq (.reg 0 [⟨(some 2), 0, none, (.op (.mov (.k (.d (.int .u64 0)))))⟩])
  (.seq (.reg 0 [⟨(some 3), 0, none, (.op (.mov (.k (.d (.int .u64 14695981039346656037)))))⟩])
  (.seq (.seq (.reg 0 [⟨(some 5), 0, none, (.op (.mov (.t 0)))⟩,
    ⟨(some 6), 0, none, (.op (.len true (.t 5)))⟩,
    ⟨(some 7), 0, none, (.op (.mov (.k (.d (.int .i64 0)))))⟩])
  (.block 0
   (.loop
    (.seq (.reg 0 [⟨(some 8), 0, none, (.op (.bin .lss (.t 7) (.t 6)))⟩])
    (.seq (.cond (.t 8)
      (.skip)
      (.exit 0))
    (.seq (.block 1
     (.seq (.reg 0 [⟨(some 9), 0, none, (.op (.mov (.t 7)))⟩,
       ⟨(some 4), 0, none, (.op (.mov (.t 9)))⟩])
     (.reg 0 [⟨(some 10), 0, none, (.op (.mov (.t 3)))⟩,
       ⟨(some 11), 0, none, (.op (.mov (.t 0)))⟩,
       ⟨(some 12), 0, none, (.op (.mov (.t 4)))⟩,
       ⟨(some 13), 0, none, (.op (.idxS (.t 11) (.t 12)))⟩,
       ⟨(some 14), 0, none, (.op (.conv .u64 (.t 13)))⟩,
       ⟨(some 15), 0, none, (.op (.bin .xor (.t 10) (.t 14)))⟩,
       ⟨(some 16), 0, none, (.op (.bin .mul (.t 15) (.k (.d (.int .u64 1099511628211)))))⟩,
       ⟨(some 3), 0, none, (.op (.mov (.t 16)))⟩])))
    (.reg 0 [⟨(some 17), 0, none, (.op (.bin .add (.t 7) (.k (.d (.int .i64 1)))))⟩,
      ⟨(some 7), 0, none, (.op (.mov (.t 17)))⟩])))))))
  (.seq (.reg 0 [⟨(some 18), 0, none, (.op (.mov (.t 3)))⟩,
    ⟨(some 2), 0, none, (.op (.mov (.t 18)))⟩])
  (.ret))))
theorem cc32 : Try.f32.body.bind (compC Try.prog) = some ac32 := by kernel_rfl
theorem go32 {vals : List V} {v : V} (ac : AC) (he : ac.erase = ac32) (hw : wpC Try.prog 0 ac (retQ [.tmp 2] v) ⟨vals ++ List.replicate (19 - vals.length) (.tup []), []⟩) : CallP Try.prog 32 vals v :=
  call_of Try.func32 rfl rfl rfl (cc32.trans (congrArg some he.symm)) hw
theorem gi32 {vals : List V} {rows : Go.Vx.Rows} {K : V → Go.Vx.Rows → Prop} (ac : AC) (he : ac.erase = ac32) (hw : wpC Try.prog rows.length ac (retI [.tmp 2] K) ⟨vals ++ List.replicate (19 - vals.length) (.tup []), rows⟩) : InlP Try.prog 32 vals rows K :=
  inl_of' Try.func32 rfl rfl rfl (cc32.trans (congrArg some he.symm)) hw
theorem gm32 {vals : List V} {v : V} {sz : Nat} {es es' : List (List V)} (ac : AC) (he : ac.erase = ac32) (hw : wpC Try.prog 1 ac (retM [.tmp 2] v sz es') ⟨vals ++ List.replicate (19 - vals.length) (.tup []), [.live sz es]⟩) : CallM Try.prog 32 vals sz es v es' :=
  callM_of' Try.func32 rfl rfl rfl (cc32.trans (congrArg some he.symm)) hw

/-- testbench/testbenchref04.Hash -/
def ac33 : AC :=
  .seq (.reg 0 [⟨(some 2), 0, none, (.op (.mov (.k (.d (.int .u64 0)))))⟩])
  (.seq (.reg 0 [⟨(some 3), 0, none, (.op (.mov (.k (.d (.int .u64 14695981039346656037)))))⟩])
  (.seq (.seq (.reg 0 [⟨(some 4), 0, none, (.op (.mov (.k (.d (.int .i64 0)))))⟩])
  (.block 0
   (.loop
    (.seq (.seq (.reg 0 [⟨(some 5), 0, none, (.op (.mov (.t 4)))⟩,
      ⟨(some 6), 0, none, (.op (.mov (.t 0)))⟩,
      ⟨(some 7), 0, none, (.op (.len true (.t 6)))⟩,
      ⟨(some 8), 0, none, (.op (.bin .lss (.t 5) (.t 7)))⟩])
    (.cond (.t 8)
      (.skip)
      (.exit 0)))
    (.seq (.block 1
     (.reg 0 [⟨(some 11), 0, none, (.op (.mov (.t 3)))⟩,
       ⟨(some 12), 0, none, (.op (.mov (.t 0)))⟩,
       ⟨(some 13), 0, none, (.op (.mov (.t 4)))⟩,
       ⟨(some 14), 0, none, (.op (.idxS (.t 12) (.t 13)))⟩,
       ⟨(some 15), 0, none, (.op (.conv .u64 (.t 14)))⟩,
       ⟨(some 16), 0, none, (.op (.bin .xor (.t 11) (.t 15)))⟩,
       ⟨(some 17), 0, none, (.op (.bin .mul (.t 16) (.k (.d (.int .u64 1099511628211)))))⟩,
       ⟨(some 3), 0, none, (.op (.mov (.t 17)))⟩]))
    (.reg 0 [⟨(some 9), 0, none, (.op (.mov (.t 4)))⟩,
      ⟨(some 10), 0, none, (.op (.bin .add (.t 9) (.k (.d (.int .i64 1)))))⟩,
      ⟨(some 4), 0, none, (.op (.mov (.t 10)))⟩]))))))
  (.seq (.reg 0 [⟨(some 18), 0, none, (.op (.mov (.t 3)))⟩,
    ⟨(some 2), 0, none, (.op (.mov (.t 18)))⟩])
  (.ret))))
theorem cc33 : Try.f33.body.bind (compC Try.prog) = some ac33 := by kernel_rfl
theorem go33 {vals : List V} {v : V} (ac : AC) (he : ac.erase = ac33) (hw : wpC Try.prog 0 ac (retQ [.tmp 2] v) ⟨vals ++ List.replicate (19 - vals.length) (.tup []), []⟩) : CallP Try.prog 33 vals v :=
  call_of Try.func33 rfl rfl rfl (cc33.trans (congrArg some he.symm)) hw
theorem gi33 {vals : List V} {rows : Go.Vx.Rows} {K : V → Go.Vx.Rows → Prop} (ac : AC) (he : ac.erase = ac33) (hw : wpC Try.prog rows.length ac (retI [.tmp 2] K) ⟨vals ++ List.replicate (19 - vals.length) (.tup []), rows⟩) : InlP Try.prog 33 vals rows K :=
  inl_of' Try.func33 rfl rfl rfl (cc33.trans (congrArg some he.symm)) hw
theorem gm33 {vals : List V} {v : V} {sz : Nat} {es es' : List (List V)} (ac : AC) (he : ac.erase = ac33) (hw : wpC Try.prog 1 ac (retM [.tmp 2] v sz es') ⟨vals ++ List.replicate (19 - vals.length) (.tup []), [.live sz es]⟩) : CallM Try.prog 33 vals sz es v es' :=
  callM_of' Try.func33 rfl rfl rfl (cc33.trans (congrArg some he.symm)) hw

/-- testbench/rng.chooser$1 -/
def ac34 : AC :=
  .seq (.reg 0 [⟨(some 3), 0, none, (.op (.mov (.k (.d (.int .i64 0)))))⟩])
  (.seq (.reg 0 [⟨(some 7), 0, none, (.op (.mov (.t 0)))⟩,
    ⟨(some 8), 0, none, (.op (.conv .u64 (.t 7)))⟩,
    ⟨(some 4), 0, none, (.op (.mov (.t 8)))⟩])
  (.seq (.reg 0 [⟨(some 9), 0, none, (.op (.mov (.t 4)))⟩,
    ⟨(some 10), 0, none, (.op (.un .neg (.t 9)))⟩,
    ⟨(some 11), 0, none, (.op (.mov (.t 4)))⟩,
    ⟨(some 12), 0, none, (.op (.bin .rem (.t 10) (.t 11)))⟩,
    ⟨(some 5), 0, none, (.op (.mov (.t 12)))⟩])
  (.seq (.reg 0 [⟨(some 6), 0, none, (.op (.mov (.k (.d (.int .u64 0)))))⟩])
  (.seq (.seq (.reg 0 [⟨(some 13), 0, none, (.op (.mov (.k (.d (.int .i64 0)))))⟩])
  (.block 0
   (.loop
    (.seq (.reg 0 [⟨(some 14), 0, none, (.op (.bin .lss (.t 13) (.k (.d (.int .i64 64)))))⟩])
    (.seq (.cond (.t 14)
      (.skip)
      (.exit 0))
    (.seq (.block 1
     (.seq (.regD 0 [(⟨(some 16), 0, none, (.op (.load false 1 (.t 1)))⟩, []),
       (⟨(some 17), 0, none, (.op (.load false 1 (.t 1)))⟩, []),
       (⟨(some 18), 0, none, (.op (.nilck (.t 17)))⟩, [1]),
       (⟨(some 19), 0, none, (.op (.load true 2 (.t 18)))⟩, [2, 1]),
       (⟨(some 20), 0, none, (.call (.k (.fn (.func 18) [] [])) [(.t 19)])⟩, [3, 2, 1]),
       (⟨(some 15), 0, none, (.op (.mov (.t 20)))⟩, [4, 3, 2, 1]),
       (⟨(some 21), 0, none, (.op (.ext (.t 15) 0))⟩, [5, 4, 3, 2, 1]),
       (⟨(some 22), 0, none, (.op (.ext (.t 15) 1))⟩, [5, 4, 3, 2, 1]),
       (⟨(some 6), 0, none, (.op (.mov (.t 21)))⟩, [6, 5, 4, 3, 2, 1]),
       (⟨(some 23), 0, none, (.op (.nilck (.t 16)))⟩, [0, 1, 2, 3, 4, 5, 6, 7, 8]),
       (⟨none, 0, none, (.op (.store 2 (.t 23) (.t 22)))⟩, [9, 0, 1, 2, 3, 4, 5, 6, 7, 8])])
     (.seq (.reg 0 [⟨(some 24), 0, none, (.op (.mov (.t 5)))⟩,
       ⟨(some 25), 0, none, (.op (.bin .eql (.t 24) (.k (.d (.int .u64 0)))))⟩,
       ⟨(some 26), 0, none, (.op (.mov (.t 25)))⟩,
       ⟨(some 27), 0, (some (26, false)), (.op (.mov (.t 6)))⟩,
       ⟨(some 28), 0, (some (26, false)), (.op (.mov (.t 5)))⟩,
       ⟨(some 29), 0, (some (26, false)), (.op (.un .neg (.t 28)))⟩,
       ⟨(some 30), 0, (some (26, false)), (.op (.bin .lss (.t 27) (.t 29)))⟩,
       ⟨(some 31), 0, none, (.op (.pick (.t 26) (.k (.d (.bool true))) (.t 30)))⟩])
     (.cond (.t 31)
       (.exit 0)
       (.skip)))))
    (.reg 0 [⟨(some 32), 0, none, (.op (.bin .add (.t 13) (.k (.d (.int .i64 1)))))⟩,
      ⟨(some 13), 0, none, (.op (.mov (.t 32)))⟩])))))))
  (.seq (.reg 0 [⟨(some 33), 0, none, (.op (.mov (.t 6)))⟩,
    ⟨(some 34), 0, none, (.op (.mov (.t 4)))⟩,
    ⟨(some 35), 0, none, (.op (.bin .rem (.t 33) (.t 34)))⟩,
    ⟨(some 36), 0, none, (.op (.conv .i64 (.t 35)))⟩,
    ⟨(some 3), 0, none, (.op (.mov (.t 36)))⟩])
  (.ret))))))
theorem cc34 : Try.f34.body.bind (compC Try.prog) = some ac34 := by kernel_rfl
theorem go34 {vals : List V} {v : V} (ac : AC) (he : ac.erase = ac34) (hw : wpC Try.prog 0 ac (retQ [.tmp 3] v) ⟨vals ++ List.replicate (37 - vals.length) (.tup []), []⟩) : CallP Try.prog 34 vals v :=
  call_of Try.func34 rfl rfl rfl (cc34.trans (congrArg some he.symm)) hw
theorem gi34 {vals : List V} {rows : Go.Vx.Rows} {K : V → Go.Vx.Rows → Prop} (ac : AC) (he : ac.erase = ac34) (hw : wpC Try.prog rows.length ac (retI [.tmp 3] K) ⟨vals ++ List.replicate (37 - vals.length) (.tup []), rows⟩) : InlP Try.prog 34 vals rows K :=
  inl_of' Try.func34 rfl rfl rfl (cc34.trans (congrArg some he.symm)) hw
theorem gm34 {vals : List V} {v : V} {sz : Nat} {es es' : List (List V)} (ac : AC) (he : ac.erase = ac34) (hw : wpC Try.prog 1 ac (retM [.tmp 3] v sz es') ⟨vals ++ List.replicate (37 - vals.length) (.tup []), [.live sz es]⟩) : CallM Try.prog 34 vals sz es v es' :=
  callM_of' Try.func34 rfl rfl rfl (cc34.trans (congrArg some he.symm)) hw

/-- the functions -/
def tab : Tab := tabOf [(3, ac3, 54, [.tmp 4]), (4, ac4, 67, [.tmp 4]), (5, ac5, 41, [.tmp 4]), (6, ac6, 33, [.tmp 4]), (7, ac7, 79, [.tmp 4]), (8, ac8, 59, [.tmp 6]), (9, ac9, 104, [.tmp 6]), (10, ac10, 20, [.tmp 4, .cell 5 true 2, .tmp 6]), (11, ac11, 55, [.tmp 4, .cell 5 true 2, .tmp 6]), (12, ac12, 89, [.tmp 0]), (13, ac13, 40, [.tmp 4, .cell 5 true 2, .tmp 6]), (14, ac14, 66, [.tmp 4, .cell 5 true 2, .tmp 6]), (15, ac15, 58, [.tmp 4, .cell 5 true 2, .tmp 6]), (16, ac16, 64, [.tmp 4, .cell 5 true 2, .tmp 6]), (17, ac17, 26, [.tmp 4]), (18, ac18, 16, [.tmp 2, .cell 3 true 2]), (19, ac19, 15, [.tmp 2, .cell 3 true 2]), (20, ac20, 6, [.cell 2 true 2]), (21, ac21, 6, [.cell 2 true 2]), (22, ac22, 11, [.cell 4 true 2]), (23, ac23, 11, [.cell 4 true 2]), (24, ac24, 14, [.cell 4 true 2]), (25, ac25, 16, [.cell 4 true 2]), (26, ac26, 4, [.tmp 2]), (27, ac27, 28, [.tmp 2, .tmp 3]), (28, ac28, 11, [.tmp 4]), (29, ac29, 11, [.tmp 4]), (30, ac30, 17, [.tmp 2]), (31, ac31, 19, [.tmp 2]), (32, ac32, 19, [.tmp 2]), (33, ac33, 19, [.tmp 2]), (34, ac34, 37, [.tmp 3])]
theorem tab_ok : TabOk Try.prog tab :=
  tabOf_cons (fun _ _ h => go3 ac3 rfl h) (tabOf_cons (fun _ _ h => go4 ac4 rfl h) (tabOf_cons (fun _ _ h => go5 ac5 rfl h) (tabOf_cons (fun _ _ h => go6 ac6 rfl h) (tabOf_cons (fun _ _ h => go7 ac7 rfl h) (tabOf_cons (fun _ _ h => go8 ac8 rfl h) (tabOf_cons (fun _ _ h => go9 ac9 rfl h) (tabOf_cons (fun _ _ h => go10 ac10 rfl h) (tabOf_cons (fun _ _ h => go11 ac11 rfl h) (tabOf_cons (fun _ _ h => go12 ac12 rfl h) (tabOf_cons (fun _ _ h => go13 ac13 rfl h) (tabOf_cons (fun _ _ h => go14 ac14 rfl h) (tabOf_cons (fun _ _ h => go15 ac15 rfl h) (tabOf_cons (fun _ _ h => go16 ac16 rfl h) (tabOf_cons (fun _ _ h => go17 ac17 rfl h) (tabOf_cons (fun _ _ h => go18 ac18 rfl h) (tabOf_cons (fun _ _ h => go19 ac19 rfl h) (tabOf_cons (fun _ _ h => go20 ac20 rfl h) (tabOf_cons (fun _ _ h => go21 ac21 rfl h) (tabOf_cons (fun _ _ h => go22 ac22 rfl h) (tabOf_cons (fun _ _ h => go23 ac23 rfl h) (tabOf_cons (fun _ _ h => go24 ac24 rfl h) (tabOf_cons (fun _ _ h => go25 ac25 rfl h) (tabOf_cons (fun _ _ h => go26 ac26 rfl h) (tabOf_cons (fun _ _ h => go27 ac27 rfl h) (tabOf_cons (fun _ _ h => go28 ac28 rfl h) (tabOf_cons (fun _ _ h => go29 ac29 rfl h) (tabOf_cons (fun _ _ h => go30 ac30 rfl h) (tabOf_cons (fun _ _ h => go31 ac31 rfl h) (tabOf_cons (fun _ _ h => go32 ac32 rfl h) (tabOf_cons (fun _ _ h => go33 ac33 rfl h) (tabOf_cons (fun _ _ h => go34 ac34 rfl h) (tabOf_nil))))))))))))))))))))))))))))))))
end Go.Proofs.Rg
