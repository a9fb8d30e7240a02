import Derived.Test.YtapgahonfifgnaaDoorVxEv
import Derived.KernelRfl
import Derived.Test.YtapgahonfifgnaaDoorProg
set_option linter.unusedSimpArgs false
set_option linter.unusedVariables false
namespace Go.Proofs.Sg
open Go.Vx

/-- testbench/testbenchlaw54.SignTexts -/
def ac3 : AC :=
  .seq (.reg 1 [⟨(some 2), 0, none, (.op (.box 11 (.t 0)))⟩,
    ⟨(some 4), 1, none, (.op (.mov (.k (.d (.bool false)))))⟩])
  (.seq (.seq (.reg 1 [⟨(some 5), 0, none, (.op (.load true 11 (.t 2)))⟩,
    ⟨(some 6), 0, none, (.op (.buildSl 11 1 [(.str []), (.int .u64 0), (.str []), (.str []), (.int .i64 0), (.int .i64 0), (.int .i64 0), .nils, .nils, (.int .i64 0), (.int .i64 0)] [(0, (.t 5))]))⟩,
    ⟨(some 7), 1, none, (.call (.k (.fn (.func 9) [] [])) [(.t 6)])⟩,
    ⟨(some 8), 1, none, (.op (.un .not (.t 7)))⟩,
    ⟨(some 9), 1, none, (.op (.mov (.t 8)))⟩,
    ⟨(some 10), 1, (some (9, false)), (.op (.mov (.t 1)))⟩,
    ⟨(some 11), 1, (some (9, false)), (.op (.len true (.t 10)))⟩,
    ⟨(some 12), 1, (some (9, false)), (.op (.bin .gtr (.t 11) (.k (.d (.int .i64 60)))))⟩,
    ⟨(some 13), 1, none, (.op (.pick (.t 9) (.k (.d (.bool true))) (.t 12)))⟩])
  (.cond (.t 13)
    (.seq (.reg 0 [⟨(some 14), 0, none, (.call (.k (.fn (.func 10) [] [])) [])⟩,
      ⟨(some 4), 0, none, (.op (.mov (.t 14)))⟩])
    (.ret))
    (.skip)))
  (.seq (.regD 0 [(⟨(some 15), 0, none, (.op (.mov (.t 1)))⟩, []),
    (⟨(some 16), 0, none, (.call (.k (.fn (.func 11) [] [])) [(.t 15)])⟩, [0]),
    (⟨(some 17), 0, none, (.op (.mov (.t 1)))⟩, []),
    (⟨(some 18), 0, none, (.call (.k (.fn (.func 12) [] [])) [(.t 17)])⟩, [2, 1, 0]),
    (⟨(some 19), 0, none, (.op (.bin .eql (.t 16) (.t 18)))⟩, [1, 0, 3, 2]),
    (⟨(some 20), 0, none, (.op (.mov (.t 19)))⟩, [4, 1, 0, 3, 2]),
    (⟨(some 21), 0, (some (20, true)), (.op (.load true 11 (.t 2)))⟩, [5, 4, 1, 0, 3, 2]),
    (⟨(some 22), 0, (some (20, true)), (.call (.k (.fn (.func 13) [] [])) [(.t 21)])⟩, [6, 5, 4, 1, 0, 3, 2]),
    (⟨(some 23), 0, (some (20, true)), (.op (.load true 11 (.t 2)))⟩, [5, 4, 1, 0, 3, 2]),
    (⟨(some 24), 0, (some (20, true)), (.call (.k (.fn (.func 14) [] [])) [(.t 23)])⟩, [8, 5, 4, 1, 0, 3, 2, 7, 6]),
    (⟨(some 25), 0, (some (20, true)), (.op (.eqB false (.t 22) (.t 24)))⟩, [7, 6, 5, 4, 1, 0, 3, 2, 9, 8]),
    (⟨(some 26), 0, none, (.op (.pick (.t 20) (.t 25) (.k (.d (.bool false)))))⟩, [5, 4, 1, 0, 3, 2, 10, 7, 6, 9, 8]),
    (⟨(some 27), 0, none, (.op (.mov (.t 26)))⟩, [11, 5, 4, 1, 0, 3, 2, 10, 7, 6, 9, 8]),
    (⟨(some 28), 0, (some (27, true)), (.op (.load true 11 (.t 2)))⟩, [12, 11, 5, 4, 1, 0, 3, 2, 10, 7, 6, 9, 8]),
    (⟨(some 29), 0, (some (27, true)), (.call (.k (.fn (.func 15) [] [])) [(.t 28)])⟩, [13, 12, 11, 5, 4, 1, 0, 3, 2, 10, 7, 6, 9, 8]),
    (⟨(some 30), 0, (some (27, true)), (.op (.load true 11 (.t 2)))⟩, [12, 11, 5, 4, 1, 0, 3, 2, 10, 7, 6, 9, 8]),
    (⟨(some 31), 0, (some (27, true)), (.call (.k (.fn (.func 16) [] [])) [(.t 30)])⟩, [15, 12, 11, 5, 4, 1, 0, 3, 2, 10, 7, 6, 9, 8, 14, 13]),
    (⟨(some 32), 0, (some (27, true)), (.op (.eqB false (.t 29) (.t 31)))⟩, [14, 13, 12, 11, 5, 4, 1, 0, 3, 2, 10, 7, 6, 9, 8, 16, 15]),
    (⟨(some 33), 0, none, (.op (.pick (.t 27) (.t 32) (.k (.d (.bool false)))))⟩, [12, 11, 5, 4, 1, 0, 3, 2, 10, 7, 6, 9, 8, 17, 14, 13, 16, 15]),
    (⟨(some 34), 0, none, (.op (.mov (.t 33)))⟩, [18, 12, 11, 5, 4, 1, 0, 3, 2, 10, 7, 6, 9, 8, 17, 14, 13, 16, 15]),
    (⟨(some 35), 0, (some (34, true)), (.op (.load true 11 (.t 2)))⟩, [19, 18, 12, 11, 5, 4, 1, 0, 3, 2, 10, 7, 6, 9, 8, 17, 14, 13, 16, 15]),
    (⟨(some 36), 0, (some (34, true)), (.call (.k (.fn (.func 17) [] [])) [(.t 35)])⟩, [20, 19, 18, 12, 11, 5, 4, 1, 0, 3, 2, 10, 7, 6, 9, 8, 17, 14, 13, 16, 15]),
    (⟨(some 37), 0, (some (34, true)), (.op (.load true 11 (.t 2)))⟩, [19, 18, 12, 11, 5, 4, 1, 0, 3, 2, 10, 7, 6, 9, 8, 17, 14, 13, 16, 15]),
    (⟨(some 38), 0, (some (34, true)), (.call (.k (.fn (.func 18) [] [])) [(.t 37)])⟩, [22, 19, 18, 12, 11, 5, 4, 1, 0, 3, 2, 10, 7, 6, 9, 8, 17, 14, 13, 16, 15, 21, 20]),
    (⟨(some 39), 0, (some (34, true)), (.op (.bin .eql (.t 36) (.t 38)))⟩, [21, 20, 19, 18, 12, 11, 5, 4, 1, 0, 3, 2, 10, 7, 6, 9, 8, 17, 14, 13, 16, 15, 23, 22]),
    (⟨(some 40), 0, none, (.op (.pick (.t 34) (.t 39) (.k (.d (.bool false)))))⟩, [19, 18, 12, 11, 5, 4, 1, 0, 3, 2, 10, 7, 6, 9, 8, 17, 14, 13, 16, 15, 24, 21, 20, 23, 22]),
    (⟨(some 41), 0, none, (.op (.mov (.t 40)))⟩, [25, 19, 18, 12, 11, 5, 4, 1, 0, 3, 2, 10, 7, 6, 9, 8, 17, 14, 13, 16, 15, 24, 21, 20, 23, 22]),
    (⟨(some 42), 0, (some (41, true)), (.call (.k (.fn (.func 10) [] [])) [])⟩, [26, 25, 19, 18, 12, 11, 5, 4, 1, 0, 3, 2, 10, 7, 6, 9, 8, 17, 14, 13, 16, 15, 24, 21, 20, 23, 22]),
    (⟨(some 43), 0, none, (.op (.pick (.t 41) (.t 42) (.k (.d (.bool false)))))⟩, [26, 25, 19, 18, 12, 11, 5, 4, 1, 0, 3, 2, 10, 7, 6, 9, 8, 17, 14, 13, 16, 15, 24, 21, 20, 23, 22, 27]),
    (⟨(some 4), 0, none, (.op (.mov (.t 43)))⟩, [28, 26, 25, 19, 18, 12, 11, 5, 4, 1, 0, 3, 2, 10, 7, 6, 9, 8, 17, 14, 13, 16, 15, 24, 21, 20, 23, 22, 27])])
  (.ret)))
theorem cc3 : Tryd.f3.body.bind (compC Tryd.prog) = some ac3 := by kernel_rfl
theorem go3 {vals : List V} {v : V} (ac : AC) (he : ac.erase = ac3) (hw : wpC Tryd.prog 0 ac (retQ [.tmp 4] v) ⟨vals ++ List.replicate (44 - vals.length) (.tup []), []⟩) : CallP Tryd.prog 3 vals v :=
  call_of Tryd.func3 rfl rfl rfl (cc3.trans (congrArg some he.symm)) hw
theorem gi3 {vals : List V} {rows : Go.Vx.Rows} {K : V → Go.Vx.Rows → Prop} (ac : AC) (he : ac.erase = ac3) (hw : wpC Tryd.prog rows.length ac (retI [.tmp 4] K) ⟨vals ++ List.replicate (44 - vals.length) (.tup []), rows⟩) : InlP Tryd.prog 3 vals rows K :=
  inl_of' Tryd.func3 rfl rfl rfl (cc3.trans (congrArg some he.symm)) hw
theorem gm3 {vals : List V} {v : V} {sz : Nat} {es es' : List (List V)} (ac : AC) (he : ac.erase = ac3) (hw : wpC Tryd.prog 1 ac (retM [.tmp 4] v sz es') ⟨vals ++ List.replicate (44 - vals.length) (.tup []), [.live sz es]⟩) : CallM Tryd.prog 3 vals sz es v es' :=
  callM_of' Tryd.func3 rfl rfl rfl (cc3.trans (congrArg some he.symm)) hw

/-- testbench/testbenchlaw54.SignSorts -/
def ac4 : AC :=
  .seq (.reg 0 [⟨(some 6), 0, none, (.op (.mov (.k (.d (.bool false)))))⟩])
  (.seq (.seq (.reg 0 [⟨(some 11), 0, none, (.op (.mov (.t 0)))⟩,
    ⟨(some 12), 0, none, (.call (.k (.fn (.func 9) [] [])) [(.t 11)])⟩,
    ⟨(some 13), 0, none, (.op (.un .not (.t 12)))⟩,
    ⟨(some 14), 0, none, (.op (.mov (.t 13)))⟩,
    ⟨(some 15), 0, (some (14, false)), (.op (.mov (.t 1)))⟩,
    ⟨(some 16), 0, (some (14, false)), (.op (.bin .lss (.t 15) (.k (.d (.int .i64 0)))))⟩,
    ⟨(some 17), 0, none, (.op (.pick (.t 14) (.k (.d (.bool true))) (.t 16)))⟩,
    ⟨(some 18), 0, none, (.op (.mov (.t 17)))⟩,
    ⟨(some 19), 0, (some (18, false)), (.op (.mov (.t 2)))⟩,
    ⟨(some 20), 0, (some (18, false)), (.op (.bin .lss (.t 19) (.k (.d (.int .i64 0)))))⟩,
    ⟨(some 21), 0, none, (.op (.pick (.t 18) (.k (.d (.bool true))) (.t 20)))⟩,
    ⟨(some 22), 0, none, (.op (.mov (.t 21)))⟩,
    ⟨(some 23), 0, (some (22, false)), (.op (.mov (.t 1)))⟩,
    ⟨(some 24), 0, (some (22, false)), (.op (.mov (.t 0)))⟩,
    ⟨(some 25), 0, (some (22, false)), (.op (.len false (.t 24)))⟩,
    ⟨(some 26), 0, (some (22, false)), (.op (.bin .geq (.t 23) (.t 25)))⟩,
    ⟨(some 27), 0, none, (.op (.pick (.t 22) (.k (.d (.bool true))) (.t 26)))⟩,
    ⟨(some 28), 0, none, (.op (.mov (.t 27)))⟩,
    ⟨(some 29), 0, (some (28, false)), (.op (.mov (.t 2)))⟩,
    ⟨(some 30), 0, (some (28, false)), (.op (.mov (.t 0)))⟩,
    ⟨(some 31), 0, (some (28, false)), (.op (.len false (.t 30)))⟩,
    ⟨(some 32), 0, (some (28, false)), (.op (.bin .geq (.t 29) (.t 31)))⟩,
    ⟨(some 33), 0, none, (.op (.pick (.t 28) (.k (.d (.bool true))) (.t 32)))⟩])
  (.cond (.t 33)
    (.seq (.reg 0 [⟨(some 34), 0, none, (.call (.k (.fn (.func 10) [] [])) [])⟩,
      ⟨(some 6), 0, none, (.op (.mov (.t 34)))⟩])
    (.ret))
    (.skip)))
  (.seq (.reg 0 [⟨(some 36), 0, none, (.op (.mov (.t 0)))⟩,
    ⟨(some 37), 0, none, (.op (.mov (.t 0)))⟩,
    ⟨(some 38), 0, none, (.op (.mov (.t 1)))⟩,
    ⟨(some 39), 0, none, (.op (.idxA 11 none (.t 37) (.t 38)))⟩,
    ⟨(some 40), 0, none, (.op (.fldA 3 (.t 39)))⟩,
    ⟨(some 41), 0, none, (.op (.load false 1 (.t 40)))⟩,
    ⟨(some 42), 0, none, (.call (.k (.fn (.func 19) [] [])) [(.t 36), (.t 41)])⟩,
    ⟨(some 35), 0, none, (.op (.mov (.t 42)))⟩,
    ⟨(some 43), 0, none, (.op (.ext (.t 35) 0))⟩,
    ⟨(some 44), 0, none, (.op (.ext (.t 35) 1))⟩,
    ⟨(some 7), 0, none, (.op (.mov (.t 43)))⟩,
    ⟨(some 8), 0, none, (.op (.mov (.t 44)))⟩])
  (.seq (.reg 0 [⟨(some 46), 0, none, (.op (.mov (.t 0)))⟩,
    ⟨(some 47), 0, none, (.op (.mov (.t 0)))⟩,
    ⟨(some 48), 0, none, (.op (.mov (.t 1)))⟩,
    ⟨(some 49), 0, none, (.op (.idxA 11 none (.t 47) (.t 48)))⟩,
    ⟨(some 50), 0, none, (.op (.fldA 3 (.t 49)))⟩,
    ⟨(some 51), 0, none, (.op (.load false 1 (.t 50)))⟩,
    ⟨(some 52), 0, none, (.call (.k (.fn (.func 20) [] [])) [(.t 46), (.t 51)])⟩,
    ⟨(some 45), 0, none, (.op (.mov (.t 52)))⟩,
    ⟨(some 53), 0, none, (.op (.ext (.t 45) 0))⟩,
    ⟨(some 54), 0, none, (.op (.ext (.t 45) 1))⟩,
    ⟨(some 9), 0, none, (.op (.mov (.t 53)))⟩,
    ⟨(some 10), 0, none, (.op (.mov (.t 54)))⟩])
  (.seq (.regD 0 [(⟨(some 55), 0, none, (.op (.mov (.t 7)))⟩, []),
    (⟨(some 56), 0, none, (.op (.mov (.t 9)))⟩, []),
    (⟨(some 57), 0, none, (.op (.bin .eql (.t 55) (.t 56)))⟩, [0, 1]),
    (⟨(some 58), 0, none, (.op (.mov (.t 57)))⟩, [2, 0, 1]),
    (⟨(some 59), 0, (some (58, true)), (.op (.mov (.t 8)))⟩, [3, 2, 0, 1]),
    (⟨(some 60), 0, (some (58, true)), (.op (.mov (.t 10)))⟩, [3, 2, 0, 1]),
    (⟨(some 61), 0, (some (58, true)), (.op (.eqB false (.t 59) (.t 60)))⟩, [4, 3, 2, 0, 1, 5]),
    (⟨(some 62), 0, none, (.op (.pick (.t 58) (.t 61) (.k (.d (.bool false)))))⟩, [3, 2, 0, 1, 6, 4, 5]),
    (⟨(some 63), 0, none, (.op (.mov (.t 62)))⟩, [7, 3, 2, 0, 1, 6, 4, 5]),
    (⟨(some 64), 0, (some (63, true)), (.op (.mov (.t 0)))⟩, [8, 7, 3, 2, 0, 1, 6, 4, 5]),
    (⟨(some 65), 0, (some (63, true)), (.op (.mov (.t 1)))⟩, [8, 7, 3, 2, 0, 1, 6, 4, 5]),
    (⟨(some 66), 0, (some (63, true)), (.op (.idxA 11 none (.t 64) (.t 65)))⟩, [9, 8, 7, 3, 2, 0, 1, 6, 4, 5, 10]),
    (⟨(some 67), 0, (some (63, true)), (.op (.load true 11 (.t 66)))⟩, [11, 9, 8, 7, 3, 2, 0, 1, 6, 4, 5, 10]),
    (⟨(some 68), 0, (some (63, true)), (.op (.mov (.t 0)))⟩, [8, 7, 3, 2, 0, 1, 6, 4, 5]),
    (⟨(some 69), 0, (some (63, true)), (.op (.mov (.t 2)))⟩, [8, 7, 3, 2, 0, 1, 6, 4, 5]),
    (⟨(some 70), 0, (some (63, true)), (.op (.idxA 11 none (.t 68) (.t 69)))⟩, [13, 8, 7, 3, 2, 0, 1, 6, 4, 5, 14]),
    (⟨(some 71), 0, (some (63, true)), (.op (.load true 11 (.t 70)))⟩, [15, 13, 8, 7, 3, 2, 0, 1, 6, 4, 5, 14]),
    (⟨(some 72), 0, (some (63, true)), (.call (.k (.fn (.func 21) [] [])) [(.t 67), (.t 71)])⟩, [12, 11, 9, 8, 7, 3, 2, 0, 1, 6, 4, 5, 10, 16, 15, 13, 14]),
    (⟨(some 73), 0, (some (63, true)), (.op (.mov (.t 0)))⟩, [8, 7, 3, 2, 0, 1, 6, 4, 5]),
    (⟨(some 74), 0, (some (63, true)), (.op (.mov (.t 1)))⟩, [8, 7, 3, 2, 0, 1, 6, 4, 5]),
    (⟨(some 75), 0, (some (63, true)), (.op (.idxA 11 none (.t 73) (.t 74)))⟩, [18, 8, 7, 3, 2, 0, 1, 6, 4, 5, 19]),
    (⟨(some 76), 0, (some (63, true)), (.op (.load true 11 (.t 75)))⟩, [20, 18, 8, 7, 3, 2, 0, 1, 6, 4, 5, 19]),
    (⟨(some 77), 0, (some (63, true)), (.op (.mov (.t 0)))⟩, [8, 7, 3, 2, 0, 1, 6, 4, 5]),
    (⟨(some 78), 0, (some (63, true)), (.op (.mov (.t 2)))⟩, [8, 7, 3, 2, 0, 1, 6, 4, 5]),
    (⟨(some 79), 0, (some (63, true)), (.op (.idxA 11 none (.t 77) (.t 78)))⟩, [22, 8, 7, 3, 2, 0, 1, 6, 4, 5, 23]),
    (⟨(some 80), 0, (some (63, true)), (.op (.load true 11 (.t 79)))⟩, [24, 22, 8, 7, 3, 2, 0, 1, 6, 4, 5, 23]),
    (⟨(some 81), 0, (some (63, true)), (.call (.k (.fn (.func 22) [] [])) [(.t 76), (.t 80)])⟩, [21, 20, 18, 8, 7, 3, 2, 0, 1, 6, 4, 5, 19, 25, 24, 22, 23, 17, 12, 11, 9, 10, 16, 15, 13, 14]),
    (⟨(some 82), 0, (some (63, true)), (.op (.eqB false (.t 72) (.t 81)))⟩, [17, 12, 11, 9, 8, 7, 3, 2, 0, 1, 6, 4, 5, 10, 16, 15, 13, 14, 26, 21, 20, 18, 19, 25, 24, 22, 23]),
    (⟨(some 83), 0, none, (.op (.pick (.t 63) (.t 82) (.k (.d (.bool false)))))⟩, [8, 7, 3, 2, 0, 1, 6, 4, 5, 27, 17, 12, 11, 9, 10, 16, 15, 13, 14, 26, 21, 20, 18, 19, 25, 24, 22, 23]),
    (⟨(some 84), 0, none, (.op (.mov (.t 83)))⟩, [28, 8, 7, 3, 2, 0, 1, 6, 4, 5, 27, 17, 12, 11, 9, 10, 16, 15, 13, 14, 26, 21, 20, 18, 19, 25, 24, 22, 23]),
    (⟨(some 85), 0, (some (84, true)), (.call (.k (.fn (.func 10) [] [])) [])⟩, [29, 28, 8, 7, 3, 2, 0, 1, 6, 4, 5, 27, 17, 12, 11, 9, 10, 16, 15, 13, 14, 26, 21, 20, 18, 19, 25, 24, 22, 23]),
    (⟨(some 86), 0, none, (.op (.pick (.t 84) (.t 85) (.k (.d (.bool false)))))⟩, [29, 28, 8, 7, 3, 2, 0, 1, 6, 4, 5, 27, 17, 12, 11, 9, 10, 16, 15, 13, 14, 26, 21, 20, 18, 19, 25, 24, 22, 23, 30]),
    (⟨(some 6), 0, none, (.op (.mov (.t 86)))⟩, [31, 29, 28, 8, 7, 3, 2, 0, 1, 6, 4, 5, 27, 17, 12, 11, 9, 10, 16, 15, 13, 14, 26, 21, 20, 18, 19, 25, 24, 22, 23, 30])])
  (.ret)))))
theorem cc4 : Tryd.f4.body.bind (compC Tryd.prog) = some ac4 := by kernel_rfl
theorem go4 {vals : List V} {v : V} (ac : AC) (he : ac.erase = ac4) (hw : wpC Tryd.prog 0 ac (retQ [.tmp 6] v) ⟨vals ++ List.replicate (87 - vals.length) (.tup []), []⟩) : CallP Tryd.prog 4 vals v :=
  call_of Tryd.func4 rfl rfl rfl (cc4.trans (congrArg some he.symm)) hw
theorem gi4 {vals : List V} {rows : Go.Vx.Rows} {K : V → Go.Vx.Rows → Prop} (ac : AC) (he : ac.erase = ac4) (hw : wpC Tryd.prog rows.length ac (retI [.tmp 6] K) ⟨vals ++ List.replicate (87 - vals.length) (.tup []), rows⟩) : InlP Tryd.prog 4 vals rows K :=
  inl_of' Tryd.func4 rfl rfl rfl (cc4.trans (congrArg some he.symm)) hw
theorem gm4 {vals : List V} {v : V} {sz : Nat} {es es' : List (List V)} (ac : AC) (he : ac.erase = ac4) (hw : wpC Tryd.prog 1 ac (retM [.tmp 6] v sz es') ⟨vals ++ List.replicate (87 - vals.length) (.tup []), [.live sz es]⟩) : CallM Tryd.prog 4 vals sz es v es' :=
  callM_of' Tryd.func4 rfl rfl rfl (cc4.trans (congrArg some he.symm)) hw

/-- testbench/testbenchlaw54.SignLists -/
def ac5 : AC :=
  .seq (.reg 0 [⟨(some 2), 0, none, (.op (.mov (.k (.d (.bool false)))))⟩])
  (.seq (.seq (.reg 0 [⟨(some 7), 0, none, (.op (.mov (.t 0)))⟩,
    ⟨(some 8), 0, none, (.call (.k (.fn (.func 9) [] [])) [(.t 7)])⟩,
    ⟨(some 9), 0, none, (.op (.un .not (.t 8)))⟩])
  (.cond (.t 9)
    (.seq (.reg 0 [⟨(some 10), 0, none, (.call (.k (.fn (.func 10) [] [])) [])⟩,
      ⟨(some 2), 0, none, (.op (.mov (.t 10)))⟩])
    (.ret))
    (.skip)))
  (.seq (.reg 0 [⟨(some 11), 0, none, (.op (.mov (.t 0)))⟩,
    ⟨(some 12), 0, none, (.call (.k (.fn (.func 23) [] [])) [(.t 11)])⟩,
    ⟨(some 3), 0, none, (.op (.mov (.t 12)))⟩])
  (.seq (.reg 0 [⟨(some 13), 0, none, (.op (.mov (.t 0)))⟩,
    ⟨(some 14), 0, none, (.call (.k (.fn (.func 24) [] [])) [(.t 13)])⟩,
    ⟨(some 4), 0, none, (.op (.mov (.t 14)))⟩])
  (.seq (.seq (.reg 0 [⟨(some 15), 0, none, (.op (.mov (.t 3)))⟩,
    ⟨(some 16), 0, none, (.op (.len false (.t 15)))⟩,
    ⟨(some 17), 0, none, (.op (.mov (.t 4)))⟩,
    ⟨(some 18), 0, none, (.op (.len false (.t 17)))⟩,
    ⟨(some 19), 0, none, (.op (.bin .neq (.t 16) (.t 18)))⟩])
  (.cond (.t 19)
    (.seq (.reg 0 [⟨(some 2), 0, none, (.op (.mov (.k (.d (.bool false)))))⟩])
    (.ret))
    (.skip)))
  (.seq (.seq (.reg 0 [⟨(some 5), 0, none, (.op (.mov (.k (.d (.int .i64 0)))))⟩])
  (.block 0
   (.loop
    (.seq (.seq (.reg 0 [⟨(some 20), 0, none, (.op (.mov (.t 5)))⟩,
      ⟨(some 21), 0, none, (.op (.mov (.t 3)))⟩,
      ⟨(some 22), 0, none, (.op (.len false (.t 21)))⟩,
      ⟨(some 23), 0, none, (.op (.bin .lss (.t 20) (.t 22)))⟩])
    (.cond (.t 23)
      (.skip)
      (.exit 0)))
    (.seq (.block 1
     (.seq (.seq (.regD 0 [(⟨(some 26), 0, none, (.op (.mov (.t 3)))⟩, []),
       (⟨(some 27), 0, none, (.op (.mov (.t 5)))⟩, []),
       (⟨(some 28), 0, none, (.op (.idxA 1 none (.t 26) (.t 27)))⟩, [0, 1]),
       (⟨(some 29), 0, none, (.op (.load false 1 (.t 28)))⟩, [2, 0, 1]),
       (⟨(some 30), 0, none, (.op (.len false (.t 29)))⟩, [3, 2, 0, 1]),
       (⟨(some 31), 0, none, (.op (.mov (.t 4)))⟩, []),
       (⟨(some 32), 0, none, (.op (.mov (.t 5)))⟩, []),
       (⟨(some 33), 0, none, (.op (.idxA 1 none (.t 31) (.t 32)))⟩, [5, 6]),
       (⟨(some 34), 0, none, (.op (.load false 1 (.t 33)))⟩, [7, 5, 6]),
       (⟨(some 35), 0, none, (.op (.len false (.t 34)))⟩, [8, 7, 5, 6]),
       (⟨(some 36), 0, none, (.op (.bin .neq (.t 30) (.t 35)))⟩, [4, 3, 2, 0, 1, 9, 8, 7, 5, 6])])
     (.cond (.t 36)
       (.seq (.reg 0 [⟨(some 2), 0, none, (.op (.mov (.k (.d (.bool false)))))⟩])
       (.ret))
       (.skip)))
     (.seq (.reg 0 [⟨(some 6), 0, none, (.op (.mov (.k (.d (.int .i64 0)))))⟩])
     (.block 2
      (.loop
       (.seq (.seq (.reg 0 [⟨(some 37), 0, none, (.op (.mov (.t 6)))⟩,
         ⟨(some 38), 0, none, (.op (.mov (.t 3)))⟩,
         ⟨(some 39), 0, none, (.op (.mov (.t 5)))⟩,
         ⟨(some 40), 0, none, (.op (.idxA 1 none (.t 38) (.t 39)))⟩,
         ⟨(some 41), 0, none, (.op (.load false 1 (.t 40)))⟩,
         ⟨(some 42), 0, none, (.op (.len false (.t 41)))⟩,
         ⟨(some 43), 0, none, (.op (.bin .lss (.t 37) (.t 42)))⟩])
       (.cond (.t 43)
         (.skip)
         (.exit 2)))
       (.seq (.block 3
        (.seq (.regD 0 [(⟨(some 46), 0, none, (.op (.mov (.t 3)))⟩, []),
          (⟨(some 47), 0, none, (.op (.mov (.t 5)))⟩, []),
          (⟨(some 48), 0, none, (.op (.idxA 1 none (.t 46) (.t 47)))⟩, [0, 1]),
          (⟨(some 49), 0, none, (.op (.load false 1 (.t 48)))⟩, [2, 0, 1]),
          (⟨(some 50), 0, none, (.op (.mov (.t 6)))⟩, []),
          (⟨(some 51), 0, none, (.op (.idxA 1 none (.t 49) (.t 50)))⟩, [3, 2, 0, 1, 4]),
          (⟨(some 52), 0, none, (.op (.load false 1 (.t 51)))⟩, [5, 3, 2, 0, 1, 4]),
          (⟨(some 53), 0, none, (.op (.mov (.t 4)))⟩, []),
          (⟨(some 54), 0, none, (.op (.mov (.t 5)))⟩, []),
          (⟨(some 55), 0, none, (.op (.idxA 1 none (.t 53) (.t 54)))⟩, [7, 8]),
          (⟨(some 56), 0, none, (.op (.load false 1 (.t 55)))⟩, [9, 7, 8]),
          (⟨(some 57), 0, none, (.op (.mov (.t 6)))⟩, []),
          (⟨(some 58), 0, none, (.op (.idxA 1 none (.t 56) (.t 57)))⟩, [10, 9, 7, 8, 11]),
          (⟨(some 59), 0, none, (.op (.load false 1 (.t 58)))⟩, [12, 10, 9, 7, 8, 11]),
          (⟨(some 60), 0, none, (.op (.bin .neq (.t 52) (.t 59)))⟩, [6, 5, 3, 2, 0, 1, 4, 13, 12, 10, 9, 7, 8, 11])])
        (.cond (.t 60)
          (.seq (.reg 0 [⟨(some 2), 0, none, (.op (.mov (.k (.d (.bool false)))))⟩])
          (.ret))
          (.skip))))
       (.reg 0 [⟨(some 44), 0, none, (.op (.mov (.t 6)))⟩,
         ⟨(some 45), 0, none, (.op (.bin .add (.t 44) (.k (.d (.int .i64 1)))))⟩,
         ⟨(some 6), 0, none, (.op (.mov (.t 45)))⟩]))))))))
    (.reg 0 [⟨(some 24), 0, none, (.op (.mov (.t 5)))⟩,
      ⟨(some 25), 0, none, (.op (.bin .add (.t 24) (.k (.d (.int .i64 1)))))⟩,
      ⟨(some 5), 0, none, (.op (.mov (.t 25)))⟩]))))))
  (.seq (.reg 0 [⟨(some 61), 0, none, (.call (.k (.fn (.func 10) [] [])) [])⟩,
    ⟨(some 2), 0, none, (.op (.mov (.t 61)))⟩])
  (.ret)))))))
theorem cc5 : Tryd.f5.body.bind (compC Tryd.prog) = some ac5 := by kernel_rfl
theorem go5 {vals : List V} {v : V} (ac : AC) (he : ac.erase = ac5) (hw : wpC Tryd.prog 0 ac (retQ [.tmp 2] v) ⟨vals ++ List.replicate (62 - vals.length) (.tup []), []⟩) : CallP Tryd.prog 5 vals v :=
  call_of Tryd.func5 rfl rfl rfl (cc5.trans (congrArg some he.symm)) hw
theorem gi5 {vals : List V} {rows : Go.Vx.Rows} {K : V → Go.Vx.Rows → Prop} (ac : AC) (he : ac.erase = ac5) (hw : wpC Tryd.prog rows.length ac (retI [.tmp 2] K) ⟨vals ++ List.replicate (62 - vals.length) (.tup []), rows⟩) : InlP Tryd.prog 5 vals rows K :=
  inl_of' Tryd.func5 rfl rfl rfl (cc5.trans (congrArg some he.symm)) hw
theorem gm5 {vals : List V} {v : V} {sz : Nat} {es es' : List (List V)} (ac : AC) (he : ac.erase = ac5) (hw : wpC Tryd.prog 1 ac (retM [.tmp 2] v sz es') ⟨vals ++ List.replicate (62 - vals.length) (.tup []), [.live sz es]⟩) : CallM Tryd.prog 5 vals sz es v es' :=
  callM_of' Tryd.func5 rfl rfl rfl (cc5.trans (congrArg some he.symm)) hw

/-- testbench/testbenchlaw54.SignBuckets -/
def ac6 : AC :=
  .seq (.reg 0 [⟨(some 2), 0, none, (.op (.mov (.k (.d (.bool false)))))⟩])
  (.seq (.seq (.reg 0 [⟨(some 12), 0, none, (.op (.mov (.t 0)))⟩,
    ⟨(some 13), 0, none, (.call (.k (.fn (.func 9) [] [])) [(.t 12)])⟩,
    ⟨(some 14), 0, none, (.op (.un .not (.t 13)))⟩])
  (.cond (.t 14)
    (.seq (.reg 0 [⟨(some 15), 0, none, (.call (.k (.fn (.func 10) [] [])) [])⟩,
      ⟨(some 2), 0, none, (.op (.mov (.t 15)))⟩])
    (.ret))
    (.skip)))
  (.seq (.reg 1 [⟨(some 16), 0, none, (.op (.mov (.t 0)))⟩,
    ⟨(some 17), 0, none, (.op (.len false (.t 16)))⟩,
    ⟨(some 18), 0, none, (.op (.mksl 1 8 [(.int .i64 0)] (.t 17) (.t 17)))⟩,
    ⟨(some 3), 1, none, (.op (.mov (.t 18)))⟩])
  (.seq (.reg 0 [⟨(some 19), 0, none, (.op (.mov (.t 0)))⟩,
    ⟨(some 20), 0, none, (.call (.k (.fn (.func 23) [] [])) [(.t 19)])⟩,
    ⟨(some 4), 0, none, (.op (.mov (.t 20)))⟩])
  (.seq (.seq (.reg 0 [⟨(some 5), 0, none, (.op (.mov (.k (.d (.int .i64 0)))))⟩])
  (.block 0
   (.loop
    (.seq (.seq (.reg 0 [⟨(some 21), 0, none, (.op (.mov (.t 5)))⟩,
      ⟨(some 22), 0, none, (.op (.mov (.t 4)))⟩,
      ⟨(some 23), 0, none, (.op (.len false (.t 22)))⟩,
      ⟨(some 24), 0, none, (.op (.bin .lss (.t 21) (.t 23)))⟩])
    (.cond (.t 24)
      (.skip)
      (.exit 0)))
    (.seq (.block 1
     (.seq (.seq (.reg 0 [⟨(some 27), 0, none, (.op (.mov (.t 4)))⟩,
       ⟨(some 28), 0, none, (.op (.mov (.t 5)))⟩,
       ⟨(some 29), 0, none, (.op (.idxA 1 none (.t 27) (.t 28)))⟩,
       ⟨(some 30), 0, none, (.op (.load false 1 (.t 29)))⟩,
       ⟨(some 31), 0, none, (.op (.len false (.t 30)))⟩,
       ⟨(some 32), 0, none, (.op (.bin .eql (.t 31) (.k (.d (.int .i64 0)))))⟩])
     (.cond (.t 32)
       (.seq (.reg 0 [⟨(some 2), 0, none, (.op (.mov (.k (.d (.bool false)))))⟩])
       (.ret))
       (.skip)))
     (.seq (.reg 0 [⟨(some 6), 0, none, (.op (.mov (.k (.d (.int .i64 0)))))⟩])
     (.block 2
      (.loop
       (.seq (.seq (.reg 0 [⟨(some 33), 0, none, (.op (.mov (.t 6)))⟩,
         ⟨(some 34), 0, none, (.op (.mov (.t 4)))⟩,
         ⟨(some 35), 0, none, (.op (.mov (.t 5)))⟩,
         ⟨(some 36), 0, none, (.op (.idxA 1 none (.t 34) (.t 35)))⟩,
         ⟨(some 37), 0, none, (.op (.load false 1 (.t 36)))⟩,
         ⟨(some 38), 0, none, (.op (.len false (.t 37)))⟩,
         ⟨(some 39), 0, none, (.op (.bin .lss (.t 33) (.t 38)))⟩])
       (.cond (.t 39)
         (.skip)
         (.exit 2)))
       (.seq (.block 3
        (.seq (.reg 0 [⟨(some 42), 0, none, (.op (.mov (.t 4)))⟩,
          ⟨(some 43), 0, none, (.op (.mov (.t 5)))⟩,
          ⟨(some 44), 0, none, (.op (.idxA 1 none (.t 42) (.t 43)))⟩,
          ⟨(some 45), 0, none, (.op (.load false 1 (.t 44)))⟩,
          ⟨(some 46), 0, none, (.op (.mov (.t 6)))⟩,
          ⟨(some 47), 0, none, (.op (.idxA 1 none (.t 45) (.t 46)))⟩,
          ⟨(some 48), 0, none, (.op (.load false 1 (.t 47)))⟩,
          ⟨(some 7), 0, none, (.op (.mov (.t 48)))⟩])
        (.seq (.seq (.reg 0 [⟨(some 49), 0, none, (.op (.mov (.t 7)))⟩,
          ⟨(some 50), 0, none, (.op (.bin .lss (.t 49) (.k (.d (.int .i64 0)))))⟩,
          ⟨(some 51), 0, none, (.op (.mov (.t 50)))⟩,
          ⟨(some 52), 0, (some (51, false)), (.op (.mov (.t 7)))⟩,
          ⟨(some 53), 0, (some (51, false)), (.op (.mov (.t 0)))⟩,
          ⟨(some 54), 0, (some (51, false)), (.op (.len false (.t 53)))⟩,
          ⟨(some 55), 0, (some (51, false)), (.op (.bin .geq (.t 52) (.t 54)))⟩,
          ⟨(some 56), 0, none, (.op (.pick (.t 51) (.k (.d (.bool true))) (.t 55)))⟩,
          ⟨(some 57), 0, none, (.op (.mov (.t 56)))⟩,
          ⟨(some 58), 0, (some (57, false)), (.op (.mov (.t 3)))⟩,
          ⟨(some 59), 0, (some (57, false)), (.op (.mov (.t 7)))⟩,
          ⟨(some 60), 0, (some (57, false)), (.op (.idxA 1 none (.t 58) (.t 59)))⟩,
          ⟨(some 61), 0, (some (57, false)), (.op (.load false 1 (.t 60)))⟩,
          ⟨(some 62), 0, (some (57, false)), (.op (.bin .neq (.t 61) (.k (.d (.int .i64 0)))))⟩,
          ⟨(some 63), 0, none, (.op (.pick (.t 57) (.k (.d (.bool true))) (.t 62)))⟩,
          ⟨(some 64), 0, none, (.op (.mov (.t 63)))⟩,
          ⟨(some 65), 0, (some (64, false)), (.op (.mov (.t 6)))⟩,
          ⟨(some 66), 0, (some (64, false)), (.op (.bin .gtr (.t 65) (.k (.d (.int .i64 0)))))⟩,
          ⟨(some 67), 0, (some (64, false)), (.op (.mov (.t 66)))⟩,
          ⟨(some 68), 0, (some (67, true)), (.op (.mov (.t 7)))⟩,
          ⟨(some 69), 0, (some (67, true)), (.op (.mov (.t 4)))⟩,
          ⟨(some 70), 0, (some (67, true)), (.op (.mov (.t 5)))⟩,
          ⟨(some 71), 0, (some (67, true)), (.op (.idxA 1 none (.t 69) (.t 70)))⟩,
          ⟨(some 72), 0, (some (67, true)), (.op (.load false 1 (.t 71)))⟩,
          ⟨(some 73), 0, (some (67, true)), (.op (.mov (.t 6)))⟩,
          ⟨(some 74), 0, (some (67, true)), (.op (.bin .sub (.t 73) (.k (.d (.int .i64 1)))))⟩,
          ⟨(some 75), 0, (some (67, true)), (.op (.idxA 1 none (.t 72) (.t 74)))⟩,
          ⟨(some 76), 0, (some (67, true)), (.op (.load false 1 (.t 75)))⟩,
          ⟨(some 77), 0, (some (67, true)), (.op (.bin .leq (.t 68) (.t 76)))⟩,
          ⟨(some 78), 0, (some (64, false)), (.op (.pick (.t 67) (.t 77) (.k (.d (.bool false)))))⟩,
          ⟨(some 79), 0, none, (.op (.pick (.t 64) (.k (.d (.bool true))) (.t 78)))⟩])
        (.cond (.t 79)
          (.seq (.reg 0 [⟨(some 2), 0, none, (.op (.mov (.k (.d (.bool false)))))⟩])
          (.ret))
          (.skip)))
        (.seq (.reg 0 [⟨(some 80), 0, none, (.op (.mov (.t 3)))⟩,
          ⟨(some 81), 0, none, (.op (.mov (.t 7)))⟩,
          ⟨(some 82), 0, none, (.op (.mov (.t 5)))⟩,
          ⟨(some 83), 0, none, (.op (.bin .add (.t 82) (.k (.d (.int .i64 1)))))⟩,
          ⟨(some 84), 0, none, (.op (.idxA 1 none (.t 80) (.t 81)))⟩,
          ⟨none, 0, none, (.op (.store 1 (.t 84) (.t 83)))⟩])
        (.seq (.reg 0 [⟨(some 86), 0, none, (.op (.mov (.t 0)))⟩,
          ⟨(some 87), 0, none, (.op (.mov (.t 0)))⟩,
          ⟨(some 88), 0, none, (.op (.mov (.t 7)))⟩,
          ⟨(some 89), 0, none, (.op (.idxA 11 none (.t 87) (.t 88)))⟩,
          ⟨(some 90), 0, none, (.op (.fldA 3 (.t 89)))⟩,
          ⟨(some 91), 0, none, (.op (.load false 1 (.t 90)))⟩,
          ⟨(some 92), 0, none, (.call (.k (.fn (.func 19) [] [])) [(.t 86), (.t 91)])⟩,
          ⟨(some 85), 0, none, (.op (.mov (.t 92)))⟩,
          ⟨(some 93), 0, none, (.op (.ext (.t 85) 0))⟩,
          ⟨(some 94), 0, none, (.op (.ext (.t 85) 1))⟩,
          ⟨(some 8), 0, none, (.op (.mov (.t 93)))⟩,
          ⟨(some 9), 0, none, (.op (.mov (.t 94)))⟩])
        (.seq (.regD 0 [(⟨(some 95), 0, none, (.op (.mov (.t 9)))⟩, []),
          (⟨(some 96), 0, none, (.op (.un .not (.t 95)))⟩, [0]),
          (⟨(some 97), 0, none, (.op (.mov (.t 96)))⟩, [1, 0]),
          (⟨(some 98), 0, (some (97, false)), (.op (.mov (.t 8)))⟩, [2, 1, 0]),
          (⟨(some 99), 0, (some (97, false)), (.op (.mov (.t 4)))⟩, [2, 1, 0]),
          (⟨(some 100), 0, (some (97, false)), (.op (.mov (.t 5)))⟩, [2, 1, 0]),
          (⟨(some 101), 0, (some (97, false)), (.op (.idxA 1 none (.t 99) (.t 100)))⟩, [4, 2, 1, 0, 5]),
          (⟨(some 102), 0, (some (97, false)), (.op (.load false 1 (.t 101)))⟩, [6, 4, 2, 1, 0, 5]),
          (⟨(some 103), 0, (some (97, false)), (.op (.idxA 1 none (.t 102) (.k (.d (.int .i64 0)))))⟩, [7, 6, 4, 2, 1, 0, 5]),
          (⟨(some 104), 0, (some (97, false)), (.op (.load false 1 (.t 103)))⟩, [8, 7, 6, 4, 2, 1, 0, 5]),
          (⟨(some 105), 0, (some (97, false)), (.op (.bin .neq (.t 98) (.t 104)))⟩, [3, 2, 1, 0, 9, 8, 7, 6, 4, 5]),
          (⟨(some 106), 0, none, (.op (.pick (.t 97) (.k (.d (.bool true))) (.t 105)))⟩, [2, 1, 0, 10, 3, 9, 8, 7, 6, 4, 5]),
          (⟨(some 107), 0, none, (.op (.mov (.t 106)))⟩, [11, 2, 1, 0, 10, 3, 9, 8, 7, 6, 4, 5]),
          (⟨(some 108), 0, (some (107, false)), (.op (.mov (.t 0)))⟩, [12, 11, 2, 1, 0, 10, 3, 9, 8, 7, 6, 4, 5]),
          (⟨(some 109), 0, (some (107, false)), (.op (.mov (.t 7)))⟩, [12, 11, 2, 1, 0, 10, 3, 9, 8, 7, 6, 4, 5]),
          (⟨(some 110), 0, (some (107, false)), (.op (.idxA 11 none (.t 108) (.t 109)))⟩, [13, 12, 11, 2, 1, 0, 10, 3, 9, 8, 7, 6, 4, 5, 14]),
          (⟨(some 111), 0, (some (107, false)), (.op (.load true 11 (.t 110)))⟩, [15, 13, 12, 11, 2, 1, 0, 10, 3, 9, 8, 7, 6, 4, 5, 14]),
          (⟨(some 112), 0, (some (107, false)), (.call (.k (.fn (.func 17) [] [])) [(.t 111)])⟩, [16, 15, 13, 12, 11, 2, 1, 0, 10, 3, 9, 8, 7, 6, 4, 5, 14]),
          (⟨(some 113), 0, (some (107, false)), (.op (.mov (.t 0)))⟩, [12, 11, 2, 1, 0, 10, 3, 9, 8, 7, 6, 4, 5]),
          (⟨(some 114), 0, (some (107, false)), (.op (.mov (.t 8)))⟩, [12, 11, 2, 1, 0, 10, 3, 9, 8, 7, 6, 4, 5]),
          (⟨(some 115), 0, (some (107, false)), (.op (.idxA 11 none (.t 113) (.t 114)))⟩, [18, 12, 11, 2, 1, 0, 10, 3, 9, 8, 7, 6, 4, 5, 19]),
          (⟨(some 116), 0, (some (107, false)), (.op (.load true 11 (.t 115)))⟩, [20, 18, 12, 11, 2, 1, 0, 10, 3, 9, 8, 7, 6, 4, 5, 19]),
          (⟨(some 117), 0, (some (107, false)), (.call (.k (.fn (.func 17) [] [])) [(.t 116)])⟩, [21, 20, 18, 12, 11, 2, 1, 0, 10, 3, 9, 8, 7, 6, 4, 5, 19, 17, 16, 15, 13, 14]),
          (⟨(some 118), 0, (some (107, false)), (.op (.bin .neq (.t 112) (.t 117)))⟩, [17, 16, 15, 13, 12, 11, 2, 1, 0, 10, 3, 9, 8, 7, 6, 4, 5, 14, 22, 21, 20, 18, 19]),
          (⟨(some 119), 0, none, (.op (.pick (.t 107) (.k (.d (.bool true))) (.t 118)))⟩, [12, 11, 2, 1, 0, 10, 3, 9, 8, 7, 6, 4, 5, 23, 17, 16, 15, 13, 14, 22, 21, 20, 18, 19])])
        (.cond (.t 119)
          (.seq (.reg 0 [⟨(some 2), 0, none, (.op (.mov (.k (.d (.bool false)))))⟩])
          (.ret))
          (.skip))))))))
       (.reg 0 [⟨(some 40), 0, none, (.op (.mov (.t 6)))⟩,
         ⟨(some 41), 0, none, (.op (.bin .add (.t 40) (.k (.d (.int .i64 1)))))⟩,
         ⟨(some 6), 0, none, (.op (.mov (.t 41)))⟩]))))))))
    (.reg 0 [⟨(some 25), 0, none, (.op (.mov (.t 5)))⟩,
      ⟨(some 26), 0, none, (.op (.bin .add (.t 25) (.k (.d (.int .i64 1)))))⟩,
      ⟨(some 5), 0, none, (.op (.mov (.t 26)))⟩]))))))
  (.seq (.seq (.reg 0 [⟨(some 10), 0, none, (.op (.mov (.k (.d (.int .i64 0)))))⟩])
  (.block 4
   (.loop
    (.seq (.seq (.reg 0 [⟨(some 120), 0, none, (.op (.mov (.t 10)))⟩,
      ⟨(some 121), 0, none, (.op (.mov (.t 0)))⟩,
      ⟨(some 122), 0, none, (.op (.len false (.t 121)))⟩,
      ⟨(some 123), 0, none, (.op (.bin .lss (.t 120) (.t 122)))⟩])
    (.cond (.t 123)
      (.skip)
      (.exit 4)))
    (.seq (.block 5
     (.seq (.seq (.regD 0 [(⟨(some 126), 0, none, (.op (.mov (.t 3)))⟩, []),
       (⟨(some 127), 0, none, (.op (.mov (.t 10)))⟩, []),
       (⟨(some 128), 0, none, (.op (.idxA 1 none (.t 126) (.t 127)))⟩, [0, 1]),
       (⟨(some 129), 0, none, (.op (.load false 1 (.t 128)))⟩, [2, 0, 1]),
       (⟨(some 130), 0, none, (.op (.bin .gtr (.t 129) (.k (.d (.int .i64 0)))))⟩, [3, 2, 0, 1]),
       (⟨(some 131), 0, none, (.op (.mov (.t 0)))⟩, []),
       (⟨(some 132), 0, none, (.op (.mov (.t 10)))⟩, []),
       (⟨(some 133), 0, none, (.op (.idxA 11 none (.t 131) (.t 132)))⟩, [5, 6]),
       (⟨(some 134), 0, none, (.op (.load true 11 (.t 133)))⟩, [7, 5, 6]),
       (⟨(some 135), 0, none, (.call (.k (.fn (.func 13) [] [])) [(.t 134)])⟩, [8, 7, 5, 6]),
       (⟨(some 136), 0, none, (.op (.mov (.t 135)))⟩, [9, 8, 7, 5, 6]),
       (⟨(some 137), 0, (some (136, true)), (.op (.mov (.t 0)))⟩, [10, 9, 8, 7, 5, 6]),
       (⟨(some 138), 0, (some (136, true)), (.op (.mov (.t 10)))⟩, [10, 9, 8, 7, 5, 6]),
       (⟨(some 139), 0, (some (136, true)), (.op (.idxA 11 none (.t 137) (.t 138)))⟩, [11, 10, 9, 8, 7, 5, 6, 12]),
       (⟨(some 140), 0, (some (136, true)), (.op (.load true 11 (.t 139)))⟩, [13, 11, 10, 9, 8, 7, 5, 6, 12]),
       (⟨(some 141), 0, (some (136, true)), (.call (.k (.fn (.func 15) [] [])) [(.t 140)])⟩, [14, 13, 11, 10, 9, 8, 7, 5, 6, 12]),
       (⟨(some 142), 0, (some (136, true)), (.op (.un .not (.t 141)))⟩, [15, 14, 13, 11, 10, 9, 8, 7, 5, 6, 12]),
       (⟨(some 143), 0, none, (.op (.pick (.t 136) (.t 142) (.k (.d (.bool false)))))⟩, [10, 9, 8, 7, 5, 6, 16, 15, 14, 13, 11, 12]),
       (⟨(some 144), 0, none, (.op (.eqB true (.t 130) (.t 143)))⟩, [4, 3, 2, 0, 1, 17, 10, 9, 8, 7, 5, 6, 16, 15, 14, 13, 11, 12])])
     (.cond (.t 144)
       (.seq (.reg 0 [⟨(some 2), 0, none, (.op (.mov (.k (.d (.bool false)))))⟩])
       (.ret))
       (.skip)))
     (.seq (.reg 0 [⟨(some 11), 0, none, (.op (.mov (.k (.d (.int .i64 0)))))⟩])
     (.block 6
      (.loop
       (.seq (.seq (.reg 0 [⟨(some 145), 0, none, (.op (.mov (.t 11)))⟩,
         ⟨(some 146), 0, none, (.op (.mov (.t 0)))⟩,
         ⟨(some 147), 0, none, (.op (.len false (.t 146)))⟩,
         ⟨(some 148), 0, none, (.op (.bin .lss (.t 145) (.t 147)))⟩])
       (.cond (.t 148)
         (.skip)
         (.exit 6)))
       (.seq (.block 7
        (.seq (.regD 0 [(⟨(some 151), 0, none, (.op (.mov (.t 0)))⟩, []),
          (⟨(some 152), 0, none, (.op (.mov (.t 10)))⟩, []),
          (⟨(some 153), 0, none, (.op (.idxA 11 none (.t 151) (.t 152)))⟩, [0, 1]),
          (⟨(some 154), 0, none, (.op (.load true 11 (.t 153)))⟩, [2, 0, 1]),
          (⟨(some 155), 0, none, (.op (.mov (.t 0)))⟩, []),
          (⟨(some 156), 0, none, (.op (.mov (.t 11)))⟩, []),
          (⟨(some 157), 0, none, (.op (.idxA 11 none (.t 155) (.t 156)))⟩, [4, 5]),
          (⟨(some 158), 0, none, (.op (.load true 11 (.t 157)))⟩, [6, 4, 5]),
          (⟨(some 159), 0, none, (.call (.k (.fn (.func 21) [] [])) [(.t 154), (.t 158)])⟩, [3, 2, 0, 1, 7, 6, 4, 5]),
          (⟨(some 160), 0, none, (.op (.mov (.t 3)))⟩, []),
          (⟨(some 161), 0, none, (.op (.mov (.t 10)))⟩, []),
          (⟨(some 162), 0, none, (.op (.idxA 1 none (.t 160) (.t 161)))⟩, [9, 10]),
          (⟨(some 163), 0, none, (.op (.load false 1 (.t 162)))⟩, [11, 9, 10]),
          (⟨(some 164), 0, none, (.op (.bin .gtr (.t 163) (.k (.d (.int .i64 0)))))⟩, [12, 11, 9, 10]),
          (⟨(some 165), 0, none, (.op (.mov (.t 164)))⟩, [13, 12, 11, 9, 10, 8, 3, 2, 0, 1, 7, 6, 4, 5]),
          (⟨(some 166), 0, (some (165, true)), (.op (.mov (.t 3)))⟩, [14, 13, 12, 11, 9, 10, 8, 3, 2, 0, 1, 7, 6, 4, 5]),
          (⟨(some 167), 0, (some (165, true)), (.op (.mov (.t 10)))⟩, [14, 13, 12, 11, 9, 10, 8, 3, 2, 0, 1, 7, 6, 4, 5]),
          (⟨(some 168), 0, (some (165, true)), (.op (.idxA 1 none (.t 166) (.t 167)))⟩, [15, 14, 13, 12, 11, 9, 10, 8, 3, 2, 0, 1, 7, 6, 4, 5, 16]),
          (⟨(some 169), 0, (some (165, true)), (.op (.load false 1 (.t 168)))⟩, [17, 15, 14, 13, 12, 11, 9, 10, 8, 3, 2, 0, 1, 7, 6, 4, 5, 16]),
          (⟨(some 170), 0, (some (165, true)), (.op (.mov (.t 3)))⟩, [14, 13, 12, 11, 9, 10, 8, 3, 2, 0, 1, 7, 6, 4, 5]),
          (⟨(some 171), 0, (some (165, true)), (.op (.mov (.t 11)))⟩, [14, 13, 12, 11, 9, 10, 8, 3, 2, 0, 1, 7, 6, 4, 5]),
          (⟨(some 172), 0, (some (165, true)), (.op (.idxA 1 none (.t 170) (.t 171)))⟩, [19, 14, 13, 12, 11, 9, 10, 8, 3, 2, 0, 1, 7, 6, 4, 5, 20]),
          (⟨(some 173), 0, (some (165, true)), (.op (.load false 1 (.t 172)))⟩, [21, 19, 14, 13, 12, 11, 9, 10, 8, 3, 2, 0, 1, 7, 6, 4, 5, 20]),
          (⟨(some 174), 0, (some (165, true)), (.op (.bin .eql (.t 169) (.t 173)))⟩, [18, 17, 15, 14, 13, 12, 11, 9, 10, 8, 3, 2, 0, 1, 7, 6, 4, 5, 16, 22, 21, 19, 20]),
          (⟨(some 175), 0, none, (.op (.pick (.t 165) (.t 174) (.k (.d (.bool false)))))⟩, [14, 13, 12, 11, 9, 10, 8, 3, 2, 0, 1, 7, 6, 4, 5, 23, 18, 17, 15, 16, 22, 21, 19, 20]),
          (⟨(some 176), 0, none, (.op (.eqB true (.t 159) (.t 175)))⟩, [8, 3, 2, 0, 1, 7, 6, 4, 5, 24, 14, 13, 12, 11, 9, 10, 23, 18, 17, 15, 16, 22, 21, 19, 20])])
        (.cond (.t 176)
          (.seq (.reg 0 [⟨(some 2), 0, none, (.op (.mov (.k (.d (.bool false)))))⟩])
          (.ret))
          (.skip))))
       (.reg 0 [⟨(some 149), 0, none, (.op (.mov (.t 11)))⟩,
         ⟨(some 150), 0, none, (.op (.bin .add (.t 149) (.k (.d (.int .i64 1)))))⟩,
         ⟨(some 11), 0, none, (.op (.mov (.t 150)))⟩]))))))))
    (.reg 0 [⟨(some 124), 0, none, (.op (.mov (.t 10)))⟩,
      ⟨(some 125), 0, none, (.op (.bin .add (.t 124) (.k (.d (.int .i64 1)))))⟩,
      ⟨(some 10), 0, none, (.op (.mov (.t 125)))⟩]))))))
  (.seq (.reg 0 [⟨(some 177), 0, none, (.call (.k (.fn (.func 10) [] [])) [])⟩,
    ⟨(some 2), 0, none, (.op (.mov (.t 177)))⟩])
  (.ret)))))))
theorem cc6 : Tryd.f6.body.bind (compC Tryd.prog) = some ac6 := by kernel_rfl
theorem go6 {vals : List V} {v : V} (ac : AC) (he : ac.erase = ac6) (hw : wpC Tryd.prog 0 ac (retQ [.tmp 2] v) ⟨vals ++ List.replicate (178 - vals.length) (.tup []), []⟩) : CallP Tryd.prog 6 vals v :=
  call_of Tryd.func6 rfl rfl rfl (cc6.trans (congrArg some he.symm)) hw
theorem gi6 {vals : List V} {rows : Go.Vx.Rows} {K : V → Go.Vx.Rows → Prop} (ac : AC) (he : ac.erase = ac6) (hw : wpC Tryd.prog rows.length ac (retI [.tmp 2] K) ⟨vals ++ List.replicate (178 - vals.length) (.tup []), rows⟩) : InlP Tryd.prog 6 vals rows K :=
  inl_of' Tryd.func6 rfl rfl rfl (cc6.trans (congrArg some he.symm)) hw
theorem gm6 {vals : List V} {v : V} {sz : Nat} {es es' : List (List V)} (ac : AC) (he : ac.erase = ac6) (hw : wpC Tryd.prog 1 ac (retM [.tmp 2] v sz es') ⟨vals ++ List.replicate (178 - vals.length) (.tup []), [.live sz es]⟩) : CallM Tryd.prog 6 vals sz es v es' :=
  callM_of' Tryd.func6 rfl rfl rfl (cc6.trans (congrArg some he.symm)) hw

/-- testbench/testbenchlaw54.SignNumbers -/
def ac7 : AC :=
  .seq (.reg 0 [⟨(some 6), 0, none, (.op (.mov (.k (.d (.bool false)))))⟩])
  (.seq (.reg 1 [⟨(some 12), 0, none, (.op (.build [(.str []), (.str []), (.str [])] [(0, 1, (.k (.d (.str [109, 105, 115, 109, 97, 116, 99, 104])))), (1, 1, (.k (.d (.str [101, 120, 116, 114, 97])))), (2, 1, (.k (.d (.str [108, 111, 115, 116]))))]))⟩,
    ⟨(some 7), 0, none, (.op (.alloc [(.str []), (.str []), (.str [])]))⟩,
    ⟨none, 1, none, (.op (.store 3 (.t 7) (.t 12)))⟩])
  (.seq (.reg 1 [⟨(some 13), 0, none, (.op (.mov (.t 2)))⟩,
    ⟨(some 14), 0, none, (.op (.bin .rem (.t 13) (.k (.d (.int .u8 3)))))⟩,
    ⟨(some 15), 0, none, (.op (.idxA 1 (some 3) (.t 7) (.t 14)))⟩,
    ⟨(some 16), 0, none, (.op (.load false 1 (.t 15)))⟩,
    ⟨(some 17), 0, none, (.op (.bin .add (.t 16) (.k (.d (.str [32])))))⟩,
    ⟨(some 18), 0, none, (.op (.mov (.t 0)))⟩,
    ⟨(some 19), 0, none, (.op (.bin .add (.t 17) (.t 18)))⟩,
    ⟨(some 20), 0, none, (.call (.k (.fn (.func 25) [] [])) [(.t 19)])⟩,
    ⟨(some 8), 0, none, (.op (.alloc [(.str []), (.int .u64 0), (.str []), (.str []), (.int .i64 0), (.int .i64 0), (.int .i64 0), .nils, .nils, (.int .i64 0), (.int .i64 0)]))⟩,
    ⟨none, 1, none, (.op (.store 11 (.t 8) (.t 20)))⟩])
  (.seq (.reg 1 [⟨(some 21), 0, none, (.op (.mov (.t 2)))⟩,
    ⟨(some 22), 0, none, (.op (.bin .rem (.t 21) (.k (.d (.int .u8 3)))))⟩,
    ⟨(some 23), 0, none, (.op (.idxA 1 (some 3) (.t 7) (.t 22)))⟩,
    ⟨(some 24), 0, none, (.op (.load false 1 (.t 23)))⟩,
    ⟨(some 25), 0, none, (.op (.bin .add (.t 24) (.k (.d (.str [32])))))⟩,
    ⟨(some 26), 0, none, (.op (.mov (.t 1)))⟩,
    ⟨(some 27), 0, none, (.op (.bin .add (.t 25) (.t 26)))⟩,
    ⟨(some 28), 0, none, (.call (.k (.fn (.func 25) [] [])) [(.t 27)])⟩,
    ⟨(some 9), 0, none, (.op (.alloc [(.str []), (.int .u64 0), (.str []), (.str []), (.int .i64 0), (.int .i64 0), (.int .i64 0), .nils, .nils, (.int .i64 0), (.int .i64 0)]))⟩,
    ⟨none, 1, none, (.op (.store 11 (.t 9) (.t 28)))⟩])
  (.seq (.seq (.reg 0 [⟨(some 29), 0, none, (.op (.mov (.t 0)))⟩,
    ⟨(some 30), 0, none, (.op (.len true (.t 29)))⟩,
    ⟨(some 31), 0, none, (.op (.bin .gtr (.t 30) (.k (.d (.int .i64 16)))))⟩,
    ⟨(some 32), 0, none, (.op (.mov (.t 31)))⟩,
    ⟨(some 33), 0, (some (32, false)), (.op (.mov (.t 1)))⟩,
    ⟨(some 34), 0, (some (32, false)), (.op (.len true (.t 33)))⟩,
    ⟨(some 35), 0, (some (32, false)), (.op (.bin .gtr (.t 34) (.k (.d (.int .i64 16)))))⟩,
    ⟨(some 36), 0, none, (.op (.pick (.t 32) (.k (.d (.bool true))) (.t 35)))⟩])
  (.cond (.t 36)
    (.seq (.reg 0 [⟨(some 37), 0, none, (.call (.k (.fn (.func 10) [] [])) [])⟩,
      ⟨(some 6), 0, none, (.op (.mov (.t 37)))⟩])
    (.ret))
    (.skip)))
  (.seq (.seq (.regD 0 [(⟨(some 38), 0, none, (.op (.load true 11 (.t 8)))⟩, []),
    (⟨(some 39), 0, none, (.call (.k (.fn (.func 13) [] [])) [(.t 38)])⟩, [0]),
    (⟨(some 40), 0, none, (.op (.mov (.t 39)))⟩, [1, 0]),
    (⟨(some 41), 0, (some (40, true)), (.op (.load true 11 (.t 9)))⟩, [2, 1, 0]),
    (⟨(some 42), 0, (some (40, true)), (.call (.k (.fn (.func 13) [] [])) [(.t 41)])⟩, [3, 2, 1, 0]),
    (⟨(some 43), 0, none, (.op (.pick (.t 40) (.t 42) (.k (.d (.bool false)))))⟩, [2, 1, 0, 4, 3]),
    (⟨(some 44), 0, none, (.op (.mov (.t 43)))⟩, [5, 2, 1, 0, 4, 3]),
    (⟨(some 45), 0, (some (44, true)), (.op (.load true 11 (.t 8)))⟩, [6, 5, 2, 1, 0, 4, 3]),
    (⟨(some 46), 0, (some (44, true)), (.op (.load true 11 (.t 9)))⟩, [6, 5, 2, 1, 0, 4, 3]),
    (⟨(some 47), 0, (some (44, true)), (.call (.k (.fn (.func 21) [] [])) [(.t 45), (.t 46)])⟩, [7, 6, 5, 2, 1, 0, 4, 3, 8]),
    (⟨(some 48), 0, (some (44, true)), (.op (.un .not (.t 47)))⟩, [9, 7, 6, 5, 2, 1, 0, 4, 3, 8]),
    (⟨(some 49), 0, none, (.op (.pick (.t 44) (.t 48) (.k (.d (.bool false)))))⟩, [6, 5, 2, 1, 0, 4, 3, 10, 9, 7, 8]),
    (⟨(some 50), 0, none, (.op (.mov (.t 49)))⟩, [11, 6, 5, 2, 1, 0, 4, 3, 10, 9, 7, 8]),
    (⟨(some 51), 0, (some (50, false)), (.op (.load true 11 (.t 8)))⟩, [12, 11, 6, 5, 2, 1, 0, 4, 3, 10, 9, 7, 8]),
    (⟨(some 52), 0, (some (50, false)), (.call (.k (.fn (.func 13) [] [])) [(.t 51)])⟩, [13, 12, 11, 6, 5, 2, 1, 0, 4, 3, 10, 9, 7, 8]),
    (⟨(some 53), 0, (some (50, false)), (.op (.mov (.t 52)))⟩, [14, 13, 12, 11, 6, 5, 2, 1, 0, 4, 3, 10, 9, 7, 8]),
    (⟨(some 54), 0, (some (53, true)), (.op (.load true 11 (.t 8)))⟩, [15, 14, 13, 12, 11, 6, 5, 2, 1, 0, 4, 3, 10, 9, 7, 8]),
    (⟨(some 55), 0, (some (53, true)), (.op (.mov (.t 2)))⟩, [15, 14, 13, 12, 11, 6, 5, 2, 1, 0, 4, 3, 10, 9, 7, 8]),
    (⟨(some 56), 0, (some (53, true)), (.op (.bin .rem (.t 55) (.k (.d (.int .u8 3)))))⟩, [17, 15, 14, 13, 12, 11, 6, 5, 2, 1, 0, 4, 3, 10, 9, 7, 8]),
    (⟨(some 57), 0, (some (53, true)), (.op (.bin .add (.t 56) (.k (.d (.int .u8 1)))))⟩, [18, 17, 15, 14, 13, 12, 11, 6, 5, 2, 1, 0, 4, 3, 10, 9, 7, 8]),
    (⟨(some 58), 0, (some (53, true)), (.op (.bin .rem (.t 57) (.k (.d (.int .u8 3)))))⟩, [19, 18, 17, 15, 14, 13, 12, 11, 6, 5, 2, 1, 0, 4, 3, 10, 9, 7, 8]),
    (⟨(some 59), 0, (some (53, true)), (.op (.idxA 1 (some 3) (.t 7) (.t 58)))⟩, [20, 19, 18, 17, 15, 14, 13, 12, 11, 6, 5, 2, 1, 0, 4, 3, 10, 9, 7, 8]),
    (⟨(some 60), 0, (some (53, true)), (.op (.load false 1 (.t 59)))⟩, [21, 20, 19, 18, 17, 15, 14, 13, 12, 11, 6, 5, 2, 1, 0, 4, 3, 10, 9, 7, 8]),
    (⟨(some 61), 0, (some (53, true)), (.op (.bin .add (.t 60) (.k (.d (.str [32])))))⟩, [22, 21, 20, 19, 18, 17, 15, 14, 13, 12, 11, 6, 5, 2, 1, 0, 4, 3, 10, 9, 7, 8]),
    (⟨(some 62), 0, (some (53, true)), (.op (.mov (.t 0)))⟩, [15, 14, 13, 12, 11, 6, 5, 2, 1, 0, 4, 3, 10, 9, 7, 8]),
    (⟨(some 63), 0, (some (53, true)), (.op (.bin .add (.t 61) (.t 62)))⟩, [23, 22, 21, 20, 19, 18, 17, 15, 14, 13, 12, 11, 6, 5, 2, 1, 0, 4, 3, 10, 9, 7, 8, 24]),
    (⟨(some 64), 0, (some (53, true)), (.call (.k (.fn (.func 25) [] [])) [(.t 63)])⟩, [25, 23, 22, 21, 20, 19, 18, 17, 15, 14, 13, 12, 11, 6, 5, 2, 1, 0, 4, 3, 10, 9, 7, 8, 24]),
    (⟨(some 65), 0, (some (53, true)), (.call (.k (.fn (.func 21) [] [])) [(.t 54), (.t 64)])⟩, [16, 15, 14, 13, 12, 11, 6, 5, 2, 1, 0, 4, 3, 10, 9, 7, 8, 26, 25, 23, 22, 21, 20, 19, 18, 17, 24]),
    (⟨(some 66), 0, (some (50, false)), (.op (.pick (.t 53) (.t 65) (.k (.d (.bool false)))))⟩, [15, 14, 13, 12, 11, 6, 5, 2, 1, 0, 4, 3, 10, 9, 7, 8, 27, 16, 26, 25, 23, 22, 21, 20, 19, 18, 17, 24]),
    (⟨(some 67), 0, none, (.op (.pick (.t 50) (.k (.d (.bool true))) (.t 66)))⟩, [12, 11, 6, 5, 2, 1, 0, 4, 3, 10, 9, 7, 8, 28, 15, 14, 13, 27, 16, 26, 25, 23, 22, 21, 20, 19, 18, 17, 24])])
  (.cond (.t 67)
    (.seq (.reg 0 [⟨(some 6), 0, none, (.op (.mov (.k (.d (.bool false)))))⟩])
    (.ret))
    (.skip)))
  (.seq (.reg 1 [⟨(some 68), 0, none, (.op (.mov (.t 0)))⟩,
    ⟨(some 69), 0, none, (.op (.bin .add (.k (.d (.str [97, 115, 115, 101, 114, 116, 32]))) (.t 68)))⟩,
    ⟨(some 70), 0, none, (.call (.k (.fn (.func 25) [] [])) [(.t 69)])⟩,
    ⟨(some 10), 0, none, (.op (.alloc [(.str []), (.int .u64 0), (.str []), (.str []), (.int .i64 0), (.int .i64 0), (.int .i64 0), .nils, .nils, (.int .i64 0), (.int .i64 0)]))⟩,
    ⟨none, 1, none, (.op (.store 11 (.t 10) (.t 70)))⟩])
  (.seq (.reg 1 [⟨(some 71), 0, none, (.op (.mov (.t 1)))⟩,
    ⟨(some 72), 0, none, (.op (.bin .add (.k (.d (.str [97, 115, 115, 101, 114, 116, 32]))) (.t 71)))⟩,
    ⟨(some 73), 0, none, (.call (.k (.fn (.func 25) [] [])) [(.t 72)])⟩,
    ⟨(some 11), 0, none, (.op (.alloc [(.str []), (.int .u64 0), (.str []), (.str []), (.int .i64 0), (.int .i64 0), (.int .i64 0), .nils, .nils, (.int .i64 0), (.int .i64 0)]))⟩,
    ⟨none, 1, none, (.op (.store 11 (.t 11) (.t 73)))⟩])
  (.seq (.seq (.reg 0 [⟨(some 74), 0, none, (.op (.load true 11 (.t 10)))⟩,
    ⟨(some 75), 0, none, (.call (.k (.fn (.func 13) [] [])) [(.t 74)])⟩,
    ⟨(some 76), 0, none, (.op (.mov (.t 75)))⟩,
    ⟨(some 77), 0, (some (76, true)), (.op (.load true 11 (.t 11)))⟩,
    ⟨(some 78), 0, (some (76, true)), (.call (.k (.fn (.func 13) [] [])) [(.t 77)])⟩,
    ⟨(some 79), 0, none, (.op (.pick (.t 76) (.t 78) (.k (.d (.bool false)))))⟩,
    ⟨(some 80), 0, none, (.op (.mov (.t 79)))⟩,
    ⟨(some 81), 0, (some (80, true)), (.op (.load true 11 (.t 10)))⟩,
    ⟨(some 82), 0, (some (80, true)), (.op (.load true 11 (.t 11)))⟩,
    ⟨(some 83), 0, (some (80, true)), (.call (.k (.fn (.func 21) [] [])) [(.t 81), (.t 82)])⟩,
    ⟨(some 84), 0, (some (80, true)), (.op (.mov (.t 0)))⟩,
    ⟨(some 85), 0, (some (80, true)), (.op (.mov (.t 1)))⟩,
    ⟨(some 86), 0, (some (80, true)), (.op (.bin .eql (.t 84) (.t 85)))⟩,
    ⟨(some 87), 0, (some (80, true)), (.op (.eqB true (.t 83) (.t 86)))⟩,
    ⟨(some 88), 0, none, (.op (.pick (.t 80) (.t 87) (.k (.d (.bool false)))))⟩])
  (.cond (.t 88)
    (.seq (.reg 0 [⟨(some 6), 0, none, (.op (.mov (.k (.d (.bool false)))))⟩])
    (.ret))
    (.skip)))
  (.seq (.reg 0 [⟨(some 89), 0, none, (.op (.load true 11 (.t 10)))⟩,
    ⟨(some 90), 0, none, (.op (.load true 11 (.t 8)))⟩,
    ⟨(some 91), 0, none, (.call (.k (.fn (.func 21) [] [])) [(.t 89), (.t 90)])⟩,
    ⟨(some 92), 0, none, (.op (.un .not (.t 91)))⟩,
    ⟨(some 93), 0, none, (.op (.mov (.t 92)))⟩,
    ⟨(some 94), 0, (some (93, true)), (.call (.k (.fn (.func 10) [] [])) [])⟩,
    ⟨(some 95), 0, none, (.op (.pick (.t 93) (.t 94) (.k (.d (.bool false)))))⟩,
    ⟨(some 6), 0, none, (.op (.mov (.t 95)))⟩])
  (.ret))))))))))
theorem cc7 : Tryd.f7.body.bind (compC Tryd.prog) = some ac7 := by kernel_rfl
theorem go7 {vals : List V} {v : V} (ac : AC) (he : ac.erase = ac7) (hw : wpC Tryd.prog 0 ac (retQ [.tmp 6] v) ⟨vals ++ List.replicate (96 - vals.length) (.tup []), []⟩) : CallP Tryd.prog 7 vals v :=
  call_of Tryd.func7 rfl rfl rfl (cc7.trans (congrArg some he.symm)) hw
theorem gi7 {vals : List V} {rows : Go.Vx.Rows} {K : V → Go.Vx.Rows → Prop} (ac : AC) (he : ac.erase = ac7) (hw : wpC Tryd.prog rows.length ac (retI [.tmp 6] K) ⟨vals ++ List.replicate (96 - vals.length) (.tup []), rows⟩) : InlP Tryd.prog 7 vals rows K :=
  inl_of' Tryd.func7 rfl rfl rfl (cc7.trans (congrArg some he.symm)) hw
theorem gm7 {vals : List V} {v : V} {sz : Nat} {es es' : List (List V)} (ac : AC) (he : ac.erase = ac7) (hw : wpC Tryd.prog 1 ac (retM [.tmp 6] v sz es') ⟨vals ++ List.replicate (96 - vals.length) (.tup []), [.live sz es]⟩) : CallM Tryd.prog 7 vals sz es v es' :=
  callM_of' Tryd.func7 rfl rfl rfl (cc7.trans (congrArg some he.symm)) hw

/-- testbench/testbenchlaw54.SignEquivalent -/
def ac8 : AC :=
  .seq (.reg 3 [⟨(some 3), 0, none, (.op (.box 11 (.t 0)))⟩,
    ⟨(some 4), 1, none, (.op (.box 11 (.t 1)))⟩,
    ⟨(some 5), 2, none, (.op (.box 11 (.t 2)))⟩,
    ⟨(some 6), 3, none, (.op (.mov (.k (.d (.bool false)))))⟩])
  (.seq (.seq (.reg 1 [⟨(some 7), 0, none, (.op (.load true 11 (.t 3)))⟩,
    ⟨(some 8), 0, none, (.op (.load true 11 (.t 4)))⟩,
    ⟨(some 9), 0, none, (.op (.load true 11 (.t 5)))⟩,
    ⟨(some 10), 0, none, (.op (.buildSl 11 3 [(.str []), (.int .u64 0), (.str []), (.str []), (.int .i64 0), (.int .i64 0), (.int .i64 0), .nils, .nils, (.int .i64 0), (.int .i64 0)] [(0, (.t 7)), (1, (.t 8)), (2, (.t 9))]))⟩,
    ⟨(some 11), 1, none, (.call (.k (.fn (.func 9) [] [])) [(.t 10)])⟩,
    ⟨(some 12), 1, none, (.op (.un .not (.t 11)))⟩])
  (.cond (.t 12)
    (.seq (.reg 0 [⟨(some 13), 0, none, (.call (.k (.fn (.func 10) [] [])) [])⟩,
      ⟨(some 6), 0, none, (.op (.mov (.t 13)))⟩])
    (.ret))
    (.skip)))
  (.seq (.seq (.regD 0 [(⟨(some 14), 0, none, (.op (.load true 11 (.t 3)))⟩, []),
    (⟨(some 15), 0, none, (.op (.load true 11 (.t 4)))⟩, []),
    (⟨(some 16), 0, none, (.call (.k (.fn (.func 21) [] [])) [(.t 14), (.t 15)])⟩, [0, 1]),
    (⟨(some 17), 0, none, (.op (.load true 11 (.t 4)))⟩, []),
    (⟨(some 18), 0, none, (.op (.load true 11 (.t 3)))⟩, []),
    (⟨(some 19), 0, none, (.call (.k (.fn (.func 21) [] [])) [(.t 17), (.t 18)])⟩, [3, 4, 2, 0, 1]),
    (⟨(some 20), 0, none, (.op (.eqB true (.t 16) (.t 19)))⟩, [2, 0, 1, 5, 3, 4]),
    (⟨(some 21), 0, none, (.op (.mov (.t 20)))⟩, [6, 2, 0, 1, 5, 3, 4]),
    (⟨(some 22), 0, (some (21, false)), (.op (.load true 11 (.t 3)))⟩, [7, 6, 2, 0, 1, 5, 3, 4]),
    (⟨(some 23), 0, (some (21, false)), (.op (.load true 11 (.t 3)))⟩, [7, 6, 2, 0, 1, 5, 3, 4]),
    (⟨(some 24), 0, (some (21, false)), (.call (.k (.fn (.func 21) [] [])) [(.t 22), (.t 23)])⟩, [8, 7, 6, 2, 0, 1, 5, 3, 4, 9]),
    (⟨(some 25), 0, (some (21, false)), (.op (.load true 11 (.t 3)))⟩, [7, 6, 2, 0, 1, 5, 3, 4]),
    (⟨(some 26), 0, (some (21, false)), (.call (.k (.fn (.func 13) [] [])) [(.t 25)])⟩, [11, 7, 6, 2, 0, 1, 5, 3, 4, 10, 8, 9]),
    (⟨(some 27), 0, (some (21, false)), (.op (.mov (.t 26)))⟩, [12, 11, 7, 6, 2, 0, 1, 5, 3, 4, 10, 8, 9]),
    (⟨(some 28), 0, (some (27, true)), (.op (.load true 11 (.t 3)))⟩, [13, 12, 11, 7, 6, 2, 0, 1, 5, 3, 4, 10, 8, 9]),
    (⟨(some 29), 0, (some (27, true)), (.call (.k (.fn (.func 15) [] [])) [(.t 28)])⟩, [14, 13, 12, 11, 7, 6, 2, 0, 1, 5, 3, 4, 10, 8, 9]),
    (⟨(some 30), 0, (some (27, true)), (.op (.un .not (.t 29)))⟩, [15, 14, 13, 12, 11, 7, 6, 2, 0, 1, 5, 3, 4, 10, 8, 9]),
    (⟨(some 31), 0, (some (21, false)), (.op (.pick (.t 27) (.t 30) (.k (.d (.bool false)))))⟩, [13, 12, 11, 7, 6, 2, 0, 1, 5, 3, 4, 10, 8, 9, 16, 15, 14]),
    (⟨(some 32), 0, (some (21, false)), (.op (.eqB true (.t 24) (.t 31)))⟩, [10, 8, 7, 6, 2, 0, 1, 5, 3, 4, 9, 17, 13, 12, 11, 16, 15, 14]),
    (⟨(some 33), 0, none, (.op (.pick (.t 21) (.k (.d (.bool true))) (.t 32)))⟩, [7, 6, 2, 0, 1, 5, 3, 4, 18, 10, 8, 9, 17, 13, 12, 11, 16, 15, 14])])
  (.cond (.t 33)
    (.seq (.reg 0 [⟨(some 6), 0, none, (.op (.mov (.k (.d (.bool false)))))⟩])
    (.ret))
    (.skip)))
  (.seq (.reg 0 [⟨(some 34), 0, none, (.op (.load true 11 (.t 3)))⟩,
    ⟨(some 35), 0, none, (.op (.load true 11 (.t 4)))⟩,
    ⟨(some 36), 0, none, (.call (.k (.fn (.func 21) [] [])) [(.t 34), (.t 35)])⟩,
    ⟨(some 37), 0, none, (.op (.un .not (.t 36)))⟩,
    ⟨(some 38), 0, none, (.op (.mov (.t 37)))⟩,
    ⟨(some 39), 0, (some (38, false)), (.op (.load true 11 (.t 4)))⟩,
    ⟨(some 40), 0, (some (38, false)), (.op (.load true 11 (.t 5)))⟩,
    ⟨(some 41), 0, (some (38, false)), (.call (.k (.fn (.func 21) [] [])) [(.t 39), (.t 40)])⟩,
    ⟨(some 42), 0, (some (38, false)), (.op (.un .not (.t 41)))⟩,
    ⟨(some 43), 0, none, (.op (.pick (.t 38) (.k (.d (.bool true))) (.t 42)))⟩,
    ⟨(some 44), 0, none, (.op (.mov (.t 43)))⟩,
    ⟨(some 45), 0, (some (44, false)), (.op (.load true 11 (.t 3)))⟩,
    ⟨(some 46), 0, (some (44, false)), (.op (.load true 11 (.t 5)))⟩,
    ⟨(some 47), 0, (some (44, false)), (.call (.k (.fn (.func 21) [] [])) [(.t 45), (.t 46)])⟩,
    ⟨(some 48), 0, none, (.op (.pick (.t 44) (.k (.d (.bool true))) (.t 47)))⟩,
    ⟨(some 49), 0, none, (.op (.mov (.t 48)))⟩,
    ⟨(some 50), 0, (some (49, true)), (.call (.k (.fn (.func 10) [] [])) [])⟩,
    ⟨(some 51), 0, none, (.op (.pick (.t 49) (.t 50) (.k (.d (.bool false)))))⟩,
    ⟨(some 6), 0, none, (.op (.mov (.t 51)))⟩])
  (.ret))))
theorem cc8 : Tryd.f8.body.bind (compC Tryd.prog) = some ac8 := by kernel_rfl
theorem go8 {vals : List V} {v : V} (ac : AC) (he : ac.erase = ac8) (hw : wpC Tryd.prog 0 ac (retQ [.tmp 6] v) ⟨vals ++ List.replicate (52 - vals.length) (.tup []), []⟩) : CallP Tryd.prog 8 vals v :=
  call_of Tryd.func8 rfl rfl rfl (cc8.trans (congrArg some he.symm)) hw
theorem gi8 {vals : List V} {rows : Go.Vx.Rows} {K : V → Go.Vx.Rows → Prop} (ac : AC) (he : ac.erase = ac8) (hw : wpC Tryd.prog rows.length ac (retI [.tmp 6] K) ⟨vals ++ List.replicate (52 - vals.length) (.tup []), rows⟩) : InlP Tryd.prog 8 vals rows K :=
  inl_of' Tryd.func8 rfl rfl rfl (cc8.trans (congrArg some he.symm)) hw
theorem gm8 {vals : List V} {v : V} {sz : Nat} {es es' : List (List V)} (ac : AC) (he : ac.erase = ac8) (hw : wpC Tryd.prog 1 ac (retM [.tmp 6] v sz es') ⟨vals ++ List.replicate (52 - vals.length) (.tup []), [.live sz es]⟩) : CallM Tryd.prog 8 vals sz es v es' :=
  callM_of' Tryd.func8 rfl rfl rfl (cc8.trans (congrArg some he.symm)) hw

/-- testbench/testbenchlaw54.few -/
def ac9 : AC :=
  .seq (.reg 0 [⟨(some 2), 0, none, (.op (.mov (.k (.d (.bool false)))))⟩])
  (.seq (.seq (.reg 0 [⟨(some 3), 0, none, (.op (.mov (.k (.d (.int .i64 0)))))⟩])
  (.block 0
   (.loop
    (.seq (.seq (.reg 0 [⟨(some 4), 0, none, (.op (.mov (.t 3)))⟩,
      ⟨(some 5), 0, none, (.op (.mov (.t 0)))⟩,
      ⟨(some 6), 0, none, (.op (.len false (.t 5)))⟩,
      ⟨(some 7), 0, none, (.op (.bin .lss (.t 4) (.t 6)))⟩,
      ⟨(some 8), 0, none, (.op (.mov (.t 7)))⟩,
      ⟨(some 9), 0, (some (8, true)), (.op (.mov (.t 3)))⟩,
      ⟨(some 10), 0, (some (8, true)), (.op (.bin .lss (.t 9) (.k (.d (.int .i64 31)))))⟩,
      ⟨(some 11), 0, none, (.op (.pick (.t 8) (.t 10) (.k (.d (.bool false)))))⟩])
    (.cond (.t 11)
      (.skip)
      (.exit 0)))
    (.seq (.block 1
     (.seq (.reg 0 [⟨(some 14), 0, none, (.op (.mov (.t 0)))⟩,
       ⟨(some 15), 0, none, (.op (.mov (.t 3)))⟩,
       ⟨(some 16), 0, none, (.op (.idxA 11 none (.t 14) (.t 15)))⟩,
       ⟨(some 17), 0, none, (.op (.fldA 3 (.t 16)))⟩,
       ⟨(some 18), 0, none, (.op (.load false 1 (.t 17)))⟩,
       ⟨(some 19), 0, none, (.op (.len true (.t 18)))⟩,
       ⟨(some 20), 0, none, (.op (.bin .gtr (.t 19) (.k (.d (.int .i64 60)))))⟩,
       ⟨(some 21), 0, none, (.op (.mov (.t 20)))⟩,
       ⟨(some 22), 0, (some (21, false)), (.op (.mov (.t 0)))⟩,
       ⟨(some 23), 0, (some (21, false)), (.op (.mov (.t 3)))⟩,
       ⟨(some 24), 0, (some (21, false)), (.op (.idxA 11 none (.t 22) (.t 23)))⟩,
       ⟨(some 25), 0, (some (21, false)), (.op (.fldA 0 (.t 24)))⟩,
       ⟨(some 26), 0, (some (21, false)), (.op (.load false 1 (.t 25)))⟩,
       ⟨(some 27), 0, (some (21, false)), (.op (.len true (.t 26)))⟩,
       ⟨(some 28), 0, (some (21, false)), (.op (.bin .gtr (.t 27) (.k (.d (.int .i64 60)))))⟩,
       ⟨(some 29), 0, none, (.op (.pick (.t 21) (.k (.d (.bool true))) (.t 28)))⟩,
       ⟨(some 30), 0, none, (.op (.mov (.t 29)))⟩,
       ⟨(some 31), 0, (some (30, false)), (.op (.mov (.t 0)))⟩,
       ⟨(some 32), 0, (some (30, false)), (.op (.mov (.t 3)))⟩,
       ⟨(some 33), 0, (some (30, false)), (.op (.idxA 11 none (.t 31) (.t 32)))⟩,
       ⟨(some 34), 0, (some (30, false)), (.op (.fldA 2 (.t 33)))⟩,
       ⟨(some 35), 0, (some (30, false)), (.op (.load false 1 (.t 34)))⟩,
       ⟨(some 36), 0, (some (30, false)), (.op (.len true (.t 35)))⟩,
       ⟨(some 37), 0, (some (30, false)), (.op (.bin .gtr (.t 36) (.k (.d (.int .i64 60)))))⟩,
       ⟨(some 38), 0, none, (.op (.pick (.t 30) (.k (.d (.bool true))) (.t 37)))⟩])
     (.cond (.t 38)
       (.seq (.reg 0 [⟨(some 2), 0, none, (.op (.mov (.k (.d (.bool false)))))⟩])
       (.ret))
       (.skip))))
    (.reg 0 [⟨(some 12), 0, none, (.op (.mov (.t 3)))⟩,
      ⟨(some 13), 0, none, (.op (.bin .add (.t 12) (.k (.d (.int .i64 1)))))⟩,
      ⟨(some 3), 0, none, (.op (.mov (.t 13)))⟩]))))))
  (.seq (.reg 0 [⟨(some 39), 0, none, (.op (.mov (.t 0)))⟩,
    ⟨(some 40), 0, none, (.op (.len false (.t 39)))⟩,
    ⟨(some 41), 0, none, (.op (.bin .leq (.t 40) (.k (.d (.int .i64 30)))))⟩,
    ⟨(some 2), 0, none, (.op (.mov (.t 41)))⟩])
  (.ret)))
theorem cc9 : Tryd.f9.body.bind (compC Tryd.prog) = some ac9 := by kernel_rfl
theorem go9 {vals : List V} {v : V} (ac : AC) (he : ac.erase = ac9) (hw : wpC Tryd.prog 0 ac (retQ [.tmp 2] v) ⟨vals ++ List.replicate (42 - vals.length) (.tup []), []⟩) : CallP Tryd.prog 9 vals v :=
  call_of Tryd.func9 rfl rfl rfl (cc9.trans (congrArg some he.symm)) hw
theorem gi9 {vals : List V} {rows : Go.Vx.Rows} {K : V → Go.Vx.Rows → Prop} (ac : AC) (he : ac.erase = ac9) (hw : wpC Tryd.prog rows.length ac (retI [.tmp 2] K) ⟨vals ++ List.replicate (42 - vals.length) (.tup []), rows⟩) : InlP Tryd.prog 9 vals rows K :=
  inl_of' Tryd.func9 rfl rfl rfl (cc9.trans (congrArg some he.symm)) hw
theorem gm9 {vals : List V} {v : V} {sz : Nat} {es es' : List (List V)} (ac : AC) (he : ac.erase = ac9) (hw : wpC Tryd.prog 1 ac (retM [.tmp 2] v sz es') ⟨vals ++ List.replicate (42 - vals.length) (.tup []), [.live sz es]⟩) : CallM Tryd.prog 9 vals sz es v es' :=
  callM_of' Tryd.func9 rfl rfl rfl (cc9.trans (congrArg some he.symm)) hw

/-- testbench/testbenchlaw54.awake -/
def ac10 : AC :=
  .seq (.reg 0 [⟨(some 0), 0, none, (.op (.mov (.k (.d (.bool false)))))⟩])
  (.seq (.reg 1 [⟨(some 5), 0, none, (.call (.k (.fn (.func 25) [] [])) [(.k (.d (.str [108, 111, 115, 116, 32, 51])))])⟩,
    ⟨(some 6), 0, none, (.call (.k (.fn (.func 25) [] [])) [(.k (.d (.str [])))])⟩,
    ⟨(some 7), 0, none, (.call (.k (.fn (.func 25) [] [])) [(.k (.d (.str [97, 115, 115, 101, 114, 116, 32, 97])))])⟩,
    ⟨(some 8), 0, none, (.call (.k (.fn (.func 25) [] [])) [(.k (.d (.str [108, 111, 115, 116, 32, 53])))])⟩,
    ⟨(some 9), 0, none, (.call (.k (.fn (.func 25) [] [])) [(.k (.d (.str [97, 115, 115, 101, 114, 116, 32, 98])))])⟩,
    ⟨(some 10), 0, none, (.op (.buildSl 11 5 [(.str []), (.int .u64 0), (.str []), (.str []), (.int .i64 0), (.int .i64 0), (.int .i64 0), .nils, .nils, (.int .i64 0), (.int .i64 0)] [(0, (.t 5)), (1, (.t 6)), (2, (.t 7)), (3, (.t 8)), (4, (.t 9))]))⟩,
    ⟨(some 1), 1, none, (.op (.mov (.t 10)))⟩])
  (.seq (.reg 0 [⟨(some 11), 0, none, (.op (.mov (.t 1)))⟩,
    ⟨(some 12), 0, none, (.call (.k (.fn (.func 23) [] [])) [(.t 11)])⟩,
    ⟨(some 2), 0, none, (.op (.mov (.t 12)))⟩])
  (.seq (.reg 0 [⟨(some 14), 0, none, (.op (.mov (.t 1)))⟩,
    ⟨(some 15), 0, none, (.call (.k (.fn (.func 19) [] [])) [(.t 14), (.k (.d (.str [108, 111, 115, 116, 32, 57])))])⟩,
    ⟨(some 13), 0, none, (.op (.mov (.t 15)))⟩,
    ⟨(some 16), 0, none, (.op (.ext (.t 13) 0))⟩,
    ⟨(some 17), 0, none, (.op (.ext (.t 13) 1))⟩,
    ⟨(some 3), 0, none, (.op (.mov (.t 16)))⟩,
    ⟨(some 4), 0, none, (.op (.mov (.t 17)))⟩])
  (.seq (.regD 0 [(⟨(some 18), 0, none, (.op (.mov (.t 2)))⟩, []),
    (⟨(some 19), 0, none, (.op (.len false (.t 18)))⟩, [0]),
    (⟨(some 20), 0, none, (.op (.bin .eql (.t 19) (.k (.d (.int .i64 3)))))⟩, [1, 0]),
    (⟨(some 21), 0, none, (.op (.mov (.t 20)))⟩, [2, 1, 0]),
    (⟨(some 22), 0, (some (21, true)), (.op (.mov (.t 2)))⟩, [3, 2, 1, 0]),
    (⟨(some 23), 0, (some (21, true)), (.op (.idxA 1 none (.t 22) (.k (.d (.int .i64 0)))))⟩, [4, 3, 2, 1, 0]),
    (⟨(some 24), 0, (some (21, true)), (.op (.load false 1 (.t 23)))⟩, [5, 4, 3, 2, 1, 0]),
    (⟨(some 25), 0, (some (21, true)), (.op (.len false (.t 24)))⟩, [6, 5, 4, 3, 2, 1, 0]),
    (⟨(some 26), 0, (some (21, true)), (.op (.bin .eql (.t 25) (.k (.d (.int .i64 2)))))⟩, [7, 6, 5, 4, 3, 2, 1, 0]),
    (⟨(some 27), 0, none, (.op (.pick (.t 21) (.t 26) (.k (.d (.bool false)))))⟩, [3, 2, 1, 0, 8, 7, 6, 5, 4]),
    (⟨(some 28), 0, none, (.op (.mov (.t 27)))⟩, [9, 3, 2, 1, 0, 8, 7, 6, 5, 4]),
    (⟨(some 29), 0, (some (28, true)), (.op (.mov (.t 2)))⟩, [10, 9, 3, 2, 1, 0, 8, 7, 6, 5, 4]),
    (⟨(some 30), 0, (some (28, true)), (.op (.idxA 1 none (.t 29) (.k (.d (.int .i64 0)))))⟩, [11, 10, 9, 3, 2, 1, 0, 8, 7, 6, 5, 4]),
    (⟨(some 31), 0, (some (28, true)), (.op (.load false 1 (.t 30)))⟩, [12, 11, 10, 9, 3, 2, 1, 0, 8, 7, 6, 5, 4]),
    (⟨(some 32), 0, (some (28, true)), (.op (.idxA 1 none (.t 31) (.k (.d (.int .i64 1)))))⟩, [13, 12, 11, 10, 9, 3, 2, 1, 0, 8, 7, 6, 5, 4]),
    (⟨(some 33), 0, (some (28, true)), (.op (.load false 1 (.t 32)))⟩, [14, 13, 12, 11, 10, 9, 3, 2, 1, 0, 8, 7, 6, 5, 4]),
    (⟨(some 34), 0, (some (28, true)), (.op (.bin .eql (.t 33) (.k (.d (.int .i64 3)))))⟩, [15, 14, 13, 12, 11, 10, 9, 3, 2, 1, 0, 8, 7, 6, 5, 4]),
    (⟨(some 35), 0, none, (.op (.pick (.t 28) (.t 34) (.k (.d (.bool false)))))⟩, [10, 9, 3, 2, 1, 0, 8, 7, 6, 5, 4, 16, 15, 14, 13, 12, 11]),
    (⟨(some 36), 0, none, (.op (.mov (.t 35)))⟩, [17, 10, 9, 3, 2, 1, 0, 8, 7, 6, 5, 4, 16, 15, 14, 13, 12, 11]),
    (⟨(some 37), 0, (some (36, true)), (.op (.mov (.t 2)))⟩, [18, 17, 10, 9, 3, 2, 1, 0, 8, 7, 6, 5, 4, 16, 15, 14, 13, 12, 11]),
    (⟨(some 38), 0, (some (36, true)), (.op (.idxA 1 none (.t 37) (.k (.d (.int .i64 2)))))⟩, [19, 18, 17, 10, 9, 3, 2, 1, 0, 8, 7, 6, 5, 4, 16, 15, 14, 13, 12, 11]),
    (⟨(some 39), 0, (some (36, true)), (.op (.load false 1 (.t 38)))⟩, [20, 19, 18, 17, 10, 9, 3, 2, 1, 0, 8, 7, 6, 5, 4, 16, 15, 14, 13, 12, 11]),
    (⟨(some 40), 0, (some (36, true)), (.op (.idxA 1 none (.t 39) (.k (.d (.int .i64 0)))))⟩, [21, 20, 19, 18, 17, 10, 9, 3, 2, 1, 0, 8, 7, 6, 5, 4, 16, 15, 14, 13, 12, 11]),
    (⟨(some 41), 0, (some (36, true)), (.op (.load false 1 (.t 40)))⟩, [22, 21, 20, 19, 18, 17, 10, 9, 3, 2, 1, 0, 8, 7, 6, 5, 4, 16, 15, 14, 13, 12, 11]),
    (⟨(some 42), 0, (some (36, true)), (.op (.bin .eql (.t 41) (.k (.d (.int .i64 4)))))⟩, [23, 22, 21, 20, 19, 18, 17, 10, 9, 3, 2, 1, 0, 8, 7, 6, 5, 4, 16, 15, 14, 13, 12, 11]),
    (⟨(some 43), 0, none, (.op (.pick (.t 36) (.t 42) (.k (.d (.bool false)))))⟩, [18, 17, 10, 9, 3, 2, 1, 0, 8, 7, 6, 5, 4, 16, 15, 14, 13, 12, 11, 24, 23, 22, 21, 20, 19]),
    (⟨(some 44), 0, none, (.op (.mov (.t 43)))⟩, [25, 18, 17, 10, 9, 3, 2, 1, 0, 8, 7, 6, 5, 4, 16, 15, 14, 13, 12, 11, 24, 23, 22, 21, 20, 19]),
    (⟨(some 45), 0, (some (44, true)), (.op (.mov (.t 3)))⟩, [26, 25, 18, 17, 10, 9, 3, 2, 1, 0, 8, 7, 6, 5, 4, 16, 15, 14, 13, 12, 11, 24, 23, 22, 21, 20, 19]),
    (⟨(some 46), 0, (some (44, true)), (.op (.bin .eql (.t 45) (.k (.d (.int .i64 0)))))⟩, [27, 26, 25, 18, 17, 10, 9, 3, 2, 1, 0, 8, 7, 6, 5, 4, 16, 15, 14, 13, 12, 11, 24, 23, 22, 21, 20, 19]),
    (⟨(some 47), 0, none, (.op (.pick (.t 44) (.t 46) (.k (.d (.bool false)))))⟩, [26, 25, 18, 17, 10, 9, 3, 2, 1, 0, 8, 7, 6, 5, 4, 16, 15, 14, 13, 12, 11, 24, 23, 22, 21, 20, 19, 28, 27]),
    (⟨(some 48), 0, none, (.op (.mov (.t 47)))⟩, [29, 26, 25, 18, 17, 10, 9, 3, 2, 1, 0, 8, 7, 6, 5, 4, 16, 15, 14, 13, 12, 11, 24, 23, 22, 21, 20, 19, 28, 27]),
    (⟨(some 49), 0, (some (48, true)), (.op (.mov (.t 4)))⟩, [30, 29, 26, 25, 18, 17, 10, 9, 3, 2, 1, 0, 8, 7, 6, 5, 4, 16, 15, 14, 13, 12, 11, 24, 23, 22, 21, 20, 19, 28, 27]),
    (⟨(some 50), 0, none, (.op (.pick (.t 48) (.t 49) (.k (.d (.bool false)))))⟩, [30, 29, 26, 25, 18, 17, 10, 9, 3, 2, 1, 0, 8, 7, 6, 5, 4, 16, 15, 14, 13, 12, 11, 24, 23, 22, 21, 20, 19, 28, 27, 31]),
    (⟨(some 51), 0, none, (.op (.mov (.t 50)))⟩, [32, 30, 29, 26, 25, 18, 17, 10, 9, 3, 2, 1, 0, 8, 7, 6, 5, 4, 16, 15, 14, 13, 12, 11, 24, 23, 22, 21, 20, 19, 28, 27, 31]),
    (⟨(some 52), 0, (some (51, true)), (.call (.k (.fn (.func 11) [] [])) [(.k (.d (.str [109, 105, 115, 109, 97, 116, 99, 104, 32, 49, 50])))])⟩, [33, 32, 30, 29, 26, 25, 18, 17, 10, 9, 3, 2, 1, 0, 8, 7, 6, 5, 4, 16, 15, 14, 13, 12, 11, 24, 23, 22, 21, 20, 19, 28, 27, 31]),
    (⟨(some 53), 0, (some (51, true)), (.op (.bin .eql (.t 52) (.k (.d (.str [109, 105, 115, 109, 97, 116, 99, 104])))))⟩, [34, 33, 32, 30, 29, 26, 25, 18, 17, 10, 9, 3, 2, 1, 0, 8, 7, 6, 5, 4, 16, 15, 14, 13, 12, 11, 24, 23, 22, 21, 20, 19, 28, 27, 31]),
    (⟨(some 54), 0, none, (.op (.pick (.t 51) (.t 53) (.k (.d (.bool false)))))⟩, [33, 32, 30, 29, 26, 25, 18, 17, 10, 9, 3, 2, 1, 0, 8, 7, 6, 5, 4, 16, 15, 14, 13, 12, 11, 24, 23, 22, 21, 20, 19, 28, 27, 31, 35, 34]),
    (⟨(some 55), 0, none, (.op (.mov (.t 54)))⟩, [36, 33, 32, 30, 29, 26, 25, 18, 17, 10, 9, 3, 2, 1, 0, 8, 7, 6, 5, 4, 16, 15, 14, 13, 12, 11, 24, 23, 22, 21, 20, 19, 28, 27, 31, 35, 34]),
    (⟨(some 56), 0, (some (55, true)), (.call (.k (.fn (.func 11) [] [])) [(.k (.d (.str [108, 111, 115, 116, 32, 48, 55])))])⟩, [37, 36, 33, 32, 30, 29, 26, 25, 18, 17, 10, 9, 3, 2, 1, 0, 8, 7, 6, 5, 4, 16, 15, 14, 13, 12, 11, 24, 23, 22, 21, 20, 19, 28, 27, 31, 35, 34]),
    (⟨(some 57), 0, (some (55, true)), (.op (.bin .eql (.t 56) (.k (.d (.str [])))))⟩, [38, 37, 36, 33, 32, 30, 29, 26, 25, 18, 17, 10, 9, 3, 2, 1, 0, 8, 7, 6, 5, 4, 16, 15, 14, 13, 12, 11, 24, 23, 22, 21, 20, 19, 28, 27, 31, 35, 34]),
    (⟨(some 58), 0, none, (.op (.pick (.t 55) (.t 57) (.k (.d (.bool false)))))⟩, [37, 36, 33, 32, 30, 29, 26, 25, 18, 17, 10, 9, 3, 2, 1, 0, 8, 7, 6, 5, 4, 16, 15, 14, 13, 12, 11, 24, 23, 22, 21, 20, 19, 28, 27, 31, 35, 34, 39, 38]),
    (⟨(some 59), 0, none, (.op (.mov (.t 58)))⟩, [40, 37, 36, 33, 32, 30, 29, 26, 25, 18, 17, 10, 9, 3, 2, 1, 0, 8, 7, 6, 5, 4, 16, 15, 14, 13, 12, 11, 24, 23, 22, 21, 20, 19, 28, 27, 31, 35, 34, 39, 38]),
    (⟨(some 60), 0, (some (59, true)), (.op (.mov (.t 1)))⟩, [41, 40, 37, 36, 33, 32, 30, 29, 26, 25, 18, 17, 10, 9, 3, 2, 1, 0, 8, 7, 6, 5, 4, 16, 15, 14, 13, 12, 11, 24, 23, 22, 21, 20, 19, 28, 27, 31, 35, 34, 39, 38]),
    (⟨(some 61), 0, (some (59, true)), (.op (.idxA 11 none (.t 60) (.k (.d (.int .i64 0)))))⟩, [42, 41, 40, 37, 36, 33, 32, 30, 29, 26, 25, 18, 17, 10, 9, 3, 2, 1, 0, 8, 7, 6, 5, 4, 16, 15, 14, 13, 12, 11, 24, 23, 22, 21, 20, 19, 28, 27, 31, 35, 34, 39, 38]),
    (⟨(some 62), 0, (some (59, true)), (.op (.load true 11 (.t 61)))⟩, [43, 42, 41, 40, 37, 36, 33, 32, 30, 29, 26, 25, 18, 17, 10, 9, 3, 2, 1, 0, 8, 7, 6, 5, 4, 16, 15, 14, 13, 12, 11, 24, 23, 22, 21, 20, 19, 28, 27, 31, 35, 34, 39, 38]),
    (⟨(some 63), 0, (some (59, true)), (.call (.k (.fn (.func 13) [] [])) [(.t 62)])⟩, [44, 43, 42, 41, 40, 37, 36, 33, 32, 30, 29, 26, 25, 18, 17, 10, 9, 3, 2, 1, 0, 8, 7, 6, 5, 4, 16, 15, 14, 13, 12, 11, 24, 23, 22, 21, 20, 19, 28, 27, 31, 35, 34, 39, 38]),
    (⟨(some 64), 0, none, (.op (.pick (.t 59) (.t 63) (.k (.d (.bool false)))))⟩, [41, 40, 37, 36, 33, 32, 30, 29, 26, 25, 18, 17, 10, 9, 3, 2, 1, 0, 8, 7, 6, 5, 4, 16, 15, 14, 13, 12, 11, 24, 23, 22, 21, 20, 19, 28, 27, 31, 35, 34, 39, 38, 45, 44, 43, 42]),
    (⟨(some 65), 0, none, (.op (.mov (.t 64)))⟩, [46, 41, 40, 37, 36, 33, 32, 30, 29, 26, 25, 18, 17, 10, 9, 3, 2, 1, 0, 8, 7, 6, 5, 4, 16, 15, 14, 13, 12, 11, 24, 23, 22, 21, 20, 19, 28, 27, 31, 35, 34, 39, 38, 45, 44, 43, 42]),
    (⟨(some 66), 0, (some (65, true)), (.op (.mov (.t 1)))⟩, [47, 46, 41, 40, 37, 36, 33, 32, 30, 29, 26, 25, 18, 17, 10, 9, 3, 2, 1, 0, 8, 7, 6, 5, 4, 16, 15, 14, 13, 12, 11, 24, 23, 22, 21, 20, 19, 28, 27, 31, 35, 34, 39, 38, 45, 44, 43, 42]),
    (⟨(some 67), 0, (some (65, true)), (.op (.idxA 11 none (.t 66) (.k (.d (.int .i64 1)))))⟩, [48, 47, 46, 41, 40, 37, 36, 33, 32, 30, 29, 26, 25, 18, 17, 10, 9, 3, 2, 1, 0, 8, 7, 6, 5, 4, 16, 15, 14, 13, 12, 11, 24, 23, 22, 21, 20, 19, 28, 27, 31, 35, 34, 39, 38, 45, 44, 43, 42]),
    (⟨(some 68), 0, (some (65, true)), (.op (.load true 11 (.t 67)))⟩, [49, 48, 47, 46, 41, 40, 37, 36, 33, 32, 30, 29, 26, 25, 18, 17, 10, 9, 3, 2, 1, 0, 8, 7, 6, 5, 4, 16, 15, 14, 13, 12, 11, 24, 23, 22, 21, 20, 19, 28, 27, 31, 35, 34, 39, 38, 45, 44, 43, 42]),
    (⟨(some 69), 0, (some (65, true)), (.call (.k (.fn (.func 15) [] [])) [(.t 68)])⟩, [50, 49, 48, 47, 46, 41, 40, 37, 36, 33, 32, 30, 29, 26, 25, 18, 17, 10, 9, 3, 2, 1, 0, 8, 7, 6, 5, 4, 16, 15, 14, 13, 12, 11, 24, 23, 22, 21, 20, 19, 28, 27, 31, 35, 34, 39, 38, 45, 44, 43, 42]),
    (⟨(some 70), 0, none, (.op (.pick (.t 65) (.t 69) (.k (.d (.bool false)))))⟩, [47, 46, 41, 40, 37, 36, 33, 32, 30, 29, 26, 25, 18, 17, 10, 9, 3, 2, 1, 0, 8, 7, 6, 5, 4, 16, 15, 14, 13, 12, 11, 24, 23, 22, 21, 20, 19, 28, 27, 31, 35, 34, 39, 38, 45, 44, 43, 42, 51, 50, 49, 48]),
    (⟨(some 71), 0, none, (.op (.mov (.t 70)))⟩, [52, 47, 46, 41, 40, 37, 36, 33, 32, 30, 29, 26, 25, 18, 17, 10, 9, 3, 2, 1, 0, 8, 7, 6, 5, 4, 16, 15, 14, 13, 12, 11, 24, 23, 22, 21, 20, 19, 28, 27, 31, 35, 34, 39, 38, 45, 44, 43, 42, 51, 50, 49, 48]),
    (⟨(some 72), 0, (some (71, true)), (.op (.mov (.t 1)))⟩, [53, 52, 47, 46, 41, 40, 37, 36, 33, 32, 30, 29, 26, 25, 18, 17, 10, 9, 3, 2, 1, 0, 8, 7, 6, 5, 4, 16, 15, 14, 13, 12, 11, 24, 23, 22, 21, 20, 19, 28, 27, 31, 35, 34, 39, 38, 45, 44, 43, 42, 51, 50, 49, 48]),
    (⟨(some 73), 0, (some (71, true)), (.op (.idxA 11 none (.t 72) (.k (.d (.int .i64 0)))))⟩, [54, 53, 52, 47, 46, 41, 40, 37, 36, 33, 32, 30, 29, 26, 25, 18, 17, 10, 9, 3, 2, 1, 0, 8, 7, 6, 5, 4, 16, 15, 14, 13, 12, 11, 24, 23, 22, 21, 20, 19, 28, 27, 31, 35, 34, 39, 38, 45, 44, 43, 42, 51, 50, 49, 48]),
    (⟨(some 74), 0, (some (71, true)), (.op (.load true 11 (.t 73)))⟩, [55, 54, 53, 52, 47, 46, 41, 40, 37, 36, 33, 32, 30, 29, 26, 25, 18, 17, 10, 9, 3, 2, 1, 0, 8, 7, 6, 5, 4, 16, 15, 14, 13, 12, 11, 24, 23, 22, 21, 20, 19, 28, 27, 31, 35, 34, 39, 38, 45, 44, 43, 42, 51, 50, 49, 48]),
    (⟨(some 75), 0, (some (71, true)), (.call (.k (.fn (.func 17) [] [])) [(.t 74)])⟩, [56, 55, 54, 53, 52, 47, 46, 41, 40, 37, 36, 33, 32, 30, 29, 26, 25, 18, 17, 10, 9, 3, 2, 1, 0, 8, 7, 6, 5, 4, 16, 15, 14, 13, 12, 11, 24, 23, 22, 21, 20, 19, 28, 27, 31, 35, 34, 39, 38, 45, 44, 43, 42, 51, 50, 49, 48]),
    (⟨(some 76), 0, (some (71, true)), (.op (.len true (.t 75)))⟩, [57, 56, 55, 54, 53, 52, 47, 46, 41, 40, 37, 36, 33, 32, 30, 29, 26, 25, 18, 17, 10, 9, 3, 2, 1, 0, 8, 7, 6, 5, 4, 16, 15, 14, 13, 12, 11, 24, 23, 22, 21, 20, 19, 28, 27, 31, 35, 34, 39, 38, 45, 44, 43, 42, 51, 50, 49, 48]),
    (⟨(some 77), 0, (some (71, true)), (.op (.bin .eql (.t 76) (.k (.d (.int .i64 8)))))⟩, [58, 57, 56, 55, 54, 53, 52, 47, 46, 41, 40, 37, 36, 33, 32, 30, 29, 26, 25, 18, 17, 10, 9, 3, 2, 1, 0, 8, 7, 6, 5, 4, 16, 15, 14, 13, 12, 11, 24, 23, 22, 21, 20, 19, 28, 27, 31, 35, 34, 39, 38, 45, 44, 43, 42, 51, 50, 49, 48]),
    (⟨(some 78), 0, none, (.op (.pick (.t 71) (.t 77) (.k (.d (.bool false)))))⟩, [53, 52, 47, 46, 41, 40, 37, 36, 33, 32, 30, 29, 26, 25, 18, 17, 10, 9, 3, 2, 1, 0, 8, 7, 6, 5, 4, 16, 15, 14, 13, 12, 11, 24, 23, 22, 21, 20, 19, 28, 27, 31, 35, 34, 39, 38, 45, 44, 43, 42, 51, 50, 49, 48, 59, 58, 57, 56, 55, 54]),
    (⟨(some 79), 0, none, (.op (.mov (.t 78)))⟩, [60, 53, 52, 47, 46, 41, 40, 37, 36, 33, 32, 30, 29, 26, 25, 18, 17, 10, 9, 3, 2, 1, 0, 8, 7, 6, 5, 4, 16, 15, 14, 13, 12, 11, 24, 23, 22, 21, 20, 19, 28, 27, 31, 35, 34, 39, 38, 45, 44, 43, 42, 51, 50, 49, 48, 59, 58, 57, 56, 55, 54]),
    (⟨(some 80), 0, (some (79, true)), (.op (.mov (.t 1)))⟩, [61, 60, 53, 52, 47, 46, 41, 40, 37, 36, 33, 32, 30, 29, 26, 25, 18, 17, 10, 9, 3, 2, 1, 0, 8, 7, 6, 5, 4, 16, 15, 14, 13, 12, 11, 24, 23, 22, 21, 20, 19, 28, 27, 31, 35, 34, 39, 38, 45, 44, 43, 42, 51, 50, 49, 48, 59, 58, 57, 56, 55, 54]),
    (⟨(some 81), 0, (some (79, true)), (.op (.idxA 11 none (.t 80) (.k (.d (.int .i64 0)))))⟩, [62, 61, 60, 53, 52, 47, 46, 41, 40, 37, 36, 33, 32, 30, 29, 26, 25, 18, 17, 10, 9, 3, 2, 1, 0, 8, 7, 6, 5, 4, 16, 15, 14, 13, 12, 11, 24, 23, 22, 21, 20, 19, 28, 27, 31, 35, 34, 39, 38, 45, 44, 43, 42, 51, 50, 49, 48, 59, 58, 57, 56, 55, 54]),
    (⟨(some 82), 0, (some (79, true)), (.op (.load true 11 (.t 81)))⟩, [63, 62, 61, 60, 53, 52, 47, 46, 41, 40, 37, 36, 33, 32, 30, 29, 26, 25, 18, 17, 10, 9, 3, 2, 1, 0, 8, 7, 6, 5, 4, 16, 15, 14, 13, 12, 11, 24, 23, 22, 21, 20, 19, 28, 27, 31, 35, 34, 39, 38, 45, 44, 43, 42, 51, 50, 49, 48, 59, 58, 57, 56, 55, 54]),
    (⟨(some 83), 0, (some (79, true)), (.op (.mov (.t 1)))⟩, [61, 60, 53, 52, 47, 46, 41, 40, 37, 36, 33, 32, 30, 29, 26, 25, 18, 17, 10, 9, 3, 2, 1, 0, 8, 7, 6, 5, 4, 16, 15, 14, 13, 12, 11, 24, 23, 22, 21, 20, 19, 28, 27, 31, 35, 34, 39, 38, 45, 44, 43, 42, 51, 50, 49, 48, 59, 58, 57, 56, 55, 54]),
    (⟨(some 84), 0, (some (79, true)), (.op (.idxA 11 none (.t 83) (.k (.d (.int .i64 3)))))⟩, [65, 61, 60, 53, 52, 47, 46, 41, 40, 37, 36, 33, 32, 30, 29, 26, 25, 18, 17, 10, 9, 3, 2, 1, 0, 8, 7, 6, 5, 4, 16, 15, 14, 13, 12, 11, 24, 23, 22, 21, 20, 19, 28, 27, 31, 35, 34, 39, 38, 45, 44, 43, 42, 51, 50, 49, 48, 59, 58, 57, 56, 55, 54]),
    (⟨(some 85), 0, (some (79, true)), (.op (.load true 11 (.t 84)))⟩, [66, 65, 61, 60, 53, 52, 47, 46, 41, 40, 37, 36, 33, 32, 30, 29, 26, 25, 18, 17, 10, 9, 3, 2, 1, 0, 8, 7, 6, 5, 4, 16, 15, 14, 13, 12, 11, 24, 23, 22, 21, 20, 19, 28, 27, 31, 35, 34, 39, 38, 45, 44, 43, 42, 51, 50, 49, 48, 59, 58, 57, 56, 55, 54]),
    (⟨(some 86), 0, (some (79, true)), (.call (.k (.fn (.func 21) [] [])) [(.t 82), (.t 85)])⟩, [64, 63, 62, 61, 60, 53, 52, 47, 46, 41, 40, 37, 36, 33, 32, 30, 29, 26, 25, 18, 17, 10, 9, 3, 2, 1, 0, 8, 7, 6, 5, 4, 16, 15, 14, 13, 12, 11, 24, 23, 22, 21, 20, 19, 28, 27, 31, 35, 34, 39, 38, 45, 44, 43, 42, 51, 50, 49, 48, 59, 58, 57, 56, 55, 54, 67, 66, 65]),
    (⟨(some 87), 0, none, (.op (.pick (.t 79) (.t 86) (.k (.d (.bool false)))))⟩, [61, 60, 53, 52, 47, 46, 41, 40, 37, 36, 33, 32, 30, 29, 26, 25, 18, 17, 10, 9, 3, 2, 1, 0, 8, 7, 6, 5, 4, 16, 15, 14, 13, 12, 11, 24, 23, 22, 21, 20, 19, 28, 27, 31, 35, 34, 39, 38, 45, 44, 43, 42, 51, 50, 49, 48, 59, 58, 57, 56, 55, 54, 68, 64, 63, 62, 67, 66, 65]),
    (⟨(some 0), 0, none, (.op (.mov (.t 87)))⟩, [69, 61, 60, 53, 52, 47, 46, 41, 40, 37, 36, 33, 32, 30, 29, 26, 25, 18, 17, 10, 9, 3, 2, 1, 0, 8, 7, 6, 5, 4, 16, 15, 14, 13, 12, 11, 24, 23, 22, 21, 20, 19, 28, 27, 31, 35, 34, 39, 38, 45, 44, 43, 42, 51, 50, 49, 48, 59, 58, 57, 56, 55, 54, 68, 64, 63, 62, 67, 66, 65])])
  (.ret)))))
theorem cc10 : Tryd.f10.body.bind (compC Tryd.prog) = some ac10 := by kernel_rfl
theorem go10 {vals : List V} {v : V} (ac : AC) (he : ac.erase = ac10) (hw : wpC Tryd.prog 0 ac (retQ [.tmp 0] v) ⟨vals ++ List.replicate (88 - vals.length) (.tup []), []⟩) : CallP Tryd.prog 10 vals v :=
  call_of Tryd.func10 rfl rfl rfl (cc10.trans (congrArg some he.symm)) hw
theorem gi10 {vals : List V} {rows : Go.Vx.Rows} {K : V → Go.Vx.Rows → Prop} (ac : AC) (he : ac.erase = ac10) (hw : wpC Tryd.prog rows.length ac (retI [.tmp 0] K) ⟨vals ++ List.replicate (88 - vals.length) (.tup []), rows⟩) : InlP Tryd.prog 10 vals rows K :=
  inl_of' Tryd.func10 rfl rfl rfl (cc10.trans (congrArg some he.symm)) hw
theorem gm10 {vals : List V} {v : V} {sz : Nat} {es es' : List (List V)} (ac : AC) (he : ac.erase = ac10) (hw : wpC Tryd.prog 1 ac (retM [.tmp 0] v sz es') ⟨vals ++ List.replicate (88 - vals.length) (.tup []), [.live sz es]⟩) : CallM Tryd.prog 10 vals sz es v es' :=
  callM_of' Tryd.func10 rfl rfl rfl (cc10.trans (congrArg some he.symm)) hw

/-- testbench/sign.Kind -/
def ac11 : AC :=
  .seq (.reg 0 [⟨(some 2), 0, none, (.op (.mov (.k (.d (.str [])))))⟩])
  (.seq (.reg 0 [⟨(some 7), 0, none, (.op (.mov (.t 0)))⟩,
    ⟨(some 8), 0, none, (.call (.k (.fn (.func 26) [] [])) [(.t 7)])⟩,
    ⟨(some 6), 0, none, (.op (.mov (.t 8)))⟩,
    ⟨(some 9), 0, none, (.op (.ext (.t 6) 0))⟩,
    ⟨(some 10), 0, none, (.op (.ext (.t 6) 1))⟩,
    ⟨(some 11), 0, none, (.op (.ext (.t 6) 2))⟩,
    ⟨(some 3), 0, none, (.op (.mov (.t 9)))⟩,
    ⟨(some 4), 0, none, (.op (.mov (.t 10)))⟩,
    ⟨(some 5), 0, none, (.op (.mov (.t 11)))⟩])
  (.seq (.seq (.reg 0 [⟨(some 12), 0, none, (.op (.mov (.t 5)))⟩,
    ⟨(some 13), 0, none, (.op (.un .not (.t 12)))⟩])
  (.cond (.t 13)
    (.seq (.reg 0 [⟨(some 2), 0, none, (.op (.mov (.k (.d (.str [])))))⟩])
    (.ret))
    (.skip)))
  (.seq (.reg 0 [⟨(some 14), 0, none, (.op (.mov (.t 3)))⟩,
    ⟨(some 2), 0, none, (.op (.mov (.t 14)))⟩])
  (.ret))))
theorem cc11 : Tryd.f11.body.bind (compC Tryd.prog) = some ac11 := by kernel_rfl
theorem go11 {vals : List V} {v : V} (ac : AC) (he : ac.erase = ac11) (hw : wpC Tryd.prog 0 ac (retQ [.tmp 2] v) ⟨vals ++ List.replicate (15 - vals.length) (.tup []), []⟩) : CallP Tryd.prog 11 vals v :=
  call_of Tryd.func11 rfl rfl rfl (cc11.trans (congrArg some he.symm)) hw
theorem gi11 {vals : List V} {rows : Go.Vx.Rows} {K : V → Go.Vx.Rows → Prop} (ac : AC) (he : ac.erase = ac11) (hw : wpC Tryd.prog rows.length ac (retI [.tmp 2] K) ⟨vals ++ List.replicate (15 - vals.length) (.tup []), rows⟩) : InlP Tryd.prog 11 vals rows K :=
  inl_of' Tryd.func11 rfl rfl rfl (cc11.trans (congrArg some he.symm)) hw
theorem gm11 {vals : List V} {v : V} {sz : Nat} {es es' : List (List V)} (ac : AC) (he : ac.erase = ac11) (hw : wpC Tryd.prog 1 ac (retM [.tmp 2] v sz es') ⟨vals ++ List.replicate (15 - vals.length) (.tup []), [.live sz es]⟩) : CallM Tryd.prog 11 vals sz es v es' :=
  callM_of' Tryd.func11 rfl rfl rfl (cc11.trans (congrArg some he.symm)) hw

/-- testbench/testbenchref54.Kind -/
def ac12 : AC :=
  .seq (.reg 0 [⟨(some 2), 0, none, (.op (.mov (.k (.d (.str [])))))⟩])
  (.seq (.seq (.reg 0 [⟨(some 6), 0, none, (.op (.mov (.t 0)))⟩,
    ⟨(some 7), 0, none, (.call (.k (.fn (.func 27) [] [])) [(.t 6)])⟩,
    ⟨(some 8), 0, none, (.op (.un .not (.t 7)))⟩])
  (.cond (.t 8)
    (.seq (.reg 0 [⟨(some 2), 0, none, (.op (.mov (.k (.d (.str [])))))⟩])
    (.ret))
    (.skip)))
  (.seq (.reg 0 [⟨(some 10), 0, none, (.op (.mov (.t 0)))⟩,
    ⟨(some 11), 0, none, (.call (.k (.fn (.func 28) [] [])) [(.t 10)])⟩,
    ⟨(some 9), 0, none, (.op (.mov (.t 11)))⟩,
    ⟨(some 12), 0, none, (.op (.ext (.t 9) 0))⟩,
    ⟨(some 13), 0, none, (.op (.ext (.t 9) 1))⟩,
    ⟨(some 14), 0, none, (.op (.ext (.t 9) 2))⟩,
    ⟨(some 3), 0, none, (.op (.mov (.t 12)))⟩,
    ⟨(some 4), 0, none, (.op (.mov (.t 13)))⟩,
    ⟨(some 5), 0, none, (.op (.mov (.t 14)))⟩])
  (.seq (.reg 0 [⟨(some 15), 0, none, (.op (.mov (.t 3)))⟩,
    ⟨(some 2), 0, none, (.op (.mov (.t 15)))⟩])
  (.ret))))
theorem cc12 : Tryd.f12.body.bind (compC Tryd.prog) = some ac12 := by kernel_rfl
theorem go12 {vals : List V} {v : V} (ac : AC) (he : ac.erase = ac12) (hw : wpC Tryd.prog 0 ac (retQ [.tmp 2] v) ⟨vals ++ List.replicate (16 - vals.length) (.tup []), []⟩) : CallP Tryd.prog 12 vals v :=
  call_of Tryd.func12 rfl rfl rfl (cc12.trans (congrArg some he.symm)) hw
theorem gi12 {vals : List V} {rows : Go.Vx.Rows} {K : V → Go.Vx.Rows → Prop} (ac : AC) (he : ac.erase = ac12) (hw : wpC Tryd.prog rows.length ac (retI [.tmp 2] K) ⟨vals ++ List.replicate (16 - vals.length) (.tup []), rows⟩) : InlP Tryd.prog 12 vals rows K :=
  inl_of' Tryd.func12 rfl rfl rfl (cc12.trans (congrArg some he.symm)) hw
theorem gm12 {vals : List V} {v : V} {sz : Nat} {es es' : List (List V)} (ac : AC) (he : ac.erase = ac12) (hw : wpC Tryd.prog 1 ac (retM [.tmp 2] v sz es') ⟨vals ++ List.replicate (16 - vals.length) (.tup []), [.live sz es]⟩) : CallM Tryd.prog 12 vals sz es v es' :=
  callM_of' Tryd.func12 rfl rfl rfl (cc12.trans (congrArg some he.symm)) hw

/-- testbench/sign.Valid -/
def ac13 : AC :=
  .seq (.reg 1 [⟨(some 1), 0, none, (.op (.box 11 (.t 0)))⟩,
    ⟨(some 2), 1, none, (.op (.mov (.k (.d (.bool false)))))⟩])
  (.seq (.reg 0 [⟨(some 7), 0, none, (.op (.fldA 3 (.t 1)))⟩,
    ⟨(some 8), 0, none, (.op (.load false 1 (.t 7)))⟩,
    ⟨(some 9), 0, none, (.call (.k (.fn (.func 26) [] [])) [(.t 8)])⟩,
    ⟨(some 6), 0, none, (.op (.mov (.t 9)))⟩,
    ⟨(some 10), 0, none, (.op (.ext (.t 6) 0))⟩,
    ⟨(some 11), 0, none, (.op (.ext (.t 6) 1))⟩,
    ⟨(some 12), 0, none, (.op (.ext (.t 6) 2))⟩,
    ⟨(some 3), 0, none, (.op (.mov (.t 10)))⟩,
    ⟨(some 4), 0, none, (.op (.mov (.t 11)))⟩,
    ⟨(some 5), 0, none, (.op (.mov (.t 12)))⟩])
  (.seq (.reg 0 [⟨(some 13), 0, none, (.op (.mov (.t 5)))⟩,
    ⟨(some 14), 0, none, (.op (.mov (.t 13)))⟩,
    ⟨(some 15), 0, (some (14, true)), (.op (.fldA 0 (.t 1)))⟩,
    ⟨(some 16), 0, (some (14, true)), (.op (.load false 1 (.t 15)))⟩,
    ⟨(some 17), 0, (some (14, true)), (.call (.k (.fn (.func 29) [] [])) [(.t 16)])⟩,
    ⟨(some 18), 0, none, (.op (.pick (.t 14) (.t 17) (.k (.d (.bool false)))))⟩,
    ⟨(some 19), 0, none, (.op (.mov (.t 18)))⟩,
    ⟨(some 20), 0, (some (19, true)), (.op (.fldA 2 (.t 1)))⟩,
    ⟨(some 21), 0, (some (19, true)), (.op (.load false 1 (.t 20)))⟩,
    ⟨(some 22), 0, (some (19, true)), (.call (.k (.fn (.func 29) [] [])) [(.t 21)])⟩,
    ⟨(some 23), 0, none, (.op (.pick (.t 19) (.t 22) (.k (.d (.bool false)))))⟩,
    ⟨(some 24), 0, none, (.op (.mov (.t 23)))⟩,
    ⟨(some 25), 0, (some (24, true)), (.op (.fldA 4 (.t 1)))⟩,
    ⟨(some 26), 0, (some (24, true)), (.op (.load false 1 (.t 25)))⟩,
    ⟨(some 27), 0, (some (24, true)), (.call (.k (.fn (.func 30) [] [])) [(.t 26)])⟩,
    ⟨(some 28), 0, none, (.op (.pick (.t 24) (.t 27) (.k (.d (.bool false)))))⟩,
    ⟨(some 29), 0, none, (.op (.mov (.t 28)))⟩,
    ⟨(some 30), 0, (some (29, true)), (.op (.fldA 5 (.t 1)))⟩,
    ⟨(some 31), 0, (some (29, true)), (.op (.load false 1 (.t 30)))⟩,
    ⟨(some 32), 0, (some (29, true)), (.call (.k (.fn (.func 30) [] [])) [(.t 31)])⟩,
    ⟨(some 33), 0, none, (.op (.pick (.t 29) (.t 32) (.k (.d (.bool false)))))⟩,
    ⟨(some 34), 0, none, (.op (.mov (.t 33)))⟩,
    ⟨(some 35), 0, (some (34, true)), (.op (.fldA 6 (.t 1)))⟩,
    ⟨(some 36), 0, (some (34, true)), (.op (.load false 1 (.t 35)))⟩,
    ⟨(some 37), 0, (some (34, true)), (.call (.k (.fn (.func 30) [] [])) [(.t 36)])⟩,
    ⟨(some 38), 0, none, (.op (.pick (.t 34) (.t 37) (.k (.d (.bool false)))))⟩,
    ⟨(some 2), 0, none, (.op (.mov (.t 38)))⟩])
  (.ret)))
theorem cc13 : Tryd.f13.body.bind (compC Tryd.prog) = some ac13 := by kernel_rfl
theorem go13 {vals : List V} {v : V} (ac : AC) (he : ac.erase = ac13) (hw : wpC Tryd.prog 0 ac (retQ [.tmp 2] v) ⟨vals ++ List.replicate (39 - vals.length) (.tup []), []⟩) : CallP Tryd.prog 13 vals v :=
  call_of Tryd.func13 rfl rfl rfl (cc13.trans (congrArg some he.symm)) hw
theorem gi13 {vals : List V} {rows : Go.Vx.Rows} {K : V → Go.Vx.Rows → Prop} (ac : AC) (he : ac.erase = ac13) (hw : wpC Tryd.prog rows.length ac (retI [.tmp 2] K) ⟨vals ++ List.replicate (39 - vals.length) (.tup []), rows⟩) : InlP Tryd.prog 13 vals rows K :=
  inl_of' Tryd.func13 rfl rfl rfl (cc13.trans (congrArg some he.symm)) hw
theorem gm13 {vals : List V} {v : V} {sz : Nat} {es es' : List (List V)} (ac : AC) (he : ac.erase = ac13) (hw : wpC Tryd.prog 1 ac (retM [.tmp 2] v sz es') ⟨vals ++ List.replicate (39 - vals.length) (.tup []), [.live sz es]⟩) : CallM Tryd.prog 13 vals sz es v es' :=
  callM_of' Tryd.func13 rfl rfl rfl (cc13.trans (congrArg some he.symm)) hw

/-- testbench/testbenchref54.Valid -/
def ac14 : AC :=
  .seq (.reg 1 [⟨(some 1), 0, none, (.op (.box 11 (.t 0)))⟩,
    ⟨(some 2), 1, none, (.op (.mov (.k (.d (.bool false)))))⟩])
  (.seq (.reg 0 [⟨(some 3), 0, none, (.op (.fldA 0 (.t 1)))⟩,
    ⟨(some 4), 0, none, (.op (.load false 1 (.t 3)))⟩,
    ⟨(some 5), 0, none, (.call (.k (.fn (.func 31) [] [])) [(.t 4)])⟩,
    ⟨(some 6), 0, none, (.op (.mov (.t 5)))⟩,
    ⟨(some 7), 0, (some (6, true)), (.op (.fldA 2 (.t 1)))⟩,
    ⟨(some 8), 0, (some (6, true)), (.op (.load false 1 (.t 7)))⟩,
    ⟨(some 9), 0, (some (6, true)), (.call (.k (.fn (.func 31) [] [])) [(.t 8)])⟩,
    ⟨(some 10), 0, none, (.op (.pick (.t 6) (.t 9) (.k (.d (.bool false)))))⟩,
    ⟨(some 11), 0, none, (.op (.mov (.t 10)))⟩,
    ⟨(some 12), 0, (some (11, true)), (.op (.fldA 3 (.t 1)))⟩,
    ⟨(some 13), 0, (some (11, true)), (.op (.load false 1 (.t 12)))⟩,
    ⟨(some 14), 0, (some (11, true)), (.call (.k (.fn (.func 27) [] [])) [(.t 13)])⟩,
    ⟨(some 15), 0, none, (.op (.pick (.t 11) (.t 14) (.k (.d (.bool false)))))⟩,
    ⟨(some 16), 0, none, (.op (.mov (.t 15)))⟩,
    ⟨(some 17), 0, (some (16, true)), (.op (.fldA 4 (.t 1)))⟩,
    ⟨(some 18), 0, (some (16, true)), (.op (.load false 1 (.t 17)))⟩,
    ⟨(some 19), 0, (some (16, true)), (.call (.k (.fn (.func 32) [] [])) [(.t 18)])⟩,
    ⟨(some 20), 0, none, (.op (.pick (.t 16) (.t 19) (.k (.d (.bool false)))))⟩,
    ⟨(some 21), 0, none, (.op (.mov (.t 20)))⟩,
    ⟨(some 22), 0, (some (21, true)), (.op (.fldA 5 (.t 1)))⟩,
    ⟨(some 23), 0, (some (21, true)), (.op (.load false 1 (.t 22)))⟩,
    ⟨(some 24), 0, (some (21, true)), (.call (.k (.fn (.func 32) [] [])) [(.t 23)])⟩,
    ⟨(some 25), 0, none, (.op (.pick (.t 21) (.t 24) (.k (.d (.bool false)))))⟩,
    ⟨(some 26), 0, none, (.op (.mov (.t 25)))⟩,
    ⟨(some 27), 0, (some (26, true)), (.op (.fldA 6 (.t 1)))⟩,
    ⟨(some 28), 0, (some (26, true)), (.op (.load false 1 (.t 27)))⟩,
    ⟨(some 29), 0, (some (26, true)), (.call (.k (.fn (.func 32) [] [])) [(.t 28)])⟩,
    ⟨(some 30), 0, none, (.op (.pick (.t 26) (.t 29) (.k (.d (.bool false)))))⟩,
    ⟨(some 2), 0, none, (.op (.mov (.t 30)))⟩])
  (.ret))
theorem cc14 : Tryd.f14.body.bind (compC Tryd.prog) = some ac14 := by kernel_rfl
theorem go14 {vals : List V} {v : V} (ac : AC) (he : ac.erase = ac14) (hw : wpC Tryd.prog 0 ac (retQ [.tmp 2] v) ⟨vals ++ List.replicate (31 - vals.length) (.tup []), []⟩) : CallP Tryd.prog 14 vals v :=
  call_of Tryd.func14 rfl rfl rfl (cc14.trans (congrArg some he.symm)) hw
theorem gi14 {vals : List V} {rows : Go.Vx.Rows} {K : V → Go.Vx.Rows → Prop} (ac : AC) (he : ac.erase = ac14) (hw : wpC Tryd.prog rows.length ac (retI [.tmp 2] K) ⟨vals ++ List.replicate (31 - vals.length) (.tup []), rows⟩) : InlP Tryd.prog 14 vals rows K :=
  inl_of' Tryd.func14 rfl rfl rfl (cc14.trans (congrArg some he.symm)) hw
theorem gm14 {vals : List V} {v : V} {sz : Nat} {es es' : List (List V)} (ac : AC) (he : ac.erase = ac14) (hw : wpC Tryd.prog 1 ac (retM [.tmp 2] v sz es') ⟨vals ++ List.replicate (31 - vals.length) (.tup []), [.live sz es]⟩) : CallM Tryd.prog 14 vals sz es v es' :=
  callM_of' Tryd.func14 rfl rfl rfl (cc14.trans (congrArg some he.symm)) hw

/-- testbench/sign.Passed -/
def ac15 : AC :=
  .seq (.reg 1 [⟨(some 1), 0, none, (.op (.box 11 (.t 0)))⟩,
    ⟨(some 2), 1, none, (.op (.mov (.k (.d (.bool false)))))⟩])
  (.seq (.reg 0 [⟨(some 3), 0, none, (.op (.fldA 3 (.t 1)))⟩,
    ⟨(some 4), 0, none, (.op (.load false 1 (.t 3)))⟩,
    ⟨(some 5), 0, none, (.op (.bin .eql (.t 4) (.k (.d (.str [])))))⟩,
    ⟨(some 2), 0, none, (.op (.mov (.t 5)))⟩])
  (.ret))
theorem cc15 : Tryd.f15.body.bind (compC Tryd.prog) = some ac15 := by kernel_rfl
theorem go15 {vals : List V} {v : V} (ac : AC) (he : ac.erase = ac15) (hw : wpC Tryd.prog 0 ac (retQ [.tmp 2] v) ⟨vals ++ List.replicate (6 - vals.length) (.tup []), []⟩) : CallP Tryd.prog 15 vals v :=
  call_of Tryd.func15 rfl rfl rfl (cc15.trans (congrArg some he.symm)) hw
theorem gi15 {vals : List V} {rows : Go.Vx.Rows} {K : V → Go.Vx.Rows → Prop} (ac : AC) (he : ac.erase = ac15) (hw : wpC Tryd.prog rows.length ac (retI [.tmp 2] K) ⟨vals ++ List.replicate (6 - vals.length) (.tup []), rows⟩) : InlP Tryd.prog 15 vals rows K :=
  inl_of' Tryd.func15 rfl rfl rfl (cc15.trans (congrArg some he.symm)) hw
theorem gm15 {vals : List V} {v : V} {sz : Nat} {es es' : List (List V)} (ac : AC) (he : ac.erase = ac15) (hw : wpC Tryd.prog 1 ac (retM [.tmp 2] v sz es') ⟨vals ++ List.replicate (6 - vals.length) (.tup []), [.live sz es]⟩) : CallM Tryd.prog 15 vals sz es v es' :=
  callM_of' Tryd.func15 rfl rfl rfl (cc15.trans (congrArg some he.symm)) hw

/-- testbench/testbenchref54.Passed -/
def ac16 : AC :=
  .seq (.reg 1 [⟨(some 1), 0, none, (.op (.box 11 (.t 0)))⟩,
    ⟨(some 2), 1, none, (.op (.mov (.k (.d (.bool false)))))⟩])
  (.seq (.reg 0 [⟨(some 3), 0, none, (.op (.fldA 3 (.t 1)))⟩,
    ⟨(some 4), 0, none, (.op (.load false 1 (.t 3)))⟩,
    ⟨(some 5), 0, none, (.op (.bin .eql (.t 4) (.k (.d (.str [])))))⟩,
    ⟨(some 2), 0, none, (.op (.mov (.t 5)))⟩])
  (.ret))
theorem cc16 : Tryd.f16.body.bind (compC Tryd.prog) = some ac16 := by kernel_rfl
theorem go16 {vals : List V} {v : V} (ac : AC) (he : ac.erase = ac16) (hw : wpC Tryd.prog 0 ac (retQ [.tmp 2] v) ⟨vals ++ List.replicate (6 - vals.length) (.tup []), []⟩) : CallP Tryd.prog 16 vals v :=
  call_of Tryd.func16 rfl rfl rfl (cc16.trans (congrArg some he.symm)) hw
theorem gi16 {vals : List V} {rows : Go.Vx.Rows} {K : V → Go.Vx.Rows → Prop} (ac : AC) (he : ac.erase = ac16) (hw : wpC Tryd.prog rows.length ac (retI [.tmp 2] K) ⟨vals ++ List.replicate (6 - vals.length) (.tup []), rows⟩) : InlP Tryd.prog 16 vals rows K :=
  inl_of' Tryd.func16 rfl rfl rfl (cc16.trans (congrArg some he.symm)) hw
theorem gm16 {vals : List V} {v : V} {sz : Nat} {es es' : List (List V)} (ac : AC) (he : ac.erase = ac16) (hw : wpC Tryd.prog 1 ac (retM [.tmp 2] v sz es') ⟨vals ++ List.replicate (6 - vals.length) (.tup []), [.live sz es]⟩) : CallM Tryd.prog 16 vals sz es v es' :=
  callM_of' Tryd.func16 rfl rfl rfl (cc16.trans (congrArg some he.symm)) hw

/-- testbench/sign.Name -/
def ac17 : AC :=
  .seq (.reg 1 [⟨(some 1), 0, none, (.op (.box 11 (.t 0)))⟩,
    ⟨(some 2), 1, none, (.op (.mov (.k (.d (.str [])))))⟩])
  (.seq (.seq (.reg 0 [⟨(some 4), 0, none, (.op (.load true 11 (.t 1)))⟩,
    ⟨(some 5), 0, none, (.call (.k (.fn (.func 33) [] [])) [(.t 4)])⟩,
    ⟨(some 6), 0, none, (.op (.un .not (.t 5)))⟩])
  (.cond (.t 6)
    (.seq (.reg 0 [⟨(some 2), 0, none, (.op (.mov (.k (.d (.str [])))))⟩])
    (.ret))
    (.skip)))
  (.seq (.reg 0 [⟨(some 7), 0, none, (.op (.fldA 3 (.t 1)))⟩,
    ⟨(some 8), 0, none, (.op (.load false 1 (.t 7)))⟩,
    ⟨(some 9), 0, none, (.call (.k (.fn (.func 36) [] [])) [(.t 8)])⟩,
    ⟨(some 10), 0, none, (.call (.k (.fn (.func 35) [] [])) [(.t 9)])⟩,
    ⟨(some 11), 0, none, (.call (.k (.fn (.func 34) [] [])) [(.t 10)])⟩,
    ⟨(some 3), 0, none, (.op (.mov (.t 11)))⟩])
  (.seq (.reg 0 [⟨(some 12), 0, none, (.op (.mov (.t 3)))⟩,
    ⟨(some 13), 0, none, (.op (.mov (.t 3)))⟩,
    ⟨(some 14), 0, none, (.op (.len true (.t 13)))⟩,
    ⟨(some 15), 0, none, (.op (.bin .sub (.t 14) (.k (.d (.int .i64 8)))))⟩,
    ⟨(some 16), 0, none, (.op (.slice 0 (.t 12) (some (.t 15)) none))⟩,
    ⟨(some 2), 0, none, (.op (.mov (.t 16)))⟩])
  (.ret))))
theorem cc17 : Tryd.f17.body.bind (compC Tryd.prog) = some ac17 := by kernel_rfl
theorem go17 {vals : List V} {v : V} (ac : AC) (he : ac.erase = ac17) (hw : wpC Tryd.prog 0 ac (retQ [.tmp 2] v) ⟨vals ++ List.replicate (17 - vals.length) (.tup []), []⟩) : CallP Tryd.prog 17 vals v :=
  call_of Tryd.func17 rfl rfl rfl (cc17.trans (congrArg some he.symm)) hw
theorem gi17 {vals : List V} {rows : Go.Vx.Rows} {K : V → Go.Vx.Rows → Prop} (ac : AC) (he : ac.erase = ac17) (hw : wpC Tryd.prog rows.length ac (retI [.tmp 2] K) ⟨vals ++ List.replicate (17 - vals.length) (.tup []), rows⟩) : InlP Tryd.prog 17 vals rows K :=
  inl_of' Tryd.func17 rfl rfl rfl (cc17.trans (congrArg some he.symm)) hw
theorem gm17 {vals : List V} {v : V} {sz : Nat} {es es' : List (List V)} (ac : AC) (he : ac.erase = ac17) (hw : wpC Tryd.prog 1 ac (retM [.tmp 2] v sz es') ⟨vals ++ List.replicate (17 - vals.length) (.tup []), [.live sz es]⟩) : CallM Tryd.prog 17 vals sz es v es' :=
  callM_of' Tryd.func17 rfl rfl rfl (cc17.trans (congrArg some he.symm)) hw

/-- testbench/testbenchref54.Name -/
def ac18 : AC :=
  .seq (.reg 1 [⟨(some 1), 0, none, (.op (.box 11 (.t 0)))⟩,
    ⟨(some 2), 1, none, (.op (.mov (.k (.d (.str [])))))⟩])
  (.seq (.seq (.reg 0 [⟨(some 3), 0, none, (.op (.load true 11 (.t 1)))⟩,
    ⟨(some 4), 0, none, (.call (.k (.fn (.func 37) [] [])) [(.t 3)])⟩,
    ⟨(some 5), 0, none, (.op (.un .not (.t 4)))⟩])
  (.cond (.t 5)
    (.seq (.reg 0 [⟨(some 2), 0, none, (.op (.mov (.k (.d (.str [])))))⟩])
    (.ret))
    (.skip)))
  (.seq (.reg 0 [⟨(some 6), 0, none, (.op (.fldA 3 (.t 1)))⟩,
    ⟨(some 7), 0, none, (.op (.load false 1 (.t 6)))⟩,
    ⟨(some 8), 0, none, (.call (.k (.fn (.func 40) [] [])) [(.t 7)])⟩,
    ⟨(some 9), 0, none, (.call (.k (.fn (.func 39) [] [])) [(.t 8)])⟩,
    ⟨(some 10), 0, none, (.call (.k (.fn (.func 38) [] [])) [(.t 9)])⟩,
    ⟨(some 11), 0, none, (.op (.slice 0 (.t 10) (some (.k (.d (.int .i64 8)))) none))⟩,
    ⟨(some 2), 0, none, (.op (.mov (.t 11)))⟩])
  (.ret)))
theorem cc18 : Tryd.f18.body.bind (compC Tryd.prog) = some ac18 := by kernel_rfl
theorem go18 {vals : List V} {v : V} (ac : AC) (he : ac.erase = ac18) (hw : wpC Tryd.prog 0 ac (retQ [.tmp 2] v) ⟨vals ++ List.replicate (12 - vals.length) (.tup []), []⟩) : CallP Tryd.prog 18 vals v :=
  call_of Tryd.func18 rfl rfl rfl (cc18.trans (congrArg some he.symm)) hw
theorem gi18 {vals : List V} {rows : Go.Vx.Rows} {K : V → Go.Vx.Rows → Prop} (ac : AC) (he : ac.erase = ac18) (hw : wpC Tryd.prog rows.length ac (retI [.tmp 2] K) ⟨vals ++ List.replicate (12 - vals.length) (.tup []), rows⟩) : InlP Tryd.prog 18 vals rows K :=
  inl_of' Tryd.func18 rfl rfl rfl (cc18.trans (congrArg some he.symm)) hw
theorem gm18 {vals : List V} {v : V} {sz : Nat} {es es' : List (List V)} (ac : AC) (he : ac.erase = ac18) (hw : wpC Tryd.prog 1 ac (retM [.tmp 2] v sz es') ⟨vals ++ List.replicate (12 - vals.length) (.tup []), [.live sz es]⟩) : CallM Tryd.prog 18 vals sz es v es' :=
  callM_of' Tryd.func18 rfl rfl rfl (cc18.trans (congrArg some he.symm)) hw

/-- testbench/sign.First -/
def ac19 : AC :=
  .seq (.reg 0 [⟨(some 4), 0, none, (.op (.mov (.k (.d (.int .i64 0)))))⟩,
    ⟨(some 5), 0, none, (.op (.mov (.k (.d (.bool false)))))⟩])
  (.seq (.seq (.reg 0 [⟨(some 12), 0, none, (.op (.mov (.t 1)))⟩,
    ⟨(some 13), 0, none, (.call (.k (.fn (.func 26) [] [])) [(.t 12)])⟩,
    ⟨(some 11), 0, none, (.op (.mov (.t 13)))⟩,
    ⟨(some 14), 0, none, (.op (.ext (.t 11) 0))⟩,
    ⟨(some 15), 0, none, (.op (.ext (.t 11) 1))⟩,
    ⟨(some 16), 0, none, (.op (.ext (.t 11) 2))⟩,
    ⟨(some 6), 0, none, (.op (.mov (.t 14)))⟩,
    ⟨(some 7), 0, none, (.op (.mov (.t 15)))⟩,
    ⟨(some 8), 0, none, (.op (.mov (.t 16)))⟩])
  (.seq (.reg 0 [⟨(some 17), 0, none, (.op (.mov (.t 8)))⟩,
    ⟨(some 18), 0, none, (.op (.un .not (.t 17)))⟩,
    ⟨(some 19), 0, none, (.op (.mov (.t 18)))⟩,
    ⟨(some 20), 0, (some (19, false)), (.op (.mov (.t 1)))⟩,
    ⟨(some 21), 0, (some (19, false)), (.op (.bin .eql (.t 20) (.k (.d (.str [])))))⟩,
    ⟨(some 22), 0, none, (.op (.pick (.t 19) (.k (.d (.bool true))) (.t 21)))⟩])
  (.cond (.t 22)
    (.seq (.reg 0 [⟨(some 4), 0, none, (.op (.mov (.k (.d (.int .i64 0)))))⟩,
      ⟨(some 5), 0, none, (.op (.mov (.k (.d (.bool false)))))⟩])
    (.ret))
    (.skip))))
  (.seq (.seq (.reg 0 [⟨(some 23), 0, none, (.op (.mov (.t 0)))⟩,
    ⟨(some 24), 0, none, (.op (.len false (.t 23)))⟩,
    ⟨(some 25), 0, none, (.op (.mov (.k (.d (.int .i64 0)))))⟩])
  (.block 0
   (.loop
    (.seq (.reg 0 [⟨(some 26), 0, none, (.op (.bin .lss (.t 25) (.t 24)))⟩])
    (.seq (.cond (.t 26)
      (.skip)
      (.exit 0))
    (.seq (.block 1
     (.seq (.reg 1 [⟨(some 27), 0, none, (.op (.mov (.t 25)))⟩,
       ⟨(some 28), 0, none, (.op (.idxA 11 none (.t 23) (.t 25)))⟩,
       ⟨(some 29), 0, none, (.op (.load true 11 (.t 28)))⟩,
       ⟨(some 10), 0, none, (.op (.alloc [(.str []), (.int .u64 0), (.str []), (.str []), (.int .i64 0), (.int .i64 0), (.int .i64 0), .nils, .nils, (.int .i64 0), (.int .i64 0)]))⟩,
       ⟨(some 9), 1, none, (.op (.mov (.t 27)))⟩,
       ⟨none, 1, none, (.op (.store 11 (.t 10) (.t 29)))⟩])
     (.seq (.reg 0 [⟨(some 30), 0, none, (.op (.load true 11 (.t 10)))⟩,
       ⟨(some 31), 0, none, (.call (.k (.fn (.func 33) [] [])) [(.t 30)])⟩,
       ⟨(some 32), 0, none, (.op (.mov (.t 31)))⟩,
       ⟨(some 33), 0, (some (32, true)), (.op (.fldA 3 (.t 10)))⟩,
       ⟨(some 34), 0, (some (32, true)), (.op (.load false 1 (.t 33)))⟩,
       ⟨(some 35), 0, (some (32, true)), (.call (.k (.fn (.func 36) [] [])) [(.t 34)])⟩,
       ⟨(some 36), 0, (some (32, true)), (.op (.mov (.t 1)))⟩,
       ⟨(some 37), 0, (some (32, true)), (.call (.k (.fn (.func 36) [] [])) [(.t 36)])⟩,
       ⟨(some 38), 0, (some (32, true)), (.op (.bin .eql (.t 35) (.t 37)))⟩,
       ⟨(some 39), 0, none, (.op (.pick (.t 32) (.t 38) (.k (.d (.bool false)))))⟩])
     (.cond (.t 39)
       (.seq (.reg 0 [⟨(some 40), 0, none, (.op (.mov (.t 9)))⟩,
         ⟨(some 4), 0, none, (.op (.mov (.t 40)))⟩,
         ⟨(some 5), 0, none, (.op (.mov (.k (.d (.bool true)))))⟩])
       (.ret))
       (.skip)))))
    (.reg 0 [⟨(some 41), 0, none, (.op (.bin .add (.t 25) (.k (.d (.int .i64 1)))))⟩,
      ⟨(some 25), 0, none, (.op (.mov (.t 41)))⟩])))))))
  (.seq (.reg 0 [⟨(some 4), 0, none, (.op (.mov (.k (.d (.int .i64 0)))))⟩,
    ⟨(some 5), 0, none, (.op (.mov (.k (.d (.bool false)))))⟩])
  (.ret))))
theorem cc19 : Tryd.f19.body.bind (compC Tryd.prog) = some ac19 := by kernel_rfl
theorem go19 {vals : List V} {v : V} (ac : AC) (he : ac.erase = ac19) (hw : wpC Tryd.prog 0 ac (retQ [.tmp 4, .tmp 5] v) ⟨vals ++ List.replicate (42 - vals.length) (.tup []), []⟩) : CallP Tryd.prog 19 vals v :=
  call_of Tryd.func19 rfl rfl rfl (cc19.trans (congrArg some he.symm)) hw
theorem gi19 {vals : List V} {rows : Go.Vx.Rows} {K : V → Go.Vx.Rows → Prop} (ac : AC) (he : ac.erase = ac19) (hw : wpC Tryd.prog rows.length ac (retI [.tmp 4, .tmp 5] K) ⟨vals ++ List.replicate (42 - vals.length) (.tup []), rows⟩) : InlP Tryd.prog 19 vals rows K :=
  inl_of' Tryd.func19 rfl rfl rfl (cc19.trans (congrArg some he.symm)) hw
theorem gm19 {vals : List V} {v : V} {sz : Nat} {es es' : List (List V)} (ac : AC) (he : ac.erase = ac19) (hw : wpC Tryd.prog 1 ac (retM [.tmp 4, .tmp 5] v sz es') ⟨vals ++ List.replicate (42 - vals.length) (.tup []), [.live sz es]⟩) : CallM Tryd.prog 19 vals sz es v es' :=
  callM_of' Tryd.func19 rfl rfl rfl (cc19.trans (congrArg some he.symm)) hw

/-- testbench/testbenchref54.First -/
def ac20 : AC :=
  .seq (.reg 0 [⟨(some 4), 0, none, (.op (.mov (.k (.d (.int .i64 0)))))⟩,
    ⟨(some 5), 0, none, (.op (.mov (.k (.d (.bool false)))))⟩])
  (.seq (.seq (.reg 0 [⟨(some 6), 0, none, (.op (.mov (.k (.d (.int .i64 0)))))⟩])
  (.block 0
   (.loop
    (.seq (.seq (.reg 0 [⟨(some 7), 0, none, (.op (.mov (.t 6)))⟩,
      ⟨(some 8), 0, none, (.op (.mov (.t 0)))⟩,
      ⟨(some 9), 0, none, (.op (.len false (.t 8)))⟩,
      ⟨(some 10), 0, none, (.op (.bin .lss (.t 7) (.t 9)))⟩,
      ⟨(some 11), 0, none, (.op (.mov (.t 10)))⟩,
      ⟨(some 12), 0, (some (11, true)), (.op (.mov (.t 1)))⟩,
      ⟨(some 13), 0, (some (11, true)), (.call (.k (.fn (.func 27) [] [])) [(.t 12)])⟩,
      ⟨(some 14), 0, none, (.op (.pick (.t 11) (.t 13) (.k (.d (.bool false)))))⟩,
      ⟨(some 15), 0, none, (.op (.mov (.t 14)))⟩,
      ⟨(some 16), 0, (some (15, true)), (.op (.mov (.t 1)))⟩,
      ⟨(some 17), 0, (some (15, true)), (.op (.bin .neq (.t 16) (.k (.d (.str [])))))⟩,
      ⟨(some 18), 0, none, (.op (.pick (.t 15) (.t 17) (.k (.d (.bool false)))))⟩])
    (.cond (.t 18)
      (.skip)
      (.exit 0)))
    (.seq (.block 1
     (.seq (.reg 0 [⟨(some 21), 0, none, (.op (.mov (.t 0)))⟩,
       ⟨(some 22), 0, none, (.op (.mov (.t 6)))⟩,
       ⟨(some 23), 0, none, (.op (.idxA 11 none (.t 21) (.t 22)))⟩,
       ⟨(some 24), 0, none, (.op (.load true 11 (.t 23)))⟩,
       ⟨(some 25), 0, none, (.call (.k (.fn (.func 37) [] [])) [(.t 24)])⟩,
       ⟨(some 26), 0, none, (.op (.mov (.t 25)))⟩,
       ⟨(some 27), 0, (some (26, true)), (.op (.mov (.t 0)))⟩,
       ⟨(some 28), 0, (some (26, true)), (.op (.mov (.t 6)))⟩,
       ⟨(some 29), 0, (some (26, true)), (.op (.idxA 11 none (.t 27) (.t 28)))⟩,
       ⟨(some 30), 0, (some (26, true)), (.op (.fldA 3 (.t 29)))⟩,
       ⟨(some 31), 0, (some (26, true)), (.op (.load false 1 (.t 30)))⟩,
       ⟨(some 32), 0, (some (26, true)), (.call (.k (.fn (.func 40) [] [])) [(.t 31)])⟩,
       ⟨(some 33), 0, (some (26, true)), (.op (.mov (.t 1)))⟩,
       ⟨(some 34), 0, (some (26, true)), (.call (.k (.fn (.func 40) [] [])) [(.t 33)])⟩,
       ⟨(some 35), 0, (some (26, true)), (.op (.bin .eql (.t 32) (.t 34)))⟩,
       ⟨(some 36), 0, none, (.op (.pick (.t 26) (.t 35) (.k (.d (.bool false)))))⟩])
     (.cond (.t 36)
       (.seq (.reg 0 [⟨(some 37), 0, none, (.op (.mov (.t 6)))⟩,
         ⟨(some 4), 0, none, (.op (.mov (.t 37)))⟩,
         ⟨(some 5), 0, none, (.op (.mov (.k (.d (.bool true)))))⟩])
       (.ret))
       (.skip))))
    (.reg 0 [⟨(some 19), 0, none, (.op (.mov (.t 6)))⟩,
      ⟨(some 20), 0, none, (.op (.bin .add (.t 19) (.k (.d (.int .i64 1)))))⟩,
      ⟨(some 6), 0, none, (.op (.mov (.t 20)))⟩]))))))
  (.seq (.reg 0 [⟨(some 4), 0, none, (.op (.mov (.k (.d (.int .i64 0)))))⟩,
    ⟨(some 5), 0, none, (.op (.mov (.k (.d (.bool false)))))⟩])
  (.ret)))
theorem cc20 : Tryd.f20.body.bind (compC Tryd.prog) = some ac20 := by kernel_rfl
theorem go20 {vals : List V} {v : V} (ac : AC) (he : ac.erase = ac20) (hw : wpC Tryd.prog 0 ac (retQ [.tmp 4, .tmp 5] v) ⟨vals ++ List.replicate (38 - vals.length) (.tup []), []⟩) : CallP Tryd.prog 20 vals v :=
  call_of Tryd.func20 rfl rfl rfl (cc20.trans (congrArg some he.symm)) hw
theorem gi20 {vals : List V} {rows : Go.Vx.Rows} {K : V → Go.Vx.Rows → Prop} (ac : AC) (he : ac.erase = ac20) (hw : wpC Tryd.prog rows.length ac (retI [.tmp 4, .tmp 5] K) ⟨vals ++ List.replicate (38 - vals.length) (.tup []), rows⟩) : InlP Tryd.prog 20 vals rows K :=
  inl_of' Tryd.func20 rfl rfl rfl (cc20.trans (congrArg some he.symm)) hw
theorem gm20 {vals : List V} {v : V} {sz : Nat} {es es' : List (List V)} (ac : AC) (he : ac.erase = ac20) (hw : wpC Tryd.prog 1 ac (retM [.tmp 4, .tmp 5] v sz es') ⟨vals ++ List.replicate (38 - vals.length) (.tup []), [.live sz es]⟩) : CallM Tryd.prog 20 vals sz es v es' :=
  callM_of' Tryd.func20 rfl rfl rfl (cc20.trans (congrArg some he.symm)) hw

/-- testbench/sign.Same -/
def ac21 : AC :=
  .seq (.reg 2 [⟨(some 2), 0, none, (.op (.box 11 (.t 0)))⟩,
    ⟨(some 3), 1, none, (.op (.box 11 (.t 1)))⟩,
    ⟨(some 4), 2, none, (.op (.mov (.k (.d (.bool false)))))⟩])
  (.seq (.regD 0 [(⟨(some 5), 0, none, (.op (.load true 11 (.t 2)))⟩, []),
    (⟨(some 6), 0, none, (.call (.k (.fn (.func 33) [] [])) [(.t 5)])⟩, [0]),
    (⟨(some 7), 0, none, (.op (.mov (.t 6)))⟩, [1, 0]),
    (⟨(some 8), 0, (some (7, true)), (.op (.load true 11 (.t 3)))⟩, [2, 1, 0]),
    (⟨(some 9), 0, (some (7, true)), (.call (.k (.fn (.func 33) [] [])) [(.t 8)])⟩, [3, 2, 1, 0]),
    (⟨(some 10), 0, none, (.op (.pick (.t 7) (.t 9) (.k (.d (.bool false)))))⟩, [2, 1, 0, 4, 3]),
    (⟨(some 11), 0, none, (.op (.mov (.t 10)))⟩, [5, 2, 1, 0, 4, 3]),
    (⟨(some 12), 0, (some (11, true)), (.op (.fldA 3 (.t 2)))⟩, [6, 5, 2, 1, 0, 4, 3]),
    (⟨(some 13), 0, (some (11, true)), (.op (.load false 1 (.t 12)))⟩, [7, 6, 5, 2, 1, 0, 4, 3]),
    (⟨(some 14), 0, (some (11, true)), (.call (.k (.fn (.func 36) [] [])) [(.t 13)])⟩, [8, 7, 6, 5, 2, 1, 0, 4, 3]),
    (⟨(some 15), 0, (some (11, true)), (.op (.fldA 3 (.t 3)))⟩, [6, 5, 2, 1, 0, 4, 3]),
    (⟨(some 16), 0, (some (11, true)), (.op (.load false 1 (.t 15)))⟩, [10, 6, 5, 2, 1, 0, 4, 3]),
    (⟨(some 17), 0, (some (11, true)), (.call (.k (.fn (.func 36) [] [])) [(.t 16)])⟩, [11, 10, 6, 5, 2, 1, 0, 4, 3, 9, 8, 7]),
    (⟨(some 18), 0, (some (11, true)), (.op (.bin .eql (.t 14) (.t 17)))⟩, [9, 8, 7, 6, 5, 2, 1, 0, 4, 3, 12, 11, 10]),
    (⟨(some 19), 0, none, (.op (.pick (.t 11) (.t 18) (.k (.d (.bool false)))))⟩, [6, 5, 2, 1, 0, 4, 3, 13, 9, 8, 7, 12, 11, 10]),
    (⟨(some 4), 0, none, (.op (.mov (.t 19)))⟩, [14, 6, 5, 2, 1, 0, 4, 3, 13, 9, 8, 7, 12, 11, 10])])
  (.ret))
theorem cc21 : Tryd.f21.body.bind (compC Tryd.prog) = some ac21 := by kernel_rfl
theorem go21 {vals : List V} {v : V} (ac : AC) (he : ac.erase = ac21) (hw : wpC Tryd.prog 0 ac (retQ [.tmp 4] v) ⟨vals ++ List.replicate (20 - vals.length) (.tup []), []⟩) : CallP Tryd.prog 21 vals v :=
  call_of Tryd.func21 rfl rfl rfl (cc21.trans (congrArg some he.symm)) hw
theorem gi21 {vals : List V} {rows : Go.Vx.Rows} {K : V → Go.Vx.Rows → Prop} (ac : AC) (he : ac.erase = ac21) (hw : wpC Tryd.prog rows.length ac (retI [.tmp 4] K) ⟨vals ++ List.replicate (20 - vals.length) (.tup []), rows⟩) : InlP Tryd.prog 21 vals rows K :=
  inl_of' Tryd.func21 rfl rfl rfl (cc21.trans (congrArg some he.symm)) hw
theorem gm21 {vals : List V} {v : V} {sz : Nat} {es es' : List (List V)} (ac : AC) (he : ac.erase = ac21) (hw : wpC Tryd.prog 1 ac (retM [.tmp 4] v sz es') ⟨vals ++ List.replicate (20 - vals.length) (.tup []), [.live sz es]⟩) : CallM Tryd.prog 21 vals sz es v es' :=
  callM_of' Tryd.func21 rfl rfl rfl (cc21.trans (congrArg some he.symm)) hw

/-- testbench/testbenchref54.Same -/
def ac22 : AC :=
  .seq (.reg 2 [⟨(some 2), 0, none, (.op (.box 11 (.t 0)))⟩,
    ⟨(some 3), 1, none, (.op (.box 11 (.t 1)))⟩,
    ⟨(some 4), 2, none, (.op (.mov (.k (.d (.bool false)))))⟩])
  (.seq (.regD 0 [(⟨(some 5), 0, none, (.op (.load true 11 (.t 2)))⟩, []),
    (⟨(some 6), 0, none, (.call (.k (.fn (.func 37) [] [])) [(.t 5)])⟩, [0]),
    (⟨(some 7), 0, none, (.op (.mov (.t 6)))⟩, [1, 0]),
    (⟨(some 8), 0, (some (7, true)), (.op (.load true 11 (.t 3)))⟩, [2, 1, 0]),
    (⟨(some 9), 0, (some (7, true)), (.call (.k (.fn (.func 37) [] [])) [(.t 8)])⟩, [3, 2, 1, 0]),
    (⟨(some 10), 0, none, (.op (.pick (.t 7) (.t 9) (.k (.d (.bool false)))))⟩, [2, 1, 0, 4, 3]),
    (⟨(some 11), 0, none, (.op (.mov (.t 10)))⟩, [5, 2, 1, 0, 4, 3]),
    (⟨(some 12), 0, (some (11, true)), (.op (.fldA 3 (.t 2)))⟩, [6, 5, 2, 1, 0, 4, 3]),
    (⟨(some 13), 0, (some (11, true)), (.op (.load false 1 (.t 12)))⟩, [7, 6, 5, 2, 1, 0, 4, 3]),
    (⟨(some 14), 0, (some (11, true)), (.call (.k (.fn (.func 40) [] [])) [(.t 13)])⟩, [8, 7, 6, 5, 2, 1, 0, 4, 3]),
    (⟨(some 15), 0, (some (11, true)), (.op (.fldA 3 (.t 3)))⟩, [6, 5, 2, 1, 0, 4, 3]),
    (⟨(some 16), 0, (some (11, true)), (.op (.load false 1 (.t 15)))⟩, [10, 6, 5, 2, 1, 0, 4, 3]),
    (⟨(some 17), 0, (some (11, true)), (.call (.k (.fn (.func 40) [] [])) [(.t 16)])⟩, [11, 10, 6, 5, 2, 1, 0, 4, 3, 9, 8, 7]),
    (⟨(some 18), 0, (some (11, true)), (.op (.bin .eql (.t 14) (.t 17)))⟩, [9, 8, 7, 6, 5, 2, 1, 0, 4, 3, 12, 11, 10]),
    (⟨(some 19), 0, none, (.op (.pick (.t 11) (.t 18) (.k (.d (.bool false)))))⟩, [6, 5, 2, 1, 0, 4, 3, 13, 9, 8, 7, 12, 11, 10]),
    (⟨(some 4), 0, none, (.op (.mov (.t 19)))⟩, [14, 6, 5, 2, 1, 0, 4, 3, 13, 9, 8, 7, 12, 11, 10])])
  (.ret))
theorem cc22 : Tryd.f22.body.bind (compC Tryd.prog) = some ac22 := by kernel_rfl
theorem go22 {vals : List V} {v : V} (ac : AC) (he : ac.erase = ac22) (hw : wpC Tryd.prog 0 ac (retQ [.tmp 4] v) ⟨vals ++ List.replicate (20 - vals.length) (.tup []), []⟩) : CallP Tryd.prog 22 vals v :=
  call_of Tryd.func22 rfl rfl rfl (cc22.trans (congrArg some he.symm)) hw
theorem gi22 {vals : List V} {rows : Go.Vx.Rows} {K : V → Go.Vx.Rows → Prop} (ac : AC) (he : ac.erase = ac22) (hw : wpC Tryd.prog rows.length ac (retI [.tmp 4] K) ⟨vals ++ List.replicate (20 - vals.length) (.tup []), rows⟩) : InlP Tryd.prog 22 vals rows K :=
  inl_of' Tryd.func22 rfl rfl rfl (cc22.trans (congrArg some he.symm)) hw
theorem gm22 {vals : List V} {v : V} {sz : Nat} {es es' : List (List V)} (ac : AC) (he : ac.erase = ac22) (hw : wpC Tryd.prog 1 ac (retM [.tmp 4] v sz es') ⟨vals ++ List.replicate (20 - vals.length) (.tup []), [.live sz es]⟩) : CallM Tryd.prog 22 vals sz es v es' :=
  callM_of' Tryd.func22 rfl rfl rfl (cc22.trans (congrArg some he.symm)) hw

/-- testbench/sign.Buckets -/
def ac23 : AC :=
  .seq (.reg 0 [⟨(some 2), 0, none, (.op (.mov (.k (.d .nils))))⟩])
  (.seq (.reg 0 [⟨(some 3), 0, none, (.op (.mov (.k (.d .nils))))⟩])
  (.seq (.reg 1 [⟨(some 9), 0, none, (.op (.mkmap))⟩,
    ⟨(some 4), 1, none, (.op (.mov (.t 9)))⟩])
  (.seq (.seq (.reg 0 [⟨(some 10), 0, none, (.op (.mov (.t 0)))⟩,
    ⟨(some 11), 0, none, (.op (.len false (.t 10)))⟩,
    ⟨(some 12), 0, none, (.op (.mov (.k (.d (.int .i64 0)))))⟩])
  (.block 0
   (.loop
    (.seq (.reg 0 [⟨(some 13), 0, none, (.op (.bin .lss (.t 12) (.t 11)))⟩])
    (.seq (.cond (.t 13)
      (.skip)
      (.exit 0))
    (.seq (.block 1
     (.seq (.reg 1 [⟨(some 14), 0, none, (.op (.mov (.t 12)))⟩,
       ⟨(some 15), 0, none, (.op (.idxA 11 none (.t 10) (.t 12)))⟩,
       ⟨(some 16), 0, none, (.op (.load true 11 (.t 15)))⟩,
       ⟨(some 6), 0, none, (.op (.alloc [(.str []), (.int .u64 0), (.str []), (.str []), (.int .i64 0), (.int .i64 0), (.int .i64 0), .nils, .nils, (.int .i64 0), (.int .i64 0)]))⟩,
       ⟨(some 5), 1, none, (.op (.mov (.t 14)))⟩,
       ⟨none, 1, none, (.op (.store 11 (.t 6) (.t 16)))⟩])
     (.seq (.seq (.reg 0 [⟨(some 17), 0, none, (.op (.load true 11 (.t 6)))⟩,
       ⟨(some 18), 0, none, (.call (.k (.fn (.func 33) [] [])) [(.t 17)])⟩,
       ⟨(some 19), 0, none, (.op (.un .not (.t 18)))⟩])
     (.cond (.t 19)
       (.exit 1)
       (.skip)))
     (.seq (.reg 0 [⟨(some 21), 0, none, (.op (.mov (.t 4)))⟩,
       ⟨(some 22), 0, none, (.op (.fldA 3 (.t 6)))⟩,
       ⟨(some 23), 0, none, (.op (.load false 1 (.t 22)))⟩,
       ⟨(some 24), 0, none, (.call (.k (.fn (.func 36) [] [])) [(.t 23)])⟩,
       ⟨(some 25), 0, none, (.op (.lkp true (.int .i64 0) (.t 21) (.t 24)))⟩,
       ⟨(some 20), 0, none, (.op (.mov (.t 25)))⟩,
       ⟨(some 26), 0, none, (.op (.ext (.t 20) 0))⟩,
       ⟨(some 27), 0, none, (.op (.ext (.t 20) 1))⟩,
       ⟨(some 7), 0, none, (.op (.mov (.t 26)))⟩,
       ⟨(some 8), 0, none, (.op (.mov (.t 27)))⟩])
     (.seq (.seq (.reg 0 [⟨(some 28), 0, none, (.op (.mov (.t 8)))⟩,
       ⟨(some 29), 0, none, (.op (.un .not (.t 28)))⟩])
     (.cond (.t 29)
       (.seq (.reg 0 [⟨(some 30), 0, none, (.op (.mov (.t 3)))⟩,
         ⟨(some 31), 0, none, (.op (.len false (.t 30)))⟩,
         ⟨(some 7), 0, none, (.op (.mov (.t 31)))⟩])
       (.seq (.reg 0 [⟨(some 32), 0, none, (.op (.mov (.t 4)))⟩,
         ⟨(some 33), 0, none, (.op (.fldA 3 (.t 6)))⟩,
         ⟨(some 34), 0, none, (.op (.load false 1 (.t 33)))⟩,
         ⟨(some 35), 0, none, (.call (.k (.fn (.func 36) [] [])) [(.t 34)])⟩,
         ⟨(some 36), 0, none, (.op (.mov (.t 7)))⟩,
         ⟨none, 0, none, (.op (.upd (.t 32) (.t 35) (.t 36)))⟩])
       (.reg 2 [⟨(some 37), 0, none, (.op (.mov (.t 3)))⟩,
         ⟨(some 38), 0, none, (.op (.buildSl 1 1 [.nils] [(0, (.k (.d .nils)))]))⟩,
         ⟨(some 39), 1, none, (.op (.append 1 24 (.t 37) (.t 38)))⟩,
         ⟨(some 3), 2, none, (.op (.mov (.t 39)))⟩])))
       (.skip)))
     (.reg 2 [⟨(some 40), 0, none, (.op (.mov (.t 3)))⟩,
       ⟨(some 41), 0, none, (.op (.mov (.t 7)))⟩,
       ⟨(some 42), 0, none, (.op (.mov (.t 3)))⟩,
       ⟨(some 43), 0, none, (.op (.mov (.t 7)))⟩,
       ⟨(some 44), 0, none, (.op (.idxA 1 none (.t 42) (.t 43)))⟩,
       ⟨(some 45), 0, none, (.op (.load false 1 (.t 44)))⟩,
       ⟨(some 46), 0, none, (.op (.mov (.t 5)))⟩,
       ⟨(some 47), 0, none, (.op (.buildSl 1 1 [(.int .i64 0)] [(0, (.t 46))]))⟩,
       ⟨(some 48), 1, none, (.op (.append 1 8 (.t 45) (.t 47)))⟩,
       ⟨(some 49), 2, none, (.op (.idxA 1 none (.t 40) (.t 41)))⟩,
       ⟨none, 2, none, (.op (.store 1 (.t 49) (.t 48)))⟩]))))))
    (.reg 0 [⟨(some 50), 0, none, (.op (.bin .add (.t 12) (.k (.d (.int .i64 1)))))⟩,
      ⟨(some 12), 0, none, (.op (.mov (.t 50)))⟩])))))))
  (.seq (.reg 0 [⟨(some 51), 0, none, (.op (.mov (.t 3)))⟩,
    ⟨(some 2), 0, none, (.op (.mov (.t 51)))⟩])
  (.ret)))))
theorem cc23 : Tryd.f23.body.bind (compC Tryd.prog) = some ac23 := by kernel_rfl
theorem go23 {vals : List V} {v : V} (ac : AC) (he : ac.erase = ac23) (hw : wpC Tryd.prog 0 ac (retQ [.tmp 2] v) ⟨vals ++ List.replicate (52 - vals.length) (.tup []), []⟩) : CallP Tryd.prog 23 vals v :=
  call_of Tryd.func23 rfl rfl rfl (cc23.trans (congrArg some he.symm)) hw
theorem gi23 {vals : List V} {rows : Go.Vx.Rows} {K : V → Go.Vx.Rows → Prop} (ac : AC) (he : ac.erase = ac23) (hw : wpC Tryd.prog rows.length ac (retI [.tmp 2] K) ⟨vals ++ List.replicate (52 - vals.length) (.tup []), rows⟩) : InlP Tryd.prog 23 vals rows K :=
  inl_of' Tryd.func23 rfl rfl rfl (cc23.trans (congrArg some he.symm)) hw
theorem gm23 {vals : List V} {v : V} {sz : Nat} {es es' : List (List V)} (ac : AC) (he : ac.erase = ac23) (hw : wpC Tryd.prog 1 ac (retM [.tmp 2] v sz es') ⟨vals ++ List.replicate (52 - vals.length) (.tup []), [.live sz es]⟩) : CallM Tryd.prog 23 vals sz es v es' :=
  callM_of' Tryd.func23 rfl rfl rfl (cc23.trans (congrArg some he.symm)) hw

/-- testbench/testbenchref54.Buckets -/
def ac24 : AC :=
  .seq (.reg 0 [⟨(some 2), 0, none, (.op (.mov (.k (.d .nils))))⟩])
  (.seq (.reg 0 [⟨(some 3), 0, none, (.op (.mov (.k (.d .nils))))⟩])
  (.seq (.seq (.reg 0 [⟨(some 4), 0, none, (.op (.mov (.k (.d (.int .i64 0)))))⟩])
  (.block 0
   (.loop
    (.seq (.seq (.reg 0 [⟨(some 7), 0, none, (.op (.mov (.t 4)))⟩,
      ⟨(some 8), 0, none, (.op (.mov (.t 0)))⟩,
      ⟨(some 9), 0, none, (.op (.len false (.t 8)))⟩,
      ⟨(some 10), 0, none, (.op (.bin .lss (.t 7) (.t 9)))⟩])
    (.cond (.t 10)
      (.skip)
      (.exit 0)))
    (.seq (.block 1
     (.seq (.seq (.reg 0 [⟨(some 13), 0, none, (.op (.mov (.t 0)))⟩,
       ⟨(some 14), 0, none, (.op (.mov (.t 4)))⟩,
       ⟨(some 15), 0, none, (.op (.idxA 11 none (.t 13) (.t 14)))⟩,
       ⟨(some 16), 0, none, (.op (.load true 11 (.t 15)))⟩,
       ⟨(some 17), 0, none, (.call (.k (.fn (.func 37) [] [])) [(.t 16)])⟩,
       ⟨(some 18), 0, none, (.op (.un .not (.t 17)))⟩])
     (.cond (.t 18)
       (.exit 1)
       (.skip)))
     (.seq (.reg 0 [⟨(some 5), 0, none, (.op (.mov (.k (.d (.int .i64 (-1))))))⟩])
     (.seq (.seq (.reg 0 [⟨(some 6), 0, none, (.op (.mov (.k (.d (.int .i64 0)))))⟩])
     (.block 2
      (.loop
       (.seq (.seq (.reg 0 [⟨(some 19), 0, none, (.op (.mov (.t 6)))⟩,
         ⟨(some 20), 0, none, (.op (.mov (.t 3)))⟩,
         ⟨(some 21), 0, none, (.op (.len false (.t 20)))⟩,
         ⟨(some 22), 0, none, (.op (.bin .lss (.t 19) (.t 21)))⟩])
       (.cond (.t 22)
         (.skip)
         (.exit 2)))
       (.seq (.block 3
        (.seq (.regD 0 [(⟨(some 25), 0, none, (.op (.mov (.t 0)))⟩, []),
          (⟨(some 26), 0, none, (.op (.mov (.t 3)))⟩, []),
          (⟨(some 27), 0, none, (.op (.mov (.t 6)))⟩, []),
          (⟨(some 28), 0, none, (.op (.idxA 1 none (.t 26) (.t 27)))⟩, [1, 2]),
          (⟨(some 29), 0, none, (.op (.load false 1 (.t 28)))⟩, [3, 1, 2]),
          (⟨(some 30), 0, none, (.op (.idxA 1 none (.t 29) (.k (.d (.int .i64 0)))))⟩, [4, 3, 1, 2]),
          (⟨(some 31), 0, none, (.op (.load false 1 (.t 30)))⟩, [5, 4, 3, 1, 2]),
          (⟨(some 32), 0, none, (.op (.idxA 11 none (.t 25) (.t 31)))⟩, [0, 6, 5, 4, 3, 1, 2]),
          (⟨(some 33), 0, none, (.op (.load true 11 (.t 32)))⟩, [7, 0, 6, 5, 4, 3, 1, 2]),
          (⟨(some 34), 0, none, (.op (.mov (.t 0)))⟩, []),
          (⟨(some 35), 0, none, (.op (.mov (.t 4)))⟩, []),
          (⟨(some 36), 0, none, (.op (.idxA 11 none (.t 34) (.t 35)))⟩, [9, 10]),
          (⟨(some 37), 0, none, (.op (.load true 11 (.t 36)))⟩, [11, 9, 10]),
          (⟨(some 38), 0, none, (.call (.k (.fn (.func 22) [] [])) [(.t 33), (.t 37)])⟩, [8, 7, 0, 6, 5, 4, 3, 1, 2, 12, 11, 9, 10])])
        (.cond (.t 38)
          (.reg 0 [⟨(some 39), 0, none, (.op (.mov (.t 6)))⟩,
            ⟨(some 5), 0, none, (.op (.mov (.t 39)))⟩])
          (.skip))))
       (.reg 0 [⟨(some 23), 0, none, (.op (.mov (.t 6)))⟩,
         ⟨(some 24), 0, none, (.op (.bin .add (.t 23) (.k (.d (.int .i64 1)))))⟩,
         ⟨(some 6), 0, none, (.op (.mov (.t 24)))⟩]))))))
     (.seq (.reg 0 [⟨(some 40), 0, none, (.op (.mov (.t 5)))⟩,
       ⟨(some 41), 0, none, (.op (.bin .geq (.t 40) (.k (.d (.int .i64 0)))))⟩])
     (.cond (.t 41)
       (.reg 2 [⟨(some 42), 0, none, (.op (.mov (.t 3)))⟩,
         ⟨(some 43), 0, none, (.op (.mov (.t 5)))⟩,
         ⟨(some 44), 0, none, (.op (.mov (.t 3)))⟩,
         ⟨(some 45), 0, none, (.op (.mov (.t 5)))⟩,
         ⟨(some 46), 0, none, (.op (.idxA 1 none (.t 44) (.t 45)))⟩,
         ⟨(some 47), 0, none, (.op (.load false 1 (.t 46)))⟩,
         ⟨(some 48), 0, none, (.op (.mov (.t 4)))⟩,
         ⟨(some 49), 0, none, (.op (.buildSl 1 1 [(.int .i64 0)] [(0, (.t 48))]))⟩,
         ⟨(some 50), 1, none, (.op (.append 1 8 (.t 47) (.t 49)))⟩,
         ⟨(some 51), 2, none, (.op (.idxA 1 none (.t 42) (.t 43)))⟩,
         ⟨none, 2, none, (.op (.store 1 (.t 51) (.t 50)))⟩])
       (.reg 3 [⟨(some 52), 0, none, (.op (.mov (.t 3)))⟩,
         ⟨(some 53), 0, none, (.op (.mov (.t 4)))⟩,
         ⟨(some 54), 0, none, (.op (.buildSl 1 1 [(.int .i64 0)] [(0, (.t 53))]))⟩,
         ⟨(some 55), 1, none, (.op (.buildSl 1 1 [.nils] [(0, (.t 54))]))⟩,
         ⟨(some 56), 2, none, (.op (.append 1 24 (.t 52) (.t 55)))⟩,
         ⟨(some 3), 3, none, (.op (.mov (.t 56)))⟩])))))))
    (.reg 0 [⟨(some 11), 0, none, (.op (.mov (.t 4)))⟩,
      ⟨(some 12), 0, none, (.op (.bin .add (.t 11) (.k (.d (.int .i64 1)))))⟩,
      ⟨(some 4), 0, none, (.op (.mov (.t 12)))⟩]))))))
  (.seq (.reg 0 [⟨(some 57), 0, none, (.op (.mov (.t 3)))⟩,
    ⟨(some 2), 0, none, (.op (.mov (.t 57)))⟩])
  (.ret))))
theorem cc24 : Tryd.f24.body.bind (compC Tryd.prog) = some ac24 := by kernel_rfl
theorem go24 {vals : List V} {v : V} (ac : AC) (he : ac.erase = ac24) (hw : wpC Tryd.prog 0 ac (retQ [.tmp 2] v) ⟨vals ++ List.replicate (58 - vals.length) (.tup []), []⟩) : CallP Tryd.prog 24 vals v :=
  call_of Tryd.func24 rfl rfl rfl (cc24.trans (congrArg some he.symm)) hw
theorem gi24 {vals : List V} {rows : Go.Vx.Rows} {K : V → Go.Vx.Rows → Prop} (ac : AC) (he : ac.erase = ac24) (hw : wpC Tryd.prog rows.length ac (retI [.tmp 2] K) ⟨vals ++ List.replicate (58 - vals.length) (.tup []), rows⟩) : InlP Tryd.prog 24 vals rows K :=
  inl_of' Tryd.func24 rfl rfl rfl (cc24.trans (congrArg some he.symm)) hw
theorem gm24 {vals : List V} {v : V} {sz : Nat} {es es' : List (List V)} (ac : AC) (he : ac.erase = ac24) (hw : wpC Tryd.prog 1 ac (retM [.tmp 2] v sz es') ⟨vals ++ List.replicate (58 - vals.length) (.tup []), [.live sz es]⟩) : CallM Tryd.prog 24 vals sz es v es' :=
  callM_of' Tryd.func24 rfl rfl rfl (cc24.trans (congrArg some he.symm)) hw

/-- testbench/testbenchlaw54.result -/
def ac25 : AC :=
  .seq (.reg 1 [⟨(some 2), 0, none, (.op (.alloc [(.str []), (.int .u64 0), (.str []), (.str []), (.int .i64 0), (.int .i64 0), (.int .i64 0), .nils, .nils, (.int .i64 0), (.int .i64 0)]))⟩])
  (.seq (.reg 0 [⟨(some 3), 0, none, (.op (.mov (.t 0)))⟩,
    ⟨(some 4), 0, none, (.op (.build [(.str []), (.int .u64 0), (.str []), (.str []), (.int .i64 0), (.int .i64 0), (.int .i64 0), .nils, .nils, (.int .i64 0), (.int .i64 0)] [(0, 1, (.k (.d (.str [116])))), (2, 1, (.k (.d (.str [100])))), (3, 1, (.t 3))]))⟩,
    ⟨none, 0, none, (.op (.store 11 (.t 2) (.t 4)))⟩])
  (.ret))
theorem cc25 : Tryd.f25.body.bind (compC Tryd.prog) = some ac25 := by kernel_rfl
theorem go25 {vals : List V} {v : V} (ac : AC) (he : ac.erase = ac25) (hw : wpC Tryd.prog 0 ac (retQ [.cell 2 true 11] v) ⟨vals ++ List.replicate (5 - vals.length) (.tup []), []⟩) : CallP Tryd.prog 25 vals v :=
  call_of Tryd.func25 rfl rfl rfl (cc25.trans (congrArg some he.symm)) hw
theorem gi25 {vals : List V} {rows : Go.Vx.Rows} {K : V → Go.Vx.Rows → Prop} (ac : AC) (he : ac.erase = ac25) (hw : wpC Tryd.prog rows.length ac (retI [.cell 2 true 11] K) ⟨vals ++ List.replicate (5 - vals.length) (.tup []), rows⟩) : InlP Tryd.prog 25 vals rows K :=
  inl_of' Tryd.func25 rfl rfl rfl (cc25.trans (congrArg some he.symm)) hw
theorem gm25 {vals : List V} {v : V} {sz : Nat} {es es' : List (List V)} (ac : AC) (he : ac.erase = ac25) (hw : wpC Tryd.prog 1 ac (retM [.cell 2 true 11] v sz es') ⟨vals ++ List.replicate (5 - vals.length) (.tup []), [.live sz es]⟩) : CallM Tryd.prog 25 vals sz es v es' :=
  callM_of' Tryd.func25 rfl rfl rfl (cc25.trans (congrArg some he.symm)) hw

/-- testbench/sign.divide -/
def ac26 : AC :=
  .seq (.reg 0 [⟨(some 2), 0, none, (.op (.mov (.k (.d (.str [])))))⟩,
    ⟨(some 3), 0, none, (.op (.mov (.k (.d (.str [])))))⟩,
    ⟨(some 4), 0, none, (.op (.mov (.k (.d (.bool false)))))⟩])
  (.seq (.reg 0 [⟨(some 7), 0, none, (.op (.mov (.t 0)))⟩,
    ⟨(some 8), 0, none, (.call (.k (.fn (.func 41) [] [])) [(.t 7), (.k (.d (.str [32])))])⟩,
    ⟨(some 6), 0, none, (.op (.mov (.t 8)))⟩,
    ⟨(some 9), 0, none, (.op (.ext (.t 6) 0))⟩,
    ⟨(some 10), 0, none, (.op (.ext (.t 6) 1))⟩,
    ⟨(some 11), 0, none, (.op (.ext (.t 6) 2))⟩,
    ⟨(some 2), 0, none, (.op (.mov (.t 9)))⟩,
    ⟨(some 3), 0, none, (.op (.mov (.t 10)))⟩,
    ⟨(some 5), 0, none, (.op (.mov (.t 11)))⟩])
  (.seq (.block 0
   (.seq (.reg 0 [⟨(some 13), 0, none, (.op (.mov (.t 2)))⟩,
     ⟨(some 14), 0, none, (.call (.k (.fn (.func 42) [] [])) [(.t 13)])⟩,
     ⟨(some 12), 0, none, (.op (.mov (.t 14)))⟩])
   (.cond (.t 12)
     (.reg 0 [⟨(some 15), 0, none, (.op (.mov (.t 5)))⟩,
       ⟨(some 16), 0, none, (.op (.mov (.t 15)))⟩,
       ⟨(some 17), 0, (some (16, true)), (.op (.mov (.t 3)))⟩,
       ⟨(some 18), 0, (some (16, true)), (.call (.k (.fn (.func 43) [] [])) [(.t 17)])⟩,
       ⟨(some 19), 0, none, (.op (.pick (.t 16) (.t 18) (.k (.d (.bool false)))))⟩,
       ⟨(some 4), 0, none, (.op (.mov (.t 19)))⟩])
     (.seq (.reg 0 [⟨(some 21), 0, none, (.op (.mov (.t 2)))⟩,
       ⟨(some 22), 0, none, (.op (.bin .eql (.t 21) (.k (.d (.str [97, 115, 115, 101, 114, 116])))))⟩,
       ⟨(some 20), 0, none, (.op (.mov (.t 22)))⟩])
     (.cond (.t 20)
       (.reg 0 [⟨(some 23), 0, none, (.op (.mov (.t 5)))⟩,
         ⟨(some 24), 0, none, (.op (.mov (.t 23)))⟩,
         ⟨(some 25), 0, (some (24, true)), (.op (.mov (.t 3)))⟩,
         ⟨(some 26), 0, (some (24, true)), (.call (.k (.fn (.func 29) [] [])) [(.t 25)])⟩,
         ⟨(some 27), 0, none, (.op (.pick (.t 24) (.t 26) (.k (.d (.bool false)))))⟩,
         ⟨(some 4), 0, none, (.op (.mov (.t 27)))⟩])
       (.seq (.reg 0 [⟨(some 29), 0, none, (.op (.mov (.t 2)))⟩,
         ⟨(some 30), 0, none, (.op (.bin .eql (.t 29) (.k (.d (.str [112, 114, 111, 116, 111, 99, 111, 108])))))⟩,
         ⟨(some 28), 0, none, (.op (.mov (.t 30)))⟩])
       (.cond (.t 28)
         (.reg 0 [⟨(some 31), 0, none, (.op (.mov (.t 3)))⟩,
           ⟨(some 32), 0, none, (.op (.bin .eql (.t 31) (.k (.d (.str [105, 110])))))⟩,
           ⟨(some 33), 0, none, (.op (.mov (.t 32)))⟩,
           ⟨(some 34), 0, (some (33, false)), (.op (.mov (.t 3)))⟩,
           ⟨(some 35), 0, (some (33, false)), (.op (.bin .eql (.t 34) (.k (.d (.str [111, 117, 116])))))⟩,
           ⟨(some 36), 0, none, (.op (.pick (.t 33) (.k (.d (.bool true))) (.t 35)))⟩,
           ⟨(some 4), 0, none, (.op (.mov (.t 36)))⟩])
         (.seq (.seq (.reg 0 [⟨(some 38), 0, none, (.op (.mov (.t 2)))⟩,
           ⟨(some 39), 0, none, (.op (.bin .eql (.t 38) (.k (.d (.str [105, 108, 108, 101, 103, 97, 108])))))⟩,
           ⟨(some 37), 0, none, (.op (.mov (.t 39)))⟩])
         (.cond (.t 37)
           (.skip)
           (.reg 0 [⟨(some 40), 0, none, (.op (.mov (.t 2)))⟩,
             ⟨(some 41), 0, none, (.op (.bin .eql (.t 40) (.k (.d (.str [])))))⟩,
             ⟨(some 37), 0, none, (.op (.mov (.t 41)))⟩])))
         (.cond (.t 37)
           (.reg 0 [⟨(some 42), 0, none, (.op (.mov (.t 5)))⟩,
             ⟨(some 43), 0, none, (.op (.un .not (.t 42)))⟩,
             ⟨(some 4), 0, none, (.op (.mov (.t 43)))⟩])
           (.skip))))))))))
  (.seq (.reg 0 [⟨(some 44), 0, none, (.op (.mov (.t 2)))⟩,
    ⟨(some 45), 0, none, (.op (.mov (.t 3)))⟩,
    ⟨(some 46), 0, none, (.op (.mov (.t 4)))⟩,
    ⟨(some 2), 0, none, (.op (.mov (.t 44)))⟩,
    ⟨(some 3), 0, none, (.op (.mov (.t 45)))⟩,
    ⟨(some 4), 0, none, (.op (.mov (.t 46)))⟩])
  (.ret))))
theorem cc26 : Tryd.f26.body.bind (compC Tryd.prog) = some ac26 := by kernel_rfl
theorem go26 {vals : List V} {v : V} (ac : AC) (he : ac.erase = ac26) (hw : wpC Tryd.prog 0 ac (retQ [.tmp 2, .tmp 3, .tmp 4] v) ⟨vals ++ List.replicate (47 - vals.length) (.tup []), []⟩) : CallP Tryd.prog 26 vals v :=
  call_of Tryd.func26 rfl rfl rfl (cc26.trans (congrArg some he.symm)) hw
theorem gi26 {vals : List V} {rows : Go.Vx.Rows} {K : V → Go.Vx.Rows → Prop} (ac : AC) (he : ac.erase = ac26) (hw : wpC Tryd.prog rows.length ac (retI [.tmp 2, .tmp 3, .tmp 4] K) ⟨vals ++ List.replicate (47 - vals.length) (.tup []), rows⟩) : InlP Tryd.prog 26 vals rows K :=
  inl_of' Tryd.func26 rfl rfl rfl (cc26.trans (congrArg some he.symm)) hw
theorem gm26 {vals : List V} {v : V} {sz : Nat} {es es' : List (List V)} (ac : AC) (he : ac.erase = ac26) (hw : wpC Tryd.prog 1 ac (retM [.tmp 2, .tmp 3, .tmp 4] v sz es') ⟨vals ++ List.replicate (47 - vals.length) (.tup []), [.live sz es]⟩) : CallM Tryd.prog 26 vals sz es v es' :=
  callM_of' Tryd.func26 rfl rfl rfl (cc26.trans (congrArg some he.symm)) hw

/-- testbench/testbenchref54.Is -/
def ac27 : AC :=
  .seq (.reg 0 [⟨(some 2), 0, none, (.op (.mov (.k (.d (.bool false)))))⟩])
  (.seq (.seq (.reg 0 [⟨(some 8), 0, none, (.op (.mov (.t 0)))⟩,
    ⟨(some 9), 0, none, (.op (.bin .eql (.t 8) (.k (.d (.str [])))))⟩,
    ⟨(some 10), 0, none, (.op (.mov (.t 9)))⟩,
    ⟨(some 11), 0, (some (10, false)), (.op (.mov (.t 0)))⟩,
    ⟨(some 12), 0, (some (10, false)), (.op (.bin .eql (.t 11) (.k (.d (.str [105, 108, 108, 101, 103, 97, 108])))))⟩,
    ⟨(some 13), 0, none, (.op (.pick (.t 10) (.k (.d (.bool true))) (.t 12)))⟩,
    ⟨(some 14), 0, none, (.op (.mov (.t 13)))⟩,
    ⟨(some 15), 0, (some (14, false)), (.op (.mov (.t 0)))⟩,
    ⟨(some 16), 0, (some (14, false)), (.op (.bin .eql (.t 15) (.k (.d (.str [112, 114, 111, 116, 111, 99, 111, 108, 32, 105, 110])))))⟩,
    ⟨(some 17), 0, none, (.op (.pick (.t 14) (.k (.d (.bool true))) (.t 16)))⟩,
    ⟨(some 18), 0, none, (.op (.mov (.t 17)))⟩,
    ⟨(some 19), 0, (some (18, false)), (.op (.mov (.t 0)))⟩,
    ⟨(some 20), 0, (some (18, false)), (.op (.bin .eql (.t 19) (.k (.d (.str [112, 114, 111, 116, 111, 99, 111, 108, 32, 111, 117, 116])))))⟩,
    ⟨(some 21), 0, none, (.op (.pick (.t 18) (.k (.d (.bool true))) (.t 20)))⟩])
  (.cond (.t 21)
    (.seq (.reg 0 [⟨(some 2), 0, none, (.op (.mov (.k (.d (.bool true)))))⟩])
    (.ret))
    (.skip)))
  (.seq (.reg 0 [⟨(some 23), 0, none, (.op (.mov (.t 0)))⟩,
    ⟨(some 24), 0, none, (.call (.k (.fn (.func 28) [] [])) [(.t 23)])⟩,
    ⟨(some 22), 0, none, (.op (.mov (.t 24)))⟩,
    ⟨(some 25), 0, none, (.op (.ext (.t 22) 0))⟩,
    ⟨(some 26), 0, none, (.op (.ext (.t 22) 1))⟩,
    ⟨(some 27), 0, none, (.op (.ext (.t 22) 2))⟩,
    ⟨(some 3), 0, none, (.op (.mov (.t 25)))⟩,
    ⟨(some 4), 0, none, (.op (.mov (.t 26)))⟩,
    ⟨(some 5), 0, none, (.op (.mov (.t 27)))⟩])
  (.seq (.seq (.reg 0 [⟨(some 28), 0, none, (.op (.mov (.t 5)))⟩,
    ⟨(some 29), 0, none, (.op (.un .not (.t 28)))⟩])
  (.cond (.t 29)
    (.seq (.reg 0 [⟨(some 2), 0, none, (.op (.mov (.k (.d (.bool false)))))⟩])
    (.ret))
    (.skip)))
  (.seq (.seq (.reg 0 [⟨(some 30), 0, none, (.op (.mov (.t 3)))⟩,
    ⟨(some 31), 0, none, (.op (.bin .eql (.t 30) (.k (.d (.str [97, 115, 115, 101, 114, 116])))))⟩])
  (.cond (.t 31)
    (.seq (.reg 0 [⟨(some 32), 0, none, (.op (.mov (.t 4)))⟩,
      ⟨(some 33), 0, none, (.call (.k (.fn (.func 31) [] [])) [(.t 32)])⟩,
      ⟨(some 2), 0, none, (.op (.mov (.t 33)))⟩])
    (.ret))
    (.skip)))
  (.seq (.reg 0 [⟨(some 35), 0, none, (.op (.mov (.t 4)))⟩,
    ⟨(some 36), 0, none, (.call (.k (.fn (.func 44) [] [])) [(.t 35)])⟩,
    ⟨(some 34), 0, none, (.op (.mov (.t 36)))⟩,
    ⟨(some 37), 0, none, (.op (.ext (.t 34) 0))⟩,
    ⟨(some 38), 0, none, (.op (.ext (.t 34) 1))⟩,
    ⟨(some 6), 0, none, (.op (.mov (.t 37)))⟩,
    ⟨(some 7), 0, none, (.op (.mov (.t 38)))⟩])
  (.seq (.reg 0 [⟨(some 39), 0, none, (.op (.mov (.t 3)))⟩,
    ⟨(some 40), 0, none, (.call (.k (.fn (.func 45) [] [])) [(.t 39)])⟩,
    ⟨(some 41), 0, none, (.op (.mov (.t 40)))⟩,
    ⟨(some 42), 0, (some (41, true)), (.op (.mov (.t 7)))⟩,
    ⟨(some 43), 0, (some (41, true)), (.op (.bin .eql (.t 42) (.k (.d (.int .i64 0)))))⟩,
    ⟨(some 44), 0, none, (.op (.pick (.t 41) (.t 43) (.k (.d (.bool false)))))⟩,
    ⟨(some 45), 0, none, (.op (.mov (.t 44)))⟩,
    ⟨(some 46), 0, (some (45, true)), (.op (.mov (.t 6)))⟩,
    ⟨(some 47), 0, (some (45, true)), (.op (.bin .geq (.t 46) (.k (.d (.int .i64 0)))))⟩,
    ⟨(some 48), 0, none, (.op (.pick (.t 45) (.t 47) (.k (.d (.bool false)))))⟩,
    ⟨(some 49), 0, none, (.op (.mov (.t 48)))⟩,
    ⟨(some 50), 0, (some (49, true)), (.op (.mov (.t 6)))⟩,
    ⟨(some 51), 0, (some (49, true)), (.op (.bin .leq (.t 50) (.k (.d (.int .i64 1099511627776)))))⟩,
    ⟨(some 52), 0, none, (.op (.pick (.t 49) (.t 51) (.k (.d (.bool false)))))⟩,
    ⟨(some 2), 0, none, (.op (.mov (.t 52)))⟩])
  (.ret)))))))
theorem cc27 : Tryd.f27.body.bind (compC Tryd.prog) = some ac27 := by kernel_rfl
theorem go27 {vals : List V} {v : V} (ac : AC) (he : ac.erase = ac27) (hw : wpC Tryd.prog 0 ac (retQ [.tmp 2] v) ⟨vals ++ List.replicate (53 - vals.length) (.tup []), []⟩) : CallP Tryd.prog 27 vals v :=
  call_of Tryd.func27 rfl rfl rfl (cc27.trans (congrArg some he.symm)) hw
theorem gi27 {vals : List V} {rows : Go.Vx.Rows} {K : V → Go.Vx.Rows → Prop} (ac : AC) (he : ac.erase = ac27) (hw : wpC Tryd.prog rows.length ac (retI [.tmp 2] K) ⟨vals ++ List.replicate (53 - vals.length) (.tup []), rows⟩) : InlP Tryd.prog 27 vals rows K :=
  inl_of' Tryd.func27 rfl rfl rfl (cc27.trans (congrArg some he.symm)) hw
theorem gm27 {vals : List V} {v : V} {sz : Nat} {es es' : List (List V)} (ac : AC) (he : ac.erase = ac27) (hw : wpC Tryd.prog 1 ac (retM [.tmp 2] v sz es') ⟨vals ++ List.replicate (53 - vals.length) (.tup []), [.live sz es]⟩) : CallM Tryd.prog 27 vals sz es v es' :=
  callM_of' Tryd.func27 rfl rfl rfl (cc27.trans (congrArg some he.symm)) hw

/-- testbench/testbenchref54.split -/
def ac28 : AC :=
  .seq (.reg 0 [⟨(some 2), 0, none, (.op (.mov (.k (.d (.str [])))))⟩,
    ⟨(some 3), 0, none, (.op (.mov (.k (.d (.str [])))))⟩,
    ⟨(some 4), 0, none, (.op (.mov (.k (.d (.bool false)))))⟩])
  (.seq (.seq (.reg 0 [⟨(some 5), 0, none, (.op (.mov (.k (.d (.int .i64 0)))))⟩])
  (.block 0
   (.loop
    (.seq (.seq (.reg 0 [⟨(some 6), 0, none, (.op (.mov (.t 5)))⟩,
      ⟨(some 7), 0, none, (.op (.mov (.t 0)))⟩,
      ⟨(some 8), 0, none, (.op (.len true (.t 7)))⟩,
      ⟨(some 9), 0, none, (.op (.bin .lss (.t 6) (.t 8)))⟩])
    (.cond (.t 9)
      (.skip)
      (.exit 0)))
    (.seq (.block 1
     (.seq (.reg 0 [⟨(some 12), 0, none, (.op (.mov (.t 0)))⟩,
       ⟨(some 13), 0, none, (.op (.mov (.t 5)))⟩,
       ⟨(some 14), 0, none, (.op (.idxS (.t 12) (.t 13)))⟩,
       ⟨(some 15), 0, none, (.op (.bin .eql (.t 14) (.k (.d (.int .u8 32)))))⟩])
     (.cond (.t 15)
       (.seq (.regD 0 [(⟨(some 16), 0, none, (.op (.mov (.t 0)))⟩, []),
         (⟨(some 17), 0, none, (.op (.mov (.t 5)))⟩, []),
         (⟨(some 18), 0, none, (.op (.slice 0 (.t 16) none (some (.t 17))))⟩, [0, 1]),
         (⟨(some 19), 0, none, (.op (.mov (.t 0)))⟩, []),
         (⟨(some 20), 0, none, (.op (.mov (.t 5)))⟩, []),
         (⟨(some 21), 0, none, (.op (.bin .add (.t 20) (.k (.d (.int .i64 1)))))⟩, [4]),
         (⟨(some 22), 0, none, (.op (.slice 0 (.t 19) (some (.t 21)) none))⟩, [3, 5, 4]),
         (⟨(some 2), 0, none, (.op (.mov (.t 18)))⟩, [2, 0, 1]),
         (⟨(some 3), 0, none, (.op (.mov (.t 22)))⟩, [6, 3, 5, 4, 7, 2, 0, 1]),
         (⟨(some 4), 0, none, (.op (.mov (.k (.d (.bool true)))))⟩, [8, 6, 3, 5, 4, 7, 2, 0, 1])])
       (.ret))
       (.skip))))
    (.reg 0 [⟨(some 10), 0, none, (.op (.mov (.t 5)))⟩,
      ⟨(some 11), 0, none, (.op (.bin .add (.t 10) (.k (.d (.int .i64 1)))))⟩,
      ⟨(some 5), 0, none, (.op (.mov (.t 11)))⟩]))))))
  (.seq (.reg 0 [⟨(some 23), 0, none, (.op (.mov (.t 0)))⟩,
    ⟨(some 2), 0, none, (.op (.mov (.t 23)))⟩,
    ⟨(some 3), 0, none, (.op (.mov (.k (.d (.str [])))))⟩,
    ⟨(some 4), 0, none, (.op (.mov (.k (.d (.bool false)))))⟩])
  (.ret)))
theorem cc28 : Tryd.f28.body.bind (compC Tryd.prog) = some ac28 := by kernel_rfl
theorem go28 {vals : List V} {v : V} (ac : AC) (he : ac.erase = ac28) (hw : wpC Tryd.prog 0 ac (retQ [.tmp 2, .tmp 3, .tmp 4] v) ⟨vals ++ List.replicate (24 - vals.length) (.tup []), []⟩) : CallP Tryd.prog 28 vals v :=
  call_of Tryd.func28 rfl rfl rfl (cc28.trans (congrArg some he.symm)) hw
theorem gi28 {vals : List V} {rows : Go.Vx.Rows} {K : V → Go.Vx.Rows → Prop} (ac : AC) (he : ac.erase = ac28) (hw : wpC Tryd.prog rows.length ac (retI [.tmp 2, .tmp 3, .tmp 4] K) ⟨vals ++ List.replicate (24 - vals.length) (.tup []), rows⟩) : InlP Tryd.prog 28 vals rows K :=
  inl_of' Tryd.func28 rfl rfl rfl (cc28.trans (congrArg some he.symm)) hw
theorem gm28 {vals : List V} {v : V} {sz : Nat} {es es' : List (List V)} (ac : AC) (he : ac.erase = ac28) (hw : wpC Tryd.prog 1 ac (retM [.tmp 2, .tmp 3, .tmp 4] v sz es') ⟨vals ++ List.replicate (24 - vals.length) (.tup []), [.live sz es]⟩) : CallM Tryd.prog 28 vals sz es v es' :=
  callM_of' Tryd.func28 rfl rfl rfl (cc28.trans (congrArg some he.symm)) hw

/-- testbench/lexer.IsName -/
def ac29 : AC :=
  .seq (.reg 0 [⟨(some 2), 0, none, (.op (.mov (.k (.d (.bool false)))))⟩])
  (.seq (.reg 0 [⟨(some 3), 0, none, (.op (.mov (.t 0)))⟩,
    ⟨(some 4), 0, none, (.call (.k (.fn (.func 46) [] [])) [(.t 3)])⟩,
    ⟨(some 5), 0, none, (.op (.mov (.t 4)))⟩,
    ⟨(some 6), 0, (some (5, true)), (.op (.mov (.t 0)))⟩,
    ⟨(some 7), 0, (some (5, true)), (.op (.len true (.t 6)))⟩,
    ⟨(some 8), 0, (some (5, true)), (.op (.bin .leq (.t 7) (.k (.d (.int .i64 16)))))⟩,
    ⟨(some 9), 0, none, (.op (.pick (.t 5) (.t 8) (.k (.d (.bool false)))))⟩,
    ⟨(some 10), 0, none, (.op (.mov (.t 9)))⟩,
    ⟨(some 11), 0, (some (10, true)), (.op (.mov (.t 0)))⟩,
    ⟨(some 12), 0, (some (10, true)), (.call (.k (.fn (.func 47) [] [])) [(.t 11)])⟩,
    ⟨(some 13), 0, (some (10, true)), (.op (.un .not (.t 12)))⟩,
    ⟨(some 14), 0, none, (.op (.pick (.t 10) (.t 13) (.k (.d (.bool false)))))⟩,
    ⟨(some 2), 0, none, (.op (.mov (.t 14)))⟩])
  (.ret))
theorem cc29 : Tryd.f29.body.bind (compC Tryd.prog) = some ac29 := by kernel_rfl
theorem go29 {vals : List V} {v : V} (ac : AC) (he : ac.erase = ac29) (hw : wpC Tryd.prog 0 ac (retQ [.tmp 2] v) ⟨vals ++ List.replicate (15 - vals.length) (.tup []), []⟩) : CallP Tryd.prog 29 vals v :=
  call_of Tryd.func29 rfl rfl rfl (cc29.trans (congrArg some he.symm)) hw
theorem gi29 {vals : List V} {rows : Go.Vx.Rows} {K : V → Go.Vx.Rows → Prop} (ac : AC) (he : ac.erase = ac29) (hw : wpC Tryd.prog rows.length ac (retI [.tmp 2] K) ⟨vals ++ List.replicate (15 - vals.length) (.tup []), rows⟩) : InlP Tryd.prog 29 vals rows K :=
  inl_of' Tryd.func29 rfl rfl rfl (cc29.trans (congrArg some he.symm)) hw
theorem gm29 {vals : List V} {v : V} {sz : Nat} {es es' : List (List V)} (ac : AC) (he : ac.erase = ac29) (hw : wpC Tryd.prog 1 ac (retM [.tmp 2] v sz es') ⟨vals ++ List.replicate (15 - vals.length) (.tup []), [.live sz es]⟩) : CallM Tryd.prog 29 vals sz es v es' :=
  callM_of' Tryd.func29 rfl rfl rfl (cc29.trans (congrArg some he.symm)) hw

/-- testbench/sign.fits -/
def ac30 : AC :=
  .seq (.reg 0 [⟨(some 2), 0, none, (.op (.mov (.k (.d (.bool false)))))⟩])
  (.seq (.reg 0 [⟨(some 3), 0, none, (.op (.mov (.t 0)))⟩,
    ⟨(some 4), 0, none, (.op (.bin .geq (.t 3) (.k (.d (.int .i64 0)))))⟩,
    ⟨(some 5), 0, none, (.op (.mov (.t 4)))⟩,
    ⟨(some 6), 0, (some (5, true)), (.op (.mov (.t 0)))⟩,
    ⟨(some 7), 0, (some (5, true)), (.op (.bin .leq (.t 6) (.k (.d (.int .i64 1099511627776)))))⟩,
    ⟨(some 8), 0, none, (.op (.pick (.t 5) (.t 7) (.k (.d (.bool false)))))⟩,
    ⟨(some 2), 0, none, (.op (.mov (.t 8)))⟩])
  (.ret))
theorem cc30 : Tryd.f30.body.bind (compC Tryd.prog) = some ac30 := by kernel_rfl
theorem go30 {vals : List V} {v : V} (ac : AC) (he : ac.erase = ac30) (hw : wpC Tryd.prog 0 ac (retQ [.tmp 2] v) ⟨vals ++ List.replicate (9 - vals.length) (.tup []), []⟩) : CallP Tryd.prog 30 vals v :=
  call_of Tryd.func30 rfl rfl rfl (cc30.trans (congrArg some he.symm)) hw
theorem gi30 {vals : List V} {rows : Go.Vx.Rows} {K : V → Go.Vx.Rows → Prop} (ac : AC) (he : ac.erase = ac30) (hw : wpC Tryd.prog rows.length ac (retI [.tmp 2] K) ⟨vals ++ List.replicate (9 - vals.length) (.tup []), rows⟩) : InlP Tryd.prog 30 vals rows K :=
  inl_of' Tryd.func30 rfl rfl rfl (cc30.trans (congrArg some he.symm)) hw
theorem gm30 {vals : List V} {v : V} {sz : Nat} {es es' : List (List V)} (ac : AC) (he : ac.erase = ac30) (hw : wpC Tryd.prog 1 ac (retM [.tmp 2] v sz es') ⟨vals ++ List.replicate (9 - vals.length) (.tup []), [.live sz es]⟩) : CallM Tryd.prog 30 vals sz es v es' :=
  callM_of' Tryd.func30 rfl rfl rfl (cc30.trans (congrArg some he.symm)) hw

/-- testbench/testbenchref07.IsName -/
def ac31 : AC :=
  .seq (.reg 0 [⟨(some 2), 0, none, (.op (.mov (.k (.d (.bool false)))))⟩])
  (.seq (.seq (.reg 0 [⟨(some 4), 0, none, (.op (.mov (.t 0)))⟩,
    ⟨(some 5), 0, none, (.op (.bin .eql (.t 4) (.k (.d (.str [])))))⟩,
    ⟨(some 6), 0, none, (.op (.mov (.t 5)))⟩,
    ⟨(some 7), 0, (some (6, false)), (.op (.mov (.t 0)))⟩,
    ⟨(some 8), 0, (some (6, false)), (.op (.len true (.t 7)))⟩,
    ⟨(some 9), 0, (some (6, false)), (.op (.bin .gtr (.t 8) (.k (.d (.int .i64 16)))))⟩,
    ⟨(some 10), 0, none, (.op (.pick (.t 6) (.k (.d (.bool true))) (.t 9)))⟩,
    ⟨(some 11), 0, none, (.op (.mov (.t 10)))⟩,
    ⟨(some 12), 0, (some (11, false)), (.op (.mov (.t 0)))⟩,
    ⟨(some 13), 0, (some (11, false)), (.op (.idxS (.t 12) (.k (.d (.int .i64 0)))))⟩,
    ⟨(some 14), 0, (some (11, false)), (.call (.k (.fn (.func 48) [] [])) [(.t 13)])⟩,
    ⟨(some 15), 0, (some (11, false)), (.op (.un .not (.t 14)))⟩,
    ⟨(some 16), 0, none, (.op (.pick (.t 11) (.k (.d (.bool true))) (.t 15)))⟩,
    ⟨(some 17), 0, none, (.op (.mov (.t 16)))⟩,
    ⟨(some 18), 0, (some (17, false)), (.op (.mov (.t 0)))⟩,
    ⟨(some 19), 0, (some (17, false)), (.call (.k (.fn (.func 49) [] [])) [(.t 18)])⟩,
    ⟨(some 20), 0, none, (.op (.pick (.t 17) (.k (.d (.bool true))) (.t 19)))⟩])
  (.cond (.t 20)
    (.seq (.reg 0 [⟨(some 2), 0, none, (.op (.mov (.k (.d (.bool false)))))⟩])
    (.ret))
    (.skip)))
  (.seq (.seq (.reg 0 [⟨(some 3), 0, none, (.op (.mov (.k (.d (.int .i64 0)))))⟩])
  (.block 0
   (.loop
    (.seq (.seq (.reg 0 [⟨(some 21), 0, none, (.op (.mov (.t 3)))⟩,
      ⟨(some 22), 0, none, (.op (.mov (.t 0)))⟩,
      ⟨(some 23), 0, none, (.op (.len true (.t 22)))⟩,
      ⟨(some 24), 0, none, (.op (.bin .lss (.t 21) (.t 23)))⟩])
    (.cond (.t 24)
      (.skip)
      (.exit 0)))
    (.seq (.block 1
     (.seq (.reg 0 [⟨(some 27), 0, none, (.op (.mov (.t 0)))⟩,
       ⟨(some 28), 0, none, (.op (.mov (.t 3)))⟩,
       ⟨(some 29), 0, none, (.op (.idxS (.t 27) (.t 28)))⟩,
       ⟨(some 30), 0, none, (.call (.k (.fn (.func 50) [] [])) [(.t 29)])⟩,
       ⟨(some 31), 0, none, (.op (.un .not (.t 30)))⟩])
     (.cond (.t 31)
       (.seq (.reg 0 [⟨(some 2), 0, none, (.op (.mov (.k (.d (.bool false)))))⟩])
       (.ret))
       (.skip))))
    (.reg 0 [⟨(some 25), 0, none, (.op (.mov (.t 3)))⟩,
      ⟨(some 26), 0, none, (.op (.bin .add (.t 25) (.k (.d (.int .i64 1)))))⟩,
      ⟨(some 3), 0, none, (.op (.mov (.t 26)))⟩]))))))
  (.seq (.reg 0 [⟨(some 2), 0, none, (.op (.mov (.k (.d (.bool true)))))⟩])
  (.ret))))
theorem cc31 : Tryd.f31.body.bind (compC Tryd.prog) = some ac31 := by kernel_rfl
theorem go31 {vals : List V} {v : V} (ac : AC) (he : ac.erase = ac31) (hw : wpC Tryd.prog 0 ac (retQ [.tmp 2] v) ⟨vals ++ List.replicate (32 - vals.length) (.tup []), []⟩) : CallP Tryd.prog 31 vals v :=
  call_of Tryd.func31 rfl rfl rfl (cc31.trans (congrArg some he.symm)) hw
theorem gi31 {vals : List V} {rows : Go.Vx.Rows} {K : V → Go.Vx.Rows → Prop} (ac : AC) (he : ac.erase = ac31) (hw : wpC Tryd.prog rows.length ac (retI [.tmp 2] K) ⟨vals ++ List.replicate (32 - vals.length) (.tup []), rows⟩) : InlP Tryd.prog 31 vals rows K :=
  inl_of' Tryd.func31 rfl rfl rfl (cc31.trans (congrArg some he.symm)) hw
theorem gm31 {vals : List V} {v : V} {sz : Nat} {es es' : List (List V)} (ac : AC) (he : ac.erase = ac31) (hw : wpC Tryd.prog 1 ac (retM [.tmp 2] v sz es') ⟨vals ++ List.replicate (32 - vals.length) (.tup []), [.live sz es]⟩) : CallM Tryd.prog 31 vals sz es v es' :=
  callM_of' Tryd.func31 rfl rfl rfl (cc31.trans (congrArg some he.symm)) hw

/-- testbench/testbenchref54.within -/
def ac32 : AC :=
  .seq (.reg 0 [⟨(some 2), 0, none, (.op (.mov (.k (.d (.bool false)))))⟩])
  (.seq (.reg 0 [⟨(some 3), 0, none, (.op (.mov (.t 0)))⟩,
    ⟨(some 4), 0, none, (.op (.bin .geq (.t 3) (.k (.d (.int .i64 0)))))⟩,
    ⟨(some 5), 0, none, (.op (.mov (.t 4)))⟩,
    ⟨(some 6), 0, (some (5, true)), (.op (.mov (.t 0)))⟩,
    ⟨(some 7), 0, (some (5, true)), (.op (.bin .leq (.t 6) (.k (.d (.int .i64 1099511627776)))))⟩,
    ⟨(some 8), 0, none, (.op (.pick (.t 5) (.t 7) (.k (.d (.bool false)))))⟩,
    ⟨(some 2), 0, none, (.op (.mov (.t 8)))⟩])
  (.ret))
theorem cc32 : Tryd.f32.body.bind (compC Tryd.prog) = some ac32 := by kernel_rfl
theorem go32 {vals : List V} {v : V} (ac : AC) (he : ac.erase = ac32) (hw : wpC Tryd.prog 0 ac (retQ [.tmp 2] v) ⟨vals ++ List.replicate (9 - vals.length) (.tup []), []⟩) : CallP Tryd.prog 32 vals v :=
  call_of Tryd.func32 rfl rfl rfl (cc32.trans (congrArg some he.symm)) hw
theorem gi32 {vals : List V} {rows : Go.Vx.Rows} {K : V → Go.Vx.Rows → Prop} (ac : AC) (he : ac.erase = ac32) (hw : wpC Tryd.prog rows.length ac (retI [.tmp 2] K) ⟨vals ++ List.replicate (9 - vals.length) (.tup []), rows⟩) : InlP Tryd.prog 32 vals rows K :=
  inl_of' Tryd.func32 rfl rfl rfl (cc32.trans (congrArg some he.symm)) hw
theorem gm32 {vals : List V} {v : V} {sz : Nat} {es es' : List (List V)} (ac : AC) (he : ac.erase = ac32) (hw : wpC Tryd.prog 1 ac (retM [.tmp 2] v sz es') ⟨vals ++ List.replicate (9 - vals.length) (.tup []), [.live sz es]⟩) : CallM Tryd.prog 32 vals sz es v es' :=
  callM_of' Tryd.func32 rfl rfl rfl (cc32.trans (congrArg some he.symm)) hw

/-- testbench/sign.failed -/
def ac33 : AC :=
  .seq (.reg 1 [⟨(some 1), 0, none, (.op (.box 11 (.t 0)))⟩,
    ⟨(some 2), 1, none, (.op (.mov (.k (.d (.bool false)))))⟩])
  (.seq (.reg 0 [⟨(some 3), 0, none, (.op (.load true 11 (.t 1)))⟩,
    ⟨(some 4), 0, none, (.call (.k (.fn (.func 13) [] [])) [(.t 3)])⟩,
    ⟨(some 5), 0, none, (.op (.mov (.t 4)))⟩,
    ⟨(some 6), 0, (some (5, true)), (.op (.load true 11 (.t 1)))⟩,
    ⟨(some 7), 0, (some (5, true)), (.call (.k (.fn (.func 15) [] [])) [(.t 6)])⟩,
    ⟨(some 8), 0, (some (5, true)), (.op (.un .not (.t 7)))⟩,
    ⟨(some 9), 0, none, (.op (.pick (.t 5) (.t 8) (.k (.d (.bool false)))))⟩,
    ⟨(some 2), 0, none, (.op (.mov (.t 9)))⟩])
  (.ret))
theorem cc33 : Tryd.f33.body.bind (compC Tryd.prog) = some ac33 := by kernel_rfl
theorem go33 {vals : List V} {v : V} (ac : AC) (he : ac.erase = ac33) (hw : wpC Tryd.prog 0 ac (retQ [.tmp 2] v) ⟨vals ++ List.replicate (10 - vals.length) (.tup []), []⟩) : CallP Tryd.prog 33 vals v :=
  call_of Tryd.func33 rfl rfl rfl (cc33.trans (congrArg some he.symm)) hw
theorem gi33 {vals : List V} {rows : Go.Vx.Rows} {K : V → Go.Vx.Rows → Prop} (ac : AC) (he : ac.erase = ac33) (hw : wpC Tryd.prog rows.length ac (retI [.tmp 2] K) ⟨vals ++ List.replicate (10 - vals.length) (.tup []), rows⟩) : InlP Tryd.prog 33 vals rows K :=
  inl_of' Tryd.func33 rfl rfl rfl (cc33.trans (congrArg some he.symm)) hw
theorem gm33 {vals : List V} {v : V} {sz : Nat} {es es' : List (List V)} (ac : AC) (he : ac.erase = ac33) (hw : wpC Tryd.prog 1 ac (retM [.tmp 2] v sz es') ⟨vals ++ List.replicate (10 - vals.length) (.tup []), [.live sz es]⟩) : CallM Tryd.prog 33 vals sz es v es' :=
  callM_of' Tryd.func33 rfl rfl rfl (cc33.trans (congrArg some he.symm)) hw

/-- testbench/hash.Hex -/
def ac34 : AC :=
  .seq (.reg 0 [⟨(some 2), 0, none, (.op (.mov (.k (.d (.str [])))))⟩])
  (.seq (.reg 0 [⟨(some 3), 0, none, (.op (.mov (.t 0)))⟩,
    ⟨(some 4), 0, none, (.call (.k (.fn (.func 51) [] [])) [(.t 3), (.k (.d (.int .i64 16)))])⟩,
    ⟨(some 2), 0, none, (.op (.mov (.t 4)))⟩])
  (.ret))
theorem cc34 : Tryd.f34.body.bind (compC Tryd.prog) = some ac34 := by kernel_rfl
theorem go34 {vals : List V} {v : V} (ac : AC) (he : ac.erase = ac34) (hw : wpC Tryd.prog 0 ac (retQ [.tmp 2] v) ⟨vals ++ List.replicate (5 - vals.length) (.tup []), []⟩) : CallP Tryd.prog 34 vals v :=
  call_of Tryd.func34 rfl rfl rfl (cc34.trans (congrArg some he.symm)) hw
theorem gi34 {vals : List V} {rows : Go.Vx.Rows} {K : V → Go.Vx.Rows → Prop} (ac : AC) (he : ac.erase = ac34) (hw : wpC Tryd.prog rows.length ac (retI [.tmp 2] K) ⟨vals ++ List.replicate (5 - vals.length) (.tup []), rows⟩) : InlP Tryd.prog 34 vals rows K :=
  inl_of' Tryd.func34 rfl rfl rfl (cc34.trans (congrArg some he.symm)) hw
theorem gm34 {vals : List V} {v : V} {sz : Nat} {es es' : List (List V)} (ac : AC) (he : ac.erase = ac34) (hw : wpC Tryd.prog 1 ac (retM [.tmp 2] v sz es') ⟨vals ++ List.replicate (5 - vals.length) (.tup []), [.live sz es]⟩) : CallM Tryd.prog 34 vals sz es v es' :=
  callM_of' Tryd.func34 rfl rfl rfl (cc34.trans (congrArg some he.symm)) hw

/-- testbench/hash.Hash -/
def ac35 : AC :=
  .seq (.reg 0 [⟨(some 2), 0, none, (.op (.mov (.k (.d (.int .u64 0)))))⟩])
  (.seq (.reg 0 [⟨(some 3), 0, none, (.op (.mov (.k (.d (.int .u64 14695981039346656037)))))⟩])
  (.seq (.seq (.reg 0 [⟨(some 5), 0, none, (.op (.mov (.t 0)))⟩,
    ⟨(some 6), 0, none, (.op (.len true (.t 5)))⟩,
    ⟨(some 7), 0, none, (.op (.mov (.k (.d (.int .i64 0)))))⟩])
  (.block 0
   (.loop
    (.seq (.reg 0 [⟨(some 8), 0, none, (.op (.bin .lss (.t 7) (.t 6)))⟩])
    (.seq (.cond (.t 8)
      (.skip)
      (.exit 0))
    (.seq (.block 1
     (.seq (.reg 0 [⟨(some 9), 0, none, (.op (.mov (.t 7)))⟩,
       ⟨(some 4), 0, none, (.op (.mov (.t 9)))⟩])
     (.reg 0 [⟨(some 10), 0, none, (.op (.mov (.t 3)))⟩,
       ⟨(some 11), 0, none, (.op (.mov (.t 0)))⟩,
       ⟨(some 12), 0, none, (.op (.mov (.t 4)))⟩,
       ⟨(some 13), 0, none, (.op (.idxS (.t 11) (.t 12)))⟩,
       ⟨(some 14), 0, none, (.op (.conv .u64 (.t 13)))⟩,
       ⟨(some 15), 0, none, (.op (.bin .xor (.t 10) (.t 14)))⟩,
       ⟨(some 16), 0, none, (.op (.bin .mul (.t 15) (.k (.d (.int .u64 1099511628211)))))⟩,
       ⟨(some 3), 0, none, (.op (.mov (.t 16)))⟩])))
    (.reg 0 [⟨(some 17), 0, none, (.op (.bin .add (.t 7) (.k (.d (.int .i64 1)))))⟩,
      ⟨(some 7), 0, none, (.op (.mov (.t 17)))⟩])))))))
  (.seq (.reg 0 [⟨(some 18), 0, none, (.op (.mov (.t 3)))⟩,
    ⟨(some 2), 0, none, (.op (.mov (.t 18)))⟩])
  (.ret))))
theorem cc35 : Tryd.f35.body.bind (compC Tryd.prog) = some ac35 := by kernel_rfl
theorem go35 {vals : List V} {v : V} (ac : AC) (he : ac.erase = ac35) (hw : wpC Tryd.prog 0 ac (retQ [.tmp 2] v) ⟨vals ++ List.replicate (19 - vals.length) (.tup []), []⟩) : CallP Tryd.prog 35 vals v :=
  call_of Tryd.func35 rfl rfl rfl (cc35.trans (congrArg some he.symm)) hw
theorem gi35 {vals : List V} {rows : Go.Vx.Rows} {K : V → Go.Vx.Rows → Prop} (ac : AC) (he : ac.erase = ac35) (hw : wpC Tryd.prog rows.length ac (retI [.tmp 2] K) ⟨vals ++ List.replicate (19 - vals.length) (.tup []), rows⟩) : InlP Tryd.prog 35 vals rows K :=
  inl_of' Tryd.func35 rfl rfl rfl (cc35.trans (congrArg some he.symm)) hw
theorem gm35 {vals : List V} {v : V} {sz : Nat} {es es' : List (List V)} (ac : AC) (he : ac.erase = ac35) (hw : wpC Tryd.prog 1 ac (retM [.tmp 2] v sz es') ⟨vals ++ List.replicate (19 - vals.length) (.tup []), [.live sz es]⟩) : CallM Tryd.prog 35 vals sz es v es' :=
  callM_of' Tryd.func35 rfl rfl rfl (cc35.trans (congrArg some he.symm)) hw

/-- testbench/sign.sort -/
def ac36 : AC :=
  .seq (.reg 0 [⟨(some 2), 0, none, (.op (.mov (.k (.d (.str [])))))⟩])
  (.seq (.seq (.reg 0 [⟨(some 4), 0, none, (.op (.mov (.t 0)))⟩,
    ⟨(some 5), 0, none, (.call (.k (.fn (.func 11) [] [])) [(.t 4)])⟩,
    ⟨(some 3), 0, none, (.op (.mov (.t 5)))⟩])
  (.seq (.reg 0 [⟨(some 6), 0, none, (.op (.mov (.t 3)))⟩,
    ⟨(some 7), 0, none, (.call (.k (.fn (.func 42) [] [])) [(.t 6)])⟩])
  (.cond (.t 7)
    (.seq (.reg 0 [⟨(some 8), 0, none, (.op (.mov (.t 3)))⟩,
      ⟨(some 2), 0, none, (.op (.mov (.t 8)))⟩])
    (.ret))
    (.skip))))
  (.seq (.reg 0 [⟨(some 9), 0, none, (.op (.mov (.t 0)))⟩,
    ⟨(some 2), 0, none, (.op (.mov (.t 9)))⟩])
  (.ret)))
theorem cc36 : Tryd.f36.body.bind (compC Tryd.prog) = some ac36 := by kernel_rfl
theorem go36 {vals : List V} {v : V} (ac : AC) (he : ac.erase = ac36) (hw : wpC Tryd.prog 0 ac (retQ [.tmp 2] v) ⟨vals ++ List.replicate (10 - vals.length) (.tup []), []⟩) : CallP Tryd.prog 36 vals v :=
  call_of Tryd.func36 rfl rfl rfl (cc36.trans (congrArg some he.symm)) hw
theorem gi36 {vals : List V} {rows : Go.Vx.Rows} {K : V → Go.Vx.Rows → Prop} (ac : AC) (he : ac.erase = ac36) (hw : wpC Tryd.prog rows.length ac (retI [.tmp 2] K) ⟨vals ++ List.replicate (10 - vals.length) (.tup []), rows⟩) : InlP Tryd.prog 36 vals rows K :=
  inl_of' Tryd.func36 rfl rfl rfl (cc36.trans (congrArg some he.symm)) hw
theorem gm36 {vals : List V} {v : V} {sz : Nat} {es es' : List (List V)} (ac : AC) (he : ac.erase = ac36) (hw : wpC Tryd.prog 1 ac (retM [.tmp 2] v sz es') ⟨vals ++ List.replicate (10 - vals.length) (.tup []), [.live sz es]⟩) : CallM Tryd.prog 36 vals sz es v es' :=
  callM_of' Tryd.func36 rfl rfl rfl (cc36.trans (congrArg some he.symm)) hw

/-- testbench/testbenchref54.failed -/
def ac37 : AC :=
  .seq (.reg 1 [⟨(some 1), 0, none, (.op (.box 11 (.t 0)))⟩,
    ⟨(some 2), 1, none, (.op (.mov (.k (.d (.bool false)))))⟩])
  (.seq (.reg 0 [⟨(some 3), 0, none, (.op (.load true 11 (.t 1)))⟩,
    ⟨(some 4), 0, none, (.call (.k (.fn (.func 14) [] [])) [(.t 3)])⟩,
    ⟨(some 5), 0, none, (.op (.mov (.t 4)))⟩,
    ⟨(some 6), 0, (some (5, true)), (.op (.fldA 3 (.t 1)))⟩,
    ⟨(some 7), 0, (some (5, true)), (.op (.load false 1 (.t 6)))⟩,
    ⟨(some 8), 0, (some (5, true)), (.op (.bin .neq (.t 7) (.k (.d (.str [])))))⟩,
    ⟨(some 9), 0, none, (.op (.pick (.t 5) (.t 8) (.k (.d (.bool false)))))⟩,
    ⟨(some 2), 0, none, (.op (.mov (.t 9)))⟩])
  (.ret))
theorem cc37 : Tryd.f37.body.bind (compC Tryd.prog) = some ac37 := by kernel_rfl
theorem go37 {vals : List V} {v : V} (ac : AC) (he : ac.erase = ac37) (hw : wpC Tryd.prog 0 ac (retQ [.tmp 2] v) ⟨vals ++ List.replicate (10 - vals.length) (.tup []), []⟩) : CallP Tryd.prog 37 vals v :=
  call_of Tryd.func37 rfl rfl rfl (cc37.trans (congrArg some he.symm)) hw
theorem gi37 {vals : List V} {rows : Go.Vx.Rows} {K : V → Go.Vx.Rows → Prop} (ac : AC) (he : ac.erase = ac37) (hw : wpC Tryd.prog rows.length ac (retI [.tmp 2] K) ⟨vals ++ List.replicate (10 - vals.length) (.tup []), rows⟩) : InlP Tryd.prog 37 vals rows K :=
  inl_of' Tryd.func37 rfl rfl rfl (cc37.trans (congrArg some he.symm)) hw
theorem gm37 {vals : List V} {v : V} {sz : Nat} {es es' : List (List V)} (ac : AC) (he : ac.erase = ac37) (hw : wpC Tryd.prog 1 ac (retM [.tmp 2] v sz es') ⟨vals ++ List.replicate (10 - vals.length) (.tup []), [.live sz es]⟩) : CallM Tryd.prog 37 vals sz es v es' :=
  callM_of' Tryd.func37 rfl rfl rfl (cc37.trans (congrArg some he.symm)) hw

/-- testbench/testbenchref04.Hex -/
def ac38 : AC :=
  .seq (.reg 0 [⟨(some 2), 0, none, (.op (.mov (.k (.d (.str [])))))⟩])
  (.seq (.reg 0 [⟨(some 3), 0, none, (.op (.mov (.t 0)))⟩,
    ⟨(some 4), 0, none, (.call (.k (.fn (.func 52) [] [])) [(.t 3), (.k (.d (.int .i64 16)))])⟩,
    ⟨(some 2), 0, none, (.op (.mov (.t 4)))⟩])
  (.ret))
theorem cc38 : Tryd.f38.body.bind (compC Tryd.prog) = some ac38 := by kernel_rfl
theorem go38 {vals : List V} {v : V} (ac : AC) (he : ac.erase = ac38) (hw : wpC Tryd.prog 0 ac (retQ [.tmp 2] v) ⟨vals ++ List.replicate (5 - vals.length) (.tup []), []⟩) : CallP Tryd.prog 38 vals v :=
  call_of Tryd.func38 rfl rfl rfl (cc38.trans (congrArg some he.symm)) hw
theorem gi38 {vals : List V} {rows : Go.Vx.Rows} {K : V → Go.Vx.Rows → Prop} (ac : AC) (he : ac.erase = ac38) (hw : wpC Tryd.prog rows.length ac (retI [.tmp 2] K) ⟨vals ++ List.replicate (5 - vals.length) (.tup []), rows⟩) : InlP Tryd.prog 38 vals rows K :=
  inl_of' Tryd.func38 rfl rfl rfl (cc38.trans (congrArg some he.symm)) hw
theorem gm38 {vals : List V} {v : V} {sz : Nat} {es es' : List (List V)} (ac : AC) (he : ac.erase = ac38) (hw : wpC Tryd.prog 1 ac (retM [.tmp 2] v sz es') ⟨vals ++ List.replicate (5 - vals.length) (.tup []), [.live sz es]⟩) : CallM Tryd.prog 38 vals sz es v es' :=
  callM_of' Tryd.func38 rfl rfl rfl (cc38.trans (congrArg some he.symm)) hw

/-- testbench/testbenchref04.Hash -/
def ac39 : AC :=
  .seq (.reg 0 [⟨(some 2), 0, none, (.op (.mov (.k (.d (.int .u64 0)))))⟩])
  (.seq (.reg 0 [⟨(some 3), 0, none, (.op (.mov (.k (.d (.int .u64 14695981039346656037)))))⟩])
  (.seq (.seq (.reg 0 [⟨(some 4), 0, none, (.op (.mov (.k (.d (.int .i64 0)))))⟩])
  (.block 0
   (.loop
    (.seq (.seq (.reg 0 [⟨(some 5), 0, none, (.op (.mov (.t 4)))⟩,
      ⟨(some 6), 0, none, (.op (.mov (.t 0)))⟩,
      ⟨(some 7), 0, none, (.op (.len true (.t 6)))⟩,
      ⟨(some 8), 0, none, (.op (.bin .lss (.t 5) (.t 7)))⟩])
    (.cond (.t 8)
      (.skip)
      (.exit 0)))
    (.seq (.block 1
     (.reg 0 [⟨(some 11), 0, none, (.op (.mov (.t 3)))⟩,
       ⟨(some 12), 0, none, (.op (.mov (.t 0)))⟩,
       ⟨(some 13), 0, none, (.op (.mov (.t 4)))⟩,
       ⟨(some 14), 0, none, (.op (.idxS (.t 12) (.t 13)))⟩,
       ⟨(some 15), 0, none, (.op (.conv .u64 (.t 14)))⟩,
       ⟨(some 16), 0, none, (.op (.bin .xor (.t 11) (.t 15)))⟩,
       ⟨(some 17), 0, none, (.op (.bin .mul (.t 16) (.k (.d (.int .u64 1099511628211)))))⟩,
       ⟨(some 3), 0, none, (.op (.mov (.t 17)))⟩]))
    (.reg 0 [⟨(some 9), 0, none, (.op (.mov (.t 4)))⟩,
      ⟨(some 10), 0, none, (.op (.bin .add (.t 9) (.k (.d (.int .i64 1)))))⟩,
      ⟨(some 4), 0, none, (.op (.mov (.t 10)))⟩]))))))
  (.seq (.reg 0 [⟨(some 18), 0, none, (.op (.mov (.t 3)))⟩,
    ⟨(some 2), 0, none, (.op (.mov (.t 18)))⟩])
  (.ret))))
theorem cc39 : Tryd.f39.body.bind (compC Tryd.prog) = some ac39 := by kernel_rfl
theorem go39 {vals : List V} {v : V} (ac : AC) (he : ac.erase = ac39) (hw : wpC Tryd.prog 0 ac (retQ [.tmp 2] v) ⟨vals ++ List.replicate (19 - vals.length) (.tup []), []⟩) : CallP Tryd.prog 39 vals v :=
  call_of Tryd.func39 rfl rfl rfl (cc39.trans (congrArg some he.symm)) hw
theorem gi39 {vals : List V} {rows : Go.Vx.Rows} {K : V → Go.Vx.Rows → Prop} (ac : AC) (he : ac.erase = ac39) (hw : wpC Tryd.prog rows.length ac (retI [.tmp 2] K) ⟨vals ++ List.replicate (19 - vals.length) (.tup []), rows⟩) : InlP Tryd.prog 39 vals rows K :=
  inl_of' Tryd.func39 rfl rfl rfl (cc39.trans (congrArg some he.symm)) hw
theorem gm39 {vals : List V} {v : V} {sz : Nat} {es es' : List (List V)} (ac : AC) (he : ac.erase = ac39) (hw : wpC Tryd.prog 1 ac (retM [.tmp 2] v sz es') ⟨vals ++ List.replicate (19 - vals.length) (.tup []), [.live sz es]⟩) : CallM Tryd.prog 39 vals sz es v es' :=
  callM_of' Tryd.func39 rfl rfl rfl (cc39.trans (congrArg some he.symm)) hw

/-- testbench/testbenchref54.Sort -/
def ac40 : AC :=
  .seq (.reg 0 [⟨(some 2), 0, none, (.op (.mov (.k (.d (.str [])))))⟩])
  (.seq (.reg 0 [⟨(some 7), 0, none, (.op (.mov (.t 0)))⟩,
    ⟨(some 8), 0, none, (.call (.k (.fn (.func 28) [] [])) [(.t 7)])⟩,
    ⟨(some 6), 0, none, (.op (.mov (.t 8)))⟩,
    ⟨(some 9), 0, none, (.op (.ext (.t 6) 0))⟩,
    ⟨(some 10), 0, none, (.op (.ext (.t 6) 1))⟩,
    ⟨(some 11), 0, none, (.op (.ext (.t 6) 2))⟩,
    ⟨(some 3), 0, none, (.op (.mov (.t 9)))⟩,
    ⟨(some 4), 0, none, (.op (.mov (.t 10)))⟩,
    ⟨(some 5), 0, none, (.op (.mov (.t 11)))⟩])
  (.seq (.seq (.reg 0 [⟨(some 12), 0, none, (.op (.mov (.t 3)))⟩,
    ⟨(some 13), 0, none, (.call (.k (.fn (.func 45) [] [])) [(.t 12)])⟩])
  (.cond (.t 13)
    (.seq (.reg 0 [⟨(some 14), 0, none, (.op (.mov (.t 3)))⟩,
      ⟨(some 2), 0, none, (.op (.mov (.t 14)))⟩])
    (.ret))
    (.skip)))
  (.seq (.reg 0 [⟨(some 15), 0, none, (.op (.mov (.t 0)))⟩,
    ⟨(some 2), 0, none, (.op (.mov (.t 15)))⟩])
  (.ret))))
theorem cc40 : Tryd.f40.body.bind (compC Tryd.prog) = some ac40 := by kernel_rfl
theorem go40 {vals : List V} {v : V} (ac : AC) (he : ac.erase = ac40) (hw : wpC Tryd.prog 0 ac (retQ [.tmp 2] v) ⟨vals ++ List.replicate (16 - vals.length) (.tup []), []⟩) : CallP Tryd.prog 40 vals v :=
  call_of Tryd.func40 rfl rfl rfl (cc40.trans (congrArg some he.symm)) hw
theorem gi40 {vals : List V} {rows : Go.Vx.Rows} {K : V → Go.Vx.Rows → Prop} (ac : AC) (he : ac.erase = ac40) (hw : wpC Tryd.prog rows.length ac (retI [.tmp 2] K) ⟨vals ++ List.replicate (16 - vals.length) (.tup []), rows⟩) : InlP Tryd.prog 40 vals rows K :=
  inl_of' Tryd.func40 rfl rfl rfl (cc40.trans (congrArg some he.symm)) hw
theorem gm40 {vals : List V} {v : V} {sz : Nat} {es es' : List (List V)} (ac : AC) (he : ac.erase = ac40) (hw : wpC Tryd.prog 1 ac (retM [.tmp 2] v sz es') ⟨vals ++ List.replicate (16 - vals.length) (.tup []), [.live sz es]⟩) : CallM Tryd.prog 40 vals sz es v es' :=
  callM_of' Tryd.func40 rfl rfl rfl (cc40.trans (congrArg some he.symm)) hw

/-- strings.Cut -/
def ac41 : AC :=
  .seq (.reg 0 [⟨(some 4), 0, none, (.op (.mov (.k (.d (.str [])))))⟩,
    ⟨(some 5), 0, none, (.op (.mov (.k (.d (.str [])))))⟩,
    ⟨(some 6), 0, none, (.op (.mov (.k (.d (.bool false)))))⟩])
  (.seq (.reg 0 [⟨(some 7), 0, none, (.op (.mov (.t 0)))⟩,
    ⟨(some 8), 0, none, (.op (.mov (.t 1)))⟩,
    ⟨(some 9), 0, none, (.call (.k (.fn (.func 53) [] [])) [(.t 7), (.t 8)])⟩,
    ⟨(some 10), 0, none, (.op (.ext (.t 9) 0))⟩,
    ⟨(some 11), 0, none, (.op (.ext (.t 9) 1))⟩,
    ⟨(some 12), 0, none, (.op (.ext (.t 9) 2))⟩,
    ⟨(some 4), 0, none, (.op (.mov (.t 10)))⟩,
    ⟨(some 5), 0, none, (.op (.mov (.t 11)))⟩,
    ⟨(some 6), 0, none, (.op (.mov (.t 12)))⟩])
  (.ret))
theorem cc41 : Tryd.f41.body.bind (compC Tryd.prog) = some ac41 := by kernel_rfl
theorem go41 {vals : List V} {v : V} (ac : AC) (he : ac.erase = ac41) (hw : wpC Tryd.prog 0 ac (retQ [.tmp 4, .tmp 5, .tmp 6] v) ⟨vals ++ List.replicate (13 - vals.length) (.tup []), []⟩) : CallP Tryd.prog 41 vals v :=
  call_of Tryd.func41 rfl rfl rfl (cc41.trans (congrArg some he.symm)) hw
theorem gi41 {vals : List V} {rows : Go.Vx.Rows} {K : V → Go.Vx.Rows → Prop} (ac : AC) (he : ac.erase = ac41) (hw : wpC Tryd.prog rows.length ac (retI [.tmp 4, .tmp 5, .tmp 6] K) ⟨vals ++ List.replicate (13 - vals.length) (.tup []), rows⟩) : InlP Tryd.prog 41 vals rows K :=
  inl_of' Tryd.func41 rfl rfl rfl (cc41.trans (congrArg some he.symm)) hw
theorem gm41 {vals : List V} {v : V} {sz : Nat} {es es' : List (List V)} (ac : AC) (he : ac.erase = ac41) (hw : wpC Tryd.prog 1 ac (retM [.tmp 4, .tmp 5, .tmp 6] v sz es') ⟨vals ++ List.replicate (13 - vals.length) (.tup []), [.live sz es]⟩) : CallM Tryd.prog 41 vals sz es v es' :=
  callM_of' Tryd.func41 rfl rfl rfl (cc41.trans (congrArg some he.symm)) hw

/-- testbench/sign.numbered -/
def ac42 : AC :=
  .seq (.reg 0 [⟨(some 2), 0, none, (.op (.mov (.k (.d (.bool false)))))⟩])
  (.seq (.reg 0 [⟨(some 3), 0, none, (.op (.mov (.t 0)))⟩,
    ⟨(some 4), 0, none, (.op (.bin .eql (.t 3) (.k (.d (.str [109, 105, 115, 109, 97, 116, 99, 104])))))⟩,
    ⟨(some 5), 0, none, (.op (.mov (.t 4)))⟩,
    ⟨(some 6), 0, (some (5, false)), (.op (.mov (.t 0)))⟩,
    ⟨(some 7), 0, (some (5, false)), (.op (.bin .eql (.t 6) (.k (.d (.str [101, 120, 116, 114, 97])))))⟩,
    ⟨(some 8), 0, none, (.op (.pick (.t 5) (.k (.d (.bool true))) (.t 7)))⟩,
    ⟨(some 9), 0, none, (.op (.mov (.t 8)))⟩,
    ⟨(some 10), 0, (some (9, false)), (.op (.mov (.t 0)))⟩,
    ⟨(some 11), 0, (some (9, false)), (.op (.bin .eql (.t 10) (.k (.d (.str [108, 111, 115, 116])))))⟩,
    ⟨(some 12), 0, none, (.op (.pick (.t 9) (.k (.d (.bool true))) (.t 11)))⟩,
    ⟨(some 2), 0, none, (.op (.mov (.t 12)))⟩])
  (.ret))
theorem cc42 : Tryd.f42.body.bind (compC Tryd.prog) = some ac42 := by kernel_rfl
theorem go42 {vals : List V} {v : V} (ac : AC) (he : ac.erase = ac42) (hw : wpC Tryd.prog 0 ac (retQ [.tmp 2] v) ⟨vals ++ List.replicate (13 - vals.length) (.tup []), []⟩) : CallP Tryd.prog 42 vals v :=
  call_of Tryd.func42 rfl rfl rfl (cc42.trans (congrArg some he.symm)) hw
theorem gi42 {vals : List V} {rows : Go.Vx.Rows} {K : V → Go.Vx.Rows → Prop} (ac : AC) (he : ac.erase = ac42) (hw : wpC Tryd.prog rows.length ac (retI [.tmp 2] K) ⟨vals ++ List.replicate (13 - vals.length) (.tup []), rows⟩) : InlP Tryd.prog 42 vals rows K :=
  inl_of' Tryd.func42 rfl rfl rfl (cc42.trans (congrArg some he.symm)) hw
theorem gm42 {vals : List V} {v : V} {sz : Nat} {es es' : List (List V)} (ac : AC) (he : ac.erase = ac42) (hw : wpC Tryd.prog 1 ac (retM [.tmp 2] v sz es') ⟨vals ++ List.replicate (13 - vals.length) (.tup []), [.live sz es]⟩) : CallM Tryd.prog 42 vals sz es v es' :=
  callM_of' Tryd.func42 rfl rfl rfl (cc42.trans (congrArg some he.symm)) hw

/-- testbench/sign.count -/
def ac43 : AC :=
  .seq (.reg 0 [⟨(some 2), 0, none, (.op (.mov (.k (.d (.bool false)))))⟩])
  (.seq (.reg 0 [⟨(some 6), 0, none, (.op (.mov (.t 0)))⟩,
    ⟨(some 7), 0, none, (.call (.k (.fn (.func 54) [] [])) [(.t 6)])⟩,
    ⟨(some 5), 0, none, (.op (.mov (.t 7)))⟩,
    ⟨(some 8), 0, none, (.op (.ext (.t 5) 0))⟩,
    ⟨(some 9), 0, none, (.op (.ext (.t 5) 1))⟩,
    ⟨(some 3), 0, none, (.op (.mov (.t 8)))⟩,
    ⟨(some 4), 0, none, (.op (.mov (.t 9)))⟩])
  (.seq (.reg 0 [⟨(some 10), 0, none, (.op (.mov (.t 4)))⟩,
    ⟨(some 11), 0, none, (.op (.bin .eql (.t 10) (.k (.d (.int .i64 0)))))⟩,
    ⟨(some 12), 0, none, (.op (.mov (.t 11)))⟩,
    ⟨(some 13), 0, (some (12, true)), (.op (.mov (.t 3)))⟩,
    ⟨(some 14), 0, (some (12, true)), (.call (.k (.fn (.func 30) [] [])) [(.t 13)])⟩,
    ⟨(some 15), 0, none, (.op (.pick (.t 12) (.t 14) (.k (.d (.bool false)))))⟩,
    ⟨(some 2), 0, none, (.op (.mov (.t 15)))⟩])
  (.ret)))
theorem cc43 : Tryd.f43.body.bind (compC Tryd.prog) = some ac43 := by kernel_rfl
theorem go43 {vals : List V} {v : V} (ac : AC) (he : ac.erase = ac43) (hw : wpC Tryd.prog 0 ac (retQ [.tmp 2] v) ⟨vals ++ List.replicate (16 - vals.length) (.tup []), []⟩) : CallP Tryd.prog 43 vals v :=
  call_of Tryd.func43 rfl rfl rfl (cc43.trans (congrArg some he.symm)) hw
theorem gi43 {vals : List V} {rows : Go.Vx.Rows} {K : V → Go.Vx.Rows → Prop} (ac : AC) (he : ac.erase = ac43) (hw : wpC Tryd.prog rows.length ac (retI [.tmp 2] K) ⟨vals ++ List.replicate (16 - vals.length) (.tup []), rows⟩) : InlP Tryd.prog 43 vals rows K :=
  inl_of' Tryd.func43 rfl rfl rfl (cc43.trans (congrArg some he.symm)) hw
theorem gm43 {vals : List V} {v : V} {sz : Nat} {es es' : List (List V)} (ac : AC) (he : ac.erase = ac43) (hw : wpC Tryd.prog 1 ac (retM [.tmp 2] v sz es') ⟨vals ++ List.replicate (16 - vals.length) (.tup []), [.live sz es]⟩) : CallM Tryd.prog 43 vals sz es v es' :=
  callM_of' Tryd.func43 rfl rfl rfl (cc43.trans (congrArg some he.symm)) hw

/-- testbench/testbenchref01.Parse -/
def ac44 : AC :=
  .seq (.reg 0 [⟨(some 2), 0, none, (.op (.mov (.k (.d (.int .i64 0)))))⟩,
    ⟨(some 3), 0, none, (.op (.mov (.k (.d (.int .i64 0)))))⟩])
  (.seq (.reg 0 [⟨(some 12), 0, none, (.op (.mov (.t 0)))⟩,
    ⟨(some 4), 0, none, (.op (.mov (.t 12)))⟩])
  (.seq (.reg 0 [⟨(some 13), 0, none, (.op (.mov (.t 0)))⟩,
    ⟨(some 14), 0, none, (.op (.len true (.t 13)))⟩,
    ⟨(some 15), 0, none, (.op (.bin .gtr (.t 14) (.k (.d (.int .i64 0)))))⟩,
    ⟨(some 16), 0, none, (.op (.mov (.t 15)))⟩,
    ⟨(some 17), 0, (some (16, true)), (.op (.mov (.t 0)))⟩,
    ⟨(some 18), 0, (some (16, true)), (.op (.idxS (.t 17) (.k (.d (.int .i64 0)))))⟩,
    ⟨(some 19), 0, (some (16, true)), (.op (.bin .eql (.t 18) (.k (.d (.int .u8 45)))))⟩,
    ⟨(some 20), 0, none, (.op (.pick (.t 16) (.t 19) (.k (.d (.bool false)))))⟩,
    ⟨(some 5), 0, none, (.op (.mov (.t 20)))⟩])
  (.seq (.seq (.reg 0 [⟨(some 21), 0, none, (.op (.mov (.t 5)))⟩])
  (.cond (.t 21)
    (.reg 0 [⟨(some 22), 0, none, (.op (.mov (.t 0)))⟩,
      ⟨(some 23), 0, none, (.op (.slice 0 (.t 22) (some (.k (.d (.int .i64 1)))) none))⟩,
      ⟨(some 4), 0, none, (.op (.mov (.t 23)))⟩])
    (.skip)))
  (.seq (.seq (.reg 0 [⟨(some 24), 0, none, (.op (.mov (.t 4)))⟩,
    ⟨(some 25), 0, none, (.call (.k (.fn (.func 55) [] [])) [(.t 24)])⟩,
    ⟨(some 26), 0, none, (.op (.un .not (.t 25)))⟩,
    ⟨(some 27), 0, none, (.op (.mov (.t 26)))⟩,
    ⟨(some 28), 0, (some (27, false)), (.op (.mov (.t 4)))⟩,
    ⟨(some 29), 0, (some (27, false)), (.op (.idxS (.t 28) (.k (.d (.int .i64 0)))))⟩,
    ⟨(some 30), 0, (some (27, false)), (.op (.bin .eql (.t 29) (.k (.d (.int .u8 48)))))⟩,
    ⟨(some 31), 0, (some (27, false)), (.op (.mov (.t 30)))⟩,
    ⟨(some 32), 0, (some (31, true)), (.op (.mov (.t 0)))⟩,
    ⟨(some 33), 0, (some (31, true)), (.op (.bin .neq (.t 32) (.k (.d (.str [48])))))⟩,
    ⟨(some 34), 0, (some (27, false)), (.op (.pick (.t 31) (.t 33) (.k (.d (.bool false)))))⟩,
    ⟨(some 35), 0, none, (.op (.pick (.t 27) (.k (.d (.bool true))) (.t 34)))⟩])
  (.cond (.t 35)
    (.seq (.reg 0 [⟨(some 2), 0, none, (.op (.mov (.k (.d (.int .i64 0)))))⟩,
      ⟨(some 3), 0, none, (.op (.mov (.k (.d (.int .i64 5)))))⟩])
    (.ret))
    (.skip)))
  (.seq (.reg 0 [⟨(some 6), 0, none, (.op (.mov (.k (.d (.int .i64 0)))))⟩])
  (.seq (.seq (.reg 0 [⟨(some 7), 0, none, (.op (.mov (.k (.d (.int .i64 0)))))⟩])
  (.block 0
   (.loop
    (.seq (.seq (.reg 0 [⟨(some 36), 0, none, (.op (.mov (.t 7)))⟩,
      ⟨(some 37), 0, none, (.op (.mov (.t 4)))⟩,
      ⟨(some 38), 0, none, (.op (.len true (.t 37)))⟩,
      ⟨(some 39), 0, none, (.op (.bin .lss (.t 36) (.t 38)))⟩])
    (.cond (.t 39)
      (.skip)
      (.exit 0)))
    (.seq (.block 1
     (.seq (.reg 0 [⟨(some 43), 0, none, (.op (.mov (.t 6)))⟩,
       ⟨(some 44), 0, none, (.call (.k (.fn (.func 56) [] [])) [(.t 43), (.k (.d (.int .i64 10)))])⟩,
       ⟨(some 42), 0, none, (.op (.mov (.t 44)))⟩,
       ⟨(some 45), 0, none, (.op (.ext (.t 42) 0))⟩,
       ⟨(some 46), 0, none, (.op (.ext (.t 42) 1))⟩,
       ⟨(some 8), 0, none, (.op (.mov (.t 45)))⟩,
       ⟨(some 9), 0, none, (.op (.mov (.t 46)))⟩])
     (.seq (.reg 0 [⟨(some 48), 0, none, (.op (.mov (.t 8)))⟩,
       ⟨(some 49), 0, none, (.op (.mov (.t 4)))⟩,
       ⟨(some 50), 0, none, (.op (.mov (.t 7)))⟩,
       ⟨(some 51), 0, none, (.op (.idxS (.t 49) (.t 50)))⟩,
       ⟨(some 52), 0, none, (.op (.bin .sub (.t 51) (.k (.d (.int .u8 48)))))⟩,
       ⟨(some 53), 0, none, (.op (.conv .i64 (.t 52)))⟩,
       ⟨(some 54), 0, none, (.call (.k (.fn (.func 57) [] [])) [(.t 48), (.t 53)])⟩,
       ⟨(some 47), 0, none, (.op (.mov (.t 54)))⟩,
       ⟨(some 55), 0, none, (.op (.ext (.t 47) 0))⟩,
       ⟨(some 56), 0, none, (.op (.ext (.t 47) 1))⟩,
       ⟨(some 10), 0, none, (.op (.mov (.t 55)))⟩,
       ⟨(some 11), 0, none, (.op (.mov (.t 56)))⟩])
     (.seq (.seq (.reg 0 [⟨(some 57), 0, none, (.op (.mov (.t 9)))⟩,
       ⟨(some 58), 0, none, (.op (.bin .neq (.t 57) (.k (.d (.int .i64 0)))))⟩,
       ⟨(some 59), 0, none, (.op (.mov (.t 58)))⟩,
       ⟨(some 60), 0, (some (59, false)), (.op (.mov (.t 11)))⟩,
       ⟨(some 61), 0, (some (59, false)), (.op (.bin .neq (.t 60) (.k (.d (.int .i64 0)))))⟩,
       ⟨(some 62), 0, none, (.op (.pick (.t 59) (.k (.d (.bool true))) (.t 61)))⟩])
     (.cond (.t 62)
       (.seq (.reg 0 [⟨(some 2), 0, none, (.op (.mov (.k (.d (.int .i64 0)))))⟩,
         ⟨(some 3), 0, none, (.op (.mov (.k (.d (.int .i64 3)))))⟩])
       (.ret))
       (.skip)))
     (.reg 0 [⟨(some 63), 0, none, (.op (.mov (.t 10)))⟩,
       ⟨(some 6), 0, none, (.op (.mov (.t 63)))⟩])))))
    (.reg 0 [⟨(some 40), 0, none, (.op (.mov (.t 7)))⟩,
      ⟨(some 41), 0, none, (.op (.bin .add (.t 40) (.k (.d (.int .i64 1)))))⟩,
      ⟨(some 7), 0, none, (.op (.mov (.t 41)))⟩]))))))
  (.seq (.seq (.reg 0 [⟨(some 64), 0, none, (.op (.mov (.t 5)))⟩])
  (.cond (.t 64)
    (.seq (.reg 0 [⟨(some 65), 0, none, (.op (.mov (.t 6)))⟩,
      ⟨(some 2), 0, none, (.op (.mov (.t 65)))⟩,
      ⟨(some 3), 0, none, (.op (.mov (.k (.d (.int .i64 0)))))⟩])
    (.ret))
    (.skip)))
  (.seq (.reg 0 [⟨(some 66), 0, none, (.op (.mov (.t 6)))⟩,
    ⟨(some 67), 0, none, (.call (.k (.fn (.func 57) [] [])) [(.k (.d (.int .i64 0))), (.t 66)])⟩,
    ⟨(some 68), 0, none, (.op (.ext (.t 67) 0))⟩,
    ⟨(some 69), 0, none, (.op (.ext (.t 67) 1))⟩,
    ⟨(some 2), 0, none, (.op (.mov (.t 68)))⟩,
    ⟨(some 3), 0, none, (.op (.mov (.t 69)))⟩])
  (.ret)))))))))
theorem cc44 : Tryd.f44.body.bind (compC Tryd.prog) = some ac44 := by kernel_rfl
theorem go44 {vals : List V} {v : V} (ac : AC) (he : ac.erase = ac44) (hw : wpC Tryd.prog 0 ac (retQ [.tmp 2, .tmp 3] v) ⟨vals ++ List.replicate (70 - vals.length) (.tup []), []⟩) : CallP Tryd.prog 44 vals v :=
  call_of Tryd.func44 rfl rfl rfl (cc44.trans (congrArg some he.symm)) hw
theorem gi44 {vals : List V} {rows : Go.Vx.Rows} {K : V → Go.Vx.Rows → Prop} (ac : AC) (he : ac.erase = ac44) (hw : wpC Tryd.prog rows.length ac (retI [.tmp 2, .tmp 3] K) ⟨vals ++ List.replicate (70 - vals.length) (.tup []), rows⟩) : InlP Tryd.prog 44 vals rows K :=
  inl_of' Tryd.func44 rfl rfl rfl (cc44.trans (congrArg some he.symm)) hw
theorem gm44 {vals : List V} {v : V} {sz : Nat} {es es' : List (List V)} (ac : AC) (he : ac.erase = ac44) (hw : wpC Tryd.prog 1 ac (retM [.tmp 2, .tmp 3] v sz es') ⟨vals ++ List.replicate (70 - vals.length) (.tup []), [.live sz es]⟩) : CallM Tryd.prog 44 vals sz es v es' :=
  callM_of' Tryd.func44 rfl rfl rfl (cc44.trans (congrArg some he.symm)) hw

/-- testbench/testbenchref54.numbered -/
def ac45 : AC :=
  .seq (.reg 0 [⟨(some 2), 0, none, (.op (.mov (.k (.d (.bool false)))))⟩])
  (.seq (.reg 0 [⟨(some 3), 0, none, (.op (.mov (.t 0)))⟩,
    ⟨(some 4), 0, none, (.op (.bin .eql (.t 3) (.k (.d (.str [109, 105, 115, 109, 97, 116, 99, 104])))))⟩,
    ⟨(some 5), 0, none, (.op (.mov (.t 4)))⟩,
    ⟨(some 6), 0, (some (5, false)), (.op (.mov (.t 0)))⟩,
    ⟨(some 7), 0, (some (5, false)), (.op (.bin .eql (.t 6) (.k (.d (.str [101, 120, 116, 114, 97])))))⟩,
    ⟨(some 8), 0, none, (.op (.pick (.t 5) (.k (.d (.bool true))) (.t 7)))⟩,
    ⟨(some 9), 0, none, (.op (.mov (.t 8)))⟩,
    ⟨(some 10), 0, (some (9, false)), (.op (.mov (.t 0)))⟩,
    ⟨(some 11), 0, (some (9, false)), (.op (.bin .eql (.t 10) (.k (.d (.str [108, 111, 115, 116])))))⟩,
    ⟨(some 12), 0, none, (.op (.pick (.t 9) (.k (.d (.bool true))) (.t 11)))⟩,
    ⟨(some 2), 0, none, (.op (.mov (.t 12)))⟩])
  (.ret))
theorem cc45 : Tryd.f45.body.bind (compC Tryd.prog) = some ac45 := by kernel_rfl
theorem go45 {vals : List V} {v : V} (ac : AC) (he : ac.erase = ac45) (hw : wpC Tryd.prog 0 ac (retQ [.tmp 2] v) ⟨vals ++ List.replicate (13 - vals.length) (.tup []), []⟩) : CallP Tryd.prog 45 vals v :=
  call_of Tryd.func45 rfl rfl rfl (cc45.trans (congrArg some he.symm)) hw
theorem gi45 {vals : List V} {rows : Go.Vx.Rows} {K : V → Go.Vx.Rows → Prop} (ac : AC) (he : ac.erase = ac45) (hw : wpC Tryd.prog rows.length ac (retI [.tmp 2] K) ⟨vals ++ List.replicate (13 - vals.length) (.tup []), rows⟩) : InlP Tryd.prog 45 vals rows K :=
  inl_of' Tryd.func45 rfl rfl rfl (cc45.trans (congrArg some he.symm)) hw
theorem gm45 {vals : List V} {v : V} {sz : Nat} {es es' : List (List V)} (ac : AC) (he : ac.erase = ac45) (hw : wpC Tryd.prog 1 ac (retM [.tmp 2] v sz es') ⟨vals ++ List.replicate (13 - vals.length) (.tup []), [.live sz es]⟩) : CallM Tryd.prog 45 vals sz es v es' :=
  callM_of' Tryd.func45 rfl rfl rfl (cc45.trans (congrArg some he.symm)) hw

/-- testbench/lexer.word -/
def ac46 : AC :=
  .seq (.reg 0 [⟨(some 2), 0, none, (.op (.mov (.k (.d (.bool false)))))⟩])
  (.seq (.seq (.reg 1 [⟨(some 5), 0, none, (.op (.mov (.t 0)))⟩,
    ⟨(some 6), 0, none, (.op (.rng (.t 5)))⟩])
  (.block 0
   (.loop
    (.seq (.reg 0 [⟨(some 7), 0, none, (.op (.nxt (.t 6)))⟩,
      ⟨(some 8), 0, none, (.op (.ext (.t 7) 0))⟩])
    (.seq (.cond (.t 8)
      (.skip)
      (.exit 0))
    (.block 1
     (.seq (.reg 0 [⟨(some 9), 0, none, (.op (.ext (.t 7) 1))⟩,
       ⟨(some 10), 0, none, (.op (.ext (.t 7) 2))⟩,
       ⟨(some 3), 0, none, (.op (.mov (.t 9)))⟩,
       ⟨(some 4), 0, none, (.op (.mov (.t 10)))⟩])
     (.seq (.reg 0 [⟨(some 11), 0, none, (.op (.mov (.t 3)))⟩,
       ⟨(some 12), 0, none, (.op (.bin .eql (.t 11) (.k (.d (.int .i64 0)))))⟩,
       ⟨(some 13), 0, none, (.op (.mov (.t 12)))⟩,
       ⟨(some 14), 0, (some (13, true)), (.op (.mov (.t 4)))⟩,
       ⟨(some 15), 0, (some (13, true)), (.call (.k (.fn (.func 58) [] [])) [(.t 14)])⟩,
       ⟨(some 16), 0, (some (13, true)), (.op (.un .not (.t 15)))⟩,
       ⟨(some 17), 0, none, (.op (.pick (.t 13) (.t 16) (.k (.d (.bool false)))))⟩,
       ⟨(some 18), 0, none, (.op (.mov (.t 17)))⟩,
       ⟨(some 19), 0, (some (18, false)), (.op (.mov (.t 4)))⟩,
       ⟨(some 20), 0, (some (18, false)), (.call (.k (.fn (.func 59) [] [])) [(.t 19)])⟩,
       ⟨(some 21), 0, (some (18, false)), (.op (.un .not (.t 20)))⟩,
       ⟨(some 22), 0, none, (.op (.pick (.t 18) (.k (.d (.bool true))) (.t 21)))⟩])
     (.cond (.t 22)
       (.seq (.reg 0 [⟨(some 2), 0, none, (.op (.mov (.k (.d (.bool false)))))⟩])
       (.ret))
       (.skip))))))))))
  (.seq (.reg 0 [⟨(some 23), 0, none, (.op (.mov (.t 0)))⟩,
    ⟨(some 24), 0, none, (.op (.bin .neq (.t 23) (.k (.d (.str [])))))⟩,
    ⟨(some 2), 0, none, (.op (.mov (.t 24)))⟩])
  (.ret)))
theorem cc46 : Tryd.f46.body.bind (compC Tryd.prog) = some ac46 := by kernel_rfl
theorem go46 {vals : List V} {v : V} (ac : AC) (he : ac.erase = ac46) (hw : wpC Tryd.prog 0 ac (retQ [.tmp 2] v) ⟨vals ++ List.replicate (25 - vals.length) (.tup []), []⟩) : CallP Tryd.prog 46 vals v :=
  call_of Tryd.func46 rfl rfl rfl (cc46.trans (congrArg some he.symm)) hw
theorem gi46 {vals : List V} {rows : Go.Vx.Rows} {K : V → Go.Vx.Rows → Prop} (ac : AC) (he : ac.erase = ac46) (hw : wpC Tryd.prog rows.length ac (retI [.tmp 2] K) ⟨vals ++ List.replicate (25 - vals.length) (.tup []), rows⟩) : InlP Tryd.prog 46 vals rows K :=
  inl_of' Tryd.func46 rfl rfl rfl (cc46.trans (congrArg some he.symm)) hw
theorem gm46 {vals : List V} {v : V} {sz : Nat} {es es' : List (List V)} (ac : AC) (he : ac.erase = ac46) (hw : wpC Tryd.prog 1 ac (retM [.tmp 2] v sz es') ⟨vals ++ List.replicate (25 - vals.length) (.tup []), [.live sz es]⟩) : CallM Tryd.prog 46 vals sz es v es' :=
  callM_of' Tryd.func46 rfl rfl rfl (cc46.trans (congrArg some he.symm)) hw

/-- testbench/lexer.IsKeyword -/
def ac47 : AC :=
  .seq (.reg 0 [⟨(some 2), 0, none, (.op (.mov (.k (.d (.bool false)))))⟩])
  (.seq (.reg 0 [⟨(some 3), 0, none, (.op (.load false 1 (.k (.d (.ptr [kwD])))))⟩,
    ⟨(some 4), 0, none, (.op (.mov (.t 0)))⟩,
    ⟨(some 5), 0, none, (.call (.k (.fn (.func 60) [] [])) [(.t 3), (.t 4)])⟩,
    ⟨(some 2), 0, none, (.op (.mov (.t 5)))⟩])
  (.ret))
theorem cc47 : Tryd.f47.body.bind (compC Tryd.prog) = some ac47 := by kernel_rfl
theorem go47 {vals : List V} {v : V} (ac : AC) (he : ac.erase = ac47) (hw : wpC Tryd.prog 0 ac (retQ [.tmp 2] v) ⟨vals ++ List.replicate (6 - vals.length) (.tup []), []⟩) : CallP Tryd.prog 47 vals v :=
  call_of Tryd.func47 rfl rfl rfl (cc47.trans (congrArg some he.symm)) hw
theorem gi47 {vals : List V} {rows : Go.Vx.Rows} {K : V → Go.Vx.Rows → Prop} (ac : AC) (he : ac.erase = ac47) (hw : wpC Tryd.prog rows.length ac (retI [.tmp 2] K) ⟨vals ++ List.replicate (6 - vals.length) (.tup []), rows⟩) : InlP Tryd.prog 47 vals rows K :=
  inl_of' Tryd.func47 rfl rfl rfl (cc47.trans (congrArg some he.symm)) hw
theorem gm47 {vals : List V} {v : V} {sz : Nat} {es es' : List (List V)} (ac : AC) (he : ac.erase = ac47) (hw : wpC Tryd.prog 1 ac (retM [.tmp 2] v sz es') ⟨vals ++ List.replicate (6 - vals.length) (.tup []), [.live sz es]⟩) : CallM Tryd.prog 47 vals sz es v es' :=
  callM_of' Tryd.func47 rfl rfl rfl (cc47.trans (congrArg some he.symm)) hw

/-- testbench/testbenchref07.small -/
def ac48 : AC :=
  .seq (.reg 0 [⟨(some 2), 0, none, (.op (.mov (.k (.d (.bool false)))))⟩])
  (.seq (.reg 0 [⟨(some 3), 0, none, (.op (.mov (.t 0)))⟩,
    ⟨(some 4), 0, none, (.op (.bin .geq (.t 3) (.k (.d (.int .u8 97)))))⟩,
    ⟨(some 5), 0, none, (.op (.mov (.t 4)))⟩,
    ⟨(some 6), 0, (some (5, true)), (.op (.mov (.t 0)))⟩,
    ⟨(some 7), 0, (some (5, true)), (.op (.bin .leq (.t 6) (.k (.d (.int .u8 122)))))⟩,
    ⟨(some 8), 0, none, (.op (.pick (.t 5) (.t 7) (.k (.d (.bool false)))))⟩,
    ⟨(some 2), 0, none, (.op (.mov (.t 8)))⟩])
  (.ret))
theorem cc48 : Tryd.f48.body.bind (compC Tryd.prog) = some ac48 := by kernel_rfl
theorem go48 {vals : List V} {v : V} (ac : AC) (he : ac.erase = ac48) (hw : wpC Tryd.prog 0 ac (retQ [.tmp 2] v) ⟨vals ++ List.replicate (9 - vals.length) (.tup []), []⟩) : CallP Tryd.prog 48 vals v :=
  call_of Tryd.func48 rfl rfl rfl (cc48.trans (congrArg some he.symm)) hw
theorem gi48 {vals : List V} {rows : Go.Vx.Rows} {K : V → Go.Vx.Rows → Prop} (ac : AC) (he : ac.erase = ac48) (hw : wpC Tryd.prog rows.length ac (retI [.tmp 2] K) ⟨vals ++ List.replicate (9 - vals.length) (.tup []), rows⟩) : InlP Tryd.prog 48 vals rows K :=
  inl_of' Tryd.func48 rfl rfl rfl (cc48.trans (congrArg some he.symm)) hw
theorem gm48 {vals : List V} {v : V} {sz : Nat} {es es' : List (List V)} (ac : AC) (he : ac.erase = ac48) (hw : wpC Tryd.prog 1 ac (retM [.tmp 2] v sz es') ⟨vals ++ List.replicate (9 - vals.length) (.tup []), [.live sz es]⟩) : CallM Tryd.prog 48 vals sz es v es' :=
  callM_of' Tryd.func48 rfl rfl rfl (cc48.trans (congrArg some he.symm)) hw

/-- testbench/testbenchref07.IsKeyword -/
def ac49 : AC :=
  .seq (.reg 0 [⟨(some 2), 0, none, (.op (.mov (.k (.d (.bool false)))))⟩])
  (.seq (.reg 0 [⟨(some 3), 0, none, (.call (.k (.fn (.func 62) [] [])) [])⟩,
    ⟨(some 4), 0, none, (.op (.mov (.t 0)))⟩,
    ⟨(some 5), 0, none, (.call (.k (.fn (.func 61) [] [])) [(.t 3), (.t 4)])⟩,
    ⟨(some 2), 0, none, (.op (.mov (.t 5)))⟩])
  (.ret))
theorem cc49 : Tryd.f49.body.bind (compC Tryd.prog) = some ac49 := by kernel_rfl
theorem go49 {vals : List V} {v : V} (ac : AC) (he : ac.erase = ac49) (hw : wpC Tryd.prog 0 ac (retQ [.tmp 2] v) ⟨vals ++ List.replicate (6 - vals.length) (.tup []), []⟩) : CallP Tryd.prog 49 vals v :=
  call_of Tryd.func49 rfl rfl rfl (cc49.trans (congrArg some he.symm)) hw
theorem gi49 {vals : List V} {rows : Go.Vx.Rows} {K : V → Go.Vx.Rows → Prop} (ac : AC) (he : ac.erase = ac49) (hw : wpC Tryd.prog rows.length ac (retI [.tmp 2] K) ⟨vals ++ List.replicate (6 - vals.length) (.tup []), rows⟩) : InlP Tryd.prog 49 vals rows K :=
  inl_of' Tryd.func49 rfl rfl rfl (cc49.trans (congrArg some he.symm)) hw
theorem gm49 {vals : List V} {v : V} {sz : Nat} {es es' : List (List V)} (ac : AC) (he : ac.erase = ac49) (hw : wpC Tryd.prog 1 ac (retM [.tmp 2] v sz es') ⟨vals ++ List.replicate (6 - vals.length) (.tup []), [.live sz es]⟩) : CallM Tryd.prog 49 vals sz es v es' :=
  callM_of' Tryd.func49 rfl rfl rfl (cc49.trans (congrArg some he.symm)) hw

/-- testbench/testbenchref07.inner -/
def ac50 : AC :=
  .seq (.reg 0 [⟨(some 2), 0, none, (.op (.mov (.k (.d (.bool false)))))⟩])
  (.seq (.reg 0 [⟨(some 3), 0, none, (.op (.mov (.t 0)))⟩,
    ⟨(some 4), 0, none, (.call (.k (.fn (.func 48) [] [])) [(.t 3)])⟩,
    ⟨(some 5), 0, none, (.op (.mov (.t 4)))⟩,
    ⟨(some 6), 0, (some (5, false)), (.op (.mov (.t 0)))⟩,
    ⟨(some 7), 0, (some (5, false)), (.call (.k (.fn (.func 63) [] [])) [(.t 6)])⟩,
    ⟨(some 8), 0, none, (.op (.pick (.t 5) (.k (.d (.bool true))) (.t 7)))⟩,
    ⟨(some 9), 0, none, (.op (.mov (.t 8)))⟩,
    ⟨(some 10), 0, (some (9, false)), (.op (.mov (.t 0)))⟩,
    ⟨(some 11), 0, (some (9, false)), (.op (.bin .geq (.t 10) (.k (.d (.int .u8 65)))))⟩,
    ⟨(some 12), 0, (some (9, false)), (.op (.mov (.t 11)))⟩,
    ⟨(some 13), 0, (some (12, true)), (.op (.mov (.t 0)))⟩,
    ⟨(some 14), 0, (some (12, true)), (.op (.bin .leq (.t 13) (.k (.d (.int .u8 90)))))⟩,
    ⟨(some 15), 0, (some (9, false)), (.op (.pick (.t 12) (.t 14) (.k (.d (.bool false)))))⟩,
    ⟨(some 16), 0, none, (.op (.pick (.t 9) (.k (.d (.bool true))) (.t 15)))⟩,
    ⟨(some 17), 0, none, (.op (.mov (.t 16)))⟩,
    ⟨(some 18), 0, (some (17, false)), (.op (.mov (.t 0)))⟩,
    ⟨(some 19), 0, (some (17, false)), (.op (.bin .eql (.t 18) (.k (.d (.int .u8 95)))))⟩,
    ⟨(some 20), 0, none, (.op (.pick (.t 17) (.k (.d (.bool true))) (.t 19)))⟩,
    ⟨(some 2), 0, none, (.op (.mov (.t 20)))⟩])
  (.ret))
theorem cc50 : Tryd.f50.body.bind (compC Tryd.prog) = some ac50 := by kernel_rfl
theorem go50 {vals : List V} {v : V} (ac : AC) (he : ac.erase = ac50) (hw : wpC Tryd.prog 0 ac (retQ [.tmp 2] v) ⟨vals ++ List.replicate (21 - vals.length) (.tup []), []⟩) : CallP Tryd.prog 50 vals v :=
  call_of Tryd.func50 rfl rfl rfl (cc50.trans (congrArg some he.symm)) hw
theorem gi50 {vals : List V} {rows : Go.Vx.Rows} {K : V → Go.Vx.Rows → Prop} (ac : AC) (he : ac.erase = ac50) (hw : wpC Tryd.prog rows.length ac (retI [.tmp 2] K) ⟨vals ++ List.replicate (21 - vals.length) (.tup []), rows⟩) : InlP Tryd.prog 50 vals rows K :=
  inl_of' Tryd.func50 rfl rfl rfl (cc50.trans (congrArg some he.symm)) hw
theorem gm50 {vals : List V} {v : V} {sz : Nat} {es es' : List (List V)} (ac : AC) (he : ac.erase = ac50) (hw : wpC Tryd.prog 1 ac (retM [.tmp 2] v sz es') ⟨vals ++ List.replicate (21 - vals.length) (.tup []), [.live sz es]⟩) : CallM Tryd.prog 50 vals sz es v es' :=
  callM_of' Tryd.func50 rfl rfl rfl (cc50.trans (congrArg some he.symm)) hw

/-- testbench/hash.hex -/
def ac51 : AC :=
  .seq (.reg 0 [⟨(some 4), 0, none, (.op (.mov (.k (.d (.str [])))))⟩])
  (.seq (.reg 1 [⟨(some 7), 0, none, (.op (.mov (.t 1)))⟩,
    ⟨(some 8), 0, none, (.op (.mksl 1 1 [(.int .u8 0)] (.t 7) (.t 7)))⟩,
    ⟨(some 5), 1, none, (.op (.mov (.t 8)))⟩])
  (.seq (.seq (.reg 0 [⟨(some 9), 0, none, (.op (.mov (.t 1)))⟩,
    ⟨(some 10), 0, none, (.op (.mov (.k (.d (.int .i64 0)))))⟩])
  (.block 0
   (.loop
    (.seq (.reg 0 [⟨(some 11), 0, none, (.op (.bin .lss (.t 10) (.t 9)))⟩])
    (.seq (.cond (.t 11)
      (.skip)
      (.exit 0))
    (.seq (.block 1
     (.seq (.reg 0 [⟨(some 12), 0, none, (.op (.mov (.t 10)))⟩,
       ⟨(some 6), 0, none, (.op (.mov (.t 12)))⟩])
     (.seq (.reg 0 [⟨(some 13), 0, none, (.op (.mov (.t 5)))⟩,
       ⟨(some 14), 0, none, (.op (.mov (.t 1)))⟩,
       ⟨(some 15), 0, none, (.op (.bin .sub (.t 14) (.k (.d (.int .i64 1)))))⟩,
       ⟨(some 16), 0, none, (.op (.mov (.t 6)))⟩,
       ⟨(some 17), 0, none, (.op (.bin .sub (.t 15) (.t 16)))⟩,
       ⟨(some 18), 0, none, (.op (.mov (.t 0)))⟩,
       ⟨(some 19), 0, none, (.op (.bin .and (.t 18) (.k (.d (.int .u64 15)))))⟩,
       ⟨(some 20), 0, none, (.op (.idxS (.k (.d (.str [48, 49, 50, 51, 52, 53, 54, 55, 56, 57, 97, 98, 99, 100, 101, 102]))) (.t 19)))⟩,
       ⟨(some 21), 0, none, (.op (.idxA 1 none (.t 13) (.t 17)))⟩,
       ⟨none, 0, none, (.op (.store 1 (.t 21) (.t 20)))⟩])
     (.reg 0 [⟨(some 22), 0, none, (.op (.mov (.t 0)))⟩,
       ⟨(some 23), 0, none, (.op (.bin .shr (.t 22) (.k (.d (.int .u64 4)))))⟩,
       ⟨(some 0), 0, none, (.op (.mov (.t 23)))⟩]))))
    (.reg 0 [⟨(some 24), 0, none, (.op (.bin .add (.t 10) (.k (.d (.int .i64 1)))))⟩,
      ⟨(some 10), 0, none, (.op (.mov (.t 24)))⟩])))))))
  (.seq (.reg 0 [⟨(some 25), 0, none, (.op (.mov (.t 5)))⟩,
    ⟨(some 26), 0, none, (.op (.b2s (.t 25)))⟩,
    ⟨(some 4), 0, none, (.op (.mov (.t 26)))⟩])
  (.ret))))
theorem cc51 : Tryd.f51.body.bind (compC Tryd.prog) = some ac51 := by kernel_rfl
theorem go51 {vals : List V} {v : V} (ac : AC) (he : ac.erase = ac51) (hw : wpC Tryd.prog 0 ac (retQ [.tmp 4] v) ⟨vals ++ List.replicate (27 - vals.length) (.tup []), []⟩) : CallP Tryd.prog 51 vals v :=
  call_of Tryd.func51 rfl rfl rfl (cc51.trans (congrArg some he.symm)) hw
theorem gi51 {vals : List V} {rows : Go.Vx.Rows} {K : V → Go.Vx.Rows → Prop} (ac : AC) (he : ac.erase = ac51) (hw : wpC Tryd.prog rows.length ac (retI [.tmp 4] K) ⟨vals ++ List.replicate (27 - vals.length) (.tup []), rows⟩) : InlP Tryd.prog 51 vals rows K :=
  inl_of' Tryd.func51 rfl rfl rfl (cc51.trans (congrArg some he.symm)) hw
theorem gm51 {vals : List V} {v : V} {sz : Nat} {es es' : List (List V)} (ac : AC) (he : ac.erase = ac51) (hw : wpC Tryd.prog 1 ac (retM [.tmp 4] v sz es') ⟨vals ++ List.replicate (27 - vals.length) (.tup []), [.live sz es]⟩) : CallM Tryd.prog 51 vals sz es v es' :=
  callM_of' Tryd.func51 rfl rfl rfl (cc51.trans (congrArg some he.symm)) hw

/-- testbench/testbenchref04.form -/
def ac52 : AC :=
  .seq (.reg 0 [⟨(some 4), 0, none, (.op (.mov (.k (.d (.str [])))))⟩])
  (.seq (.reg 0 [⟨(some 5), 0, none, (.op (.mov (.k (.d (.str [])))))⟩])
  (.seq (.seq (.reg 0 [⟨(some 6), 0, none, (.op (.mov (.k (.d (.int .i64 0)))))⟩])
  (.block 0
   (.loop
    (.seq (.seq (.reg 0 [⟨(some 8), 0, none, (.op (.mov (.t 6)))⟩,
      ⟨(some 9), 0, none, (.op (.mov (.t 1)))⟩,
      ⟨(some 10), 0, none, (.op (.bin .lss (.t 8) (.t 9)))⟩])
    (.cond (.t 10)
      (.skip)
      (.exit 0)))
    (.seq (.block 1
     (.seq (.reg 0 [⟨(some 13), 0, none, (.op (.mov (.t 0)))⟩,
       ⟨(some 14), 0, none, (.op (.bin .rem (.t 13) (.k (.d (.int .u64 16)))))⟩,
       ⟨(some 7), 0, none, (.op (.mov (.t 14)))⟩])
     (.seq (.reg 0 [⟨(some 15), 0, none, (.op (.mov (.t 7)))⟩,
       ⟨(some 16), 0, none, (.op (.mov (.t 7)))⟩,
       ⟨(some 17), 0, none, (.op (.bin .add (.t 16) (.k (.d (.int .u64 1)))))⟩,
       ⟨(some 18), 0, none, (.op (.slice 0 (.k (.d (.str [48, 49, 50, 51, 52, 53, 54, 55, 56, 57, 97, 98, 99, 100, 101, 102]))) (some (.t 15)) (some (.t 17))))⟩,
       ⟨(some 19), 0, none, (.op (.mov (.t 5)))⟩,
       ⟨(some 20), 0, none, (.op (.bin .add (.t 18) (.t 19)))⟩,
       ⟨(some 5), 0, none, (.op (.mov (.t 20)))⟩])
     (.reg 0 [⟨(some 21), 0, none, (.op (.mov (.t 0)))⟩,
       ⟨(some 22), 0, none, (.op (.bin .quo (.t 21) (.k (.d (.int .u64 16)))))⟩,
       ⟨(some 0), 0, none, (.op (.mov (.t 22)))⟩]))))
    (.reg 0 [⟨(some 11), 0, none, (.op (.mov (.t 6)))⟩,
      ⟨(some 12), 0, none, (.op (.bin .add (.t 11) (.k (.d (.int .i64 1)))))⟩,
      ⟨(some 6), 0, none, (.op (.mov (.t 12)))⟩]))))))
  (.seq (.reg 0 [⟨(some 23), 0, none, (.op (.mov (.t 5)))⟩,
    ⟨(some 4), 0, none, (.op (.mov (.t 23)))⟩])
  (.ret))))
theorem cc52 : Tryd.f52.body.bind (compC Tryd.prog) = some ac52 := by kernel_rfl
theorem go52 {vals : List V} {v : V} (ac : AC) (he : ac.erase = ac52) (hw : wpC Tryd.prog 0 ac (retQ [.tmp 4] v) ⟨vals ++ List.replicate (24 - vals.length) (.tup []), []⟩) : CallP Tryd.prog 52 vals v :=
  call_of Tryd.func52 rfl rfl rfl (cc52.trans (congrArg some he.symm)) hw
theorem gi52 {vals : List V} {rows : Go.Vx.Rows} {K : V → Go.Vx.Rows → Prop} (ac : AC) (he : ac.erase = ac52) (hw : wpC Tryd.prog rows.length ac (retI [.tmp 4] K) ⟨vals ++ List.replicate (24 - vals.length) (.tup []), rows⟩) : InlP Tryd.prog 52 vals rows K :=
  inl_of' Tryd.func52 rfl rfl rfl (cc52.trans (congrArg some he.symm)) hw
theorem gm52 {vals : List V} {v : V} {sz : Nat} {es es' : List (List V)} (ac : AC) (he : ac.erase = ac52) (hw : wpC Tryd.prog 1 ac (retM [.tmp 4] v sz es') ⟨vals ++ List.replicate (24 - vals.length) (.tup []), [.live sz es]⟩) : CallM Tryd.prog 52 vals sz es v es' :=
  callM_of' Tryd.func52 rfl rfl rfl (cc52.trans (congrArg some he.symm)) hw

/-- internal/stringslite.Cut -/
def ac53 : AC :=
  .seq (.reg 0 [⟨(some 4), 0, none, (.op (.mov (.k (.d (.str [])))))⟩,
    ⟨(some 5), 0, none, (.op (.mov (.k (.d (.str [])))))⟩,
    ⟨(some 6), 0, none, (.op (.mov (.k (.d (.bool false)))))⟩])
  (.seq (.seq (.reg 0 [⟨(some 8), 0, none, (.op (.mov (.t 0)))⟩,
    ⟨(some 9), 0, none, (.op (.mov (.t 1)))⟩,
    ⟨(some 10), 0, none, (.call (.k (.fn (.func 64) [] [])) [(.t 8), (.t 9)])⟩,
    ⟨(some 7), 0, none, (.op (.mov (.t 10)))⟩])
  (.seq (.reg 0 [⟨(some 11), 0, none, (.op (.mov (.t 7)))⟩,
    ⟨(some 12), 0, none, (.op (.bin .geq (.t 11) (.k (.d (.int .i64 0)))))⟩])
  (.cond (.t 12)
    (.seq (.regD 0 [(⟨(some 13), 0, none, (.op (.mov (.t 0)))⟩, []),
      (⟨(some 14), 0, none, (.op (.mov (.t 7)))⟩, []),
      (⟨(some 15), 0, none, (.op (.slice 0 (.t 13) none (some (.t 14))))⟩, [0, 1]),
      (⟨(some 16), 0, none, (.op (.mov (.t 0)))⟩, []),
      (⟨(some 17), 0, none, (.op (.mov (.t 7)))⟩, []),
      (⟨(some 18), 0, none, (.op (.mov (.t 1)))⟩, []),
      (⟨(some 19), 0, none, (.op (.len true (.t 18)))⟩, [5]),
      (⟨(some 20), 0, none, (.op (.bin .add (.t 17) (.t 19)))⟩, [4, 6, 5]),
      (⟨(some 21), 0, none, (.op (.slice 0 (.t 16) (some (.t 20)) none))⟩, [3, 7, 4, 6, 5]),
      (⟨(some 4), 0, none, (.op (.mov (.t 15)))⟩, [2, 0, 1]),
      (⟨(some 5), 0, none, (.op (.mov (.t 21)))⟩, [8, 3, 7, 4, 6, 5, 9, 2, 0, 1]),
      (⟨(some 6), 0, none, (.op (.mov (.k (.d (.bool true)))))⟩, [10, 8, 3, 7, 4, 6, 5, 9, 2, 0, 1])])
    (.ret))
    (.skip))))
  (.seq (.reg 0 [⟨(some 22), 0, none, (.op (.mov (.t 0)))⟩,
    ⟨(some 4), 0, none, (.op (.mov (.t 22)))⟩,
    ⟨(some 5), 0, none, (.op (.mov (.k (.d (.str [])))))⟩,
    ⟨(some 6), 0, none, (.op (.mov (.k (.d (.bool false)))))⟩])
  (.ret)))
theorem cc53 : Tryd.f53.body.bind (compC Tryd.prog) = some ac53 := by kernel_rfl
theorem go53 {vals : List V} {v : V} (ac : AC) (he : ac.erase = ac53) (hw : wpC Tryd.prog 0 ac (retQ [.tmp 4, .tmp 5, .tmp 6] v) ⟨vals ++ List.replicate (23 - vals.length) (.tup []), []⟩) : CallP Tryd.prog 53 vals v :=
  call_of Tryd.func53 rfl rfl rfl (cc53.trans (congrArg some he.symm)) hw
theorem gi53 {vals : List V} {rows : Go.Vx.Rows} {K : V → Go.Vx.Rows → Prop} (ac : AC) (he : ac.erase = ac53) (hw : wpC Tryd.prog rows.length ac (retI [.tmp 4, .tmp 5, .tmp 6] K) ⟨vals ++ List.replicate (23 - vals.length) (.tup []), rows⟩) : InlP Tryd.prog 53 vals rows K :=
  inl_of' Tryd.func53 rfl rfl rfl (cc53.trans (congrArg some he.symm)) hw
theorem gm53 {vals : List V} {v : V} {sz : Nat} {es es' : List (List V)} (ac : AC) (he : ac.erase = ac53) (hw : wpC Tryd.prog 1 ac (retM [.tmp 4, .tmp 5, .tmp 6] v sz es') ⟨vals ++ List.replicate (23 - vals.length) (.tup []), [.live sz es]⟩) : CallM Tryd.prog 53 vals sz es v es' :=
  callM_of' Tryd.func53 rfl rfl rfl (cc53.trans (congrArg some he.symm)) hw

/-- testbench/num.Parse -/
def ac54 : AC :=
  .seq (.reg 0 [⟨(some 2), 0, none, (.op (.mov (.k (.d (.int .i64 0)))))⟩,
    ⟨(some 3), 0, none, (.op (.mov (.k (.d (.int .i64 0)))))⟩])
  (.scope (.seq (.reg 0 [⟨(some 11), 0, none, (.op (.mov (.t 0)))⟩,
    ⟨(some 4), 0, none, (.op (.mov (.t 11)))⟩])
  (.seq (.seq (.reg 0 [⟨(some 12), 0, none, (.op (.mov (.t 0)))⟩,
    ⟨(some 13), 0, none, (.op (.len true (.t 12)))⟩,
    ⟨(some 14), 0, none, (.op (.bin .gtr (.t 13) (.k (.d (.int .i64 0)))))⟩,
    ⟨(some 15), 0, none, (.op (.mov (.t 14)))⟩,
    ⟨(some 16), 0, (some (15, true)), (.op (.mov (.t 0)))⟩,
    ⟨(some 17), 0, (some (15, true)), (.op (.idxS (.t 16) (.k (.d (.int .i64 0)))))⟩,
    ⟨(some 18), 0, (some (15, true)), (.op (.bin .eql (.t 17) (.k (.d (.int .u8 45)))))⟩,
    ⟨(some 19), 0, none, (.op (.pick (.t 15) (.t 18) (.k (.d (.bool false)))))⟩])
  (.cond (.t 19)
    (.reg 0 [⟨(some 20), 0, none, (.op (.mov (.t 0)))⟩,
      ⟨(some 21), 0, none, (.op (.slice 0 (.t 20) (some (.k (.d (.int .i64 1)))) none))⟩,
      ⟨(some 4), 0, none, (.op (.mov (.t 21)))⟩])
    (.skip)))
  (.seq (.reg 0 [⟨(some 22), 0, none, (.op (.mov (.t 4)))⟩,
    ⟨(some 23), 0, none, (.op (.len true (.t 22)))⟩,
    ⟨(some 24), 0, none, (.op (.mov (.t 0)))⟩,
    ⟨(some 25), 0, none, (.op (.len true (.t 24)))⟩,
    ⟨(some 26), 0, none, (.op (.bin .lss (.t 23) (.t 25)))⟩,
    ⟨(some 5), 0, none, (.op (.mov (.t 26)))⟩])
  (.seq (.seq (.reg 0 [⟨(some 27), 0, none, (.op (.mov (.t 4)))⟩,
    ⟨(some 28), 0, none, (.op (.bin .eql (.t 27) (.k (.d (.str [])))))⟩,
    ⟨(some 29), 0, none, (.op (.mov (.t 28)))⟩,
    ⟨(some 30), 0, (some (29, false)), (.op (.mov (.t 4)))⟩,
    ⟨(some 31), 0, (some (29, false)), (.op (.idxS (.t 30) (.k (.d (.int .i64 0)))))⟩,
    ⟨(some 32), 0, (some (29, false)), (.op (.bin .eql (.t 31) (.k (.d (.int .u8 48)))))⟩,
    ⟨(some 33), 0, (some (29, false)), (.op (.mov (.t 32)))⟩,
    ⟨(some 34), 0, (some (33, true)), (.op (.mov (.t 4)))⟩,
    ⟨(some 35), 0, (some (33, true)), (.op (.len true (.t 34)))⟩,
    ⟨(some 36), 0, (some (33, true)), (.op (.bin .gtr (.t 35) (.k (.d (.int .i64 1)))))⟩,
    ⟨(some 37), 0, (some (33, true)), (.op (.mov (.t 36)))⟩,
    ⟨(some 38), 0, (some (37, false)), (.op (.mov (.t 5)))⟩,
    ⟨(some 39), 0, (some (33, true)), (.op (.pick (.t 37) (.k (.d (.bool true))) (.t 38)))⟩,
    ⟨(some 40), 0, (some (29, false)), (.op (.pick (.t 33) (.t 39) (.k (.d (.bool false)))))⟩,
    ⟨(some 41), 0, none, (.op (.pick (.t 29) (.k (.d (.bool true))) (.t 40)))⟩])
  (.cond (.t 41)
    (.seq (.reg 0 [⟨(some 2), 0, none, (.op (.mov (.k (.d (.int .i64 0)))))⟩,
      ⟨(some 3), 0, none, (.op (.mov (.k (.d (.int .i64 5)))))⟩])
    (.ret))
    (.skip)))
  (.seq (.reg 0 [⟨(some 6), 0, none, (.op (.mov (.k (.d (.int .u64 0)))))⟩])
  (.seq (.reg 0 [⟨(some 7), 0, none, (.op (.mov (.k (.d (.bool false)))))⟩])
  (.seq (.reg 0 [⟨(some 8), 0, none, (.op (.mov (.k (.d (.int .i64 0)))))⟩])
  (.seq (.label)
  (.seq (.seq (.reg 1 [⟨(some 42), 0, none, (.op (.mov (.t 4)))⟩,
    ⟨(some 43), 0, none, (.op (.s2b (.t 42)))⟩,
    ⟨(some 44), 1, none, (.op (.len false (.t 43)))⟩,
    ⟨(some 45), 1, none, (.op (.mov (.k (.d (.int .i64 0)))))⟩])
  (.block 0
   (.loop
    (.seq (.reg 0 [⟨(some 46), 0, none, (.op (.bin .lss (.t 45) (.t 44)))⟩])
    (.seq (.cond (.t 46)
      (.skip)
      (.exit 0))
    (.seq (.block 1
     (.seq (.reg 0 [⟨(some 47), 0, none, (.op (.idxA 1 none (.t 43) (.t 45)))⟩,
       ⟨(some 48), 0, none, (.op (.load false 1 (.t 47)))⟩,
       ⟨(some 10), 0, none, (.op (.mov (.t 48)))⟩])
     (.seq (.block 2
      (.seq (.reg 0 [⟨(some 56), 0, none, (.op (.mov (.t 10)))⟩,
        ⟨(some 57), 0, none, (.op (.bin .lss (.t 56) (.k (.d (.int .u8 48)))))⟩,
        ⟨(some 58), 0, none, (.op (.mov (.t 57)))⟩,
        ⟨(some 59), 0, (some (58, false)), (.op (.mov (.t 10)))⟩,
        ⟨(some 60), 0, (some (58, false)), (.op (.bin .gtr (.t 59) (.k (.d (.int .u8 57)))))⟩,
        ⟨(some 61), 0, none, (.op (.pick (.t 58) (.k (.d (.bool true))) (.t 60)))⟩,
        ⟨(some 55), 0, none, (.op (.mov (.t 61)))⟩])
      (.cond (.t 55)
        (.exit 0)
        (.seq (.reg 0 [⟨(some 63), 0, none, (.op (.mov (.t 6)))⟩,
          ⟨(some 64), 0, none, (.op (.bin .gtr (.t 63) (.k (.d (.int .u64 1844674407370955160)))))⟩,
          ⟨(some 62), 0, none, (.op (.mov (.t 64)))⟩])
        (.cond (.t 62)
          (.reg 0 [⟨(some 7), 0, none, (.op (.mov (.k (.d (.bool true)))))⟩])
          (.reg 0 [⟨(some 49), 0, none, (.op (.mov (.t 6)))⟩,
            ⟨(some 50), 0, none, (.op (.bin .mul (.k (.d (.int .u64 10))) (.t 49)))⟩,
            ⟨(some 51), 0, none, (.op (.mov (.t 10)))⟩,
            ⟨(some 52), 0, none, (.op (.bin .sub (.t 51) (.k (.d (.int .u8 48)))))⟩,
            ⟨(some 53), 0, none, (.op (.conv .u64 (.t 52)))⟩,
            ⟨(some 54), 0, none, (.op (.bin .add (.t 50) (.t 53)))⟩,
            ⟨(some 6), 0, none, (.op (.mov (.t 54)))⟩]))))))
     (.reg 0 [⟨(some 65), 0, none, (.op (.mov (.t 8)))⟩,
       ⟨(some 66), 0, none, (.op (.bin .add (.t 65) (.k (.d (.int .i64 1)))))⟩,
       ⟨(some 8), 0, none, (.op (.mov (.t 66)))⟩]))))
    (.reg 0 [⟨(some 67), 0, none, (.op (.bin .add (.t 45) (.k (.d (.int .i64 1)))))⟩,
      ⟨(some 45), 0, none, (.op (.mov (.t 67)))⟩])))))))
  (.seq (.block 3
   (.seq (.reg 0 [⟨(some 69), 0, none, (.op (.mov (.t 8)))⟩,
     ⟨(some 70), 0, none, (.op (.mov (.t 4)))⟩,
     ⟨(some 71), 0, none, (.op (.len true (.t 70)))⟩,
     ⟨(some 72), 0, none, (.op (.bin .lss (.t 69) (.t 71)))⟩,
     ⟨(some 68), 0, none, (.op (.mov (.t 72)))⟩])
   (.cond (.t 68)
     (.seq (.reg 0 [⟨(some 2), 0, none, (.op (.mov (.k (.d (.int .i64 0)))))⟩,
       ⟨(some 3), 0, none, (.op (.mov (.k (.d (.int .i64 5)))))⟩])
     (.ret))
     (.seq (.reg 0 [⟨(some 74), 0, none, (.op (.mov (.t 7)))⟩,
       ⟨(some 73), 0, none, (.op (.mov (.t 74)))⟩])
     (.cond (.t 73)
       (.seq (.reg 0 [⟨(some 2), 0, none, (.op (.mov (.k (.d (.int .i64 0)))))⟩,
         ⟨(some 3), 0, none, (.op (.mov (.k (.d (.int .i64 3)))))⟩])
       (.ret))
       (.skip))))))
  (.seq (.reg 0 [⟨(some 75), 0, none, (.op (.mov (.t 5)))⟩,
    ⟨(some 76), 0, none, (.op (.mov (.t 6)))⟩,
    ⟨(some 77), 0, none, (.call (.k (.fn (.func 65) [] [])) [(.t 75), (.t 76)])⟩,
    ⟨(some 78), 0, none, (.op (.ext (.t 77) 0))⟩,
    ⟨(some 79), 0, none, (.op (.ext (.t 77) 1))⟩,
    ⟨(some 2), 0, none, (.op (.mov (.t 78)))⟩,
    ⟨(some 3), 0, none, (.op (.mov (.t 79)))⟩])
  (.ret)))))))))))))
theorem cc54 : Tryd.f54.body.bind (compC Tryd.prog) = some ac54 := by kernel_rfl
theorem go54 {vals : List V} {v : V} (ac : AC) (he : ac.erase = ac54) (hw : wpC Tryd.prog 0 ac (retQ [.tmp 2, .tmp 3] v) ⟨vals ++ List.replicate (80 - vals.length) (.tup []), []⟩) : CallP Tryd.prog 54 vals v :=
  call_of Tryd.func54 rfl rfl rfl (cc54.trans (congrArg some he.symm)) hw
theorem gi54 {vals : List V} {rows : Go.Vx.Rows} {K : V → Go.Vx.Rows → Prop} (ac : AC) (he : ac.erase = ac54) (hw : wpC Tryd.prog rows.length ac (retI [.tmp 2, .tmp 3] K) ⟨vals ++ List.replicate (80 - vals.length) (.tup []), rows⟩) : InlP Tryd.prog 54 vals rows K :=
  inl_of' Tryd.func54 rfl rfl rfl (cc54.trans (congrArg some he.symm)) hw
theorem gm54 {vals : List V} {v : V} {sz : Nat} {es es' : List (List V)} (ac : AC) (he : ac.erase = ac54) (hw : wpC Tryd.prog 1 ac (retM [.tmp 2, .tmp 3] v sz es') ⟨vals ++ List.replicate (80 - vals.length) (.tup []), [.live sz es]⟩) : CallM Tryd.prog 54 vals sz es v es' :=
  callM_of' Tryd.func54 rfl rfl rfl (cc54.trans (congrArg some he.symm)) hw

/-- testbench/testbenchref01.digits -/
def ac55 : AC :=
  .seq (.reg 0 [⟨(some 2), 0, none, (.op (.mov (.k (.d (.bool false)))))⟩])
  (.seq (.seq (.reg 0 [⟨(some 3), 0, none, (.op (.mov (.k (.d (.int .i64 0)))))⟩])
  (.block 0
   (.loop
    (.seq (.seq (.reg 0 [⟨(some 4), 0, none, (.op (.mov (.t 3)))⟩,
      ⟨(some 5), 0, none, (.op (.mov (.t 0)))⟩,
      ⟨(some 6), 0, none, (.op (.len true (.t 5)))⟩,
      ⟨(some 7), 0, none, (.op (.bin .lss (.t 4) (.t 6)))⟩])
    (.cond (.t 7)
      (.skip)
      (.exit 0)))
    (.seq (.block 1
     (.seq (.reg 0 [⟨(some 10), 0, none, (.op (.mov (.t 0)))⟩,
       ⟨(some 11), 0, none, (.op (.mov (.t 3)))⟩,
       ⟨(some 12), 0, none, (.op (.idxS (.t 10) (.t 11)))⟩,
       ⟨(some 13), 0, none, (.op (.bin .lss (.t 12) (.k (.d (.int .u8 48)))))⟩,
       ⟨(some 14), 0, none, (.op (.mov (.t 13)))⟩,
       ⟨(some 15), 0, (some (14, false)), (.op (.mov (.t 0)))⟩,
       ⟨(some 16), 0, (some (14, false)), (.op (.mov (.t 3)))⟩,
       ⟨(some 17), 0, (some (14, false)), (.op (.idxS (.t 15) (.t 16)))⟩,
       ⟨(some 18), 0, (some (14, false)), (.op (.bin .gtr (.t 17) (.k (.d (.int .u8 57)))))⟩,
       ⟨(some 19), 0, none, (.op (.pick (.t 14) (.k (.d (.bool true))) (.t 18)))⟩])
     (.cond (.t 19)
       (.seq (.reg 0 [⟨(some 2), 0, none, (.op (.mov (.k (.d (.bool false)))))⟩])
       (.ret))
       (.skip))))
    (.reg 0 [⟨(some 8), 0, none, (.op (.mov (.t 3)))⟩,
      ⟨(some 9), 0, none, (.op (.bin .add (.t 8) (.k (.d (.int .i64 1)))))⟩,
      ⟨(some 3), 0, none, (.op (.mov (.t 9)))⟩]))))))
  (.seq (.reg 0 [⟨(some 20), 0, none, (.op (.mov (.t 0)))⟩,
    ⟨(some 21), 0, none, (.op (.len true (.t 20)))⟩,
    ⟨(some 22), 0, none, (.op (.bin .gtr (.t 21) (.k (.d (.int .i64 0)))))⟩,
    ⟨(some 2), 0, none, (.op (.mov (.t 22)))⟩])
  (.ret)))
theorem cc55 : Tryd.f55.body.bind (compC Tryd.prog) = some ac55 := by kernel_rfl
theorem go55 {vals : List V} {v : V} (ac : AC) (he : ac.erase = ac55) (hw : wpC Tryd.prog 0 ac (retQ [.tmp 2] v) ⟨vals ++ List.replicate (23 - vals.length) (.tup []), []⟩) : CallP Tryd.prog 55 vals v :=
  call_of Tryd.func55 rfl rfl rfl (cc55.trans (congrArg some he.symm)) hw
theorem gi55 {vals : List V} {rows : Go.Vx.Rows} {K : V → Go.Vx.Rows → Prop} (ac : AC) (he : ac.erase = ac55) (hw : wpC Tryd.prog rows.length ac (retI [.tmp 2] K) ⟨vals ++ List.replicate (23 - vals.length) (.tup []), rows⟩) : InlP Tryd.prog 55 vals rows K :=
  inl_of' Tryd.func55 rfl rfl rfl (cc55.trans (congrArg some he.symm)) hw
theorem gm55 {vals : List V} {v : V} {sz : Nat} {es es' : List (List V)} (ac : AC) (he : ac.erase = ac55) (hw : wpC Tryd.prog 1 ac (retM [.tmp 2] v sz es') ⟨vals ++ List.replicate (23 - vals.length) (.tup []), [.live sz es]⟩) : CallM Tryd.prog 55 vals sz es v es' :=
  callM_of' Tryd.func55 rfl rfl rfl (cc55.trans (congrArg some he.symm)) hw

/-- testbench/testbenchref01.Mul -/
def ac56 : AC :=
  .seq (.reg 0 [⟨(some 4), 0, none, (.op (.mov (.k (.d (.int .i64 0)))))⟩,
    ⟨(some 5), 0, none, (.op (.mov (.k (.d (.int .i64 0)))))⟩])
  (.seq (.seq (.reg 0 [⟨(some 7), 0, none, (.op (.mov (.t 0)))⟩,
    ⟨(some 8), 0, none, (.op (.bin .eql (.t 7) (.k (.d (.int .i64 0)))))⟩,
    ⟨(some 9), 0, none, (.op (.mov (.t 8)))⟩,
    ⟨(some 10), 0, (some (9, false)), (.op (.mov (.t 1)))⟩,
    ⟨(some 11), 0, (some (9, false)), (.op (.bin .eql (.t 10) (.k (.d (.int .i64 0)))))⟩,
    ⟨(some 12), 0, none, (.op (.pick (.t 9) (.k (.d (.bool true))) (.t 11)))⟩])
  (.cond (.t 12)
    (.seq (.reg 0 [⟨(some 4), 0, none, (.op (.mov (.k (.d (.int .i64 0)))))⟩,
      ⟨(some 5), 0, none, (.op (.mov (.k (.d (.int .i64 0)))))⟩])
    (.ret))
    (.skip)))
  (.seq (.reg 0 [⟨(some 13), 0, none, (.op (.mov (.t 0)))⟩,
    ⟨(some 14), 0, none, (.op (.mov (.t 1)))⟩,
    ⟨(some 15), 0, none, (.op (.bin .mul (.t 13) (.t 14)))⟩,
    ⟨(some 6), 0, none, (.op (.mov (.t 15)))⟩])
  (.seq (.seq (.reg 0 [⟨(some 16), 0, none, (.op (.mov (.t 0)))⟩,
    ⟨(some 17), 0, none, (.op (.bin .eql (.t 16) (.k (.d (.int .i64 (-1))))))⟩,
    ⟨(some 18), 0, none, (.op (.mov (.t 17)))⟩,
    ⟨(some 19), 0, (some (18, true)), (.op (.mov (.t 1)))⟩,
    ⟨(some 20), 0, (some (18, true)), (.op (.bin .eql (.t 19) (.k (.d (.int .i64 (-9223372036854775808))))))⟩,
    ⟨(some 21), 0, none, (.op (.pick (.t 18) (.t 20) (.k (.d (.bool false)))))⟩,
    ⟨(some 22), 0, none, (.op (.mov (.t 21)))⟩,
    ⟨(some 23), 0, (some (22, false)), (.op (.mov (.t 1)))⟩,
    ⟨(some 24), 0, (some (22, false)), (.op (.bin .eql (.t 23) (.k (.d (.int .i64 (-1))))))⟩,
    ⟨(some 25), 0, (some (22, false)), (.op (.mov (.t 24)))⟩,
    ⟨(some 26), 0, (some (25, true)), (.op (.mov (.t 0)))⟩,
    ⟨(some 27), 0, (some (25, true)), (.op (.bin .eql (.t 26) (.k (.d (.int .i64 (-9223372036854775808))))))⟩,
    ⟨(some 28), 0, (some (22, false)), (.op (.pick (.t 25) (.t 27) (.k (.d (.bool false)))))⟩,
    ⟨(some 29), 0, none, (.op (.pick (.t 22) (.k (.d (.bool true))) (.t 28)))⟩,
    ⟨(some 30), 0, none, (.op (.mov (.t 29)))⟩,
    ⟨(some 31), 0, (some (30, false)), (.op (.mov (.t 6)))⟩,
    ⟨(some 32), 0, (some (30, false)), (.op (.mov (.t 1)))⟩,
    ⟨(some 33), 0, (some (30, false)), (.op (.bin .quo (.t 31) (.t 32)))⟩,
    ⟨(some 34), 0, (some (30, false)), (.op (.mov (.t 0)))⟩,
    ⟨(some 35), 0, (some (30, false)), (.op (.bin .neq (.t 33) (.t 34)))⟩,
    ⟨(some 36), 0, none, (.op (.pick (.t 30) (.k (.d (.bool true))) (.t 35)))⟩])
  (.cond (.t 36)
    (.seq (.reg 0 [⟨(some 4), 0, none, (.op (.mov (.k (.d (.int .i64 0)))))⟩,
      ⟨(some 5), 0, none, (.op (.mov (.k (.d (.int .i64 3)))))⟩])
    (.ret))
    (.skip)))
  (.seq (.reg 0 [⟨(some 37), 0, none, (.op (.mov (.t 6)))⟩,
    ⟨(some 4), 0, none, (.op (.mov (.t 37)))⟩,
    ⟨(some 5), 0, none, (.op (.mov (.k (.d (.int .i64 0)))))⟩])
  (.ret)))))
theorem cc56 : Tryd.f56.body.bind (compC Tryd.prog) = some ac56 := by kernel_rfl
theorem go56 {vals : List V} {v : V} (ac : AC) (he : ac.erase = ac56) (hw : wpC Tryd.prog 0 ac (retQ [.tmp 4, .tmp 5] v) ⟨vals ++ List.replicate (38 - vals.length) (.tup []), []⟩) : CallP Tryd.prog 56 vals v :=
  call_of Tryd.func56 rfl rfl rfl (cc56.trans (congrArg some he.symm)) hw
theorem gi56 {vals : List V} {rows : Go.Vx.Rows} {K : V → Go.Vx.Rows → Prop} (ac : AC) (he : ac.erase = ac56) (hw : wpC Tryd.prog rows.length ac (retI [.tmp 4, .tmp 5] K) ⟨vals ++ List.replicate (38 - vals.length) (.tup []), rows⟩) : InlP Tryd.prog 56 vals rows K :=
  inl_of' Tryd.func56 rfl rfl rfl (cc56.trans (congrArg some he.symm)) hw
theorem gm56 {vals : List V} {v : V} {sz : Nat} {es es' : List (List V)} (ac : AC) (he : ac.erase = ac56) (hw : wpC Tryd.prog 1 ac (retM [.tmp 4, .tmp 5] v sz es') ⟨vals ++ List.replicate (38 - vals.length) (.tup []), [.live sz es]⟩) : CallM Tryd.prog 56 vals sz es v es' :=
  callM_of' Tryd.func56 rfl rfl rfl (cc56.trans (congrArg some he.symm)) hw

/-- testbench/testbenchref01.Sub -/
def ac57 : AC :=
  .seq (.reg 0 [⟨(some 4), 0, none, (.op (.mov (.k (.d (.int .i64 0)))))⟩,
    ⟨(some 5), 0, none, (.op (.mov (.k (.d (.int .i64 0)))))⟩])
  (.seq (.seq (.reg 0 [⟨(some 6), 0, none, (.op (.mov (.t 1)))⟩,
    ⟨(some 7), 0, none, (.op (.bin .eql (.t 6) (.k (.d (.int .i64 (-9223372036854775808))))))⟩])
  (.cond (.t 7)
    (.seq (.seq (.reg 0 [⟨(some 8), 0, none, (.op (.mov (.t 0)))⟩,
      ⟨(some 9), 0, none, (.op (.bin .geq (.t 8) (.k (.d (.int .i64 0)))))⟩])
    (.cond (.t 9)
      (.seq (.reg 0 [⟨(some 4), 0, none, (.op (.mov (.k (.d (.int .i64 0)))))⟩,
        ⟨(some 5), 0, none, (.op (.mov (.k (.d (.int .i64 3)))))⟩])
      (.ret))
      (.skip)))
    (.seq (.reg 0 [⟨(some 10), 0, none, (.op (.mov (.t 0)))⟩,
      ⟨(some 11), 0, none, (.op (.mov (.t 1)))⟩,
      ⟨(some 12), 0, none, (.op (.bin .sub (.t 10) (.t 11)))⟩,
      ⟨(some 4), 0, none, (.op (.mov (.t 12)))⟩,
      ⟨(some 5), 0, none, (.op (.mov (.k (.d (.int .i64 0)))))⟩])
    (.ret)))
    (.skip)))
  (.seq (.reg 0 [⟨(some 13), 0, none, (.op (.mov (.t 0)))⟩,
    ⟨(some 14), 0, none, (.op (.mov (.t 1)))⟩,
    ⟨(some 15), 0, none, (.op (.un .neg (.t 14)))⟩,
    ⟨(some 16), 0, none, (.call (.k (.fn (.func 66) [] [])) [(.t 13), (.t 15)])⟩,
    ⟨(some 17), 0, none, (.op (.ext (.t 16) 0))⟩,
    ⟨(some 18), 0, none, (.op (.ext (.t 16) 1))⟩,
    ⟨(some 4), 0, none, (.op (.mov (.t 17)))⟩,
    ⟨(some 5), 0, none, (.op (.mov (.t 18)))⟩])
  (.ret)))
theorem cc57 : Tryd.f57.body.bind (compC Tryd.prog) = some ac57 := by kernel_rfl
theorem go57 {vals : List V} {v : V} (ac : AC) (he : ac.erase = ac57) (hw : wpC Tryd.prog 0 ac (retQ [.tmp 4, .tmp 5] v) ⟨vals ++ List.replicate (19 - vals.length) (.tup []), []⟩) : CallP Tryd.prog 57 vals v :=
  call_of Tryd.func57 rfl rfl rfl (cc57.trans (congrArg some he.symm)) hw
theorem gi57 {vals : List V} {rows : Go.Vx.Rows} {K : V → Go.Vx.Rows → Prop} (ac : AC) (he : ac.erase = ac57) (hw : wpC Tryd.prog rows.length ac (retI [.tmp 4, .tmp 5] K) ⟨vals ++ List.replicate (19 - vals.length) (.tup []), rows⟩) : InlP Tryd.prog 57 vals rows K :=
  inl_of' Tryd.func57 rfl rfl rfl (cc57.trans (congrArg some he.symm)) hw
theorem gm57 {vals : List V} {v : V} {sz : Nat} {es es' : List (List V)} (ac : AC) (he : ac.erase = ac57) (hw : wpC Tryd.prog 1 ac (retM [.tmp 4, .tmp 5] v sz es') ⟨vals ++ List.replicate (19 - vals.length) (.tup []), [.live sz es]⟩) : CallM Tryd.prog 57 vals sz es v es' :=
  callM_of' Tryd.func57 rfl rfl rfl (cc57.trans (congrArg some he.symm)) hw

/-- testbench/lexer.lower -/
def ac58 : AC :=
  .seq (.reg 0 [⟨(some 2), 0, none, (.op (.mov (.k (.d (.bool false)))))⟩])
  (.seq (.reg 0 [⟨(some 3), 0, none, (.op (.mov (.t 0)))⟩,
    ⟨(some 4), 0, none, (.op (.bin .geq (.t 3) (.k (.d (.int .i32 97)))))⟩,
    ⟨(some 5), 0, none, (.op (.mov (.t 4)))⟩,
    ⟨(some 6), 0, (some (5, true)), (.op (.mov (.t 0)))⟩,
    ⟨(some 7), 0, (some (5, true)), (.op (.bin .leq (.t 6) (.k (.d (.int .i32 122)))))⟩,
    ⟨(some 8), 0, none, (.op (.pick (.t 5) (.t 7) (.k (.d (.bool false)))))⟩,
    ⟨(some 2), 0, none, (.op (.mov (.t 8)))⟩])
  (.ret))
theorem cc58 : Tryd.f58.body.bind (compC Tryd.prog) = some ac58 := by kernel_rfl
theorem go58 {vals : List V} {v : V} (ac : AC) (he : ac.erase = ac58) (hw : wpC Tryd.prog 0 ac (retQ [.tmp 2] v) ⟨vals ++ List.replicate (9 - vals.length) (.tup []), []⟩) : CallP Tryd.prog 58 vals v :=
  call_of Tryd.func58 rfl rfl rfl (cc58.trans (congrArg some he.symm)) hw
theorem gi58 {vals : List V} {rows : Go.Vx.Rows} {K : V → Go.Vx.Rows → Prop} (ac : AC) (he : ac.erase = ac58) (hw : wpC Tryd.prog rows.length ac (retI [.tmp 2] K) ⟨vals ++ List.replicate (9 - vals.length) (.tup []), rows⟩) : InlP Tryd.prog 58 vals rows K :=
  inl_of' Tryd.func58 rfl rfl rfl (cc58.trans (congrArg some he.symm)) hw
theorem gm58 {vals : List V} {v : V} {sz : Nat} {es es' : List (List V)} (ac : AC) (he : ac.erase = ac58) (hw : wpC Tryd.prog 1 ac (retM [.tmp 2] v sz es') ⟨vals ++ List.replicate (9 - vals.length) (.tup []), [.live sz es]⟩) : CallM Tryd.prog 58 vals sz es v es' :=
  callM_of' Tryd.func58 rfl rfl rfl (cc58.trans (congrArg some he.symm)) hw

/-- testbench/lexer.follows -/
def ac59 : AC :=
  .seq (.reg 0 [⟨(some 2), 0, none, (.op (.mov (.k (.d (.bool false)))))⟩])
  (.seq (.reg 0 [⟨(some 3), 0, none, (.op (.mov (.t 0)))⟩,
    ⟨(some 4), 0, none, (.call (.k (.fn (.func 58) [] [])) [(.t 3)])⟩,
    ⟨(some 5), 0, none, (.op (.mov (.t 4)))⟩,
    ⟨(some 6), 0, (some (5, false)), (.op (.mov (.t 0)))⟩,
    ⟨(some 7), 0, (some (5, false)), (.call (.k (.fn (.func 67) [] [])) [(.t 6)])⟩,
    ⟨(some 8), 0, none, (.op (.pick (.t 5) (.k (.d (.bool true))) (.t 7)))⟩,
    ⟨(some 9), 0, none, (.op (.mov (.t 8)))⟩,
    ⟨(some 10), 0, (some (9, false)), (.op (.mov (.t 0)))⟩,
    ⟨(some 11), 0, (some (9, false)), (.op (.bin .geq (.t 10) (.k (.d (.int .i32 65)))))⟩,
    ⟨(some 12), 0, (some (9, false)), (.op (.mov (.t 11)))⟩,
    ⟨(some 13), 0, (some (12, true)), (.op (.mov (.t 0)))⟩,
    ⟨(some 14), 0, (some (12, true)), (.op (.bin .leq (.t 13) (.k (.d (.int .i32 90)))))⟩,
    ⟨(some 15), 0, (some (9, false)), (.op (.pick (.t 12) (.t 14) (.k (.d (.bool false)))))⟩,
    ⟨(some 16), 0, none, (.op (.pick (.t 9) (.k (.d (.bool true))) (.t 15)))⟩,
    ⟨(some 17), 0, none, (.op (.mov (.t 16)))⟩,
    ⟨(some 18), 0, (some (17, false)), (.op (.mov (.t 0)))⟩,
    ⟨(some 19), 0, (some (17, false)), (.op (.bin .eql (.t 18) (.k (.d (.int .i32 95)))))⟩,
    ⟨(some 20), 0, none, (.op (.pick (.t 17) (.k (.d (.bool true))) (.t 19)))⟩,
    ⟨(some 2), 0, none, (.op (.mov (.t 20)))⟩])
  (.ret))
theorem cc59 : Tryd.f59.body.bind (compC Tryd.prog) = some ac59 := by kernel_rfl
theorem go59 {vals : List V} {v : V} (ac : AC) (he : ac.erase = ac59) (hw : wpC Tryd.prog 0 ac (retQ [.tmp 2] v) ⟨vals ++ List.replicate (21 - vals.length) (.tup []), []⟩) : CallP Tryd.prog 59 vals v :=
  call_of Tryd.func59 rfl rfl rfl (cc59.trans (congrArg some he.symm)) hw
theorem gi59 {vals : List V} {rows : Go.Vx.Rows} {K : V → Go.Vx.Rows → Prop} (ac : AC) (he : ac.erase = ac59) (hw : wpC Tryd.prog rows.length ac (retI [.tmp 2] K) ⟨vals ++ List.replicate (21 - vals.length) (.tup []), rows⟩) : InlP Tryd.prog 59 vals rows K :=
  inl_of' Tryd.func59 rfl rfl rfl (cc59.trans (congrArg some he.symm)) hw
theorem gm59 {vals : List V} {v : V} {sz : Nat} {es es' : List (List V)} (ac : AC) (he : ac.erase = ac59) (hw : wpC Tryd.prog 1 ac (retM [.tmp 2] v sz es') ⟨vals ++ List.replicate (21 - vals.length) (.tup []), [.live sz es]⟩) : CallM Tryd.prog 59 vals sz es v es' :=
  callM_of' Tryd.func59 rfl rfl rfl (cc59.trans (congrArg some he.symm)) hw

/-- slices.Contains[[]string,string] -/
def ac60 : AC :=
  .seq (.reg 0 [⟨(some 4), 0, none, (.op (.mov (.k (.d (.bool false)))))⟩])
  (.seq (.reg 0 [⟨(some 5), 0, none, (.op (.mov (.t 0)))⟩,
    ⟨(some 6), 0, none, (.op (.mov (.t 1)))⟩,
    ⟨(some 7), 0, none, (.call (.k (.fn (.func 68) [] [])) [(.t 5), (.t 6)])⟩,
    ⟨(some 8), 0, none, (.op (.bin .geq (.t 7) (.k (.d (.int .i64 0)))))⟩,
    ⟨(some 4), 0, none, (.op (.mov (.t 8)))⟩])
  (.ret))
theorem cc60 : Tryd.f60.body.bind (compC Tryd.prog) = some ac60 := by kernel_rfl
theorem go60 {vals : List V} {v : V} (ac : AC) (he : ac.erase = ac60) (hw : wpC Tryd.prog 0 ac (retQ [.tmp 4] v) ⟨vals ++ List.replicate (9 - vals.length) (.tup []), []⟩) : CallP Tryd.prog 60 vals v :=
  call_of Tryd.func60 rfl rfl rfl (cc60.trans (congrArg some he.symm)) hw
theorem gi60 {vals : List V} {rows : Go.Vx.Rows} {K : V → Go.Vx.Rows → Prop} (ac : AC) (he : ac.erase = ac60) (hw : wpC Tryd.prog rows.length ac (retI [.tmp 4] K) ⟨vals ++ List.replicate (9 - vals.length) (.tup []), rows⟩) : InlP Tryd.prog 60 vals rows K :=
  inl_of' Tryd.func60 rfl rfl rfl (cc60.trans (congrArg some he.symm)) hw
theorem gm60 {vals : List V} {v : V} {sz : Nat} {es es' : List (List V)} (ac : AC) (he : ac.erase = ac60) (hw : wpC Tryd.prog 1 ac (retM [.tmp 4] v sz es') ⟨vals ++ List.replicate (9 - vals.length) (.tup []), [.live sz es]⟩) : CallM Tryd.prog 60 vals sz es v es' :=
  callM_of' Tryd.func60 rfl rfl rfl (cc60.trans (congrArg some he.symm)) hw

/-- testbench/testbenchref07.has -/
def ac61 : AC :=
  .seq (.reg 0 [⟨(some 4), 0, none, (.op (.mov (.k (.d (.bool false)))))⟩])
  (.seq (.seq (.reg 0 [⟨(some 5), 0, none, (.op (.mov (.k (.d (.int .i64 0)))))⟩])
  (.block 0
   (.loop
    (.seq (.seq (.reg 0 [⟨(some 6), 0, none, (.op (.mov (.t 5)))⟩,
      ⟨(some 7), 0, none, (.op (.mov (.t 0)))⟩,
      ⟨(some 8), 0, none, (.op (.len false (.t 7)))⟩,
      ⟨(some 9), 0, none, (.op (.bin .lss (.t 6) (.t 8)))⟩])
    (.cond (.t 9)
      (.skip)
      (.exit 0)))
    (.seq (.block 1
     (.seq (.reg 0 [⟨(some 12), 0, none, (.op (.mov (.t 0)))⟩,
       ⟨(some 13), 0, none, (.op (.mov (.t 5)))⟩,
       ⟨(some 14), 0, none, (.op (.idxA 1 none (.t 12) (.t 13)))⟩,
       ⟨(some 15), 0, none, (.op (.load false 1 (.t 14)))⟩,
       ⟨(some 16), 0, none, (.op (.mov (.t 1)))⟩,
       ⟨(some 17), 0, none, (.op (.bin .eql (.t 15) (.t 16)))⟩])
     (.cond (.t 17)
       (.seq (.reg 0 [⟨(some 4), 0, none, (.op (.mov (.k (.d (.bool true)))))⟩])
       (.ret))
       (.skip))))
    (.reg 0 [⟨(some 10), 0, none, (.op (.mov (.t 5)))⟩,
      ⟨(some 11), 0, none, (.op (.bin .add (.t 10) (.k (.d (.int .i64 1)))))⟩,
      ⟨(some 5), 0, none, (.op (.mov (.t 11)))⟩]))))))
  (.seq (.reg 0 [⟨(some 4), 0, none, (.op (.mov (.k (.d (.bool false)))))⟩])
  (.ret)))
theorem cc61 : Tryd.f61.body.bind (compC Tryd.prog) = some ac61 := by kernel_rfl
theorem go61 {vals : List V} {v : V} (ac : AC) (he : ac.erase = ac61) (hw : wpC Tryd.prog 0 ac (retQ [.tmp 4] v) ⟨vals ++ List.replicate (18 - vals.length) (.tup []), []⟩) : CallP Tryd.prog 61 vals v :=
  call_of Tryd.func61 rfl rfl rfl (cc61.trans (congrArg some he.symm)) hw
theorem gi61 {vals : List V} {rows : Go.Vx.Rows} {K : V → Go.Vx.Rows → Prop} (ac : AC) (he : ac.erase = ac61) (hw : wpC Tryd.prog rows.length ac (retI [.tmp 4] K) ⟨vals ++ List.replicate (18 - vals.length) (.tup []), rows⟩) : InlP Tryd.prog 61 vals rows K :=
  inl_of' Tryd.func61 rfl rfl rfl (cc61.trans (congrArg some he.symm)) hw
theorem gm61 {vals : List V} {v : V} {sz : Nat} {es es' : List (List V)} (ac : AC) (he : ac.erase = ac61) (hw : wpC Tryd.prog 1 ac (retM [.tmp 4] v sz es') ⟨vals ++ List.replicate (18 - vals.length) (.tup []), [.live sz es]⟩) : CallM Tryd.prog 61 vals sz es v es' :=
  callM_of' Tryd.func61 rfl rfl rfl (cc61.trans (congrArg some he.symm)) hw

/-- testbench/testbenchref07.keywords -/
def ac62 : AC :=
  .seq (.reg 0 [⟨(some 0), 0, none, (.op (.mov (.k (.d .nils))))⟩])
  (.seq (.reg 1 [⟨(some 1), 0, none, (.op (.buildSl 1 24 [(.str [])] [(0, (.k (.d (.str [99, 108, 97, 115, 115])))), (1, (.k (.d (.str [101, 120, 116, 101, 110, 100, 115])))), (2, (.k (.d (.str [114, 97, 110, 100])))), (3, (.k (.d (.str [114, 97, 110, 100, 99])))), (4, (.k (.d (.str [115, 116, 97, 116, 101])))), (5, (.k (.d (.str [99, 111, 110, 115, 116, 114, 97, 105, 110, 116])))), (6, (.k (.d (.str [115, 111, 102, 116])))), (7, (.k (.d (.str [100, 105, 115, 116])))), (8, (.k (.d (.str [105, 102])))), (9, (.k (.d (.str [101, 108, 115, 101])))), (10, (.k (.d (.str [101, 97, 99, 104])))), (11, (.k (.d (.str [105, 110])))), (12, (.k (.d (.str [115, 111, 108, 118, 101])))), (13, (.k (.d (.str [98, 101, 102, 111, 114, 101])))), (14, (.k (.d (.str [105, 110, 115, 105, 100, 101])))), (15, (.k (.d (.str [112, 114, 111, 112, 101, 114, 116, 121])))), (16, (.k (.d (.str [115, 101, 113])))), (17, (.k (.d (.str [97, 110, 100])))), (18, (.k (.d (.str [111, 114])))), (19, (.k (.d (.str [110, 111, 116])))), (20, (.k (.d (.str [115, 101, 116])))), (21, (.k (.d (.str [104, 111, 108, 100])))), (22, (.k (.d (.str [112, 108, 97, 105, 110])))), (23, (.k (.d (.str [114, 101, 112, 101, 97, 116]))))]))⟩,
    ⟨(some 0), 1, none, (.op (.mov (.t 1)))⟩])
  (.ret))
theorem cc62 : Tryd.f62.body.bind (compC Tryd.prog) = some ac62 := by kernel_rfl
theorem go62 {vals : List V} {v : V} (ac : AC) (he : ac.erase = ac62) (hw : wpC Tryd.prog 0 ac (retQ [.tmp 0] v) ⟨vals ++ List.replicate (2 - vals.length) (.tup []), []⟩) : CallP Tryd.prog 62 vals v :=
  call_of Tryd.func62 rfl rfl rfl (cc62.trans (congrArg some he.symm)) hw
theorem gi62 {vals : List V} {rows : Go.Vx.Rows} {K : V → Go.Vx.Rows → Prop} (ac : AC) (he : ac.erase = ac62) (hw : wpC Tryd.prog rows.length ac (retI [.tmp 0] K) ⟨vals ++ List.replicate (2 - vals.length) (.tup []), rows⟩) : InlP Tryd.prog 62 vals rows K :=
  inl_of' Tryd.func62 rfl rfl rfl (cc62.trans (congrArg some he.symm)) hw
theorem gm62 {vals : List V} {v : V} {sz : Nat} {es es' : List (List V)} (ac : AC) (he : ac.erase = ac62) (hw : wpC Tryd.prog 1 ac (retM [.tmp 0] v sz es') ⟨vals ++ List.replicate (2 - vals.length) (.tup []), [.live sz es]⟩) : CallM Tryd.prog 62 vals sz es v es' :=
  callM_of' Tryd.func62 rfl rfl rfl (cc62.trans (congrArg some he.symm)) hw

/-- testbench/testbenchref07.digit -/
def ac63 : AC :=
  .seq (.reg 0 [⟨(some 2), 0, none, (.op (.mov (.k (.d (.bool false)))))⟩])
  (.seq (.reg 0 [⟨(some 3), 0, none, (.op (.mov (.t 0)))⟩,
    ⟨(some 4), 0, none, (.op (.bin .geq (.t 3) (.k (.d (.int .u8 48)))))⟩,
    ⟨(some 5), 0, none, (.op (.mov (.t 4)))⟩,
    ⟨(some 6), 0, (some (5, true)), (.op (.mov (.t 0)))⟩,
    ⟨(some 7), 0, (some (5, true)), (.op (.bin .leq (.t 6) (.k (.d (.int .u8 57)))))⟩,
    ⟨(some 8), 0, none, (.op (.pick (.t 5) (.t 7) (.k (.d (.bool false)))))⟩,
    ⟨(some 2), 0, none, (.op (.mov (.t 8)))⟩])
  (.ret))
theorem cc63 : Tryd.f63.body.bind (compC Tryd.prog) = some ac63 := by kernel_rfl
theorem go63 {vals : List V} {v : V} (ac : AC) (he : ac.erase = ac63) (hw : wpC Tryd.prog 0 ac (retQ [.tmp 2] v) ⟨vals ++ List.replicate (9 - vals.length) (.tup []), []⟩) : CallP Tryd.prog 63 vals v :=
  call_of Tryd.func63 rfl rfl rfl (cc63.trans (congrArg some he.symm)) hw
theorem gi63 {vals : List V} {rows : Go.Vx.Rows} {K : V → Go.Vx.Rows → Prop} (ac : AC) (he : ac.erase = ac63) (hw : wpC Tryd.prog rows.length ac (retI [.tmp 2] K) ⟨vals ++ List.replicate (9 - vals.length) (.tup []), rows⟩) : InlP Tryd.prog 63 vals rows K :=
  inl_of' Tryd.func63 rfl rfl rfl (cc63.trans (congrArg some he.symm)) hw
theorem gm63 {vals : List V} {v : V} {sz : Nat} {es es' : List (List V)} (ac : AC) (he : ac.erase = ac63) (hw : wpC Tryd.prog 1 ac (retM [.tmp 2] v sz es') ⟨vals ++ List.replicate (9 - vals.length) (.tup []), [.live sz es]⟩) : CallM Tryd.prog 63 vals sz es v es' :=
  callM_of' Tryd.func63 rfl rfl rfl (cc63.trans (congrArg some he.symm)) hw

/-- internal/stringslite.Index -/
def ac64 : AC :=
  .seq (.reg 0 [⟨(some 4), 0, none, (.op (.mov (.k (.d (.int .i64 0)))))⟩])
  (.seq (.reg 0 [⟨(some 14), 0, none, (.op (.mov (.t 1)))⟩,
    ⟨(some 15), 0, none, (.op (.len true (.t 14)))⟩,
    ⟨(some 5), 0, none, (.op (.mov (.t 15)))⟩])
  (.seq (.block 0
   (.seq (.reg 0 [⟨(some 17), 0, none, (.op (.mov (.t 5)))⟩,
     ⟨(some 18), 0, none, (.op (.bin .eql (.t 17) (.k (.d (.int .i64 0)))))⟩,
     ⟨(some 19), 0, none, (.op (.mov (.t 18)))⟩,
     ⟨(some 20), 0, (some (19, false)), (.op (.mov (.t 1)))⟩,
     ⟨(some 21), 0, (some (19, false)), (.op (.mov (.t 0)))⟩,
     ⟨(some 22), 0, (some (19, false)), (.op (.bin .eql (.t 20) (.t 21)))⟩,
     ⟨(some 23), 0, none, (.op (.pick (.t 19) (.k (.d (.bool true))) (.t 22)))⟩,
     ⟨(some 16), 0, none, (.op (.mov (.t 23)))⟩])
   (.cond (.t 16)
     (.seq (.reg 0 [⟨(some 4), 0, none, (.op (.mov (.k (.d (.int .i64 0)))))⟩])
     (.ret))
     (.seq (.reg 0 [⟨(some 25), 0, none, (.op (.mov (.t 5)))⟩,
       ⟨(some 26), 0, none, (.op (.bin .eql (.t 25) (.k (.d (.int .i64 1)))))⟩,
       ⟨(some 24), 0, none, (.op (.mov (.t 26)))⟩])
     (.cond (.t 24)
       (.seq (.reg 0 [⟨(some 27), 0, none, (.op (.mov (.t 0)))⟩,
         ⟨(some 28), 0, none, (.op (.mov (.t 1)))⟩,
         ⟨(some 29), 0, none, (.op (.idxS (.t 28) (.k (.d (.int .i64 0)))))⟩,
         ⟨(some 30), 0, none, (.call (.k (.fn (.func 69) [] [])) [(.t 27), (.t 29)])⟩,
         ⟨(some 4), 0, none, (.op (.mov (.t 30)))⟩])
       (.ret))
       (.seq (.reg 0 [⟨(some 32), 0, none, (.op (.mov (.t 5)))⟩,
         ⟨(some 33), 0, none, (.op (.mov (.t 0)))⟩,
         ⟨(some 34), 0, none, (.op (.len true (.t 33)))⟩,
         ⟨(some 35), 0, none, (.op (.bin .geq (.t 32) (.t 34)))⟩,
         ⟨(some 31), 0, none, (.op (.mov (.t 35)))⟩])
       (.cond (.t 31)
         (.seq (.reg 0 [⟨(some 4), 0, none, (.op (.mov (.k (.d (.int .i64 (-1))))))⟩])
         (.ret))
         (.seq (.reg 0 [⟨(some 37), 0, none, (.op (.mov (.t 5)))⟩,
           ⟨(some 38), 0, none, (.op (.bad))⟩,
           ⟨(some 39), 0, none, (.op (.bin .leq (.t 37) (.t 38)))⟩,
           ⟨(some 40), 0, none, (.op (.mov (.t 39)))⟩,
           ⟨(some 41), 0, (some (40, true)), (.op (.mov (.t 0)))⟩,
           ⟨(some 42), 0, (some (40, true)), (.op (.len true (.t 41)))⟩,
           ⟨(some 43), 0, (some (40, true)), (.op (.bin .leq (.t 42) (.k (.d (.int .i64 64)))))⟩,
           ⟨(some 44), 0, none, (.op (.pick (.t 40) (.t 43) (.k (.d (.bool false)))))⟩,
           ⟨(some 36), 0, none, (.op (.mov (.t 44)))⟩])
         (.cond (.t 36)
           (.seq (.reg 0 [⟨(some 45), 0, none, (.op (.mov (.t 0)))⟩,
             ⟨(some 46), 0, none, (.op (.mov (.t 1)))⟩,
             ⟨(some 47), 0, none, (.call (.k (.fn (.func 70) [] [])) [(.t 45), (.t 46)])⟩,
             ⟨(some 4), 0, none, (.op (.mov (.t 47)))⟩])
           (.ret))
           (.skip))))))))))
  (.seq (.reg 0 [⟨(some 48), 0, none, (.op (.mov (.t 1)))⟩,
    ⟨(some 49), 0, none, (.op (.idxS (.t 48) (.k (.d (.int .i64 0)))))⟩,
    ⟨(some 6), 0, none, (.op (.mov (.t 49)))⟩])
  (.seq (.reg 0 [⟨(some 50), 0, none, (.op (.mov (.t 1)))⟩,
    ⟨(some 51), 0, none, (.op (.idxS (.t 50) (.k (.d (.int .i64 1)))))⟩,
    ⟨(some 7), 0, none, (.op (.mov (.t 51)))⟩])
  (.seq (.reg 0 [⟨(some 8), 0, none, (.op (.mov (.k (.d (.int .i64 0)))))⟩])
  (.seq (.reg 0 [⟨(some 52), 0, none, (.op (.mov (.t 0)))⟩,
    ⟨(some 53), 0, none, (.op (.len true (.t 52)))⟩,
    ⟨(some 54), 0, none, (.op (.mov (.t 5)))⟩,
    ⟨(some 55), 0, none, (.op (.bin .sub (.t 53) (.t 54)))⟩,
    ⟨(some 56), 0, none, (.op (.bin .add (.t 55) (.k (.d (.int .i64 1)))))⟩,
    ⟨(some 9), 0, none, (.op (.mov (.t 56)))⟩])
  (.seq (.reg 0 [⟨(some 10), 0, none, (.op (.mov (.k (.d (.int .i64 0)))))⟩])
  (.seq (.block 1
   (.loop
    (.seq (.seq (.reg 0 [⟨(some 57), 0, none, (.op (.mov (.t 8)))⟩,
      ⟨(some 58), 0, none, (.op (.mov (.t 9)))⟩,
      ⟨(some 59), 0, none, (.op (.bin .lss (.t 57) (.t 58)))⟩])
    (.cond (.t 59)
      (.skip)
      (.exit 1)))
    (.block 2
     (.seq (.seq (.reg 0 [⟨(some 60), 0, none, (.op (.mov (.t 0)))⟩,
       ⟨(some 61), 0, none, (.op (.mov (.t 8)))⟩,
       ⟨(some 62), 0, none, (.op (.idxS (.t 60) (.t 61)))⟩,
       ⟨(some 63), 0, none, (.op (.mov (.t 6)))⟩,
       ⟨(some 64), 0, none, (.op (.bin .neq (.t 62) (.t 63)))⟩])
     (.cond (.t 64)
       (.seq (.reg 0 [⟨(some 65), 0, none, (.op (.mov (.t 0)))⟩,
         ⟨(some 66), 0, none, (.op (.mov (.t 8)))⟩,
         ⟨(some 67), 0, none, (.op (.bin .add (.t 66) (.k (.d (.int .i64 1)))))⟩,
         ⟨(some 68), 0, none, (.op (.mov (.t 9)))⟩,
         ⟨(some 69), 0, none, (.op (.slice 0 (.t 65) (some (.t 67)) (some (.t 68))))⟩,
         ⟨(some 70), 0, none, (.op (.mov (.t 6)))⟩,
         ⟨(some 71), 0, none, (.call (.k (.fn (.func 69) [] [])) [(.t 69), (.t 70)])⟩,
         ⟨(some 11), 0, none, (.op (.mov (.t 71)))⟩])
       (.seq (.seq (.reg 0 [⟨(some 72), 0, none, (.op (.mov (.t 11)))⟩,
         ⟨(some 73), 0, none, (.op (.bin .lss (.t 72) (.k (.d (.int .i64 0)))))⟩])
       (.cond (.t 73)
         (.seq (.reg 0 [⟨(some 4), 0, none, (.op (.mov (.k (.d (.int .i64 (-1))))))⟩])
         (.ret))
         (.skip)))
       (.reg 0 [⟨(some 74), 0, none, (.op (.mov (.t 8)))⟩,
         ⟨(some 75), 0, none, (.op (.mov (.t 11)))⟩,
         ⟨(some 76), 0, none, (.op (.bin .add (.t 75) (.k (.d (.int .i64 1)))))⟩,
         ⟨(some 77), 0, none, (.op (.bin .add (.t 74) (.t 76)))⟩,
         ⟨(some 8), 0, none, (.op (.mov (.t 77)))⟩])))
       (.skip)))
     (.seq (.seq (.reg 0 [⟨(some 78), 0, none, (.op (.mov (.t 0)))⟩,
       ⟨(some 79), 0, none, (.op (.mov (.t 8)))⟩,
       ⟨(some 80), 0, none, (.op (.bin .add (.t 79) (.k (.d (.int .i64 1)))))⟩,
       ⟨(some 81), 0, none, (.op (.idxS (.t 78) (.t 80)))⟩,
       ⟨(some 82), 0, none, (.op (.mov (.t 7)))⟩,
       ⟨(some 83), 0, none, (.op (.bin .eql (.t 81) (.t 82)))⟩,
       ⟨(some 84), 0, none, (.op (.mov (.t 83)))⟩,
       ⟨(some 85), 0, (some (84, true)), (.op (.mov (.t 0)))⟩,
       ⟨(some 86), 0, (some (84, true)), (.op (.mov (.t 8)))⟩,
       ⟨(some 87), 0, (some (84, true)), (.op (.mov (.t 8)))⟩,
       ⟨(some 88), 0, (some (84, true)), (.op (.mov (.t 5)))⟩,
       ⟨(some 89), 0, (some (84, true)), (.op (.bin .add (.t 87) (.t 88)))⟩,
       ⟨(some 90), 0, (some (84, true)), (.op (.slice 0 (.t 85) (some (.t 86)) (some (.t 89))))⟩,
       ⟨(some 91), 0, (some (84, true)), (.op (.mov (.t 1)))⟩,
       ⟨(some 92), 0, (some (84, true)), (.op (.bin .eql (.t 90) (.t 91)))⟩,
       ⟨(some 93), 0, none, (.op (.pick (.t 84) (.t 92) (.k (.d (.bool false)))))⟩])
     (.cond (.t 93)
       (.seq (.reg 0 [⟨(some 94), 0, none, (.op (.mov (.t 8)))⟩,
         ⟨(some 4), 0, none, (.op (.mov (.t 94)))⟩])
       (.ret))
       (.skip)))
     (.seq (.reg 0 [⟨(some 95), 0, none, (.op (.mov (.t 8)))⟩,
       ⟨(some 96), 0, none, (.op (.bin .add (.t 95) (.k (.d (.int .i64 1)))))⟩,
       ⟨(some 8), 0, none, (.op (.mov (.t 96)))⟩])
     (.seq (.reg 0 [⟨(some 97), 0, none, (.op (.mov (.t 10)))⟩,
       ⟨(some 98), 0, none, (.op (.bin .add (.t 97) (.k (.d (.int .i64 1)))))⟩,
       ⟨(some 10), 0, none, (.op (.mov (.t 98)))⟩])
     (.seq (.reg 0 [⟨(some 99), 0, none, (.op (.mov (.t 5)))⟩,
       ⟨(some 100), 0, none, (.op (.bad))⟩,
       ⟨(some 101), 0, none, (.op (.bin .leq (.t 99) (.t 100)))⟩,
       ⟨(some 102), 0, none, (.op (.mov (.t 101)))⟩,
       ⟨(some 103), 0, (some (102, true)), (.op (.mov (.t 10)))⟩,
       ⟨(some 104), 0, (some (102, true)), (.op (.mov (.t 8)))⟩,
       ⟨(some 105), 0, (some (102, true)), (.call (.k (.fn (.func 71) [] [])) [(.t 104)])⟩,
       ⟨(some 106), 0, (some (102, true)), (.op (.bin .gtr (.t 103) (.t 105)))⟩,
       ⟨(some 107), 0, none, (.op (.pick (.t 102) (.t 106) (.k (.d (.bool false)))))⟩])
     (.cond (.t 107)
       (.seq (.reg 0 [⟨(some 108), 0, none, (.op (.mov (.t 0)))⟩,
         ⟨(some 109), 0, none, (.op (.mov (.t 8)))⟩,
         ⟨(some 110), 0, none, (.op (.slice 0 (.t 108) (some (.t 109)) none))⟩,
         ⟨(some 111), 0, none, (.op (.mov (.t 1)))⟩,
         ⟨(some 112), 0, none, (.call (.k (.fn (.func 70) [] [])) [(.t 110), (.t 111)])⟩,
         ⟨(some 12), 0, none, (.op (.mov (.t 112)))⟩])
       (.seq (.seq (.reg 0 [⟨(some 113), 0, none, (.op (.mov (.t 12)))⟩,
         ⟨(some 114), 0, none, (.op (.bin .geq (.t 113) (.k (.d (.int .i64 0)))))⟩])
       (.cond (.t 114)
         (.seq (.reg 0 [⟨(some 115), 0, none, (.op (.mov (.t 12)))⟩,
           ⟨(some 116), 0, none, (.op (.mov (.t 8)))⟩,
           ⟨(some 117), 0, none, (.op (.bin .add (.t 115) (.t 116)))⟩,
           ⟨(some 4), 0, none, (.op (.mov (.t 117)))⟩])
         (.ret))
         (.skip)))
       (.seq (.reg 0 [⟨(some 4), 0, none, (.op (.mov (.k (.d (.int .i64 (-1))))))⟩])
       (.ret))))
       (.seq (.reg 0 [⟨(some 118), 0, none, (.op (.mov (.t 5)))⟩,
         ⟨(some 119), 0, none, (.op (.bad))⟩,
         ⟨(some 120), 0, none, (.op (.bin .gtr (.t 118) (.t 119)))⟩,
         ⟨(some 121), 0, none, (.op (.mov (.t 120)))⟩,
         ⟨(some 122), 0, (some (121, true)), (.op (.mov (.t 10)))⟩,
         ⟨(some 123), 0, (some (121, true)), (.op (.mov (.t 8)))⟩,
         ⟨(some 124), 0, (some (121, true)), (.op (.bin .shr (.t 123) (.k (.d (.int .u64 4)))))⟩,
         ⟨(some 125), 0, (some (121, true)), (.op (.bin .add (.k (.d (.int .i64 4))) (.t 124)))⟩,
         ⟨(some 126), 0, (some (121, true)), (.op (.bin .geq (.t 122) (.t 125)))⟩,
         ⟨(some 127), 0, none, (.op (.pick (.t 121) (.t 126) (.k (.d (.bool false)))))⟩,
         ⟨(some 128), 0, none, (.op (.mov (.t 127)))⟩,
         ⟨(some 129), 0, (some (128, true)), (.op (.mov (.t 8)))⟩,
         ⟨(some 130), 0, (some (128, true)), (.op (.mov (.t 9)))⟩,
         ⟨(some 131), 0, (some (128, true)), (.op (.bin .lss (.t 129) (.t 130)))⟩,
         ⟨(some 132), 0, none, (.op (.pick (.t 128) (.t 131) (.k (.d (.bool false)))))⟩])
       (.cond (.t 132)
         (.seq (.reg 0 [⟨(some 133), 0, none, (.op (.mov (.t 0)))⟩,
           ⟨(some 134), 0, none, (.op (.mov (.t 8)))⟩,
           ⟨(some 135), 0, none, (.op (.slice 0 (.t 133) (some (.t 134)) none))⟩,
           ⟨(some 136), 0, none, (.op (.mov (.t 1)))⟩,
           ⟨(some 137), 0, none, (.call (.k (.fn (.func 72) [] [])) [(.t 135), (.t 136)])⟩,
           ⟨(some 13), 0, none, (.op (.mov (.t 137)))⟩])
         (.seq (.seq (.reg 0 [⟨(some 138), 0, none, (.op (.mov (.t 13)))⟩,
           ⟨(some 139), 0, none, (.op (.bin .lss (.t 138) (.k (.d (.int .i64 0)))))⟩])
         (.cond (.t 139)
           (.seq (.reg 0 [⟨(some 4), 0, none, (.op (.mov (.k (.d (.int .i64 (-1))))))⟩])
           (.ret))
           (.skip)))
         (.seq (.reg 0 [⟨(some 140), 0, none, (.op (.mov (.t 8)))⟩,
           ⟨(some 141), 0, none, (.op (.mov (.t 13)))⟩,
           ⟨(some 142), 0, none, (.op (.bin .add (.t 140) (.t 141)))⟩,
           ⟨(some 4), 0, none, (.op (.mov (.t 142)))⟩])
         (.ret))))
         (.skip)))))))))))))
  (.seq (.reg 0 [⟨(some 4), 0, none, (.op (.mov (.k (.d (.int .i64 (-1))))))⟩])
  (.ret))))))))))
theorem cc64 : Tryd.f64.body.bind (compC Tryd.prog) = some ac64 := by kernel_rfl
theorem go64 {vals : List V} {v : V} (ac : AC) (he : ac.erase = ac64) (hw : wpC Tryd.prog 0 ac (retQ [.tmp 4] v) ⟨vals ++ List.replicate (143 - vals.length) (.tup []), []⟩) : CallP Tryd.prog 64 vals v :=
  call_of Tryd.func64 rfl rfl rfl (cc64.trans (congrArg some he.symm)) hw
theorem gi64 {vals : List V} {rows : Go.Vx.Rows} {K : V → Go.Vx.Rows → Prop} (ac : AC) (he : ac.erase = ac64) (hw : wpC Tryd.prog rows.length ac (retI [.tmp 4] K) ⟨vals ++ List.replicate (143 - vals.length) (.tup []), rows⟩) : InlP Tryd.prog 64 vals rows K :=
  inl_of' Tryd.func64 rfl rfl rfl (cc64.trans (congrArg some he.symm)) hw
theorem gm64 {vals : List V} {v : V} {sz : Nat} {es es' : List (List V)} (ac : AC) (he : ac.erase = ac64) (hw : wpC Tryd.prog 1 ac (retM [.tmp 4] v sz es') ⟨vals ++ List.replicate (143 - vals.length) (.tup []), [.live sz es]⟩) : CallM Tryd.prog 64 vals sz es v es' :=
  callM_of' Tryd.func64 rfl rfl rfl (cc64.trans (congrArg some he.symm)) hw

/-- testbench/num.signed -/
def ac65 : AC :=
  .seq (.reg 0 [⟨(some 4), 0, none, (.op (.mov (.k (.d (.int .i64 0)))))⟩,
    ⟨(some 5), 0, none, (.op (.mov (.k (.d (.int .i64 0)))))⟩])
  (.seq (.block 0
   (.seq (.reg 0 [⟨(some 7), 0, none, (.op (.mov (.t 0)))⟩,
     ⟨(some 8), 0, none, (.op (.mov (.t 7)))⟩,
     ⟨(some 9), 0, (some (8, true)), (.op (.mov (.t 1)))⟩,
     ⟨(some 10), 0, (some (8, true)), (.op (.bin .leq (.t 9) (.k (.d (.int .u64 9223372036854775808)))))⟩,
     ⟨(some 11), 0, none, (.op (.pick (.t 8) (.t 10) (.k (.d (.bool false)))))⟩,
     ⟨(some 6), 0, none, (.op (.mov (.t 11)))⟩])
   (.cond (.t 6)
     (.seq (.reg 0 [⟨(some 12), 0, none, (.op (.mov (.t 1)))⟩,
       ⟨(some 13), 0, none, (.op (.un .neg (.t 12)))⟩,
       ⟨(some 14), 0, none, (.op (.conv .i64 (.t 13)))⟩,
       ⟨(some 4), 0, none, (.op (.mov (.t 14)))⟩,
       ⟨(some 5), 0, none, (.op (.mov (.k (.d (.int .i64 0)))))⟩])
     (.ret))
     (.seq (.reg 0 [⟨(some 16), 0, none, (.op (.mov (.t 0)))⟩,
       ⟨(some 17), 0, none, (.op (.un .not (.t 16)))⟩,
       ⟨(some 18), 0, none, (.op (.mov (.t 17)))⟩,
       ⟨(some 19), 0, (some (18, true)), (.op (.mov (.t 1)))⟩,
       ⟨(some 20), 0, (some (18, true)), (.op (.bin .lss (.t 19) (.k (.d (.int .u64 9223372036854775808)))))⟩,
       ⟨(some 21), 0, none, (.op (.pick (.t 18) (.t 20) (.k (.d (.bool false)))))⟩,
       ⟨(some 15), 0, none, (.op (.mov (.t 21)))⟩])
     (.cond (.t 15)
       (.seq (.reg 0 [⟨(some 22), 0, none, (.op (.mov (.t 1)))⟩,
         ⟨(some 23), 0, none, (.op (.conv .i64 (.t 22)))⟩,
         ⟨(some 4), 0, none, (.op (.mov (.t 23)))⟩,
         ⟨(some 5), 0, none, (.op (.mov (.k (.d (.int .i64 0)))))⟩])
       (.ret))
       (.skip))))))
  (.seq (.reg 0 [⟨(some 4), 0, none, (.op (.mov (.k (.d (.int .i64 0)))))⟩,
    ⟨(some 5), 0, none, (.op (.mov (.k (.d (.int .i64 3)))))⟩])
  (.ret)))
theorem cc65 : Tryd.f65.body.bind (compC Tryd.prog) = some ac65 := by kernel_rfl
theorem go65 {vals : List V} {v : V} (ac : AC) (he : ac.erase = ac65) (hw : wpC Tryd.prog 0 ac (retQ [.tmp 4, .tmp 5] v) ⟨vals ++ List.replicate (24 - vals.length) (.tup []), []⟩) : CallP Tryd.prog 65 vals v :=
  call_of Tryd.func65 rfl rfl rfl (cc65.trans (congrArg some he.symm)) hw
theorem gi65 {vals : List V} {rows : Go.Vx.Rows} {K : V → Go.Vx.Rows → Prop} (ac : AC) (he : ac.erase = ac65) (hw : wpC Tryd.prog rows.length ac (retI [.tmp 4, .tmp 5] K) ⟨vals ++ List.replicate (24 - vals.length) (.tup []), rows⟩) : InlP Tryd.prog 65 vals rows K :=
  inl_of' Tryd.func65 rfl rfl rfl (cc65.trans (congrArg some he.symm)) hw
theorem gm65 {vals : List V} {v : V} {sz : Nat} {es es' : List (List V)} (ac : AC) (he : ac.erase = ac65) (hw : wpC Tryd.prog 1 ac (retM [.tmp 4, .tmp 5] v sz es') ⟨vals ++ List.replicate (24 - vals.length) (.tup []), [.live sz es]⟩) : CallM Tryd.prog 65 vals sz es v es' :=
  callM_of' Tryd.func65 rfl rfl rfl (cc65.trans (congrArg some he.symm)) hw

/-- testbench/testbenchref01.Add -/
def ac66 : AC :=
  .seq (.reg 0 [⟨(some 4), 0, none, (.op (.mov (.k (.d (.int .i64 0)))))⟩,
    ⟨(some 5), 0, none, (.op (.mov (.k (.d (.int .i64 0)))))⟩])
  (.seq (.reg 0 [⟨(some 7), 0, none, (.op (.mov (.t 0)))⟩,
    ⟨(some 8), 0, none, (.op (.mov (.t 1)))⟩,
    ⟨(some 9), 0, none, (.op (.bin .add (.t 7) (.t 8)))⟩,
    ⟨(some 6), 0, none, (.op (.mov (.t 9)))⟩])
  (.seq (.seq (.reg 0 [⟨(some 10), 0, none, (.op (.mov (.t 0)))⟩,
    ⟨(some 11), 0, none, (.op (.bin .gtr (.t 10) (.k (.d (.int .i64 0)))))⟩,
    ⟨(some 12), 0, none, (.op (.mov (.t 11)))⟩,
    ⟨(some 13), 0, (some (12, true)), (.op (.mov (.t 1)))⟩,
    ⟨(some 14), 0, (some (12, true)), (.op (.bin .gtr (.t 13) (.k (.d (.int .i64 0)))))⟩,
    ⟨(some 15), 0, none, (.op (.pick (.t 12) (.t 14) (.k (.d (.bool false)))))⟩,
    ⟨(some 16), 0, none, (.op (.mov (.t 15)))⟩,
    ⟨(some 17), 0, (some (16, true)), (.op (.mov (.t 6)))⟩,
    ⟨(some 18), 0, (some (16, true)), (.op (.bin .lss (.t 17) (.k (.d (.int .i64 0)))))⟩,
    ⟨(some 19), 0, none, (.op (.pick (.t 16) (.t 18) (.k (.d (.bool false)))))⟩,
    ⟨(some 20), 0, none, (.op (.mov (.t 19)))⟩,
    ⟨(some 21), 0, (some (20, false)), (.op (.mov (.t 0)))⟩,
    ⟨(some 22), 0, (some (20, false)), (.op (.bin .lss (.t 21) (.k (.d (.int .i64 0)))))⟩,
    ⟨(some 23), 0, (some (20, false)), (.op (.mov (.t 22)))⟩,
    ⟨(some 24), 0, (some (23, true)), (.op (.mov (.t 1)))⟩,
    ⟨(some 25), 0, (some (23, true)), (.op (.bin .lss (.t 24) (.k (.d (.int .i64 0)))))⟩,
    ⟨(some 26), 0, (some (20, false)), (.op (.pick (.t 23) (.t 25) (.k (.d (.bool false)))))⟩,
    ⟨(some 27), 0, (some (20, false)), (.op (.mov (.t 26)))⟩,
    ⟨(some 28), 0, (some (27, true)), (.op (.mov (.t 6)))⟩,
    ⟨(some 29), 0, (some (27, true)), (.op (.bin .geq (.t 28) (.k (.d (.int .i64 0)))))⟩,
    ⟨(some 30), 0, (some (20, false)), (.op (.pick (.t 27) (.t 29) (.k (.d (.bool false)))))⟩,
    ⟨(some 31), 0, none, (.op (.pick (.t 20) (.k (.d (.bool true))) (.t 30)))⟩])
  (.cond (.t 31)
    (.seq (.reg 0 [⟨(some 4), 0, none, (.op (.mov (.k (.d (.int .i64 0)))))⟩,
      ⟨(some 5), 0, none, (.op (.mov (.k (.d (.int .i64 3)))))⟩])
    (.ret))
    (.skip)))
  (.seq (.reg 0 [⟨(some 32), 0, none, (.op (.mov (.t 6)))⟩,
    ⟨(some 4), 0, none, (.op (.mov (.t 32)))⟩,
    ⟨(some 5), 0, none, (.op (.mov (.k (.d (.int .i64 0)))))⟩])
  (.ret))))
theorem cc66 : Tryd.f66.body.bind (compC Tryd.prog) = some ac66 := by kernel_rfl
theorem go66 {vals : List V} {v : V} (ac : AC) (he : ac.erase = ac66) (hw : wpC Tryd.prog 0 ac (retQ [.tmp 4, .tmp 5] v) ⟨vals ++ List.replicate (33 - vals.length) (.tup []), []⟩) : CallP Tryd.prog 66 vals v :=
  call_of Tryd.func66 rfl rfl rfl (cc66.trans (congrArg some he.symm)) hw
theorem gi66 {vals : List V} {rows : Go.Vx.Rows} {K : V → Go.Vx.Rows → Prop} (ac : AC) (he : ac.erase = ac66) (hw : wpC Tryd.prog rows.length ac (retI [.tmp 4, .tmp 5] K) ⟨vals ++ List.replicate (33 - vals.length) (.tup []), rows⟩) : InlP Tryd.prog 66 vals rows K :=
  inl_of' Tryd.func66 rfl rfl rfl (cc66.trans (congrArg some he.symm)) hw
theorem gm66 {vals : List V} {v : V} {sz : Nat} {es es' : List (List V)} (ac : AC) (he : ac.erase = ac66) (hw : wpC Tryd.prog 1 ac (retM [.tmp 4, .tmp 5] v sz es') ⟨vals ++ List.replicate (33 - vals.length) (.tup []), [.live sz es]⟩) : CallM Tryd.prog 66 vals sz es v es' :=
  callM_of' Tryd.func66 rfl rfl rfl (cc66.trans (congrArg some he.symm)) hw

/-- testbench/lexer.digit -/
def ac67 : AC :=
  .seq (.reg 0 [⟨(some 2), 0, none, (.op (.mov (.k (.d (.bool false)))))⟩])
  (.seq (.reg 0 [⟨(some 3), 0, none, (.op (.mov (.t 0)))⟩,
    ⟨(some 4), 0, none, (.op (.bin .geq (.t 3) (.k (.d (.int .i32 48)))))⟩,
    ⟨(some 5), 0, none, (.op (.mov (.t 4)))⟩,
    ⟨(some 6), 0, (some (5, true)), (.op (.mov (.t 0)))⟩,
    ⟨(some 7), 0, (some (5, true)), (.op (.bin .leq (.t 6) (.k (.d (.int .i32 57)))))⟩,
    ⟨(some 8), 0, none, (.op (.pick (.t 5) (.t 7) (.k (.d (.bool false)))))⟩,
    ⟨(some 2), 0, none, (.op (.mov (.t 8)))⟩])
  (.ret))
theorem cc67 : Tryd.f67.body.bind (compC Tryd.prog) = some ac67 := by kernel_rfl
theorem go67 {vals : List V} {v : V} (ac : AC) (he : ac.erase = ac67) (hw : wpC Tryd.prog 0 ac (retQ [.tmp 2] v) ⟨vals ++ List.replicate (9 - vals.length) (.tup []), []⟩) : CallP Tryd.prog 67 vals v :=
  call_of Tryd.func67 rfl rfl rfl (cc67.trans (congrArg some he.symm)) hw
theorem gi67 {vals : List V} {rows : Go.Vx.Rows} {K : V → Go.Vx.Rows → Prop} (ac : AC) (he : ac.erase = ac67) (hw : wpC Tryd.prog rows.length ac (retI [.tmp 2] K) ⟨vals ++ List.replicate (9 - vals.length) (.tup []), rows⟩) : InlP Tryd.prog 67 vals rows K :=
  inl_of' Tryd.func67 rfl rfl rfl (cc67.trans (congrArg some he.symm)) hw
theorem gm67 {vals : List V} {v : V} {sz : Nat} {es es' : List (List V)} (ac : AC) (he : ac.erase = ac67) (hw : wpC Tryd.prog 1 ac (retM [.tmp 2] v sz es') ⟨vals ++ List.replicate (9 - vals.length) (.tup []), [.live sz es]⟩) : CallM Tryd.prog 67 vals sz es v es' :=
  callM_of' Tryd.func67 rfl rfl rfl (cc67.trans (congrArg some he.symm)) hw

/-- slices.Index[[]string,string] -/
def ac68 : AC :=
  .seq (.reg 0 [⟨(some 4), 0, none, (.op (.mov (.k (.d (.int .i64 0)))))⟩])
  (.seq (.seq (.reg 0 [⟨(some 6), 0, none, (.op (.mov (.t 0)))⟩,
    ⟨(some 7), 0, none, (.op (.len false (.t 6)))⟩,
    ⟨(some 8), 0, none, (.op (.mov (.k (.d (.int .i64 0)))))⟩])
  (.block 0
   (.loop
    (.seq (.reg 0 [⟨(some 9), 0, none, (.op (.bin .lss (.t 8) (.t 7)))⟩])
    (.seq (.cond (.t 9)
      (.skip)
      (.exit 0))
    (.seq (.block 1
     (.seq (.reg 0 [⟨(some 10), 0, none, (.op (.mov (.t 8)))⟩,
       ⟨(some 5), 0, none, (.op (.mov (.t 10)))⟩])
     (.seq (.reg 0 [⟨(some 11), 0, none, (.op (.mov (.t 1)))⟩,
       ⟨(some 12), 0, none, (.op (.mov (.t 0)))⟩,
       ⟨(some 13), 0, none, (.op (.mov (.t 5)))⟩,
       ⟨(some 14), 0, none, (.op (.idxA 1 none (.t 12) (.t 13)))⟩,
       ⟨(some 15), 0, none, (.op (.load false 1 (.t 14)))⟩,
       ⟨(some 16), 0, none, (.op (.bin .eql (.t 11) (.t 15)))⟩])
     (.cond (.t 16)
       (.seq (.reg 0 [⟨(some 17), 0, none, (.op (.mov (.t 5)))⟩,
         ⟨(some 4), 0, none, (.op (.mov (.t 17)))⟩])
       (.ret))
       (.skip)))))
    (.reg 0 [⟨(some 18), 0, none, (.op (.bin .add (.t 8) (.k (.d (.int .i64 1)))))⟩,
      ⟨(some 8), 0, none, (.op (.mov (.t 18)))⟩])))))))
  (.seq (.reg 0 [⟨(some 4), 0, none, (.op (.mov (.k (.d (.int .i64 (-1))))))⟩])
  (.ret)))
theorem cc68 : Tryd.f68.body.bind (compC Tryd.prog) = some ac68 := by kernel_rfl
theorem go68 {vals : List V} {v : V} (ac : AC) (he : ac.erase = ac68) (hw : wpC Tryd.prog 0 ac (retQ [.tmp 4] v) ⟨vals ++ List.replicate (19 - vals.length) (.tup []), []⟩) : CallP Tryd.prog 68 vals v :=
  call_of Tryd.func68 rfl rfl rfl (cc68.trans (congrArg some he.symm)) hw
theorem gi68 {vals : List V} {rows : Go.Vx.Rows} {K : V → Go.Vx.Rows → Prop} (ac : AC) (he : ac.erase = ac68) (hw : wpC Tryd.prog rows.length ac (retI [.tmp 4] K) ⟨vals ++ List.replicate (19 - vals.length) (.tup []), rows⟩) : InlP Tryd.prog 68 vals rows K :=
  inl_of' Tryd.func68 rfl rfl rfl (cc68.trans (congrArg some he.symm)) hw
theorem gm68 {vals : List V} {v : V} {sz : Nat} {es es' : List (List V)} (ac : AC) (he : ac.erase = ac68) (hw : wpC Tryd.prog 1 ac (retM [.tmp 4] v sz es') ⟨vals ++ List.replicate (19 - vals.length) (.tup []), [.live sz es]⟩) : CallM Tryd.prog 68 vals sz es v es' :=
  callM_of' Tryd.func68 rfl rfl rfl (cc68.trans (congrArg some he.symm)) hw

/-- internal/stringslite.IndexByte -/
def ac69 : AC :=
  .seq (.reg 0 [⟨(some 4), 0, none, (.op (.mov (.k (.d (.int .i64 0)))))⟩])
  (.seq (.reg 0 [⟨(some 5), 0, none, (.op (.mov (.t 0)))⟩,
    ⟨(some 6), 0, none, (.op (.mov (.t 1)))⟩,
    ⟨(some 7), 0, none, (.op (.idxB (.t 5) (.t 6)))⟩,
    ⟨(some 4), 0, none, (.op (.mov (.t 7)))⟩])
  (.ret))
theorem cc69 : Tryd.f69.body.bind (compC Tryd.prog) = some ac69 := by kernel_rfl
theorem go69 {vals : List V} {v : V} (ac : AC) (he : ac.erase = ac69) (hw : wpC Tryd.prog 0 ac (retQ [.tmp 4] v) ⟨vals ++ List.replicate (8 - vals.length) (.tup []), []⟩) : CallP Tryd.prog 69 vals v :=
  call_of Tryd.func69 rfl rfl rfl (cc69.trans (congrArg some he.symm)) hw
theorem gi69 {vals : List V} {rows : Go.Vx.Rows} {K : V → Go.Vx.Rows → Prop} (ac : AC) (he : ac.erase = ac69) (hw : wpC Tryd.prog rows.length ac (retI [.tmp 4] K) ⟨vals ++ List.replicate (8 - vals.length) (.tup []), rows⟩) : InlP Tryd.prog 69 vals rows K :=
  inl_of' Tryd.func69 rfl rfl rfl (cc69.trans (congrArg some he.symm)) hw
theorem gm69 {vals : List V} {v : V} {sz : Nat} {es es' : List (List V)} (ac : AC) (he : ac.erase = ac69) (hw : wpC Tryd.prog 1 ac (retM [.tmp 4] v sz es') ⟨vals ++ List.replicate (8 - vals.length) (.tup []), [.live sz es]⟩) : CallM Tryd.prog 69 vals sz es v es' :=
  callM_of' Tryd.func69 rfl rfl rfl (cc69.trans (congrArg some he.symm)) hw

/-- the functions -/
def tab : Tab := tabOf [(3, ac3, 44, [.tmp 4]), (4, ac4, 87, [.tmp 6]), (5, ac5, 62, [.tmp 2]), (6, ac6, 178, [.tmp 2]), (7, ac7, 96, [.tmp 6]), (8, ac8, 52, [.tmp 6]), (9, ac9, 42, [.tmp 2]), (10, ac10, 88, [.tmp 0]), (11, ac11, 15, [.tmp 2]), (12, ac12, 16, [.tmp 2]), (13, ac13, 39, [.tmp 2]), (14, ac14, 31, [.tmp 2]), (15, ac15, 6, [.tmp 2]), (16, ac16, 6, [.tmp 2]), (17, ac17, 17, [.tmp 2]), (18, ac18, 12, [.tmp 2]), (19, ac19, 42, [.tmp 4, .tmp 5]), (20, ac20, 38, [.tmp 4, .tmp 5]), (21, ac21, 20, [.tmp 4]), (22, ac22, 20, [.tmp 4]), (23, ac23, 52, [.tmp 2]), (24, ac24, 58, [.tmp 2]), (25, ac25, 5, [.cell 2 true 11]), (26, ac26, 47, [.tmp 2, .tmp 3, .tmp 4]), (27, ac27, 53, [.tmp 2]), (28, ac28, 24, [.tmp 2, .tmp 3, .tmp 4]), (29, ac29, 15, [.tmp 2]), (30, ac30, 9, [.tmp 2]), (31, ac31, 32, [.tmp 2]), (32, ac32, 9, [.tmp 2]), (33, ac33, 10, [.tmp 2]), (34, ac34, 5, [.tmp 2]), (35, ac35, 19, [.tmp 2]), (36, ac36, 10, [.tmp 2]), (37, ac37, 10, [.tmp 2]), (38, ac38, 5, [.tmp 2]), (39, ac39, 19, [.tmp 2]), (40, ac40, 16, [.tmp 2]), (41, ac41, 13, [.tmp 4, .tmp 5, .tmp 6]), (42, ac42, 13, [.tmp 2]), (43, ac43, 16, [.tmp 2]), (44, ac44, 70, [.tmp 2, .tmp 3]), (45, ac45, 13, [.tmp 2]), (46, ac46, 25, [.tmp 2]), (47, ac47, 6, [.tmp 2]), (48, ac48, 9, [.tmp 2]), (49, ac49, 6, [.tmp 2]), (50, ac50, 21, [.tmp 2]), (51, ac51, 27, [.tmp 4]), (52, ac52, 24, [.tmp 4]), (53, ac53, 23, [.tmp 4, .tmp 5, .tmp 6]), (54, ac54, 80, [.tmp 2, .tmp 3]), (55, ac55, 23, [.tmp 2]), (56, ac56, 38, [.tmp 4, .tmp 5]), (57, ac57, 19, [.tmp 4, .tmp 5]), (58, ac58, 9, [.tmp 2]), (59, ac59, 21, [.tmp 2]), (60, ac60, 9, [.tmp 4]), (61, ac61, 18, [.tmp 4]), (62, ac62, 2, [.tmp 0]), (63, ac63, 9, [.tmp 2]), (64, ac64, 143, [.tmp 4]), (65, ac65, 24, [.tmp 4, .tmp 5]), (66, ac66, 33, [.tmp 4, .tmp 5]), (67, ac67, 9, [.tmp 2]), (68, ac68, 19, [.tmp 4]), (69, ac69, 8, [.tmp 4])]
theorem tab_ok : TabOk Tryd.prog tab :=
  tabOf_cons (fun _ _ h => go3 ac3 rfl h) (tabOf_cons (fun _ _ h => go4 ac4 rfl h) (tabOf_cons (fun _ _ h => go5 ac5 rfl h) (tabOf_cons (fun _ _ h => go6 ac6 rfl h) (tabOf_cons (fun _ _ h => go7 ac7 rfl h) (tabOf_cons (fun _ _ h => go8 ac8 rfl h) (tabOf_cons (fun _ _ h => go9 ac9 rfl h) (tabOf_cons (fun _ _ h => go10 ac10 rfl h) (tabOf_cons (fun _ _ h => go11 ac11 rfl h) (tabOf_cons (fun _ _ h => go12 ac12 rfl h) (tabOf_cons (fun _ _ h => go13 ac13 rfl h) (tabOf_cons (fun _ _ h => go14 ac14 rfl h) (tabOf_cons (fun _ _ h => go15 ac15 rfl h) (tabOf_cons (fun _ _ h => go16 ac16 rfl h) (tabOf_cons (fun _ _ h => go17 ac17 rfl h) (tabOf_cons (fun _ _ h => go18 ac18 rfl h) (tabOf_cons (fun _ _ h => go19 ac19 rfl h) (tabOf_cons (fun _ _ h => go20 ac20 rfl h) (tabOf_cons (fun _ _ h => go21 ac21 rfl h) (tabOf_cons (fun _ _ h => go22 ac22 rfl h) (tabOf_cons (fun _ _ h => go23 ac23 rfl h) (tabOf_cons (fun _ _ h => go24 ac24 rfl h) (tabOf_cons (fun _ _ h => go25 ac25 rfl h) (tabOf_cons (fun _ _ h => go26 ac26 rfl h) (tabOf_cons (fun _ _ h => go27 ac27 rfl h) (tabOf_cons (fun _ _ h => go28 ac28 rfl h) (tabOf_cons (fun _ _ h => go29 ac29 rfl h) (tabOf_cons (fun _ _ h => go30 ac30 rfl h) (tabOf_cons (fun _ _ h => go31 ac31 rfl h) (tabOf_cons (fun _ _ h => go32 ac32 rfl h) (tabOf_cons (fun _ _ h => go33 ac33 rfl h) (tabOf_cons (fun _ _ h => go34 ac34 rfl h) (tabOf_cons (fun _ _ h => go35 ac35 rfl h) (tabOf_cons (fun _ _ h => go36 ac36 rfl h) (tabOf_cons (fun _ _ h => go37 ac37 rfl h) (tabOf_cons (fun _ _ h => go38 ac38 rfl h) (tabOf_cons (fun _ _ h => go39 ac39 rfl h) (tabOf_cons (fun _ _ h => go40 ac40 rfl h) (tabOf_cons (fun _ _ h => go41 ac41 rfl h) (tabOf_cons (fun _ _ h => go42 ac42 rfl h) (tabOf_cons (fun _ _ h => go43 ac43 rfl h) (tabOf_cons (fun _ _ h => go44 ac44 rfl h) (tabOf_cons (fun _ _ h => go45 ac45 rfl h) (tabOf_cons (fun _ _ h => go46 ac46 rfl h) (tabOf_cons (fun _ _ h => go47 ac47 rfl h) (tabOf_cons (fun _ _ h => go48 ac48 rfl h) (tabOf_cons (fun _ _ h => go49 ac49 rfl h) (tabOf_cons (fun _ _ h => go50 ac50 rfl h) (tabOf_cons (fun _ _ h => go51 ac51 rfl h) (tabOf_cons (fun _ _ h => go52 ac52 rfl h) (tabOf_cons (fun _ _ h => go53 ac53 rfl h) (tabOf_cons (fun _ _ h => go54 ac54 rfl h) (tabOf_cons (fun _ _ h => go55 ac55 rfl h) (tabOf_cons (fun _ _ h => go56 ac56 rfl h) (tabOf_cons (fun _ _ h => go57 ac57 rfl h) (tabOf_cons (fun _ _ h => go58 ac58 rfl h) (tabOf_cons (fun _ _ h => go59 ac59 rfl h) (tabOf_cons (fun _ _ h => go60 ac60 rfl h) (tabOf_cons (fun _ _ h => go61 ac61 rfl h) (tabOf_cons (fun _ _ h => go62 ac62 rfl h) (tabOf_cons (fun _ _ h => go63 ac63 rfl h) (tabOf_cons (fun _ _ h => go64 ac64 rfl h) (tabOf_cons (fun _ _ h => go65 ac65 rfl h) (tabOf_cons (fun _ _ h => go66 ac66 rfl h) (tabOf_cons (fun _ _ h => go67 ac67 rfl h) (tabOf_cons (fun _ _ h => go68 ac68 rfl h) (tabOf_cons (fun _ _ h => go69 ac69 rfl h) (tabOf_nil)))))))))))))))))))))))))))))))))))))))))))))))))))))))))))))))))))
end Go.Proofs.Sg
