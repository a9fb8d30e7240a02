import Derived.Test.YtkbjfoodikoppaaDoorVxEv
import Derived.KernelRfl
import Derived.Test.YtkbjfoodikoppaaDoorProg
set_option linter.unusedSectionVars false
set_option linter.unusedSimpArgs false
set_option linter.unusedVariables false
namespace Go.Proofs.Mn
open Go.Vx

/-- testbench/testbenchlaw37.MonitorTransfers -/
def ac3 : AC :=
  .seq (.reg 2 [⟨(some 2), 0, none, (.op (.box 2 (.t 0)))⟩,
    ⟨(some 3), 1, none, (.op (.box 3 (.t 1)))⟩,
    ⟨(some 4), 2, none, (.op (.mov (.k (.d (.bool false)))))⟩])
  (.seq (.seq (.reg 0 [⟨(some 13), 0, none, (.op (.load true 2 (.t 2)))⟩,
    ⟨(some 14), 0, none, (.op (.load true 3 (.t 3)))⟩,
    ⟨(some 15), 0, none, (.op (.load true 3 (.t 3)))⟩,
    ⟨(some 16), 0, none, (.call (.k (.fn (.func 9) [] [])) [(.t 13), (.t 14), (.t 15)])⟩,
    ⟨(some 17), 0, none, (.op (.un .not (.t 16)))⟩])
  (.cond (.t 17)
    (.seq (.reg 0 [⟨(some 18), 0, none, (.call (.k (.fn (.func 10) [] [])) [])⟩,
      ⟨(some 4), 0, none, (.op (.mov (.t 18)))⟩])
    (.ret))
    (.skip)))
  (.seq (.reg 0 [⟨(some 20), 0, none, (.op (.load true 2 (.t 2)))⟩,
    ⟨(some 21), 0, none, (.op (.load true 3 (.t 3)))⟩,
    ⟨(some 22), 0, none, (.call (.k (.fn (.func 11) [] [])) [(.t 20), (.t 21)])⟩,
    ⟨(some 19), 0, none, (.op (.mov (.t 22)))⟩,
    ⟨(some 23), 0, none, (.op (.ext (.t 19) 0))⟩,
    ⟨(some 24), 0, none, (.op (.ext (.t 19) 1))⟩,
    ⟨(some 5), 0, none, (.op (.mov (.t 23)))⟩,
    ⟨(some 6), 0, none, (.op (.mov (.t 24)))⟩])
  (.seq (.reg 0 [⟨(some 26), 0, none, (.op (.load true 2 (.t 2)))⟩,
    ⟨(some 27), 0, none, (.op (.load true 3 (.t 3)))⟩,
    ⟨(some 28), 0, none, (.call (.k (.fn (.func 12) [] [])) [(.t 26), (.t 27)])⟩,
    ⟨(some 25), 0, none, (.op (.mov (.t 28)))⟩,
    ⟨(some 29), 0, none, (.op (.ext (.t 25) 0))⟩,
    ⟨(some 30), 0, none, (.op (.ext (.t 25) 1))⟩,
    ⟨(some 7), 0, none, (.op (.mov (.t 29)))⟩,
    ⟨(some 8), 0, none, (.op (.mov (.t 30)))⟩])
  (.seq (.reg 0 [⟨(some 32), 0, none, (.op (.load true 2 (.t 2)))⟩,
    ⟨(some 33), 0, none, (.op (.load true 3 (.t 3)))⟩,
    ⟨(some 34), 0, none, (.call (.k (.fn (.func 13) [] [])) [(.t 32), (.t 33)])⟩,
    ⟨(some 31), 0, none, (.op (.mov (.t 34)))⟩,
    ⟨(some 35), 0, none, (.op (.ext (.t 31) 0))⟩,
    ⟨(some 36), 0, none, (.op (.ext (.t 31) 1))⟩,
    ⟨(some 9), 0, none, (.op (.mov (.t 35)))⟩,
    ⟨(some 10), 0, none, (.op (.mov (.t 36)))⟩])
  (.seq (.reg 0 [⟨(some 38), 0, none, (.op (.load true 2 (.t 2)))⟩,
    ⟨(some 39), 0, none, (.op (.load true 3 (.t 3)))⟩,
    ⟨(some 40), 0, none, (.call (.k (.fn (.func 14) [] [])) [(.t 38), (.t 39)])⟩,
    ⟨(some 37), 0, none, (.op (.mov (.t 40)))⟩,
    ⟨(some 41), 0, none, (.op (.ext (.t 37) 0))⟩,
    ⟨(some 42), 0, none, (.op (.ext (.t 37) 1))⟩,
    ⟨(some 11), 0, none, (.op (.mov (.t 41)))⟩,
    ⟨(some 12), 0, none, (.op (.mov (.t 42)))⟩])
  (.seq (.regD 0 [(⟨(some 43), 0, none, (.op (.load true 3 (.t 3)))⟩, []),
    (⟨(some 44), 0, none, (.call (.k (.fn (.func 15) [] [])) [(.t 43)])⟩, [0]),
    (⟨(some 45), 0, none, (.op (.load true 3 (.t 3)))⟩, []),
    (⟨(some 46), 0, none, (.call (.k (.fn (.func 16) [] [])) [(.t 45)])⟩, [2, 1, 0]),
    (⟨(some 47), 0, none, (.op (.eqB false (.t 44) (.t 46)))⟩, [1, 0, 3, 2]),
    (⟨(some 48), 0, none, (.op (.mov (.t 47)))⟩, [4, 1, 0, 3, 2]),
    (⟨(some 49), 0, (some (48, true)), (.op (.mov (.t 5)))⟩, [5, 4, 1, 0, 3, 2]),
    (⟨(some 50), 0, (some (48, true)), (.op (.mov (.t 7)))⟩, [5, 4, 1, 0, 3, 2]),
    (⟨(some 51), 0, (some (48, true)), (.call (.k (.fn (.func 17) [] [])) [(.t 49), (.t 50)])⟩, [6, 5, 4, 1, 0, 3, 2, 7]),
    (⟨(some 52), 0, none, (.op (.pick (.t 48) (.t 51) (.k (.d (.bool false)))))⟩, [5, 4, 1, 0, 3, 2, 8, 6, 7]),
    (⟨(some 53), 0, none, (.op (.mov (.t 52)))⟩, [9, 5, 4, 1, 0, 3, 2, 8, 6, 7]),
    (⟨(some 54), 0, (some (53, true)), (.op (.mov (.t 6)))⟩, [10, 9, 5, 4, 1, 0, 3, 2, 8, 6, 7]),
    (⟨(some 55), 0, (some (53, true)), (.op (.mov (.t 8)))⟩, [10, 9, 5, 4, 1, 0, 3, 2, 8, 6, 7]),
    (⟨(some 56), 0, (some (53, true)), (.op (.bin .eql (.t 54) (.t 55)))⟩, [11, 10, 9, 5, 4, 1, 0, 3, 2, 8, 6, 7, 12]),
    (⟨(some 57), 0, none, (.op (.pick (.t 53) (.t 56) (.k (.d (.bool false)))))⟩, [10, 9, 5, 4, 1, 0, 3, 2, 8, 6, 7, 13, 11, 12]),
    (⟨(some 58), 0, none, (.op (.mov (.t 57)))⟩, [14, 10, 9, 5, 4, 1, 0, 3, 2, 8, 6, 7, 13, 11, 12]),
    (⟨(some 59), 0, (some (58, true)), (.op (.mov (.t 9)))⟩, [15, 14, 10, 9, 5, 4, 1, 0, 3, 2, 8, 6, 7, 13, 11, 12]),
    (⟨(some 60), 0, (some (58, true)), (.op (.mov (.t 11)))⟩, [15, 14, 10, 9, 5, 4, 1, 0, 3, 2, 8, 6, 7, 13, 11, 12]),
    (⟨(some 61), 0, (some (58, true)), (.call (.k (.fn (.func 18) [] [])) [(.t 59), (.t 60)])⟩, [16, 15, 14, 10, 9, 5, 4, 1, 0, 3, 2, 8, 6, 7, 13, 11, 12, 17]),
    (⟨(some 62), 0, none, (.op (.pick (.t 58) (.t 61) (.k (.d (.bool false)))))⟩, [15, 14, 10, 9, 5, 4, 1, 0, 3, 2, 8, 6, 7, 13, 11, 12, 18, 16, 17]),
    (⟨(some 63), 0, none, (.op (.mov (.t 62)))⟩, [19, 15, 14, 10, 9, 5, 4, 1, 0, 3, 2, 8, 6, 7, 13, 11, 12, 18, 16, 17]),
    (⟨(some 64), 0, (some (63, true)), (.op (.mov (.t 10)))⟩, [20, 19, 15, 14, 10, 9, 5, 4, 1, 0, 3, 2, 8, 6, 7, 13, 11, 12, 18, 16, 17]),
    (⟨(some 65), 0, (some (63, true)), (.op (.mov (.t 12)))⟩, [20, 19, 15, 14, 10, 9, 5, 4, 1, 0, 3, 2, 8, 6, 7, 13, 11, 12, 18, 16, 17]),
    (⟨(some 66), 0, (some (63, true)), (.op (.bin .eql (.t 64) (.t 65)))⟩, [21, 20, 19, 15, 14, 10, 9, 5, 4, 1, 0, 3, 2, 8, 6, 7, 13, 11, 12, 18, 16, 17, 22]),
    (⟨(some 67), 0, none, (.op (.pick (.t 63) (.t 66) (.k (.d (.bool false)))))⟩, [20, 19, 15, 14, 10, 9, 5, 4, 1, 0, 3, 2, 8, 6, 7, 13, 11, 12, 18, 16, 17, 23, 21, 22]),
    (⟨(some 68), 0, none, (.op (.mov (.t 67)))⟩, [24, 20, 19, 15, 14, 10, 9, 5, 4, 1, 0, 3, 2, 8, 6, 7, 13, 11, 12, 18, 16, 17, 23, 21, 22]),
    (⟨(some 69), 0, (some (68, true)), (.call (.k (.fn (.func 10) [] [])) [])⟩, [25, 24, 20, 19, 15, 14, 10, 9, 5, 4, 1, 0, 3, 2, 8, 6, 7, 13, 11, 12, 18, 16, 17, 23, 21, 22]),
    (⟨(some 70), 0, none, (.op (.pick (.t 68) (.t 69) (.k (.d (.bool false)))))⟩, [25, 24, 20, 19, 15, 14, 10, 9, 5, 4, 1, 0, 3, 2, 8, 6, 7, 13, 11, 12, 18, 16, 17, 23, 21, 22, 26]),
    (⟨(some 4), 0, none, (.op (.mov (.t 70)))⟩, [27, 25, 24, 20, 19, 15, 14, 10, 9, 5, 4, 1, 0, 3, 2, 8, 6, 7, 13, 11, 12, 18, 16, 17, 23, 21, 22, 26])])
  (.ret)))))))
theorem cc3 : Tryd.f3.body.bind (compC Tryd.prog) = some ac3 := by kernel_rfl
theorem go3 {vals : List V} {v : V} (ac : AC) (he : ac.erase = ac3) (hw : wpC Tryd.prog 0 ac (retQ [.tmp 4] v) ⟨vals ++ List.replicate (71 - vals.length) (.tup []), []⟩) : CallP Tryd.prog 3 vals v :=
  call_of Tryd.func3 rfl rfl rfl (cc3.trans (congrArg some he.symm)) hw
/-- testbench/testbenchlaw37.MonitorStable -/
def ac4 : AC :=
  .seq (.reg 3 [⟨(some 3), 0, none, (.op (.box 2 (.t 0)))⟩,
    ⟨(some 4), 1, none, (.op (.box 3 (.t 1)))⟩,
    ⟨(some 5), 2, none, (.op (.box 3 (.t 2)))⟩,
    ⟨(some 6), 3, none, (.op (.mov (.k (.d (.bool false)))))⟩])
  (.seq (.seq (.reg 0 [⟨(some 15), 0, none, (.op (.load true 2 (.t 3)))⟩,
    ⟨(some 16), 0, none, (.op (.load true 3 (.t 4)))⟩,
    ⟨(some 17), 0, none, (.op (.load true 3 (.t 5)))⟩,
    ⟨(some 18), 0, none, (.call (.k (.fn (.func 9) [] [])) [(.t 15), (.t 16), (.t 17)])⟩,
    ⟨(some 19), 0, none, (.op (.un .not (.t 18)))⟩])
  (.cond (.t 19)
    (.seq (.reg 0 [⟨(some 20), 0, none, (.call (.k (.fn (.func 10) [] [])) [])⟩,
      ⟨(some 6), 0, none, (.op (.mov (.t 20)))⟩])
    (.ret))
    (.skip)))
  (.seq (.reg 0 [⟨(some 22), 0, none, (.op (.load true 2 (.t 3)))⟩,
    ⟨(some 23), 0, none, (.op (.load true 3 (.t 4)))⟩,
    ⟨(some 24), 0, none, (.call (.k (.fn (.func 19) [] [])) [(.t 22), (.t 23)])⟩,
    ⟨(some 21), 0, none, (.op (.mov (.t 24)))⟩,
    ⟨(some 25), 0, none, (.op (.ext (.t 21) 0))⟩,
    ⟨(some 26), 0, none, (.op (.ext (.t 21) 1))⟩,
    ⟨(some 7), 0, none, (.op (.mov (.t 25)))⟩,
    ⟨(some 8), 0, none, (.op (.mov (.t 26)))⟩])
  (.seq (.reg 0 [⟨(some 28), 0, none, (.op (.load true 2 (.t 3)))⟩,
    ⟨(some 29), 0, none, (.op (.load true 3 (.t 4)))⟩,
    ⟨(some 30), 0, none, (.call (.k (.fn (.func 20) [] [])) [(.t 28), (.t 29)])⟩,
    ⟨(some 27), 0, none, (.op (.mov (.t 30)))⟩,
    ⟨(some 31), 0, none, (.op (.ext (.t 27) 0))⟩,
    ⟨(some 32), 0, none, (.op (.ext (.t 27) 1))⟩,
    ⟨(some 9), 0, none, (.op (.mov (.t 31)))⟩,
    ⟨(some 10), 0, none, (.op (.mov (.t 32)))⟩])
  (.seq (.reg 0 [⟨(some 34), 0, none, (.op (.load true 2 (.t 3)))⟩,
    ⟨(some 35), 0, none, (.op (.load true 3 (.t 4)))⟩,
    ⟨(some 36), 0, none, (.op (.load true 3 (.t 5)))⟩,
    ⟨(some 37), 0, none, (.call (.k (.fn (.func 21) [] [])) [(.t 34), (.t 35), (.t 36)])⟩,
    ⟨(some 33), 0, none, (.op (.mov (.t 37)))⟩,
    ⟨(some 38), 0, none, (.op (.ext (.t 33) 0))⟩,
    ⟨(some 39), 0, none, (.op (.ext (.t 33) 1))⟩,
    ⟨(some 11), 0, none, (.op (.mov (.t 38)))⟩,
    ⟨(some 12), 0, none, (.op (.mov (.t 39)))⟩])
  (.seq (.reg 0 [⟨(some 41), 0, none, (.op (.load true 2 (.t 3)))⟩,
    ⟨(some 42), 0, none, (.op (.load true 3 (.t 4)))⟩,
    ⟨(some 43), 0, none, (.op (.load true 3 (.t 5)))⟩,
    ⟨(some 44), 0, none, (.call (.k (.fn (.func 22) [] [])) [(.t 41), (.t 42), (.t 43)])⟩,
    ⟨(some 40), 0, none, (.op (.mov (.t 44)))⟩,
    ⟨(some 45), 0, none, (.op (.ext (.t 40) 0))⟩,
    ⟨(some 46), 0, none, (.op (.ext (.t 40) 1))⟩,
    ⟨(some 13), 0, none, (.op (.mov (.t 45)))⟩,
    ⟨(some 14), 0, none, (.op (.mov (.t 46)))⟩])
  (.seq (.reg 0 [⟨(some 47), 0, none, (.op (.mov (.t 7)))⟩,
    ⟨(some 48), 0, none, (.op (.mov (.t 9)))⟩,
    ⟨(some 49), 0, none, (.op (.bin .eql (.t 47) (.t 48)))⟩,
    ⟨(some 50), 0, none, (.op (.mov (.t 49)))⟩,
    ⟨(some 51), 0, (some (50, true)), (.op (.mov (.t 8)))⟩,
    ⟨(some 52), 0, (some (50, true)), (.op (.mov (.t 10)))⟩,
    ⟨(some 53), 0, (some (50, true)), (.op (.bin .eql (.t 51) (.t 52)))⟩,
    ⟨(some 54), 0, none, (.op (.pick (.t 50) (.t 53) (.k (.d (.bool false)))))⟩,
    ⟨(some 55), 0, none, (.op (.mov (.t 54)))⟩,
    ⟨(some 56), 0, (some (55, true)), (.op (.mov (.t 11)))⟩,
    ⟨(some 57), 0, (some (55, true)), (.op (.mov (.t 13)))⟩,
    ⟨(some 58), 0, (some (55, true)), (.call (.k (.fn (.func 18) [] [])) [(.t 56), (.t 57)])⟩,
    ⟨(some 59), 0, none, (.op (.pick (.t 55) (.t 58) (.k (.d (.bool false)))))⟩,
    ⟨(some 60), 0, none, (.op (.mov (.t 59)))⟩,
    ⟨(some 61), 0, (some (60, true)), (.op (.mov (.t 12)))⟩,
    ⟨(some 62), 0, (some (60, true)), (.op (.mov (.t 14)))⟩,
    ⟨(some 63), 0, (some (60, true)), (.op (.bin .eql (.t 61) (.t 62)))⟩,
    ⟨(some 64), 0, none, (.op (.pick (.t 60) (.t 63) (.k (.d (.bool false)))))⟩,
    ⟨(some 65), 0, none, (.op (.mov (.t 64)))⟩,
    ⟨(some 66), 0, (some (65, true)), (.call (.k (.fn (.func 10) [] [])) [])⟩,
    ⟨(some 67), 0, none, (.op (.pick (.t 65) (.t 66) (.k (.d (.bool false)))))⟩,
    ⟨(some 6), 0, none, (.op (.mov (.t 67)))⟩])
  (.ret)))))))
theorem cc4 : Tryd.f4.body.bind (compC Tryd.prog) = some ac4 := by kernel_rfl
theorem go4 {vals : List V} {v : V} (ac : AC) (he : ac.erase = ac4) (hw : wpC Tryd.prog 0 ac (retQ [.tmp 6] v) ⟨vals ++ List.replicate (68 - vals.length) (.tup []), []⟩) : CallP Tryd.prog 4 vals v :=
  call_of Tryd.func4 rfl rfl rfl (cc4.trans (congrArg some he.symm)) hw
/-- testbench/testbenchlaw37.MonitorSees -/
def ac5 : AC :=
  .seq (.reg 2 [⟨(some 2), 0, none, (.op (.box 2 (.t 0)))⟩,
    ⟨(some 3), 1, none, (.op (.box 3 (.t 1)))⟩,
    ⟨(some 4), 2, none, (.op (.mov (.k (.d (.bool false)))))⟩])
  (.seq (.seq (.reg 0 [⟨(some 12), 0, none, (.op (.load true 2 (.t 2)))⟩,
    ⟨(some 13), 0, none, (.op (.load true 3 (.t 3)))⟩,
    ⟨(some 14), 0, none, (.op (.load true 3 (.t 3)))⟩,
    ⟨(some 15), 0, none, (.call (.k (.fn (.func 9) [] [])) [(.t 12), (.t 13), (.t 14)])⟩,
    ⟨(some 16), 0, none, (.op (.un .not (.t 15)))⟩])
  (.cond (.t 16)
    (.seq (.reg 0 [⟨(some 17), 0, none, (.call (.k (.fn (.func 10) [] [])) [])⟩,
      ⟨(some 4), 0, none, (.op (.mov (.t 17)))⟩])
    (.ret))
    (.skip)))
  (.seq (.reg 0 [⟨(some 19), 0, none, (.op (.load true 2 (.t 2)))⟩,
    ⟨(some 20), 0, none, (.op (.load true 3 (.t 3)))⟩,
    ⟨(some 21), 0, none, (.call (.k (.fn (.func 11) [] [])) [(.t 19), (.t 20)])⟩,
    ⟨(some 18), 0, none, (.op (.mov (.t 21)))⟩,
    ⟨(some 22), 0, none, (.op (.ext (.t 18) 0))⟩,
    ⟨(some 23), 0, none, (.op (.ext (.t 18) 1))⟩,
    ⟨(some 5), 0, none, (.op (.mov (.t 22)))⟩,
    ⟨(some 6), 0, none, (.op (.mov (.t 23)))⟩])
  (.seq (.reg 0 [⟨(some 25), 0, none, (.op (.load true 2 (.t 2)))⟩,
    ⟨(some 26), 0, none, (.op (.load true 3 (.t 3)))⟩,
    ⟨(some 27), 0, none, (.call (.k (.fn (.func 13) [] [])) [(.t 25), (.t 26)])⟩,
    ⟨(some 24), 0, none, (.op (.mov (.t 27)))⟩,
    ⟨(some 28), 0, none, (.op (.ext (.t 24) 0))⟩,
    ⟨(some 29), 0, none, (.op (.ext (.t 24) 1))⟩,
    ⟨(some 7), 0, none, (.op (.mov (.t 28)))⟩,
    ⟨(some 8), 0, none, (.op (.mov (.t 29)))⟩])
  (.seq (.seq (.reg 0 [⟨(some 30), 0, none, (.op (.mov (.t 6)))⟩,
    ⟨(some 31), 0, none, (.op (.bin .neq (.t 30) (.k (.d (.int .i64 0)))))⟩])
  (.cond (.t 31)
    (.seq (.reg 0 [⟨(some 32), 0, none, (.op (.mov (.t 8)))⟩,
      ⟨(some 33), 0, none, (.op (.mov (.t 6)))⟩,
      ⟨(some 34), 0, none, (.op (.bin .eql (.t 32) (.t 33)))⟩,
      ⟨(some 35), 0, none, (.op (.mov (.t 34)))⟩,
      ⟨(some 36), 0, (some (35, true)), (.op (.mov (.t 5)))⟩,
      ⟨(some 37), 0, (some (35, true)), (.op (.len false (.t 36)))⟩,
      ⟨(some 38), 0, (some (35, true)), (.op (.bin .eql (.t 37) (.k (.d (.int .i64 0)))))⟩,
      ⟨(some 39), 0, none, (.op (.pick (.t 35) (.t 38) (.k (.d (.bool false)))))⟩,
      ⟨(some 40), 0, none, (.op (.mov (.t 39)))⟩,
      ⟨(some 41), 0, (some (40, true)), (.op (.mov (.t 7)))⟩,
      ⟨(some 42), 0, (some (40, true)), (.op (.len false (.t 41)))⟩,
      ⟨(some 43), 0, (some (40, true)), (.op (.bin .eql (.t 42) (.k (.d (.int .i64 0)))))⟩,
      ⟨(some 44), 0, none, (.op (.pick (.t 40) (.t 43) (.k (.d (.bool false)))))⟩,
      ⟨(some 45), 0, none, (.op (.mov (.t 44)))⟩,
      ⟨(some 46), 0, (some (45, true)), (.call (.k (.fn (.func 10) [] [])) [])⟩,
      ⟨(some 47), 0, none, (.op (.pick (.t 45) (.t 46) (.k (.d (.bool false)))))⟩,
      ⟨(some 4), 0, none, (.op (.mov (.t 47)))⟩])
    (.ret))
    (.skip)))
  (.seq (.seq (.reg 0 [⟨(some 48), 0, none, (.op (.mov (.t 8)))⟩,
    ⟨(some 49), 0, none, (.op (.bin .neq (.t 48) (.k (.d (.int .i64 0)))))⟩,
    ⟨(some 50), 0, none, (.op (.mov (.t 49)))⟩,
    ⟨(some 51), 0, (some (50, false)), (.op (.mov (.t 5)))⟩,
    ⟨(some 52), 0, (some (50, false)), (.op (.len false (.t 51)))⟩,
    ⟨(some 53), 0, (some (50, false)), (.op (.mov (.t 7)))⟩,
    ⟨(some 54), 0, (some (50, false)), (.op (.len false (.t 53)))⟩,
    ⟨(some 55), 0, (some (50, false)), (.op (.bin .neq (.t 52) (.t 54)))⟩,
    ⟨(some 56), 0, none, (.op (.pick (.t 50) (.k (.d (.bool true))) (.t 55)))⟩])
  (.cond (.t 56)
    (.seq (.reg 0 [⟨(some 4), 0, none, (.op (.mov (.k (.d (.bool false)))))⟩])
    (.ret))
    (.skip)))
  (.seq (.reg 0 [⟨(some 9), 0, none, (.op (.mov (.k (.d (.int .i64 0)))))⟩])
  (.seq (.seq (.reg 0 [⟨(some 10), 0, none, (.op (.mov (.k (.d (.int .i64 0)))))⟩])
  (.block 0
   (.loop
    (.seq (.seq (.reg 0 [⟨(some 57), 0, none, (.op (.mov (.t 10)))⟩,
      ⟨(some 58), 0, none, (.op (.fldA 1 (.t 2)))⟩,
      ⟨(some 59), 0, none, (.op (.load false 1 (.t 58)))⟩,
      ⟨(some 60), 0, none, (.op (.len false (.t 59)))⟩,
      ⟨(some 61), 0, none, (.op (.bin .lss (.t 57) (.t 60)))⟩])
    (.cond (.t 61)
      (.skip)
      (.exit 0)))
    (.seq (.block 1
     (.seq (.seq (.reg 0 [⟨(some 64), 0, none, (.op (.load true 2 (.t 2)))⟩,
       ⟨(some 65), 0, none, (.op (.fldA 0 (.t 3)))⟩,
       ⟨(some 66), 0, none, (.op (.load false 1 (.t 65)))⟩,
       ⟨(some 67), 0, none, (.op (.mov (.t 10)))⟩,
       ⟨(some 68), 0, none, (.call (.k (.fn (.func 23) [] [])) [(.t 64), (.t 66), (.t 67)])⟩,
       ⟨(some 69), 0, none, (.op (.bin .eql (.t 68) (.k (.d (.int .i64 0)))))⟩,
       ⟨(some 70), 0, none, (.op (.mov (.t 69)))⟩,
       ⟨(some 71), 0, (some (70, false)), (.op (.load true 2 (.t 2)))⟩,
       ⟨(some 72), 0, (some (70, false)), (.op (.fldA 1 (.t 3)))⟩,
       ⟨(some 73), 0, (some (70, false)), (.op (.load false 1 (.t 72)))⟩,
       ⟨(some 74), 0, (some (70, false)), (.op (.mov (.t 10)))⟩,
       ⟨(some 75), 0, (some (70, false)), (.call (.k (.fn (.func 23) [] [])) [(.t 71), (.t 73), (.t 74)])⟩,
       ⟨(some 76), 0, (some (70, false)), (.op (.bin .eql (.t 75) (.k (.d (.int .i64 0)))))⟩,
       ⟨(some 77), 0, none, (.op (.pick (.t 70) (.k (.d (.bool true))) (.t 76)))⟩])
     (.cond (.t 77)
       (.exit 1)
       (.skip)))
     (.seq (.seq (.regD 0 [(⟨(some 78), 0, none, (.op (.mov (.t 9)))⟩, []),
       (⟨(some 79), 0, none, (.op (.mov (.t 7)))⟩, []),
       (⟨(some 80), 0, none, (.op (.len false (.t 79)))⟩, [1]),
       (⟨(some 81), 0, none, (.op (.bin .geq (.t 78) (.t 80)))⟩, [0, 2, 1]),
       (⟨(some 82), 0, none, (.op (.mov (.t 81)))⟩, [3, 0, 2, 1]),
       (⟨(some 83), 0, (some (82, false)), (.op (.mov (.t 7)))⟩, [4, 3, 0, 2, 1]),
       (⟨(some 84), 0, (some (82, false)), (.op (.mov (.t 9)))⟩, [4, 3, 0, 2, 1]),
       (⟨(some 85), 0, (some (82, false)), (.op (.idxA 1 none (.t 83) (.t 84)))⟩, [5, 4, 3, 0, 2, 1, 6]),
       (⟨(some 86), 0, (some (82, false)), (.op (.load false 1 (.t 85)))⟩, [7, 5, 4, 3, 0, 2, 1, 6]),
       (⟨(some 87), 0, (some (82, false)), (.op (.mov (.t 10)))⟩, [4, 3, 0, 2, 1]),
       (⟨(some 88), 0, (some (82, false)), (.op (.bin .neq (.t 86) (.t 87)))⟩, [8, 7, 5, 4, 3, 0, 2, 1, 6, 9]),
       (⟨(some 89), 0, none, (.op (.pick (.t 82) (.k (.d (.bool true))) (.t 88)))⟩, [4, 3, 0, 2, 1, 10, 8, 7, 5, 6, 9]),
       (⟨(some 90), 0, none, (.op (.mov (.t 89)))⟩, [11, 4, 3, 0, 2, 1, 10, 8, 7, 5, 6, 9]),
       (⟨(some 91), 0, (some (90, false)), (.op (.mov (.t 5)))⟩, [12, 11, 4, 3, 0, 2, 1, 10, 8, 7, 5, 6, 9]),
       (⟨(some 92), 0, (some (90, false)), (.op (.mov (.t 9)))⟩, [12, 11, 4, 3, 0, 2, 1, 10, 8, 7, 5, 6, 9]),
       (⟨(some 93), 0, (some (90, false)), (.op (.idxA 2 none (.t 91) (.t 92)))⟩, [13, 12, 11, 4, 3, 0, 2, 1, 10, 8, 7, 5, 6, 9, 14]),
       (⟨(some 94), 0, (some (90, false)), (.op (.fldA 1 (.t 93)))⟩, [15, 13, 12, 11, 4, 3, 0, 2, 1, 10, 8, 7, 5, 6, 9, 14]),
       (⟨(some 95), 0, (some (90, false)), (.op (.load false 1 (.t 94)))⟩, [16, 15, 13, 12, 11, 4, 3, 0, 2, 1, 10, 8, 7, 5, 6, 9, 14]),
       (⟨(some 96), 0, (some (90, false)), (.op (.len false (.t 95)))⟩, [17, 16, 15, 13, 12, 11, 4, 3, 0, 2, 1, 10, 8, 7, 5, 6, 9, 14]),
       (⟨(some 97), 0, (some (90, false)), (.op (.fldA 2 (.t 3)))⟩, [12, 11, 4, 3, 0, 2, 1, 10, 8, 7, 5, 6, 9]),
       (⟨(some 98), 0, (some (90, false)), (.op (.load false 1 (.t 97)))⟩, [19, 12, 11, 4, 3, 0, 2, 1, 10, 8, 7, 5, 6, 9]),
       (⟨(some 99), 0, (some (90, false)), (.op (.len false (.t 98)))⟩, [20, 19, 12, 11, 4, 3, 0, 2, 1, 10, 8, 7, 5, 6, 9]),
       (⟨(some 100), 0, (some (90, false)), (.op (.bin .neq (.t 96) (.t 99)))⟩, [18, 17, 16, 15, 13, 12, 11, 4, 3, 0, 2, 1, 10, 8, 7, 5, 6, 9, 14, 21, 20, 19]),
       (⟨(some 101), 0, none, (.op (.pick (.t 90) (.k (.d (.bool true))) (.t 100)))⟩, [12, 11, 4, 3, 0, 2, 1, 10, 8, 7, 5, 6, 9, 22, 18, 17, 16, 15, 13, 14, 21, 20, 19]),
       (⟨(some 102), 0, none, (.op (.mov (.t 101)))⟩, [23, 12, 11, 4, 3, 0, 2, 1, 10, 8, 7, 5, 6, 9, 22, 18, 17, 16, 15, 13, 14, 21, 20, 19]),
       (⟨(some 103), 0, (some (102, false)), (.op (.mov (.t 5)))⟩, [24, 23, 12, 11, 4, 3, 0, 2, 1, 10, 8, 7, 5, 6, 9, 22, 18, 17, 16, 15, 13, 14, 21, 20, 19]),
       (⟨(some 104), 0, (some (102, false)), (.op (.mov (.t 9)))⟩, [24, 23, 12, 11, 4, 3, 0, 2, 1, 10, 8, 7, 5, 6, 9, 22, 18, 17, 16, 15, 13, 14, 21, 20, 19]),
       (⟨(some 105), 0, (some (102, false)), (.op (.idxA 2 none (.t 103) (.t 104)))⟩, [25, 24, 23, 12, 11, 4, 3, 0, 2, 1, 10, 8, 7, 5, 6, 9, 22, 18, 17, 16, 15, 13, 14, 21, 20, 19, 26]),
       (⟨(some 106), 0, (some (102, false)), (.op (.fldA 0 (.t 105)))⟩, [27, 25, 24, 23, 12, 11, 4, 3, 0, 2, 1, 10, 8, 7, 5, 6, 9, 22, 18, 17, 16, 15, 13, 14, 21, 20, 19, 26]),
       (⟨(some 107), 0, (some (102, false)), (.op (.load false 1 (.t 106)))⟩, [28, 27, 25, 24, 23, 12, 11, 4, 3, 0, 2, 1, 10, 8, 7, 5, 6, 9, 22, 18, 17, 16, 15, 13, 14, 21, 20, 19, 26]),
       (⟨(some 108), 0, (some (102, false)), (.op (.len false (.t 107)))⟩, [29, 28, 27, 25, 24, 23, 12, 11, 4, 3, 0, 2, 1, 10, 8, 7, 5, 6, 9, 22, 18, 17, 16, 15, 13, 14, 21, 20, 19, 26]),
       (⟨(some 109), 0, (some (102, false)), (.op (.fldA 2 (.t 3)))⟩, [24, 23, 12, 11, 4, 3, 0, 2, 1, 10, 8, 7, 5, 6, 9, 22, 18, 17, 16, 15, 13, 14, 21, 20, 19]),
       (⟨(some 110), 0, (some (102, false)), (.op (.load false 1 (.t 109)))⟩, [31, 24, 23, 12, 11, 4, 3, 0, 2, 1, 10, 8, 7, 5, 6, 9, 22, 18, 17, 16, 15, 13, 14, 21, 20, 19]),
       (⟨(some 111), 0, (some (102, false)), (.op (.len false (.t 110)))⟩, [32, 31, 24, 23, 12, 11, 4, 3, 0, 2, 1, 10, 8, 7, 5, 6, 9, 22, 18, 17, 16, 15, 13, 14, 21, 20, 19]),
       (⟨(some 112), 0, (some (102, false)), (.op (.bin .neq (.t 108) (.t 111)))⟩, [30, 29, 28, 27, 25, 24, 23, 12, 11, 4, 3, 0, 2, 1, 10, 8, 7, 5, 6, 9, 22, 18, 17, 16, 15, 13, 14, 21, 20, 19, 26, 33, 32, 31]),
       (⟨(some 113), 0, none, (.op (.pick (.t 102) (.k (.d (.bool true))) (.t 112)))⟩, [24, 23, 12, 11, 4, 3, 0, 2, 1, 10, 8, 7, 5, 6, 9, 22, 18, 17, 16, 15, 13, 14, 21, 20, 19, 34, 30, 29, 28, 27, 25, 26, 33, 32, 31])])
     (.cond (.t 113)
       (.seq (.reg 0 [⟨(some 4), 0, none, (.op (.mov (.k (.d (.bool false)))))⟩])
       (.ret))
       (.skip)))
     (.seq (.seq (.reg 0 [⟨(some 11), 0, none, (.op (.mov (.k (.d (.int .i64 0)))))⟩])
     (.block 2
      (.loop
       (.seq (.seq (.reg 0 [⟨(some 114), 0, none, (.op (.mov (.t 11)))⟩,
         ⟨(some 115), 0, none, (.op (.fldA 2 (.t 3)))⟩,
         ⟨(some 116), 0, none, (.op (.load false 1 (.t 115)))⟩,
         ⟨(some 117), 0, none, (.op (.len false (.t 116)))⟩,
         ⟨(some 118), 0, none, (.op (.bin .lss (.t 114) (.t 117)))⟩])
       (.cond (.t 118)
         (.skip)
         (.exit 2)))
       (.seq (.block 3
        (.seq (.regD 0 [(⟨(some 121), 0, none, (.op (.mov (.t 5)))⟩, []),
          (⟨(some 122), 0, none, (.op (.mov (.t 9)))⟩, []),
          (⟨(some 123), 0, none, (.op (.idxA 2 none (.t 121) (.t 122)))⟩, [0, 1]),
          (⟨(some 124), 0, none, (.op (.fldA 0 (.t 123)))⟩, [2, 0, 1]),
          (⟨(some 125), 0, none, (.op (.load false 1 (.t 124)))⟩, [3, 2, 0, 1]),
          (⟨(some 126), 0, none, (.op (.mov (.t 11)))⟩, []),
          (⟨(some 127), 0, none, (.op (.idxA 1 none (.t 125) (.t 126)))⟩, [4, 3, 2, 0, 1, 5]),
          (⟨(some 128), 0, none, (.op (.load false 1 (.t 127)))⟩, [6, 4, 3, 2, 0, 1, 5]),
          (⟨(some 129), 0, none, (.op (.fldA 2 (.t 3)))⟩, []),
          (⟨(some 130), 0, none, (.op (.load false 1 (.t 129)))⟩, [8]),
          (⟨(some 131), 0, none, (.op (.mov (.t 11)))⟩, []),
          (⟨(some 132), 0, none, (.op (.idxA 1 none (.t 130) (.t 131)))⟩, [9, 8, 10]),
          (⟨(some 133), 0, none, (.op (.load false 1 (.t 132)))⟩, [11, 9, 8, 10]),
          (⟨(some 134), 0, none, (.op (.bin .neq (.t 128) (.t 133)))⟩, [7, 6, 4, 3, 2, 0, 1, 5, 12, 11, 9, 8, 10]),
          (⟨(some 135), 0, none, (.op (.mov (.t 134)))⟩, [13, 7, 6, 4, 3, 2, 0, 1, 5, 12, 11, 9, 8, 10]),
          (⟨(some 136), 0, (some (135, false)), (.op (.mov (.t 5)))⟩, [14, 13, 7, 6, 4, 3, 2, 0, 1, 5, 12, 11, 9, 8, 10]),
          (⟨(some 137), 0, (some (135, false)), (.op (.mov (.t 9)))⟩, [14, 13, 7, 6, 4, 3, 2, 0, 1, 5, 12, 11, 9, 8, 10]),
          (⟨(some 138), 0, (some (135, false)), (.op (.idxA 2 none (.t 136) (.t 137)))⟩, [15, 14, 13, 7, 6, 4, 3, 2, 0, 1, 5, 12, 11, 9, 8, 10, 16]),
          (⟨(some 139), 0, (some (135, false)), (.op (.fldA 1 (.t 138)))⟩, [17, 15, 14, 13, 7, 6, 4, 3, 2, 0, 1, 5, 12, 11, 9, 8, 10, 16]),
          (⟨(some 140), 0, (some (135, false)), (.op (.load false 1 (.t 139)))⟩, [18, 17, 15, 14, 13, 7, 6, 4, 3, 2, 0, 1, 5, 12, 11, 9, 8, 10, 16]),
          (⟨(some 141), 0, (some (135, false)), (.op (.mov (.t 11)))⟩, [14, 13, 7, 6, 4, 3, 2, 0, 1, 5, 12, 11, 9, 8, 10]),
          (⟨(some 142), 0, (some (135, false)), (.op (.idxA 1 none (.t 140) (.t 141)))⟩, [19, 18, 17, 15, 14, 13, 7, 6, 4, 3, 2, 0, 1, 5, 12, 11, 9, 8, 10, 16, 20]),
          (⟨(some 143), 0, (some (135, false)), (.op (.load false 1 (.t 142)))⟩, [21, 19, 18, 17, 15, 14, 13, 7, 6, 4, 3, 2, 0, 1, 5, 12, 11, 9, 8, 10, 16, 20]),
          (⟨(some 144), 0, (some (135, false)), (.op (.load true 2 (.t 2)))⟩, [14, 13, 7, 6, 4, 3, 2, 0, 1, 5, 12, 11, 9, 8, 10]),
          (⟨(some 145), 0, (some (135, false)), (.op (.fldA 2 (.t 3)))⟩, [14, 13, 7, 6, 4, 3, 2, 0, 1, 5, 12, 11, 9, 8, 10]),
          (⟨(some 146), 0, (some (135, false)), (.op (.load false 1 (.t 145)))⟩, [24, 14, 13, 7, 6, 4, 3, 2, 0, 1, 5, 12, 11, 9, 8, 10]),
          (⟨(some 147), 0, (some (135, false)), (.op (.mov (.t 11)))⟩, [14, 13, 7, 6, 4, 3, 2, 0, 1, 5, 12, 11, 9, 8, 10]),
          (⟨(some 148), 0, (some (135, false)), (.op (.idxA 1 none (.t 146) (.t 147)))⟩, [25, 24, 14, 13, 7, 6, 4, 3, 2, 0, 1, 5, 12, 11, 9, 8, 10, 26]),
          (⟨(some 149), 0, (some (135, false)), (.op (.load false 1 (.t 148)))⟩, [27, 25, 24, 14, 13, 7, 6, 4, 3, 2, 0, 1, 5, 12, 11, 9, 8, 10, 26]),
          (⟨(some 150), 0, (some (135, false)), (.op (.mov (.t 10)))⟩, [14, 13, 7, 6, 4, 3, 2, 0, 1, 5, 12, 11, 9, 8, 10]),
          (⟨(some 151), 0, (some (135, false)), (.call (.k (.fn (.func 23) [] [])) [(.t 144), (.t 149), (.t 150)])⟩, [23, 14, 13, 7, 6, 4, 3, 2, 0, 1, 5, 12, 11, 9, 8, 10, 28, 27, 25, 24, 26, 29]),
          (⟨(some 152), 0, (some (135, false)), (.op (.bin .neq (.t 143) (.t 151)))⟩, [22, 21, 19, 18, 17, 15, 14, 13, 7, 6, 4, 3, 2, 0, 1, 5, 12, 11, 9, 8, 10, 16, 20, 30, 23, 28, 27, 25, 24, 26, 29]),
          (⟨(some 153), 0, none, (.op (.pick (.t 135) (.k (.d (.bool true))) (.t 152)))⟩, [14, 13, 7, 6, 4, 3, 2, 0, 1, 5, 12, 11, 9, 8, 10, 31, 22, 21, 19, 18, 17, 15, 16, 20, 30, 23, 28, 27, 25, 24, 26, 29])])
        (.cond (.t 153)
          (.seq (.reg 0 [⟨(some 4), 0, none, (.op (.mov (.k (.d (.bool false)))))⟩])
          (.ret))
          (.skip))))
       (.reg 0 [⟨(some 119), 0, none, (.op (.mov (.t 11)))⟩,
         ⟨(some 120), 0, none, (.op (.bin .add (.t 119) (.k (.d (.int .i64 1)))))⟩,
         ⟨(some 11), 0, none, (.op (.mov (.t 120)))⟩]))))))
     (.reg 0 [⟨(some 154), 0, none, (.op (.mov (.t 9)))⟩,
       ⟨(some 155), 0, none, (.op (.bin .add (.t 154) (.k (.d (.int .i64 1)))))⟩,
       ⟨(some 9), 0, none, (.op (.mov (.t 155)))⟩])))))
    (.reg 0 [⟨(some 62), 0, none, (.op (.mov (.t 10)))⟩,
      ⟨(some 63), 0, none, (.op (.bin .add (.t 62) (.k (.d (.int .i64 1)))))⟩,
      ⟨(some 10), 0, none, (.op (.mov (.t 63)))⟩]))))))
  (.seq (.reg 0 [⟨(some 156), 0, none, (.op (.mov (.t 9)))⟩,
    ⟨(some 157), 0, none, (.op (.mov (.t 7)))⟩,
    ⟨(some 158), 0, none, (.op (.len false (.t 157)))⟩,
    ⟨(some 159), 0, none, (.op (.bin .eql (.t 156) (.t 158)))⟩,
    ⟨(some 160), 0, none, (.op (.mov (.t 159)))⟩,
    ⟨(some 161), 0, (some (160, true)), (.call (.k (.fn (.func 10) [] [])) [])⟩,
    ⟨(some 162), 0, none, (.op (.pick (.t 160) (.t 161) (.k (.d (.bool false)))))⟩,
    ⟨(some 4), 0, none, (.op (.mov (.t 162)))⟩])
  (.ret)))))))))
theorem cc5 : Tryd.f5.body.bind (compC Tryd.prog) = some ac5 := by kernel_rfl
theorem go5 {vals : List V} {v : V} (ac : AC) (he : ac.erase = ac5) (hw : wpC Tryd.prog 0 ac (retQ [.tmp 4] v) ⟨vals ++ List.replicate (163 - vals.length) (.tup []), []⟩) : CallP Tryd.prog 5 vals v :=
  call_of Tryd.func5 rfl rfl rfl (cc5.trans (congrArg some he.symm)) hw
/-- testbench/testbenchlaw37.MonitorDelays -/
def ac6 : AC :=
  .seq (.reg 3 [⟨(some 3), 0, none, (.op (.box 2 (.t 0)))⟩,
    ⟨(some 4), 1, none, (.op (.box 3 (.t 1)))⟩,
    ⟨(some 5), 2, none, (.op (.box 3 (.t 2)))⟩,
    ⟨(some 6), 3, none, (.op (.mov (.k (.d (.bool false)))))⟩])
  (.seq (.seq (.reg 0 [⟨(some 14), 0, none, (.op (.load true 2 (.t 3)))⟩,
    ⟨(some 15), 0, none, (.op (.load true 3 (.t 4)))⟩,
    ⟨(some 16), 0, none, (.op (.load true 3 (.t 5)))⟩,
    ⟨(some 17), 0, none, (.call (.k (.fn (.func 9) [] [])) [(.t 14), (.t 15), (.t 16)])⟩,
    ⟨(some 18), 0, none, (.op (.un .not (.t 17)))⟩])
  (.cond (.t 18)
    (.seq (.reg 0 [⟨(some 19), 0, none, (.call (.k (.fn (.func 10) [] [])) [])⟩,
      ⟨(some 6), 0, none, (.op (.mov (.t 19)))⟩])
    (.ret))
    (.skip)))
  (.seq (.reg 0 [⟨(some 21), 0, none, (.op (.load true 2 (.t 3)))⟩,
    ⟨(some 22), 0, none, (.op (.load true 3 (.t 4)))⟩,
    ⟨(some 23), 0, none, (.op (.load true 3 (.t 5)))⟩,
    ⟨(some 24), 0, none, (.call (.k (.fn (.func 21) [] [])) [(.t 21), (.t 22), (.t 23)])⟩,
    ⟨(some 20), 0, none, (.op (.mov (.t 24)))⟩,
    ⟨(some 25), 0, none, (.op (.ext (.t 20) 0))⟩,
    ⟨(some 26), 0, none, (.op (.ext (.t 20) 1))⟩,
    ⟨(some 7), 0, none, (.op (.mov (.t 25)))⟩,
    ⟨(some 8), 0, none, (.op (.mov (.t 26)))⟩])
  (.seq (.reg 0 [⟨(some 28), 0, none, (.op (.load true 2 (.t 3)))⟩,
    ⟨(some 29), 0, none, (.op (.load true 3 (.t 4)))⟩,
    ⟨(some 30), 0, none, (.call (.k (.fn (.func 13) [] [])) [(.t 28), (.t 29)])⟩,
    ⟨(some 27), 0, none, (.op (.mov (.t 30)))⟩,
    ⟨(some 31), 0, none, (.op (.ext (.t 27) 0))⟩,
    ⟨(some 32), 0, none, (.op (.ext (.t 27) 1))⟩,
    ⟨(some 9), 0, none, (.op (.mov (.t 31)))⟩,
    ⟨(some 10), 0, none, (.op (.mov (.t 32)))⟩])
  (.seq (.reg 0 [⟨(some 34), 0, none, (.op (.load true 2 (.t 3)))⟩,
    ⟨(some 35), 0, none, (.op (.load true 3 (.t 5)))⟩,
    ⟨(some 36), 0, none, (.call (.k (.fn (.func 13) [] [])) [(.t 34), (.t 35)])⟩,
    ⟨(some 33), 0, none, (.op (.mov (.t 36)))⟩,
    ⟨(some 37), 0, none, (.op (.ext (.t 33) 0))⟩,
    ⟨(some 38), 0, none, (.op (.ext (.t 33) 1))⟩,
    ⟨(some 11), 0, none, (.op (.mov (.t 37)))⟩,
    ⟨(some 12), 0, none, (.op (.mov (.t 38)))⟩])
  (.seq (.seq (.reg 0 [⟨(some 39), 0, none, (.op (.mov (.t 8)))⟩,
    ⟨(some 40), 0, none, (.op (.bin .neq (.t 39) (.k (.d (.int .i64 0)))))⟩])
  (.cond (.t 40)
    (.seq (.reg 0 [⟨(some 41), 0, none, (.op (.mov (.t 7)))⟩,
      ⟨(some 42), 0, none, (.op (.len false (.t 41)))⟩,
      ⟨(some 43), 0, none, (.op (.bin .eql (.t 42) (.k (.d (.int .i64 0)))))⟩,
      ⟨(some 44), 0, none, (.op (.mov (.t 43)))⟩,
      ⟨(some 45), 0, (some (44, true)), (.op (.mov (.t 10)))⟩,
      ⟨(some 46), 0, (some (44, true)), (.op (.bin .neq (.t 45) (.k (.d (.int .i64 0)))))⟩,
      ⟨(some 47), 0, (some (44, true)), (.op (.mov (.t 46)))⟩,
      ⟨(some 48), 0, (some (47, false)), (.op (.mov (.t 12)))⟩,
      ⟨(some 49), 0, (some (47, false)), (.op (.bin .neq (.t 48) (.k (.d (.int .i64 0)))))⟩,
      ⟨(some 50), 0, (some (44, true)), (.op (.pick (.t 47) (.k (.d (.bool true))) (.t 49)))⟩,
      ⟨(some 51), 0, none, (.op (.pick (.t 44) (.t 50) (.k (.d (.bool false)))))⟩,
      ⟨(some 52), 0, none, (.op (.mov (.t 51)))⟩,
      ⟨(some 53), 0, (some (52, true)), (.call (.k (.fn (.func 10) [] [])) [])⟩,
      ⟨(some 54), 0, none, (.op (.pick (.t 52) (.t 53) (.k (.d (.bool false)))))⟩,
      ⟨(some 6), 0, none, (.op (.mov (.t 54)))⟩])
    (.ret))
    (.skip)))
  (.seq (.seq (.reg 0 [⟨(some 55), 0, none, (.op (.mov (.t 10)))⟩,
    ⟨(some 56), 0, none, (.op (.bin .neq (.t 55) (.k (.d (.int .i64 0)))))⟩,
    ⟨(some 57), 0, none, (.op (.mov (.t 56)))⟩,
    ⟨(some 58), 0, (some (57, false)), (.op (.mov (.t 12)))⟩,
    ⟨(some 59), 0, (some (57, false)), (.op (.bin .neq (.t 58) (.k (.d (.int .i64 0)))))⟩,
    ⟨(some 60), 0, none, (.op (.pick (.t 57) (.k (.d (.bool true))) (.t 59)))⟩,
    ⟨(some 61), 0, none, (.op (.mov (.t 60)))⟩,
    ⟨(some 62), 0, (some (61, false)), (.op (.mov (.t 7)))⟩,
    ⟨(some 63), 0, (some (61, false)), (.op (.len false (.t 62)))⟩,
    ⟨(some 64), 0, (some (61, false)), (.op (.mov (.t 9)))⟩,
    ⟨(some 65), 0, (some (61, false)), (.op (.len false (.t 64)))⟩,
    ⟨(some 66), 0, (some (61, false)), (.op (.mov (.t 11)))⟩,
    ⟨(some 67), 0, (some (61, false)), (.op (.len false (.t 66)))⟩,
    ⟨(some 68), 0, (some (61, false)), (.op (.mn (.t 65) (.t 67)))⟩,
    ⟨(some 69), 0, (some (61, false)), (.op (.bin .neq (.t 63) (.t 68)))⟩,
    ⟨(some 70), 0, none, (.op (.pick (.t 61) (.k (.d (.bool true))) (.t 69)))⟩])
  (.cond (.t 70)
    (.seq (.reg 0 [⟨(some 6), 0, none, (.op (.mov (.k (.d (.bool false)))))⟩])
    (.ret))
    (.skip)))
  (.seq (.seq (.reg 0 [⟨(some 13), 0, none, (.op (.mov (.k (.d (.int .i64 0)))))⟩])
  (.block 0
   (.loop
    (.seq (.seq (.reg 0 [⟨(some 71), 0, none, (.op (.mov (.t 13)))⟩,
      ⟨(some 72), 0, none, (.op (.mov (.t 7)))⟩,
      ⟨(some 73), 0, none, (.op (.len false (.t 72)))⟩,
      ⟨(some 74), 0, none, (.op (.bin .lss (.t 71) (.t 73)))⟩])
    (.cond (.t 74)
      (.skip)
      (.exit 0)))
    (.seq (.block 1
     (.seq (.regD 0 [(⟨(some 77), 0, none, (.op (.mov (.t 9)))⟩, []),
       (⟨(some 78), 0, none, (.op (.mov (.t 13)))⟩, []),
       (⟨(some 79), 0, none, (.op (.idxA 1 none (.t 77) (.t 78)))⟩, [0, 1]),
       (⟨(some 80), 0, none, (.op (.load false 1 (.t 79)))⟩, [2, 0, 1]),
       (⟨(some 81), 0, none, (.op (.mov (.t 7)))⟩, []),
       (⟨(some 82), 0, none, (.op (.mov (.t 13)))⟩, []),
       (⟨(some 83), 0, none, (.op (.idxA 1 none (.t 81) (.t 82)))⟩, [4, 5]),
       (⟨(some 84), 0, none, (.op (.load false 1 (.t 83)))⟩, [6, 4, 5]),
       (⟨(some 85), 0, none, (.op (.bin .add (.t 80) (.t 84)))⟩, [3, 2, 0, 1, 7, 6, 4, 5]),
       (⟨(some 86), 0, none, (.op (.mov (.t 11)))⟩, []),
       (⟨(some 87), 0, none, (.op (.mov (.t 13)))⟩, []),
       (⟨(some 88), 0, none, (.op (.idxA 1 none (.t 86) (.t 87)))⟩, [9, 10]),
       (⟨(some 89), 0, none, (.op (.load false 1 (.t 88)))⟩, [11, 9, 10]),
       (⟨(some 90), 0, none, (.op (.bin .neq (.t 85) (.t 89)))⟩, [8, 3, 2, 0, 1, 7, 6, 4, 5, 12, 11, 9, 10])])
     (.cond (.t 90)
       (.seq (.reg 0 [⟨(some 6), 0, none, (.op (.mov (.k (.d (.bool false)))))⟩])
       (.ret))
       (.skip))))
    (.reg 0 [⟨(some 75), 0, none, (.op (.mov (.t 13)))⟩,
      ⟨(some 76), 0, none, (.op (.bin .add (.t 75) (.k (.d (.int .i64 1)))))⟩,
      ⟨(some 13), 0, none, (.op (.mov (.t 76)))⟩]))))))
  (.seq (.reg 0 [⟨(some 91), 0, none, (.call (.k (.fn (.func 10) [] [])) [])⟩,
    ⟨(some 6), 0, none, (.op (.mov (.t 91)))⟩])
  (.ret)))))))))
theorem cc6 : Tryd.f6.body.bind (compC Tryd.prog) = some ac6 := by kernel_rfl
theorem go6 {vals : List V} {v : V} (ac : AC) (he : ac.erase = ac6) (hw : wpC Tryd.prog 0 ac (retQ [.tmp 6] v) ⟨vals ++ List.replicate (92 - vals.length) (.tup []), []⟩) : CallP Tryd.prog 6 vals v :=
  call_of Tryd.func6 rfl rfl rfl (cc6.trans (congrArg some he.symm)) hw
/-- testbench/testbenchlaw37.MonitorCuts -/
def ac7 : AC :=
  .seq (.reg 2 [⟨(some 3), 0, none, (.op (.box 2 (.t 0)))⟩,
    ⟨(some 4), 1, none, (.op (.box 3 (.t 1)))⟩,
    ⟨(some 6), 2, none, (.op (.mov (.k (.d (.bool false)))))⟩])
  (.seq (.seq (.reg 0 [⟨(some 18), 0, none, (.op (.load true 2 (.t 3)))⟩,
    ⟨(some 19), 0, none, (.op (.load true 3 (.t 4)))⟩,
    ⟨(some 20), 0, none, (.op (.load true 3 (.t 4)))⟩,
    ⟨(some 21), 0, none, (.call (.k (.fn (.func 9) [] [])) [(.t 18), (.t 19), (.t 20)])⟩,
    ⟨(some 22), 0, none, (.op (.un .not (.t 21)))⟩])
  (.cond (.t 22)
    (.seq (.reg 0 [⟨(some 23), 0, none, (.call (.k (.fn (.func 10) [] [])) [])⟩,
      ⟨(some 6), 0, none, (.op (.mov (.t 23)))⟩])
    (.ret))
    (.skip)))
  (.seq (.reg 0 [⟨(some 25), 0, none, (.op (.load true 2 (.t 3)))⟩,
    ⟨(some 26), 0, none, (.op (.load true 3 (.t 4)))⟩,
    ⟨(some 27), 0, none, (.call (.k (.fn (.func 11) [] [])) [(.t 25), (.t 26)])⟩,
    ⟨(some 24), 0, none, (.op (.mov (.t 27)))⟩,
    ⟨(some 28), 0, none, (.op (.ext (.t 24) 0))⟩,
    ⟨(some 29), 0, none, (.op (.ext (.t 24) 1))⟩,
    ⟨(some 7), 0, none, (.op (.mov (.t 28)))⟩,
    ⟨(some 8), 0, none, (.op (.mov (.t 29)))⟩])
  (.seq (.seq (.reg 0 [⟨(some 30), 0, none, (.op (.mov (.t 8)))⟩,
    ⟨(some 31), 0, none, (.op (.bin .neq (.t 30) (.k (.d (.int .i64 0)))))⟩,
    ⟨(some 32), 0, none, (.op (.mov (.t 31)))⟩,
    ⟨(some 33), 0, (some (32, false)), (.op (.mov (.t 2)))⟩,
    ⟨(some 34), 0, (some (32, false)), (.op (.bin .lss (.t 33) (.k (.d (.int .i64 0)))))⟩,
    ⟨(some 35), 0, none, (.op (.pick (.t 32) (.k (.d (.bool true))) (.t 34)))⟩,
    ⟨(some 36), 0, none, (.op (.mov (.t 35)))⟩,
    ⟨(some 37), 0, (some (36, false)), (.op (.mov (.t 2)))⟩,
    ⟨(some 38), 0, (some (36, false)), (.op (.fldA 1 (.t 3)))⟩,
    ⟨(some 39), 0, (some (36, false)), (.op (.load false 1 (.t 38)))⟩,
    ⟨(some 40), 0, (some (36, false)), (.op (.len false (.t 39)))⟩,
    ⟨(some 41), 0, (some (36, false)), (.op (.bin .gtr (.t 37) (.t 40)))⟩,
    ⟨(some 42), 0, none, (.op (.pick (.t 36) (.k (.d (.bool true))) (.t 41)))⟩])
  (.cond (.t 42)
    (.seq (.reg 0 [⟨(some 43), 0, none, (.call (.k (.fn (.func 10) [] [])) [])⟩,
      ⟨(some 6), 0, none, (.op (.mov (.t 43)))⟩])
    (.ret))
    (.skip)))
  (.seq (.reg 1 [⟨(some 45), 0, none, (.op (.load true 2 (.t 3)))⟩,
    ⟨(some 46), 0, none, (.op (.mov (.t 2)))⟩,
    ⟨(some 47), 0, none, (.call (.k (.fn (.func 24) [] [])) [(.t 45), (.k (.d (.int .i64 0))), (.t 46)])⟩,
    ⟨(some 44), 0, none, (.op (.mov (.t 47)))⟩,
    ⟨(some 48), 0, none, (.op (.ext (.t 44) 0))⟩,
    ⟨(some 49), 0, none, (.op (.ext (.t 44) 1))⟩,
    ⟨(some 9), 0, none, (.op (.alloc [.nils, .nils]))⟩,
    ⟨none, 1, none, (.op (.store 2 (.t 9) (.t 48)))⟩,
    ⟨(some 10), 1, none, (.op (.mov (.t 49)))⟩])
  (.seq (.reg 1 [⟨(some 51), 0, none, (.op (.load true 2 (.t 3)))⟩,
    ⟨(some 52), 0, none, (.op (.mov (.t 2)))⟩,
    ⟨(some 53), 0, none, (.op (.fldA 1 (.t 3)))⟩,
    ⟨(some 54), 0, none, (.op (.load false 1 (.t 53)))⟩,
    ⟨(some 55), 0, none, (.op (.len false (.t 54)))⟩,
    ⟨(some 56), 0, none, (.call (.k (.fn (.func 24) [] [])) [(.t 51), (.t 52), (.t 55)])⟩,
    ⟨(some 50), 0, none, (.op (.mov (.t 56)))⟩,
    ⟨(some 57), 0, none, (.op (.ext (.t 50) 0))⟩,
    ⟨(some 58), 0, none, (.op (.ext (.t 50) 1))⟩,
    ⟨(some 11), 0, none, (.op (.alloc [.nils, .nils]))⟩,
    ⟨none, 1, none, (.op (.store 2 (.t 11) (.t 57)))⟩,
    ⟨(some 12), 1, none, (.op (.mov (.t 58)))⟩])
  (.seq (.seq (.reg 0 [⟨(some 59), 0, none, (.op (.mov (.t 10)))⟩,
    ⟨(some 60), 0, none, (.op (.bin .neq (.t 59) (.k (.d (.int .i64 0)))))⟩,
    ⟨(some 61), 0, none, (.op (.mov (.t 60)))⟩,
    ⟨(some 62), 0, (some (61, false)), (.op (.mov (.t 12)))⟩,
    ⟨(some 63), 0, (some (61, false)), (.op (.bin .neq (.t 62) (.k (.d (.int .i64 0)))))⟩,
    ⟨(some 64), 0, none, (.op (.pick (.t 61) (.k (.d (.bool true))) (.t 63)))⟩])
  (.cond (.t 64)
    (.seq (.reg 0 [⟨(some 6), 0, none, (.op (.mov (.k (.d (.bool false)))))⟩])
    (.ret))
    (.skip)))
  (.seq (.reg 0 [⟨(some 66), 0, none, (.op (.load true 2 (.t 9)))⟩,
    ⟨(some 67), 0, none, (.op (.load true 3 (.t 4)))⟩,
    ⟨(some 68), 0, none, (.call (.k (.fn (.func 11) [] [])) [(.t 66), (.t 67)])⟩,
    ⟨(some 65), 0, none, (.op (.mov (.t 68)))⟩,
    ⟨(some 69), 0, none, (.op (.ext (.t 65) 0))⟩,
    ⟨(some 70), 0, none, (.op (.ext (.t 65) 1))⟩,
    ⟨(some 13), 0, none, (.op (.mov (.t 69)))⟩,
    ⟨(some 14), 0, none, (.op (.mov (.t 70)))⟩])
  (.seq (.reg 0 [⟨(some 72), 0, none, (.op (.load true 2 (.t 11)))⟩,
    ⟨(some 73), 0, none, (.op (.load true 3 (.t 4)))⟩,
    ⟨(some 74), 0, none, (.call (.k (.fn (.func 11) [] [])) [(.t 72), (.t 73)])⟩,
    ⟨(some 71), 0, none, (.op (.mov (.t 74)))⟩,
    ⟨(some 75), 0, none, (.op (.ext (.t 71) 0))⟩,
    ⟨(some 76), 0, none, (.op (.ext (.t 71) 1))⟩,
    ⟨(some 15), 0, none, (.op (.mov (.t 75)))⟩,
    ⟨(some 16), 0, none, (.op (.mov (.t 76)))⟩])
  (.seq (.reg 0 [⟨(some 17), 0, none, (.op (.mov (.k (.d .nils))))⟩])
  (.seq (.reg 1 [⟨(some 77), 0, none, (.op (.mov (.t 17)))⟩,
    ⟨(some 78), 0, none, (.op (.mov (.t 13)))⟩,
    ⟨(some 79), 0, none, (.op (.append 2 48 (.t 77) (.t 78)))⟩,
    ⟨(some 17), 1, none, (.op (.mov (.t 79)))⟩])
  (.seq (.reg 1 [⟨(some 80), 0, none, (.op (.mov (.t 17)))⟩,
    ⟨(some 81), 0, none, (.op (.mov (.t 15)))⟩,
    ⟨(some 82), 0, none, (.op (.append 2 48 (.t 80) (.t 81)))⟩,
    ⟨(some 17), 1, none, (.op (.mov (.t 82)))⟩])
  (.seq (.reg 0 [⟨(some 83), 0, none, (.op (.mov (.t 14)))⟩,
    ⟨(some 84), 0, none, (.op (.bin .eql (.t 83) (.k (.d (.int .i64 0)))))⟩,
    ⟨(some 85), 0, none, (.op (.mov (.t 84)))⟩,
    ⟨(some 86), 0, (some (85, true)), (.op (.mov (.t 16)))⟩,
    ⟨(some 87), 0, (some (85, true)), (.op (.bin .eql (.t 86) (.k (.d (.int .i64 0)))))⟩,
    ⟨(some 88), 0, none, (.op (.pick (.t 85) (.t 87) (.k (.d (.bool false)))))⟩,
    ⟨(some 89), 0, none, (.op (.mov (.t 88)))⟩,
    ⟨(some 90), 0, (some (89, true)), (.op (.mov (.t 7)))⟩,
    ⟨(some 91), 0, (some (89, true)), (.op (.mov (.t 17)))⟩,
    ⟨(some 92), 0, (some (89, true)), (.call (.k (.fn (.func 17) [] [])) [(.t 90), (.t 91)])⟩,
    ⟨(some 93), 0, none, (.op (.pick (.t 89) (.t 92) (.k (.d (.bool false)))))⟩,
    ⟨(some 94), 0, none, (.op (.mov (.t 93)))⟩,
    ⟨(some 95), 0, (some (94, true)), (.call (.k (.fn (.func 10) [] [])) [])⟩,
    ⟨(some 96), 0, none, (.op (.pick (.t 94) (.t 95) (.k (.d (.bool false)))))⟩,
    ⟨(some 6), 0, none, (.op (.mov (.t 96)))⟩])
  (.ret)))))))))))))
theorem cc7 : Tryd.f7.body.bind (compC Tryd.prog) = some ac7 := by kernel_rfl
theorem go7 {vals : List V} {v : V} (ac : AC) (he : ac.erase = ac7) (hw : wpC Tryd.prog 0 ac (retQ [.tmp 6] v) ⟨vals ++ List.replicate (97 - vals.length) (.tup []), []⟩) : CallP Tryd.prog 7 vals v :=
  call_of Tryd.func7 rfl rfl rfl (cc7.trans (congrArg some he.symm)) hw
/-- testbench/testbenchlaw37.MonitorWaits -/
def ac8 : AC :=
  .seq (.reg 2 [⟨(some 2), 0, none, (.op (.box 2 (.t 0)))⟩,
    ⟨(some 3), 1, none, (.op (.box 3 (.t 1)))⟩,
    ⟨(some 4), 2, none, (.op (.mov (.k (.d (.bool false)))))⟩])
  (.seq (.seq (.reg 0 [⟨(some 17), 0, none, (.op (.load true 2 (.t 2)))⟩,
    ⟨(some 18), 0, none, (.op (.load true 3 (.t 3)))⟩,
    ⟨(some 19), 0, none, (.op (.load true 3 (.t 3)))⟩,
    ⟨(some 20), 0, none, (.call (.k (.fn (.func 9) [] [])) [(.t 17), (.t 18), (.t 19)])⟩,
    ⟨(some 21), 0, none, (.op (.un .not (.t 20)))⟩])
  (.cond (.t 21)
    (.seq (.reg 0 [⟨(some 22), 0, none, (.call (.k (.fn (.func 10) [] [])) [])⟩,
      ⟨(some 4), 0, none, (.op (.mov (.t 22)))⟩])
    (.ret))
    (.skip)))
  (.seq (.reg 0 [⟨(some 24), 0, none, (.op (.load true 2 (.t 2)))⟩,
    ⟨(some 25), 0, none, (.op (.load true 3 (.t 3)))⟩,
    ⟨(some 26), 0, none, (.call (.k (.fn (.func 19) [] [])) [(.t 24), (.t 25)])⟩,
    ⟨(some 23), 0, none, (.op (.mov (.t 26)))⟩,
    ⟨(some 27), 0, none, (.op (.ext (.t 23) 0))⟩,
    ⟨(some 28), 0, none, (.op (.ext (.t 23) 1))⟩,
    ⟨(some 5), 0, none, (.op (.mov (.t 27)))⟩,
    ⟨(some 6), 0, none, (.op (.mov (.t 28)))⟩])
  (.seq (.seq (.reg 0 [⟨(some 29), 0, none, (.op (.mov (.t 6)))⟩,
    ⟨(some 30), 0, none, (.op (.bin .neq (.t 29) (.k (.d (.int .i64 0)))))⟩])
  (.cond (.t 30)
    (.seq (.reg 0 [⟨(some 31), 0, none, (.op (.mov (.t 5)))⟩,
      ⟨(some 32), 0, none, (.op (.bin .eql (.t 31) (.k (.d (.int .i64 0)))))⟩,
      ⟨(some 33), 0, none, (.op (.mov (.t 32)))⟩,
      ⟨(some 34), 0, (some (33, true)), (.call (.k (.fn (.func 10) [] [])) [])⟩,
      ⟨(some 35), 0, none, (.op (.pick (.t 33) (.t 34) (.k (.d (.bool false)))))⟩,
      ⟨(some 4), 0, none, (.op (.mov (.t 35)))⟩])
    (.ret))
    (.skip)))
  (.seq (.reg 0 [⟨(some 7), 0, none, (.op (.mov (.k (.d (.bool true)))))⟩])
  (.seq (.seq (.reg 0 [⟨(some 8), 0, none, (.op (.mov (.k (.d (.int .i64 0)))))⟩])
  (.block 0
   (.loop
    (.seq (.seq (.reg 0 [⟨(some 36), 0, none, (.op (.mov (.t 8)))⟩,
      ⟨(some 37), 0, none, (.op (.fldA 1 (.t 2)))⟩,
      ⟨(some 38), 0, none, (.op (.load false 1 (.t 37)))⟩,
      ⟨(some 39), 0, none, (.op (.len false (.t 38)))⟩,
      ⟨(some 40), 0, none, (.op (.bin .lss (.t 36) (.t 39)))⟩])
    (.cond (.t 40)
      (.skip)
      (.exit 0)))
    (.seq (.block 1
     (.reg 0 [⟨(some 43), 0, none, (.op (.mov (.t 7)))⟩,
       ⟨(some 44), 0, none, (.op (.mov (.t 43)))⟩,
       ⟨(some 45), 0, (some (44, true)), (.op (.load true 2 (.t 2)))⟩,
       ⟨(some 46), 0, (some (44, true)), (.op (.fldA 1 (.t 3)))⟩,
       ⟨(some 47), 0, (some (44, true)), (.op (.load false 1 (.t 46)))⟩,
       ⟨(some 48), 0, (some (44, true)), (.op (.mov (.t 8)))⟩,
       ⟨(some 49), 0, (some (44, true)), (.call (.k (.fn (.func 23) [] [])) [(.t 45), (.t 47), (.t 48)])⟩,
       ⟨(some 50), 0, (some (44, true)), (.op (.bin .neq (.t 49) (.k (.d (.int .i64 0)))))⟩,
       ⟨(some 51), 0, none, (.op (.pick (.t 44) (.t 50) (.k (.d (.bool false)))))⟩,
       ⟨(some 7), 0, none, (.op (.mov (.t 51)))⟩]))
    (.reg 0 [⟨(some 41), 0, none, (.op (.mov (.t 8)))⟩,
      ⟨(some 42), 0, none, (.op (.bin .add (.t 41) (.k (.d (.int .i64 1)))))⟩,
      ⟨(some 8), 0, none, (.op (.mov (.t 42)))⟩]))))))
  (.seq (.seq (.reg 0 [⟨(some 52), 0, none, (.op (.mov (.t 5)))⟩,
    ⟨(some 53), 0, none, (.op (.bin .lss (.t 52) (.k (.d (.int .i64 0)))))⟩])
  (.cond (.t 53)
    (.seq (.reg 0 [⟨(some 54), 0, none, (.op (.mov (.t 5)))⟩,
      ⟨(some 55), 0, none, (.op (.bin .eql (.t 54) (.k (.d (.int .i64 (-1))))))⟩,
      ⟨(some 56), 0, none, (.op (.mov (.t 55)))⟩,
      ⟨(some 57), 0, (some (56, true)), (.call (.k (.fn (.func 10) [] [])) [])⟩,
      ⟨(some 58), 0, none, (.op (.pick (.t 56) (.t 57) (.k (.d (.bool false)))))⟩,
      ⟨(some 4), 0, none, (.op (.mov (.t 58)))⟩])
    (.ret))
    (.skip)))
  (.seq (.seq (.reg 0 [⟨(some 59), 0, none, (.op (.mov (.t 7)))⟩,
    ⟨(some 60), 0, none, (.op (.mov (.t 59)))⟩,
    ⟨(some 61), 0, (some (60, false)), (.op (.mov (.t 5)))⟩,
    ⟨(some 62), 0, (some (60, false)), (.op (.bin .lss (.t 61) (.k (.d (.int .i64 1)))))⟩,
    ⟨(some 63), 0, none, (.op (.pick (.t 60) (.k (.d (.bool true))) (.t 62)))⟩,
    ⟨(some 64), 0, none, (.op (.mov (.t 63)))⟩,
    ⟨(some 65), 0, (some (64, false)), (.op (.mov (.t 5)))⟩,
    ⟨(some 66), 0, (some (64, false)), (.op (.fldA 1 (.t 2)))⟩,
    ⟨(some 67), 0, (some (64, false)), (.op (.load false 1 (.t 66)))⟩,
    ⟨(some 68), 0, (some (64, false)), (.op (.len false (.t 67)))⟩,
    ⟨(some 69), 0, (some (64, false)), (.op (.bin .geq (.t 65) (.t 68)))⟩,
    ⟨(some 70), 0, none, (.op (.pick (.t 64) (.k (.d (.bool true))) (.t 69)))⟩,
    ⟨(some 71), 0, none, (.op (.mov (.t 70)))⟩,
    ⟨(some 72), 0, (some (71, false)), (.op (.load true 2 (.t 2)))⟩,
    ⟨(some 73), 0, (some (71, false)), (.op (.fldA 0 (.t 3)))⟩,
    ⟨(some 74), 0, (some (71, false)), (.op (.load false 1 (.t 73)))⟩,
    ⟨(some 75), 0, (some (71, false)), (.op (.mov (.t 5)))⟩,
    ⟨(some 76), 0, (some (71, false)), (.op (.bin .sub (.t 75) (.k (.d (.int .i64 1)))))⟩,
    ⟨(some 77), 0, (some (71, false)), (.call (.k (.fn (.func 23) [] [])) [(.t 72), (.t 74), (.t 76)])⟩,
    ⟨(some 78), 0, (some (71, false)), (.op (.bin .eql (.t 77) (.k (.d (.int .i64 0)))))⟩,
    ⟨(some 79), 0, none, (.op (.pick (.t 71) (.k (.d (.bool true))) (.t 78)))⟩,
    ⟨(some 80), 0, none, (.op (.mov (.t 79)))⟩,
    ⟨(some 81), 0, (some (80, false)), (.op (.load true 2 (.t 2)))⟩,
    ⟨(some 82), 0, (some (80, false)), (.op (.fldA 1 (.t 3)))⟩,
    ⟨(some 83), 0, (some (80, false)), (.op (.load false 1 (.t 82)))⟩,
    ⟨(some 84), 0, (some (80, false)), (.op (.mov (.t 5)))⟩,
    ⟨(some 85), 0, (some (80, false)), (.op (.bin .sub (.t 84) (.k (.d (.int .i64 1)))))⟩,
    ⟨(some 86), 0, (some (80, false)), (.call (.k (.fn (.func 23) [] [])) [(.t 81), (.t 83), (.t 85)])⟩,
    ⟨(some 87), 0, (some (80, false)), (.op (.bin .neq (.t 86) (.k (.d (.int .i64 0)))))⟩,
    ⟨(some 88), 0, none, (.op (.pick (.t 80) (.k (.d (.bool true))) (.t 87)))⟩])
  (.cond (.t 88)
    (.seq (.reg 0 [⟨(some 4), 0, none, (.op (.mov (.k (.d (.bool false)))))⟩])
    (.ret))
    (.skip)))
  (.seq (.reg 1 [⟨(some 90), 0, none, (.op (.load true 2 (.t 2)))⟩,
    ⟨(some 91), 0, none, (.op (.mov (.t 5)))⟩,
    ⟨(some 92), 0, none, (.call (.k (.fn (.func 24) [] [])) [(.t 90), (.k (.d (.int .i64 0))), (.t 91)])⟩,
    ⟨(some 89), 0, none, (.op (.mov (.t 92)))⟩,
    ⟨(some 93), 0, none, (.op (.ext (.t 89) 0))⟩,
    ⟨(some 94), 0, none, (.op (.ext (.t 89) 1))⟩,
    ⟨(some 9), 0, none, (.op (.alloc [.nils, .nils]))⟩,
    ⟨none, 1, none, (.op (.store 2 (.t 9) (.t 93)))⟩,
    ⟨(some 10), 1, none, (.op (.mov (.t 94)))⟩])
  (.seq (.reg 0 [⟨(some 96), 0, none, (.op (.load true 2 (.t 9)))⟩,
    ⟨(some 97), 0, none, (.op (.load true 3 (.t 3)))⟩,
    ⟨(some 98), 0, none, (.call (.k (.fn (.func 19) [] [])) [(.t 96), (.t 97)])⟩,
    ⟨(some 95), 0, none, (.op (.mov (.t 98)))⟩,
    ⟨(some 99), 0, none, (.op (.ext (.t 95) 0))⟩,
    ⟨(some 100), 0, none, (.op (.ext (.t 95) 1))⟩,
    ⟨(some 11), 0, none, (.op (.mov (.t 99)))⟩,
    ⟨(some 12), 0, none, (.op (.mov (.t 100)))⟩])
  (.seq (.reg 1 [⟨(some 102), 0, none, (.op (.load true 2 (.t 2)))⟩,
    ⟨(some 103), 0, none, (.op (.mov (.t 5)))⟩,
    ⟨(some 104), 0, none, (.op (.bin .sub (.t 103) (.k (.d (.int .i64 1)))))⟩,
    ⟨(some 105), 0, none, (.op (.mov (.t 5)))⟩,
    ⟨(some 106), 0, none, (.op (.bin .add (.t 105) (.k (.d (.int .i64 1)))))⟩,
    ⟨(some 107), 0, none, (.call (.k (.fn (.func 24) [] [])) [(.t 102), (.t 104), (.t 106)])⟩,
    ⟨(some 101), 0, none, (.op (.mov (.t 107)))⟩,
    ⟨(some 108), 0, none, (.op (.ext (.t 101) 0))⟩,
    ⟨(some 109), 0, none, (.op (.ext (.t 101) 1))⟩,
    ⟨(some 13), 0, none, (.op (.alloc [.nils, .nils]))⟩,
    ⟨none, 1, none, (.op (.store 2 (.t 13) (.t 108)))⟩,
    ⟨(some 14), 1, none, (.op (.mov (.t 109)))⟩])
  (.seq (.reg 0 [⟨(some 111), 0, none, (.op (.load true 2 (.t 13)))⟩,
    ⟨(some 112), 0, none, (.op (.load true 3 (.t 3)))⟩,
    ⟨(some 113), 0, none, (.call (.k (.fn (.func 19) [] [])) [(.t 111), (.t 112)])⟩,
    ⟨(some 110), 0, none, (.op (.mov (.t 113)))⟩,
    ⟨(some 114), 0, none, (.op (.ext (.t 110) 0))⟩,
    ⟨(some 115), 0, none, (.op (.ext (.t 110) 1))⟩,
    ⟨(some 15), 0, none, (.op (.mov (.t 114)))⟩,
    ⟨(some 16), 0, none, (.op (.mov (.t 115)))⟩])
  (.seq (.reg 0 [⟨(some 116), 0, none, (.op (.mov (.t 10)))⟩,
    ⟨(some 117), 0, none, (.op (.bin .eql (.t 116) (.k (.d (.int .i64 0)))))⟩,
    ⟨(some 118), 0, none, (.op (.mov (.t 117)))⟩,
    ⟨(some 119), 0, (some (118, true)), (.op (.mov (.t 12)))⟩,
    ⟨(some 120), 0, (some (118, true)), (.op (.bin .eql (.t 119) (.k (.d (.int .i64 0)))))⟩,
    ⟨(some 121), 0, none, (.op (.pick (.t 118) (.t 120) (.k (.d (.bool false)))))⟩,
    ⟨(some 122), 0, none, (.op (.mov (.t 121)))⟩,
    ⟨(some 123), 0, (some (122, true)), (.op (.mov (.t 11)))⟩,
    ⟨(some 124), 0, (some (122, true)), (.op (.bin .eql (.t 123) (.k (.d (.int .i64 (-1))))))⟩,
    ⟨(some 125), 0, none, (.op (.pick (.t 122) (.t 124) (.k (.d (.bool false)))))⟩,
    ⟨(some 126), 0, none, (.op (.mov (.t 125)))⟩,
    ⟨(some 127), 0, (some (126, true)), (.op (.mov (.t 14)))⟩,
    ⟨(some 128), 0, (some (126, true)), (.op (.bin .eql (.t 127) (.k (.d (.int .i64 0)))))⟩,
    ⟨(some 129), 0, none, (.op (.pick (.t 126) (.t 128) (.k (.d (.bool false)))))⟩,
    ⟨(some 130), 0, none, (.op (.mov (.t 129)))⟩,
    ⟨(some 131), 0, (some (130, true)), (.op (.mov (.t 16)))⟩,
    ⟨(some 132), 0, (some (130, true)), (.op (.bin .eql (.t 131) (.k (.d (.int .i64 0)))))⟩,
    ⟨(some 133), 0, none, (.op (.pick (.t 130) (.t 132) (.k (.d (.bool false)))))⟩,
    ⟨(some 134), 0, none, (.op (.mov (.t 133)))⟩,
    ⟨(some 135), 0, (some (134, true)), (.op (.mov (.t 15)))⟩,
    ⟨(some 136), 0, (some (134, true)), (.op (.bin .eql (.t 135) (.k (.d (.int .i64 1)))))⟩,
    ⟨(some 137), 0, none, (.op (.pick (.t 134) (.t 136) (.k (.d (.bool false)))))⟩,
    ⟨(some 138), 0, none, (.op (.mov (.t 137)))⟩,
    ⟨(some 139), 0, (some (138, true)), (.call (.k (.fn (.func 10) [] [])) [])⟩,
    ⟨(some 140), 0, none, (.op (.pick (.t 138) (.t 139) (.k (.d (.bool false)))))⟩,
    ⟨(some 4), 0, none, (.op (.mov (.t 140)))⟩])
  (.ret)))))))))))))
theorem cc8 : Tryd.f8.body.bind (compC Tryd.prog) = some ac8 := by kernel_rfl
theorem go8 {vals : List V} {v : V} (ac : AC) (he : ac.erase = ac8) (hw : wpC Tryd.prog 0 ac (retQ [.tmp 4] v) ⟨vals ++ List.replicate (141 - vals.length) (.tup []), []⟩) : CallP Tryd.prog 8 vals v :=
  call_of Tryd.func8 rfl rfl rfl (cc8.trans (congrArg some he.symm)) hw
/-- testbench/testbenchlaw37.few -/
def ac9 : AC :=
  .seq (.reg 3 [⟨(some 3), 0, none, (.op (.box 2 (.t 0)))⟩,
    ⟨(some 4), 1, none, (.op (.box 3 (.t 1)))⟩,
    ⟨(some 5), 2, none, (.op (.box 3 (.t 2)))⟩,
    ⟨(some 6), 3, none, (.op (.mov (.k (.d (.bool false)))))⟩])
  (.seq (.reg 0 [⟨(some 7), 0, none, (.op (.fldA 0 (.t 3)))⟩,
    ⟨(some 8), 0, none, (.op (.load false 1 (.t 7)))⟩,
    ⟨(some 9), 0, none, (.op (.len false (.t 8)))⟩,
    ⟨(some 10), 0, none, (.op (.bin .leq (.t 9) (.k (.d (.int .i64 60)))))⟩,
    ⟨(some 11), 0, none, (.op (.mov (.t 10)))⟩,
    ⟨(some 12), 0, (some (11, true)), (.op (.fldA 1 (.t 3)))⟩,
    ⟨(some 13), 0, (some (11, true)), (.op (.load false 1 (.t 12)))⟩,
    ⟨(some 14), 0, (some (11, true)), (.op (.len false (.t 13)))⟩,
    ⟨(some 15), 0, (some (11, true)), (.op (.bin .leq (.t 14) (.k (.d (.int .i64 40)))))⟩,
    ⟨(some 16), 0, none, (.op (.pick (.t 11) (.t 15) (.k (.d (.bool false)))))⟩,
    ⟨(some 17), 0, none, (.op (.mov (.t 16)))⟩,
    ⟨(some 18), 0, (some (17, true)), (.op (.fldA 2 (.t 4)))⟩,
    ⟨(some 19), 0, (some (17, true)), (.op (.load false 1 (.t 18)))⟩,
    ⟨(some 20), 0, (some (17, true)), (.op (.len false (.t 19)))⟩,
    ⟨(some 21), 0, (some (17, true)), (.op (.bin .leq (.t 20) (.k (.d (.int .i64 30)))))⟩,
    ⟨(some 22), 0, none, (.op (.pick (.t 17) (.t 21) (.k (.d (.bool false)))))⟩,
    ⟨(some 23), 0, none, (.op (.mov (.t 22)))⟩,
    ⟨(some 24), 0, (some (23, true)), (.op (.fldA 2 (.t 5)))⟩,
    ⟨(some 25), 0, (some (23, true)), (.op (.load false 1 (.t 24)))⟩,
    ⟨(some 26), 0, (some (23, true)), (.op (.len false (.t 25)))⟩,
    ⟨(some 27), 0, (some (23, true)), (.op (.bin .leq (.t 26) (.k (.d (.int .i64 30)))))⟩,
    ⟨(some 28), 0, none, (.op (.pick (.t 23) (.t 27) (.k (.d (.bool false)))))⟩,
    ⟨(some 6), 0, none, (.op (.mov (.t 28)))⟩])
  (.ret))
theorem cc9 : Tryd.f9.body.bind (compC Tryd.prog) = some ac9 := by kernel_rfl
theorem go9 {vals : List V} {v : V} (ac : AC) (he : ac.erase = ac9) (hw : wpC Tryd.prog 0 ac (retQ [.tmp 6] v) ⟨vals ++ List.replicate (29 - vals.length) (.tup []), []⟩) : CallP Tryd.prog 9 vals v :=
  call_of Tryd.func9 rfl rfl rfl (cc9.trans (congrArg some he.symm)) hw
/-- testbench/testbenchlaw37.awake -/
def ac10 : AC :=
  .seq (.reg 0 [⟨(some 0), 0, none, (.op (.mov (.k (.d (.bool false)))))⟩])
  (.seq (.reg 0 [⟨(some 11), 0, none, (.call (.k (.fn (.func 25) [] [])) [])⟩,
    ⟨(some 12), 0, none, (.call (.k (.fn (.func 26) [] [])) [])⟩,
    ⟨(some 13), 0, none, (.call (.k (.fn (.func 11) [] [])) [(.t 11), (.t 12)])⟩,
    ⟨(some 10), 0, none, (.op (.mov (.t 13)))⟩,
    ⟨(some 14), 0, none, (.op (.ext (.t 10) 0))⟩,
    ⟨(some 15), 0, none, (.op (.ext (.t 10) 1))⟩,
    ⟨(some 1), 0, none, (.op (.mov (.t 14)))⟩,
    ⟨(some 2), 0, none, (.op (.mov (.t 15)))⟩])
  (.seq (.reg 0 [⟨(some 17), 0, none, (.call (.k (.fn (.func 25) [] [])) [])⟩,
    ⟨(some 18), 0, none, (.call (.k (.fn (.func 26) [] [])) [])⟩,
    ⟨(some 19), 0, none, (.call (.k (.fn (.func 13) [] [])) [(.t 17), (.t 18)])⟩,
    ⟨(some 16), 0, none, (.op (.mov (.t 19)))⟩,
    ⟨(some 20), 0, none, (.op (.ext (.t 16) 0))⟩,
    ⟨(some 21), 0, none, (.op (.ext (.t 16) 1))⟩,
    ⟨(some 3), 0, none, (.op (.mov (.t 20)))⟩,
    ⟨(some 4), 0, none, (.op (.mov (.t 21)))⟩])
  (.seq (.reg 1 [⟨(some 22), 0, none, (.call (.k (.fn (.func 25) [] [])) [])⟩,
    ⟨(some 5), 0, none, (.op (.alloc [.nils, .nils]))⟩,
    ⟨none, 1, none, (.op (.store 2 (.t 5) (.t 22)))⟩])
  (.seq (.reg 0 [⟨(some 23), 0, none, (.op (.fldA 1 (.t 5)))⟩,
    ⟨(some 24), 0, none, (.op (.load false 1 (.t 23)))⟩,
    ⟨(some 25), 0, none, (.op (.idxA 1 none (.t 24) (.k (.d (.int .i64 1)))))⟩,
    ⟨(some 26), 0, none, (.op (.load false 1 (.t 25)))⟩,
    ⟨(some 27), 0, none, (.op (.idxA 1 none (.t 26) (.k (.d (.int .i64 2)))))⟩,
    ⟨none, 0, none, (.op (.store 1 (.t 27) (.k (.d (.int .i64 6)))))⟩])
  (.seq (.regD 0 [(⟨(some 29), 0, none, (.op (.load true 2 (.t 5)))⟩, []),
    (⟨(some 30), 0, none, (.call (.k (.fn (.func 26) [] [])) [])⟩, []),
    (⟨(some 31), 0, none, (.call (.k (.fn (.func 19) [] [])) [(.t 29), (.t 30)])⟩, [0, 1]),
    (⟨(some 28), 0, none, (.op (.mov (.t 31)))⟩, [2, 0, 1]),
    (⟨(some 32), 0, none, (.op (.ext (.t 28) 0))⟩, [3, 2, 0, 1]),
    (⟨(some 33), 0, none, (.op (.ext (.t 28) 1))⟩, [3, 2, 0, 1]),
    (⟨(some 6), 0, none, (.op (.mov (.t 32)))⟩, [4, 3, 2, 0, 1]),
    (⟨(some 7), 0, none, (.op (.mov (.t 33)))⟩, [5, 3, 2, 0, 1, 6, 4])])
  (.seq (.reg 0 [⟨(some 35), 0, none, (.call (.k (.fn (.func 25) [] [])) [])⟩,
    ⟨(some 36), 0, none, (.call (.k (.fn (.func 26) [] [])) [])⟩,
    ⟨(some 37), 0, none, (.call (.k (.fn (.func 26) [] [])) [])⟩,
    ⟨(some 38), 0, none, (.call (.k (.fn (.func 21) [] [])) [(.t 35), (.t 36), (.t 37)])⟩,
    ⟨(some 34), 0, none, (.op (.mov (.t 38)))⟩,
    ⟨(some 39), 0, none, (.op (.ext (.t 34) 0))⟩,
    ⟨(some 40), 0, none, (.op (.ext (.t 34) 1))⟩,
    ⟨(some 8), 0, none, (.op (.mov (.t 39)))⟩,
    ⟨(some 9), 0, none, (.op (.mov (.t 40)))⟩])
  (.seq (.reg 0 [⟨(some 41), 0, none, (.op (.mov (.t 2)))⟩,
    ⟨(some 42), 0, none, (.op (.bin .eql (.t 41) (.k (.d (.int .i64 0)))))⟩,
    ⟨(some 43), 0, none, (.op (.mov (.t 42)))⟩,
    ⟨(some 44), 0, (some (43, true)), (.op (.mov (.t 1)))⟩,
    ⟨(some 45), 0, (some (43, true)), (.op (.len false (.t 44)))⟩,
    ⟨(some 46), 0, (some (43, true)), (.op (.bin .eql (.t 45) (.k (.d (.int .i64 2)))))⟩,
    ⟨(some 47), 0, none, (.op (.pick (.t 43) (.t 46) (.k (.d (.bool false)))))⟩,
    ⟨(some 48), 0, none, (.op (.mov (.t 47)))⟩,
    ⟨(some 49), 0, (some (48, true)), (.op (.mov (.t 1)))⟩,
    ⟨(some 50), 0, (some (48, true)), (.op (.idxA 2 none (.t 49) (.k (.d (.int .i64 0)))))⟩,
    ⟨(some 51), 0, (some (48, true)), (.op (.fldA 1 (.t 50)))⟩,
    ⟨(some 52), 0, (some (48, true)), (.op (.load false 1 (.t 51)))⟩,
    ⟨(some 53), 0, (some (48, true)), (.op (.len false (.t 52)))⟩,
    ⟨(some 54), 0, (some (48, true)), (.op (.bin .eql (.t 53) (.k (.d (.int .i64 1)))))⟩,
    ⟨(some 55), 0, none, (.op (.pick (.t 48) (.t 54) (.k (.d (.bool false)))))⟩,
    ⟨(some 56), 0, none, (.op (.mov (.t 55)))⟩,
    ⟨(some 57), 0, (some (56, true)), (.op (.mov (.t 1)))⟩,
    ⟨(some 58), 0, (some (56, true)), (.op (.idxA 2 none (.t 57) (.k (.d (.int .i64 0)))))⟩,
    ⟨(some 59), 0, (some (56, true)), (.op (.fldA 1 (.t 58)))⟩,
    ⟨(some 60), 0, (some (56, true)), (.op (.load false 1 (.t 59)))⟩,
    ⟨(some 61), 0, (some (56, true)), (.op (.idxA 1 none (.t 60) (.k (.d (.int .i64 0)))))⟩,
    ⟨(some 62), 0, (some (56, true)), (.op (.load false 1 (.t 61)))⟩,
    ⟨(some 63), 0, (some (56, true)), (.op (.bin .eql (.t 62) (.k (.d (.int .i64 5)))))⟩,
    ⟨(some 64), 0, none, (.op (.pick (.t 56) (.t 63) (.k (.d (.bool false)))))⟩,
    ⟨(some 65), 0, none, (.op (.mov (.t 64)))⟩,
    ⟨(some 66), 0, (some (65, true)), (.op (.mov (.t 4)))⟩,
    ⟨(some 67), 0, (some (65, true)), (.op (.bin .eql (.t 66) (.k (.d (.int .i64 0)))))⟩,
    ⟨(some 68), 0, none, (.op (.pick (.t 65) (.t 67) (.k (.d (.bool false)))))⟩,
    ⟨(some 69), 0, none, (.op (.mov (.t 68)))⟩,
    ⟨(some 70), 0, (some (69, true)), (.op (.mov (.t 3)))⟩,
    ⟨(some 71), 0, (some (69, true)), (.op (.len false (.t 70)))⟩,
    ⟨(some 72), 0, (some (69, true)), (.op (.bin .eql (.t 71) (.k (.d (.int .i64 2)))))⟩,
    ⟨(some 73), 0, none, (.op (.pick (.t 69) (.t 72) (.k (.d (.bool false)))))⟩,
    ⟨(some 74), 0, none, (.op (.mov (.t 73)))⟩,
    ⟨(some 75), 0, (some (74, true)), (.op (.mov (.t 3)))⟩,
    ⟨(some 76), 0, (some (74, true)), (.op (.idxA 1 none (.t 75) (.k (.d (.int .i64 1)))))⟩,
    ⟨(some 77), 0, (some (74, true)), (.op (.load false 1 (.t 76)))⟩,
    ⟨(some 78), 0, (some (74, true)), (.op (.bin .eql (.t 77) (.k (.d (.int .i64 3)))))⟩,
    ⟨(some 79), 0, none, (.op (.pick (.t 74) (.t 78) (.k (.d (.bool false)))))⟩,
    ⟨(some 80), 0, none, (.op (.mov (.t 79)))⟩,
    ⟨(some 81), 0, (some (80, true)), (.op (.mov (.t 6)))⟩,
    ⟨(some 82), 0, (some (80, true)), (.op (.bin .eql (.t 81) (.k (.d (.int .i64 1)))))⟩,
    ⟨(some 83), 0, none, (.op (.pick (.t 80) (.t 82) (.k (.d (.bool false)))))⟩,
    ⟨(some 84), 0, none, (.op (.mov (.t 83)))⟩,
    ⟨(some 85), 0, (some (84, true)), (.op (.mov (.t 7)))⟩,
    ⟨(some 86), 0, (some (84, true)), (.op (.bin .eql (.t 85) (.k (.d (.int .i64 0)))))⟩,
    ⟨(some 87), 0, none, (.op (.pick (.t 84) (.t 86) (.k (.d (.bool false)))))⟩,
    ⟨(some 88), 0, none, (.op (.mov (.t 87)))⟩,
    ⟨(some 89), 0, (some (88, true)), (.op (.mov (.t 8)))⟩,
    ⟨(some 90), 0, (some (88, true)), (.op (.len false (.t 89)))⟩,
    ⟨(some 91), 0, (some (88, true)), (.op (.bin .eql (.t 90) (.k (.d (.int .i64 2)))))⟩,
    ⟨(some 92), 0, none, (.op (.pick (.t 88) (.t 91) (.k (.d (.bool false)))))⟩,
    ⟨(some 93), 0, none, (.op (.mov (.t 92)))⟩,
    ⟨(some 94), 0, (some (93, true)), (.op (.mov (.t 9)))⟩,
    ⟨(some 95), 0, (some (93, true)), (.op (.bin .eql (.t 94) (.k (.d (.int .i64 0)))))⟩,
    ⟨(some 96), 0, none, (.op (.pick (.t 93) (.t 95) (.k (.d (.bool false)))))⟩,
    ⟨(some 97), 0, none, (.op (.mov (.t 96)))⟩,
    ⟨(some 98), 0, (some (97, true)), (.call (.k (.fn (.func 26) [] [])) [])⟩,
    ⟨(some 99), 0, (some (97, true)), (.call (.k (.fn (.func 15) [] [])) [(.t 98)])⟩,
    ⟨(some 100), 0, none, (.op (.pick (.t 97) (.t 99) (.k (.d (.bool false)))))⟩,
    ⟨(some 101), 0, none, (.op (.mov (.t 100)))⟩,
    ⟨(some 102), 0, (some (101, true)), (.op (.build [(.str []), (.str []), .nils] []))⟩,
    ⟨(some 103), 0, (some (101, true)), (.call (.k (.fn (.func 15) [] [])) [(.t 102)])⟩,
    ⟨(some 104), 0, (some (101, true)), (.op (.un .not (.t 103)))⟩,
    ⟨(some 105), 0, none, (.op (.pick (.t 101) (.t 104) (.k (.d (.bool false)))))⟩,
    ⟨(some 0), 0, none, (.op (.mov (.t 105)))⟩])
  (.ret))))))))
theorem cc10 : Tryd.f10.body.bind (compC Tryd.prog) = some ac10 := by kernel_rfl
theorem go10 {vals : List V} {v : V} (ac : AC) (he : ac.erase = ac10) (hw : wpC Tryd.prog 0 ac (retQ [.tmp 0] v) ⟨vals ++ List.replicate (106 - vals.length) (.tup []), []⟩) : CallP Tryd.prog 10 vals v :=
  call_of Tryd.func10 rfl rfl rfl (cc10.trans (congrArg some he.symm)) hw
/-- testbench/monitor.Transfers -/
def ac11 : AC :=
  .seq (.reg 2 [⟨(some 2), 0, none, (.op (.box 2 (.t 0)))⟩,
    ⟨(some 3), 1, none, (.op (.box 3 (.t 1)))⟩,
    ⟨(some 4), 2, none, (.op (.mov (.k (.d .nils))))⟩,
    ⟨(some 5), 2, none, (.op (.mov (.k (.d (.int .i64 0)))))⟩])
  (.seq (.reg 1 [⟨(some 12), 0, none, (.op (.load true 2 (.t 2)))⟩,
    ⟨(some 13), 0, none, (.op (.load true 3 (.t 3)))⟩,
    ⟨(some 14), 0, none, (.op (.buildSl 3 1 [(.str []), (.str []), .nils] [(0, (.t 13))]))⟩,
    ⟨(some 15), 1, none, (.call (.k (.fn (.func 27) [] [])) [(.t 12), (.t 14)])⟩,
    ⟨(some 11), 1, none, (.op (.mov (.t 15)))⟩,
    ⟨(some 16), 1, none, (.op (.ext (.t 11) 0))⟩,
    ⟨(some 17), 1, none, (.op (.ext (.t 11) 1))⟩,
    ⟨(some 6), 1, none, (.op (.mov (.t 16)))⟩,
    ⟨(some 7), 1, none, (.op (.mov (.t 17)))⟩])
  (.seq (.seq (.reg 0 [⟨(some 18), 0, none, (.op (.mov (.t 7)))⟩,
    ⟨(some 19), 0, none, (.op (.bin .neq (.t 18) (.k (.d (.int .i64 0)))))⟩])
  (.cond (.t 19)
    (.seq (.reg 0 [⟨(some 20), 0, none, (.op (.mov (.t 7)))⟩,
      ⟨(some 4), 0, none, (.op (.mov (.k (.d .nils))))⟩,
      ⟨(some 5), 0, none, (.op (.mov (.t 20)))⟩])
    (.ret))
    (.skip)))
  (.seq (.reg 1 [⟨(some 8), 0, none, (.op (.alloc [.nils]))⟩])
  (.seq (.seq (.reg 0 [⟨(some 21), 0, none, (.op (.mov (.t 6)))⟩,
    ⟨(some 22), 0, none, (.op (.idxA 7 none (.t 21) (.k (.d (.int .i64 0)))))⟩,
    ⟨(some 23), 0, none, (.op (.load true 7 (.t 22)))⟩,
    ⟨(some 24), 0, none, (.call (.k (.fn (.func 28) [] [])) [(.t 23)])⟩])
  (.block 0
   (.rng (.t 24) #[25, 26]
    (.reg 1 [⟨(some 10), 0, none, (.op (.alloc [.nils, .nils]))⟩,
      ⟨none, 1, none, (.op (.store 2 (.t 10) (.t 26)))⟩])
    (.block 1
     (.reg 2 [⟨(some 27), 0, none, (.op (.load false 1 (.t 8)))⟩,
       ⟨(some 28), 0, none, (.op (.load true 2 (.t 10)))⟩,
       ⟨(some 29), 0, none, (.op (.buildSl 2 1 [.nils, .nils] [(0, (.t 28))]))⟩,
       ⟨(some 30), 1, none, (.op (.append 2 48 (.t 27) (.t 29)))⟩,
       ⟨none, 2, none, (.op (.store 1 (.t 8) (.t 30)))⟩])))))
  (.seq (.reg 0 [⟨(some 31), 0, none, (.op (.load false 1 (.t 8)))⟩,
    ⟨(some 4), 0, none, (.op (.mov (.t 31)))⟩,
    ⟨(some 5), 0, none, (.op (.mov (.k (.d (.int .i64 0)))))⟩])
  (.ret))))))
theorem cc11 : Tryd.f11.body.bind (compC Tryd.prog) = some ac11 := by kernel_rfl
theorem go11 {vals : List V} {v : V} (ac : AC) (he : ac.erase = ac11) (hw : wpC Tryd.prog 0 ac (retQ [.tmp 4, .tmp 5] v) ⟨vals ++ List.replicate (32 - vals.length) (.tup []), []⟩) : CallP Tryd.prog 11 vals v :=
  call_of Tryd.func11 rfl rfl rfl (cc11.trans (congrArg some he.symm)) hw
/-- testbench/testbenchref37.Transfers -/
def ac12 : AC :=
  .seq (.reg 2 [⟨(some 2), 0, none, (.op (.box 2 (.t 0)))⟩,
    ⟨(some 3), 1, none, (.op (.box 3 (.t 1)))⟩,
    ⟨(some 4), 2, none, (.op (.mov (.k (.d .nils))))⟩,
    ⟨(some 5), 2, none, (.op (.mov (.k (.d (.int .i64 0)))))⟩])
  (.seq (.reg 0 [⟨(some 13), 0, none, (.op (.load true 2 (.t 2)))⟩,
    ⟨(some 14), 0, none, (.op (.load true 3 (.t 3)))⟩,
    ⟨(some 15), 0, none, (.call (.k (.fn (.func 14) [] [])) [(.t 13), (.t 14)])⟩,
    ⟨(some 12), 0, none, (.op (.mov (.t 15)))⟩,
    ⟨(some 16), 0, none, (.op (.ext (.t 12) 0))⟩,
    ⟨(some 17), 0, none, (.op (.ext (.t 12) 1))⟩,
    ⟨(some 6), 0, none, (.op (.mov (.t 16)))⟩,
    ⟨(some 7), 0, none, (.op (.mov (.t 17)))⟩])
  (.seq (.seq (.reg 0 [⟨(some 18), 0, none, (.op (.mov (.t 7)))⟩,
    ⟨(some 19), 0, none, (.op (.bin .neq (.t 18) (.k (.d (.int .i64 0)))))⟩])
  (.cond (.t 19)
    (.seq (.reg 0 [⟨(some 20), 0, none, (.op (.mov (.t 7)))⟩,
      ⟨(some 4), 0, none, (.op (.mov (.k (.d .nils))))⟩,
      ⟨(some 5), 0, none, (.op (.mov (.t 20)))⟩])
    (.ret))
    (.skip)))
  (.seq (.reg 0 [⟨(some 8), 0, none, (.op (.mov (.k (.d .nils))))⟩])
  (.seq (.seq (.reg 0 [⟨(some 9), 0, none, (.op (.mov (.k (.d (.int .i64 0)))))⟩])
  (.block 0
   (.loop
    (.seq (.seq (.reg 0 [⟨(some 21), 0, none, (.op (.mov (.t 9)))⟩,
      ⟨(some 22), 0, none, (.op (.mov (.t 6)))⟩,
      ⟨(some 23), 0, none, (.op (.len false (.t 22)))⟩,
      ⟨(some 24), 0, none, (.op (.bin .lss (.t 21) (.t 23)))⟩])
    (.cond (.t 24)
      (.skip)
      (.exit 0)))
    (.seq (.block 1
     (.seq (.reg 1 [⟨(some 27), 0, none, (.op (.build [.nils, .nils] []))⟩,
       ⟨(some 10), 0, none, (.op (.alloc [.nils, .nils]))⟩,
       ⟨none, 1, none, (.op (.store 2 (.t 10) (.t 27)))⟩])
     (.seq (.seq (.reg 0 [⟨(some 11), 0, none, (.op (.mov (.k (.d (.int .i64 0)))))⟩])
     (.block 2
      (.loop
       (.seq (.seq (.reg 0 [⟨(some 28), 0, none, (.op (.mov (.t 11)))⟩,
         ⟨(some 29), 0, none, (.op (.fldA 2 (.t 3)))⟩,
         ⟨(some 30), 0, none, (.op (.load false 1 (.t 29)))⟩,
         ⟨(some 31), 0, none, (.op (.len false (.t 30)))⟩,
         ⟨(some 32), 0, none, (.op (.bin .lss (.t 28) (.t 31)))⟩])
       (.cond (.t 32)
         (.skip)
         (.exit 2)))
       (.seq (.block 3
        (.seq (.regD 2 [(⟨(some 35), 0, none, (.op (.fldA 0 (.t 10)))⟩, []),
          (⟨(some 36), 0, none, (.op (.load false 1 (.t 35)))⟩, [0]),
          (⟨(some 37), 0, none, (.op (.fldA 2 (.t 3)))⟩, []),
          (⟨(some 38), 0, none, (.op (.load false 1 (.t 37)))⟩, [2]),
          (⟨(some 39), 0, none, (.op (.mov (.t 11)))⟩, []),
          (⟨(some 40), 0, none, (.op (.idxA 1 none (.t 38) (.t 39)))⟩, [3, 2, 4]),
          (⟨(some 41), 0, none, (.op (.load false 1 (.t 40)))⟩, [5, 3, 2, 4]),
          (⟨(some 42), 0, none, (.op (.buildSl 1 1 [(.str [])] [(0, (.t 41))]))⟩, [6, 5, 3, 2, 4]),
          (⟨(some 43), 1, none, (.op (.append 1 16 (.t 36) (.t 42)))⟩, [1, 0, 7, 6, 5, 3, 2, 4]),
          (⟨(some 44), 2, none, (.op (.fldA 0 (.t 10)))⟩, [0, 1, 2, 3, 4, 5, 6, 7, 8]),
          (⟨none, 2, none, (.op (.store 1 (.t 44) (.t 43)))⟩, [9, 0, 1, 2, 3, 4, 5, 6, 7, 8])])
        (.regD 2 [(⟨(some 45), 0, none, (.op (.fldA 1 (.t 10)))⟩, []),
          (⟨(some 46), 0, none, (.op (.load false 1 (.t 45)))⟩, [0]),
          (⟨(some 47), 0, none, (.op (.load true 2 (.t 2)))⟩, []),
          (⟨(some 48), 0, none, (.op (.fldA 2 (.t 3)))⟩, []),
          (⟨(some 49), 0, none, (.op (.load false 1 (.t 48)))⟩, [3]),
          (⟨(some 50), 0, none, (.op (.mov (.t 11)))⟩, []),
          (⟨(some 51), 0, none, (.op (.idxA 1 none (.t 49) (.t 50)))⟩, [4, 3, 5]),
          (⟨(some 52), 0, none, (.op (.load false 1 (.t 51)))⟩, [6, 4, 3, 5]),
          (⟨(some 53), 0, none, (.op (.mov (.t 6)))⟩, []),
          (⟨(some 54), 0, none, (.op (.mov (.t 9)))⟩, []),
          (⟨(some 55), 0, none, (.op (.idxA 1 none (.t 53) (.t 54)))⟩, [8, 9]),
          (⟨(some 56), 0, none, (.op (.load false 1 (.t 55)))⟩, [10, 8, 9]),
          (⟨(some 57), 0, none, (.call (.k (.fn (.func 29) [] [])) [(.t 47), (.t 52), (.t 56)])⟩, [2, 7, 6, 4, 3, 5, 11, 10, 8, 9]),
          (⟨(some 58), 0, none, (.op (.buildSl 1 1 [(.int .i64 0)] [(0, (.t 57))]))⟩, [12, 2, 7, 6, 4, 3, 5, 11, 10, 8, 9]),
          (⟨(some 59), 1, none, (.op (.append 1 8 (.t 46) (.t 58)))⟩, [1, 0, 13, 12, 2, 7, 6, 4, 3, 5, 11, 10, 8, 9]),
          (⟨(some 60), 2, none, (.op (.fldA 1 (.t 10)))⟩, [0, 1, 2, 3, 4, 5, 6, 7, 8, 9, 10, 11, 12, 13, 14]),
          (⟨none, 2, none, (.op (.store 1 (.t 60) (.t 59)))⟩, [15, 0, 1, 2, 3, 4, 5, 6, 7, 8, 9, 10, 11, 12, 13, 14])])))
       (.reg 0 [⟨(some 33), 0, none, (.op (.mov (.t 11)))⟩,
         ⟨(some 34), 0, none, (.op (.bin .add (.t 33) (.k (.d (.int .i64 1)))))⟩,
         ⟨(some 11), 0, none, (.op (.mov (.t 34)))⟩]))))))
     (.reg 2 [⟨(some 61), 0, none, (.op (.mov (.t 8)))⟩,
       ⟨(some 62), 0, none, (.op (.load true 2 (.t 10)))⟩,
       ⟨(some 63), 0, none, (.op (.buildSl 2 1 [.nils, .nils] [(0, (.t 62))]))⟩,
       ⟨(some 64), 1, none, (.op (.append 2 48 (.t 61) (.t 63)))⟩,
       ⟨(some 8), 2, none, (.op (.mov (.t 64)))⟩]))))
    (.reg 0 [⟨(some 25), 0, none, (.op (.mov (.t 9)))⟩,
      ⟨(some 26), 0, none, (.op (.bin .add (.t 25) (.k (.d (.int .i64 1)))))⟩,
      ⟨(some 9), 0, none, (.op (.mov (.t 26)))⟩]))))))
  (.seq (.reg 0 [⟨(some 65), 0, none, (.op (.mov (.t 8)))⟩,
    ⟨(some 4), 0, none, (.op (.mov (.t 65)))⟩,
    ⟨(some 5), 0, none, (.op (.mov (.k (.d (.int .i64 0)))))⟩])
  (.ret))))))
theorem cc12 : Tryd.f12.body.bind (compC Tryd.prog) = some ac12 := by kernel_rfl
theorem go12 {vals : List V} {v : V} (ac : AC) (he : ac.erase = ac12) (hw : wpC Tryd.prog 0 ac (retQ [.tmp 4, .tmp 5] v) ⟨vals ++ List.replicate (66 - vals.length) (.tup []), []⟩) : CallP Tryd.prog 12 vals v :=
  call_of Tryd.func12 rfl rfl rfl (cc12.trans (congrArg some he.symm)) hw
/-- testbench/monitor.Cycles -/
def ac13 : AC :=
  .seq (.reg 2 [⟨(some 2), 0, none, (.op (.box 2 (.t 0)))⟩,
    ⟨(some 3), 1, none, (.op (.box 3 (.t 1)))⟩,
    ⟨(some 4), 2, none, (.op (.mov (.k (.d .nils))))⟩,
    ⟨(some 5), 2, none, (.op (.mov (.k (.d (.int .i64 0)))))⟩])
  (.seq (.reg 1 [⟨(some 9), 0, none, (.op (.load true 2 (.t 2)))⟩,
    ⟨(some 10), 0, none, (.op (.load true 3 (.t 3)))⟩,
    ⟨(some 11), 0, none, (.op (.buildSl 3 1 [(.str []), (.str []), .nils] [(0, (.t 10))]))⟩,
    ⟨(some 12), 1, none, (.call (.k (.fn (.func 27) [] [])) [(.t 9), (.t 11)])⟩,
    ⟨(some 8), 1, none, (.op (.mov (.t 12)))⟩,
    ⟨(some 13), 1, none, (.op (.ext (.t 8) 0))⟩,
    ⟨(some 14), 1, none, (.op (.ext (.t 8) 1))⟩,
    ⟨(some 6), 1, none, (.op (.mov (.t 13)))⟩,
    ⟨(some 7), 1, none, (.op (.mov (.t 14)))⟩])
  (.seq (.seq (.reg 0 [⟨(some 15), 0, none, (.op (.mov (.t 7)))⟩,
    ⟨(some 16), 0, none, (.op (.bin .neq (.t 15) (.k (.d (.int .i64 0)))))⟩])
  (.cond (.t 16)
    (.seq (.reg 0 [⟨(some 17), 0, none, (.op (.mov (.t 7)))⟩,
      ⟨(some 4), 0, none, (.op (.mov (.k (.d .nils))))⟩,
      ⟨(some 5), 0, none, (.op (.mov (.t 17)))⟩])
    (.ret))
    (.skip)))
  (.seq (.reg 0 [⟨(some 18), 0, none, (.op (.mov (.t 6)))⟩,
    ⟨(some 19), 0, none, (.op (.idxA 7 none (.t 18) (.k (.d (.int .i64 0)))))⟩,
    ⟨(some 20), 0, none, (.op (.load true 7 (.t 19)))⟩,
    ⟨(some 21), 0, none, (.call (.k (.fn (.func 30) [] [])) [(.t 20)])⟩,
    ⟨(some 4), 0, none, (.op (.mov (.t 21)))⟩,
    ⟨(some 5), 0, none, (.op (.mov (.k (.d (.int .i64 0)))))⟩])
  (.ret))))
theorem cc13 : Tryd.f13.body.bind (compC Tryd.prog) = some ac13 := by kernel_rfl
theorem go13 {vals : List V} {v : V} (ac : AC) (he : ac.erase = ac13) (hw : wpC Tryd.prog 0 ac (retQ [.tmp 4, .tmp 5] v) ⟨vals ++ List.replicate (22 - vals.length) (.tup []), []⟩) : CallP Tryd.prog 13 vals v :=
  call_of Tryd.func13 rfl rfl rfl (cc13.trans (congrArg some he.symm)) hw
/-- testbench/testbenchref37.Cycles -/
def ac14 : AC :=
  .seq (.reg 2 [⟨(some 2), 0, none, (.op (.box 2 (.t 0)))⟩,
    ⟨(some 3), 1, none, (.op (.box 3 (.t 1)))⟩,
    ⟨(some 4), 2, none, (.op (.mov (.k (.d .nils))))⟩,
    ⟨(some 5), 2, none, (.op (.mov (.k (.d (.int .i64 0)))))⟩])
  (.seq (.reg 1 [⟨(some 9), 0, none, (.op (.load true 2 (.t 2)))⟩,
    ⟨(some 10), 0, none, (.op (.load true 3 (.t 3)))⟩,
    ⟨(some 11), 0, none, (.op (.buildSl 3 1 [(.str []), (.str []), .nils] [(0, (.t 10))]))⟩,
    ⟨(some 12), 1, none, (.call (.k (.fn (.func 31) [] [])) [(.t 9), (.t 11)])⟩,
    ⟨(some 6), 1, none, (.op (.mov (.t 12)))⟩])
  (.seq (.seq (.reg 0 [⟨(some 13), 0, none, (.op (.mov (.t 6)))⟩,
    ⟨(some 14), 0, none, (.op (.bin .neq (.t 13) (.k (.d (.int .i64 0)))))⟩])
  (.cond (.t 14)
    (.seq (.reg 0 [⟨(some 15), 0, none, (.op (.mov (.t 6)))⟩,
      ⟨(some 4), 0, none, (.op (.mov (.k (.d .nils))))⟩,
      ⟨(some 5), 0, none, (.op (.mov (.t 15)))⟩])
    (.ret))
    (.skip)))
  (.seq (.reg 0 [⟨(some 7), 0, none, (.op (.mov (.k (.d .nils))))⟩])
  (.seq (.seq (.reg 0 [⟨(some 8), 0, none, (.op (.mov (.k (.d (.int .i64 0)))))⟩])
  (.block 0
   (.loop
    (.seq (.seq (.reg 0 [⟨(some 16), 0, none, (.op (.mov (.t 8)))⟩,
      ⟨(some 17), 0, none, (.op (.fldA 1 (.t 2)))⟩,
      ⟨(some 18), 0, none, (.op (.load false 1 (.t 17)))⟩,
      ⟨(some 19), 0, none, (.op (.len false (.t 18)))⟩,
      ⟨(some 20), 0, none, (.op (.bin .lss (.t 16) (.t 19)))⟩])
    (.cond (.t 20)
      (.skip)
      (.exit 0)))
    (.seq (.block 1
     (.seq (.reg 0 [⟨(some 23), 0, none, (.op (.load true 2 (.t 2)))⟩,
       ⟨(some 24), 0, none, (.op (.load true 3 (.t 3)))⟩,
       ⟨(some 25), 0, none, (.op (.mov (.t 8)))⟩,
       ⟨(some 26), 0, none, (.call (.k (.fn (.func 32) [] [])) [(.t 23), (.t 24), (.t 25)])⟩])
     (.cond (.t 26)
       (.reg 2 [⟨(some 27), 0, none, (.op (.mov (.t 7)))⟩,
         ⟨(some 28), 0, none, (.op (.mov (.t 8)))⟩,
         ⟨(some 29), 0, none, (.op (.buildSl 1 1 [(.int .i64 0)] [(0, (.t 28))]))⟩,
         ⟨(some 30), 1, none, (.op (.append 1 8 (.t 27) (.t 29)))⟩,
         ⟨(some 7), 2, none, (.op (.mov (.t 30)))⟩])
       (.skip))))
    (.reg 0 [⟨(some 21), 0, none, (.op (.mov (.t 8)))⟩,
      ⟨(some 22), 0, none, (.op (.bin .add (.t 21) (.k (.d (.int .i64 1)))))⟩,
      ⟨(some 8), 0, none, (.op (.mov (.t 22)))⟩]))))))
  (.seq (.reg 0 [⟨(some 31), 0, none, (.op (.mov (.t 7)))⟩,
    ⟨(some 4), 0, none, (.op (.mov (.t 31)))⟩,
    ⟨(some 5), 0, none, (.op (.mov (.k (.d (.int .i64 0)))))⟩])
  (.ret))))))
theorem cc14 : Tryd.f14.body.bind (compC Tryd.prog) = some ac14 := by kernel_rfl
theorem go14 {vals : List V} {v : V} (ac : AC) (he : ac.erase = ac14) (hw : wpC Tryd.prog 0 ac (retQ [.tmp 4, .tmp 5] v) ⟨vals ++ List.replicate (32 - vals.length) (.tup []), []⟩) : CallP Tryd.prog 14 vals v :=
  call_of Tryd.func14 rfl rfl rfl (cc14.trans (congrArg some he.symm)) hw
/-- testbench/monitor.Valid -/
def ac15 : AC :=
  .seq (.reg 1 [⟨(some 1), 0, none, (.op (.box 3 (.t 0)))⟩,
    ⟨(some 2), 1, none, (.op (.mov (.k (.d (.bool false)))))⟩])
  (.seq (.seq (.reg 0 [⟨(some 6), 0, none, (.op (.fldA 2 (.t 1)))⟩,
    ⟨(some 7), 0, none, (.op (.load false 1 (.t 6)))⟩,
    ⟨(some 8), 0, none, (.op (.len false (.t 7)))⟩,
    ⟨(some 9), 0, none, (.op (.bin .gtr (.t 8) (.k (.d (.int .i64 16)))))⟩])
  (.cond (.t 9)
    (.seq (.reg 0 [⟨(some 2), 0, none, (.op (.mov (.k (.d (.bool false)))))⟩])
    (.ret))
    (.skip)))
  (.seq (.reg 0 [⟨(some 10), 0, none, (.op (.load true 3 (.t 1)))⟩,
    ⟨(some 11), 0, none, (.call (.k (.fn (.func 33) [] [])) [(.t 10)])⟩,
    ⟨(some 3), 0, none, (.op (.mov (.t 11)))⟩])
  (.seq (.seq (.reg 0 [⟨(some 12), 0, none, (.op (.mov (.t 3)))⟩,
    ⟨(some 13), 0, none, (.op (.len false (.t 12)))⟩,
    ⟨(some 14), 0, none, (.op (.mov (.k (.d (.int .i64 0)))))⟩])
  (.block 0
   (.loop
    (.seq (.reg 0 [⟨(some 15), 0, none, (.op (.bin .lss (.t 14) (.t 13)))⟩])
    (.seq (.cond (.t 15)
      (.skip)
      (.exit 0))
    (.seq (.block 1
     (.seq (.reg 0 [⟨(some 16), 0, none, (.op (.mov (.t 14)))⟩,
       ⟨(some 17), 0, none, (.op (.idxA 1 none (.t 12) (.t 14)))⟩,
       ⟨(some 18), 0, none, (.op (.load false 1 (.t 17)))⟩,
       ⟨(some 4), 0, none, (.op (.mov (.t 16)))⟩,
       ⟨(some 5), 0, none, (.op (.mov (.t 18)))⟩])
     (.seq (.reg 0 [⟨(some 19), 0, none, (.op (.mov (.t 5)))⟩,
       ⟨(some 20), 0, none, (.call (.k (.fn (.func 34) [] [])) [(.t 19)])⟩,
       ⟨(some 21), 0, none, (.op (.un .not (.t 20)))⟩,
       ⟨(some 22), 0, none, (.op (.mov (.t 21)))⟩,
       ⟨(some 23), 0, (some (22, false)), (.op (.mov (.t 3)))⟩,
       ⟨(some 24), 0, (some (22, false)), (.op (.mov (.t 4)))⟩,
       ⟨(some 25), 0, (some (22, false)), (.op (.slice 1 (.t 23) none (some (.t 24))))⟩,
       ⟨(some 26), 0, (some (22, false)), (.op (.mov (.t 5)))⟩,
       ⟨(some 27), 0, (some (22, false)), (.call (.k (.fn (.func 35) [] [])) [(.t 25), (.t 26)])⟩,
       ⟨(some 28), 0, none, (.op (.pick (.t 22) (.k (.d (.bool true))) (.t 27)))⟩])
     (.cond (.t 28)
       (.seq (.reg 0 [⟨(some 2), 0, none, (.op (.mov (.k (.d (.bool false)))))⟩])
       (.ret))
       (.skip)))))
    (.reg 0 [⟨(some 29), 0, none, (.op (.bin .add (.t 14) (.k (.d (.int .i64 1)))))⟩,
      ⟨(some 14), 0, none, (.op (.mov (.t 29)))⟩])))))))
  (.seq (.reg 0 [⟨(some 2), 0, none, (.op (.mov (.k (.d (.bool true)))))⟩])
  (.ret)))))
theorem cc15 : Tryd.f15.body.bind (compC Tryd.prog) = some ac15 := by kernel_rfl
theorem go15 {vals : List V} {v : V} (ac : AC) (he : ac.erase = ac15) (hw : wpC Tryd.prog 0 ac (retQ [.tmp 2] v) ⟨vals ++ List.replicate (30 - vals.length) (.tup []), []⟩) : CallP Tryd.prog 15 vals v :=
  call_of Tryd.func15 rfl rfl rfl (cc15.trans (congrArg some he.symm)) hw
/-- testbench/testbenchref37.Valid -/
def ac16 : AC :=
  .seq (.reg 1 [⟨(some 1), 0, none, (.op (.box 3 (.t 0)))⟩,
    ⟨(some 2), 1, none, (.op (.mov (.k (.d (.bool false)))))⟩])
  (.seq (.reg 0 [⟨(some 6), 0, none, (.op (.load true 3 (.t 1)))⟩,
    ⟨(some 7), 0, none, (.call (.k (.fn (.func 36) [] [])) [(.t 6)])⟩,
    ⟨(some 3), 0, none, (.op (.mov (.t 7)))⟩])
  (.seq (.seq (.reg 0 [⟨(some 4), 0, none, (.op (.mov (.k (.d (.int .i64 0)))))⟩])
  (.block 0
   (.loop
    (.seq (.seq (.reg 0 [⟨(some 8), 0, none, (.op (.mov (.t 4)))⟩,
      ⟨(some 9), 0, none, (.op (.mov (.t 3)))⟩,
      ⟨(some 10), 0, none, (.op (.len false (.t 9)))⟩,
      ⟨(some 11), 0, none, (.op (.bin .lss (.t 8) (.t 10)))⟩])
    (.cond (.t 11)
      (.skip)
      (.exit 0)))
    (.seq (.block 1
     (.seq (.seq (.reg 0 [⟨(some 14), 0, none, (.op (.mov (.t 3)))⟩,
       ⟨(some 15), 0, none, (.op (.mov (.t 4)))⟩,
       ⟨(some 16), 0, none, (.op (.idxA 1 none (.t 14) (.t 15)))⟩,
       ⟨(some 17), 0, none, (.op (.load false 1 (.t 16)))⟩,
       ⟨(some 18), 0, none, (.call (.k (.fn (.func 37) [] [])) [(.t 17)])⟩,
       ⟨(some 19), 0, none, (.op (.un .not (.t 18)))⟩])
     (.cond (.t 19)
       (.seq (.reg 0 [⟨(some 2), 0, none, (.op (.mov (.k (.d (.bool false)))))⟩])
       (.ret))
       (.skip)))
     (.seq (.reg 0 [⟨(some 5), 0, none, (.op (.mov (.k (.d (.int .i64 0)))))⟩])
     (.block 2
      (.loop
       (.seq (.seq (.reg 0 [⟨(some 20), 0, none, (.op (.mov (.t 5)))⟩,
         ⟨(some 21), 0, none, (.op (.mov (.t 4)))⟩,
         ⟨(some 22), 0, none, (.op (.bin .lss (.t 20) (.t 21)))⟩])
       (.cond (.t 22)
         (.skip)
         (.exit 2)))
       (.seq (.block 3
        (.seq (.regD 0 [(⟨(some 25), 0, none, (.op (.mov (.t 3)))⟩, []),
          (⟨(some 26), 0, none, (.op (.mov (.t 5)))⟩, []),
          (⟨(some 27), 0, none, (.op (.idxA 1 none (.t 25) (.t 26)))⟩, [0, 1]),
          (⟨(some 28), 0, none, (.op (.load false 1 (.t 27)))⟩, [2, 0, 1]),
          (⟨(some 29), 0, none, (.op (.mov (.t 3)))⟩, []),
          (⟨(some 30), 0, none, (.op (.mov (.t 4)))⟩, []),
          (⟨(some 31), 0, none, (.op (.idxA 1 none (.t 29) (.t 30)))⟩, [4, 5]),
          (⟨(some 32), 0, none, (.op (.load false 1 (.t 31)))⟩, [6, 4, 5]),
          (⟨(some 33), 0, none, (.op (.bin .eql (.t 28) (.t 32)))⟩, [3, 2, 0, 1, 7, 6, 4, 5])])
        (.cond (.t 33)
          (.seq (.reg 0 [⟨(some 2), 0, none, (.op (.mov (.k (.d (.bool false)))))⟩])
          (.ret))
          (.skip))))
       (.reg 0 [⟨(some 23), 0, none, (.op (.mov (.t 5)))⟩,
         ⟨(some 24), 0, none, (.op (.bin .add (.t 23) (.k (.d (.int .i64 1)))))⟩,
         ⟨(some 5), 0, none, (.op (.mov (.t 24)))⟩]))))))))
    (.reg 0 [⟨(some 12), 0, none, (.op (.mov (.t 4)))⟩,
      ⟨(some 13), 0, none, (.op (.bin .add (.t 12) (.k (.d (.int .i64 1)))))⟩,
      ⟨(some 4), 0, none, (.op (.mov (.t 13)))⟩]))))))
  (.seq (.reg 0 [⟨(some 34), 0, none, (.op (.fldA 2 (.t 1)))⟩,
    ⟨(some 35), 0, none, (.op (.load false 1 (.t 34)))⟩,
    ⟨(some 36), 0, none, (.op (.len false (.t 35)))⟩,
    ⟨(some 37), 0, none, (.op (.bin .leq (.t 36) (.k (.d (.int .i64 16)))))⟩,
    ⟨(some 2), 0, none, (.op (.mov (.t 37)))⟩])
  (.ret))))
theorem cc16 : Tryd.f16.body.bind (compC Tryd.prog) = some ac16 := by kernel_rfl
theorem go16 {vals : List V} {v : V} (ac : AC) (he : ac.erase = ac16) (hw : wpC Tryd.prog 0 ac (retQ [.tmp 2] v) ⟨vals ++ List.replicate (38 - vals.length) (.tup []), []⟩) : CallP Tryd.prog 16 vals v :=
  call_of Tryd.func16 rfl rfl rfl (cc16.trans (congrArg some he.symm)) hw
/-- testbench/testbenchref26.SameAll -/
def ac17 : AC :=
  .seq (.reg 0 [⟨(some 4), 0, none, (.op (.mov (.k (.d (.bool false)))))⟩])
  (.seq (.seq (.reg 0 [⟨(some 6), 0, none, (.op (.mov (.t 0)))⟩,
    ⟨(some 7), 0, none, (.op (.len false (.t 6)))⟩,
    ⟨(some 8), 0, none, (.op (.mov (.t 1)))⟩,
    ⟨(some 9), 0, none, (.op (.len false (.t 8)))⟩,
    ⟨(some 10), 0, none, (.op (.bin .neq (.t 7) (.t 9)))⟩])
  (.cond (.t 10)
    (.seq (.reg 0 [⟨(some 4), 0, none, (.op (.mov (.k (.d (.bool false)))))⟩])
    (.ret))
    (.skip)))
  (.seq (.seq (.reg 0 [⟨(some 5), 0, none, (.op (.mov (.k (.d (.int .i64 0)))))⟩])
  (.block 0
   (.loop
    (.seq (.seq (.reg 0 [⟨(some 11), 0, none, (.op (.mov (.t 5)))⟩,
      ⟨(some 12), 0, none, (.op (.mov (.t 0)))⟩,
      ⟨(some 13), 0, none, (.op (.len false (.t 12)))⟩,
      ⟨(some 14), 0, none, (.op (.bin .lss (.t 11) (.t 13)))⟩])
    (.cond (.t 14)
      (.skip)
      (.exit 0)))
    (.seq (.block 1
     (.seq (.regD 0 [(⟨(some 17), 0, none, (.op (.mov (.t 0)))⟩, []),
       (⟨(some 18), 0, none, (.op (.mov (.t 5)))⟩, []),
       (⟨(some 19), 0, none, (.op (.idxA 2 none (.t 17) (.t 18)))⟩, [0, 1]),
       (⟨(some 20), 0, none, (.op (.load true 2 (.t 19)))⟩, [2, 0, 1]),
       (⟨(some 21), 0, none, (.op (.mov (.t 1)))⟩, []),
       (⟨(some 22), 0, none, (.op (.mov (.t 5)))⟩, []),
       (⟨(some 23), 0, none, (.op (.idxA 2 none (.t 21) (.t 22)))⟩, [4, 5]),
       (⟨(some 24), 0, none, (.op (.load true 2 (.t 23)))⟩, [6, 4, 5]),
       (⟨(some 25), 0, none, (.call (.k (.fn (.func 38) [] [])) [(.t 20), (.t 24)])⟩, [3, 2, 0, 1, 7, 6, 4, 5]),
       (⟨(some 26), 0, none, (.op (.un .not (.t 25)))⟩, [8, 3, 2, 0, 1, 7, 6, 4, 5])])
     (.cond (.t 26)
       (.seq (.reg 0 [⟨(some 4), 0, none, (.op (.mov (.k (.d (.bool false)))))⟩])
       (.ret))
       (.skip))))
    (.reg 0 [⟨(some 15), 0, none, (.op (.mov (.t 5)))⟩,
      ⟨(some 16), 0, none, (.op (.bin .add (.t 15) (.k (.d (.int .i64 1)))))⟩,
      ⟨(some 5), 0, none, (.op (.mov (.t 16)))⟩]))))))
  (.seq (.reg 0 [⟨(some 4), 0, none, (.op (.mov (.k (.d (.bool true)))))⟩])
  (.ret))))
theorem cc17 : Tryd.f17.body.bind (compC Tryd.prog) = some ac17 := by kernel_rfl
theorem go17 {vals : List V} {v : V} (ac : AC) (he : ac.erase = ac17) (hw : wpC Tryd.prog 0 ac (retQ [.tmp 4] v) ⟨vals ++ List.replicate (27 - vals.length) (.tup []), []⟩) : CallP Tryd.prog 17 vals v :=
  call_of Tryd.func17 rfl rfl rfl (cc17.trans (congrArg some he.symm)) hw
/-- testbench/testbenchlaw37.numbers -/
def ac18 : AC :=
  .seq (.reg 0 [⟨(some 4), 0, none, (.op (.mov (.k (.d (.bool false)))))⟩])
  (.seq (.seq (.reg 0 [⟨(some 6), 0, none, (.op (.mov (.t 0)))⟩,
    ⟨(some 7), 0, none, (.op (.len false (.t 6)))⟩,
    ⟨(some 8), 0, none, (.op (.mov (.t 1)))⟩,
    ⟨(some 9), 0, none, (.op (.len false (.t 8)))⟩,
    ⟨(some 10), 0, none, (.op (.bin .neq (.t 7) (.t 9)))⟩])
  (.cond (.t 10)
    (.seq (.reg 0 [⟨(some 4), 0, none, (.op (.mov (.k (.d (.bool false)))))⟩])
    (.ret))
    (.skip)))
  (.seq (.seq (.reg 0 [⟨(some 5), 0, none, (.op (.mov (.k (.d (.int .i64 0)))))⟩])
  (.block 0
   (.loop
    (.seq (.seq (.reg 0 [⟨(some 11), 0, none, (.op (.mov (.t 5)))⟩,
      ⟨(some 12), 0, none, (.op (.mov (.t 0)))⟩,
      ⟨(some 13), 0, none, (.op (.len false (.t 12)))⟩,
      ⟨(some 14), 0, none, (.op (.bin .lss (.t 11) (.t 13)))⟩])
    (.cond (.t 14)
      (.skip)
      (.exit 0)))
    (.seq (.block 1
     (.seq (.regD 0 [(⟨(some 17), 0, none, (.op (.mov (.t 0)))⟩, []),
       (⟨(some 18), 0, none, (.op (.mov (.t 5)))⟩, []),
       (⟨(some 19), 0, none, (.op (.idxA 1 none (.t 17) (.t 18)))⟩, [0, 1]),
       (⟨(some 20), 0, none, (.op (.load false 1 (.t 19)))⟩, [2, 0, 1]),
       (⟨(some 21), 0, none, (.op (.mov (.t 1)))⟩, []),
       (⟨(some 22), 0, none, (.op (.mov (.t 5)))⟩, []),
       (⟨(some 23), 0, none, (.op (.idxA 1 none (.t 21) (.t 22)))⟩, [4, 5]),
       (⟨(some 24), 0, none, (.op (.load false 1 (.t 23)))⟩, [6, 4, 5]),
       (⟨(some 25), 0, none, (.op (.bin .neq (.t 20) (.t 24)))⟩, [3, 2, 0, 1, 7, 6, 4, 5])])
     (.cond (.t 25)
       (.seq (.reg 0 [⟨(some 4), 0, none, (.op (.mov (.k (.d (.bool false)))))⟩])
       (.ret))
       (.skip))))
    (.reg 0 [⟨(some 15), 0, none, (.op (.mov (.t 5)))⟩,
      ⟨(some 16), 0, none, (.op (.bin .add (.t 15) (.k (.d (.int .i64 1)))))⟩,
      ⟨(some 5), 0, none, (.op (.mov (.t 16)))⟩]))))))
  (.seq (.reg 0 [⟨(some 4), 0, none, (.op (.mov (.k (.d (.bool true)))))⟩])
  (.ret))))
theorem cc18 : Tryd.f18.body.bind (compC Tryd.prog) = some ac18 := by kernel_rfl
theorem go18 {vals : List V} {v : V} (ac : AC) (he : ac.erase = ac18) (hw : wpC Tryd.prog 0 ac (retQ [.tmp 4] v) ⟨vals ++ List.replicate (26 - vals.length) (.tup []), []⟩) : CallP Tryd.prog 18 vals v :=
  call_of Tryd.func18 rfl rfl rfl (cc18.trans (congrArg some he.symm)) hw
/-- testbench/monitor.Stable -/
def ac19 : AC :=
  .seq (.reg 2 [⟨(some 2), 0, none, (.op (.box 2 (.t 0)))⟩,
    ⟨(some 3), 1, none, (.op (.box 3 (.t 1)))⟩,
    ⟨(some 4), 2, none, (.op (.mov (.k (.d (.int .i64 0)))))⟩,
    ⟨(some 5), 2, none, (.op (.mov (.k (.d (.int .i64 0)))))⟩])
  (.seq (.reg 1 [⟨(some 10), 0, none, (.op (.load true 2 (.t 2)))⟩,
    ⟨(some 11), 0, none, (.op (.load true 3 (.t 3)))⟩,
    ⟨(some 12), 0, none, (.op (.buildSl 3 1 [(.str []), (.str []), .nils] [(0, (.t 11))]))⟩,
    ⟨(some 13), 1, none, (.call (.k (.fn (.func 27) [] [])) [(.t 10), (.t 12)])⟩,
    ⟨(some 9), 1, none, (.op (.mov (.t 13)))⟩,
    ⟨(some 14), 1, none, (.op (.ext (.t 9) 0))⟩,
    ⟨(some 15), 1, none, (.op (.ext (.t 9) 1))⟩,
    ⟨(some 6), 1, none, (.op (.mov (.t 14)))⟩,
    ⟨(some 7), 1, none, (.op (.mov (.t 15)))⟩])
  (.seq (.seq (.reg 0 [⟨(some 16), 0, none, (.op (.mov (.t 7)))⟩,
    ⟨(some 17), 0, none, (.op (.bin .neq (.t 16) (.k (.d (.int .i64 0)))))⟩])
  (.cond (.t 17)
    (.seq (.reg 0 [⟨(some 18), 0, none, (.op (.mov (.t 7)))⟩,
      ⟨(some 4), 0, none, (.op (.mov (.k (.d (.int .i64 0)))))⟩,
      ⟨(some 5), 0, none, (.op (.mov (.t 18)))⟩])
    (.ret))
    (.skip)))
  (.seq (.seq (.reg 0 [⟨(some 8), 0, none, (.op (.mov (.k (.d (.int .i64 1)))))⟩])
  (.block 0
   (.loop
    (.seq (.seq (.reg 0 [⟨(some 19), 0, none, (.op (.mov (.t 8)))⟩,
      ⟨(some 20), 0, none, (.op (.fldA 1 (.t 2)))⟩,
      ⟨(some 21), 0, none, (.op (.load false 1 (.t 20)))⟩,
      ⟨(some 22), 0, none, (.op (.len false (.t 21)))⟩,
      ⟨(some 23), 0, none, (.op (.bin .lss (.t 19) (.t 22)))⟩])
    (.cond (.t 23)
      (.skip)
      (.exit 0)))
    (.seq (.block 1
     (.seq (.reg 0 [⟨(some 26), 0, none, (.op (.mov (.t 6)))⟩,
       ⟨(some 27), 0, none, (.op (.idxA 7 none (.t 26) (.k (.d (.int .i64 0)))))⟩,
       ⟨(some 28), 0, none, (.op (.load true 7 (.t 27)))⟩,
       ⟨(some 29), 0, none, (.op (.mov (.t 8)))⟩,
       ⟨(some 30), 0, none, (.call (.k (.fn (.func 39) [] [])) [(.t 28), (.t 29)])⟩])
     (.cond (.t 30)
       (.seq (.reg 0 [⟨(some 31), 0, none, (.op (.mov (.t 8)))⟩,
         ⟨(some 4), 0, none, (.op (.mov (.t 31)))⟩,
         ⟨(some 5), 0, none, (.op (.mov (.k (.d (.int .i64 0)))))⟩])
       (.ret))
       (.skip))))
    (.reg 0 [⟨(some 24), 0, none, (.op (.mov (.t 8)))⟩,
      ⟨(some 25), 0, none, (.op (.bin .add (.t 24) (.k (.d (.int .i64 1)))))⟩,
      ⟨(some 8), 0, none, (.op (.mov (.t 25)))⟩]))))))
  (.seq (.reg 0 [⟨(some 4), 0, none, (.op (.mov (.k (.d (.int .i64 (-1))))))⟩,
    ⟨(some 5), 0, none, (.op (.mov (.k (.d (.int .i64 0)))))⟩])
  (.ret)))))
theorem cc19 : Tryd.f19.body.bind (compC Tryd.prog) = some ac19 := by kernel_rfl
theorem go19 {vals : List V} {v : V} (ac : AC) (he : ac.erase = ac19) (hw : wpC Tryd.prog 0 ac (retQ [.tmp 4, .tmp 5] v) ⟨vals ++ List.replicate (32 - vals.length) (.tup []), []⟩) : CallP Tryd.prog 19 vals v :=
  call_of Tryd.func19 rfl rfl rfl (cc19.trans (congrArg some he.symm)) hw
/-- testbench/testbenchref37.Stable -/
def ac20 : AC :=
  .seq (.reg 2 [⟨(some 2), 0, none, (.op (.box 2 (.t 0)))⟩,
    ⟨(some 3), 1, none, (.op (.box 3 (.t 1)))⟩,
    ⟨(some 4), 2, none, (.op (.mov (.k (.d (.int .i64 0)))))⟩,
    ⟨(some 5), 2, none, (.op (.mov (.k (.d (.int .i64 0)))))⟩])
  (.seq (.reg 1 [⟨(some 9), 0, none, (.op (.load true 2 (.t 2)))⟩,
    ⟨(some 10), 0, none, (.op (.load true 3 (.t 3)))⟩,
    ⟨(some 11), 0, none, (.op (.buildSl 3 1 [(.str []), (.str []), .nils] [(0, (.t 10))]))⟩,
    ⟨(some 12), 1, none, (.call (.k (.fn (.func 31) [] [])) [(.t 9), (.t 11)])⟩,
    ⟨(some 6), 1, none, (.op (.mov (.t 12)))⟩])
  (.seq (.seq (.reg 0 [⟨(some 13), 0, none, (.op (.mov (.t 6)))⟩,
    ⟨(some 14), 0, none, (.op (.bin .neq (.t 13) (.k (.d (.int .i64 0)))))⟩])
  (.cond (.t 14)
    (.seq (.reg 0 [⟨(some 15), 0, none, (.op (.mov (.t 6)))⟩,
      ⟨(some 4), 0, none, (.op (.mov (.k (.d (.int .i64 0)))))⟩,
      ⟨(some 5), 0, none, (.op (.mov (.t 15)))⟩])
    (.ret))
    (.skip)))
  (.seq (.seq (.reg 0 [⟨(some 7), 0, none, (.op (.mov (.k (.d (.int .i64 1)))))⟩])
  (.block 0
   (.loop
    (.seq (.seq (.reg 0 [⟨(some 16), 0, none, (.op (.mov (.t 7)))⟩,
      ⟨(some 17), 0, none, (.op (.fldA 1 (.t 2)))⟩,
      ⟨(some 18), 0, none, (.op (.load false 1 (.t 17)))⟩,
      ⟨(some 19), 0, none, (.op (.len false (.t 18)))⟩,
      ⟨(some 20), 0, none, (.op (.bin .lss (.t 16) (.t 19)))⟩])
    (.cond (.t 20)
      (.skip)
      (.exit 0)))
    (.seq (.block 1
     (.seq (.seq (.reg 0 [⟨(some 23), 0, none, (.op (.load true 2 (.t 2)))⟩,
       ⟨(some 24), 0, none, (.op (.fldA 0 (.t 3)))⟩,
       ⟨(some 25), 0, none, (.op (.load false 1 (.t 24)))⟩,
       ⟨(some 26), 0, none, (.op (.mov (.t 7)))⟩,
       ⟨(some 27), 0, none, (.op (.bin .sub (.t 26) (.k (.d (.int .i64 1)))))⟩,
       ⟨(some 28), 0, none, (.call (.k (.fn (.func 29) [] [])) [(.t 23), (.t 25), (.t 27)])⟩,
       ⟨(some 29), 0, none, (.op (.bin .eql (.t 28) (.k (.d (.int .i64 0)))))⟩,
       ⟨(some 30), 0, none, (.op (.mov (.t 29)))⟩,
       ⟨(some 31), 0, (some (30, false)), (.op (.load true 2 (.t 2)))⟩,
       ⟨(some 32), 0, (some (30, false)), (.op (.fldA 1 (.t 3)))⟩,
       ⟨(some 33), 0, (some (30, false)), (.op (.load false 1 (.t 32)))⟩,
       ⟨(some 34), 0, (some (30, false)), (.op (.mov (.t 7)))⟩,
       ⟨(some 35), 0, (some (30, false)), (.op (.bin .sub (.t 34) (.k (.d (.int .i64 1)))))⟩,
       ⟨(some 36), 0, (some (30, false)), (.call (.k (.fn (.func 29) [] [])) [(.t 31), (.t 33), (.t 35)])⟩,
       ⟨(some 37), 0, (some (30, false)), (.op (.bin .neq (.t 36) (.k (.d (.int .i64 0)))))⟩,
       ⟨(some 38), 0, none, (.op (.pick (.t 30) (.k (.d (.bool true))) (.t 37)))⟩])
     (.cond (.t 38)
       (.exit 1)
       (.skip)))
     (.seq (.seq (.reg 0 [⟨(some 39), 0, none, (.op (.load true 2 (.t 2)))⟩,
       ⟨(some 40), 0, none, (.op (.fldA 0 (.t 3)))⟩,
       ⟨(some 41), 0, none, (.op (.load false 1 (.t 40)))⟩,
       ⟨(some 42), 0, none, (.op (.mov (.t 7)))⟩,
       ⟨(some 43), 0, none, (.call (.k (.fn (.func 29) [] [])) [(.t 39), (.t 41), (.t 42)])⟩,
       ⟨(some 44), 0, none, (.op (.bin .eql (.t 43) (.k (.d (.int .i64 0)))))⟩])
     (.cond (.t 44)
       (.seq (.reg 0 [⟨(some 45), 0, none, (.op (.mov (.t 7)))⟩,
         ⟨(some 4), 0, none, (.op (.mov (.t 45)))⟩,
         ⟨(some 5), 0, none, (.op (.mov (.k (.d (.int .i64 0)))))⟩])
       (.ret))
       (.skip)))
     (.seq (.reg 0 [⟨(some 8), 0, none, (.op (.mov (.k (.d (.int .i64 0)))))⟩])
     (.block 2
      (.loop
       (.seq (.seq (.reg 0 [⟨(some 46), 0, none, (.op (.mov (.t 8)))⟩,
         ⟨(some 47), 0, none, (.op (.fldA 2 (.t 3)))⟩,
         ⟨(some 48), 0, none, (.op (.load false 1 (.t 47)))⟩,
         ⟨(some 49), 0, none, (.op (.len false (.t 48)))⟩,
         ⟨(some 50), 0, none, (.op (.bin .lss (.t 46) (.t 49)))⟩])
       (.cond (.t 50)
         (.skip)
         (.exit 2)))
       (.seq (.block 3
        (.seq (.regD 0 [(⟨(some 53), 0, none, (.op (.load true 2 (.t 2)))⟩, []),
          (⟨(some 54), 0, none, (.op (.fldA 2 (.t 3)))⟩, []),
          (⟨(some 55), 0, none, (.op (.load false 1 (.t 54)))⟩, [1]),
          (⟨(some 56), 0, none, (.op (.mov (.t 8)))⟩, []),
          (⟨(some 57), 0, none, (.op (.idxA 1 none (.t 55) (.t 56)))⟩, [2, 1, 3]),
          (⟨(some 58), 0, none, (.op (.load false 1 (.t 57)))⟩, [4, 2, 1, 3]),
          (⟨(some 59), 0, none, (.op (.mov (.t 7)))⟩, []),
          (⟨(some 60), 0, none, (.call (.k (.fn (.func 29) [] [])) [(.t 53), (.t 58), (.t 59)])⟩, [0, 5, 4, 2, 1, 3, 6]),
          (⟨(some 61), 0, none, (.op (.load true 2 (.t 2)))⟩, []),
          (⟨(some 62), 0, none, (.op (.fldA 2 (.t 3)))⟩, []),
          (⟨(some 63), 0, none, (.op (.load false 1 (.t 62)))⟩, [9]),
          (⟨(some 64), 0, none, (.op (.mov (.t 8)))⟩, []),
          (⟨(some 65), 0, none, (.op (.idxA 1 none (.t 63) (.t 64)))⟩, [10, 9, 11]),
          (⟨(some 66), 0, none, (.op (.load false 1 (.t 65)))⟩, [12, 10, 9, 11]),
          (⟨(some 67), 0, none, (.op (.mov (.t 7)))⟩, []),
          (⟨(some 68), 0, none, (.op (.bin .sub (.t 67) (.k (.d (.int .i64 1)))))⟩, [14]),
          (⟨(some 69), 0, none, (.call (.k (.fn (.func 29) [] [])) [(.t 61), (.t 66), (.t 68)])⟩, [8, 13, 12, 10, 9, 11, 15, 14, 7, 0, 5, 4, 2, 1, 3, 6]),
          (⟨(some 70), 0, none, (.op (.bin .neq (.t 60) (.t 69)))⟩, [7, 0, 5, 4, 2, 1, 3, 6, 16, 8, 13, 12, 10, 9, 11, 15, 14])])
        (.cond (.t 70)
          (.seq (.reg 0 [⟨(some 71), 0, none, (.op (.mov (.t 7)))⟩,
            ⟨(some 4), 0, none, (.op (.mov (.t 71)))⟩,
            ⟨(some 5), 0, none, (.op (.mov (.k (.d (.int .i64 0)))))⟩])
          (.ret))
          (.skip))))
       (.reg 0 [⟨(some 51), 0, none, (.op (.mov (.t 8)))⟩,
         ⟨(some 52), 0, none, (.op (.bin .add (.t 51) (.k (.d (.int .i64 1)))))⟩,
         ⟨(some 8), 0, none, (.op (.mov (.t 52)))⟩])))))))))
    (.reg 0 [⟨(some 21), 0, none, (.op (.mov (.t 7)))⟩,
      ⟨(some 22), 0, none, (.op (.bin .add (.t 21) (.k (.d (.int .i64 1)))))⟩,
      ⟨(some 7), 0, none, (.op (.mov (.t 22)))⟩]))))))
  (.seq (.reg 0 [⟨(some 4), 0, none, (.op (.mov (.k (.d (.int .i64 (-1))))))⟩,
    ⟨(some 5), 0, none, (.op (.mov (.k (.d (.int .i64 0)))))⟩])
  (.ret)))))
theorem cc20 : Tryd.f20.body.bind (compC Tryd.prog) = some ac20 := by kernel_rfl
theorem go20 {vals : List V} {v : V} (ac : AC) (he : ac.erase = ac20) (hw : wpC Tryd.prog 0 ac (retQ [.tmp 4, .tmp 5] v) ⟨vals ++ List.replicate (72 - vals.length) (.tup []), []⟩) : CallP Tryd.prog 20 vals v :=
  call_of Tryd.func20 rfl rfl rfl (cc20.trans (congrArg some he.symm)) hw
/-- testbench/monitor.Latency -/
def ac21 : AC :=
  .seq (.reg 3 [⟨(some 3), 0, none, (.op (.box 2 (.t 0)))⟩,
    ⟨(some 4), 1, none, (.op (.box 3 (.t 1)))⟩,
    ⟨(some 5), 2, none, (.op (.box 3 (.t 2)))⟩,
    ⟨(some 6), 3, none, (.op (.mov (.k (.d .nils))))⟩,
    ⟨(some 7), 3, none, (.op (.mov (.k (.d (.int .i64 0)))))⟩])
  (.seq (.reg 1 [⟨(some 15), 0, none, (.op (.load true 2 (.t 3)))⟩,
    ⟨(some 16), 0, none, (.op (.load true 3 (.t 4)))⟩,
    ⟨(some 17), 0, none, (.op (.load true 3 (.t 5)))⟩,
    ⟨(some 18), 0, none, (.op (.buildSl 3 2 [(.str []), (.str []), .nils] [(0, (.t 16)), (1, (.t 17))]))⟩,
    ⟨(some 19), 1, none, (.call (.k (.fn (.func 27) [] [])) [(.t 15), (.t 18)])⟩,
    ⟨(some 14), 1, none, (.op (.mov (.t 19)))⟩,
    ⟨(some 20), 1, none, (.op (.ext (.t 14) 0))⟩,
    ⟨(some 21), 1, none, (.op (.ext (.t 14) 1))⟩,
    ⟨(some 8), 1, none, (.op (.mov (.t 20)))⟩,
    ⟨(some 9), 1, none, (.op (.mov (.t 21)))⟩])
  (.seq (.seq (.reg 0 [⟨(some 22), 0, none, (.op (.mov (.t 9)))⟩,
    ⟨(some 23), 0, none, (.op (.bin .neq (.t 22) (.k (.d (.int .i64 0)))))⟩])
  (.cond (.t 23)
    (.seq (.reg 0 [⟨(some 24), 0, none, (.op (.mov (.t 9)))⟩,
      ⟨(some 6), 0, none, (.op (.mov (.k (.d .nils))))⟩,
      ⟨(some 7), 0, none, (.op (.mov (.t 24)))⟩])
    (.ret))
    (.skip)))
  (.seq (.regD 0 [(⟨(some 25), 0, none, (.op (.mov (.t 8)))⟩, []),
    (⟨(some 26), 0, none, (.op (.idxA 7 none (.t 25) (.k (.d (.int .i64 0)))))⟩, [0]),
    (⟨(some 27), 0, none, (.op (.load true 7 (.t 26)))⟩, [1, 0]),
    (⟨(some 28), 0, none, (.call (.k (.fn (.func 30) [] [])) [(.t 27)])⟩, [2, 1, 0]),
    (⟨(some 29), 0, none, (.op (.mov (.t 8)))⟩, []),
    (⟨(some 30), 0, none, (.op (.idxA 7 none (.t 29) (.k (.d (.int .i64 1)))))⟩, [4]),
    (⟨(some 31), 0, none, (.op (.load true 7 (.t 30)))⟩, [5, 4]),
    (⟨(some 32), 0, none, (.call (.k (.fn (.func 30) [] [])) [(.t 31)])⟩, [6, 5, 4, 3, 2, 1, 0]),
    (⟨(some 10), 0, none, (.op (.mov (.t 28)))⟩, [3, 2, 1, 0, 7, 6, 5, 4]),
    (⟨(some 11), 0, none, (.op (.mov (.t 32)))⟩, [7, 6, 5, 4, 3, 2, 1, 0, 8])])
  (.seq (.reg 0 [⟨(some 12), 0, none, (.op (.mov (.k (.d .nils))))⟩])
  (.seq (.seq (.reg 0 [⟨(some 33), 0, none, (.op (.mov (.t 10)))⟩,
    ⟨(some 34), 0, none, (.op (.len false (.t 33)))⟩,
    ⟨(some 35), 0, none, (.op (.mov (.t 11)))⟩,
    ⟨(some 36), 0, none, (.op (.len false (.t 35)))⟩,
    ⟨(some 37), 0, none, (.op (.mn (.t 34) (.t 36)))⟩,
    ⟨(some 38), 0, none, (.op (.mov (.k (.d (.int .i64 0)))))⟩])
  (.block 0
   (.loop
    (.seq (.reg 0 [⟨(some 39), 0, none, (.op (.bin .lss (.t 38) (.t 37)))⟩])
    (.seq (.cond (.t 39)
      (.skip)
      (.exit 0))
    (.seq (.block 1
     (.seq (.reg 0 [⟨(some 40), 0, none, (.op (.mov (.t 38)))⟩,
       ⟨(some 13), 0, none, (.op (.mov (.t 40)))⟩])
     (.regD 2 [(⟨(some 41), 0, none, (.op (.mov (.t 12)))⟩, []),
       (⟨(some 42), 0, none, (.op (.mov (.t 11)))⟩, []),
       (⟨(some 43), 0, none, (.op (.mov (.t 13)))⟩, []),
       (⟨(some 44), 0, none, (.op (.idxA 1 none (.t 42) (.t 43)))⟩, [1, 2]),
       (⟨(some 45), 0, none, (.op (.load false 1 (.t 44)))⟩, [3, 1, 2]),
       (⟨(some 46), 0, none, (.op (.mov (.t 10)))⟩, []),
       (⟨(some 47), 0, none, (.op (.mov (.t 13)))⟩, []),
       (⟨(some 48), 0, none, (.op (.idxA 1 none (.t 46) (.t 47)))⟩, [5, 6]),
       (⟨(some 49), 0, none, (.op (.load false 1 (.t 48)))⟩, [7, 5, 6]),
       (⟨(some 50), 0, none, (.op (.bin .sub (.t 45) (.t 49)))⟩, [4, 3, 1, 2, 8, 7, 5, 6]),
       (⟨(some 51), 0, none, (.op (.buildSl 1 1 [(.int .i64 0)] [(0, (.t 50))]))⟩, [9, 4, 3, 1, 2, 8, 7, 5, 6]),
       (⟨(some 52), 1, none, (.op (.append 1 8 (.t 41) (.t 51)))⟩, [0, 10, 9, 4, 3, 1, 2, 8, 7, 5, 6]),
       (⟨(some 12), 2, none, (.op (.mov (.t 52)))⟩, [11, 0, 10, 9, 4, 3, 1, 2, 8, 7, 5, 6])])))
    (.reg 0 [⟨(some 53), 0, none, (.op (.bin .add (.t 38) (.k (.d (.int .i64 1)))))⟩,
      ⟨(some 38), 0, none, (.op (.mov (.t 53)))⟩])))))))
  (.seq (.reg 0 [⟨(some 54), 0, none, (.op (.mov (.t 12)))⟩,
    ⟨(some 6), 0, none, (.op (.mov (.t 54)))⟩,
    ⟨(some 7), 0, none, (.op (.mov (.k (.d (.int .i64 0)))))⟩])
  (.ret)))))))
theorem cc21 : Tryd.f21.body.bind (compC Tryd.prog) = some ac21 := by kernel_rfl
theorem go21 {vals : List V} {v : V} (ac : AC) (he : ac.erase = ac21) (hw : wpC Tryd.prog 0 ac (retQ [.tmp 6, .tmp 7] v) ⟨vals ++ List.replicate (55 - vals.length) (.tup []), []⟩) : CallP Tryd.prog 21 vals v :=
  call_of Tryd.func21 rfl rfl rfl (cc21.trans (congrArg some he.symm)) hw
/-- testbench/testbenchref37.Latency -/
def ac22 : AC :=
  .seq (.reg 3 [⟨(some 3), 0, none, (.op (.box 2 (.t 0)))⟩,
    ⟨(some 4), 1, none, (.op (.box 3 (.t 1)))⟩,
    ⟨(some 5), 2, none, (.op (.box 3 (.t 2)))⟩,
    ⟨(some 6), 3, none, (.op (.mov (.k (.d .nils))))⟩,
    ⟨(some 7), 3, none, (.op (.mov (.k (.d (.int .i64 0)))))⟩])
  (.seq (.reg 1 [⟨(some 15), 0, none, (.op (.load true 2 (.t 3)))⟩,
    ⟨(some 16), 0, none, (.op (.load true 3 (.t 4)))⟩,
    ⟨(some 17), 0, none, (.op (.load true 3 (.t 5)))⟩,
    ⟨(some 18), 0, none, (.op (.buildSl 3 2 [(.str []), (.str []), .nils] [(0, (.t 16)), (1, (.t 17))]))⟩,
    ⟨(some 19), 1, none, (.call (.k (.fn (.func 31) [] [])) [(.t 15), (.t 18)])⟩,
    ⟨(some 8), 1, none, (.op (.mov (.t 19)))⟩])
  (.seq (.seq (.reg 0 [⟨(some 20), 0, none, (.op (.mov (.t 8)))⟩,
    ⟨(some 21), 0, none, (.op (.bin .neq (.t 20) (.k (.d (.int .i64 0)))))⟩])
  (.cond (.t 21)
    (.seq (.reg 0 [⟨(some 22), 0, none, (.op (.mov (.t 8)))⟩,
      ⟨(some 6), 0, none, (.op (.mov (.k (.d .nils))))⟩,
      ⟨(some 7), 0, none, (.op (.mov (.t 22)))⟩])
    (.ret))
    (.skip)))
  (.seq (.reg 0 [⟨(some 24), 0, none, (.op (.load true 2 (.t 3)))⟩,
    ⟨(some 25), 0, none, (.op (.load true 3 (.t 4)))⟩,
    ⟨(some 26), 0, none, (.call (.k (.fn (.func 14) [] [])) [(.t 24), (.t 25)])⟩,
    ⟨(some 23), 0, none, (.op (.mov (.t 26)))⟩,
    ⟨(some 27), 0, none, (.op (.ext (.t 23) 0))⟩,
    ⟨(some 28), 0, none, (.op (.ext (.t 23) 1))⟩,
    ⟨(some 9), 0, none, (.op (.mov (.t 27)))⟩,
    ⟨(some 10), 0, none, (.op (.mov (.t 28)))⟩])
  (.seq (.reg 0 [⟨(some 30), 0, none, (.op (.load true 2 (.t 3)))⟩,
    ⟨(some 31), 0, none, (.op (.load true 3 (.t 5)))⟩,
    ⟨(some 32), 0, none, (.call (.k (.fn (.func 14) [] [])) [(.t 30), (.t 31)])⟩,
    ⟨(some 29), 0, none, (.op (.mov (.t 32)))⟩,
    ⟨(some 33), 0, none, (.op (.ext (.t 29) 0))⟩,
    ⟨(some 34), 0, none, (.op (.ext (.t 29) 1))⟩,
    ⟨(some 11), 0, none, (.op (.mov (.t 33)))⟩,
    ⟨(some 12), 0, none, (.op (.mov (.t 34)))⟩])
  (.seq (.reg 0 [⟨(some 13), 0, none, (.op (.mov (.k (.d .nils))))⟩])
  (.seq (.seq (.reg 0 [⟨(some 14), 0, none, (.op (.mov (.k (.d (.int .i64 0)))))⟩])
  (.block 0
   (.loop
    (.seq (.seq (.reg 0 [⟨(some 35), 0, none, (.op (.mov (.t 14)))⟩,
      ⟨(some 36), 0, none, (.op (.mov (.t 9)))⟩,
      ⟨(some 37), 0, none, (.op (.len false (.t 36)))⟩,
      ⟨(some 38), 0, none, (.op (.bin .lss (.t 35) (.t 37)))⟩,
      ⟨(some 39), 0, none, (.op (.mov (.t 38)))⟩,
      ⟨(some 40), 0, (some (39, true)), (.op (.mov (.t 14)))⟩,
      ⟨(some 41), 0, (some (39, true)), (.op (.mov (.t 11)))⟩,
      ⟨(some 42), 0, (some (39, true)), (.op (.len false (.t 41)))⟩,
      ⟨(some 43), 0, (some (39, true)), (.op (.bin .lss (.t 40) (.t 42)))⟩,
      ⟨(some 44), 0, none, (.op (.pick (.t 39) (.t 43) (.k (.d (.bool false)))))⟩])
    (.cond (.t 44)
      (.skip)
      (.exit 0)))
    (.seq (.block 1
     (.regD 2 [(⟨(some 47), 0, none, (.op (.mov (.t 13)))⟩, []),
       (⟨(some 48), 0, none, (.op (.mov (.t 11)))⟩, []),
       (⟨(some 49), 0, none, (.op (.mov (.t 14)))⟩, []),
       (⟨(some 50), 0, none, (.op (.idxA 1 none (.t 48) (.t 49)))⟩, [1, 2]),
       (⟨(some 51), 0, none, (.op (.load false 1 (.t 50)))⟩, [3, 1, 2]),
       (⟨(some 52), 0, none, (.op (.mov (.t 9)))⟩, []),
       (⟨(some 53), 0, none, (.op (.mov (.t 14)))⟩, []),
       (⟨(some 54), 0, none, (.op (.idxA 1 none (.t 52) (.t 53)))⟩, [5, 6]),
       (⟨(some 55), 0, none, (.op (.load false 1 (.t 54)))⟩, [7, 5, 6]),
       (⟨(some 56), 0, none, (.op (.bin .sub (.t 51) (.t 55)))⟩, [4, 3, 1, 2, 8, 7, 5, 6]),
       (⟨(some 57), 0, none, (.op (.buildSl 1 1 [(.int .i64 0)] [(0, (.t 56))]))⟩, [9, 4, 3, 1, 2, 8, 7, 5, 6]),
       (⟨(some 58), 1, none, (.op (.append 1 8 (.t 47) (.t 57)))⟩, [0, 10, 9, 4, 3, 1, 2, 8, 7, 5, 6]),
       (⟨(some 13), 2, none, (.op (.mov (.t 58)))⟩, [11, 0, 10, 9, 4, 3, 1, 2, 8, 7, 5, 6])]))
    (.reg 0 [⟨(some 45), 0, none, (.op (.mov (.t 14)))⟩,
      ⟨(some 46), 0, none, (.op (.bin .add (.t 45) (.k (.d (.int .i64 1)))))⟩,
      ⟨(some 14), 0, none, (.op (.mov (.t 46)))⟩]))))))
  (.seq (.reg 0 [⟨(some 59), 0, none, (.op (.mov (.t 13)))⟩,
    ⟨(some 6), 0, none, (.op (.mov (.t 59)))⟩,
    ⟨(some 7), 0, none, (.op (.mov (.k (.d (.int .i64 0)))))⟩])
  (.ret))))))))
theorem cc22 : Tryd.f22.body.bind (compC Tryd.prog) = some ac22 := by kernel_rfl
theorem go22 {vals : List V} {v : V} (ac : AC) (he : ac.erase = ac22) (hw : wpC Tryd.prog 0 ac (retQ [.tmp 6, .tmp 7] v) ⟨vals ++ List.replicate (60 - vals.length) (.tup []), []⟩) : CallP Tryd.prog 22 vals v :=
  call_of Tryd.func22 rfl rfl rfl (cc22.trans (congrArg some he.symm)) hw
/-- testbench/testbenchlaw37.value -/
def ac23 : AC :=
  .seq (.reg 1 [⟨(some 3), 0, none, (.op (.box 2 (.t 0)))⟩,
    ⟨(some 6), 1, none, (.op (.mov (.k (.d (.int .i64 0)))))⟩])
  (.seq (.reg 0 [⟨(some 10), 0, none, (.op (.load true 2 (.t 3)))⟩,
    ⟨(some 11), 0, none, (.op (.mov (.t 1)))⟩,
    ⟨(some 12), 0, none, (.op (.mov (.t 2)))⟩,
    ⟨(some 13), 0, none, (.call (.k (.fn (.func 40) [] [])) [(.t 10), (.t 11), (.t 12)])⟩,
    ⟨(some 9), 0, none, (.op (.mov (.t 13)))⟩,
    ⟨(some 14), 0, none, (.op (.ext (.t 9) 0))⟩,
    ⟨(some 15), 0, none, (.op (.ext (.t 9) 1))⟩,
    ⟨(some 7), 0, none, (.op (.mov (.t 14)))⟩,
    ⟨(some 8), 0, none, (.op (.mov (.t 15)))⟩])
  (.seq (.reg 0 [⟨(some 16), 0, none, (.op (.mov (.t 7)))⟩,
    ⟨(some 6), 0, none, (.op (.mov (.t 16)))⟩])
  (.ret)))
theorem cc23 : Tryd.f23.body.bind (compC Tryd.prog) = some ac23 := by kernel_rfl
theorem go23 {vals : List V} {v : V} (ac : AC) (he : ac.erase = ac23) (hw : wpC Tryd.prog 0 ac (retQ [.tmp 6] v) ⟨vals ++ List.replicate (17 - vals.length) (.tup []), []⟩) : CallP Tryd.prog 23 vals v :=
  call_of Tryd.func23 rfl rfl rfl (cc23.trans (congrArg some he.symm)) hw
/-- testbench/wave.Cut -/
def ac24 : AC :=
  .seq (.reg 2 [⟨(some 3), 0, none, (.op (.box 2 (.t 0)))⟩,
    ⟨(some 6), 1, none, (.op (.alloc [.nils, .nils]))⟩,
    ⟨(some 7), 2, none, (.op (.mov (.k (.d (.int .i64 0)))))⟩])
  (.seq (.seq (.reg 0 [⟨(some 8), 0, none, (.op (.load true 2 (.t 3)))⟩,
    ⟨(some 9), 0, none, (.call (.k (.fn (.func 41) [] [])) [(.t 8)])⟩,
    ⟨(some 10), 0, none, (.op (.un .not (.t 9)))⟩,
    ⟨(some 11), 0, none, (.op (.mov (.t 10)))⟩,
    ⟨(some 12), 0, (some (11, false)), (.op (.mov (.t 1)))⟩,
    ⟨(some 13), 0, (some (11, false)), (.op (.bin .lss (.t 12) (.k (.d (.int .i64 0)))))⟩,
    ⟨(some 14), 0, none, (.op (.pick (.t 11) (.k (.d (.bool true))) (.t 13)))⟩,
    ⟨(some 15), 0, none, (.op (.mov (.t 14)))⟩,
    ⟨(some 16), 0, (some (15, false)), (.op (.mov (.t 1)))⟩,
    ⟨(some 17), 0, (some (15, false)), (.op (.mov (.t 2)))⟩,
    ⟨(some 18), 0, (some (15, false)), (.op (.bin .gtr (.t 16) (.t 17)))⟩,
    ⟨(some 19), 0, none, (.op (.pick (.t 15) (.k (.d (.bool true))) (.t 18)))⟩,
    ⟨(some 20), 0, none, (.op (.mov (.t 19)))⟩,
    ⟨(some 21), 0, (some (20, false)), (.op (.mov (.t 2)))⟩,
    ⟨(some 22), 0, (some (20, false)), (.op (.fldA 1 (.t 3)))⟩,
    ⟨(some 23), 0, (some (20, false)), (.op (.load false 1 (.t 22)))⟩,
    ⟨(some 24), 0, (some (20, false)), (.op (.len false (.t 23)))⟩,
    ⟨(some 25), 0, (some (20, false)), (.op (.bin .gtr (.t 21) (.t 24)))⟩,
    ⟨(some 26), 0, none, (.op (.pick (.t 20) (.k (.d (.bool true))) (.t 25)))⟩])
  (.cond (.t 26)
    (.seq (.reg 0 [⟨(some 27), 0, none, (.op (.build [.nils, .nils] []))⟩,
      ⟨none, 0, none, (.op (.store 2 (.t 6) (.t 27)))⟩,
      ⟨(some 7), 0, none, (.op (.mov (.k (.d (.int .i64 1)))))⟩])
    (.ret))
    (.skip)))
  (.seq (.regD 0 [(⟨(some 28), 0, none, (.op (.fldA 0 (.t 3)))⟩, []),
    (⟨(some 29), 0, none, (.op (.load false 1 (.t 28)))⟩, [0]),
    (⟨(some 30), 0, none, (.call (.k (.fn (.func 42) [] [])) [(.t 29)])⟩, [1, 0]),
    (⟨(some 31), 0, none, (.op (.fldA 1 (.t 3)))⟩, []),
    (⟨(some 32), 0, none, (.op (.load false 1 (.t 31)))⟩, [3]),
    (⟨(some 33), 0, none, (.op (.mov (.t 1)))⟩, []),
    (⟨(some 34), 0, none, (.op (.mov (.t 2)))⟩, []),
    (⟨(some 35), 0, none, (.op (.slice 1 (.t 32) (some (.t 33)) (some (.t 34))))⟩, [4, 3, 5, 6]),
    (⟨(some 36), 0, none, (.call (.k (.fn (.func 43) [] [])) [(.t 35)])⟩, [7, 4, 3, 5, 6, 2, 1, 0]),
    (⟨(some 37), 0, none, (.op (.build [.nils, .nils] [(0, 1, (.t 30)), (1, 1, (.t 36))]))⟩, [2, 1, 0, 8, 7, 4, 3, 5, 6]),
    (⟨none, 0, none, (.op (.store 2 (.t 6) (.t 37)))⟩, [9, 2, 1, 0, 8, 7, 4, 3, 5, 6]),
    (⟨(some 7), 0, none, (.op (.mov (.k (.d (.int .i64 0)))))⟩, [10, 9, 2, 1, 0, 8, 7, 4, 3, 5, 6])])
  (.ret)))
theorem cc24 : Tryd.f24.body.bind (compC Tryd.prog) = some ac24 := by kernel_rfl
theorem go24 {vals : List V} {v : V} (ac : AC) (he : ac.erase = ac24) (hw : wpC Tryd.prog 0 ac (retQ [.cell 6 true 2, .tmp 7] v) ⟨vals ++ List.replicate (38 - vals.length) (.tup []), []⟩) : CallP Tryd.prog 24 vals v :=
  call_of Tryd.func24 rfl rfl rfl (cc24.trans (congrArg some he.symm)) hw
/-- testbench/testbenchlaw37.sample -/
def ac25 : AC :=
  .seq (.reg 1 [⟨(some 0), 0, none, (.op (.alloc [.nils, .nils]))⟩])
  (.seq (.reg 6 [⟨(some 1), 0, none, (.op (.buildSl 1 3 [(.str [])] [(0, (.k (.d (.str [118])))), (1, (.k (.d (.str [114])))), (2, (.k (.d (.str [100]))))]))⟩,
    ⟨(some 2), 1, none, (.op (.buildSl 1 3 [(.int .i64 0)] [(0, (.k (.d (.int .i64 1)))), (1, (.k (.d (.int .i64 0)))), (2, (.k (.d (.int .i64 5))))]))⟩,
    ⟨(some 3), 2, none, (.op (.buildSl 1 3 [(.int .i64 0)] [(0, (.k (.d (.int .i64 1)))), (1, (.k (.d (.int .i64 1)))), (2, (.k (.d (.int .i64 5))))]))⟩,
    ⟨(some 4), 3, none, (.op (.buildSl 1 3 [(.int .i64 0)] [(0, (.k (.d (.int .i64 0)))), (1, (.k (.d (.int .i64 1)))), (2, (.k (.d (.int .i64 7))))]))⟩,
    ⟨(some 5), 4, none, (.op (.buildSl 1 3 [(.int .i64 0)] [(0, (.k (.d (.int .i64 1)))), (1, (.k (.d (.int .i64 1)))), (2, (.k (.d (.int .i64 8))))]))⟩,
    ⟨(some 6), 5, none, (.op (.buildSl 1 4 [.nils] [(0, (.t 2)), (1, (.t 3)), (2, (.t 4)), (3, (.t 5))]))⟩,
    ⟨(some 7), 6, none, (.op (.build [.nils, .nils] [(0, 1, (.t 1)), (1, 1, (.t 6))]))⟩,
    ⟨none, 6, none, (.op (.store 2 (.t 0) (.t 7)))⟩])
  (.ret))
theorem cc25 : Tryd.f25.body.bind (compC Tryd.prog) = some ac25 := by kernel_rfl
theorem go25 {vals : List V} {v : V} (ac : AC) (he : ac.erase = ac25) (hw : wpC Tryd.prog 0 ac (retQ [.cell 0 true 2] v) ⟨vals ++ List.replicate (8 - vals.length) (.tup []), []⟩) : CallP Tryd.prog 25 vals v :=
  call_of Tryd.func25 rfl rfl rfl (cc25.trans (congrArg some he.symm)) hw
theorem gi25 [CtxPred] {vals : List V} {rows : Go.Vx.Rows} {K : V → Go.Vx.Rows → Prop} (ac : AC) (he : ac.erase = ac25) (hw : wpC Tryd.prog rows.length ac (retI [.cell 0 true 2] K) ⟨vals ++ List.replicate (8 - vals.length) (.tup []), rows⟩) : InlP Tryd.prog 25 vals rows K :=
  inl_of' Tryd.func25 rfl rfl rfl (cc25.trans (congrArg some he.symm)) hw
/-- testbench/testbenchlaw37.channel -/
def ac26 : AC :=
  .seq (.reg 1 [⟨(some 0), 0, none, (.op (.alloc [(.str []), (.str []), .nils]))⟩])
  (.seq (.reg 1 [⟨(some 1), 0, none, (.op (.buildSl 1 1 [(.str [])] [(0, (.k (.d (.str [100]))))]))⟩,
    ⟨(some 2), 1, none, (.op (.build [(.str []), (.str []), .nils] [(0, 1, (.k (.d (.str [118])))), (1, 1, (.k (.d (.str [114])))), (2, 1, (.t 1))]))⟩,
    ⟨none, 1, none, (.op (.store 3 (.t 0) (.t 2)))⟩])
  (.ret))
theorem cc26 : Tryd.f26.body.bind (compC Tryd.prog) = some ac26 := by kernel_rfl
theorem go26 {vals : List V} {v : V} (ac : AC) (he : ac.erase = ac26) (hw : wpC Tryd.prog 0 ac (retQ [.cell 0 true 3] v) ⟨vals ++ List.replicate (3 - vals.length) (.tup []), []⟩) : CallP Tryd.prog 26 vals v :=
  call_of Tryd.func26 rfl rfl rfl (cc26.trans (congrArg some he.symm)) hw
/-- testbench/monitor.open -/
def ac27 : AC :=
  .seq (.reg 1 [⟨(some 2), 0, none, (.op (.box 2 (.t 0)))⟩,
    ⟨(some 4), 1, none, (.op (.mov (.k (.d .nils))))⟩,
    ⟨(some 5), 1, none, (.op (.mov (.k (.d (.int .i64 0)))))⟩])
  (.seq (.seq (.reg 0 [⟨(some 11), 0, none, (.op (.mov (.t 1)))⟩,
    ⟨(some 12), 0, none, (.call (.k (.fn (.func 44) [] [])) [(.t 11), (.k (.fn (.func 45) [] []))])⟩,
    ⟨(some 13), 0, none, (.op (.mov (.t 12)))⟩,
    ⟨(some 14), 0, (some (13, false)), (.op (.load true 2 (.t 2)))⟩,
    ⟨(some 15), 0, (some (13, false)), (.call (.k (.fn (.func 41) [] [])) [(.t 14)])⟩,
    ⟨(some 16), 0, (some (13, false)), (.op (.un .not (.t 15)))⟩,
    ⟨(some 17), 0, none, (.op (.pick (.t 13) (.k (.d (.bool true))) (.t 16)))⟩])
  (.cond (.t 17)
    (.seq (.reg 0 [⟨(some 4), 0, none, (.op (.mov (.k (.d .nils))))⟩,
      ⟨(some 5), 0, none, (.op (.mov (.k (.d (.int .i64 1)))))⟩])
    (.ret))
    (.skip)))
  (.seq (.reg 0 [⟨(some 6), 0, none, (.op (.mov (.k (.d .nils))))⟩])
  (.seq (.seq (.reg 0 [⟨(some 18), 0, none, (.op (.mov (.t 1)))⟩,
    ⟨(some 19), 0, none, (.op (.len false (.t 18)))⟩,
    ⟨(some 20), 0, none, (.op (.mov (.k (.d (.int .i64 0)))))⟩])
  (.block 0
   (.loop
    (.seq (.reg 0 [⟨(some 21), 0, none, (.op (.bin .lss (.t 20) (.t 19)))⟩])
    (.seq (.cond (.t 21)
      (.skip)
      (.exit 0))
    (.seq (.block 1
     (.seq (.reg 1 [⟨(some 22), 0, none, (.op (.idxA 3 none (.t 18) (.t 20)))⟩,
       ⟨(some 23), 0, none, (.op (.load true 3 (.t 22)))⟩,
       ⟨(some 8), 0, none, (.op (.alloc [(.str []), (.str []), .nils]))⟩,
       ⟨none, 1, none, (.op (.store 3 (.t 8) (.t 23)))⟩])
     (.seq (.reg 1 [⟨(some 25), 0, none, (.op (.load true 2 (.t 2)))⟩,
       ⟨(some 26), 0, none, (.op (.load true 3 (.t 8)))⟩,
       ⟨(some 27), 0, none, (.call (.k (.fn (.func 46) [] [])) [(.t 25), (.t 26)])⟩,
       ⟨(some 24), 0, none, (.op (.mov (.t 27)))⟩,
       ⟨(some 28), 0, none, (.op (.ext (.t 24) 0))⟩,
       ⟨(some 29), 0, none, (.op (.ext (.t 24) 1))⟩,
       ⟨(some 9), 0, none, (.op (.alloc [(.str []), (.str []), .nils, .nils, (.int .i64 0), (.int .i64 0), .nils]))⟩,
       ⟨none, 1, none, (.op (.store 7 (.t 9) (.t 28)))⟩,
       ⟨(some 10), 1, none, (.op (.mov (.t 29)))⟩])
     (.seq (.seq (.reg 0 [⟨(some 30), 0, none, (.op (.mov (.t 10)))⟩,
       ⟨(some 31), 0, none, (.op (.bin .neq (.t 30) (.k (.d (.int .i64 0)))))⟩])
     (.cond (.t 31)
       (.seq (.reg 0 [⟨(some 32), 0, none, (.op (.mov (.t 10)))⟩,
         ⟨(some 4), 0, none, (.op (.mov (.k (.d .nils))))⟩,
         ⟨(some 5), 0, none, (.op (.mov (.t 32)))⟩])
       (.ret))
       (.skip)))
     (.reg 2 [⟨(some 33), 0, none, (.op (.mov (.t 6)))⟩,
       ⟨(some 34), 0, none, (.op (.load true 7 (.t 9)))⟩,
       ⟨(some 35), 0, none, (.op (.buildSl 7 1 [(.str []), (.str []), .nils, .nils, (.int .i64 0), (.int .i64 0), .nils] [(0, (.t 34))]))⟩,
       ⟨(some 36), 1, none, (.op (.append 7 120 (.t 33) (.t 35)))⟩,
       ⟨(some 6), 2, none, (.op (.mov (.t 36)))⟩])))))
    (.reg 0 [⟨(some 37), 0, none, (.op (.bin .add (.t 20) (.k (.d (.int .i64 1)))))⟩,
      ⟨(some 20), 0, none, (.op (.mov (.t 37)))⟩])))))))
  (.seq (.reg 0 [⟨(some 38), 0, none, (.op (.mov (.t 6)))⟩,
    ⟨(some 4), 0, none, (.op (.mov (.t 38)))⟩,
    ⟨(some 5), 0, none, (.op (.mov (.k (.d (.int .i64 0)))))⟩])
  (.ret)))))
theorem cc27 : Tryd.f27.body.bind (compC Tryd.prog) = some ac27 := by kernel_rfl
theorem go27 {vals : List V} {v : V} (ac : AC) (he : ac.erase = ac27) (hw : wpC Tryd.prog 0 ac (retQ [.tmp 4, .tmp 5] v) ⟨vals ++ List.replicate (39 - vals.length) (.tup []), []⟩) : CallP Tryd.prog 27 vals v :=
  call_of Tryd.func27 rfl rfl rfl (cc27.trans (congrArg some he.symm)) hw
/-- (testbench/monitor.view).transfers -/
def ac28 : AC :=
  .seq (.reg 1 [⟨(some 1), 0, none, (.op (.box 7 (.t 0)))⟩,
    ⟨(some 2), 1, none, (.op (.mov (.k .any)))⟩])
  (.seq (.reg 0 [⟨(some 3), 0, none, (.op (.mkfn (.func 47) [] [(.t 1)]))⟩,
    ⟨(some 2), 0, none, (.op (.mov (.t 3)))⟩])
  (.ret))
theorem cc28 : Tryd.f28.body.bind (compC Tryd.prog) = some ac28 := by kernel_rfl
theorem go28 {vals : List V} {v : V} (ac : AC) (he : ac.erase = ac28) (hw : wpC Tryd.prog 0 ac (retQ [.tmp 2] v) ⟨vals ++ List.replicate (4 - vals.length) (.tup []), []⟩) : CallP Tryd.prog 28 vals v :=
  call_of Tryd.func28 rfl rfl rfl (cc28.trans (congrArg some he.symm)) hw
/-- testbench/testbenchref37.value -/
def ac29 : AC :=
  .seq (.reg 1 [⟨(some 3), 0, none, (.op (.box 2 (.t 0)))⟩,
    ⟨(some 6), 1, none, (.op (.mov (.k (.d (.int .i64 0)))))⟩])
  (.seq (.reg 0 [⟨(some 10), 0, none, (.op (.load true 2 (.t 3)))⟩,
    ⟨(some 11), 0, none, (.op (.mov (.t 1)))⟩,
    ⟨(some 12), 0, none, (.op (.mov (.t 2)))⟩,
    ⟨(some 13), 0, none, (.call (.k (.fn (.func 40) [] [])) [(.t 10), (.t 11), (.t 12)])⟩,
    ⟨(some 9), 0, none, (.op (.mov (.t 13)))⟩,
    ⟨(some 14), 0, none, (.op (.ext (.t 9) 0))⟩,
    ⟨(some 15), 0, none, (.op (.ext (.t 9) 1))⟩,
    ⟨(some 7), 0, none, (.op (.mov (.t 14)))⟩,
    ⟨(some 8), 0, none, (.op (.mov (.t 15)))⟩])
  (.seq (.reg 0 [⟨(some 16), 0, none, (.op (.mov (.t 7)))⟩,
    ⟨(some 6), 0, none, (.op (.mov (.t 16)))⟩])
  (.ret)))
theorem cc29 : Tryd.f29.body.bind (compC Tryd.prog) = some ac29 := by kernel_rfl
theorem go29 {vals : List V} {v : V} (ac : AC) (he : ac.erase = ac29) (hw : wpC Tryd.prog 0 ac (retQ [.tmp 6] v) ⟨vals ++ List.replicate (17 - vals.length) (.tup []), []⟩) : CallP Tryd.prog 29 vals v :=
  call_of Tryd.func29 rfl rfl rfl (cc29.trans (congrArg some he.symm)) hw
/-- (testbench/monitor.view).cycles -/
def ac30 : AC :=
  .seq (.reg 1 [⟨(some 1), 0, none, (.op (.box 7 (.t 0)))⟩,
    ⟨(some 2), 1, none, (.op (.mov (.k (.d .nils))))⟩])
  (.seq (.reg 1 [⟨(some 3), 0, none, (.op (.alloc [.nils]))⟩])
  (.seq (.seq (.reg 0 [⟨(some 5), 0, none, (.op (.load true 7 (.t 1)))⟩,
    ⟨(some 6), 0, none, (.call (.k (.fn (.func 28) [] [])) [(.t 5)])⟩])
  (.block 0
   (.rng (.t 6) #[7, 8]
    (.reg 0 [⟨(some 4), 0, none, (.op (.mov (.t 7)))⟩])
    (.block 1
     (.reg 2 [⟨(some 9), 0, none, (.op (.load false 1 (.t 3)))⟩,
       ⟨(some 10), 0, none, (.op (.mov (.t 4)))⟩,
       ⟨(some 11), 0, none, (.op (.buildSl 1 1 [(.int .i64 0)] [(0, (.t 10))]))⟩,
       ⟨(some 12), 1, none, (.op (.append 1 8 (.t 9) (.t 11)))⟩,
       ⟨none, 2, none, (.op (.store 1 (.t 3) (.t 12)))⟩])))))
  (.seq (.reg 0 [⟨(some 13), 0, none, (.op (.load false 1 (.t 3)))⟩,
    ⟨(some 2), 0, none, (.op (.mov (.t 13)))⟩])
  (.ret))))
theorem cc30 : Tryd.f30.body.bind (compC Tryd.prog) = some ac30 := by kernel_rfl
theorem go30 {vals : List V} {v : V} (ac : AC) (he : ac.erase = ac30) (hw : wpC Tryd.prog 0 ac (retQ [.tmp 2] v) ⟨vals ++ List.replicate (14 - vals.length) (.tup []), []⟩) : CallP Tryd.prog 30 vals v :=
  call_of Tryd.func30 rfl rfl rfl (cc30.trans (congrArg some he.symm)) hw
/-- testbench/testbenchref37.check -/
def ac31 : AC :=
  .seq (.reg 1 [⟨(some 2), 0, none, (.op (.box 2 (.t 0)))⟩,
    ⟨(some 4), 1, none, (.op (.mov (.k (.d (.int .i64 0)))))⟩])
  (.seq (.seq (.reg 0 [⟨(some 5), 0, none, (.op (.mov (.k (.d (.int .i64 0)))))⟩])
  (.block 0
   (.loop
    (.seq (.seq (.reg 0 [⟨(some 7), 0, none, (.op (.mov (.t 5)))⟩,
      ⟨(some 8), 0, none, (.op (.mov (.t 1)))⟩,
      ⟨(some 9), 0, none, (.op (.len false (.t 8)))⟩,
      ⟨(some 10), 0, none, (.op (.bin .lss (.t 7) (.t 9)))⟩])
    (.cond (.t 10)
      (.skip)
      (.exit 0)))
    (.seq (.block 1
     (.seq (.reg 0 [⟨(some 13), 0, none, (.op (.mov (.t 1)))⟩,
       ⟨(some 14), 0, none, (.op (.mov (.t 5)))⟩,
       ⟨(some 15), 0, none, (.op (.idxA 3 none (.t 13) (.t 14)))⟩,
       ⟨(some 16), 0, none, (.op (.load true 3 (.t 15)))⟩,
       ⟨(some 17), 0, none, (.call (.k (.fn (.func 16) [] [])) [(.t 16)])⟩,
       ⟨(some 18), 0, none, (.op (.un .not (.t 17)))⟩])
     (.cond (.t 18)
       (.seq (.reg 0 [⟨(some 4), 0, none, (.op (.mov (.k (.d (.int .i64 1)))))⟩])
       (.ret))
       (.skip))))
    (.reg 0 [⟨(some 11), 0, none, (.op (.mov (.t 5)))⟩,
      ⟨(some 12), 0, none, (.op (.bin .add (.t 11) (.k (.d (.int .i64 1)))))⟩,
      ⟨(some 5), 0, none, (.op (.mov (.t 12)))⟩]))))))
  (.seq (.seq (.reg 0 [⟨(some 19), 0, none, (.op (.load true 2 (.t 2)))⟩,
    ⟨(some 20), 0, none, (.call (.k (.fn (.func 51) [] [])) [(.t 19)])⟩,
    ⟨(some 21), 0, none, (.op (.un .not (.t 20)))⟩])
  (.cond (.t 21)
    (.seq (.reg 0 [⟨(some 4), 0, none, (.op (.mov (.k (.d (.int .i64 1)))))⟩])
    (.ret))
    (.skip)))
  (.seq (.seq (.reg 0 [⟨(some 6), 0, none, (.op (.mov (.k (.d (.int .i64 0)))))⟩])
  (.block 2
   (.loop
    (.seq (.seq (.reg 0 [⟨(some 22), 0, none, (.op (.mov (.t 6)))⟩,
      ⟨(some 23), 0, none, (.op (.mov (.t 1)))⟩,
      ⟨(some 24), 0, none, (.op (.len false (.t 23)))⟩,
      ⟨(some 25), 0, none, (.op (.bin .lss (.t 22) (.t 24)))⟩])
    (.cond (.t 25)
      (.skip)
      (.exit 2)))
    (.seq (.block 3
     (.seq (.regD 0 [(⟨(some 28), 0, none, (.op (.load true 2 (.t 2)))⟩, []),
       (⟨(some 29), 0, none, (.op (.mov (.t 1)))⟩, []),
       (⟨(some 30), 0, none, (.op (.mov (.t 6)))⟩, []),
       (⟨(some 31), 0, none, (.op (.idxA 3 none (.t 29) (.t 30)))⟩, [1, 2]),
       (⟨(some 32), 0, none, (.op (.load true 3 (.t 31)))⟩, [3, 1, 2]),
       (⟨(some 33), 0, none, (.call (.k (.fn (.func 52) [] [])) [(.t 28), (.t 32)])⟩, [0, 4, 3, 1, 2]),
       (⟨(some 34), 0, none, (.op (.un .not (.t 33)))⟩, [5, 0, 4, 3, 1, 2])])
     (.cond (.t 34)
       (.seq (.reg 0 [⟨(some 4), 0, none, (.op (.mov (.k (.d (.int .i64 7)))))⟩])
       (.ret))
       (.skip))))
    (.reg 0 [⟨(some 26), 0, none, (.op (.mov (.t 6)))⟩,
      ⟨(some 27), 0, none, (.op (.bin .add (.t 26) (.k (.d (.int .i64 1)))))⟩,
      ⟨(some 6), 0, none, (.op (.mov (.t 27)))⟩]))))))
  (.seq (.reg 0 [⟨(some 4), 0, none, (.op (.mov (.k (.d (.int .i64 0)))))⟩])
  (.ret)))))
theorem cc31 : Tryd.f31.body.bind (compC Tryd.prog) = some ac31 := by kernel_rfl
theorem go31 {vals : List V} {v : V} (ac : AC) (he : ac.erase = ac31) (hw : wpC Tryd.prog 0 ac (retQ [.tmp 4] v) ⟨vals ++ List.replicate (35 - vals.length) (.tup []), []⟩) : CallP Tryd.prog 31 vals v :=
  call_of Tryd.func31 rfl rfl rfl (cc31.trans (congrArg some he.symm)) hw
/-- testbench/testbenchref37.moves -/
def ac32 : AC :=
  .seq (.reg 2 [⟨(some 3), 0, none, (.op (.box 2 (.t 0)))⟩,
    ⟨(some 4), 1, none, (.op (.box 3 (.t 1)))⟩,
    ⟨(some 6), 2, none, (.op (.mov (.k (.d (.bool false)))))⟩])
  (.seq (.reg 0 [⟨(some 7), 0, none, (.op (.load true 2 (.t 3)))⟩,
    ⟨(some 8), 0, none, (.op (.fldA 0 (.t 4)))⟩,
    ⟨(some 9), 0, none, (.op (.load false 1 (.t 8)))⟩,
    ⟨(some 10), 0, none, (.op (.mov (.t 2)))⟩,
    ⟨(some 11), 0, none, (.call (.k (.fn (.func 29) [] [])) [(.t 7), (.t 9), (.t 10)])⟩,
    ⟨(some 12), 0, none, (.op (.bin .neq (.t 11) (.k (.d (.int .i64 0)))))⟩,
    ⟨(some 13), 0, none, (.op (.mov (.t 12)))⟩,
    ⟨(some 14), 0, (some (13, true)), (.op (.load true 2 (.t 3)))⟩,
    ⟨(some 15), 0, (some (13, true)), (.op (.fldA 1 (.t 4)))⟩,
    ⟨(some 16), 0, (some (13, true)), (.op (.load false 1 (.t 15)))⟩,
    ⟨(some 17), 0, (some (13, true)), (.op (.mov (.t 2)))⟩,
    ⟨(some 18), 0, (some (13, true)), (.call (.k (.fn (.func 29) [] [])) [(.t 14), (.t 16), (.t 17)])⟩,
    ⟨(some 19), 0, (some (13, true)), (.op (.bin .neq (.t 18) (.k (.d (.int .i64 0)))))⟩,
    ⟨(some 20), 0, none, (.op (.pick (.t 13) (.t 19) (.k (.d (.bool false)))))⟩,
    ⟨(some 6), 0, none, (.op (.mov (.t 20)))⟩])
  (.ret))
theorem cc32 : Tryd.f32.body.bind (compC Tryd.prog) = some ac32 := by kernel_rfl
theorem go32 {vals : List V} {v : V} (ac : AC) (he : ac.erase = ac32) (hw : wpC Tryd.prog 0 ac (retQ [.tmp 6] v) ⟨vals ++ List.replicate (21 - vals.length) (.tup []), []⟩) : CallP Tryd.prog 32 vals v :=
  call_of Tryd.func32 rfl rfl rfl (cc32.trans (congrArg some he.symm)) hw
/-- testbench/monitor.signals -/
def ac33 : AC :=
  .seq (.reg 1 [⟨(some 1), 0, none, (.op (.box 3 (.t 0)))⟩,
    ⟨(some 2), 1, none, (.op (.mov (.k (.d .nils))))⟩])
  (.seq (.reg 2 [⟨(some 3), 0, none, (.op (.fldA 0 (.t 1)))⟩,
    ⟨(some 4), 0, none, (.op (.load false 1 (.t 3)))⟩,
    ⟨(some 5), 0, none, (.op (.fldA 1 (.t 1)))⟩,
    ⟨(some 6), 0, none, (.op (.load false 1 (.t 5)))⟩,
    ⟨(some 7), 0, none, (.op (.buildSl 1 2 [(.str [])] [(0, (.t 4)), (1, (.t 6))]))⟩,
    ⟨(some 8), 1, none, (.op (.fldA 2 (.t 1)))⟩,
    ⟨(some 9), 1, none, (.op (.load false 1 (.t 8)))⟩,
    ⟨(some 10), 1, none, (.op (.append 1 16 (.t 7) (.t 9)))⟩,
    ⟨(some 2), 2, none, (.op (.mov (.t 10)))⟩])
  (.ret))
theorem cc33 : Tryd.f33.body.bind (compC Tryd.prog) = some ac33 := by kernel_rfl
theorem go33 {vals : List V} {v : V} (ac : AC) (he : ac.erase = ac33) (hw : wpC Tryd.prog 0 ac (retQ [.tmp 2] v) ⟨vals ++ List.replicate (11 - vals.length) (.tup []), []⟩) : CallP Tryd.prog 33 vals v :=
  call_of Tryd.func33 rfl rfl rfl (cc33.trans (congrArg some he.symm)) hw
/-- testbench/lexer.IsName -/
def ac34 : AC :=
  .seq (.reg 0 [⟨(some 2), 0, none, (.op (.mov (.k (.d (.bool false)))))⟩])
  (.seq (.reg 0 [⟨(some 3), 0, none, (.op (.mov (.t 0)))⟩,
    ⟨(some 4), 0, none, (.call (.k (.fn (.func 53) [] [])) [(.t 3)])⟩,
    ⟨(some 5), 0, none, (.op (.mov (.t 4)))⟩,
    ⟨(some 6), 0, (some (5, true)), (.op (.mov (.t 0)))⟩,
    ⟨(some 7), 0, (some (5, true)), (.op (.len true (.t 6)))⟩,
    ⟨(some 8), 0, (some (5, true)), (.op (.bin .leq (.t 7) (.k (.d (.int .i64 16)))))⟩,
    ⟨(some 9), 0, none, (.op (.pick (.t 5) (.t 8) (.k (.d (.bool false)))))⟩,
    ⟨(some 10), 0, none, (.op (.mov (.t 9)))⟩,
    ⟨(some 11), 0, (some (10, true)), (.op (.mov (.t 0)))⟩,
    ⟨(some 12), 0, (some (10, true)), (.call (.k (.fn (.func 54) [] [])) [(.t 11)])⟩,
    ⟨(some 13), 0, (some (10, true)), (.op (.un .not (.t 12)))⟩,
    ⟨(some 14), 0, none, (.op (.pick (.t 10) (.t 13) (.k (.d (.bool false)))))⟩,
    ⟨(some 2), 0, none, (.op (.mov (.t 14)))⟩])
  (.ret))
theorem cc34 : Tryd.f34.body.bind (compC Tryd.prog) = some ac34 := by kernel_rfl
theorem go34 {vals : List V} {v : V} (ac : AC) (he : ac.erase = ac34) (hw : wpC Tryd.prog 0 ac (retQ [.tmp 2] v) ⟨vals ++ List.replicate (15 - vals.length) (.tup []), []⟩) : CallP Tryd.prog 34 vals v :=
  call_of Tryd.func34 rfl rfl rfl (cc34.trans (congrArg some he.symm)) hw
/-- slices.Contains[[]string,string] -/
def ac35 : AC :=
  .seq (.reg 0 [⟨(some 4), 0, none, (.op (.mov (.k (.d (.bool false)))))⟩])
  (.seq (.reg 0 [⟨(some 5), 0, none, (.op (.mov (.t 0)))⟩,
    ⟨(some 6), 0, none, (.op (.mov (.t 1)))⟩,
    ⟨(some 7), 0, none, (.call (.k (.fn (.func 55) [] [])) [(.t 5), (.t 6)])⟩,
    ⟨(some 8), 0, none, (.op (.bin .geq (.t 7) (.k (.d (.int .i64 0)))))⟩,
    ⟨(some 4), 0, none, (.op (.mov (.t 8)))⟩])
  (.ret))
theorem cc35 : Tryd.f35.body.bind (compC Tryd.prog) = some ac35 := by kernel_rfl
theorem go35 {vals : List V} {v : V} (ac : AC) (he : ac.erase = ac35) (hw : wpC Tryd.prog 0 ac (retQ [.tmp 4] v) ⟨vals ++ List.replicate (9 - vals.length) (.tup []), []⟩) : CallP Tryd.prog 35 vals v :=
  call_of Tryd.func35 rfl rfl rfl (cc35.trans (congrArg some he.symm)) hw
/-- testbench/testbenchref37.names -/
def ac36 : AC :=
  .seq (.reg 1 [⟨(some 1), 0, none, (.op (.box 3 (.t 0)))⟩,
    ⟨(some 2), 1, none, (.op (.mov (.k (.d .nils))))⟩])
  (.seq (.reg 1 [⟨(some 5), 0, none, (.op (.fldA 0 (.t 1)))⟩,
    ⟨(some 6), 0, none, (.op (.load false 1 (.t 5)))⟩,
    ⟨(some 7), 0, none, (.op (.fldA 1 (.t 1)))⟩,
    ⟨(some 8), 0, none, (.op (.load false 1 (.t 7)))⟩,
    ⟨(some 9), 0, none, (.op (.buildSl 1 2 [(.str [])] [(0, (.t 6)), (1, (.t 8))]))⟩,
    ⟨(some 3), 1, none, (.op (.mov (.t 9)))⟩])
  (.seq (.seq (.reg 0 [⟨(some 4), 0, none, (.op (.mov (.k (.d (.int .i64 0)))))⟩])
  (.block 0
   (.loop
    (.seq (.seq (.reg 0 [⟨(some 10), 0, none, (.op (.mov (.t 4)))⟩,
      ⟨(some 11), 0, none, (.op (.fldA 2 (.t 1)))⟩,
      ⟨(some 12), 0, none, (.op (.load false 1 (.t 11)))⟩,
      ⟨(some 13), 0, none, (.op (.len false (.t 12)))⟩,
      ⟨(some 14), 0, none, (.op (.bin .lss (.t 10) (.t 13)))⟩])
    (.cond (.t 14)
      (.skip)
      (.exit 0)))
    (.seq (.block 1
     (.reg 2 [⟨(some 17), 0, none, (.op (.mov (.t 3)))⟩,
       ⟨(some 18), 0, none, (.op (.fldA 2 (.t 1)))⟩,
       ⟨(some 19), 0, none, (.op (.load false 1 (.t 18)))⟩,
       ⟨(some 20), 0, none, (.op (.mov (.t 4)))⟩,
       ⟨(some 21), 0, none, (.op (.idxA 1 none (.t 19) (.t 20)))⟩,
       ⟨(some 22), 0, none, (.op (.load false 1 (.t 21)))⟩,
       ⟨(some 23), 0, none, (.op (.buildSl 1 1 [(.str [])] [(0, (.t 22))]))⟩,
       ⟨(some 24), 1, none, (.op (.append 1 16 (.t 17) (.t 23)))⟩,
       ⟨(some 3), 2, none, (.op (.mov (.t 24)))⟩]))
    (.reg 0 [⟨(some 15), 0, none, (.op (.mov (.t 4)))⟩,
      ⟨(some 16), 0, none, (.op (.bin .add (.t 15) (.k (.d (.int .i64 1)))))⟩,
      ⟨(some 4), 0, none, (.op (.mov (.t 16)))⟩]))))))
  (.seq (.reg 0 [⟨(some 25), 0, none, (.op (.mov (.t 3)))⟩,
    ⟨(some 2), 0, none, (.op (.mov (.t 25)))⟩])
  (.ret))))
theorem cc36 : Tryd.f36.body.bind (compC Tryd.prog) = some ac36 := by kernel_rfl
theorem go36 {vals : List V} {v : V} (ac : AC) (he : ac.erase = ac36) (hw : wpC Tryd.prog 0 ac (retQ [.tmp 2] v) ⟨vals ++ List.replicate (26 - vals.length) (.tup []), []⟩) : CallP Tryd.prog 36 vals v :=
  call_of Tryd.func36 rfl rfl rfl (cc36.trans (congrArg some he.symm)) hw
/-- testbench/testbenchref07.IsName -/
def ac37 : AC :=
  .seq (.reg 0 [⟨(some 2), 0, none, (.op (.mov (.k (.d (.bool false)))))⟩])
  (.seq (.seq (.reg 0 [⟨(some 4), 0, none, (.op (.mov (.t 0)))⟩,
    ⟨(some 5), 0, none, (.op (.bin .eql (.t 4) (.k (.d (.str [])))))⟩,
    ⟨(some 6), 0, none, (.op (.mov (.t 5)))⟩,
    ⟨(some 7), 0, (some (6, false)), (.op (.mov (.t 0)))⟩,
    ⟨(some 8), 0, (some (6, false)), (.op (.len true (.t 7)))⟩,
    ⟨(some 9), 0, (some (6, false)), (.op (.bin .gtr (.t 8) (.k (.d (.int .i64 16)))))⟩,
    ⟨(some 10), 0, none, (.op (.pick (.t 6) (.k (.d (.bool true))) (.t 9)))⟩,
    ⟨(some 11), 0, none, (.op (.mov (.t 10)))⟩,
    ⟨(some 12), 0, (some (11, false)), (.op (.mov (.t 0)))⟩,
    ⟨(some 13), 0, (some (11, false)), (.op (.idxS (.t 12) (.k (.d (.int .i64 0)))))⟩,
    ⟨(some 14), 0, (some (11, false)), (.call (.k (.fn (.func 56) [] [])) [(.t 13)])⟩,
    ⟨(some 15), 0, (some (11, false)), (.op (.un .not (.t 14)))⟩,
    ⟨(some 16), 0, none, (.op (.pick (.t 11) (.k (.d (.bool true))) (.t 15)))⟩,
    ⟨(some 17), 0, none, (.op (.mov (.t 16)))⟩,
    ⟨(some 18), 0, (some (17, false)), (.op (.mov (.t 0)))⟩,
    ⟨(some 19), 0, (some (17, false)), (.call (.k (.fn (.func 57) [] [])) [(.t 18)])⟩,
    ⟨(some 20), 0, none, (.op (.pick (.t 17) (.k (.d (.bool true))) (.t 19)))⟩])
  (.cond (.t 20)
    (.seq (.reg 0 [⟨(some 2), 0, none, (.op (.mov (.k (.d (.bool false)))))⟩])
    (.ret))
    (.skip)))
  (.seq (.seq (.reg 0 [⟨(some 3), 0, none, (.op (.mov (.k (.d (.int .i64 0)))))⟩])
  (.block 0
   (.loop
    (.seq (.seq (.reg 0 [⟨(some 21), 0, none, (.op (.mov (.t 3)))⟩,
      ⟨(some 22), 0, none, (.op (.mov (.t 0)))⟩,
      ⟨(some 23), 0, none, (.op (.len true (.t 22)))⟩,
      ⟨(some 24), 0, none, (.op (.bin .lss (.t 21) (.t 23)))⟩])
    (.cond (.t 24)
      (.skip)
      (.exit 0)))
    (.seq (.block 1
     (.seq (.reg 0 [⟨(some 27), 0, none, (.op (.mov (.t 0)))⟩,
       ⟨(some 28), 0, none, (.op (.mov (.t 3)))⟩,
       ⟨(some 29), 0, none, (.op (.idxS (.t 27) (.t 28)))⟩,
       ⟨(some 30), 0, none, (.call (.k (.fn (.func 58) [] [])) [(.t 29)])⟩,
       ⟨(some 31), 0, none, (.op (.un .not (.t 30)))⟩])
     (.cond (.t 31)
       (.seq (.reg 0 [⟨(some 2), 0, none, (.op (.mov (.k (.d (.bool false)))))⟩])
       (.ret))
       (.skip))))
    (.reg 0 [⟨(some 25), 0, none, (.op (.mov (.t 3)))⟩,
      ⟨(some 26), 0, none, (.op (.bin .add (.t 25) (.k (.d (.int .i64 1)))))⟩,
      ⟨(some 3), 0, none, (.op (.mov (.t 26)))⟩]))))))
  (.seq (.reg 0 [⟨(some 2), 0, none, (.op (.mov (.k (.d (.bool true)))))⟩])
  (.ret))))
theorem cc37 : Tryd.f37.body.bind (compC Tryd.prog) = some ac37 := by kernel_rfl
theorem go37 {vals : List V} {v : V} (ac : AC) (he : ac.erase = ac37) (hw : wpC Tryd.prog 0 ac (retQ [.tmp 2] v) ⟨vals ++ List.replicate (32 - vals.length) (.tup []), []⟩) : CallP Tryd.prog 37 vals v :=
  call_of Tryd.func37 rfl rfl rfl (cc37.trans (congrArg some he.symm)) hw
/-- testbench/testbenchref26.Same -/
def ac38 : AC :=
  .seq (.reg 2 [⟨(some 2), 0, none, (.op (.box 2 (.t 0)))⟩,
    ⟨(some 3), 1, none, (.op (.box 2 (.t 1)))⟩,
    ⟨(some 4), 2, none, (.op (.mov (.k (.d (.bool false)))))⟩])
  (.seq (.seq (.reg 0 [⟨(some 7), 0, none, (.op (.fldA 0 (.t 2)))⟩,
    ⟨(some 8), 0, none, (.op (.load false 1 (.t 7)))⟩,
    ⟨(some 9), 0, none, (.op (.len false (.t 8)))⟩,
    ⟨(some 10), 0, none, (.op (.fldA 0 (.t 3)))⟩,
    ⟨(some 11), 0, none, (.op (.load false 1 (.t 10)))⟩,
    ⟨(some 12), 0, none, (.op (.len false (.t 11)))⟩,
    ⟨(some 13), 0, none, (.op (.bin .neq (.t 9) (.t 12)))⟩,
    ⟨(some 14), 0, none, (.op (.mov (.t 13)))⟩,
    ⟨(some 15), 0, (some (14, false)), (.op (.fldA 1 (.t 2)))⟩,
    ⟨(some 16), 0, (some (14, false)), (.op (.load false 1 (.t 15)))⟩,
    ⟨(some 17), 0, (some (14, false)), (.op (.len false (.t 16)))⟩,
    ⟨(some 18), 0, (some (14, false)), (.op (.fldA 1 (.t 3)))⟩,
    ⟨(some 19), 0, (some (14, false)), (.op (.load false 1 (.t 18)))⟩,
    ⟨(some 20), 0, (some (14, false)), (.op (.len false (.t 19)))⟩,
    ⟨(some 21), 0, (some (14, false)), (.op (.bin .neq (.t 17) (.t 20)))⟩,
    ⟨(some 22), 0, none, (.op (.pick (.t 14) (.k (.d (.bool true))) (.t 21)))⟩])
  (.cond (.t 22)
    (.seq (.reg 0 [⟨(some 4), 0, none, (.op (.mov (.k (.d (.bool false)))))⟩])
    (.ret))
    (.skip)))
  (.seq (.seq (.reg 0 [⟨(some 5), 0, none, (.op (.mov (.k (.d (.int .i64 0)))))⟩])
  (.block 0
   (.loop
    (.seq (.seq (.reg 0 [⟨(some 23), 0, none, (.op (.mov (.t 5)))⟩,
      ⟨(some 24), 0, none, (.op (.fldA 0 (.t 2)))⟩,
      ⟨(some 25), 0, none, (.op (.load false 1 (.t 24)))⟩,
      ⟨(some 26), 0, none, (.op (.len false (.t 25)))⟩,
      ⟨(some 27), 0, none, (.op (.bin .lss (.t 23) (.t 26)))⟩])
    (.cond (.t 27)
      (.skip)
      (.exit 0)))
    (.seq (.block 1
     (.seq (.regD 0 [(⟨(some 30), 0, none, (.op (.fldA 0 (.t 2)))⟩, []),
       (⟨(some 31), 0, none, (.op (.load false 1 (.t 30)))⟩, [0]),
       (⟨(some 32), 0, none, (.op (.mov (.t 5)))⟩, []),
       (⟨(some 33), 0, none, (.op (.idxA 1 none (.t 31) (.t 32)))⟩, [1, 0, 2]),
       (⟨(some 34), 0, none, (.op (.load false 1 (.t 33)))⟩, [3, 1, 0, 2]),
       (⟨(some 35), 0, none, (.op (.fldA 0 (.t 3)))⟩, []),
       (⟨(some 36), 0, none, (.op (.load false 1 (.t 35)))⟩, [5]),
       (⟨(some 37), 0, none, (.op (.mov (.t 5)))⟩, []),
       (⟨(some 38), 0, none, (.op (.idxA 1 none (.t 36) (.t 37)))⟩, [6, 5, 7]),
       (⟨(some 39), 0, none, (.op (.load false 1 (.t 38)))⟩, [8, 6, 5, 7]),
       (⟨(some 40), 0, none, (.op (.bin .neq (.t 34) (.t 39)))⟩, [4, 3, 1, 0, 2, 9, 8, 6, 5, 7])])
     (.cond (.t 40)
       (.seq (.reg 0 [⟨(some 4), 0, none, (.op (.mov (.k (.d (.bool false)))))⟩])
       (.ret))
       (.skip))))
    (.reg 0 [⟨(some 28), 0, none, (.op (.mov (.t 5)))⟩,
      ⟨(some 29), 0, none, (.op (.bin .add (.t 28) (.k (.d (.int .i64 1)))))⟩,
      ⟨(some 5), 0, none, (.op (.mov (.t 29)))⟩]))))))
  (.seq (.seq (.reg 0 [⟨(some 6), 0, none, (.op (.mov (.k (.d (.int .i64 0)))))⟩])
  (.block 2
   (.loop
    (.seq (.seq (.reg 0 [⟨(some 41), 0, none, (.op (.mov (.t 6)))⟩,
      ⟨(some 42), 0, none, (.op (.fldA 1 (.t 2)))⟩,
      ⟨(some 43), 0, none, (.op (.load false 1 (.t 42)))⟩,
      ⟨(some 44), 0, none, (.op (.len false (.t 43)))⟩,
      ⟨(some 45), 0, none, (.op (.bin .lss (.t 41) (.t 44)))⟩])
    (.cond (.t 45)
      (.skip)
      (.exit 2)))
    (.seq (.block 3
     (.seq (.regD 0 [(⟨(some 48), 0, none, (.op (.fldA 1 (.t 2)))⟩, []),
       (⟨(some 49), 0, none, (.op (.load false 1 (.t 48)))⟩, [0]),
       (⟨(some 50), 0, none, (.op (.mov (.t 6)))⟩, []),
       (⟨(some 51), 0, none, (.op (.idxA 1 none (.t 49) (.t 50)))⟩, [1, 0, 2]),
       (⟨(some 52), 0, none, (.op (.load false 1 (.t 51)))⟩, [3, 1, 0, 2]),
       (⟨(some 53), 0, none, (.op (.fldA 1 (.t 3)))⟩, []),
       (⟨(some 54), 0, none, (.op (.load false 1 (.t 53)))⟩, [5]),
       (⟨(some 55), 0, none, (.op (.mov (.t 6)))⟩, []),
       (⟨(some 56), 0, none, (.op (.idxA 1 none (.t 54) (.t 55)))⟩, [6, 5, 7]),
       (⟨(some 57), 0, none, (.op (.load false 1 (.t 56)))⟩, [8, 6, 5, 7]),
       (⟨(some 58), 0, none, (.op (.bin .neq (.t 52) (.t 57)))⟩, [4, 3, 1, 0, 2, 9, 8, 6, 5, 7])])
     (.cond (.t 58)
       (.seq (.reg 0 [⟨(some 4), 0, none, (.op (.mov (.k (.d (.bool false)))))⟩])
       (.ret))
       (.skip))))
    (.reg 0 [⟨(some 46), 0, none, (.op (.mov (.t 6)))⟩,
      ⟨(some 47), 0, none, (.op (.bin .add (.t 46) (.k (.d (.int .i64 1)))))⟩,
      ⟨(some 6), 0, none, (.op (.mov (.t 47)))⟩]))))))
  (.seq (.reg 0 [⟨(some 4), 0, none, (.op (.mov (.k (.d (.bool true)))))⟩])
  (.ret)))))
theorem cc38 : Tryd.f38.body.bind (compC Tryd.prog) = some ac38 := by kernel_rfl
theorem go38 {vals : List V} {v : V} (ac : AC) (he : ac.erase = ac38) (hw : wpC Tryd.prog 0 ac (retQ [.tmp 4] v) ⟨vals ++ List.replicate (59 - vals.length) (.tup []), []⟩) : CallP Tryd.prog 38 vals v :=
  call_of Tryd.func38 rfl rfl rfl (cc38.trans (congrArg some he.symm)) hw
/-- (testbench/monitor.view).breaks -/
def ac39 : AC :=
  .seq (.reg 1 [⟨(some 2), 0, none, (.op (.box 7 (.t 0)))⟩,
    ⟨(some 4), 1, none, (.op (.mov (.k (.d (.bool false)))))⟩])
  (.seq (.reg 0 [⟨(some 6), 0, none, (.op (.load true 7 (.t 2)))⟩,
    ⟨(some 7), 0, none, (.op (.mov (.t 1)))⟩,
    ⟨(some 8), 0, none, (.op (.bin .sub (.t 7) (.k (.d (.int .i64 1)))))⟩,
    ⟨(some 9), 0, none, (.call (.k (.fn (.func 48) [] [])) [(.t 6), (.t 8)])⟩,
    ⟨(some 10), 0, none, (.op (.mov (.t 9)))⟩,
    ⟨(some 11), 0, (some (10, true)), (.op (.load true 7 (.t 2)))⟩,
    ⟨(some 12), 0, (some (10, true)), (.op (.mov (.t 1)))⟩,
    ⟨(some 13), 0, (some (10, true)), (.op (.bin .sub (.t 12) (.k (.d (.int .i64 1)))))⟩,
    ⟨(some 14), 0, (some (10, true)), (.call (.k (.fn (.func 49) [] [])) [(.t 11), (.t 13)])⟩,
    ⟨(some 15), 0, (some (10, true)), (.op (.un .not (.t 14)))⟩,
    ⟨(some 16), 0, none, (.op (.pick (.t 10) (.t 15) (.k (.d (.bool false)))))⟩,
    ⟨(some 5), 0, none, (.op (.mov (.t 16)))⟩])
  (.seq (.regD 0 [(⟨(some 17), 0, none, (.op (.mov (.t 5)))⟩, []),
    (⟨(some 18), 0, none, (.op (.mov (.t 17)))⟩, [0]),
    (⟨(some 19), 0, (some (18, true)), (.op (.load true 7 (.t 2)))⟩, [1, 0]),
    (⟨(some 20), 0, (some (18, true)), (.op (.mov (.t 1)))⟩, [1, 0]),
    (⟨(some 21), 0, (some (18, true)), (.call (.k (.fn (.func 48) [] [])) [(.t 19), (.t 20)])⟩, [2, 1, 0, 3]),
    (⟨(some 22), 0, (some (18, true)), (.op (.un .not (.t 21)))⟩, [4, 2, 1, 0, 3]),
    (⟨(some 23), 0, (some (18, true)), (.op (.mov (.t 22)))⟩, [5, 4, 2, 1, 0, 3]),
    (⟨(some 24), 0, (some (23, false)), (.op (.load true 7 (.t 2)))⟩, [6, 5, 4, 2, 1, 0, 3]),
    (⟨(some 25), 0, (some (23, false)), (.op (.mov (.t 1)))⟩, [6, 5, 4, 2, 1, 0, 3]),
    (⟨(some 26), 0, (some (23, false)), (.op (.bin .sub (.t 25) (.k (.d (.int .i64 1)))))⟩, [8, 6, 5, 4, 2, 1, 0, 3]),
    (⟨(some 27), 0, (some (23, false)), (.call (.k (.fn (.func 50) [] [])) [(.t 24), (.t 26)])⟩, [7, 6, 5, 4, 2, 1, 0, 3, 9, 8]),
    (⟨(some 28), 0, (some (23, false)), (.op (.load true 7 (.t 2)))⟩, [6, 5, 4, 2, 1, 0, 3]),
    (⟨(some 29), 0, (some (23, false)), (.op (.mov (.t 1)))⟩, [6, 5, 4, 2, 1, 0, 3]),
    (⟨(some 30), 0, (some (23, false)), (.call (.k (.fn (.func 50) [] [])) [(.t 28), (.t 29)])⟩, [11, 6, 5, 4, 2, 1, 0, 3, 12, 10, 7, 9, 8]),
    (⟨(some 31), 0, (some (23, false)), (.call (.k (.fn (.func 59) [] [])) [(.t 27), (.t 30)])⟩, [10, 7, 6, 5, 4, 2, 1, 0, 3, 9, 8, 13, 11, 12]),
    (⟨(some 32), 0, (some (23, false)), (.op (.un .not (.t 31)))⟩, [14, 10, 7, 6, 5, 4, 2, 1, 0, 3, 9, 8, 13, 11, 12]),
    (⟨(some 33), 0, (some (18, true)), (.op (.pick (.t 23) (.k (.d (.bool true))) (.t 32)))⟩, [6, 5, 4, 2, 1, 0, 3, 15, 14, 10, 7, 9, 8, 13, 11, 12]),
    (⟨(some 34), 0, none, (.op (.pick (.t 18) (.t 33) (.k (.d (.bool false)))))⟩, [1, 0, 16, 6, 5, 4, 2, 3, 15, 14, 10, 7, 9, 8, 13, 11, 12]),
    (⟨(some 4), 0, none, (.op (.mov (.t 34)))⟩, [17, 1, 0, 16, 6, 5, 4, 2, 3, 15, 14, 10, 7, 9, 8, 13, 11, 12])])
  (.ret)))
theorem cc39 : Tryd.f39.body.bind (compC Tryd.prog) = some ac39 := by kernel_rfl
theorem go39 {vals : List V} {v : V} (ac : AC) (he : ac.erase = ac39) (hw : wpC Tryd.prog 0 ac (retQ [.tmp 4] v) ⟨vals ++ List.replicate (35 - vals.length) (.tup []), []⟩) : CallP Tryd.prog 39 vals v :=
  call_of Tryd.func39 rfl rfl rfl (cc39.trans (congrArg some he.symm)) hw
/-- testbench/testbenchref35.Get -/
def ac40 : AC :=
  .seq (.reg 1 [⟨(some 3), 0, none, (.op (.box 2 (.t 0)))⟩,
    ⟨(some 6), 1, none, (.op (.mov (.k (.d (.int .i64 0)))))⟩,
    ⟨(some 7), 1, none, (.op (.mov (.k (.d (.bool false)))))⟩])
  (.seq (.reg 0 [⟨(some 9), 0, none, (.op (.fldA 0 (.t 3)))⟩,
    ⟨(some 10), 0, none, (.op (.load false 1 (.t 9)))⟩,
    ⟨(some 11), 0, none, (.op (.mov (.t 1)))⟩,
    ⟨(some 12), 0, none, (.call (.k (.fn (.func 60) [] [])) [(.t 10), (.t 11)])⟩,
    ⟨(some 8), 0, none, (.op (.mov (.t 12)))⟩])
  (.seq (.seq (.reg 0 [⟨(some 13), 0, none, (.op (.load true 2 (.t 3)))⟩,
    ⟨(some 14), 0, none, (.call (.k (.fn (.func 51) [] [])) [(.t 13)])⟩,
    ⟨(some 15), 0, none, (.op (.un .not (.t 14)))⟩,
    ⟨(some 16), 0, none, (.op (.mov (.t 15)))⟩,
    ⟨(some 17), 0, (some (16, false)), (.op (.mov (.t 8)))⟩,
    ⟨(some 18), 0, (some (16, false)), (.op (.bin .lss (.t 17) (.k (.d (.int .i64 0)))))⟩,
    ⟨(some 19), 0, none, (.op (.pick (.t 16) (.k (.d (.bool true))) (.t 18)))⟩,
    ⟨(some 20), 0, none, (.op (.mov (.t 19)))⟩,
    ⟨(some 21), 0, (some (20, false)), (.op (.mov (.t 2)))⟩,
    ⟨(some 22), 0, (some (20, false)), (.op (.bin .lss (.t 21) (.k (.d (.int .i64 0)))))⟩,
    ⟨(some 23), 0, none, (.op (.pick (.t 20) (.k (.d (.bool true))) (.t 22)))⟩,
    ⟨(some 24), 0, none, (.op (.mov (.t 23)))⟩,
    ⟨(some 25), 0, (some (24, false)), (.op (.mov (.t 2)))⟩,
    ⟨(some 26), 0, (some (24, false)), (.op (.fldA 1 (.t 3)))⟩,
    ⟨(some 27), 0, (some (24, false)), (.op (.load false 1 (.t 26)))⟩,
    ⟨(some 28), 0, (some (24, false)), (.op (.len false (.t 27)))⟩,
    ⟨(some 29), 0, (some (24, false)), (.op (.bin .geq (.t 25) (.t 28)))⟩,
    ⟨(some 30), 0, none, (.op (.pick (.t 24) (.k (.d (.bool true))) (.t 29)))⟩])
  (.cond (.t 30)
    (.seq (.reg 0 [⟨(some 6), 0, none, (.op (.mov (.k (.d (.int .i64 0)))))⟩,
      ⟨(some 7), 0, none, (.op (.mov (.k (.d (.bool false)))))⟩])
    (.ret))
    (.skip)))
  (.seq (.reg 0 [⟨(some 31), 0, none, (.op (.fldA 1 (.t 3)))⟩,
    ⟨(some 32), 0, none, (.op (.load false 1 (.t 31)))⟩,
    ⟨(some 33), 0, none, (.op (.mov (.t 2)))⟩,
    ⟨(some 34), 0, none, (.op (.idxA 1 none (.t 32) (.t 33)))⟩,
    ⟨(some 35), 0, none, (.op (.load false 1 (.t 34)))⟩,
    ⟨(some 36), 0, none, (.op (.mov (.t 8)))⟩,
    ⟨(some 37), 0, none, (.op (.idxA 1 none (.t 35) (.t 36)))⟩,
    ⟨(some 38), 0, none, (.op (.load false 1 (.t 37)))⟩,
    ⟨(some 6), 0, none, (.op (.mov (.t 38)))⟩,
    ⟨(some 7), 0, none, (.op (.mov (.k (.d (.bool true)))))⟩])
  (.ret))))
theorem cc40 : Tryd.f40.body.bind (compC Tryd.prog) = some ac40 := by kernel_rfl
theorem go40 {vals : List V} {v : V} (ac : AC) (he : ac.erase = ac40) (hw : wpC Tryd.prog 0 ac (retQ [.tmp 6, .tmp 7] v) ⟨vals ++ List.replicate (39 - vals.length) (.tup []), []⟩) : CallP Tryd.prog 40 vals v :=
  call_of Tryd.func40 rfl rfl rfl (cc40.trans (congrArg some he.symm)) hw
/-- testbench/wave.Valid -/
def ac41 : AC :=
  .seq (.reg 1 [⟨(some 1), 0, none, (.op (.box 2 (.t 0)))⟩,
    ⟨(some 2), 1, none, (.op (.mov (.k (.d (.bool false)))))⟩])
  (.seq (.seq (.reg 0 [⟨(some 5), 0, none, (.op (.fldA 0 (.t 1)))⟩,
    ⟨(some 6), 0, none, (.op (.load false 1 (.t 5)))⟩,
    ⟨(some 7), 0, none, (.op (.len false (.t 6)))⟩,
    ⟨(some 8), 0, none, (.op (.bin .gtr (.t 7) (.k (.d (.int .i64 48)))))⟩,
    ⟨(some 9), 0, none, (.op (.mov (.t 8)))⟩,
    ⟨(some 10), 0, (some (9, false)), (.op (.fldA 1 (.t 1)))⟩,
    ⟨(some 11), 0, (some (9, false)), (.op (.load false 1 (.t 10)))⟩,
    ⟨(some 12), 0, (some (9, false)), (.op (.len false (.t 11)))⟩,
    ⟨(some 13), 0, (some (9, false)), (.op (.bin .gtr (.t 12) (.k (.d (.int .i64 4096)))))⟩,
    ⟨(some 14), 0, none, (.op (.pick (.t 9) (.k (.d (.bool true))) (.t 13)))⟩,
    ⟨(some 15), 0, none, (.op (.mov (.t 14)))⟩,
    ⟨(some 16), 0, (some (15, false)), (.op (.fldA 0 (.t 1)))⟩,
    ⟨(some 17), 0, (some (15, false)), (.op (.load false 1 (.t 16)))⟩,
    ⟨(some 18), 0, (some (15, false)), (.call (.k (.fn (.func 61) [] [])) [(.t 17)])⟩,
    ⟨(some 19), 0, (some (15, false)), (.op (.bin .neq (.t 18) (.k (.d (.int .i64 0)))))⟩,
    ⟨(some 20), 0, none, (.op (.pick (.t 15) (.k (.d (.bool true))) (.t 19)))⟩])
  (.cond (.t 20)
    (.seq (.reg 0 [⟨(some 2), 0, none, (.op (.mov (.k (.d (.bool false)))))⟩])
    (.ret))
    (.skip)))
  (.seq (.seq (.reg 0 [⟨(some 21), 0, none, (.op (.fldA 1 (.t 1)))⟩,
    ⟨(some 22), 0, none, (.op (.load false 1 (.t 21)))⟩,
    ⟨(some 23), 0, none, (.op (.len false (.t 22)))⟩,
    ⟨(some 24), 0, none, (.op (.mov (.k (.d (.int .i64 0)))))⟩])
  (.block 0
   (.loop
    (.seq (.reg 0 [⟨(some 25), 0, none, (.op (.bin .lss (.t 24) (.t 23)))⟩])
    (.seq (.cond (.t 25)
      (.skip)
      (.exit 0))
    (.seq (.block 1
     (.seq (.reg 0 [⟨(some 26), 0, none, (.op (.idxA 1 none (.t 22) (.t 24)))⟩,
       ⟨(some 27), 0, none, (.op (.load false 1 (.t 26)))⟩,
       ⟨(some 4), 0, none, (.op (.mov (.t 27)))⟩])
     (.seq (.reg 0 [⟨(some 28), 0, none, (.op (.mov (.t 4)))⟩,
       ⟨(some 29), 0, none, (.op (.len false (.t 28)))⟩,
       ⟨(some 30), 0, none, (.op (.fldA 0 (.t 1)))⟩,
       ⟨(some 31), 0, none, (.op (.load false 1 (.t 30)))⟩,
       ⟨(some 32), 0, none, (.op (.len false (.t 31)))⟩,
       ⟨(some 33), 0, none, (.op (.bin .neq (.t 29) (.t 32)))⟩,
       ⟨(some 34), 0, none, (.op (.mov (.t 33)))⟩,
       ⟨(some 35), 0, (some (34, false)), (.op (.mov (.t 4)))⟩,
       ⟨(some 36), 0, (some (34, false)), (.call (.k (.fn (.func 62) [] [])) [(.t 35), (.k (.fn (.func 63) [] []))])⟩,
       ⟨(some 37), 0, none, (.op (.pick (.t 34) (.k (.d (.bool true))) (.t 36)))⟩])
     (.cond (.t 37)
       (.seq (.reg 0 [⟨(some 2), 0, none, (.op (.mov (.k (.d (.bool false)))))⟩])
       (.ret))
       (.skip)))))
    (.reg 0 [⟨(some 38), 0, none, (.op (.bin .add (.t 24) (.k (.d (.int .i64 1)))))⟩,
      ⟨(some 24), 0, none, (.op (.mov (.t 38)))⟩])))))))
  (.seq (.reg 0 [⟨(some 2), 0, none, (.op (.mov (.k (.d (.bool true)))))⟩])
  (.ret))))
theorem cc41 : Tryd.f41.body.bind (compC Tryd.prog) = some ac41 := by kernel_rfl
theorem go41 {vals : List V} {v : V} (ac : AC) (he : ac.erase = ac41) (hw : wpC Tryd.prog 0 ac (retQ [.tmp 2] v) ⟨vals ++ List.replicate (39 - vals.length) (.tup []), []⟩) : CallP Tryd.prog 41 vals v :=
  call_of Tryd.func41 rfl rfl rfl (cc41.trans (congrArg some he.symm)) hw
/-- slices.Clone[[]string,string] -/
def ac42 : AC :=
  .seq (.reg 0 [⟨(some 2), 0, none, (.op (.mov (.k (.d .nils))))⟩])
  (.seq (.seq (.reg 0 [⟨(some 3), 0, none, (.op (.mov (.t 0)))⟩,
    ⟨(some 4), 0, none, (.op (.isNil false (.t 3) (.k (.d .nils))))⟩])
  (.cond (.t 4)
    (.seq (.reg 0 [⟨(some 2), 0, none, (.op (.mov (.k (.d .nils))))⟩])
    (.ret))
    (.skip)))
  (.seq (.reg 2 [⟨(some 5), 0, none, (.op (.buildSl 1 0 [(.str [])] []))⟩,
    ⟨(some 6), 1, none, (.op (.mov (.t 0)))⟩,
    ⟨(some 7), 1, none, (.op (.append 1 16 (.t 5) (.t 6)))⟩,
    ⟨(some 2), 2, none, (.op (.mov (.t 7)))⟩])
  (.ret)))
theorem cc42 : Tryd.f42.body.bind (compC Tryd.prog) = some ac42 := by kernel_rfl
theorem go42 {vals : List V} {v : V} (ac : AC) (he : ac.erase = ac42) (hw : wpC Tryd.prog 0 ac (retQ [.tmp 2] v) ⟨vals ++ List.replicate (8 - vals.length) (.tup []), []⟩) : CallP Tryd.prog 42 vals v :=
  call_of Tryd.func42 rfl rfl rfl (cc42.trans (congrArg some he.symm)) hw
/-- testbench/wave.copied -/
def ac43 : AC :=
  .seq (.reg 0 [⟨(some 2), 0, none, (.op (.mov (.k (.d .nils))))⟩])
  (.seq (.reg 1 [⟨(some 6), 0, none, (.op (.mov (.t 0)))⟩,
    ⟨(some 7), 0, none, (.op (.len false (.t 6)))⟩,
    ⟨(some 8), 0, none, (.op (.mksl 1 24 [.nils] (.t 7) (.t 7)))⟩,
    ⟨(some 3), 1, none, (.op (.mov (.t 8)))⟩])
  (.seq (.seq (.reg 0 [⟨(some 9), 0, none, (.op (.mov (.t 0)))⟩,
    ⟨(some 10), 0, none, (.op (.len false (.t 9)))⟩,
    ⟨(some 11), 0, none, (.op (.mov (.k (.d (.int .i64 0)))))⟩])
  (.block 0
   (.loop
    (.seq (.reg 0 [⟨(some 12), 0, none, (.op (.bin .lss (.t 11) (.t 10)))⟩])
    (.seq (.cond (.t 12)
      (.skip)
      (.exit 0))
    (.seq (.block 1
     (.seq (.reg 0 [⟨(some 13), 0, none, (.op (.mov (.t 11)))⟩,
       ⟨(some 14), 0, none, (.op (.idxA 1 none (.t 9) (.t 11)))⟩,
       ⟨(some 15), 0, none, (.op (.load false 1 (.t 14)))⟩,
       ⟨(some 4), 0, none, (.op (.mov (.t 13)))⟩,
       ⟨(some 5), 0, none, (.op (.mov (.t 15)))⟩])
     (.seq (.reg 1 [⟨(some 16), 0, none, (.op (.mov (.t 3)))⟩,
       ⟨(some 17), 0, none, (.op (.mov (.t 4)))⟩,
       ⟨(some 18), 0, none, (.op (.mov (.t 5)))⟩,
       ⟨(some 19), 0, none, (.op (.len false (.t 18)))⟩,
       ⟨(some 20), 0, none, (.op (.mksl 1 8 [(.int .i64 0)] (.t 19) (.t 19)))⟩,
       ⟨(some 21), 1, none, (.op (.idxA 1 none (.t 16) (.t 17)))⟩,
       ⟨none, 1, none, (.op (.store 1 (.t 21) (.t 20)))⟩])
     (.reg 0 [⟨(some 22), 0, none, (.op (.mov (.t 3)))⟩,
       ⟨(some 23), 0, none, (.op (.mov (.t 4)))⟩,
       ⟨(some 24), 0, none, (.op (.idxA 1 none (.t 22) (.t 23)))⟩,
       ⟨(some 25), 0, none, (.op (.load false 1 (.t 24)))⟩,
       ⟨(some 26), 0, none, (.op (.mov (.t 5)))⟩,
       ⟨(some 27), 0, none, (.op (.copy 1 (.t 25) (.t 26)))⟩]))))
    (.reg 0 [⟨(some 28), 0, none, (.op (.bin .add (.t 11) (.k (.d (.int .i64 1)))))⟩,
      ⟨(some 11), 0, none, (.op (.mov (.t 28)))⟩])))))))
  (.seq (.reg 0 [⟨(some 29), 0, none, (.op (.mov (.t 3)))⟩,
    ⟨(some 2), 0, none, (.op (.mov (.t 29)))⟩])
  (.ret))))
theorem cc43 : Tryd.f43.body.bind (compC Tryd.prog) = some ac43 := by kernel_rfl
theorem go43 {vals : List V} {v : V} (ac : AC) (he : ac.erase = ac43) (hw : wpC Tryd.prog 0 ac (retQ [.tmp 2] v) ⟨vals ++ List.replicate (30 - vals.length) (.tup []), []⟩) : CallP Tryd.prog 43 vals v :=
  call_of Tryd.func43 rfl rfl rfl (cc43.trans (congrArg some he.symm)) hw
/-- slices.ContainsFunc[[]testbench/api.Channel,testbench/api.Channel] -/
def ac44 : AC :=
  .seq (.reg 0 [⟨(some 4), 0, none, (.op (.mov (.k (.d (.bool false)))))⟩])
  (.seq (.reg 0 [⟨(some 5), 0, none, (.op (.mov (.t 0)))⟩,
    ⟨(some 6), 0, none, (.op (.mov (.t 1)))⟩,
    ⟨(some 7), 0, none, (.call (.k (.fn (.func 65) [] [])) [(.t 5), (.t 6)])⟩,
    ⟨(some 8), 0, none, (.op (.bin .geq (.t 7) (.k (.d (.int .i64 0)))))⟩,
    ⟨(some 4), 0, none, (.op (.mov (.t 8)))⟩])
  (.ret))
theorem cc44 : Tryd.f44.body.bind (compC Tryd.prog) = some ac44 := by kernel_rfl
theorem go44 {vals : List V} {v : V} (ac : AC) (he : ac.erase = ac44) (hw : wpC Tryd.prog 0 ac (retQ [.tmp 4] v) ⟨vals ++ List.replicate (9 - vals.length) (.tup []), []⟩) : CallP Tryd.prog 44 vals v :=
  call_of Tryd.func44 rfl rfl rfl (cc44.trans (congrArg some he.symm)) hw
/-- testbench/monitor.open$1 -/
def ac45 : AC :=
  .seq (.reg 1 [⟨(some 1), 0, none, (.op (.box 3 (.t 0)))⟩,
    ⟨(some 2), 1, none, (.op (.mov (.k (.d (.bool false)))))⟩])
  (.seq (.reg 0 [⟨(some 3), 0, none, (.op (.load true 3 (.t 1)))⟩,
    ⟨(some 4), 0, none, (.call (.k (.fn (.func 15) [] [])) [(.t 3)])⟩,
    ⟨(some 5), 0, none, (.op (.un .not (.t 4)))⟩,
    ⟨(some 2), 0, none, (.op (.mov (.t 5)))⟩])
  (.ret))
theorem cc45 : Tryd.f45.body.bind (compC Tryd.prog) = some ac45 := by kernel_rfl
theorem go45 {vals : List V} {v : V} (ac : AC) (he : ac.erase = ac45) (hw : wpC Tryd.prog 0 ac (retQ [.tmp 2] v) ⟨vals ++ List.replicate (6 - vals.length) (.tup []), []⟩) : CallP Tryd.prog 45 vals v :=
  call_of Tryd.func45 rfl rfl rfl (cc45.trans (congrArg some he.symm)) hw
/-- testbench/monitor.look -/
def ac46 : AC :=
  .seq (.reg 3 [⟨(some 2), 0, none, (.op (.box 2 (.t 0)))⟩,
    ⟨(some 3), 1, none, (.op (.box 3 (.t 1)))⟩,
    ⟨(some 4), 2, none, (.op (.alloc [(.str []), (.str []), .nils, .nils, (.int .i64 0), (.int .i64 0), .nils]))⟩,
    ⟨(some 5), 3, none, (.op (.mov (.k (.d (.int .i64 0)))))⟩])
  (.seq (.reg 0 [⟨(some 6), 0, none, (.op (.mov (.k (.d .nils))))⟩])
  (.seq (.seq (.reg 0 [⟨(some 10), 0, none, (.op (.load true 3 (.t 3)))⟩,
    ⟨(some 11), 0, none, (.call (.k (.fn (.func 33) [] [])) [(.t 10)])⟩,
    ⟨(some 12), 0, none, (.op (.len false (.t 11)))⟩,
    ⟨(some 13), 0, none, (.op (.mov (.k (.d (.int .i64 0)))))⟩])
  (.block 0
   (.loop
    (.seq (.reg 0 [⟨(some 14), 0, none, (.op (.bin .lss (.t 13) (.t 12)))⟩])
    (.seq (.cond (.t 14)
      (.skip)
      (.exit 0))
    (.seq (.block 1
     (.seq (.reg 0 [⟨(some 15), 0, none, (.op (.idxA 1 none (.t 11) (.t 13)))⟩,
       ⟨(some 16), 0, none, (.op (.load false 1 (.t 15)))⟩,
       ⟨(some 8), 0, none, (.op (.mov (.t 16)))⟩])
     (.seq (.reg 0 [⟨(some 17), 0, none, (.op (.fldA 0 (.t 2)))⟩,
       ⟨(some 18), 0, none, (.op (.load false 1 (.t 17)))⟩,
       ⟨(some 19), 0, none, (.op (.mov (.t 8)))⟩,
       ⟨(some 20), 0, none, (.call (.k (.fn (.func 55) [] [])) [(.t 18), (.t 19)])⟩,
       ⟨(some 9), 0, none, (.op (.mov (.t 20)))⟩])
     (.seq (.seq (.reg 0 [⟨(some 21), 0, none, (.op (.mov (.t 9)))⟩,
       ⟨(some 22), 0, none, (.op (.bin .lss (.t 21) (.k (.d (.int .i64 0)))))⟩])
     (.cond (.t 22)
       (.seq (.reg 0 [⟨(some 23), 0, none, (.op (.build [(.str []), (.str []), .nils, .nils, (.int .i64 0), (.int .i64 0), .nils] []))⟩,
         ⟨none, 0, none, (.op (.store 7 (.t 4) (.t 23)))⟩,
         ⟨(some 5), 0, none, (.op (.mov (.k (.d (.int .i64 7)))))⟩])
       (.ret))
       (.skip)))
     (.reg 2 [⟨(some 24), 0, none, (.op (.mov (.t 6)))⟩,
       ⟨(some 25), 0, none, (.op (.mov (.t 9)))⟩,
       ⟨(some 26), 0, none, (.op (.buildSl 1 1 [(.int .i64 0)] [(0, (.t 25))]))⟩,
       ⟨(some 27), 1, none, (.op (.append 1 8 (.t 24) (.t 26)))⟩,
       ⟨(some 6), 2, none, (.op (.mov (.t 27)))⟩])))))
    (.reg 0 [⟨(some 28), 0, none, (.op (.bin .add (.t 13) (.k (.d (.int .i64 1)))))⟩,
      ⟨(some 13), 0, none, (.op (.mov (.t 28)))⟩])))))))
  (.seq (.regD 0 [(⟨(some 29), 0, none, (.op (.load true 3 (.t 3)))⟩, []),
    (⟨(some 30), 0, none, (.op (.fldA 1 (.t 2)))⟩, []),
    (⟨(some 31), 0, none, (.op (.load false 1 (.t 30)))⟩, [1]),
    (⟨(some 32), 0, none, (.op (.mov (.t 6)))⟩, []),
    (⟨(some 33), 0, none, (.op (.idxA 1 none (.t 32) (.k (.d (.int .i64 0)))))⟩, [3]),
    (⟨(some 34), 0, none, (.op (.load false 1 (.t 33)))⟩, [4, 3]),
    (⟨(some 35), 0, none, (.op (.mov (.t 6)))⟩, []),
    (⟨(some 36), 0, none, (.op (.idxA 1 none (.t 35) (.k (.d (.int .i64 1)))))⟩, [6]),
    (⟨(some 37), 0, none, (.op (.load false 1 (.t 36)))⟩, [7, 6]),
    (⟨(some 38), 0, none, (.op (.mov (.t 6)))⟩, []),
    (⟨(some 39), 0, none, (.op (.slice 1 (.t 38) (some (.k (.d (.int .i64 2)))) none))⟩, [9]),
    (⟨(some 40), 0, none, (.op (.build [(.str []), (.str []), .nils, .nils, (.int .i64 0), (.int .i64 0), .nils] [(0, 3, (.t 29)), (3, 1, (.t 31)), (4, 1, (.t 34)), (5, 1, (.t 37)), (6, 1, (.t 39))]))⟩, [0, 2, 1, 5, 4, 3, 8, 7, 6, 10, 9]),
    (⟨none, 0, none, (.op (.store 7 (.t 4) (.t 40)))⟩, [11, 0, 2, 1, 5, 4, 3, 8, 7, 6, 10, 9]),
    (⟨(some 5), 0, none, (.op (.mov (.k (.d (.int .i64 0)))))⟩, [12, 11, 0, 2, 1, 5, 4, 3, 8, 7, 6, 10, 9])])
  (.ret))))
theorem cc46 : Tryd.f46.body.bind (compC Tryd.prog) = some ac46 := by kernel_rfl
theorem go46 {vals : List V} {v : V} (ac : AC) (he : ac.erase = ac46) (hw : wpC Tryd.prog 0 ac (retQ [.cell 4 true 7, .tmp 5] v) ⟨vals ++ List.replicate (41 - vals.length) (.tup []), []⟩) : CallP Tryd.prog 46 vals v :=
  call_of Tryd.func46 rfl rfl rfl (cc46.trans (congrArg some he.symm)) hw
/-- (testbench/monitor.view).transfers$1 -/
def ac47 : AC :=
  .seq (.reg 0 [⟨(some 4), 0, none, (.op (.fldA 3 (.t 1)))⟩,
    ⟨(some 5), 0, none, (.op (.load false 1 (.t 4)))⟩,
    ⟨(some 6), 0, none, (.op (.len false (.t 5)))⟩,
    ⟨(some 7), 0, none, (.op (.mov (.k (.d (.int .i64 0)))))⟩])
  (.block 0
   (.loop
    (.seq (.reg 0 [⟨(some 8), 0, none, (.op (.bin .lss (.t 7) (.t 6)))⟩])
    (.seq (.cond (.t 8)
      (.skip)
      (.exit 0))
    (.seq (.block 1
     (.seq (.reg 0 [⟨(some 9), 0, none, (.op (.mov (.t 7)))⟩,
       ⟨(some 3), 0, none, (.op (.mov (.t 9)))⟩])
     (.seq (.seq (.reg 0 [⟨(some 10), 0, none, (.op (.load true 7 (.t 1)))⟩,
       ⟨(some 11), 0, none, (.op (.mov (.t 3)))⟩,
       ⟨(some 12), 0, none, (.call (.k (.fn (.func 48) [] [])) [(.t 10), (.t 11)])⟩,
       ⟨(some 13), 0, none, (.op (.un .not (.t 12)))⟩,
       ⟨(some 14), 0, none, (.op (.mov (.t 13)))⟩,
       ⟨(some 15), 0, (some (14, false)), (.op (.load true 7 (.t 1)))⟩,
       ⟨(some 16), 0, (some (14, false)), (.op (.mov (.t 3)))⟩,
       ⟨(some 17), 0, (some (14, false)), (.call (.k (.fn (.func 49) [] [])) [(.t 15), (.t 16)])⟩,
       ⟨(some 18), 0, (some (14, false)), (.op (.un .not (.t 17)))⟩,
       ⟨(some 19), 0, none, (.op (.pick (.t 14) (.k (.d (.bool true))) (.t 18)))⟩])
     (.cond (.t 19)
       (.exit 1)
       (.skip)))
     (.seq (.regD 0 [(⟨(some 20), 0, none, (.op (.mov (.t 0)))⟩, []),
       (⟨(some 21), 0, none, (.op (.mov (.t 3)))⟩, []),
       (⟨(some 22), 0, none, (.op (.fldA 0 (.t 1)))⟩, []),
       (⟨(some 23), 0, none, (.op (.fldA 2 (.t 22)))⟩, [2]),
       (⟨(some 24), 0, none, (.op (.load false 1 (.t 23)))⟩, [3, 2]),
       (⟨(some 25), 0, none, (.call (.k (.fn (.func 42) [] [])) [(.t 24)])⟩, [4, 3, 2]),
       (⟨(some 26), 0, none, (.op (.load true 7 (.t 1)))⟩, []),
       (⟨(some 27), 0, none, (.op (.mov (.t 3)))⟩, []),
       (⟨(some 28), 0, none, (.call (.k (.fn (.func 50) [] [])) [(.t 26), (.t 27)])⟩, [6, 7, 5, 4, 3, 2]),
       (⟨(some 29), 0, none, (.op (.build [.nils, .nils] [(0, 1, (.t 25)), (1, 1, (.t 28))]))⟩, [5, 4, 3, 2, 8, 6, 7]),
       (⟨(some 30), 0, none, (.call (.t 20) [(.t 21), (.t 29)])⟩, [0, 1, 9, 5, 4, 3, 2, 8, 6, 7]),
       (⟨(some 31), 0, none, (.op (.un .not (.t 30)))⟩, [10, 0, 1, 9, 5, 4, 3, 2, 8, 6, 7])])
     (.cond (.t 31)
       (.ret)
       (.skip))))))
    (.reg 0 [⟨(some 32), 0, none, (.op (.bin .add (.t 7) (.k (.d (.int .i64 1)))))⟩,
      ⟨(some 7), 0, none, (.op (.mov (.t 32)))⟩]))))))
theorem cc47 : Tryd.f47.body.bind (compC Tryd.prog) = some ac47 := by kernel_rfl
theorem go47 {vals : List V} {v : V} (ac : AC) (he : ac.erase = ac47) (hw : wpC Tryd.prog 0 ac (retQ [] v) ⟨vals ++ List.replicate (33 - vals.length) (.tup []), []⟩) : CallP Tryd.prog 47 vals v :=
  call_of Tryd.func47 rfl rfl rfl (cc47.trans (congrArg some he.symm)) hw
theorem gi47 [CtxPred] {vals : List V} {rows : Go.Vx.Rows} {K : V → Go.Vx.Rows → Prop} (ac : AC) (he : ac.erase = ac47) (hw : wpC Tryd.prog rows.length ac (retI [] K) ⟨vals ++ List.replicate (33 - vals.length) (.tup []), rows⟩) : InlP Tryd.prog 47 vals rows K :=
  inl_of' Tryd.func47 rfl rfl rfl (cc47.trans (congrArg some he.symm)) hw
/-- (testbench/monitor.view).offers -/
def ac48 : AC :=
  .seq (.reg 1 [⟨(some 2), 0, none, (.op (.box 7 (.t 0)))⟩,
    ⟨(some 4), 1, none, (.op (.mov (.k (.d (.bool false)))))⟩])
  (.seq (.regD 0 [(⟨(some 5), 0, none, (.op (.fldA 3 (.t 2)))⟩, []),
    (⟨(some 6), 0, none, (.op (.load false 1 (.t 5)))⟩, [0]),
    (⟨(some 7), 0, none, (.op (.mov (.t 1)))⟩, []),
    (⟨(some 8), 0, none, (.op (.idxA 1 none (.t 6) (.t 7)))⟩, [1, 0, 2]),
    (⟨(some 9), 0, none, (.op (.load false 1 (.t 8)))⟩, [3, 1, 0, 2]),
    (⟨(some 10), 0, none, (.op (.fldA 4 (.t 2)))⟩, []),
    (⟨(some 11), 0, none, (.op (.load false 1 (.t 10)))⟩, [5]),
    (⟨(some 12), 0, none, (.op (.idxA 1 none (.t 9) (.t 11)))⟩, [4, 3, 1, 0, 2, 6, 5]),
    (⟨(some 13), 0, none, (.op (.load false 1 (.t 12)))⟩, [7, 4, 3, 1, 0, 2, 6, 5]),
    (⟨(some 14), 0, none, (.op (.bin .neq (.t 13) (.k (.d (.int .i64 0)))))⟩, [8, 7, 4, 3, 1, 0, 2, 6, 5]),
    (⟨(some 4), 0, none, (.op (.mov (.t 14)))⟩, [9, 8, 7, 4, 3, 1, 0, 2, 6, 5])])
  (.ret))
theorem cc48 : Tryd.f48.body.bind (compC Tryd.prog) = some ac48 := by kernel_rfl
theorem go48 {vals : List V} {v : V} (ac : AC) (he : ac.erase = ac48) (hw : wpC Tryd.prog 0 ac (retQ [.tmp 4] v) ⟨vals ++ List.replicate (15 - vals.length) (.tup []), []⟩) : CallP Tryd.prog 48 vals v :=
  call_of Tryd.func48 rfl rfl rfl (cc48.trans (congrArg some he.symm)) hw
/-- (testbench/monitor.view).accepts -/
def ac49 : AC :=
  .seq (.reg 1 [⟨(some 2), 0, none, (.op (.box 7 (.t 0)))⟩,
    ⟨(some 4), 1, none, (.op (.mov (.k (.d (.bool false)))))⟩])
  (.seq (.regD 0 [(⟨(some 5), 0, none, (.op (.fldA 3 (.t 2)))⟩, []),
    (⟨(some 6), 0, none, (.op (.load false 1 (.t 5)))⟩, [0]),
    (⟨(some 7), 0, none, (.op (.mov (.t 1)))⟩, []),
    (⟨(some 8), 0, none, (.op (.idxA 1 none (.t 6) (.t 7)))⟩, [1, 0, 2]),
    (⟨(some 9), 0, none, (.op (.load false 1 (.t 8)))⟩, [3, 1, 0, 2]),
    (⟨(some 10), 0, none, (.op (.fldA 5 (.t 2)))⟩, []),
    (⟨(some 11), 0, none, (.op (.load false 1 (.t 10)))⟩, [5]),
    (⟨(some 12), 0, none, (.op (.idxA 1 none (.t 9) (.t 11)))⟩, [4, 3, 1, 0, 2, 6, 5]),
    (⟨(some 13), 0, none, (.op (.load false 1 (.t 12)))⟩, [7, 4, 3, 1, 0, 2, 6, 5]),
    (⟨(some 14), 0, none, (.op (.bin .neq (.t 13) (.k (.d (.int .i64 0)))))⟩, [8, 7, 4, 3, 1, 0, 2, 6, 5]),
    (⟨(some 4), 0, none, (.op (.mov (.t 14)))⟩, [9, 8, 7, 4, 3, 1, 0, 2, 6, 5])])
  (.ret))
theorem cc49 : Tryd.f49.body.bind (compC Tryd.prog) = some ac49 := by kernel_rfl
theorem go49 {vals : List V} {v : V} (ac : AC) (he : ac.erase = ac49) (hw : wpC Tryd.prog 0 ac (retQ [.tmp 4] v) ⟨vals ++ List.replicate (15 - vals.length) (.tup []), []⟩) : CallP Tryd.prog 49 vals v :=
  call_of Tryd.func49 rfl rfl rfl (cc49.trans (congrArg some he.symm)) hw
/-- (testbench/monitor.view).values -/
def ac50 : AC :=
  .seq (.reg 1 [⟨(some 2), 0, none, (.op (.box 7 (.t 0)))⟩,
    ⟨(some 4), 1, none, (.op (.mov (.k (.d .nils))))⟩])
  (.seq (.reg 0 [⟨(some 5), 0, none, (.op (.mov (.k (.d .nils))))⟩])
  (.seq (.seq (.reg 0 [⟨(some 8), 0, none, (.op (.fldA 6 (.t 2)))⟩,
    ⟨(some 9), 0, none, (.op (.load false 1 (.t 8)))⟩,
    ⟨(some 10), 0, none, (.op (.len false (.t 9)))⟩,
    ⟨(some 11), 0, none, (.op (.mov (.k (.d (.int .i64 0)))))⟩])
  (.block 0
   (.loop
    (.seq (.reg 0 [⟨(some 12), 0, none, (.op (.bin .lss (.t 11) (.t 10)))⟩])
    (.seq (.cond (.t 12)
      (.skip)
      (.exit 0))
    (.seq (.block 1
     (.seq (.reg 0 [⟨(some 13), 0, none, (.op (.idxA 1 none (.t 9) (.t 11)))⟩,
       ⟨(some 14), 0, none, (.op (.load false 1 (.t 13)))⟩,
       ⟨(some 7), 0, none, (.op (.mov (.t 14)))⟩])
     (.reg 2 [⟨(some 15), 0, none, (.op (.mov (.t 5)))⟩,
       ⟨(some 16), 0, none, (.op (.fldA 3 (.t 2)))⟩,
       ⟨(some 17), 0, none, (.op (.load false 1 (.t 16)))⟩,
       ⟨(some 18), 0, none, (.op (.mov (.t 1)))⟩,
       ⟨(some 19), 0, none, (.op (.idxA 1 none (.t 17) (.t 18)))⟩,
       ⟨(some 20), 0, none, (.op (.load false 1 (.t 19)))⟩,
       ⟨(some 21), 0, none, (.op (.mov (.t 7)))⟩,
       ⟨(some 22), 0, none, (.op (.idxA 1 none (.t 20) (.t 21)))⟩,
       ⟨(some 23), 0, none, (.op (.load false 1 (.t 22)))⟩,
       ⟨(some 24), 0, none, (.op (.buildSl 1 1 [(.int .i64 0)] [(0, (.t 23))]))⟩,
       ⟨(some 25), 1, none, (.op (.append 1 8 (.t 15) (.t 24)))⟩,
       ⟨(some 5), 2, none, (.op (.mov (.t 25)))⟩])))
    (.reg 0 [⟨(some 26), 0, none, (.op (.bin .add (.t 11) (.k (.d (.int .i64 1)))))⟩,
      ⟨(some 11), 0, none, (.op (.mov (.t 26)))⟩])))))))
  (.seq (.reg 0 [⟨(some 27), 0, none, (.op (.mov (.t 5)))⟩,
    ⟨(some 4), 0, none, (.op (.mov (.t 27)))⟩])
  (.ret))))
theorem cc50 : Tryd.f50.body.bind (compC Tryd.prog) = some ac50 := by kernel_rfl
theorem go50 {vals : List V} {v : V} (ac : AC) (he : ac.erase = ac50) (hw : wpC Tryd.prog 0 ac (retQ [.tmp 4] v) ⟨vals ++ List.replicate (28 - vals.length) (.tup []), []⟩) : CallP Tryd.prog 50 vals v :=
  call_of Tryd.func50 rfl rfl rfl (cc50.trans (congrArg some he.symm)) hw
/-- testbench/testbenchref35.Valid -/
def ac51 : AC :=
  .seq (.reg 1 [⟨(some 1), 0, none, (.op (.box 2 (.t 0)))⟩,
    ⟨(some 2), 1, none, (.op (.mov (.k (.d (.bool false)))))⟩])
  (.seq (.seq (.reg 0 [⟨(some 4), 0, none, (.op (.fldA 0 (.t 1)))⟩,
    ⟨(some 5), 0, none, (.op (.load false 1 (.t 4)))⟩,
    ⟨(some 6), 0, none, (.op (.len false (.t 5)))⟩,
    ⟨(some 7), 0, none, (.op (.bin .gtr (.t 6) (.k (.d (.int .i64 48)))))⟩,
    ⟨(some 8), 0, none, (.op (.mov (.t 7)))⟩,
    ⟨(some 9), 0, (some (8, false)), (.op (.fldA 1 (.t 1)))⟩,
    ⟨(some 10), 0, (some (8, false)), (.op (.load false 1 (.t 9)))⟩,
    ⟨(some 11), 0, (some (8, false)), (.op (.len false (.t 10)))⟩,
    ⟨(some 12), 0, (some (8, false)), (.op (.bin .gtr (.t 11) (.k (.d (.int .i64 4096)))))⟩,
    ⟨(some 13), 0, none, (.op (.pick (.t 8) (.k (.d (.bool true))) (.t 12)))⟩,
    ⟨(some 14), 0, none, (.op (.mov (.t 13)))⟩,
    ⟨(some 15), 0, (some (14, false)), (.op (.fldA 0 (.t 1)))⟩,
    ⟨(some 16), 0, (some (14, false)), (.op (.load false 1 (.t 15)))⟩,
    ⟨(some 17), 0, (some (14, false)), (.call (.k (.fn (.func 66) [] [])) [(.t 16)])⟩,
    ⟨(some 18), 0, (some (14, false)), (.op (.un .not (.t 17)))⟩,
    ⟨(some 19), 0, none, (.op (.pick (.t 14) (.k (.d (.bool true))) (.t 18)))⟩])
  (.cond (.t 19)
    (.seq (.reg 0 [⟨(some 2), 0, none, (.op (.mov (.k (.d (.bool false)))))⟩])
    (.ret))
    (.skip)))
  (.seq (.seq (.reg 0 [⟨(some 3), 0, none, (.op (.mov (.k (.d (.int .i64 0)))))⟩])
  (.block 0
   (.loop
    (.seq (.seq (.reg 0 [⟨(some 20), 0, none, (.op (.mov (.t 3)))⟩,
      ⟨(some 21), 0, none, (.op (.fldA 1 (.t 1)))⟩,
      ⟨(some 22), 0, none, (.op (.load false 1 (.t 21)))⟩,
      ⟨(some 23), 0, none, (.op (.len false (.t 22)))⟩,
      ⟨(some 24), 0, none, (.op (.bin .lss (.t 20) (.t 23)))⟩])
    (.cond (.t 24)
      (.skip)
      (.exit 0)))
    (.seq (.block 1
     (.seq (.regD 0 [(⟨(some 27), 0, none, (.op (.fldA 1 (.t 1)))⟩, []),
       (⟨(some 28), 0, none, (.op (.load false 1 (.t 27)))⟩, [0]),
       (⟨(some 29), 0, none, (.op (.mov (.t 3)))⟩, []),
       (⟨(some 30), 0, none, (.op (.idxA 1 none (.t 28) (.t 29)))⟩, [1, 0, 2]),
       (⟨(some 31), 0, none, (.op (.load false 1 (.t 30)))⟩, [3, 1, 0, 2]),
       (⟨(some 32), 0, none, (.op (.len false (.t 31)))⟩, [4, 3, 1, 0, 2]),
       (⟨(some 33), 0, none, (.op (.fldA 0 (.t 1)))⟩, []),
       (⟨(some 34), 0, none, (.op (.load false 1 (.t 33)))⟩, [6]),
       (⟨(some 35), 0, none, (.op (.len false (.t 34)))⟩, [7, 6]),
       (⟨(some 36), 0, none, (.op (.bin .neq (.t 32) (.t 35)))⟩, [5, 4, 3, 1, 0, 2, 8, 7, 6]),
       (⟨(some 37), 0, none, (.op (.mov (.t 36)))⟩, [9, 5, 4, 3, 1, 0, 2, 8, 7, 6]),
       (⟨(some 38), 0, (some (37, false)), (.op (.fldA 1 (.t 1)))⟩, [10, 9, 5, 4, 3, 1, 0, 2, 8, 7, 6]),
       (⟨(some 39), 0, (some (37, false)), (.op (.load false 1 (.t 38)))⟩, [11, 10, 9, 5, 4, 3, 1, 0, 2, 8, 7, 6]),
       (⟨(some 40), 0, (some (37, false)), (.op (.mov (.t 3)))⟩, [10, 9, 5, 4, 3, 1, 0, 2, 8, 7, 6]),
       (⟨(some 41), 0, (some (37, false)), (.op (.idxA 1 none (.t 39) (.t 40)))⟩, [12, 11, 10, 9, 5, 4, 3, 1, 0, 2, 8, 7, 6, 13]),
       (⟨(some 42), 0, (some (37, false)), (.op (.load false 1 (.t 41)))⟩, [14, 12, 11, 10, 9, 5, 4, 3, 1, 0, 2, 8, 7, 6, 13]),
       (⟨(some 43), 0, (some (37, false)), (.call (.k (.fn (.func 67) [] [])) [(.t 42)])⟩, [15, 14, 12, 11, 10, 9, 5, 4, 3, 1, 0, 2, 8, 7, 6, 13]),
       (⟨(some 44), 0, (some (37, false)), (.op (.un .not (.t 43)))⟩, [16, 15, 14, 12, 11, 10, 9, 5, 4, 3, 1, 0, 2, 8, 7, 6, 13]),
       (⟨(some 45), 0, none, (.op (.pick (.t 37) (.k (.d (.bool true))) (.t 44)))⟩, [10, 9, 5, 4, 3, 1, 0, 2, 8, 7, 6, 17, 16, 15, 14, 12, 11, 13])])
     (.cond (.t 45)
       (.seq (.reg 0 [⟨(some 2), 0, none, (.op (.mov (.k (.d (.bool false)))))⟩])
       (.ret))
       (.skip))))
    (.reg 0 [⟨(some 25), 0, none, (.op (.mov (.t 3)))⟩,
      ⟨(some 26), 0, none, (.op (.bin .add (.t 25) (.k (.d (.int .i64 1)))))⟩,
      ⟨(some 3), 0, none, (.op (.mov (.t 26)))⟩]))))))
  (.seq (.reg 0 [⟨(some 2), 0, none, (.op (.mov (.k (.d (.bool true)))))⟩])
  (.ret))))
theorem cc51 : Tryd.f51.body.bind (compC Tryd.prog) = some ac51 := by kernel_rfl
theorem go51 {vals : List V} {v : V} (ac : AC) (he : ac.erase = ac51) (hw : wpC Tryd.prog 0 ac (retQ [.tmp 2] v) ⟨vals ++ List.replicate (46 - vals.length) (.tup []), []⟩) : CallP Tryd.prog 51 vals v :=
  call_of Tryd.func51 rfl rfl rfl (cc51.trans (congrArg some he.symm)) hw
/-- testbench/testbenchref37.known -/
def ac52 : AC :=
  .seq (.reg 2 [⟨(some 2), 0, none, (.op (.box 2 (.t 0)))⟩,
    ⟨(some 3), 1, none, (.op (.box 3 (.t 1)))⟩,
    ⟨(some 4), 2, none, (.op (.mov (.k (.d (.bool false)))))⟩])
  (.seq (.reg 0 [⟨(some 9), 0, none, (.op (.load true 3 (.t 3)))⟩,
    ⟨(some 10), 0, none, (.call (.k (.fn (.func 36) [] [])) [(.t 9)])⟩,
    ⟨(some 5), 0, none, (.op (.mov (.t 10)))⟩])
  (.seq (.seq (.reg 0 [⟨(some 6), 0, none, (.op (.mov (.k (.d (.int .i64 0)))))⟩])
  (.block 0
   (.loop
    (.seq (.seq (.reg 0 [⟨(some 11), 0, none, (.op (.mov (.t 6)))⟩,
      ⟨(some 12), 0, none, (.op (.mov (.t 5)))⟩,
      ⟨(some 13), 0, none, (.op (.len false (.t 12)))⟩,
      ⟨(some 14), 0, none, (.op (.bin .lss (.t 11) (.t 13)))⟩])
    (.cond (.t 14)
      (.skip)
      (.exit 0)))
    (.seq (.block 1
     (.seq (.reg 0 [⟨(some 7), 0, none, (.op (.mov (.k (.d (.bool false)))))⟩])
     (.seq (.seq (.reg 0 [⟨(some 8), 0, none, (.op (.mov (.k (.d (.int .i64 0)))))⟩])
     (.block 2
      (.loop
       (.seq (.seq (.reg 0 [⟨(some 17), 0, none, (.op (.mov (.t 8)))⟩,
         ⟨(some 18), 0, none, (.op (.fldA 0 (.t 2)))⟩,
         ⟨(some 19), 0, none, (.op (.load false 1 (.t 18)))⟩,
         ⟨(some 20), 0, none, (.op (.len false (.t 19)))⟩,
         ⟨(some 21), 0, none, (.op (.bin .lss (.t 17) (.t 20)))⟩])
       (.cond (.t 21)
         (.skip)
         (.exit 2)))
       (.seq (.block 3
        (.regD 0 [(⟨(some 24), 0, none, (.op (.mov (.t 7)))⟩, []),
          (⟨(some 25), 0, none, (.op (.mov (.t 24)))⟩, [0]),
          (⟨(some 26), 0, (some (25, false)), (.op (.fldA 0 (.t 2)))⟩, [1, 0]),
          (⟨(some 27), 0, (some (25, false)), (.op (.load false 1 (.t 26)))⟩, [2, 1, 0]),
          (⟨(some 28), 0, (some (25, false)), (.op (.mov (.t 8)))⟩, [1, 0]),
          (⟨(some 29), 0, (some (25, false)), (.op (.idxA 1 none (.t 27) (.t 28)))⟩, [3, 2, 1, 0, 4]),
          (⟨(some 30), 0, (some (25, false)), (.op (.load false 1 (.t 29)))⟩, [5, 3, 2, 1, 0, 4]),
          (⟨(some 31), 0, (some (25, false)), (.op (.mov (.t 5)))⟩, [1, 0]),
          (⟨(some 32), 0, (some (25, false)), (.op (.mov (.t 6)))⟩, [1, 0]),
          (⟨(some 33), 0, (some (25, false)), (.op (.idxA 1 none (.t 31) (.t 32)))⟩, [7, 1, 0, 8]),
          (⟨(some 34), 0, (some (25, false)), (.op (.load false 1 (.t 33)))⟩, [9, 7, 1, 0, 8]),
          (⟨(some 35), 0, (some (25, false)), (.op (.bin .eql (.t 30) (.t 34)))⟩, [6, 5, 3, 2, 1, 0, 4, 10, 9, 7, 8]),
          (⟨(some 36), 0, none, (.op (.pick (.t 25) (.k (.d (.bool true))) (.t 35)))⟩, [1, 0, 11, 6, 5, 3, 2, 4, 10, 9, 7, 8]),
          (⟨(some 7), 0, none, (.op (.mov (.t 36)))⟩, [12, 1, 0, 11, 6, 5, 3, 2, 4, 10, 9, 7, 8])]))
       (.reg 0 [⟨(some 22), 0, none, (.op (.mov (.t 8)))⟩,
         ⟨(some 23), 0, none, (.op (.bin .add (.t 22) (.k (.d (.int .i64 1)))))⟩,
         ⟨(some 8), 0, none, (.op (.mov (.t 23)))⟩]))))))
     (.seq (.reg 0 [⟨(some 37), 0, none, (.op (.mov (.t 7)))⟩,
       ⟨(some 38), 0, none, (.op (.un .not (.t 37)))⟩])
     (.cond (.t 38)
       (.seq (.reg 0 [⟨(some 4), 0, none, (.op (.mov (.k (.d (.bool false)))))⟩])
       (.ret))
       (.skip))))))
    (.reg 0 [⟨(some 15), 0, none, (.op (.mov (.t 6)))⟩,
      ⟨(some 16), 0, none, (.op (.bin .add (.t 15) (.k (.d (.int .i64 1)))))⟩,
      ⟨(some 6), 0, none, (.op (.mov (.t 16)))⟩]))))))
  (.seq (.reg 0 [⟨(some 4), 0, none, (.op (.mov (.k (.d (.bool true)))))⟩])
  (.ret))))
theorem cc52 : Tryd.f52.body.bind (compC Tryd.prog) = some ac52 := by kernel_rfl
theorem go52 {vals : List V} {v : V} (ac : AC) (he : ac.erase = ac52) (hw : wpC Tryd.prog 0 ac (retQ [.tmp 4] v) ⟨vals ++ List.replicate (39 - vals.length) (.tup []), []⟩) : CallP Tryd.prog 52 vals v :=
  call_of Tryd.func52 rfl rfl rfl (cc52.trans (congrArg some he.symm)) hw
/-- testbench/lexer.word -/
def ac53 : AC :=
  .seq (.reg 0 [⟨(some 2), 0, none, (.op (.mov (.k (.d (.bool false)))))⟩])
  (.seq (.seq (.reg 1 [⟨(some 5), 0, none, (.op (.mov (.t 0)))⟩,
    ⟨(some 6), 0, none, (.op (.rng (.t 5)))⟩])
  (.block 0
   (.loop
    (.seq (.reg 0 [⟨(some 7), 0, none, (.op (.nxt (.t 6)))⟩,
      ⟨(some 8), 0, none, (.op (.ext (.t 7) 0))⟩])
    (.seq (.cond (.t 8)
      (.skip)
      (.exit 0))
    (.block 1
     (.seq (.reg 0 [⟨(some 9), 0, none, (.op (.ext (.t 7) 1))⟩,
       ⟨(some 10), 0, none, (.op (.ext (.t 7) 2))⟩,
       ⟨(some 3), 0, none, (.op (.mov (.t 9)))⟩,
       ⟨(some 4), 0, none, (.op (.mov (.t 10)))⟩])
     (.seq (.reg 0 [⟨(some 11), 0, none, (.op (.mov (.t 3)))⟩,
       ⟨(some 12), 0, none, (.op (.bin .eql (.t 11) (.k (.d (.int .i64 0)))))⟩,
       ⟨(some 13), 0, none, (.op (.mov (.t 12)))⟩,
       ⟨(some 14), 0, (some (13, true)), (.op (.mov (.t 4)))⟩,
       ⟨(some 15), 0, (some (13, true)), (.call (.k (.fn (.func 68) [] [])) [(.t 14)])⟩,
       ⟨(some 16), 0, (some (13, true)), (.op (.un .not (.t 15)))⟩,
       ⟨(some 17), 0, none, (.op (.pick (.t 13) (.t 16) (.k (.d (.bool false)))))⟩,
       ⟨(some 18), 0, none, (.op (.mov (.t 17)))⟩,
       ⟨(some 19), 0, (some (18, false)), (.op (.mov (.t 4)))⟩,
       ⟨(some 20), 0, (some (18, false)), (.call (.k (.fn (.func 69) [] [])) [(.t 19)])⟩,
       ⟨(some 21), 0, (some (18, false)), (.op (.un .not (.t 20)))⟩,
       ⟨(some 22), 0, none, (.op (.pick (.t 18) (.k (.d (.bool true))) (.t 21)))⟩])
     (.cond (.t 22)
       (.seq (.reg 0 [⟨(some 2), 0, none, (.op (.mov (.k (.d (.bool false)))))⟩])
       (.ret))
       (.skip))))))))))
  (.seq (.reg 0 [⟨(some 23), 0, none, (.op (.mov (.t 0)))⟩,
    ⟨(some 24), 0, none, (.op (.bin .neq (.t 23) (.k (.d (.str [])))))⟩,
    ⟨(some 2), 0, none, (.op (.mov (.t 24)))⟩])
  (.ret)))
theorem cc53 : Tryd.f53.body.bind (compC Tryd.prog) = some ac53 := by kernel_rfl
theorem go53 {vals : List V} {v : V} (ac : AC) (he : ac.erase = ac53) (hw : wpC Tryd.prog 0 ac (retQ [.tmp 2] v) ⟨vals ++ List.replicate (25 - vals.length) (.tup []), []⟩) : CallP Tryd.prog 53 vals v :=
  call_of Tryd.func53 rfl rfl rfl (cc53.trans (congrArg some he.symm)) hw
/-- testbench/lexer.IsKeyword -/
def ac54 : AC :=
  .seq (.reg 0 [⟨(some 2), 0, none, (.op (.mov (.k (.d (.bool false)))))⟩])
  (.seq (.reg 0 [⟨(some 3), 0, none, (.op (.load false 1 (.k (.d (.ptr [kwD])))))⟩,
    ⟨(some 4), 0, none, (.op (.mov (.t 0)))⟩,
    ⟨(some 5), 0, none, (.call (.k (.fn (.func 35) [] [])) [(.t 3), (.t 4)])⟩,
    ⟨(some 2), 0, none, (.op (.mov (.t 5)))⟩])
  (.ret))
theorem cc54 : Tryd.f54.body.bind (compC Tryd.prog) = some ac54 := by kernel_rfl
theorem go54 {vals : List V} {v : V} (ac : AC) (he : ac.erase = ac54) (hw : wpC Tryd.prog 0 ac (retQ [.tmp 2] v) ⟨vals ++ List.replicate (6 - vals.length) (.tup []), []⟩) : CallP Tryd.prog 54 vals v :=
  call_of Tryd.func54 rfl rfl rfl (cc54.trans (congrArg some he.symm)) hw
/-- slices.Index[[]string,string] -/
def ac55 : AC :=
  .seq (.reg 0 [⟨(some 4), 0, none, (.op (.mov (.k (.d (.int .i64 0)))))⟩])
  (.seq (.seq (.reg 0 [⟨(some 6), 0, none, (.op (.mov (.t 0)))⟩,
    ⟨(some 7), 0, none, (.op (.len false (.t 6)))⟩,
    ⟨(some 8), 0, none, (.op (.mov (.k (.d (.int .i64 0)))))⟩])
  (.block 0
   (.loop
    (.seq (.reg 0 [⟨(some 9), 0, none, (.op (.bin .lss (.t 8) (.t 7)))⟩])
    (.seq (.cond (.t 9)
      (.skip)
      (.exit 0))
    (.seq (.block 1
     (.seq (.reg 0 [⟨(some 10), 0, none, (.op (.mov (.t 8)))⟩,
       ⟨(some 5), 0, none, (.op (.mov (.t 10)))⟩])
     (.seq (.reg 0 [⟨(some 11), 0, none, (.op (.mov (.t 1)))⟩,
       ⟨(some 12), 0, none, (.op (.mov (.t 0)))⟩,
       ⟨(some 13), 0, none, (.op (.mov (.t 5)))⟩,
       ⟨(some 14), 0, none, (.op (.idxA 1 none (.t 12) (.t 13)))⟩,
       ⟨(some 15), 0, none, (.op (.load false 1 (.t 14)))⟩,
       ⟨(some 16), 0, none, (.op (.bin .eql (.t 11) (.t 15)))⟩])
     (.cond (.t 16)
       (.seq (.reg 0 [⟨(some 17), 0, none, (.op (.mov (.t 5)))⟩,
         ⟨(some 4), 0, none, (.op (.mov (.t 17)))⟩])
       (.ret))
       (.skip)))))
    (.reg 0 [⟨(some 18), 0, none, (.op (.bin .add (.t 8) (.k (.d (.int .i64 1)))))⟩,
      ⟨(some 8), 0, none, (.op (.mov (.t 18)))⟩])))))))
  (.seq (.reg 0 [⟨(some 4), 0, none, (.op (.mov (.k (.d (.int .i64 (-1))))))⟩])
  (.ret)))
theorem cc55 : Tryd.f55.body.bind (compC Tryd.prog) = some ac55 := by kernel_rfl
theorem go55 {vals : List V} {v : V} (ac : AC) (he : ac.erase = ac55) (hw : wpC Tryd.prog 0 ac (retQ [.tmp 4] v) ⟨vals ++ List.replicate (19 - vals.length) (.tup []), []⟩) : CallP Tryd.prog 55 vals v :=
  call_of Tryd.func55 rfl rfl rfl (cc55.trans (congrArg some he.symm)) hw
/-- testbench/testbenchref07.small -/
def ac56 : AC :=
  .seq (.reg 0 [⟨(some 2), 0, none, (.op (.mov (.k (.d (.bool false)))))⟩])
  (.seq (.reg 0 [⟨(some 3), 0, none, (.op (.mov (.t 0)))⟩,
    ⟨(some 4), 0, none, (.op (.bin .geq (.t 3) (.k (.d (.int .u8 97)))))⟩,
    ⟨(some 5), 0, none, (.op (.mov (.t 4)))⟩,
    ⟨(some 6), 0, (some (5, true)), (.op (.mov (.t 0)))⟩,
    ⟨(some 7), 0, (some (5, true)), (.op (.bin .leq (.t 6) (.k (.d (.int .u8 122)))))⟩,
    ⟨(some 8), 0, none, (.op (.pick (.t 5) (.t 7) (.k (.d (.bool false)))))⟩,
    ⟨(some 2), 0, none, (.op (.mov (.t 8)))⟩])
  (.ret))
theorem cc56 : Tryd.f56.body.bind (compC Tryd.prog) = some ac56 := by kernel_rfl
theorem go56 {vals : List V} {v : V} (ac : AC) (he : ac.erase = ac56) (hw : wpC Tryd.prog 0 ac (retQ [.tmp 2] v) ⟨vals ++ List.replicate (9 - vals.length) (.tup []), []⟩) : CallP Tryd.prog 56 vals v :=
  call_of Tryd.func56 rfl rfl rfl (cc56.trans (congrArg some he.symm)) hw
/-- testbench/testbenchref07.IsKeyword -/
def ac57 : AC :=
  .seq (.reg 0 [⟨(some 2), 0, none, (.op (.mov (.k (.d (.bool false)))))⟩])
  (.seq (.reg 0 [⟨(some 3), 0, none, (.call (.k (.fn (.func 71) [] [])) [])⟩,
    ⟨(some 4), 0, none, (.op (.mov (.t 0)))⟩,
    ⟨(some 5), 0, none, (.call (.k (.fn (.func 70) [] [])) [(.t 3), (.t 4)])⟩,
    ⟨(some 2), 0, none, (.op (.mov (.t 5)))⟩])
  (.ret))
theorem cc57 : Tryd.f57.body.bind (compC Tryd.prog) = some ac57 := by kernel_rfl
theorem go57 {vals : List V} {v : V} (ac : AC) (he : ac.erase = ac57) (hw : wpC Tryd.prog 0 ac (retQ [.tmp 2] v) ⟨vals ++ List.replicate (6 - vals.length) (.tup []), []⟩) : CallP Tryd.prog 57 vals v :=
  call_of Tryd.func57 rfl rfl rfl (cc57.trans (congrArg some he.symm)) hw
/-- testbench/testbenchref07.inner -/
def ac58 : AC :=
  .seq (.reg 0 [⟨(some 2), 0, none, (.op (.mov (.k (.d (.bool false)))))⟩])
  (.seq (.reg 0 [⟨(some 3), 0, none, (.op (.mov (.t 0)))⟩,
    ⟨(some 4), 0, none, (.call (.k (.fn (.func 56) [] [])) [(.t 3)])⟩,
    ⟨(some 5), 0, none, (.op (.mov (.t 4)))⟩,
    ⟨(some 6), 0, (some (5, false)), (.op (.mov (.t 0)))⟩,
    ⟨(some 7), 0, (some (5, false)), (.call (.k (.fn (.func 72) [] [])) [(.t 6)])⟩,
    ⟨(some 8), 0, none, (.op (.pick (.t 5) (.k (.d (.bool true))) (.t 7)))⟩,
    ⟨(some 9), 0, none, (.op (.mov (.t 8)))⟩,
    ⟨(some 10), 0, (some (9, false)), (.op (.mov (.t 0)))⟩,
    ⟨(some 11), 0, (some (9, false)), (.op (.bin .geq (.t 10) (.k (.d (.int .u8 65)))))⟩,
    ⟨(some 12), 0, (some (9, false)), (.op (.mov (.t 11)))⟩,
    ⟨(some 13), 0, (some (12, true)), (.op (.mov (.t 0)))⟩,
    ⟨(some 14), 0, (some (12, true)), (.op (.bin .leq (.t 13) (.k (.d (.int .u8 90)))))⟩,
    ⟨(some 15), 0, (some (9, false)), (.op (.pick (.t 12) (.t 14) (.k (.d (.bool false)))))⟩,
    ⟨(some 16), 0, none, (.op (.pick (.t 9) (.k (.d (.bool true))) (.t 15)))⟩,
    ⟨(some 17), 0, none, (.op (.mov (.t 16)))⟩,
    ⟨(some 18), 0, (some (17, false)), (.op (.mov (.t 0)))⟩,
    ⟨(some 19), 0, (some (17, false)), (.op (.bin .eql (.t 18) (.k (.d (.int .u8 95)))))⟩,
    ⟨(some 20), 0, none, (.op (.pick (.t 17) (.k (.d (.bool true))) (.t 19)))⟩,
    ⟨(some 2), 0, none, (.op (.mov (.t 20)))⟩])
  (.ret))
theorem cc58 : Tryd.f58.body.bind (compC Tryd.prog) = some ac58 := by kernel_rfl
theorem go58 {vals : List V} {v : V} (ac : AC) (he : ac.erase = ac58) (hw : wpC Tryd.prog 0 ac (retQ [.tmp 2] v) ⟨vals ++ List.replicate (21 - vals.length) (.tup []), []⟩) : CallP Tryd.prog 58 vals v :=
  call_of Tryd.func58 rfl rfl rfl (cc58.trans (congrArg some he.symm)) hw
/-- slices.Equal[[]int,int] -/
def ac59 : AC :=
  .seq (.reg 0 [⟨(some 4), 0, none, (.op (.mov (.k (.d (.bool false)))))⟩])
  (.seq (.seq (.reg 0 [⟨(some 6), 0, none, (.op (.mov (.t 0)))⟩,
    ⟨(some 7), 0, none, (.op (.len false (.t 6)))⟩,
    ⟨(some 8), 0, none, (.op (.mov (.t 1)))⟩,
    ⟨(some 9), 0, none, (.op (.len false (.t 8)))⟩,
    ⟨(some 10), 0, none, (.op (.bin .neq (.t 7) (.t 9)))⟩])
  (.cond (.t 10)
    (.seq (.reg 0 [⟨(some 4), 0, none, (.op (.mov (.k (.d (.bool false)))))⟩])
    (.ret))
    (.skip)))
  (.seq (.seq (.reg 0 [⟨(some 11), 0, none, (.op (.mov (.t 0)))⟩,
    ⟨(some 12), 0, none, (.op (.len false (.t 11)))⟩,
    ⟨(some 13), 0, none, (.op (.mov (.k (.d (.int .i64 0)))))⟩])
  (.block 0
   (.loop
    (.seq (.reg 0 [⟨(some 14), 0, none, (.op (.bin .lss (.t 13) (.t 12)))⟩])
    (.seq (.cond (.t 14)
      (.skip)
      (.exit 0))
    (.seq (.block 1
     (.seq (.reg 0 [⟨(some 15), 0, none, (.op (.mov (.t 13)))⟩,
       ⟨(some 5), 0, none, (.op (.mov (.t 15)))⟩])
     (.seq (.regD 0 [(⟨(some 16), 0, none, (.op (.mov (.t 0)))⟩, []),
       (⟨(some 17), 0, none, (.op (.mov (.t 5)))⟩, []),
       (⟨(some 18), 0, none, (.op (.idxA 1 none (.t 16) (.t 17)))⟩, [0, 1]),
       (⟨(some 19), 0, none, (.op (.load false 1 (.t 18)))⟩, [2, 0, 1]),
       (⟨(some 20), 0, none, (.op (.mov (.t 1)))⟩, []),
       (⟨(some 21), 0, none, (.op (.mov (.t 5)))⟩, []),
       (⟨(some 22), 0, none, (.op (.idxA 1 none (.t 20) (.t 21)))⟩, [4, 5]),
       (⟨(some 23), 0, none, (.op (.load false 1 (.t 22)))⟩, [6, 4, 5]),
       (⟨(some 24), 0, none, (.op (.bin .neq (.t 19) (.t 23)))⟩, [3, 2, 0, 1, 7, 6, 4, 5])])
     (.cond (.t 24)
       (.seq (.reg 0 [⟨(some 4), 0, none, (.op (.mov (.k (.d (.bool false)))))⟩])
       (.ret))
       (.skip)))))
    (.reg 0 [⟨(some 25), 0, none, (.op (.bin .add (.t 13) (.k (.d (.int .i64 1)))))⟩,
      ⟨(some 13), 0, none, (.op (.mov (.t 25)))⟩])))))))
  (.seq (.reg 0 [⟨(some 4), 0, none, (.op (.mov (.k (.d (.bool true)))))⟩])
  (.ret))))
theorem cc59 : Tryd.f59.body.bind (compC Tryd.prog) = some ac59 := by kernel_rfl
theorem go59 {vals : List V} {v : V} (ac : AC) (he : ac.erase = ac59) (hw : wpC Tryd.prog 0 ac (retQ [.tmp 4] v) ⟨vals ++ List.replicate (26 - vals.length) (.tup []), []⟩) : CallP Tryd.prog 59 vals v :=
  call_of Tryd.func59 rfl rfl rfl (cc59.trans (congrArg some he.symm)) hw
/-- testbench/testbenchref26.Place -/
def ac60 : AC :=
  .seq (.reg 0 [⟨(some 4), 0, none, (.op (.mov (.k (.d (.int .i64 0)))))⟩])
  (.seq (.seq (.reg 0 [⟨(some 5), 0, none, (.op (.mov (.k (.d (.int .i64 0)))))⟩])
  (.block 0
   (.loop
    (.seq (.seq (.reg 0 [⟨(some 6), 0, none, (.op (.mov (.t 5)))⟩,
      ⟨(some 7), 0, none, (.op (.mov (.t 0)))⟩,
      ⟨(some 8), 0, none, (.op (.len false (.t 7)))⟩,
      ⟨(some 9), 0, none, (.op (.bin .lss (.t 6) (.t 8)))⟩])
    (.cond (.t 9)
      (.skip)
      (.exit 0)))
    (.seq (.block 1
     (.seq (.reg 0 [⟨(some 12), 0, none, (.op (.mov (.t 0)))⟩,
       ⟨(some 13), 0, none, (.op (.mov (.t 5)))⟩,
       ⟨(some 14), 0, none, (.op (.idxA 1 none (.t 12) (.t 13)))⟩,
       ⟨(some 15), 0, none, (.op (.load false 1 (.t 14)))⟩,
       ⟨(some 16), 0, none, (.op (.mov (.t 1)))⟩,
       ⟨(some 17), 0, none, (.op (.bin .eql (.t 15) (.t 16)))⟩])
     (.cond (.t 17)
       (.seq (.reg 0 [⟨(some 18), 0, none, (.op (.mov (.t 5)))⟩,
         ⟨(some 4), 0, none, (.op (.mov (.t 18)))⟩])
       (.ret))
       (.skip))))
    (.reg 0 [⟨(some 10), 0, none, (.op (.mov (.t 5)))⟩,
      ⟨(some 11), 0, none, (.op (.bin .add (.t 10) (.k (.d (.int .i64 1)))))⟩,
      ⟨(some 5), 0, none, (.op (.mov (.t 11)))⟩]))))))
  (.seq (.reg 0 [⟨(some 4), 0, none, (.op (.mov (.k (.d (.int .i64 (-1))))))⟩])
  (.ret)))
theorem cc60 : Tryd.f60.body.bind (compC Tryd.prog) = some ac60 := by kernel_rfl
theorem go60 {vals : List V} {v : V} (ac : AC) (he : ac.erase = ac60) (hw : wpC Tryd.prog 0 ac (retQ [.tmp 4] v) ⟨vals ++ List.replicate (19 - vals.length) (.tup []), []⟩) : CallP Tryd.prog 60 vals v :=
  call_of Tryd.func60 rfl rfl rfl (cc60.trans (congrArg some he.symm)) hw
/-- testbench/wave.header -/
def ac61 : AC :=
  .seq (.reg 0 [⟨(some 2), 0, none, (.op (.mov (.k (.d (.int .i64 0)))))⟩])
  (.seq (.seq (.reg 0 [⟨(some 5), 0, none, (.op (.mov (.t 0)))⟩,
    ⟨(some 6), 0, none, (.call (.k (.fn (.func 73) [] [])) [(.t 5), (.k (.fn (.func 74) [] []))])⟩])
  (.cond (.t 6)
    (.seq (.reg 0 [⟨(some 2), 0, none, (.op (.mov (.k (.d (.int .i64 5)))))⟩])
    (.ret))
    (.skip)))
  (.seq (.seq (.reg 0 [⟨(some 7), 0, none, (.op (.mov (.t 0)))⟩,
    ⟨(some 8), 0, none, (.op (.len false (.t 7)))⟩,
    ⟨(some 9), 0, none, (.op (.mov (.k (.d (.int .i64 0)))))⟩])
  (.block 0
   (.loop
    (.seq (.reg 0 [⟨(some 10), 0, none, (.op (.bin .lss (.t 9) (.t 8)))⟩])
    (.seq (.cond (.t 10)
      (.skip)
      (.exit 0))
    (.seq (.block 1
     (.seq (.reg 0 [⟨(some 11), 0, none, (.op (.mov (.t 9)))⟩,
       ⟨(some 12), 0, none, (.op (.idxA 1 none (.t 7) (.t 9)))⟩,
       ⟨(some 13), 0, none, (.op (.load false 1 (.t 12)))⟩,
       ⟨(some 3), 0, none, (.op (.mov (.t 11)))⟩,
       ⟨(some 4), 0, none, (.op (.mov (.t 13)))⟩])
     (.seq (.reg 0 [⟨(some 14), 0, none, (.op (.mov (.t 0)))⟩,
       ⟨(some 15), 0, none, (.op (.mov (.t 3)))⟩,
       ⟨(some 16), 0, none, (.op (.slice 1 (.t 14) none (some (.t 15))))⟩,
       ⟨(some 17), 0, none, (.op (.mov (.t 4)))⟩,
       ⟨(some 18), 0, none, (.call (.k (.fn (.func 35) [] [])) [(.t 16), (.t 17)])⟩])
     (.cond (.t 18)
       (.seq (.reg 0 [⟨(some 2), 0, none, (.op (.mov (.k (.d (.int .i64 8)))))⟩])
       (.ret))
       (.skip)))))
    (.reg 0 [⟨(some 19), 0, none, (.op (.bin .add (.t 9) (.k (.d (.int .i64 1)))))⟩,
      ⟨(some 9), 0, none, (.op (.mov (.t 19)))⟩])))))))
  (.seq (.seq (.reg 0 [⟨(some 20), 0, none, (.op (.mov (.t 0)))⟩,
    ⟨(some 21), 0, none, (.op (.len false (.t 20)))⟩,
    ⟨(some 22), 0, none, (.op (.bin .gtr (.t 21) (.k (.d (.int .i64 48)))))⟩])
  (.cond (.t 22)
    (.seq (.reg 0 [⟨(some 2), 0, none, (.op (.mov (.k (.d (.int .i64 2)))))⟩])
    (.ret))
    (.skip)))
  (.seq (.reg 0 [⟨(some 2), 0, none, (.op (.mov (.k (.d (.int .i64 0)))))⟩])
  (.ret)))))
theorem cc61 : Tryd.f61.body.bind (compC Tryd.prog) = some ac61 := by kernel_rfl
theorem go61 {vals : List V} {v : V} (ac : AC) (he : ac.erase = ac61) (hw : wpC Tryd.prog 0 ac (retQ [.tmp 2] v) ⟨vals ++ List.replicate (23 - vals.length) (.tup []), []⟩) : CallP Tryd.prog 61 vals v :=
  call_of Tryd.func61 rfl rfl rfl (cc61.trans (congrArg some he.symm)) hw
/-- slices.ContainsFunc[[]int,int] -/
def ac62 : AC :=
  .seq (.reg 0 [⟨(some 4), 0, none, (.op (.mov (.k (.d (.bool false)))))⟩])
  (.seq (.reg 0 [⟨(some 5), 0, none, (.op (.mov (.t 0)))⟩,
    ⟨(some 6), 0, none, (.op (.mov (.t 1)))⟩,
    ⟨(some 7), 0, none, (.call (.k (.fn (.func 76) [] [])) [(.t 5), (.t 6)])⟩,
    ⟨(some 8), 0, none, (.op (.bin .geq (.t 7) (.k (.d (.int .i64 0)))))⟩,
    ⟨(some 4), 0, none, (.op (.mov (.t 8)))⟩])
  (.ret))
theorem cc62 : Tryd.f62.body.bind (compC Tryd.prog) = some ac62 := by kernel_rfl
theorem go62 {vals : List V} {v : V} (ac : AC) (he : ac.erase = ac62) (hw : wpC Tryd.prog 0 ac (retQ [.tmp 4] v) ⟨vals ++ List.replicate (9 - vals.length) (.tup []), []⟩) : CallP Tryd.prog 62 vals v :=
  call_of Tryd.func62 rfl rfl rfl (cc62.trans (congrArg some he.symm)) hw
/-- testbench/wave.Valid$1 -/
def ac63 : AC :=
  .seq (.reg 0 [⟨(some 2), 0, none, (.op (.mov (.k (.d (.bool false)))))⟩])
  (.seq (.reg 0 [⟨(some 3), 0, none, (.op (.mov (.t 0)))⟩,
    ⟨(some 4), 0, none, (.call (.k (.fn (.func 64) [] [])) [(.t 3)])⟩,
    ⟨(some 5), 0, none, (.op (.un .not (.t 4)))⟩,
    ⟨(some 2), 0, none, (.op (.mov (.t 5)))⟩])
  (.ret))
theorem cc63 : Tryd.f63.body.bind (compC Tryd.prog) = some ac63 := by kernel_rfl
theorem go63 {vals : List V} {v : V} (ac : AC) (he : ac.erase = ac63) (hw : wpC Tryd.prog 0 ac (retQ [.tmp 2] v) ⟨vals ++ List.replicate (6 - vals.length) (.tup []), []⟩) : CallP Tryd.prog 63 vals v :=
  call_of Tryd.func63 rfl rfl rfl (cc63.trans (congrArg some he.symm)) hw
/-- testbench/wave.isWord -/
def ac64 : AC :=
  .seq (.reg 0 [⟨(some 2), 0, none, (.op (.mov (.k (.d (.bool false)))))⟩])
  (.seq (.reg 0 [⟨(some 3), 0, none, (.op (.mov (.t 0)))⟩,
    ⟨(some 4), 0, none, (.op (.bin .geq (.t 3) (.k (.d (.int .i64 0)))))⟩,
    ⟨(some 5), 0, none, (.op (.mov (.t 4)))⟩,
    ⟨(some 6), 0, (some (5, true)), (.op (.mov (.t 0)))⟩,
    ⟨(some 7), 0, (some (5, true)), (.op (.bin .leq (.t 6) (.k (.d (.int .i64 65535)))))⟩,
    ⟨(some 8), 0, none, (.op (.pick (.t 5) (.t 7) (.k (.d (.bool false)))))⟩,
    ⟨(some 2), 0, none, (.op (.mov (.t 8)))⟩])
  (.ret))
theorem cc64 : Tryd.f64.body.bind (compC Tryd.prog) = some ac64 := by kernel_rfl
theorem go64 {vals : List V} {v : V} (ac : AC) (he : ac.erase = ac64) (hw : wpC Tryd.prog 0 ac (retQ [.tmp 2] v) ⟨vals ++ List.replicate (9 - vals.length) (.tup []), []⟩) : CallP Tryd.prog 64 vals v :=
  call_of Tryd.func64 rfl rfl rfl (cc64.trans (congrArg some he.symm)) hw
/-- slices.IndexFunc[[]testbench/api.Channel,testbench/api.Channel] -/
def ac65 : AC :=
  .seq (.reg 0 [⟨(some 4), 0, none, (.op (.mov (.k (.d (.int .i64 0)))))⟩])
  (.seq (.seq (.reg 0 [⟨(some 6), 0, none, (.op (.mov (.t 0)))⟩,
    ⟨(some 7), 0, none, (.op (.len false (.t 6)))⟩,
    ⟨(some 8), 0, none, (.op (.mov (.k (.d (.int .i64 0)))))⟩])
  (.block 0
   (.loop
    (.seq (.reg 0 [⟨(some 9), 0, none, (.op (.bin .lss (.t 8) (.t 7)))⟩])
    (.seq (.cond (.t 9)
      (.skip)
      (.exit 0))
    (.seq (.block 1
     (.seq (.reg 0 [⟨(some 10), 0, none, (.op (.mov (.t 8)))⟩,
       ⟨(some 5), 0, none, (.op (.mov (.t 10)))⟩])
     (.seq (.reg 0 [⟨(some 11), 0, none, (.op (.mov (.t 1)))⟩,
       ⟨(some 12), 0, none, (.op (.mov (.t 0)))⟩,
       ⟨(some 13), 0, none, (.op (.mov (.t 5)))⟩,
       ⟨(some 14), 0, none, (.op (.idxA 3 none (.t 12) (.t 13)))⟩,
       ⟨(some 15), 0, none, (.op (.load true 3 (.t 14)))⟩,
       ⟨(some 16), 0, none, (.call (.t 11) [(.t 15)])⟩])
     (.cond (.t 16)
       (.seq (.reg 0 [⟨(some 17), 0, none, (.op (.mov (.t 5)))⟩,
         ⟨(some 4), 0, none, (.op (.mov (.t 17)))⟩])
       (.ret))
       (.skip)))))
    (.reg 0 [⟨(some 18), 0, none, (.op (.bin .add (.t 8) (.k (.d (.int .i64 1)))))⟩,
      ⟨(some 8), 0, none, (.op (.mov (.t 18)))⟩])))))))
  (.seq (.reg 0 [⟨(some 4), 0, none, (.op (.mov (.k (.d (.int .i64 (-1))))))⟩])
  (.ret)))
theorem cc65 : Tryd.f65.body.bind (compC Tryd.prog) = some ac65 := by kernel_rfl
theorem go65 {vals : List V} {v : V} (ac : AC) (he : ac.erase = ac65) (hw : wpC Tryd.prog 0 ac (retQ [.tmp 4] v) ⟨vals ++ List.replicate (19 - vals.length) (.tup []), []⟩) : CallP Tryd.prog 65 vals v :=
  call_of Tryd.func65 rfl rfl rfl (cc65.trans (congrArg some he.symm)) hw
/-- testbench/testbenchref26.Different -/
def ac66 : AC :=
  .seq (.reg 0 [⟨(some 2), 0, none, (.op (.mov (.k (.d (.bool false)))))⟩])
  (.seq (.seq (.reg 0 [⟨(some 3), 0, none, (.op (.mov (.k (.d (.int .i64 0)))))⟩])
  (.block 0
   (.loop
    (.seq (.seq (.reg 0 [⟨(some 4), 0, none, (.op (.mov (.t 3)))⟩,
      ⟨(some 5), 0, none, (.op (.mov (.t 0)))⟩,
      ⟨(some 6), 0, none, (.op (.len false (.t 5)))⟩,
      ⟨(some 7), 0, none, (.op (.bin .lss (.t 4) (.t 6)))⟩])
    (.cond (.t 7)
      (.skip)
      (.exit 0)))
    (.seq (.block 1
     (.seq (.reg 0 [⟨(some 10), 0, none, (.op (.mov (.t 0)))⟩,
       ⟨(some 11), 0, none, (.op (.mov (.t 3)))⟩,
       ⟨(some 12), 0, none, (.op (.idxA 1 none (.t 10) (.t 11)))⟩,
       ⟨(some 13), 0, none, (.op (.load false 1 (.t 12)))⟩,
       ⟨(some 14), 0, none, (.call (.k (.fn (.func 77) [] [])) [(.t 13)])⟩,
       ⟨(some 15), 0, none, (.op (.un .not (.t 14)))⟩,
       ⟨(some 16), 0, none, (.op (.mov (.t 15)))⟩,
       ⟨(some 17), 0, (some (16, false)), (.op (.mov (.t 0)))⟩,
       ⟨(some 18), 0, (some (16, false)), (.op (.mov (.t 0)))⟩,
       ⟨(some 19), 0, (some (16, false)), (.op (.mov (.t 3)))⟩,
       ⟨(some 20), 0, (some (16, false)), (.op (.idxA 1 none (.t 18) (.t 19)))⟩,
       ⟨(some 21), 0, (some (16, false)), (.op (.load false 1 (.t 20)))⟩,
       ⟨(some 22), 0, (some (16, false)), (.call (.k (.fn (.func 60) [] [])) [(.t 17), (.t 21)])⟩,
       ⟨(some 23), 0, (some (16, false)), (.op (.mov (.t 3)))⟩,
       ⟨(some 24), 0, (some (16, false)), (.op (.bin .neq (.t 22) (.t 23)))⟩,
       ⟨(some 25), 0, none, (.op (.pick (.t 16) (.k (.d (.bool true))) (.t 24)))⟩])
     (.cond (.t 25)
       (.seq (.reg 0 [⟨(some 2), 0, none, (.op (.mov (.k (.d (.bool false)))))⟩])
       (.ret))
       (.skip))))
    (.reg 0 [⟨(some 8), 0, none, (.op (.mov (.t 3)))⟩,
      ⟨(some 9), 0, none, (.op (.bin .add (.t 8) (.k (.d (.int .i64 1)))))⟩,
      ⟨(some 3), 0, none, (.op (.mov (.t 9)))⟩]))))))
  (.seq (.reg 0 [⟨(some 2), 0, none, (.op (.mov (.k (.d (.bool true)))))⟩])
  (.ret)))
theorem cc66 : Tryd.f66.body.bind (compC Tryd.prog) = some ac66 := by kernel_rfl
theorem go66 {vals : List V} {v : V} (ac : AC) (he : ac.erase = ac66) (hw : wpC Tryd.prog 0 ac (retQ [.tmp 2] v) ⟨vals ++ List.replicate (26 - vals.length) (.tup []), []⟩) : CallP Tryd.prog 66 vals v :=
  call_of Tryd.func66 rfl rfl rfl (cc66.trans (congrArg some he.symm)) hw
/-- testbench/testbenchref35.fits -/
def ac67 : AC :=
  .seq (.reg 0 [⟨(some 2), 0, none, (.op (.mov (.k (.d (.bool false)))))⟩])
  (.seq (.seq (.reg 0 [⟨(some 3), 0, none, (.op (.mov (.k (.d (.int .i64 0)))))⟩])
  (.block 0
   (.loop
    (.seq (.seq (.reg 0 [⟨(some 4), 0, none, (.op (.mov (.t 3)))⟩,
      ⟨(some 5), 0, none, (.op (.mov (.t 0)))⟩,
      ⟨(some 6), 0, none, (.op (.len false (.t 5)))⟩,
      ⟨(some 7), 0, none, (.op (.bin .lss (.t 4) (.t 6)))⟩])
    (.cond (.t 7)
      (.skip)
      (.exit 0)))
    (.seq (.block 1
     (.seq (.reg 0 [⟨(some 10), 0, none, (.op (.mov (.t 0)))⟩,
       ⟨(some 11), 0, none, (.op (.mov (.t 3)))⟩,
       ⟨(some 12), 0, none, (.op (.idxA 1 none (.t 10) (.t 11)))⟩,
       ⟨(some 13), 0, none, (.op (.load false 1 (.t 12)))⟩,
       ⟨(some 14), 0, none, (.op (.bin .lss (.t 13) (.k (.d (.int .i64 0)))))⟩,
       ⟨(some 15), 0, none, (.op (.mov (.t 14)))⟩,
       ⟨(some 16), 0, (some (15, false)), (.op (.mov (.t 0)))⟩,
       ⟨(some 17), 0, (some (15, false)), (.op (.mov (.t 3)))⟩,
       ⟨(some 18), 0, (some (15, false)), (.op (.idxA 1 none (.t 16) (.t 17)))⟩,
       ⟨(some 19), 0, (some (15, false)), (.op (.load false 1 (.t 18)))⟩,
       ⟨(some 20), 0, (some (15, false)), (.op (.bin .gtr (.t 19) (.k (.d (.int .i64 65535)))))⟩,
       ⟨(some 21), 0, none, (.op (.pick (.t 15) (.k (.d (.bool true))) (.t 20)))⟩])
     (.cond (.t 21)
       (.seq (.reg 0 [⟨(some 2), 0, none, (.op (.mov (.k (.d (.bool false)))))⟩])
       (.ret))
       (.skip))))
    (.reg 0 [⟨(some 8), 0, none, (.op (.mov (.t 3)))⟩,
      ⟨(some 9), 0, none, (.op (.bin .add (.t 8) (.k (.d (.int .i64 1)))))⟩,
      ⟨(some 3), 0, none, (.op (.mov (.t 9)))⟩]))))))
  (.seq (.reg 0 [⟨(some 2), 0, none, (.op (.mov (.k (.d (.bool true)))))⟩])
  (.ret)))
theorem cc67 : Tryd.f67.body.bind (compC Tryd.prog) = some ac67 := by kernel_rfl
theorem go67 {vals : List V} {v : V} (ac : AC) (he : ac.erase = ac67) (hw : wpC Tryd.prog 0 ac (retQ [.tmp 2] v) ⟨vals ++ List.replicate (22 - vals.length) (.tup []), []⟩) : CallP Tryd.prog 67 vals v :=
  call_of Tryd.func67 rfl rfl rfl (cc67.trans (congrArg some he.symm)) hw
/-- testbench/lexer.lower -/
def ac68 : AC :=
  .seq (.reg 0 [⟨(some 2), 0, none, (.op (.mov (.k (.d (.bool false)))))⟩])
  (.seq (.reg 0 [⟨(some 3), 0, none, (.op (.mov (.t 0)))⟩,
    ⟨(some 4), 0, none, (.op (.bin .geq (.t 3) (.k (.d (.int .i32 97)))))⟩,
    ⟨(some 5), 0, none, (.op (.mov (.t 4)))⟩,
    ⟨(some 6), 0, (some (5, true)), (.op (.mov (.t 0)))⟩,
    ⟨(some 7), 0, (some (5, true)), (.op (.bin .leq (.t 6) (.k (.d (.int .i32 122)))))⟩,
    ⟨(some 8), 0, none, (.op (.pick (.t 5) (.t 7) (.k (.d (.bool false)))))⟩,
    ⟨(some 2), 0, none, (.op (.mov (.t 8)))⟩])
  (.ret))
theorem cc68 : Tryd.f68.body.bind (compC Tryd.prog) = some ac68 := by kernel_rfl
theorem go68 {vals : List V} {v : V} (ac : AC) (he : ac.erase = ac68) (hw : wpC Tryd.prog 0 ac (retQ [.tmp 2] v) ⟨vals ++ List.replicate (9 - vals.length) (.tup []), []⟩) : CallP Tryd.prog 68 vals v :=
  call_of Tryd.func68 rfl rfl rfl (cc68.trans (congrArg some he.symm)) hw
/-- testbench/lexer.follows -/
def ac69 : AC :=
  .seq (.reg 0 [⟨(some 2), 0, none, (.op (.mov (.k (.d (.bool false)))))⟩])
  (.seq (.reg 0 [⟨(some 3), 0, none, (.op (.mov (.t 0)))⟩,
    ⟨(some 4), 0, none, (.call (.k (.fn (.func 68) [] [])) [(.t 3)])⟩,
    ⟨(some 5), 0, none, (.op (.mov (.t 4)))⟩,
    ⟨(some 6), 0, (some (5, false)), (.op (.mov (.t 0)))⟩,
    ⟨(some 7), 0, (some (5, false)), (.call (.k (.fn (.func 78) [] [])) [(.t 6)])⟩,
    ⟨(some 8), 0, none, (.op (.pick (.t 5) (.k (.d (.bool true))) (.t 7)))⟩,
    ⟨(some 9), 0, none, (.op (.mov (.t 8)))⟩,
    ⟨(some 10), 0, (some (9, false)), (.op (.mov (.t 0)))⟩,
    ⟨(some 11), 0, (some (9, false)), (.op (.bin .geq (.t 10) (.k (.d (.int .i32 65)))))⟩,
    ⟨(some 12), 0, (some (9, false)), (.op (.mov (.t 11)))⟩,
    ⟨(some 13), 0, (some (12, true)), (.op (.mov (.t 0)))⟩,
    ⟨(some 14), 0, (some (12, true)), (.op (.bin .leq (.t 13) (.k (.d (.int .i32 90)))))⟩,
    ⟨(some 15), 0, (some (9, false)), (.op (.pick (.t 12) (.t 14) (.k (.d (.bool false)))))⟩,
    ⟨(some 16), 0, none, (.op (.pick (.t 9) (.k (.d (.bool true))) (.t 15)))⟩,
    ⟨(some 17), 0, none, (.op (.mov (.t 16)))⟩,
    ⟨(some 18), 0, (some (17, false)), (.op (.mov (.t 0)))⟩,
    ⟨(some 19), 0, (some (17, false)), (.op (.bin .eql (.t 18) (.k (.d (.int .i32 95)))))⟩,
    ⟨(some 20), 0, none, (.op (.pick (.t 17) (.k (.d (.bool true))) (.t 19)))⟩,
    ⟨(some 2), 0, none, (.op (.mov (.t 20)))⟩])
  (.ret))
theorem cc69 : Tryd.f69.body.bind (compC Tryd.prog) = some ac69 := by kernel_rfl
theorem go69 {vals : List V} {v : V} (ac : AC) (he : ac.erase = ac69) (hw : wpC Tryd.prog 0 ac (retQ [.tmp 2] v) ⟨vals ++ List.replicate (21 - vals.length) (.tup []), []⟩) : CallP Tryd.prog 69 vals v :=
  call_of Tryd.func69 rfl rfl rfl (cc69.trans (congrArg some he.symm)) hw
/-- testbench/testbenchref07.has -/
def ac70 : AC :=
  .seq (.reg 0 [⟨(some 4), 0, none, (.op (.mov (.k (.d (.bool false)))))⟩])
  (.seq (.seq (.reg 0 [⟨(some 5), 0, none, (.op (.mov (.k (.d (.int .i64 0)))))⟩])
  (.block 0
   (.loop
    (.seq (.seq (.reg 0 [⟨(some 6), 0, none, (.op (.mov (.t 5)))⟩,
      ⟨(some 7), 0, none, (.op (.mov (.t 0)))⟩,
      ⟨(some 8), 0, none, (.op (.len false (.t 7)))⟩,
      ⟨(some 9), 0, none, (.op (.bin .lss (.t 6) (.t 8)))⟩])
    (.cond (.t 9)
      (.skip)
      (.exit 0)))
    (.seq (.block 1
     (.seq (.reg 0 [⟨(some 12), 0, none, (.op (.mov (.t 0)))⟩,
       ⟨(some 13), 0, none, (.op (.mov (.t 5)))⟩,
       ⟨(some 14), 0, none, (.op (.idxA 1 none (.t 12) (.t 13)))⟩,
       ⟨(some 15), 0, none, (.op (.load false 1 (.t 14)))⟩,
       ⟨(some 16), 0, none, (.op (.mov (.t 1)))⟩,
       ⟨(some 17), 0, none, (.op (.bin .eql (.t 15) (.t 16)))⟩])
     (.cond (.t 17)
       (.seq (.reg 0 [⟨(some 4), 0, none, (.op (.mov (.k (.d (.bool true)))))⟩])
       (.ret))
       (.skip))))
    (.reg 0 [⟨(some 10), 0, none, (.op (.mov (.t 5)))⟩,
      ⟨(some 11), 0, none, (.op (.bin .add (.t 10) (.k (.d (.int .i64 1)))))⟩,
      ⟨(some 5), 0, none, (.op (.mov (.t 11)))⟩]))))))
  (.seq (.reg 0 [⟨(some 4), 0, none, (.op (.mov (.k (.d (.bool false)))))⟩])
  (.ret)))
theorem cc70 : Tryd.f70.body.bind (compC Tryd.prog) = some ac70 := by kernel_rfl
theorem go70 {vals : List V} {v : V} (ac : AC) (he : ac.erase = ac70) (hw : wpC Tryd.prog 0 ac (retQ [.tmp 4] v) ⟨vals ++ List.replicate (18 - vals.length) (.tup []), []⟩) : CallP Tryd.prog 70 vals v :=
  call_of Tryd.func70 rfl rfl rfl (cc70.trans (congrArg some he.symm)) hw
/-- testbench/testbenchref07.keywords -/
def ac71 : AC :=
  .seq (.reg 0 [⟨(some 0), 0, none, (.op (.mov (.k (.d .nils))))⟩])
  (.seq (.reg 1 [⟨(some 1), 0, none, (.op (.buildSl 1 24 [(.str [])] [(0, (.k (.d (.str [99, 108, 97, 115, 115])))), (1, (.k (.d (.str [101, 120, 116, 101, 110, 100, 115])))), (2, (.k (.d (.str [114, 97, 110, 100])))), (3, (.k (.d (.str [114, 97, 110, 100, 99])))), (4, (.k (.d (.str [115, 116, 97, 116, 101])))), (5, (.k (.d (.str [99, 111, 110, 115, 116, 114, 97, 105, 110, 116])))), (6, (.k (.d (.str [115, 111, 102, 116])))), (7, (.k (.d (.str [100, 105, 115, 116])))), (8, (.k (.d (.str [105, 102])))), (9, (.k (.d (.str [101, 108, 115, 101])))), (10, (.k (.d (.str [101, 97, 99, 104])))), (11, (.k (.d (.str [105, 110])))), (12, (.k (.d (.str [115, 111, 108, 118, 101])))), (13, (.k (.d (.str [98, 101, 102, 111, 114, 101])))), (14, (.k (.d (.str [105, 110, 115, 105, 100, 101])))), (15, (.k (.d (.str [112, 114, 111, 112, 101, 114, 116, 121])))), (16, (.k (.d (.str [115, 101, 113])))), (17, (.k (.d (.str [97, 110, 100])))), (18, (.k (.d (.str [111, 114])))), (19, (.k (.d (.str [110, 111, 116])))), (20, (.k (.d (.str [115, 101, 116])))), (21, (.k (.d (.str [104, 111, 108, 100])))), (22, (.k (.d (.str [112, 108, 97, 105, 110])))), (23, (.k (.d (.str [114, 101, 112, 101, 97, 116]))))]))⟩,
    ⟨(some 0), 1, none, (.op (.mov (.t 1)))⟩])
  (.ret))
theorem cc71 : Tryd.f71.body.bind (compC Tryd.prog) = some ac71 := by kernel_rfl
theorem go71 {vals : List V} {v : V} (ac : AC) (he : ac.erase = ac71) (hw : wpC Tryd.prog 0 ac (retQ [.tmp 0] v) ⟨vals ++ List.replicate (2 - vals.length) (.tup []), []⟩) : CallP Tryd.prog 71 vals v :=
  call_of Tryd.func71 rfl rfl rfl (cc71.trans (congrArg some he.symm)) hw
/-- testbench/testbenchref07.digit -/
def ac72 : AC :=
  .seq (.reg 0 [⟨(some 2), 0, none, (.op (.mov (.k (.d (.bool false)))))⟩])
  (.seq (.reg 0 [⟨(some 3), 0, none, (.op (.mov (.t 0)))⟩,
    ⟨(some 4), 0, none, (.op (.bin .geq (.t 3) (.k (.d (.int .u8 48)))))⟩,
    ⟨(some 5), 0, none, (.op (.mov (.t 4)))⟩,
    ⟨(some 6), 0, (some (5, true)), (.op (.mov (.t 0)))⟩,
    ⟨(some 7), 0, (some (5, true)), (.op (.bin .leq (.t 6) (.k (.d (.int .u8 57)))))⟩,
    ⟨(some 8), 0, none, (.op (.pick (.t 5) (.t 7) (.k (.d (.bool false)))))⟩,
    ⟨(some 2), 0, none, (.op (.mov (.t 8)))⟩])
  (.ret))
theorem cc72 : Tryd.f72.body.bind (compC Tryd.prog) = some ac72 := by kernel_rfl
theorem go72 {vals : List V} {v : V} (ac : AC) (he : ac.erase = ac72) (hw : wpC Tryd.prog 0 ac (retQ [.tmp 2] v) ⟨vals ++ List.replicate (9 - vals.length) (.tup []), []⟩) : CallP Tryd.prog 72 vals v :=
  call_of Tryd.func72 rfl rfl rfl (cc72.trans (congrArg some he.symm)) hw
/-- slices.ContainsFunc[[]string,string] -/
def ac73 : AC :=
  .seq (.reg 0 [⟨(some 4), 0, none, (.op (.mov (.k (.d (.bool false)))))⟩])
  (.seq (.reg 0 [⟨(some 5), 0, none, (.op (.mov (.t 0)))⟩,
    ⟨(some 6), 0, none, (.op (.mov (.t 1)))⟩,
    ⟨(some 7), 0, none, (.call (.k (.fn (.func 79) [] [])) [(.t 5), (.t 6)])⟩,
    ⟨(some 8), 0, none, (.op (.bin .geq (.t 7) (.k (.d (.int .i64 0)))))⟩,
    ⟨(some 4), 0, none, (.op (.mov (.t 8)))⟩])
  (.ret))
theorem cc73 : Tryd.f73.body.bind (compC Tryd.prog) = some ac73 := by kernel_rfl
theorem go73 {vals : List V} {v : V} (ac : AC) (he : ac.erase = ac73) (hw : wpC Tryd.prog 0 ac (retQ [.tmp 4] v) ⟨vals ++ List.replicate (9 - vals.length) (.tup []), []⟩) : CallP Tryd.prog 73 vals v :=
  call_of Tryd.func73 rfl rfl rfl (cc73.trans (congrArg some he.symm)) hw
/-- testbench/wave.header$1 -/
def ac74 : AC :=
  .seq (.reg 0 [⟨(some 2), 0, none, (.op (.mov (.k (.d (.bool false)))))⟩])
  (.seq (.reg 0 [⟨(some 3), 0, none, (.op (.mov (.t 0)))⟩,
    ⟨(some 4), 0, none, (.call (.k (.fn (.func 75) [] [])) [(.t 3)])⟩,
    ⟨(some 5), 0, none, (.op (.un .not (.t 4)))⟩,
    ⟨(some 2), 0, none, (.op (.mov (.t 5)))⟩])
  (.ret))
theorem cc74 : Tryd.f74.body.bind (compC Tryd.prog) = some ac74 := by kernel_rfl
theorem go74 {vals : List V} {v : V} (ac : AC) (he : ac.erase = ac74) (hw : wpC Tryd.prog 0 ac (retQ [.tmp 2] v) ⟨vals ++ List.replicate (6 - vals.length) (.tup []), []⟩) : CallP Tryd.prog 74 vals v :=
  call_of Tryd.func74 rfl rfl rfl (cc74.trans (congrArg some he.symm)) hw
/-- testbench/wave.isVar -/
def ac75 : AC :=
  .seq (.reg 0 [⟨(some 2), 0, none, (.op (.mov (.k (.d (.bool false)))))⟩])
  (.seq (.reg 0 [⟨(some 7), 0, none, (.op (.mov (.t 0)))⟩,
    ⟨(some 8), 0, none, (.call (.k (.fn (.func 80) [] [])) [(.t 7), (.k (.d (.str [91])))])⟩,
    ⟨(some 6), 0, none, (.op (.mov (.t 8)))⟩,
    ⟨(some 9), 0, none, (.op (.ext (.t 6) 0))⟩,
    ⟨(some 10), 0, none, (.op (.ext (.t 6) 1))⟩,
    ⟨(some 11), 0, none, (.op (.ext (.t 6) 2))⟩,
    ⟨(some 3), 0, none, (.op (.mov (.t 9)))⟩,
    ⟨(some 4), 0, none, (.op (.mov (.t 10)))⟩,
    ⟨(some 5), 0, none, (.op (.mov (.t 11)))⟩])
  (.seq (.seq (.reg 0 [⟨(some 12), 0, none, (.op (.mov (.t 5)))⟩,
    ⟨(some 13), 0, none, (.op (.un .not (.t 12)))⟩])
  (.cond (.t 13)
    (.seq (.reg 0 [⟨(some 14), 0, none, (.op (.mov (.t 0)))⟩,
      ⟨(some 15), 0, none, (.call (.k (.fn (.func 34) [] [])) [(.t 14)])⟩,
      ⟨(some 2), 0, none, (.op (.mov (.t 15)))⟩])
    (.ret))
    (.skip)))
  (.seq (.reg 0 [⟨(some 16), 0, none, (.op (.mov (.t 3)))⟩,
    ⟨(some 17), 0, none, (.call (.k (.fn (.func 34) [] [])) [(.t 16)])⟩,
    ⟨(some 18), 0, none, (.op (.mov (.t 17)))⟩,
    ⟨(some 19), 0, (some (18, true)), (.op (.mov (.t 4)))⟩,
    ⟨(some 20), 0, (some (18, true)), (.op (.len true (.t 19)))⟩,
    ⟨(some 21), 0, (some (18, true)), (.op (.bin .eql (.t 20) (.k (.d (.int .i64 2)))))⟩,
    ⟨(some 22), 0, none, (.op (.pick (.t 18) (.t 21) (.k (.d (.bool false)))))⟩,
    ⟨(some 23), 0, none, (.op (.mov (.t 22)))⟩,
    ⟨(some 24), 0, (some (23, true)), (.op (.mov (.t 4)))⟩,
    ⟨(some 25), 0, (some (23, true)), (.op (.idxS (.t 24) (.k (.d (.int .i64 0)))))⟩,
    ⟨(some 26), 0, (some (23, true)), (.op (.bin .geq (.t 25) (.k (.d (.int .u8 48)))))⟩,
    ⟨(some 27), 0, none, (.op (.pick (.t 23) (.t 26) (.k (.d (.bool false)))))⟩,
    ⟨(some 28), 0, none, (.op (.mov (.t 27)))⟩,
    ⟨(some 29), 0, (some (28, true)), (.op (.mov (.t 4)))⟩,
    ⟨(some 30), 0, (some (28, true)), (.op (.idxS (.t 29) (.k (.d (.int .i64 0)))))⟩,
    ⟨(some 31), 0, (some (28, true)), (.op (.bin .lss (.t 30) (.k (.d (.int .u8 56)))))⟩,
    ⟨(some 32), 0, none, (.op (.pick (.t 28) (.t 31) (.k (.d (.bool false)))))⟩,
    ⟨(some 33), 0, none, (.op (.mov (.t 32)))⟩,
    ⟨(some 34), 0, (some (33, true)), (.op (.mov (.t 4)))⟩,
    ⟨(some 35), 0, (some (33, true)), (.op (.idxS (.t 34) (.k (.d (.int .i64 1)))))⟩,
    ⟨(some 36), 0, (some (33, true)), (.op (.bin .eql (.t 35) (.k (.d (.int .u8 93)))))⟩,
    ⟨(some 37), 0, none, (.op (.pick (.t 33) (.t 36) (.k (.d (.bool false)))))⟩,
    ⟨(some 2), 0, none, (.op (.mov (.t 37)))⟩])
  (.ret))))
theorem cc75 : Tryd.f75.body.bind (compC Tryd.prog) = some ac75 := by kernel_rfl
theorem go75 {vals : List V} {v : V} (ac : AC) (he : ac.erase = ac75) (hw : wpC Tryd.prog 0 ac (retQ [.tmp 2] v) ⟨vals ++ List.replicate (38 - vals.length) (.tup []), []⟩) : CallP Tryd.prog 75 vals v :=
  call_of Tryd.func75 rfl rfl rfl (cc75.trans (congrArg some he.symm)) hw
/-- slices.IndexFunc[[]int,int] -/
def ac76 : AC :=
  .seq (.reg 0 [⟨(some 4), 0, none, (.op (.mov (.k (.d (.int .i64 0)))))⟩])
  (.seq (.seq (.reg 0 [⟨(some 6), 0, none, (.op (.mov (.t 0)))⟩,
    ⟨(some 7), 0, none, (.op (.len false (.t 6)))⟩,
    ⟨(some 8), 0, none, (.op (.mov (.k (.d (.int .i64 0)))))⟩])
  (.block 0
   (.loop
    (.seq (.reg 0 [⟨(some 9), 0, none, (.op (.bin .lss (.t 8) (.t 7)))⟩])
    (.seq (.cond (.t 9)
      (.skip)
      (.exit 0))
    (.seq (.block 1
     (.seq (.reg 0 [⟨(some 10), 0, none, (.op (.mov (.t 8)))⟩,
       ⟨(some 5), 0, none, (.op (.mov (.t 10)))⟩])
     (.seq (.reg 0 [⟨(some 11), 0, none, (.op (.mov (.t 1)))⟩,
       ⟨(some 12), 0, none, (.op (.mov (.t 0)))⟩,
       ⟨(some 13), 0, none, (.op (.mov (.t 5)))⟩,
       ⟨(some 14), 0, none, (.op (.idxA 1 none (.t 12) (.t 13)))⟩,
       ⟨(some 15), 0, none, (.op (.load false 1 (.t 14)))⟩,
       ⟨(some 16), 0, none, (.call (.t 11) [(.t 15)])⟩])
     (.cond (.t 16)
       (.seq (.reg 0 [⟨(some 17), 0, none, (.op (.mov (.t 5)))⟩,
         ⟨(some 4), 0, none, (.op (.mov (.t 17)))⟩])
       (.ret))
       (.skip)))))
    (.reg 0 [⟨(some 18), 0, none, (.op (.bin .add (.t 8) (.k (.d (.int .i64 1)))))⟩,
      ⟨(some 8), 0, none, (.op (.mov (.t 18)))⟩])))))))
  (.seq (.reg 0 [⟨(some 4), 0, none, (.op (.mov (.k (.d (.int .i64 (-1))))))⟩])
  (.ret)))
theorem cc76 : Tryd.f76.body.bind (compC Tryd.prog) = some ac76 := by kernel_rfl
theorem go76 {vals : List V} {v : V} (ac : AC) (he : ac.erase = ac76) (hw : wpC Tryd.prog 0 ac (retQ [.tmp 4] v) ⟨vals ++ List.replicate (19 - vals.length) (.tup []), []⟩) : CallP Tryd.prog 76 vals v :=
  call_of Tryd.func76 rfl rfl rfl (cc76.trans (congrArg some he.symm)) hw
/-- testbench/testbenchref08.IsVar -/
def ac77 : AC :=
  .seq (.reg 0 [⟨(some 2), 0, none, (.op (.mov (.k (.d (.bool false)))))⟩])
  (.seq (.reg 0 [⟨(some 7), 0, none, (.op (.mov (.t 0)))⟩,
    ⟨(some 8), 0, none, (.call (.k (.fn (.func 81) [] [])) [(.t 7)])⟩,
    ⟨(some 6), 0, none, (.op (.mov (.t 8)))⟩,
    ⟨(some 9), 0, none, (.op (.ext (.t 6) 0))⟩,
    ⟨(some 10), 0, none, (.op (.ext (.t 6) 1))⟩,
    ⟨(some 11), 0, none, (.op (.ext (.t 6) 2))⟩,
    ⟨(some 3), 0, none, (.op (.mov (.t 9)))⟩,
    ⟨(some 4), 0, none, (.op (.mov (.t 10)))⟩,
    ⟨(some 5), 0, none, (.op (.mov (.t 11)))⟩])
  (.seq (.reg 0 [⟨(some 12), 0, none, (.op (.mov (.t 5)))⟩,
    ⟨(some 13), 0, none, (.op (.mov (.t 12)))⟩,
    ⟨(some 14), 0, (some (13, false)), (.op (.mov (.t 0)))⟩,
    ⟨(some 15), 0, (some (13, false)), (.call (.k (.fn (.func 37) [] [])) [(.t 14)])⟩,
    ⟨(some 16), 0, none, (.op (.pick (.t 13) (.k (.d (.bool true))) (.t 15)))⟩,
    ⟨(some 2), 0, none, (.op (.mov (.t 16)))⟩])
  (.ret)))
theorem cc77 : Tryd.f77.body.bind (compC Tryd.prog) = some ac77 := by kernel_rfl
theorem go77 {vals : List V} {v : V} (ac : AC) (he : ac.erase = ac77) (hw : wpC Tryd.prog 0 ac (retQ [.tmp 2] v) ⟨vals ++ List.replicate (17 - vals.length) (.tup []), []⟩) : CallP Tryd.prog 77 vals v :=
  call_of Tryd.func77 rfl rfl rfl (cc77.trans (congrArg some he.symm)) hw
/-- testbench/lexer.digit -/
def ac78 : AC :=
  .seq (.reg 0 [⟨(some 2), 0, none, (.op (.mov (.k (.d (.bool false)))))⟩])
  (.seq (.reg 0 [⟨(some 3), 0, none, (.op (.mov (.t 0)))⟩,
    ⟨(some 4), 0, none, (.op (.bin .geq (.t 3) (.k (.d (.int .i32 48)))))⟩,
    ⟨(some 5), 0, none, (.op (.mov (.t 4)))⟩,
    ⟨(some 6), 0, (some (5, true)), (.op (.mov (.t 0)))⟩,
    ⟨(some 7), 0, (some (5, true)), (.op (.bin .leq (.t 6) (.k (.d (.int .i32 57)))))⟩,
    ⟨(some 8), 0, none, (.op (.pick (.t 5) (.t 7) (.k (.d (.bool false)))))⟩,
    ⟨(some 2), 0, none, (.op (.mov (.t 8)))⟩])
  (.ret))
theorem cc78 : Tryd.f78.body.bind (compC Tryd.prog) = some ac78 := by kernel_rfl
theorem go78 {vals : List V} {v : V} (ac : AC) (he : ac.erase = ac78) (hw : wpC Tryd.prog 0 ac (retQ [.tmp 2] v) ⟨vals ++ List.replicate (9 - vals.length) (.tup []), []⟩) : CallP Tryd.prog 78 vals v :=
  call_of Tryd.func78 rfl rfl rfl (cc78.trans (congrArg some he.symm)) hw
/-- slices.IndexFunc[[]string,string] -/
def ac79 : AC :=
  .seq (.reg 0 [⟨(some 4), 0, none, (.op (.mov (.k (.d (.int .i64 0)))))⟩])
  (.seq (.seq (.reg 0 [⟨(some 6), 0, none, (.op (.mov (.t 0)))⟩,
    ⟨(some 7), 0, none, (.op (.len false (.t 6)))⟩,
    ⟨(some 8), 0, none, (.op (.mov (.k (.d (.int .i64 0)))))⟩])
  (.block 0
   (.loop
    (.seq (.reg 0 [⟨(some 9), 0, none, (.op (.bin .lss (.t 8) (.t 7)))⟩])
    (.seq (.cond (.t 9)
      (.skip)
      (.exit 0))
    (.seq (.block 1
     (.seq (.reg 0 [⟨(some 10), 0, none, (.op (.mov (.t 8)))⟩,
       ⟨(some 5), 0, none, (.op (.mov (.t 10)))⟩])
     (.seq (.reg 0 [⟨(some 11), 0, none, (.op (.mov (.t 1)))⟩,
       ⟨(some 12), 0, none, (.op (.mov (.t 0)))⟩,
       ⟨(some 13), 0, none, (.op (.mov (.t 5)))⟩,
       ⟨(some 14), 0, none, (.op (.idxA 1 none (.t 12) (.t 13)))⟩,
       ⟨(some 15), 0, none, (.op (.load false 1 (.t 14)))⟩,
       ⟨(some 16), 0, none, (.call (.t 11) [(.t 15)])⟩])
     (.cond (.t 16)
       (.seq (.reg 0 [⟨(some 17), 0, none, (.op (.mov (.t 5)))⟩,
         ⟨(some 4), 0, none, (.op (.mov (.t 17)))⟩])
       (.ret))
       (.skip)))))
    (.reg 0 [⟨(some 18), 0, none, (.op (.bin .add (.t 8) (.k (.d (.int .i64 1)))))⟩,
      ⟨(some 8), 0, none, (.op (.mov (.t 18)))⟩])))))))
  (.seq (.reg 0 [⟨(some 4), 0, none, (.op (.mov (.k (.d (.int .i64 (-1))))))⟩])
  (.ret)))
theorem cc79 : Tryd.f79.body.bind (compC Tryd.prog) = some ac79 := by kernel_rfl
theorem go79 {vals : List V} {v : V} (ac : AC) (he : ac.erase = ac79) (hw : wpC Tryd.prog 0 ac (retQ [.tmp 4] v) ⟨vals ++ List.replicate (19 - vals.length) (.tup []), []⟩) : CallP Tryd.prog 79 vals v :=
  call_of Tryd.func79 rfl rfl rfl (cc79.trans (congrArg some he.symm)) hw
/-- strings.Cut -/
def ac80 : AC :=
  .seq (.reg 0 [⟨(some 4), 0, none, (.op (.mov (.k (.d (.str [])))))⟩,
    ⟨(some 5), 0, none, (.op (.mov (.k (.d (.str [])))))⟩,
    ⟨(some 6), 0, none, (.op (.mov (.k (.d (.bool false)))))⟩])
  (.seq (.reg 0 [⟨(some 7), 0, none, (.op (.mov (.t 0)))⟩,
    ⟨(some 8), 0, none, (.op (.mov (.t 1)))⟩,
    ⟨(some 9), 0, none, (.call (.k (.fn (.func 82) [] [])) [(.t 7), (.t 8)])⟩,
    ⟨(some 10), 0, none, (.op (.ext (.t 9) 0))⟩,
    ⟨(some 11), 0, none, (.op (.ext (.t 9) 1))⟩,
    ⟨(some 12), 0, none, (.op (.ext (.t 9) 2))⟩,
    ⟨(some 4), 0, none, (.op (.mov (.t 10)))⟩,
    ⟨(some 5), 0, none, (.op (.mov (.t 11)))⟩,
    ⟨(some 6), 0, none, (.op (.mov (.t 12)))⟩])
  (.ret))
theorem cc80 : Tryd.f80.body.bind (compC Tryd.prog) = some ac80 := by kernel_rfl
theorem go80 {vals : List V} {v : V} (ac : AC) (he : ac.erase = ac80) (hw : wpC Tryd.prog 0 ac (retQ [.tmp 4, .tmp 5, .tmp 6] v) ⟨vals ++ List.replicate (13 - vals.length) (.tup []), []⟩) : CallP Tryd.prog 80 vals v :=
  call_of Tryd.func80 rfl rfl rfl (cc80.trans (congrArg some he.symm)) hw
/-- testbench/testbenchref08.Split -/
def ac81 : AC :=
  .seq (.reg 0 [⟨(some 2), 0, none, (.op (.mov (.k (.d (.str [])))))⟩,
    ⟨(some 3), 0, none, (.op (.mov (.k (.d (.int .i64 0)))))⟩,
    ⟨(some 4), 0, none, (.op (.mov (.k (.d (.bool false)))))⟩])
  (.seq (.seq (.reg 0 [⟨(some 7), 0, none, (.op (.mov (.t 0)))⟩,
    ⟨(some 8), 0, none, (.op (.len true (.t 7)))⟩,
    ⟨(some 9), 0, none, (.op (.bin .lss (.t 8) (.k (.d (.int .i64 4)))))⟩,
    ⟨(some 10), 0, none, (.op (.mov (.t 9)))⟩,
    ⟨(some 11), 0, (some (10, false)), (.op (.mov (.t 0)))⟩,
    ⟨(some 12), 0, (some (10, false)), (.op (.mov (.t 0)))⟩,
    ⟨(some 13), 0, (some (10, false)), (.op (.len true (.t 12)))⟩,
    ⟨(some 14), 0, (some (10, false)), (.op (.bin .sub (.t 13) (.k (.d (.int .i64 1)))))⟩,
    ⟨(some 15), 0, (some (10, false)), (.op (.idxS (.t 11) (.t 14)))⟩,
    ⟨(some 16), 0, (some (10, false)), (.op (.bin .neq (.t 15) (.k (.d (.int .u8 93)))))⟩,
    ⟨(some 17), 0, none, (.op (.pick (.t 10) (.k (.d (.bool true))) (.t 16)))⟩,
    ⟨(some 18), 0, none, (.op (.mov (.t 17)))⟩,
    ⟨(some 19), 0, (some (18, false)), (.op (.mov (.t 0)))⟩,
    ⟨(some 20), 0, (some (18, false)), (.op (.mov (.t 0)))⟩,
    ⟨(some 21), 0, (some (18, false)), (.op (.len true (.t 20)))⟩,
    ⟨(some 22), 0, (some (18, false)), (.op (.bin .sub (.t 21) (.k (.d (.int .i64 3)))))⟩,
    ⟨(some 23), 0, (some (18, false)), (.op (.idxS (.t 19) (.t 22)))⟩,
    ⟨(some 24), 0, (some (18, false)), (.op (.bin .neq (.t 23) (.k (.d (.int .u8 91)))))⟩,
    ⟨(some 25), 0, none, (.op (.pick (.t 18) (.k (.d (.bool true))) (.t 24)))⟩])
  (.cond (.t 25)
    (.seq (.reg 0 [⟨(some 2), 0, none, (.op (.mov (.k (.d (.str [])))))⟩,
      ⟨(some 3), 0, none, (.op (.mov (.k (.d (.int .i64 0)))))⟩,
      ⟨(some 4), 0, none, (.op (.mov (.k (.d (.bool false)))))⟩])
    (.ret))
    (.skip)))
  (.seq (.reg 0 [⟨(some 26), 0, none, (.op (.mov (.t 0)))⟩,
    ⟨(some 27), 0, none, (.op (.mov (.t 0)))⟩,
    ⟨(some 28), 0, none, (.op (.len true (.t 27)))⟩,
    ⟨(some 29), 0, none, (.op (.bin .sub (.t 28) (.k (.d (.int .i64 2)))))⟩,
    ⟨(some 30), 0, none, (.op (.idxS (.t 26) (.t 29)))⟩,
    ⟨(some 31), 0, none, (.op (.conv .i64 (.t 30)))⟩,
    ⟨(some 32), 0, none, (.op (.bin .sub (.t 31) (.k (.d (.int .i64 48)))))⟩,
    ⟨(some 5), 0, none, (.op (.mov (.t 32)))⟩])
  (.seq (.reg 0 [⟨(some 33), 0, none, (.op (.mov (.t 0)))⟩,
    ⟨(some 34), 0, none, (.op (.mov (.t 0)))⟩,
    ⟨(some 35), 0, none, (.op (.len true (.t 34)))⟩,
    ⟨(some 36), 0, none, (.op (.bin .sub (.t 35) (.k (.d (.int .i64 3)))))⟩,
    ⟨(some 37), 0, none, (.op (.slice 0 (.t 33) none (some (.t 36))))⟩,
    ⟨(some 6), 0, none, (.op (.mov (.t 37)))⟩])
  (.seq (.seq (.reg 0 [⟨(some 38), 0, none, (.op (.mov (.t 5)))⟩,
    ⟨(some 39), 0, none, (.op (.bin .lss (.t 38) (.k (.d (.int .i64 0)))))⟩,
    ⟨(some 40), 0, none, (.op (.mov (.t 39)))⟩,
    ⟨(some 41), 0, (some (40, false)), (.op (.mov (.t 5)))⟩,
    ⟨(some 42), 0, (some (40, false)), (.op (.bin .geq (.t 41) (.k (.d (.int .i64 8)))))⟩,
    ⟨(some 43), 0, none, (.op (.pick (.t 40) (.k (.d (.bool true))) (.t 42)))⟩,
    ⟨(some 44), 0, none, (.op (.mov (.t 43)))⟩,
    ⟨(some 45), 0, (some (44, false)), (.op (.mov (.t 6)))⟩,
    ⟨(some 46), 0, (some (44, false)), (.call (.k (.fn (.func 37) [] [])) [(.t 45)])⟩,
    ⟨(some 47), 0, (some (44, false)), (.op (.un .not (.t 46)))⟩,
    ⟨(some 48), 0, none, (.op (.pick (.t 44) (.k (.d (.bool true))) (.t 47)))⟩])
  (.cond (.t 48)
    (.seq (.reg 0 [⟨(some 2), 0, none, (.op (.mov (.k (.d (.str [])))))⟩,
      ⟨(some 3), 0, none, (.op (.mov (.k (.d (.int .i64 0)))))⟩,
      ⟨(some 4), 0, none, (.op (.mov (.k (.d (.bool false)))))⟩])
    (.ret))
    (.skip)))
  (.seq (.reg 0 [⟨(some 49), 0, none, (.op (.mov (.t 6)))⟩,
    ⟨(some 50), 0, none, (.op (.mov (.t 5)))⟩,
    ⟨(some 2), 0, none, (.op (.mov (.t 49)))⟩,
    ⟨(some 3), 0, none, (.op (.mov (.t 50)))⟩,
    ⟨(some 4), 0, none, (.op (.mov (.k (.d (.bool true)))))⟩])
  (.ret))))))
theorem cc81 : Tryd.f81.body.bind (compC Tryd.prog) = some ac81 := by kernel_rfl
theorem go81 {vals : List V} {v : V} (ac : AC) (he : ac.erase = ac81) (hw : wpC Tryd.prog 0 ac (retQ [.tmp 2, .tmp 3, .tmp 4] v) ⟨vals ++ List.replicate (51 - vals.length) (.tup []), []⟩) : CallP Tryd.prog 81 vals v :=
  call_of Tryd.func81 rfl rfl rfl (cc81.trans (congrArg some he.symm)) hw
/-- internal/stringslite.Cut -/
def ac82 : AC :=
  .seq (.reg 0 [⟨(some 4), 0, none, (.op (.mov (.k (.d (.str [])))))⟩,
    ⟨(some 5), 0, none, (.op (.mov (.k (.d (.str [])))))⟩,
    ⟨(some 6), 0, none, (.op (.mov (.k (.d (.bool false)))))⟩])
  (.seq (.seq (.reg 0 [⟨(some 8), 0, none, (.op (.mov (.t 0)))⟩,
    ⟨(some 9), 0, none, (.op (.mov (.t 1)))⟩,
    ⟨(some 10), 0, none, (.call (.k (.fn (.func 83) [] [])) [(.t 8), (.t 9)])⟩,
    ⟨(some 7), 0, none, (.op (.mov (.t 10)))⟩])
  (.seq (.reg 0 [⟨(some 11), 0, none, (.op (.mov (.t 7)))⟩,
    ⟨(some 12), 0, none, (.op (.bin .geq (.t 11) (.k (.d (.int .i64 0)))))⟩])
  (.cond (.t 12)
    (.seq (.regD 0 [(⟨(some 13), 0, none, (.op (.mov (.t 0)))⟩, []),
      (⟨(some 14), 0, none, (.op (.mov (.t 7)))⟩, []),
      (⟨(some 15), 0, none, (.op (.slice 0 (.t 13) none (some (.t 14))))⟩, [0, 1]),
      (⟨(some 16), 0, none, (.op (.mov (.t 0)))⟩, []),
      (⟨(some 17), 0, none, (.op (.mov (.t 7)))⟩, []),
      (⟨(some 18), 0, none, (.op (.mov (.t 1)))⟩, []),
      (⟨(some 19), 0, none, (.op (.len true (.t 18)))⟩, [5]),
      (⟨(some 20), 0, none, (.op (.bin .add (.t 17) (.t 19)))⟩, [4, 6, 5]),
      (⟨(some 21), 0, none, (.op (.slice 0 (.t 16) (some (.t 20)) none))⟩, [3, 7, 4, 6, 5]),
      (⟨(some 4), 0, none, (.op (.mov (.t 15)))⟩, [2, 0, 1]),
      (⟨(some 5), 0, none, (.op (.mov (.t 21)))⟩, [8, 3, 7, 4, 6, 5, 9, 2, 0, 1]),
      (⟨(some 6), 0, none, (.op (.mov (.k (.d (.bool true)))))⟩, [10, 8, 3, 7, 4, 6, 5, 9, 2, 0, 1])])
    (.ret))
    (.skip))))
  (.seq (.reg 0 [⟨(some 22), 0, none, (.op (.mov (.t 0)))⟩,
    ⟨(some 4), 0, none, (.op (.mov (.t 22)))⟩,
    ⟨(some 5), 0, none, (.op (.mov (.k (.d (.str [])))))⟩,
    ⟨(some 6), 0, none, (.op (.mov (.k (.d (.bool false)))))⟩])
  (.ret)))
theorem cc82 : Tryd.f82.body.bind (compC Tryd.prog) = some ac82 := by kernel_rfl
theorem go82 {vals : List V} {v : V} (ac : AC) (he : ac.erase = ac82) (hw : wpC Tryd.prog 0 ac (retQ [.tmp 4, .tmp 5, .tmp 6] v) ⟨vals ++ List.replicate (23 - vals.length) (.tup []), []⟩) : CallP Tryd.prog 82 vals v :=
  call_of Tryd.func82 rfl rfl rfl (cc82.trans (congrArg some he.symm)) hw
/-- internal/stringslite.Index -/
def ac83 : AC :=
  .seq (.reg 0 [⟨(some 4), 0, none, (.op (.mov (.k (.d (.int .i64 0)))))⟩])
  (.seq (.reg 0 [⟨(some 14), 0, none, (.op (.mov (.t 1)))⟩,
    ⟨(some 15), 0, none, (.op (.len true (.t 14)))⟩,
    ⟨(some 5), 0, none, (.op (.mov (.t 15)))⟩])
  (.seq (.block 0
   (.seq (.reg 0 [⟨(some 17), 0, none, (.op (.mov (.t 5)))⟩,
     ⟨(some 18), 0, none, (.op (.bin .eql (.t 17) (.k (.d (.int .i64 0)))))⟩,
     ⟨(some 19), 0, none, (.op (.mov (.t 18)))⟩,
     ⟨(some 20), 0, (some (19, false)), (.op (.mov (.t 1)))⟩,
     ⟨(some 21), 0, (some (19, false)), (.op (.mov (.t 0)))⟩,
     ⟨(some 22), 0, (some (19, false)), (.op (.bin .eql (.t 20) (.t 21)))⟩,
     ⟨(some 23), 0, none, (.op (.pick (.t 19) (.k (.d (.bool true))) (.t 22)))⟩,
     ⟨(some 16), 0, none, (.op (.mov (.t 23)))⟩])
   (.cond (.t 16)
     (.seq (.reg 0 [⟨(some 4), 0, none, (.op (.mov (.k (.d (.int .i64 0)))))⟩])
     (.ret))
     (.seq (.reg 0 [⟨(some 25), 0, none, (.op (.mov (.t 5)))⟩,
       ⟨(some 26), 0, none, (.op (.bin .eql (.t 25) (.k (.d (.int .i64 1)))))⟩,
       ⟨(some 24), 0, none, (.op (.mov (.t 26)))⟩])
     (.cond (.t 24)
       (.seq (.reg 0 [⟨(some 27), 0, none, (.op (.mov (.t 0)))⟩,
         ⟨(some 28), 0, none, (.op (.mov (.t 1)))⟩,
         ⟨(some 29), 0, none, (.op (.idxS (.t 28) (.k (.d (.int .i64 0)))))⟩,
         ⟨(some 30), 0, none, (.call (.k (.fn (.func 84) [] [])) [(.t 27), (.t 29)])⟩,
         ⟨(some 4), 0, none, (.op (.mov (.t 30)))⟩])
       (.ret))
       (.seq (.reg 0 [⟨(some 32), 0, none, (.op (.mov (.t 5)))⟩,
         ⟨(some 33), 0, none, (.op (.mov (.t 0)))⟩,
         ⟨(some 34), 0, none, (.op (.len true (.t 33)))⟩,
         ⟨(some 35), 0, none, (.op (.bin .geq (.t 32) (.t 34)))⟩,
         ⟨(some 31), 0, none, (.op (.mov (.t 35)))⟩])
       (.cond (.t 31)
         (.seq (.reg 0 [⟨(some 4), 0, none, (.op (.mov (.k (.d (.int .i64 (-1))))))⟩])
         (.ret))
         (.seq (.reg 0 [⟨(some 37), 0, none, (.op (.mov (.t 5)))⟩,
           ⟨(some 38), 0, none, (.op (.bad))⟩,
           ⟨(some 39), 0, none, (.op (.bin .leq (.t 37) (.t 38)))⟩,
           ⟨(some 40), 0, none, (.op (.mov (.t 39)))⟩,
           ⟨(some 41), 0, (some (40, true)), (.op (.mov (.t 0)))⟩,
           ⟨(some 42), 0, (some (40, true)), (.op (.len true (.t 41)))⟩,
           ⟨(some 43), 0, (some (40, true)), (.op (.bin .leq (.t 42) (.k (.d (.int .i64 64)))))⟩,
           ⟨(some 44), 0, none, (.op (.pick (.t 40) (.t 43) (.k (.d (.bool false)))))⟩,
           ⟨(some 36), 0, none, (.op (.mov (.t 44)))⟩])
         (.cond (.t 36)
           (.seq (.reg 0 [⟨(some 45), 0, none, (.op (.mov (.t 0)))⟩,
             ⟨(some 46), 0, none, (.op (.mov (.t 1)))⟩,
             ⟨(some 47), 0, none, (.call (.k (.fn (.func 85) [] [])) [(.t 45), (.t 46)])⟩,
             ⟨(some 4), 0, none, (.op (.mov (.t 47)))⟩])
           (.ret))
           (.skip))))))))))
  (.seq (.reg 0 [⟨(some 48), 0, none, (.op (.mov (.t 1)))⟩,
    ⟨(some 49), 0, none, (.op (.idxS (.t 48) (.k (.d (.int .i64 0)))))⟩,
    ⟨(some 6), 0, none, (.op (.mov (.t 49)))⟩])
  (.seq (.reg 0 [⟨(some 50), 0, none, (.op (.mov (.t 1)))⟩,
    ⟨(some 51), 0, none, (.op (.idxS (.t 50) (.k (.d (.int .i64 1)))))⟩,
    ⟨(some 7), 0, none, (.op (.mov (.t 51)))⟩])
  (.seq (.reg 0 [⟨(some 8), 0, none, (.op (.mov (.k (.d (.int .i64 0)))))⟩])
  (.seq (.reg 0 [⟨(some 52), 0, none, (.op (.mov (.t 0)))⟩,
    ⟨(some 53), 0, none, (.op (.len true (.t 52)))⟩,
    ⟨(some 54), 0, none, (.op (.mov (.t 5)))⟩,
    ⟨(some 55), 0, none, (.op (.bin .sub (.t 53) (.t 54)))⟩,
    ⟨(some 56), 0, none, (.op (.bin .add (.t 55) (.k (.d (.int .i64 1)))))⟩,
    ⟨(some 9), 0, none, (.op (.mov (.t 56)))⟩])
  (.seq (.reg 0 [⟨(some 10), 0, none, (.op (.mov (.k (.d (.int .i64 0)))))⟩])
  (.seq (.block 1
   (.loop
    (.seq (.seq (.reg 0 [⟨(some 57), 0, none, (.op (.mov (.t 8)))⟩,
      ⟨(some 58), 0, none, (.op (.mov (.t 9)))⟩,
      ⟨(some 59), 0, none, (.op (.bin .lss (.t 57) (.t 58)))⟩])
    (.cond (.t 59)
      (.skip)
      (.exit 1)))
    (.block 2
     (.seq (.seq (.reg 0 [⟨(some 60), 0, none, (.op (.mov (.t 0)))⟩,
       ⟨(some 61), 0, none, (.op (.mov (.t 8)))⟩,
       ⟨(some 62), 0, none, (.op (.idxS (.t 60) (.t 61)))⟩,
       ⟨(some 63), 0, none, (.op (.mov (.t 6)))⟩,
       ⟨(some 64), 0, none, (.op (.bin .neq (.t 62) (.t 63)))⟩])
     (.cond (.t 64)
       (.seq (.reg 0 [⟨(some 65), 0, none, (.op (.mov (.t 0)))⟩,
         ⟨(some 66), 0, none, (.op (.mov (.t 8)))⟩,
         ⟨(some 67), 0, none, (.op (.bin .add (.t 66) (.k (.d (.int .i64 1)))))⟩,
         ⟨(some 68), 0, none, (.op (.mov (.t 9)))⟩,
         ⟨(some 69), 0, none, (.op (.slice 0 (.t 65) (some (.t 67)) (some (.t 68))))⟩,
         ⟨(some 70), 0, none, (.op (.mov (.t 6)))⟩,
         ⟨(some 71), 0, none, (.call (.k (.fn (.func 84) [] [])) [(.t 69), (.t 70)])⟩,
         ⟨(some 11), 0, none, (.op (.mov (.t 71)))⟩])
       (.seq (.seq (.reg 0 [⟨(some 72), 0, none, (.op (.mov (.t 11)))⟩,
         ⟨(some 73), 0, none, (.op (.bin .lss (.t 72) (.k (.d (.int .i64 0)))))⟩])
       (.cond (.t 73)
         (.seq (.reg 0 [⟨(some 4), 0, none, (.op (.mov (.k (.d (.int .i64 (-1))))))⟩])
         (.ret))
         (.skip)))
       (.reg 0 [⟨(some 74), 0, none, (.op (.mov (.t 8)))⟩,
         ⟨(some 75), 0, none, (.op (.mov (.t 11)))⟩,
         ⟨(some 76), 0, none, (.op (.bin .add (.t 75) (.k (.d (.int .i64 1)))))⟩,
         ⟨(some 77), 0, none, (.op (.bin .add (.t 74) (.t 76)))⟩,
         ⟨(some 8), 0, none, (.op (.mov (.t 77)))⟩])))
       (.skip)))
     (.seq (.seq (.reg 0 [⟨(some 78), 0, none, (.op (.mov (.t 0)))⟩,
       ⟨(some 79), 0, none, (.op (.mov (.t 8)))⟩,
       ⟨(some 80), 0, none, (.op (.bin .add (.t 79) (.k (.d (.int .i64 1)))))⟩,
       ⟨(some 81), 0, none, (.op (.idxS (.t 78) (.t 80)))⟩,
       ⟨(some 82), 0, none, (.op (.mov (.t 7)))⟩,
       ⟨(some 83), 0, none, (.op (.bin .eql (.t 81) (.t 82)))⟩,
       ⟨(some 84), 0, none, (.op (.mov (.t 83)))⟩,
       ⟨(some 85), 0, (some (84, true)), (.op (.mov (.t 0)))⟩,
       ⟨(some 86), 0, (some (84, true)), (.op (.mov (.t 8)))⟩,
       ⟨(some 87), 0, (some (84, true)), (.op (.mov (.t 8)))⟩,
       ⟨(some 88), 0, (some (84, true)), (.op (.mov (.t 5)))⟩,
       ⟨(some 89), 0, (some (84, true)), (.op (.bin .add (.t 87) (.t 88)))⟩,
       ⟨(some 90), 0, (some (84, true)), (.op (.slice 0 (.t 85) (some (.t 86)) (some (.t 89))))⟩,
       ⟨(some 91), 0, (some (84, true)), (.op (.mov (.t 1)))⟩,
       ⟨(some 92), 0, (some (84, true)), (.op (.bin .eql (.t 90) (.t 91)))⟩,
       ⟨(some 93), 0, none, (.op (.pick (.t 84) (.t 92) (.k (.d (.bool false)))))⟩])
     (.cond (.t 93)
       (.seq (.reg 0 [⟨(some 94), 0, none, (.op (.mov (.t 8)))⟩,
         ⟨(some 4), 0, none, (.op (.mov (.t 94)))⟩])
       (.ret))
       (.skip)))
     (.seq (.reg 0 [⟨(some 95), 0, none, (.op (.mov (.t 8)))⟩,
       ⟨(some 96), 0, none, (.op (.bin .add (.t 95) (.k (.d (.int .i64 1)))))⟩,
       ⟨(some 8), 0, none, (.op (.mov (.t 96)))⟩])
     (.seq (.reg 0 [⟨(some 97), 0, none, (.op (.mov (.t 10)))⟩,
       ⟨(some 98), 0, none, (.op (.bin .add (.t 97) (.k (.d (.int .i64 1)))))⟩,
       ⟨(some 10), 0, none, (.op (.mov (.t 98)))⟩])
     (.seq (.reg 0 [⟨(some 99), 0, none, (.op (.mov (.t 5)))⟩,
       ⟨(some 100), 0, none, (.op (.bad))⟩,
       ⟨(some 101), 0, none, (.op (.bin .leq (.t 99) (.t 100)))⟩,
       ⟨(some 102), 0, none, (.op (.mov (.t 101)))⟩,
       ⟨(some 103), 0, (some (102, true)), (.op (.mov (.t 10)))⟩,
       ⟨(some 104), 0, (some (102, true)), (.op (.mov (.t 8)))⟩,
       ⟨(some 105), 0, (some (102, true)), (.call (.k (.fn (.func 86) [] [])) [(.t 104)])⟩,
       ⟨(some 106), 0, (some (102, true)), (.op (.bin .gtr (.t 103) (.t 105)))⟩,
       ⟨(some 107), 0, none, (.op (.pick (.t 102) (.t 106) (.k (.d (.bool false)))))⟩])
     (.cond (.t 107)
       (.seq (.reg 0 [⟨(some 108), 0, none, (.op (.mov (.t 0)))⟩,
         ⟨(some 109), 0, none, (.op (.mov (.t 8)))⟩,
         ⟨(some 110), 0, none, (.op (.slice 0 (.t 108) (some (.t 109)) none))⟩,
         ⟨(some 111), 0, none, (.op (.mov (.t 1)))⟩,
         ⟨(some 112), 0, none, (.call (.k (.fn (.func 85) [] [])) [(.t 110), (.t 111)])⟩,
         ⟨(some 12), 0, none, (.op (.mov (.t 112)))⟩])
       (.seq (.seq (.reg 0 [⟨(some 113), 0, none, (.op (.mov (.t 12)))⟩,
         ⟨(some 114), 0, none, (.op (.bin .geq (.t 113) (.k (.d (.int .i64 0)))))⟩])
       (.cond (.t 114)
         (.seq (.reg 0 [⟨(some 115), 0, none, (.op (.mov (.t 12)))⟩,
           ⟨(some 116), 0, none, (.op (.mov (.t 8)))⟩,
           ⟨(some 117), 0, none, (.op (.bin .add (.t 115) (.t 116)))⟩,
           ⟨(some 4), 0, none, (.op (.mov (.t 117)))⟩])
         (.ret))
         (.skip)))
       (.seq (.reg 0 [⟨(some 4), 0, none, (.op (.mov (.k (.d (.int .i64 (-1))))))⟩])
       (.ret))))
       (.seq (.reg 0 [⟨(some 118), 0, none, (.op (.mov (.t 5)))⟩,
         ⟨(some 119), 0, none, (.op (.bad))⟩,
         ⟨(some 120), 0, none, (.op (.bin .gtr (.t 118) (.t 119)))⟩,
         ⟨(some 121), 0, none, (.op (.mov (.t 120)))⟩,
         ⟨(some 122), 0, (some (121, true)), (.op (.mov (.t 10)))⟩,
         ⟨(some 123), 0, (some (121, true)), (.op (.mov (.t 8)))⟩,
         ⟨(some 124), 0, (some (121, true)), (.op (.bin .shr (.t 123) (.k (.d (.int .u64 4)))))⟩,
         ⟨(some 125), 0, (some (121, true)), (.op (.bin .add (.k (.d (.int .i64 4))) (.t 124)))⟩,
         ⟨(some 126), 0, (some (121, true)), (.op (.bin .geq (.t 122) (.t 125)))⟩,
         ⟨(some 127), 0, none, (.op (.pick (.t 121) (.t 126) (.k (.d (.bool false)))))⟩,
         ⟨(some 128), 0, none, (.op (.mov (.t 127)))⟩,
         ⟨(some 129), 0, (some (128, true)), (.op (.mov (.t 8)))⟩,
         ⟨(some 130), 0, (some (128, true)), (.op (.mov (.t 9)))⟩,
         ⟨(some 131), 0, (some (128, true)), (.op (.bin .lss (.t 129) (.t 130)))⟩,
         ⟨(some 132), 0, none, (.op (.pick (.t 128) (.t 131) (.k (.d (.bool false)))))⟩])
       (.cond (.t 132)
         (.seq (.reg 0 [⟨(some 133), 0, none, (.op (.mov (.t 0)))⟩,
           ⟨(some 134), 0, none, (.op (.mov (.t 8)))⟩,
           ⟨(some 135), 0, none, (.op (.slice 0 (.t 133) (some (.t 134)) none))⟩,
           ⟨(some 136), 0, none, (.op (.mov (.t 1)))⟩,
           ⟨(some 137), 0, none, (.call (.k (.fn (.func 87) [] [])) [(.t 135), (.t 136)])⟩,
           ⟨(some 13), 0, none, (.op (.mov (.t 137)))⟩])
         (.seq (.seq (.reg 0 [⟨(some 138), 0, none, (.op (.mov (.t 13)))⟩,
           ⟨(some 139), 0, none, (.op (.bin .lss (.t 138) (.k (.d (.int .i64 0)))))⟩])
         (.cond (.t 139)
           (.seq (.reg 0 [⟨(some 4), 0, none, (.op (.mov (.k (.d (.int .i64 (-1))))))⟩])
           (.ret))
           (.skip)))
         (.seq (.reg 0 [⟨(some 140), 0, none, (.op (.mov (.t 8)))⟩,
           ⟨(some 141), 0, none, (.op (.mov (.t 13)))⟩,
           ⟨(some 142), 0, none, (.op (.bin .add (.t 140) (.t 141)))⟩,
           ⟨(some 4), 0, none, (.op (.mov (.t 142)))⟩])
         (.ret))))
         (.skip)))))))))))))
  (.seq (.reg 0 [⟨(some 4), 0, none, (.op (.mov (.k (.d (.int .i64 (-1))))))⟩])
  (.ret))))))))))
theorem cc83 : Tryd.f83.body.bind (compC Tryd.prog) = some ac83 := by kernel_rfl
theorem go83 {vals : List V} {v : V} (ac : AC) (he : ac.erase = ac83) (hw : wpC Tryd.prog 0 ac (retQ [.tmp 4] v) ⟨vals ++ List.replicate (143 - vals.length) (.tup []), []⟩) : CallP Tryd.prog 83 vals v :=
  call_of Tryd.func83 rfl rfl rfl (cc83.trans (congrArg some he.symm)) hw
/-- internal/stringslite.IndexByte -/
def ac84 : AC :=
  .seq (.reg 0 [⟨(some 4), 0, none, (.op (.mov (.k (.d (.int .i64 0)))))⟩])
  (.seq (.reg 0 [⟨(some 5), 0, none, (.op (.mov (.t 0)))⟩,
    ⟨(some 6), 0, none, (.op (.mov (.t 1)))⟩,
    ⟨(some 7), 0, none, (.op (.idxB (.t 5) (.t 6)))⟩,
    ⟨(some 4), 0, none, (.op (.mov (.t 7)))⟩])
  (.ret))
theorem cc84 : Tryd.f84.body.bind (compC Tryd.prog) = some ac84 := by kernel_rfl
theorem go84 {vals : List V} {v : V} (ac : AC) (he : ac.erase = ac84) (hw : wpC Tryd.prog 0 ac (retQ [.tmp 4] v) ⟨vals ++ List.replicate (8 - vals.length) (.tup []), []⟩) : CallP Tryd.prog 84 vals v :=
  call_of Tryd.func84 rfl rfl rfl (cc84.trans (congrArg some he.symm)) hw
/-- internal/bytealg.Cutover -/
def ac86 : AC :=
  .seq (.reg 0 [⟨(some 2), 0, none, (.op (.mov (.k (.d (.int .i64 0)))))⟩])
  (.seq (.reg 0 [⟨(some 3), 0, none, (.op (.mov (.t 0)))⟩,
    ⟨(some 4), 0, none, (.op (.bin .add (.t 3) (.k (.d (.int .i64 16)))))⟩,
    ⟨(some 5), 0, none, (.op (.bin .quo (.t 4) (.k (.d (.int .i64 8)))))⟩,
    ⟨(some 2), 0, none, (.op (.mov (.t 5)))⟩])
  (.ret))
theorem cc86 : Tryd.f86.body.bind (compC Tryd.prog) = some ac86 := by kernel_rfl
theorem go86 {vals : List V} {v : V} (ac : AC) (he : ac.erase = ac86) (hw : wpC Tryd.prog 0 ac (retQ [.tmp 2] v) ⟨vals ++ List.replicate (6 - vals.length) (.tup []), []⟩) : CallP Tryd.prog 86 vals v :=
  call_of Tryd.func86 rfl rfl rfl (cc86.trans (congrArg some he.symm)) hw
/-- internal/bytealg.IndexRabinKarp[string] -/
def ac87 : AC :=
  .seq (.reg 0 [⟨(some 4), 0, none, (.op (.mov (.k (.d (.int .i64 0)))))⟩])
  (.seq (.reg 0 [⟨(some 12), 0, none, (.op (.mov (.t 1)))⟩,
    ⟨(some 13), 0, none, (.call (.k (.fn (.func 89) [] [])) [(.t 12)])⟩,
    ⟨(some 11), 0, none, (.op (.mov (.t 13)))⟩,
    ⟨(some 14), 0, none, (.op (.ext (.t 11) 0))⟩,
    ⟨(some 15), 0, none, (.op (.ext (.t 11) 1))⟩,
    ⟨(some 5), 0, none, (.op (.mov (.t 14)))⟩,
    ⟨(some 6), 0, none, (.op (.mov (.t 15)))⟩])
  (.seq (.reg 0 [⟨(some 16), 0, none, (.op (.mov (.t 1)))⟩,
    ⟨(some 17), 0, none, (.op (.len true (.t 16)))⟩,
    ⟨(some 7), 0, none, (.op (.mov (.t 17)))⟩])
  (.seq (.reg 0 [⟨(some 8), 0, none, (.op (.mov (.k (.d (.int .u32 0)))))⟩])
  (.seq (.seq (.reg 0 [⟨(some 9), 0, none, (.op (.mov (.k (.d (.int .i64 0)))))⟩])
  (.block 0
   (.loop
    (.seq (.seq (.reg 0 [⟨(some 18), 0, none, (.op (.mov (.t 9)))⟩,
      ⟨(some 19), 0, none, (.op (.mov (.t 7)))⟩,
      ⟨(some 20), 0, none, (.op (.bin .lss (.t 18) (.t 19)))⟩])
    (.cond (.t 20)
      (.skip)
      (.exit 0)))
    (.seq (.block 1
     (.reg 0 [⟨(some 23), 0, none, (.op (.mov (.t 8)))⟩,
       ⟨(some 24), 0, none, (.op (.bin .mul (.t 23) (.k (.d (.int .u32 16777619)))))⟩,
       ⟨(some 25), 0, none, (.op (.mov (.t 0)))⟩,
       ⟨(some 26), 0, none, (.op (.mov (.t 9)))⟩,
       ⟨(some 27), 0, none, (.op (.idxS (.t 25) (.t 26)))⟩,
       ⟨(some 28), 0, none, (.op (.conv .u32 (.t 27)))⟩,
       ⟨(some 29), 0, none, (.op (.bin .add (.t 24) (.t 28)))⟩,
       ⟨(some 8), 0, none, (.op (.mov (.t 29)))⟩]))
    (.reg 0 [⟨(some 21), 0, none, (.op (.mov (.t 9)))⟩,
      ⟨(some 22), 0, none, (.op (.bin .add (.t 21) (.k (.d (.int .i64 1)))))⟩,
      ⟨(some 9), 0, none, (.op (.mov (.t 22)))⟩]))))))
  (.seq (.seq (.reg 0 [⟨(some 30), 0, none, (.op (.mov (.t 8)))⟩,
    ⟨(some 31), 0, none, (.op (.mov (.t 5)))⟩,
    ⟨(some 32), 0, none, (.op (.bin .eql (.t 30) (.t 31)))⟩,
    ⟨(some 33), 0, none, (.op (.mov (.t 32)))⟩,
    ⟨(some 34), 0, (some (33, true)), (.op (.mov (.t 0)))⟩,
    ⟨(some 35), 0, (some (33, true)), (.op (.mov (.t 7)))⟩,
    ⟨(some 36), 0, (some (33, true)), (.op (.slice 0 (.t 34) none (some (.t 35))))⟩,
    ⟨(some 37), 0, (some (33, true)), (.op (.mov (.t 1)))⟩,
    ⟨(some 38), 0, (some (33, true)), (.op (.bin .eql (.t 36) (.t 37)))⟩,
    ⟨(some 39), 0, none, (.op (.pick (.t 33) (.t 38) (.k (.d (.bool false)))))⟩])
  (.cond (.t 39)
    (.seq (.reg 0 [⟨(some 4), 0, none, (.op (.mov (.k (.d (.int .i64 0)))))⟩])
    (.ret))
    (.skip)))
  (.seq (.seq (.reg 0 [⟨(some 40), 0, none, (.op (.mov (.t 7)))⟩,
    ⟨(some 10), 0, none, (.op (.mov (.t 40)))⟩])
  (.block 2
   (.loop
    (.seq (.seq (.reg 0 [⟨(some 41), 0, none, (.op (.mov (.t 10)))⟩,
      ⟨(some 42), 0, none, (.op (.mov (.t 0)))⟩,
      ⟨(some 43), 0, none, (.op (.len true (.t 42)))⟩,
      ⟨(some 44), 0, none, (.op (.bin .lss (.t 41) (.t 43)))⟩])
    (.cond (.t 44)
      (.skip)
      (.exit 2)))
    (.block 3
     (.seq (.reg 0 [⟨(some 45), 0, none, (.op (.mov (.t 8)))⟩,
       ⟨(some 46), 0, none, (.op (.bin .mul (.t 45) (.k (.d (.int .u32 16777619)))))⟩,
       ⟨(some 8), 0, none, (.op (.mov (.t 46)))⟩])
     (.seq (.reg 0 [⟨(some 47), 0, none, (.op (.mov (.t 8)))⟩,
       ⟨(some 48), 0, none, (.op (.mov (.t 0)))⟩,
       ⟨(some 49), 0, none, (.op (.mov (.t 10)))⟩,
       ⟨(some 50), 0, none, (.op (.idxS (.t 48) (.t 49)))⟩,
       ⟨(some 51), 0, none, (.op (.conv .u32 (.t 50)))⟩,
       ⟨(some 52), 0, none, (.op (.bin .add (.t 47) (.t 51)))⟩,
       ⟨(some 8), 0, none, (.op (.mov (.t 52)))⟩])
     (.seq (.reg 0 [⟨(some 53), 0, none, (.op (.mov (.t 8)))⟩,
       ⟨(some 54), 0, none, (.op (.mov (.t 6)))⟩,
       ⟨(some 55), 0, none, (.op (.mov (.t 0)))⟩,
       ⟨(some 56), 0, none, (.op (.mov (.t 10)))⟩,
       ⟨(some 57), 0, none, (.op (.mov (.t 7)))⟩,
       ⟨(some 58), 0, none, (.op (.bin .sub (.t 56) (.t 57)))⟩,
       ⟨(some 59), 0, none, (.op (.idxS (.t 55) (.t 58)))⟩,
       ⟨(some 60), 0, none, (.op (.conv .u32 (.t 59)))⟩,
       ⟨(some 61), 0, none, (.op (.bin .mul (.t 54) (.t 60)))⟩,
       ⟨(some 62), 0, none, (.op (.bin .sub (.t 53) (.t 61)))⟩,
       ⟨(some 8), 0, none, (.op (.mov (.t 62)))⟩])
     (.seq (.reg 0 [⟨(some 63), 0, none, (.op (.mov (.t 10)))⟩,
       ⟨(some 64), 0, none, (.op (.bin .add (.t 63) (.k (.d (.int .i64 1)))))⟩,
       ⟨(some 10), 0, none, (.op (.mov (.t 64)))⟩])
     (.seq (.reg 0 [⟨(some 65), 0, none, (.op (.mov (.t 8)))⟩,
       ⟨(some 66), 0, none, (.op (.mov (.t 5)))⟩,
       ⟨(some 67), 0, none, (.op (.bin .eql (.t 65) (.t 66)))⟩,
       ⟨(some 68), 0, none, (.op (.mov (.t 67)))⟩,
       ⟨(some 69), 0, (some (68, true)), (.op (.mov (.t 0)))⟩,
       ⟨(some 70), 0, (some (68, true)), (.op (.mov (.t 10)))⟩,
       ⟨(some 71), 0, (some (68, true)), (.op (.mov (.t 7)))⟩,
       ⟨(some 72), 0, (some (68, true)), (.op (.bin .sub (.t 70) (.t 71)))⟩,
       ⟨(some 73), 0, (some (68, true)), (.op (.mov (.t 10)))⟩,
       ⟨(some 74), 0, (some (68, true)), (.op (.slice 0 (.t 69) (some (.t 72)) (some (.t 73))))⟩,
       ⟨(some 75), 0, (some (68, true)), (.op (.mov (.t 1)))⟩,
       ⟨(some 76), 0, (some (68, true)), (.op (.bin .eql (.t 74) (.t 75)))⟩,
       ⟨(some 77), 0, none, (.op (.pick (.t 68) (.t 76) (.k (.d (.bool false)))))⟩])
     (.cond (.t 77)
       (.seq (.reg 0 [⟨(some 78), 0, none, (.op (.mov (.t 10)))⟩,
         ⟨(some 79), 0, none, (.op (.mov (.t 7)))⟩,
         ⟨(some 80), 0, none, (.op (.bin .sub (.t 78) (.t 79)))⟩,
         ⟨(some 4), 0, none, (.op (.mov (.t 80)))⟩])
       (.ret))
       (.skip))))))))))))
  (.seq (.reg 0 [⟨(some 4), 0, none, (.op (.mov (.k (.d (.int .i64 (-1))))))⟩])
  (.ret))))))))
theorem cc87 : Tryd.f87.body.bind (compC Tryd.prog) = some ac87 := by kernel_rfl
theorem go87 {vals : List V} {v : V} (ac : AC) (he : ac.erase = ac87) (hw : wpC Tryd.prog 0 ac (retQ [.tmp 4] v) ⟨vals ++ List.replicate (81 - vals.length) (.tup []), []⟩) : CallP Tryd.prog 87 vals v :=
  call_of Tryd.func87 rfl rfl rfl (cc87.trans (congrArg some he.symm)) hw
/-- internal/bytealg.hashStr[string] -/
def ac89 : AC :=
  .seq (.reg 0 [⟨(some 2), 0, none, (.op (.mov (.k (.d (.int .u32 0)))))⟩,
    ⟨(some 3), 0, none, (.op (.mov (.k (.d (.int .u32 0)))))⟩])
  (.seq (.reg 0 [⟨(some 4), 0, none, (.op (.mov (.k (.d (.int .u32 0)))))⟩])
  (.seq (.seq (.reg 0 [⟨(some 5), 0, none, (.op (.mov (.k (.d (.int .i64 0)))))⟩])
  (.block 0
   (.loop
    (.seq (.seq (.reg 0 [⟨(some 9), 0, none, (.op (.mov (.t 5)))⟩,
      ⟨(some 10), 0, none, (.op (.mov (.t 0)))⟩,
      ⟨(some 11), 0, none, (.op (.len true (.t 10)))⟩,
      ⟨(some 12), 0, none, (.op (.bin .lss (.t 9) (.t 11)))⟩])
    (.cond (.t 12)
      (.skip)
      (.exit 0)))
    (.seq (.block 1
     (.reg 0 [⟨(some 15), 0, none, (.op (.mov (.t 4)))⟩,
       ⟨(some 16), 0, none, (.op (.bin .mul (.t 15) (.k (.d (.int .u32 16777619)))))⟩,
       ⟨(some 17), 0, none, (.op (.mov (.t 0)))⟩,
       ⟨(some 18), 0, none, (.op (.mov (.t 5)))⟩,
       ⟨(some 19), 0, none, (.op (.idxS (.t 17) (.t 18)))⟩,
       ⟨(some 20), 0, none, (.op (.conv .u32 (.t 19)))⟩,
       ⟨(some 21), 0, none, (.op (.bin .add (.t 16) (.t 20)))⟩,
       ⟨(some 4), 0, none, (.op (.mov (.t 21)))⟩]))
    (.reg 0 [⟨(some 13), 0, none, (.op (.mov (.t 5)))⟩,
      ⟨(some 14), 0, none, (.op (.bin .add (.t 13) (.k (.d (.int .i64 1)))))⟩,
      ⟨(some 5), 0, none, (.op (.mov (.t 14)))⟩]))))))
  (.seq (.reg 0 [⟨(some 6), 0, none, (.op (.mov (.k (.d (.int .u32 1)))))⟩,
    ⟨(some 7), 0, none, (.op (.mov (.k (.d (.int .u32 16777619)))))⟩])
  (.seq (.seq (.reg 0 [⟨(some 22), 0, none, (.op (.mov (.t 0)))⟩,
    ⟨(some 23), 0, none, (.op (.len true (.t 22)))⟩,
    ⟨(some 8), 0, none, (.op (.mov (.t 23)))⟩])
  (.block 2
   (.loop
    (.seq (.seq (.reg 0 [⟨(some 24), 0, none, (.op (.mov (.t 8)))⟩,
      ⟨(some 25), 0, none, (.op (.bin .gtr (.t 24) (.k (.d (.int .i64 0)))))⟩])
    (.cond (.t 25)
      (.skip)
      (.exit 2)))
    (.seq (.block 3
     (.seq (.seq (.reg 0 [⟨(some 28), 0, none, (.op (.mov (.t 8)))⟩,
       ⟨(some 29), 0, none, (.op (.bin .and (.t 28) (.k (.d (.int .i64 1)))))⟩,
       ⟨(some 30), 0, none, (.op (.bin .neq (.t 29) (.k (.d (.int .i64 0)))))⟩])
     (.cond (.t 30)
       (.reg 0 [⟨(some 31), 0, none, (.op (.mov (.t 6)))⟩,
         ⟨(some 32), 0, none, (.op (.mov (.t 7)))⟩,
         ⟨(some 33), 0, none, (.op (.bin .mul (.t 31) (.t 32)))⟩,
         ⟨(some 6), 0, none, (.op (.mov (.t 33)))⟩])
       (.skip)))
     (.reg 0 [⟨(some 34), 0, none, (.op (.mov (.t 7)))⟩,
       ⟨(some 35), 0, none, (.op (.mov (.t 7)))⟩,
       ⟨(some 36), 0, none, (.op (.bin .mul (.t 34) (.t 35)))⟩,
       ⟨(some 7), 0, none, (.op (.mov (.t 36)))⟩])))
    (.reg 0 [⟨(some 26), 0, none, (.op (.mov (.t 8)))⟩,
      ⟨(some 27), 0, none, (.op (.bin .shr (.t 26) (.k (.d (.int .u64 1)))))⟩,
      ⟨(some 8), 0, none, (.op (.mov (.t 27)))⟩]))))))
  (.seq (.reg 0 [⟨(some 37), 0, none, (.op (.mov (.t 4)))⟩,
    ⟨(some 38), 0, none, (.op (.mov (.t 6)))⟩,
    ⟨(some 2), 0, none, (.op (.mov (.t 37)))⟩,
    ⟨(some 3), 0, none, (.op (.mov (.t 38)))⟩])
  (.ret))))))
theorem cc89 : Tryd.f89.body.bind (compC Tryd.prog) = some ac89 := by kernel_rfl
theorem go89 {vals : List V} {v : V} (ac : AC) (he : ac.erase = ac89) (hw : wpC Tryd.prog 0 ac (retQ [.tmp 2, .tmp 3] v) ⟨vals ++ List.replicate (39 - vals.length) (.tup []), []⟩) : CallP Tryd.prog 89 vals v :=
  call_of Tryd.func89 rfl rfl rfl (cc89.trans (congrArg some he.symm)) hw
/-- the functions -/
def tab : Tab := tabOf [(3, ac3, 71, [.tmp 4]), (4, ac4, 68, [.tmp 6]), (5, ac5, 163, [.tmp 4]), (6, ac6, 92, [.tmp 6]), (7, ac7, 97, [.tmp 6]), (8, ac8, 141, [.tmp 4]), (9, ac9, 29, [.tmp 6]), (10, ac10, 106, [.tmp 0]), (11, ac11, 32, [.tmp 4, .tmp 5]), (12, ac12, 66, [.tmp 4, .tmp 5]), (13, ac13, 22, [.tmp 4, .tmp 5]), (14, ac14, 32, [.tmp 4, .tmp 5]), (15, ac15, 30, [.tmp 2]), (16, ac16, 38, [.tmp 2]), (17, ac17, 27, [.tmp 4]), (18, ac18, 26, [.tmp 4]), (19, ac19, 32, [.tmp 4, .tmp 5]), (20, ac20, 72, [.tmp 4, .tmp 5]), (21, ac21, 55, [.tmp 6, .tmp 7]), (22, ac22, 60, [.tmp 6, .tmp 7]), (23, ac23, 17, [.tmp 6]), (24, ac24, 38, [.cell 6 true 2, .tmp 7]), (25, ac25, 8, [.cell 0 true 2]), (26, ac26, 3, [.cell 0 true 3]), (27, ac27, 39, [.tmp 4, .tmp 5]), (28, ac28, 4, [.tmp 2]), (29, ac29, 17, [.tmp 6]), (30, ac30, 14, [.tmp 2]), (31, ac31, 35, [.tmp 4]), (32, ac32, 21, [.tmp 6]), (33, ac33, 11, [.tmp 2]), (34, ac34, 15, [.tmp 2]), (35, ac35, 9, [.tmp 4]), (36, ac36, 26, [.tmp 2]), (37, ac37, 32, [.tmp 2]), (38, ac38, 59, [.tmp 4]), (39, ac39, 35, [.tmp 4]), (40, ac40, 39, [.tmp 6, .tmp 7]), (41, ac41, 39, [.tmp 2]), (42, ac42, 8, [.tmp 2]), (43, ac43, 30, [.tmp 2]), (44, ac44, 9, [.tmp 4]), (45, ac45, 6, [.tmp 2]), (46, ac46, 41, [.cell 4 true 7, .tmp 5]), (47, ac47, 33, []), (48, ac48, 15, [.tmp 4]), (49, ac49, 15, [.tmp 4]), (50, ac50, 28, [.tmp 4]), (51, ac51, 46, [.tmp 2]), (52, ac52, 39, [.tmp 4]), (53, ac53, 25, [.tmp 2]), (54, ac54, 6, [.tmp 2]), (55, ac55, 19, [.tmp 4]), (56, ac56, 9, [.tmp 2]), (57, ac57, 6, [.tmp 2]), (58, ac58, 21, [.tmp 2]), (59, ac59, 26, [.tmp 4]), (60, ac60, 19, [.tmp 4]), (61, ac61, 23, [.tmp 2]), (62, ac62, 9, [.tmp 4]), (63, ac63, 6, [.tmp 2]), (64, ac64, 9, [.tmp 2]), (65, ac65, 19, [.tmp 4]), (66, ac66, 26, [.tmp 2]), (67, ac67, 22, [.tmp 2]), (68, ac68, 9, [.tmp 2]), (69, ac69, 21, [.tmp 2]), (70, ac70, 18, [.tmp 4]), (71, ac71, 2, [.tmp 0]), (72, ac72, 9, [.tmp 2]), (73, ac73, 9, [.tmp 4]), (74, ac74, 6, [.tmp 2]), (75, ac75, 38, [.tmp 2]), (76, ac76, 19, [.tmp 4]), (77, ac77, 17, [.tmp 2]), (78, ac78, 9, [.tmp 2]), (79, ac79, 19, [.tmp 4]), (80, ac80, 13, [.tmp 4, .tmp 5, .tmp 6]), (81, ac81, 51, [.tmp 2, .tmp 3, .tmp 4]), (82, ac82, 23, [.tmp 4, .tmp 5, .tmp 6]), (83, ac83, 143, [.tmp 4]), (84, ac84, 8, [.tmp 4]), (86, ac86, 6, [.tmp 2]), (87, ac87, 81, [.tmp 4]), (89, ac89, 39, [.tmp 2, .tmp 3])]
theorem tab_ok : TabOk Tryd.prog tab :=
  tabOf_cons (fun _ _ h => go3 ac3 rfl h) (tabOf_cons (fun _ _ h => go4 ac4 rfl h) (tabOf_cons (fun _ _ h => go5 ac5 rfl h) (tabOf_cons (fun _ _ h => go6 ac6 rfl h) (tabOf_cons (fun _ _ h => go7 ac7 rfl h) (tabOf_cons (fun _ _ h => go8 ac8 rfl h) (tabOf_cons (fun _ _ h => go9 ac9 rfl h) (tabOf_cons (fun _ _ h => go10 ac10 rfl h) (tabOf_cons (fun _ _ h => go11 ac11 rfl h) (tabOf_cons (fun _ _ h => go12 ac12 rfl h) (tabOf_cons (fun _ _ h => go13 ac13 rfl h) (tabOf_cons (fun _ _ h => go14 ac14 rfl h) (tabOf_cons (fun _ _ h => go15 ac15 rfl h) (tabOf_cons (fun _ _ h => go16 ac16 rfl h) (tabOf_cons (fun _ _ h => go17 ac17 rfl h) (tabOf_cons (fun _ _ h => go18 ac18 rfl h) (tabOf_cons (fun _ _ h => go19 ac19 rfl h) (tabOf_cons (fun _ _ h => go20 ac20 rfl h) (tabOf_cons (fun _ _ h => go21 ac21 rfl h) (tabOf_cons (fun _ _ h => go22 ac22 rfl h) (tabOf_cons (fun _ _ h => go23 ac23 rfl h) (tabOf_cons (fun _ _ h => go24 ac24 rfl h) (tabOf_cons (fun _ _ h => go25 ac25 rfl h) (tabOf_cons (fun _ _ h => go26 ac26 rfl h) (tabOf_cons (fun _ _ h => go27 ac27 rfl h) (tabOf_cons (fun _ _ h => go28 ac28 rfl h) (tabOf_cons (fun _ _ h => go29 ac29 rfl h) (tabOf_cons (fun _ _ h => go30 ac30 rfl h) (tabOf_cons (fun _ _ h => go31 ac31 rfl h) (tabOf_cons (fun _ _ h => go32 ac32 rfl h) (tabOf_cons (fun _ _ h => go33 ac33 rfl h) (tabOf_cons (fun _ _ h => go34 ac34 rfl h) (tabOf_cons (fun _ _ h => go35 ac35 rfl h) (tabOf_cons (fun _ _ h => go36 ac36 rfl h) (tabOf_cons (fun _ _ h => go37 ac37 rfl h) (tabOf_cons (fun _ _ h => go38 ac38 rfl h) (tabOf_cons (fun _ _ h => go39 ac39 rfl h) (tabOf_cons (fun _ _ h => go40 ac40 rfl h) (tabOf_cons (fun _ _ h => go41 ac41 rfl h) (tabOf_cons (fun _ _ h => go42 ac42 rfl h) (tabOf_cons (fun _ _ h => go43 ac43 rfl h) (tabOf_cons (fun _ _ h => go44 ac44 rfl h) (tabOf_cons (fun _ _ h => go45 ac45 rfl h) (tabOf_cons (fun _ _ h => go46 ac46 rfl h) (tabOf_cons (fun _ _ h => go47 ac47 rfl h) (tabOf_cons (fun _ _ h => go48 ac48 rfl h) (tabOf_cons (fun _ _ h => go49 ac49 rfl h) (tabOf_cons (fun _ _ h => go50 ac50 rfl h) (tabOf_cons (fun _ _ h => go51 ac51 rfl h) (tabOf_cons (fun _ _ h => go52 ac52 rfl h) (tabOf_cons (fun _ _ h => go53 ac53 rfl h) (tabOf_cons (fun _ _ h => go54 ac54 rfl h) (tabOf_cons (fun _ _ h => go55 ac55 rfl h) (tabOf_cons (fun _ _ h => go56 ac56 rfl h) (tabOf_cons (fun _ _ h => go57 ac57 rfl h) (tabOf_cons (fun _ _ h => go58 ac58 rfl h) (tabOf_cons (fun _ _ h => go59 ac59 rfl h) (tabOf_cons (fun _ _ h => go60 ac60 rfl h) (tabOf_cons (fun _ _ h => go61 ac61 rfl h) (tabOf_cons (fun _ _ h => go62 ac62 rfl h) (tabOf_cons (fun _ _ h => go63 ac63 rfl h) (tabOf_cons (fun _ _ h => go64 ac64 rfl h) (tabOf_cons (fun _ _ h => go65 ac65 rfl h) (tabOf_cons (fun _ _ h => go66 ac66 rfl h) (tabOf_cons (fun _ _ h => go67 ac67 rfl h) (tabOf_cons (fun _ _ h => go68 ac68 rfl h) (tabOf_cons (fun _ _ h => go69 ac69 rfl h) (tabOf_cons (fun _ _ h => go70 ac70 rfl h) (tabOf_cons (fun _ _ h => go71 ac71 rfl h) (tabOf_cons (fun _ _ h => go72 ac72 rfl h) (tabOf_cons (fun _ _ h => go73 ac73 rfl h) (tabOf_cons (fun _ _ h => go74 ac74 rfl h) (tabOf_cons (fun _ _ h => go75 ac75 rfl h) (tabOf_cons (fun _ _ h => go76 ac76 rfl h) (tabOf_cons (fun _ _ h => go77 ac77 rfl h) (tabOf_cons (fun _ _ h => go78 ac78 rfl h) (tabOf_cons (fun _ _ h => go79 ac79 rfl h) (tabOf_cons (fun _ _ h => go80 ac80 rfl h) (tabOf_cons (fun _ _ h => go81 ac81 rfl h) (tabOf_cons (fun _ _ h => go82 ac82 rfl h) (tabOf_cons (fun _ _ h => go83 ac83 rfl h) (tabOf_cons (fun _ _ h => go84 ac84 rfl h) (tabOf_cons (fun _ _ h => go86 ac86 rfl h) (tabOf_cons (fun _ _ h => go87 ac87 rfl h) (tabOf_cons (fun _ _ h => go89 ac89 rfl h) (tabOf_nil)))))))))))))))))))))))))))))))))))))))))))))))))))))))))))))))))))))))))))))))))))))
end Go.Proofs.Mn
