import Derived.Test.YtgeiklkjlmfpfaaVxEv2
import Derived.KernelRfl
import Derived.Test.YtgeiklkjlmfpfaaProg
set_option linter.unusedSimpArgs false
set_option linter.unusedVariables false
namespace Go.Proofs.Hs
open Go.Vx

/-- testbench/testbenchlaw04.HashTexts -/
def ac3 : AC :=
  .seq (.reg 0 [⟨(some 2), 0, none, (.op (.mov (.k (.d (.bool false)))))⟩])
  (.seq (.seq (.reg 0 [⟨(some 3), 0, none, (.op (.mov (.t 0)))⟩,
    ⟨(some 4), 0, none, (.op (.len true (.t 3)))⟩,
    ⟨(some 5), 0, none, (.op (.bin .gtr (.t 4) (.k (.d (.int .i64 500)))))⟩])
  (.cond (.t 5)
    (.seq (.reg 0 [⟨(some 6), 0, none, (.call (.k (.fn (.func 9) [] [])) [])⟩,
      ⟨(some 2), 0, none, (.op (.mov (.t 6)))⟩])
    (.ret))
    (.skip)))
  (.seq (.reg 0 [⟨(some 7), 0, none, (.op (.mov (.t 0)))⟩,
    ⟨(some 8), 0, none, (.call (.k (.fn (.func 10) [] [])) [(.t 7)])⟩,
    ⟨(some 9), 0, none, (.op (.mov (.t 0)))⟩,
    ⟨(some 10), 0, none, (.call (.k (.fn (.func 11) [] [])) [(.t 9)])⟩,
    ⟨(some 11), 0, none, (.op (.bin .eql (.t 8) (.t 10)))⟩,
    ⟨(some 12), 0, none, (.op (.mov (.t 11)))⟩,
    ⟨(some 13), 0, (some (12, true)), (.op (.mov (.t 0)))⟩,
    ⟨(some 14), 0, (some (12, true)), (.call (.k (.fn (.func 12) [] [])) [(.t 13)])⟩,
    ⟨(some 15), 0, (some (12, true)), (.op (.mov (.t 0)))⟩,
    ⟨(some 16), 0, (some (12, true)), (.call (.k (.fn (.func 13) [] [])) [(.t 15)])⟩,
    ⟨(some 17), 0, (some (12, true)), (.op (.bin .eql (.t 14) (.t 16)))⟩,
    ⟨(some 18), 0, none, (.op (.pick (.t 12) (.t 17) (.k (.d (.bool false)))))⟩,
    ⟨(some 19), 0, none, (.op (.mov (.t 18)))⟩,
    ⟨(some 20), 0, (some (19, true)), (.op (.mov (.t 0)))⟩,
    ⟨(some 21), 0, (some (19, true)), (.call (.k (.fn (.func 14) [] [])) [(.t 20)])⟩,
    ⟨(some 22), 0, (some (19, true)), (.op (.mov (.t 0)))⟩,
    ⟨(some 23), 0, (some (19, true)), (.call (.k (.fn (.func 15) [] [])) [(.t 22)])⟩,
    ⟨(some 24), 0, (some (19, true)), (.op (.bin .eql (.t 21) (.t 23)))⟩,
    ⟨(some 25), 0, none, (.op (.pick (.t 19) (.t 24) (.k (.d (.bool false)))))⟩,
    ⟨(some 26), 0, none, (.op (.mov (.t 25)))⟩,
    ⟨(some 27), 0, (some (26, true)), (.call (.k (.fn (.func 9) [] [])) [])⟩,
    ⟨(some 28), 0, none, (.op (.pick (.t 26) (.t 27) (.k (.d (.bool false)))))⟩,
    ⟨(some 2), 0, none, (.op (.mov (.t 28)))⟩])
  (.ret)))
theorem cc3 : Try.f3.body.bind (compC Try.prog) = some ac3 := by kernel_rfl
theorem go3 {vals : List V} {v : V} (ac : AC) (he : ac.erase = ac3) (hw : wpC Try.prog 0 ac (retQ [.tmp 2] v) ⟨vals ++ List.replicate (29 - vals.length) (.tup []), []⟩) : CallP Try.prog 3 vals v :=
  call_of Try.func3 rfl rfl rfl (cc3.trans (congrArg some he.symm)) hw

/-- testbench/testbenchlaw04.HashReads -/
def ac4 : AC :=
  .seq (.reg 0 [⟨(some 2), 0, none, (.op (.mov (.k (.d (.bool false)))))⟩])
  (.seq (.seq (.reg 0 [⟨(some 9), 0, none, (.op (.mov (.t 0)))⟩,
    ⟨(some 10), 0, none, (.op (.len true (.t 9)))⟩,
    ⟨(some 11), 0, none, (.op (.bin .gtr (.t 10) (.k (.d (.int .i64 500)))))⟩])
  (.cond (.t 11)
    (.seq (.reg 0 [⟨(some 12), 0, none, (.call (.k (.fn (.func 9) [] [])) [])⟩,
      ⟨(some 2), 0, none, (.op (.mov (.t 12)))⟩])
    (.ret))
    (.skip)))
  (.seq (.reg 0 [⟨(some 14), 0, none, (.op (.mov (.t 0)))⟩,
    ⟨(some 15), 0, none, (.call (.k (.fn (.func 16) [] [])) [(.t 14)])⟩,
    ⟨(some 13), 0, none, (.op (.mov (.t 15)))⟩,
    ⟨(some 16), 0, none, (.op (.ext (.t 13) 0))⟩,
    ⟨(some 17), 0, none, (.op (.ext (.t 13) 1))⟩,
    ⟨(some 3), 0, none, (.op (.mov (.t 16)))⟩,
    ⟨(some 4), 0, none, (.op (.mov (.t 17)))⟩])
  (.seq (.reg 0 [⟨(some 19), 0, none, (.op (.mov (.t 0)))⟩,
    ⟨(some 20), 0, none, (.call (.k (.fn (.func 17) [] [])) [(.t 19)])⟩,
    ⟨(some 18), 0, none, (.op (.mov (.t 20)))⟩,
    ⟨(some 21), 0, none, (.op (.ext (.t 18) 0))⟩,
    ⟨(some 22), 0, none, (.op (.ext (.t 18) 1))⟩,
    ⟨(some 5), 0, none, (.op (.mov (.t 21)))⟩,
    ⟨(some 6), 0, none, (.op (.mov (.t 22)))⟩])
  (.seq (.seq (.reg 0 [⟨(some 23), 0, none, (.op (.mov (.t 3)))⟩,
    ⟨(some 24), 0, none, (.op (.mov (.t 5)))⟩,
    ⟨(some 25), 0, none, (.op (.bin .neq (.t 23) (.t 24)))⟩,
    ⟨(some 26), 0, none, (.op (.mov (.t 25)))⟩,
    ⟨(some 27), 0, (some (26, false)), (.op (.mov (.t 4)))⟩,
    ⟨(some 28), 0, (some (26, false)), (.op (.mov (.t 6)))⟩,
    ⟨(some 29), 0, (some (26, false)), (.op (.bin .neq (.t 27) (.t 28)))⟩,
    ⟨(some 30), 0, none, (.op (.pick (.t 26) (.k (.d (.bool true))) (.t 29)))⟩])
  (.cond (.t 30)
    (.seq (.reg 0 [⟨(some 2), 0, none, (.op (.mov (.k (.d (.bool false)))))⟩])
    (.ret))
    (.skip)))
  (.seq (.reg 0 [⟨(some 32), 0, none, (.op (.mov (.t 0)))⟩,
    ⟨(some 33), 0, none, (.call (.k (.fn (.func 18) [] [])) [(.t 32)])⟩,
    ⟨(some 31), 0, none, (.op (.mov (.t 33)))⟩,
    ⟨(some 34), 0, none, (.op (.ext (.t 31) 0))⟩,
    ⟨(some 35), 0, none, (.op (.ext (.t 31) 1))⟩,
    ⟨(some 7), 0, none, (.op (.mov (.t 34)))⟩,
    ⟨(some 4), 0, none, (.op (.mov (.t 35)))⟩])
  (.seq (.reg 0 [⟨(some 37), 0, none, (.op (.mov (.t 0)))⟩,
    ⟨(some 38), 0, none, (.call (.k (.fn (.func 19) [] [])) [(.t 37)])⟩,
    ⟨(some 36), 0, none, (.op (.mov (.t 38)))⟩,
    ⟨(some 39), 0, none, (.op (.ext (.t 36) 0))⟩,
    ⟨(some 40), 0, none, (.op (.ext (.t 36) 1))⟩,
    ⟨(some 8), 0, none, (.op (.mov (.t 39)))⟩,
    ⟨(some 6), 0, none, (.op (.mov (.t 40)))⟩])
  (.seq (.reg 0 [⟨(some 41), 0, none, (.op (.mov (.t 7)))⟩,
    ⟨(some 42), 0, none, (.op (.mov (.t 8)))⟩,
    ⟨(some 43), 0, none, (.op (.bin .eql (.t 41) (.t 42)))⟩,
    ⟨(some 44), 0, none, (.op (.mov (.t 43)))⟩,
    ⟨(some 45), 0, (some (44, true)), (.op (.mov (.t 4)))⟩,
    ⟨(some 46), 0, (some (44, true)), (.op (.mov (.t 6)))⟩,
    ⟨(some 47), 0, (some (44, true)), (.op (.bin .eql (.t 45) (.t 46)))⟩,
    ⟨(some 48), 0, none, (.op (.pick (.t 44) (.t 47) (.k (.d (.bool false)))))⟩,
    ⟨(some 49), 0, none, (.op (.mov (.t 48)))⟩,
    ⟨(some 50), 0, (some (49, true)), (.call (.k (.fn (.func 9) [] [])) [])⟩,
    ⟨(some 51), 0, none, (.op (.pick (.t 49) (.t 50) (.k (.d (.bool false)))))⟩,
    ⟨(some 2), 0, none, (.op (.mov (.t 51)))⟩])
  (.ret))))))))
theorem cc4 : Try.f4.body.bind (compC Try.prog) = some ac4 := by kernel_rfl
theorem go4 {vals : List V} {v : V} (ac : AC) (he : ac.erase = ac4) (hw : wpC Try.prog 0 ac (retQ [.tmp 2] v) ⟨vals ++ List.replicate (52 - vals.length) (.tup []), []⟩) : CallP Try.prog 4 vals v :=
  call_of Try.func4 rfl rfl rfl (cc4.trans (congrArg some he.symm)) hw

/-- testbench/testbenchlaw04.HashOpens -/
def ac5 : AC :=
  .seq (.reg 0 [⟨(some 6), 0, none, (.op (.mov (.k (.d (.bool false)))))⟩])
  (.seq (.seq (.reg 0 [⟨(some 16), 0, none, (.op (.mov (.t 0)))⟩,
    ⟨(some 17), 0, none, (.op (.len true (.t 16)))⟩,
    ⟨(some 18), 0, none, (.op (.bin .gtr (.t 17) (.k (.d (.int .i64 500)))))⟩])
  (.cond (.t 18)
    (.seq (.reg 0 [⟨(some 19), 0, none, (.call (.k (.fn (.func 9) [] [])) [])⟩,
      ⟨(some 6), 0, none, (.op (.mov (.t 19)))⟩])
    (.ret))
    (.skip)))
  (.seq (.reg 0 [⟨(some 20), 0, none, (.op (.mov (.t 0)))⟩,
    ⟨(some 21), 0, none, (.call (.k (.fn (.func 14) [] [])) [(.t 20)])⟩,
    ⟨(some 7), 0, none, (.op (.mov (.t 21)))⟩])
  (.seq (.reg 0 [⟨(some 23), 0, none, (.op (.mov (.t 7)))⟩,
    ⟨(some 24), 0, none, (.call (.k (.fn (.func 18) [] [])) [(.t 23)])⟩,
    ⟨(some 22), 0, none, (.op (.mov (.t 24)))⟩,
    ⟨(some 25), 0, none, (.op (.ext (.t 22) 0))⟩,
    ⟨(some 26), 0, none, (.op (.ext (.t 22) 1))⟩,
    ⟨(some 8), 0, none, (.op (.mov (.t 25)))⟩,
    ⟨(some 9), 0, none, (.op (.mov (.t 26)))⟩])
  (.seq (.seq (.reg 0 [⟨(some 27), 0, none, (.op (.mov (.t 8)))⟩,
    ⟨(some 28), 0, none, (.op (.mov (.t 0)))⟩,
    ⟨(some 29), 0, none, (.op (.bin .neq (.t 27) (.t 28)))⟩,
    ⟨(some 30), 0, none, (.op (.mov (.t 29)))⟩,
    ⟨(some 31), 0, (some (30, false)), (.op (.mov (.t 9)))⟩,
    ⟨(some 32), 0, (some (30, false)), (.op (.bin .neq (.t 31) (.k (.d (.int .i64 0)))))⟩,
    ⟨(some 33), 0, none, (.op (.pick (.t 30) (.k (.d (.bool true))) (.t 32)))⟩,
    ⟨(some 34), 0, none, (.op (.mov (.t 33)))⟩,
    ⟨(some 35), 0, (some (34, false)), (.op (.mov (.t 7)))⟩,
    ⟨(some 36), 0, (some (34, false)), (.op (.len true (.t 35)))⟩,
    ⟨(some 37), 0, (some (34, false)), (.op (.mov (.t 0)))⟩,
    ⟨(some 38), 0, (some (34, false)), (.op (.len true (.t 37)))⟩,
    ⟨(some 39), 0, (some (34, false)), (.op (.bin .add (.t 38) (.k (.d (.int .i64 9)))))⟩,
    ⟨(some 40), 0, (some (34, false)), (.op (.bin .neq (.t 36) (.t 39)))⟩,
    ⟨(some 41), 0, none, (.op (.pick (.t 34) (.k (.d (.bool true))) (.t 40)))⟩])
  (.cond (.t 41)
    (.seq (.reg 0 [⟨(some 6), 0, none, (.op (.mov (.k (.d (.bool false)))))⟩])
    (.ret))
    (.skip)))
  (.seq (.reg 0 [⟨(some 43), 0, none, (.op (.mov (.t 0)))⟩,
    ⟨(some 44), 0, none, (.call (.k (.fn (.func 18) [] [])) [(.t 43)])⟩,
    ⟨(some 42), 0, none, (.op (.mov (.t 44)))⟩,
    ⟨(some 45), 0, none, (.op (.ext (.t 42) 0))⟩,
    ⟨(some 46), 0, none, (.op (.ext (.t 42) 1))⟩,
    ⟨(some 10), 0, none, (.op (.mov (.t 45)))⟩,
    ⟨(some 11), 0, none, (.op (.mov (.t 46)))⟩])
  (.seq (.seq (.reg 0 [⟨(some 47), 0, none, (.op (.mov (.t 11)))⟩,
    ⟨(some 48), 0, none, (.op (.bin .eql (.t 47) (.k (.d (.int .i64 0)))))⟩,
    ⟨(some 49), 0, none, (.op (.mov (.t 48)))⟩,
    ⟨(some 50), 0, (some (49, true)), (.op (.mov (.t 10)))⟩,
    ⟨(some 51), 0, (some (49, true)), (.call (.k (.fn (.func 14) [] [])) [(.t 50)])⟩,
    ⟨(some 52), 0, (some (49, true)), (.op (.mov (.t 0)))⟩,
    ⟨(some 53), 0, (some (49, true)), (.op (.bin .neq (.t 51) (.t 52)))⟩,
    ⟨(some 54), 0, none, (.op (.pick (.t 49) (.t 53) (.k (.d (.bool false)))))⟩])
  (.cond (.t 54)
    (.seq (.reg 0 [⟨(some 6), 0, none, (.op (.mov (.k (.d (.bool false)))))⟩])
    (.ret))
    (.skip)))
  (.seq (.seq (.reg 0 [⟨(some 55), 0, none, (.op (.mov (.t 1)))⟩,
    ⟨(some 56), 0, none, (.op (.bin .lss (.t 55) (.k (.d (.int .i64 0)))))⟩,
    ⟨(some 57), 0, none, (.op (.mov (.t 56)))⟩,
    ⟨(some 58), 0, (some (57, false)), (.op (.mov (.t 2)))⟩,
    ⟨(some 59), 0, (some (57, false)), (.op (.bin .eql (.t 58) (.k (.d (.int .u8 0)))))⟩,
    ⟨(some 60), 0, none, (.op (.pick (.t 57) (.k (.d (.bool true))) (.t 59)))⟩])
  (.cond (.t 60)
    (.seq (.reg 0 [⟨(some 61), 0, none, (.call (.k (.fn (.func 9) [] [])) [])⟩,
      ⟨(some 6), 0, none, (.op (.mov (.t 61)))⟩])
    (.ret))
    (.skip)))
  (.seq (.reg 1 [⟨(some 62), 0, none, (.op (.mov (.t 7)))⟩,
    ⟨(some 63), 0, none, (.op (.s2b (.t 62)))⟩,
    ⟨(some 12), 1, none, (.op (.mov (.t 63)))⟩])
  (.seq (.reg 0 [⟨(some 64), 0, none, (.op (.mov (.t 1)))⟩,
    ⟨(some 65), 0, none, (.op (.mov (.t 12)))⟩,
    ⟨(some 66), 0, none, (.op (.len false (.t 65)))⟩,
    ⟨(some 67), 0, none, (.op (.bin .rem (.t 64) (.t 66)))⟩,
    ⟨(some 13), 0, none, (.op (.mov (.t 67)))⟩])
  (.seq (.reg 0 [⟨(some 68), 0, none, (.op (.mov (.t 12)))⟩,
    ⟨(some 69), 0, none, (.op (.mov (.t 13)))⟩,
    ⟨(some 70), 0, none, (.op (.mov (.t 12)))⟩,
    ⟨(some 71), 0, none, (.op (.mov (.t 13)))⟩,
    ⟨(some 72), 0, none, (.op (.idxA 1 none (.t 70) (.t 71)))⟩,
    ⟨(some 73), 0, none, (.op (.load false 1 (.t 72)))⟩,
    ⟨(some 74), 0, none, (.op (.mov (.t 2)))⟩,
    ⟨(some 75), 0, none, (.op (.bin .xor (.t 73) (.t 74)))⟩,
    ⟨(some 76), 0, none, (.op (.idxA 1 none (.t 68) (.t 69)))⟩,
    ⟨none, 0, none, (.op (.store 1 (.t 76) (.t 75)))⟩])
  (.seq (.reg 0 [⟨(some 78), 0, none, (.op (.mov (.t 12)))⟩,
    ⟨(some 79), 0, none, (.op (.b2s (.t 78)))⟩,
    ⟨(some 80), 0, none, (.call (.k (.fn (.func 18) [] [])) [(.t 79)])⟩,
    ⟨(some 77), 0, none, (.op (.mov (.t 80)))⟩,
    ⟨(some 81), 0, none, (.op (.ext (.t 77) 0))⟩,
    ⟨(some 82), 0, none, (.op (.ext (.t 77) 1))⟩,
    ⟨(some 14), 0, none, (.op (.mov (.t 81)))⟩,
    ⟨(some 15), 0, none, (.op (.mov (.t 82)))⟩])
  (.seq (.reg 0 [⟨(some 83), 0, none, (.op (.mov (.t 14)))⟩,
    ⟨(some 84), 0, none, (.op (.bin .eql (.t 83) (.k (.d (.str [])))))⟩,
    ⟨(some 85), 0, none, (.op (.mov (.t 84)))⟩,
    ⟨(some 86), 0, (some (85, true)), (.op (.mov (.t 15)))⟩,
    ⟨(some 87), 0, (some (85, true)), (.op (.bin .neq (.t 86) (.k (.d (.int .i64 0)))))⟩,
    ⟨(some 88), 0, none, (.op (.pick (.t 85) (.t 87) (.k (.d (.bool false)))))⟩,
    ⟨(some 89), 0, none, (.op (.mov (.t 88)))⟩,
    ⟨(some 90), 0, (some (89, true)), (.call (.k (.fn (.func 9) [] [])) [])⟩,
    ⟨(some 91), 0, none, (.op (.pick (.t 89) (.t 90) (.k (.d (.bool false)))))⟩,
    ⟨(some 6), 0, none, (.op (.mov (.t 91)))⟩])
  (.ret)))))))))))))
theorem cc5 : Try.f5.body.bind (compC Try.prog) = some ac5 := by kernel_rfl
theorem go5 {vals : List V} {v : V} (ac : AC) (he : ac.erase = ac5) (hw : wpC Try.prog 0 ac (retQ [.tmp 6] v) ⟨vals ++ List.replicate (92 - vals.length) (.tup []), []⟩) : CallP Try.prog 5 vals v :=
  call_of Try.func5 rfl rfl rfl (cc5.trans (congrArg some he.symm)) hw

/-- testbench/testbenchlaw04.HashGrows -/
def ac6 : AC :=
  .seq (.reg 0 [⟨(some 4), 0, none, (.op (.mov (.k (.d (.bool false)))))⟩])
  (.seq (.seq (.reg 0 [⟨(some 5), 0, none, (.op (.mov (.t 0)))⟩,
    ⟨(some 6), 0, none, (.op (.len true (.t 5)))⟩,
    ⟨(some 7), 0, none, (.op (.bin .gtr (.t 6) (.k (.d (.int .i64 500)))))⟩])
  (.cond (.t 7)
    (.seq (.reg 0 [⟨(some 8), 0, none, (.call (.k (.fn (.func 9) [] [])) [])⟩,
      ⟨(some 4), 0, none, (.op (.mov (.t 8)))⟩])
    (.ret))
    (.skip)))
  (.seq (.reg 1 [⟨(some 9), 0, none, (.op (.mov (.t 0)))⟩,
    ⟨(some 10), 0, none, (.op (.mov (.t 1)))⟩,
    ⟨(some 11), 0, none, (.op (.buildSl 1 1 [(.int .u8 0)] [(0, (.t 10))]))⟩,
    ⟨(some 12), 1, none, (.op (.b2s (.t 11)))⟩,
    ⟨(some 13), 1, none, (.op (.bin .add (.t 9) (.t 12)))⟩,
    ⟨(some 14), 1, none, (.call (.k (.fn (.func 10) [] [])) [(.t 13)])⟩,
    ⟨(some 15), 1, none, (.op (.mov (.t 0)))⟩,
    ⟨(some 16), 1, none, (.call (.k (.fn (.func 10) [] [])) [(.t 15)])⟩,
    ⟨(some 17), 1, none, (.op (.mov (.t 1)))⟩,
    ⟨(some 18), 1, none, (.op (.conv .u64 (.t 17)))⟩,
    ⟨(some 19), 1, none, (.op (.bin .xor (.t 16) (.t 18)))⟩,
    ⟨(some 20), 1, none, (.op (.bin .mul (.t 19) (.k (.d (.int .u64 1099511628211)))))⟩,
    ⟨(some 21), 1, none, (.op (.bin .eql (.t 14) (.t 20)))⟩,
    ⟨(some 22), 1, none, (.op (.mov (.t 21)))⟩,
    ⟨(some 23), 1, (some (22, true)), (.call (.k (.fn (.func 9) [] [])) [])⟩,
    ⟨(some 24), 1, none, (.op (.pick (.t 22) (.t 23) (.k (.d (.bool false)))))⟩,
    ⟨(some 4), 1, none, (.op (.mov (.t 24)))⟩])
  (.ret)))
theorem cc6 : Try.f6.body.bind (compC Try.prog) = some ac6 := by kernel_rfl
theorem go6 {vals : List V} {v : V} (ac : AC) (he : ac.erase = ac6) (hw : wpC Try.prog 0 ac (retQ [.tmp 4] v) ⟨vals ++ List.replicate (25 - vals.length) (.tup []), []⟩) : CallP Try.prog 6 vals v :=
  call_of Try.func6 rfl rfl rfl (cc6.trans (congrArg some he.symm)) hw

/-- testbench/testbenchlaw04.HashMixes -/
def ac7 : AC :=
  .seq (.reg 0 [⟨(some 4), 0, none, (.op (.mov (.k (.d (.bool false)))))⟩])
  (.seq (.reg 0 [⟨(some 8), 0, none, (.op (.mov (.t 0)))⟩,
    ⟨(some 9), 0, none, (.call (.k (.fn (.func 20) [] [])) [(.t 8)])⟩,
    ⟨(some 10), 0, none, (.call (.k (.fn (.func 16) [] [])) [(.t 9)])⟩,
    ⟨(some 7), 0, none, (.op (.mov (.t 10)))⟩,
    ⟨(some 11), 0, none, (.op (.ext (.t 7) 0))⟩,
    ⟨(some 12), 0, none, (.op (.ext (.t 7) 1))⟩,
    ⟨(some 5), 0, none, (.op (.mov (.t 11)))⟩,
    ⟨(some 6), 0, none, (.op (.mov (.t 12)))⟩])
  (.seq (.reg 0 [⟨(some 13), 0, none, (.op (.mov (.t 0)))⟩,
    ⟨(some 14), 0, none, (.call (.k (.fn (.func 21) [] [])) [(.t 13)])⟩,
    ⟨(some 15), 0, none, (.op (.mov (.t 0)))⟩,
    ⟨(some 16), 0, none, (.call (.k (.fn (.func 22) [] [])) [(.t 15)])⟩,
    ⟨(some 17), 0, none, (.op (.bin .eql (.t 14) (.t 16)))⟩,
    ⟨(some 18), 0, none, (.op (.mov (.t 17)))⟩,
    ⟨(some 19), 0, (some (18, true)), (.op (.mov (.t 0)))⟩,
    ⟨(some 20), 0, (some (18, true)), (.op (.mov (.t 1)))⟩,
    ⟨(some 21), 0, (some (18, true)), (.call (.k (.fn (.func 23) [] [])) [(.t 19), (.t 20)])⟩,
    ⟨(some 22), 0, (some (18, true)), (.op (.mov (.t 0)))⟩,
    ⟨(some 23), 0, (some (18, true)), (.op (.mov (.t 1)))⟩,
    ⟨(some 24), 0, (some (18, true)), (.call (.k (.fn (.func 24) [] [])) [(.t 22), (.t 23)])⟩,
    ⟨(some 25), 0, (some (18, true)), (.op (.bin .eql (.t 21) (.t 24)))⟩,
    ⟨(some 26), 0, none, (.op (.pick (.t 18) (.t 25) (.k (.d (.bool false)))))⟩,
    ⟨(some 27), 0, none, (.op (.mov (.t 26)))⟩,
    ⟨(some 28), 0, (some (27, true)), (.op (.mov (.t 0)))⟩,
    ⟨(some 29), 0, (some (27, true)), (.call (.k (.fn (.func 20) [] [])) [(.t 28)])⟩,
    ⟨(some 30), 0, (some (27, true)), (.op (.mov (.t 0)))⟩,
    ⟨(some 31), 0, (some (27, true)), (.call (.k (.fn (.func 25) [] [])) [(.t 30)])⟩,
    ⟨(some 32), 0, (some (27, true)), (.op (.bin .eql (.t 29) (.t 31)))⟩,
    ⟨(some 33), 0, none, (.op (.pick (.t 27) (.t 32) (.k (.d (.bool false)))))⟩,
    ⟨(some 34), 0, none, (.op (.mov (.t 33)))⟩,
    ⟨(some 35), 0, (some (34, true)), (.op (.mov (.t 5)))⟩,
    ⟨(some 36), 0, (some (34, true)), (.op (.mov (.t 0)))⟩,
    ⟨(some 37), 0, (some (34, true)), (.op (.bin .eql (.t 35) (.t 36)))⟩,
    ⟨(some 38), 0, none, (.op (.pick (.t 34) (.t 37) (.k (.d (.bool false)))))⟩,
    ⟨(some 39), 0, none, (.op (.mov (.t 38)))⟩,
    ⟨(some 40), 0, (some (39, true)), (.op (.mov (.t 6)))⟩,
    ⟨(some 41), 0, (some (39, true)), (.op (.bin .eql (.t 40) (.k (.d (.int .i64 0)))))⟩,
    ⟨(some 42), 0, none, (.op (.pick (.t 39) (.t 41) (.k (.d (.bool false)))))⟩,
    ⟨(some 43), 0, none, (.op (.mov (.t 42)))⟩,
    ⟨(some 44), 0, (some (43, true)), (.call (.k (.fn (.func 9) [] [])) [])⟩,
    ⟨(some 45), 0, none, (.op (.pick (.t 43) (.t 44) (.k (.d (.bool false)))))⟩,
    ⟨(some 4), 0, none, (.op (.mov (.t 45)))⟩])
  (.ret)))
theorem cc7 : Try.f7.body.bind (compC Try.prog) = some ac7 := by kernel_rfl
theorem go7 {vals : List V} {v : V} (ac : AC) (he : ac.erase = ac7) (hw : wpC Try.prog 0 ac (retQ [.tmp 4] v) ⟨vals ++ List.replicate (46 - vals.length) (.tup []), []⟩) : CallP Try.prog 7 vals v :=
  call_of Try.func7 rfl rfl rfl (cc7.trans (congrArg some he.symm)) hw

/-- testbench/testbenchlaw04.HashInverts -/
def ac8 : AC :=
  .seq (.reg 0 [⟨(some 4), 0, none, (.op (.mov (.k (.d (.bool false)))))⟩])
  (.seq (.seq (.reg 0 [⟨(some 6), 0, none, (.op (.mov (.t 0)))⟩,
    ⟨(some 7), 0, none, (.call (.k (.fn (.func 21) [] [])) [(.t 6)])⟩,
    ⟨(some 8), 0, none, (.call (.k (.fn (.func 26) [] [])) [(.t 7)])⟩,
    ⟨(some 9), 0, none, (.op (.mov (.t 0)))⟩,
    ⟨(some 10), 0, none, (.op (.bin .neq (.t 8) (.t 9)))⟩])
  (.cond (.t 10)
    (.seq (.reg 0 [⟨(some 4), 0, none, (.op (.mov (.k (.d (.bool false)))))⟩])
    (.ret))
    (.skip)))
  (.seq (.reg 0 [⟨(some 11), 0, none, (.op (.mov (.t 0)))⟩,
    ⟨(some 12), 0, none, (.op (.mov (.t 1)))⟩,
    ⟨(some 13), 0, none, (.call (.k (.fn (.func 23) [] [])) [(.t 11), (.t 12)])⟩,
    ⟨(some 14), 0, none, (.call (.k (.fn (.func 26) [] [])) [(.t 13)])⟩,
    ⟨(some 5), 0, none, (.op (.mov (.t 14)))⟩])
  (.seq (.reg 0 [⟨(some 15), 0, none, (.op (.mov (.t 5)))⟩,
    ⟨(some 16), 0, none, (.op (.mov (.t 1)))⟩,
    ⟨(some 17), 0, none, (.op (.bin .add (.t 16) (.k (.d (.int .u64 1)))))⟩,
    ⟨(some 18), 0, none, (.op (.bin .mul (.k (.d (.int .u64 11400714819323198485))) (.t 17)))⟩,
    ⟨(some 19), 0, none, (.op (.bin .sub (.t 15) (.t 18)))⟩,
    ⟨(some 20), 0, none, (.op (.mov (.t 0)))⟩,
    ⟨(some 21), 0, none, (.op (.bin .eql (.t 19) (.t 20)))⟩,
    ⟨(some 22), 0, none, (.op (.mov (.t 21)))⟩,
    ⟨(some 23), 0, (some (22, true)), (.op (.mov (.t 5)))⟩,
    ⟨(some 24), 0, (some (22, true)), (.op (.mov (.t 0)))⟩,
    ⟨(some 25), 0, (some (22, true)), (.op (.bin .sub (.t 23) (.t 24)))⟩,
    ⟨(some 26), 0, (some (22, true)), (.call (.k (.fn (.func 27) [] [])) [(.k (.d (.int .u64 11400714819323198485)))])⟩,
    ⟨(some 27), 0, (some (22, true)), (.op (.bin .mul (.t 25) (.t 26)))⟩,
    ⟨(some 28), 0, (some (22, true)), (.op (.bin .sub (.t 27) (.k (.d (.int .u64 1)))))⟩,
    ⟨(some 29), 0, (some (22, true)), (.op (.mov (.t 1)))⟩,
    ⟨(some 30), 0, (some (22, true)), (.op (.bin .eql (.t 28) (.t 29)))⟩,
    ⟨(some 31), 0, none, (.op (.pick (.t 22) (.t 30) (.k (.d (.bool false)))))⟩,
    ⟨(some 32), 0, none, (.op (.mov (.t 31)))⟩,
    ⟨(some 33), 0, (some (32, true)), (.call (.k (.fn (.func 9) [] [])) [])⟩,
    ⟨(some 34), 0, none, (.op (.pick (.t 32) (.t 33) (.k (.d (.bool false)))))⟩,
    ⟨(some 4), 0, none, (.op (.mov (.t 34)))⟩])
  (.ret))))
theorem cc8 : Try.f8.body.bind (compC Try.prog) = some ac8 := by kernel_rfl
theorem go8 {vals : List V} {v : V} (ac : AC) (he : ac.erase = ac8) (hw : wpC Try.prog 0 ac (retQ [.tmp 4] v) ⟨vals ++ List.replicate (35 - vals.length) (.tup []), []⟩) : CallP Try.prog 8 vals v :=
  call_of Try.func8 rfl rfl rfl (cc8.trans (congrArg some he.symm)) hw

/-- testbench/testbenchlaw04.awake -/
def ac9 : AC :=
  .seq (.reg 0 [⟨(some 0), 0, none, (.op (.mov (.k (.d (.bool false)))))⟩])
  (.seq (.reg 0 [⟨(some 6), 0, none, (.call (.k (.fn (.func 18) [] [])) [(.k (.d (.str [49, 50, 51, 52, 53, 54, 55, 56, 57, 35, 99, 98, 102, 52, 51, 57, 50, 54])))])⟩,
    ⟨(some 5), 0, none, (.op (.mov (.t 6)))⟩,
    ⟨(some 7), 0, none, (.op (.ext (.t 5) 0))⟩,
    ⟨(some 8), 0, none, (.op (.ext (.t 5) 1))⟩,
    ⟨(some 1), 0, none, (.op (.mov (.t 7)))⟩,
    ⟨(some 2), 0, none, (.op (.mov (.t 8)))⟩])
  (.seq (.reg 0 [⟨(some 10), 0, none, (.call (.k (.fn (.func 16) [] [])) [(.k (.d (.str [48, 48, 48, 48, 48, 48, 48, 48, 48, 48, 48, 48, 48, 48, 102, 102])))])⟩,
    ⟨(some 9), 0, none, (.op (.mov (.t 10)))⟩,
    ⟨(some 11), 0, none, (.op (.ext (.t 9) 0))⟩,
    ⟨(some 12), 0, none, (.op (.ext (.t 9) 1))⟩,
    ⟨(some 3), 0, none, (.op (.mov (.t 11)))⟩,
    ⟨(some 4), 0, none, (.op (.mov (.t 12)))⟩])
  (.seq (.reg 0 [⟨(some 13), 0, none, (.call (.k (.fn (.func 10) [] [])) [(.k (.d (.str [97])))])⟩,
    ⟨(some 14), 0, none, (.op (.bin .eql (.t 13) (.k (.d (.int .u64 12638187200555641996)))))⟩,
    ⟨(some 15), 0, none, (.op (.mov (.t 14)))⟩,
    ⟨(some 16), 0, (some (15, true)), (.call (.k (.fn (.func 21) [] [])) [(.k (.d (.int .u64 0)))])⟩,
    ⟨(some 17), 0, (some (15, true)), (.op (.bin .eql (.t 16) (.k (.d (.int .u64 0)))))⟩,
    ⟨(some 18), 0, none, (.op (.pick (.t 15) (.t 17) (.k (.d (.bool false)))))⟩,
    ⟨(some 19), 0, none, (.op (.mov (.t 18)))⟩,
    ⟨(some 20), 0, (some (19, true)), (.call (.k (.fn (.func 12) [] [])) [(.k (.d (.str [49, 50, 51, 52, 53, 54, 55, 56, 57])))])⟩,
    ⟨(some 21), 0, (some (19, true)), (.op (.bin .eql (.t 20) (.k (.d (.int .u32 3421780262)))))⟩,
    ⟨(some 22), 0, none, (.op (.pick (.t 19) (.t 21) (.k (.d (.bool false)))))⟩,
    ⟨(some 23), 0, none, (.op (.mov (.t 22)))⟩,
    ⟨(some 24), 0, (some (23, true)), (.call (.k (.fn (.func 14) [] [])) [(.k (.d (.str [])))])⟩,
    ⟨(some 25), 0, (some (23, true)), (.op (.bin .eql (.t 24) (.k (.d (.str [35, 48, 48, 48, 48, 48, 48, 48, 48])))))⟩,
    ⟨(some 26), 0, none, (.op (.pick (.t 23) (.t 25) (.k (.d (.bool false)))))⟩,
    ⟨(some 27), 0, none, (.op (.mov (.t 26)))⟩,
    ⟨(some 28), 0, (some (27, true)), (.op (.mov (.t 1)))⟩,
    ⟨(some 29), 0, (some (27, true)), (.op (.bin .eql (.t 28) (.k (.d (.str [49, 50, 51, 52, 53, 54, 55, 56, 57])))))⟩,
    ⟨(some 30), 0, none, (.op (.pick (.t 27) (.t 29) (.k (.d (.bool false)))))⟩,
    ⟨(some 31), 0, none, (.op (.mov (.t 30)))⟩,
    ⟨(some 32), 0, (some (31, true)), (.op (.mov (.t 2)))⟩,
    ⟨(some 33), 0, (some (31, true)), (.op (.bin .eql (.t 32) (.k (.d (.int .i64 0)))))⟩,
    ⟨(some 34), 0, none, (.op (.pick (.t 31) (.t 33) (.k (.d (.bool false)))))⟩,
    ⟨(some 35), 0, none, (.op (.mov (.t 34)))⟩,
    ⟨(some 36), 0, (some (35, true)), (.op (.mov (.t 3)))⟩,
    ⟨(some 37), 0, (some (35, true)), (.op (.bin .eql (.t 36) (.k (.d (.int .u64 255)))))⟩,
    ⟨(some 38), 0, none, (.op (.pick (.t 35) (.t 37) (.k (.d (.bool false)))))⟩,
    ⟨(some 39), 0, none, (.op (.mov (.t 38)))⟩,
    ⟨(some 40), 0, (some (39, true)), (.op (.mov (.t 4)))⟩,
    ⟨(some 41), 0, (some (39, true)), (.op (.bin .eql (.t 40) (.k (.d (.int .i64 0)))))⟩,
    ⟨(some 42), 0, none, (.op (.pick (.t 39) (.t 41) (.k (.d (.bool false)))))⟩,
    ⟨(some 43), 0, none, (.op (.mov (.t 42)))⟩,
    ⟨(some 44), 0, (some (43, true)), (.call (.k (.fn (.func 20) [] [])) [(.k (.d (.int .u64 255)))])⟩,
    ⟨(some 45), 0, (some (43, true)), (.op (.bin .eql (.t 44) (.k (.d (.str [48, 48, 48, 48, 48, 48, 48, 48, 48, 48, 48, 48, 48, 48, 102, 102])))))⟩,
    ⟨(some 46), 0, none, (.op (.pick (.t 43) (.t 45) (.k (.d (.bool false)))))⟩,
    ⟨(some 0), 0, none, (.op (.mov (.t 46)))⟩])
  (.ret))))
theorem cc9 : Try.f9.body.bind (compC Try.prog) = some ac9 := by kernel_rfl
theorem go9 {vals : List V} {v : V} (ac : AC) (he : ac.erase = ac9) (hw : wpC Try.prog 0 ac (retQ [.tmp 0] v) ⟨vals ++ List.replicate (47 - vals.length) (.tup []), []⟩) : CallP Try.prog 9 vals v :=
  call_of Try.func9 rfl rfl rfl (cc9.trans (congrArg some he.symm)) hw

/-- testbench/hash.Hash -/
def ac10 : AC :=
  .seq (.reg 0 [⟨(some 2), 0, none, (.op (.mov (.k (.d (.int .u64 0)))))⟩])
  (.seq (.reg 0 [⟨(some 3), 0, none, (.op (.mov (.k (.d (.int .u64 14695981039346656037)))))⟩])
  (.seq (.seq (.reg 0 [⟨(some 5), 0, none, (.op (.mov (.t 0)))⟩,
    ⟨(some 6), 0, none, (.op (.len true (.t 5)))⟩,
    ⟨(some 7), 0, none, (.op (.mov (.k (.d (.int .i64 0)))))⟩])
  (.block 0
   (.loop
    (.seq (.reg 0 [⟨(some 8), 0, none, (.op (.bin .lss (.t 7) (.t 6)))⟩])
    (.seq (.cond (.t 8)
      (.skip)
      (.exit 0))
    (.seq (.block 1
     (.seq (.reg 0 [⟨(some 9), 0, none, (.op (.mov (.t 7)))⟩,
       ⟨(some 4), 0, none, (.op (.mov (.t 9)))⟩])
     (.reg 0 [⟨(some 10), 0, none, (.op (.mov (.t 3)))⟩,
       ⟨(some 11), 0, none, (.op (.mov (.t 0)))⟩,
       ⟨(some 12), 0, none, (.op (.mov (.t 4)))⟩,
       ⟨(some 13), 0, none, (.op (.idxS (.t 11) (.t 12)))⟩,
       ⟨(some 14), 0, none, (.op (.conv .u64 (.t 13)))⟩,
       ⟨(some 15), 0, none, (.op (.bin .xor (.t 10) (.t 14)))⟩,
       ⟨(some 16), 0, none, (.op (.bin .mul (.t 15) (.k (.d (.int .u64 1099511628211)))))⟩,
       ⟨(some 3), 0, none, (.op (.mov (.t 16)))⟩])))
    (.reg 0 [⟨(some 17), 0, none, (.op (.bin .add (.t 7) (.k (.d (.int .i64 1)))))⟩,
      ⟨(some 7), 0, none, (.op (.mov (.t 17)))⟩])))))))
  (.seq (.reg 0 [⟨(some 18), 0, none, (.op (.mov (.t 3)))⟩,
    ⟨(some 2), 0, none, (.op (.mov (.t 18)))⟩])
  (.ret))))
theorem cc10 : Try.f10.body.bind (compC Try.prog) = some ac10 := by kernel_rfl
theorem go10 {vals : List V} {v : V} (ac : AC) (he : ac.erase = ac10) (hw : wpC Try.prog 0 ac (retQ [.tmp 2] v) ⟨vals ++ List.replicate (19 - vals.length) (.tup []), []⟩) : CallP Try.prog 10 vals v :=
  call_of Try.func10 rfl rfl rfl (cc10.trans (congrArg some he.symm)) hw

/-- testbench/testbenchref04.Hash -/
def ac11 : AC :=
  .seq (.reg 0 [⟨(some 2), 0, none, (.op (.mov (.k (.d (.int .u64 0)))))⟩])
  (.seq (.reg 0 [⟨(some 3), 0, none, (.op (.mov (.k (.d (.int .u64 14695981039346656037)))))⟩])
  (.seq (.seq (.reg 0 [⟨(some 4), 0, none, (.op (.mov (.k (.d (.int .i64 0)))))⟩])
  (.block 0
   (.loop
    (.seq (.seq (.reg 0 [⟨(some 5), 0, none, (.op (.mov (.t 4)))⟩,
      ⟨(some 6), 0, none, (.op (.mov (.t 0)))⟩,
      ⟨(some 7), 0, none, (.op (.len true (.t 6)))⟩,
      ⟨(some 8), 0, none, (.op (.bin .lss (.t 5) (.t 7)))⟩])
    (.cond (.t 8)
      (.skip)
      (.exit 0)))
    (.seq (.block 1
     (.reg 0 [⟨(some 11), 0, none, (.op (.mov (.t 3)))⟩,
       ⟨(some 12), 0, none, (.op (.mov (.t 0)))⟩,
       ⟨(some 13), 0, none, (.op (.mov (.t 4)))⟩,
       ⟨(some 14), 0, none, (.op (.idxS (.t 12) (.t 13)))⟩,
       ⟨(some 15), 0, none, (.op (.conv .u64 (.t 14)))⟩,
       ⟨(some 16), 0, none, (.op (.bin .xor (.t 11) (.t 15)))⟩,
       ⟨(some 17), 0, none, (.op (.bin .mul (.t 16) (.k (.d (.int .u64 1099511628211)))))⟩,
       ⟨(some 3), 0, none, (.op (.mov (.t 17)))⟩]))
    (.reg 0 [⟨(some 9), 0, none, (.op (.mov (.t 4)))⟩,
      ⟨(some 10), 0, none, (.op (.bin .add (.t 9) (.k (.d (.int .i64 1)))))⟩,
      ⟨(some 4), 0, none, (.op (.mov (.t 10)))⟩]))))))
  (.seq (.reg 0 [⟨(some 18), 0, none, (.op (.mov (.t 3)))⟩,
    ⟨(some 2), 0, none, (.op (.mov (.t 18)))⟩])
  (.ret))))
theorem cc11 : Try.f11.body.bind (compC Try.prog) = some ac11 := by kernel_rfl
theorem go11 {vals : List V} {v : V} (ac : AC) (he : ac.erase = ac11) (hw : wpC Try.prog 0 ac (retQ [.tmp 2] v) ⟨vals ++ List.replicate (19 - vals.length) (.tup []), []⟩) : CallP Try.prog 11 vals v :=
  call_of Try.func11 rfl rfl rfl (cc11.trans (congrArg some he.symm)) hw

/-- testbench/hash.CRC -/
def ac12 : AC :=
  .seq (.reg 0 [⟨(some 2), 0, none, (.op (.mov (.k (.d (.int .u32 0)))))⟩])
  (.seq (.reg 0 [⟨(some 3), 0, none, (.op (.mov (.k (.d (.int .u32 4294967295)))))⟩])
  (.seq (.seq (.reg 0 [⟨(some 6), 0, none, (.op (.mov (.t 0)))⟩,
    ⟨(some 7), 0, none, (.op (.len true (.t 6)))⟩,
    ⟨(some 8), 0, none, (.op (.mov (.k (.d (.int .i64 0)))))⟩])
  (.block 0
   (.loop
    (.seq (.reg 0 [⟨(some 9), 0, none, (.op (.bin .lss (.t 8) (.t 7)))⟩])
    (.seq (.cond (.t 9)
      (.skip)
      (.exit 0))
    (.seq (.block 1
     (.seq (.reg 0 [⟨(some 10), 0, none, (.op (.mov (.t 8)))⟩,
       ⟨(some 4), 0, none, (.op (.mov (.t 10)))⟩])
     (.seq (.reg 0 [⟨(some 11), 0, none, (.op (.mov (.t 3)))⟩,
       ⟨(some 12), 0, none, (.op (.mov (.t 0)))⟩,
       ⟨(some 13), 0, none, (.op (.mov (.t 4)))⟩,
       ⟨(some 14), 0, none, (.op (.idxS (.t 12) (.t 13)))⟩,
       ⟨(some 15), 0, none, (.op (.conv .u32 (.t 14)))⟩,
       ⟨(some 16), 0, none, (.op (.bin .xor (.t 11) (.t 15)))⟩,
       ⟨(some 3), 0, none, (.op (.mov (.t 16)))⟩])
     (.seq (.reg 0 [⟨(some 17), 0, none, (.op (.mov (.k (.d (.int .i64 0)))))⟩])
     (.block 2
      (.loop
       (.seq (.reg 0 [⟨(some 18), 0, none, (.op (.bin .lss (.t 17) (.k (.d (.int .i64 8)))))⟩])
       (.seq (.cond (.t 18)
         (.skip)
         (.exit 2))
       (.seq (.block 3
        (.seq (.reg 0 [⟨(some 19), 0, none, (.op (.mov (.t 3)))⟩,
          ⟨(some 20), 0, none, (.op (.bin .and (.t 19) (.k (.d (.int .u32 1)))))⟩,
          ⟨(some 5), 0, none, (.op (.mov (.t 20)))⟩])
        (.seq (.reg 0 [⟨(some 21), 0, none, (.op (.mov (.t 3)))⟩,
          ⟨(some 22), 0, none, (.op (.bin .shr (.t 21) (.k (.d (.int .u64 1)))))⟩,
          ⟨(some 3), 0, none, (.op (.mov (.t 22)))⟩])
        (.seq (.reg 0 [⟨(some 23), 0, none, (.op (.mov (.t 5)))⟩,
          ⟨(some 24), 0, none, (.op (.bin .eql (.t 23) (.k (.d (.int .u32 1)))))⟩])
        (.cond (.t 24)
          (.reg 0 [⟨(some 25), 0, none, (.op (.mov (.t 3)))⟩,
            ⟨(some 26), 0, none, (.op (.bin .xor (.t 25) (.k (.d (.int .u32 3988292384)))))⟩,
            ⟨(some 3), 0, none, (.op (.mov (.t 26)))⟩])
          (.skip))))))
       (.reg 0 [⟨(some 27), 0, none, (.op (.bin .add (.t 17) (.k (.d (.int .i64 1)))))⟩,
         ⟨(some 17), 0, none, (.op (.mov (.t 27)))⟩]))))))))))
    (.reg 0 [⟨(some 28), 0, none, (.op (.bin .add (.t 8) (.k (.d (.int .i64 1)))))⟩,
      ⟨(some 8), 0, none, (.op (.mov (.t 28)))⟩])))))))
  (.seq (.reg 0 [⟨(some 29), 0, none, (.op (.mov (.t 3)))⟩,
    ⟨(some 30), 0, none, (.op (.un .xor (.t 29)))⟩,
    ⟨(some 2), 0, none, (.op (.mov (.t 30)))⟩])
  (.ret))))
theorem cc12 : Try.f12.body.bind (compC Try.prog) = some ac12 := by kernel_rfl
theorem go12 {vals : List V} {v : V} (ac : AC) (he : ac.erase = ac12) (hw : wpC Try.prog 0 ac (retQ [.tmp 2] v) ⟨vals ++ List.replicate (31 - vals.length) (.tup []), []⟩) : CallP Try.prog 12 vals v :=
  call_of Try.func12 rfl rfl rfl (cc12.trans (congrArg some he.symm)) hw

/-- testbench/testbenchref04.CRC -/
def ac13 : AC :=
  .seq (.reg 0 [⟨(some 2), 0, none, (.op (.mov (.k (.d (.int .u32 0)))))⟩])
  (.seq (.reg 0 [⟨(some 3), 0, none, (.op (.mov (.k (.d (.int .u32 4294967295)))))⟩])
  (.seq (.seq (.reg 0 [⟨(some 4), 0, none, (.op (.mov (.k (.d (.int .i64 0)))))⟩])
  (.block 0
   (.loop
    (.seq (.seq (.reg 0 [⟨(some 6), 0, none, (.op (.mov (.t 4)))⟩,
      ⟨(some 7), 0, none, (.op (.mov (.t 0)))⟩,
      ⟨(some 8), 0, none, (.op (.len true (.t 7)))⟩,
      ⟨(some 9), 0, none, (.op (.bin .lss (.t 6) (.t 8)))⟩])
    (.cond (.t 9)
      (.skip)
      (.exit 0)))
    (.seq (.block 1
     (.seq (.reg 0 [⟨(some 12), 0, none, (.op (.mov (.t 3)))⟩,
       ⟨(some 13), 0, none, (.op (.mov (.t 0)))⟩,
       ⟨(some 14), 0, none, (.op (.mov (.t 4)))⟩,
       ⟨(some 15), 0, none, (.op (.idxS (.t 13) (.t 14)))⟩,
       ⟨(some 16), 0, none, (.op (.conv .u32 (.t 15)))⟩,
       ⟨(some 17), 0, none, (.op (.bin .xor (.t 12) (.t 16)))⟩,
       ⟨(some 3), 0, none, (.op (.mov (.t 17)))⟩])
     (.seq (.reg 0 [⟨(some 5), 0, none, (.op (.mov (.k (.d (.int .i64 0)))))⟩])
     (.block 2
      (.loop
       (.seq (.seq (.reg 0 [⟨(some 18), 0, none, (.op (.mov (.t 5)))⟩,
         ⟨(some 19), 0, none, (.op (.bin .lss (.t 18) (.k (.d (.int .i64 8)))))⟩])
       (.cond (.t 19)
         (.skip)
         (.exit 2)))
       (.seq (.block 3
        (.seq (.reg 0 [⟨(some 22), 0, none, (.op (.mov (.t 3)))⟩,
          ⟨(some 23), 0, none, (.op (.bin .rem (.t 22) (.k (.d (.int .u32 2)))))⟩,
          ⟨(some 24), 0, none, (.op (.bin .eql (.t 23) (.k (.d (.int .u32 1)))))⟩])
        (.cond (.t 24)
          (.reg 0 [⟨(some 25), 0, none, (.op (.mov (.t 3)))⟩,
            ⟨(some 26), 0, none, (.op (.bin .shr (.t 25) (.k (.d (.int .u64 1)))))⟩,
            ⟨(some 27), 0, none, (.op (.bin .xor (.t 26) (.k (.d (.int .u32 3988292384)))))⟩,
            ⟨(some 3), 0, none, (.op (.mov (.t 27)))⟩])
          (.reg 0 [⟨(some 28), 0, none, (.op (.mov (.t 3)))⟩,
            ⟨(some 29), 0, none, (.op (.bin .shr (.t 28) (.k (.d (.int .u64 1)))))⟩,
            ⟨(some 3), 0, none, (.op (.mov (.t 29)))⟩]))))
       (.reg 0 [⟨(some 20), 0, none, (.op (.mov (.t 5)))⟩,
         ⟨(some 21), 0, none, (.op (.bin .add (.t 20) (.k (.d (.int .i64 1)))))⟩,
         ⟨(some 5), 0, none, (.op (.mov (.t 21)))⟩]))))))))
    (.reg 0 [⟨(some 10), 0, none, (.op (.mov (.t 4)))⟩,
      ⟨(some 11), 0, none, (.op (.bin .add (.t 10) (.k (.d (.int .i64 1)))))⟩,
      ⟨(some 4), 0, none, (.op (.mov (.t 11)))⟩]))))))
  (.seq (.reg 0 [⟨(some 30), 0, none, (.op (.mov (.t 3)))⟩,
    ⟨(some 31), 0, none, (.op (.bin .xor (.t 30) (.k (.d (.int .u32 4294967295)))))⟩,
    ⟨(some 2), 0, none, (.op (.mov (.t 31)))⟩])
  (.ret))))
theorem cc13 : Try.f13.body.bind (compC Try.prog) = some ac13 := by kernel_rfl
theorem go13 {vals : List V} {v : V} (ac : AC) (he : ac.erase = ac13) (hw : wpC Try.prog 0 ac (retQ [.tmp 2] v) ⟨vals ++ List.replicate (32 - vals.length) (.tup []), []⟩) : CallP Try.prog 13 vals v :=
  call_of Try.func13 rfl rfl rfl (cc13.trans (congrArg some he.symm)) hw

/-- testbench/hash.Seal -/
def ac14 : AC :=
  .seq (.reg 0 [⟨(some 2), 0, none, (.op (.mov (.k (.d (.str [])))))⟩])
  (.seq (.reg 0 [⟨(some 3), 0, none, (.op (.mov (.t 0)))⟩,
    ⟨(some 4), 0, none, (.op (.bin .add (.t 3) (.k (.d (.str [35])))))⟩,
    ⟨(some 5), 0, none, (.op (.mov (.t 0)))⟩,
    ⟨(some 6), 0, none, (.call (.k (.fn (.func 12) [] [])) [(.t 5)])⟩,
    ⟨(some 7), 0, none, (.op (.conv .u64 (.t 6)))⟩,
    ⟨(some 8), 0, none, (.call (.k (.fn (.func 28) [] [])) [(.t 7), (.k (.d (.int .i64 8)))])⟩,
    ⟨(some 9), 0, none, (.op (.bin .add (.t 4) (.t 8)))⟩,
    ⟨(some 2), 0, none, (.op (.mov (.t 9)))⟩])
  (.ret))
theorem cc14 : Try.f14.body.bind (compC Try.prog) = some ac14 := by kernel_rfl
theorem go14 {vals : List V} {v : V} (ac : AC) (he : ac.erase = ac14) (hw : wpC Try.prog 0 ac (retQ [.tmp 2] v) ⟨vals ++ List.replicate (10 - vals.length) (.tup []), []⟩) : CallP Try.prog 14 vals v :=
  call_of Try.func14 rfl rfl rfl (cc14.trans (congrArg some he.symm)) hw

/-- testbench/testbenchref04.Seal -/
def ac15 : AC :=
  .seq (.reg 0 [⟨(some 2), 0, none, (.op (.mov (.k (.d (.str [])))))⟩])
  (.seq (.reg 0 [⟨(some 3), 0, none, (.op (.mov (.t 0)))⟩,
    ⟨(some 4), 0, none, (.op (.bin .add (.t 3) (.k (.d (.str [35])))))⟩,
    ⟨(some 5), 0, none, (.op (.mov (.t 0)))⟩,
    ⟨(some 6), 0, none, (.call (.k (.fn (.func 13) [] [])) [(.t 5)])⟩,
    ⟨(some 7), 0, none, (.op (.conv .u64 (.t 6)))⟩,
    ⟨(some 8), 0, none, (.call (.k (.fn (.func 29) [] [])) [(.t 7), (.k (.d (.int .i64 8)))])⟩,
    ⟨(some 9), 0, none, (.op (.bin .add (.t 4) (.t 8)))⟩,
    ⟨(some 2), 0, none, (.op (.mov (.t 9)))⟩])
  (.ret))
theorem cc15 : Try.f15.body.bind (compC Try.prog) = some ac15 := by kernel_rfl
theorem go15 {vals : List V} {v : V} (ac : AC) (he : ac.erase = ac15) (hw : wpC Try.prog 0 ac (retQ [.tmp 2] v) ⟨vals ++ List.replicate (10 - vals.length) (.tup []), []⟩) : CallP Try.prog 15 vals v :=
  call_of Try.func15 rfl rfl rfl (cc15.trans (congrArg some he.symm)) hw

/-- testbench/hash.Unhex -/
def ac16 : AC :=
  .seq (.reg 0 [⟨(some 2), 0, none, (.op (.mov (.k (.d (.int .u64 0)))))⟩,
    ⟨(some 3), 0, none, (.op (.mov (.k (.d (.int .i64 0)))))⟩])
  (.seq (.reg 0 [⟨(some 7), 0, none, (.op (.mov (.t 0)))⟩,
    ⟨(some 8), 0, none, (.call (.k (.fn (.func 30) [] [])) [(.t 7)])⟩,
    ⟨(some 6), 0, none, (.op (.mov (.t 8)))⟩,
    ⟨(some 9), 0, none, (.op (.ext (.t 6) 0))⟩,
    ⟨(some 10), 0, none, (.op (.ext (.t 6) 1))⟩,
    ⟨(some 4), 0, none, (.op (.mov (.t 9)))⟩,
    ⟨(some 5), 0, none, (.op (.mov (.t 10)))⟩])
  (.seq (.seq (.reg 0 [⟨(some 11), 0, none, (.op (.mov (.t 5)))⟩,
    ⟨(some 12), 0, none, (.op (.un .not (.t 11)))⟩,
    ⟨(some 13), 0, none, (.op (.mov (.t 12)))⟩,
    ⟨(some 14), 0, (some (13, false)), (.op (.mov (.t 0)))⟩,
    ⟨(some 15), 0, (some (13, false)), (.op (.len true (.t 14)))⟩,
    ⟨(some 16), 0, (some (13, false)), (.op (.bin .neq (.t 15) (.k (.d (.int .i64 16)))))⟩,
    ⟨(some 17), 0, none, (.op (.pick (.t 13) (.k (.d (.bool true))) (.t 16)))⟩])
  (.cond (.t 17)
    (.seq (.reg 0 [⟨(some 2), 0, none, (.op (.mov (.k (.d (.int .u64 0)))))⟩,
      ⟨(some 3), 0, none, (.op (.mov (.k (.d (.int .i64 5)))))⟩])
    (.ret))
    (.skip)))
  (.seq (.reg 0 [⟨(some 18), 0, none, (.op (.mov (.t 4)))⟩,
    ⟨(some 2), 0, none, (.op (.mov (.t 18)))⟩,
    ⟨(some 3), 0, none, (.op (.mov (.k (.d (.int .i64 0)))))⟩])
  (.ret))))
theorem cc16 : Try.f16.body.bind (compC Try.prog) = some ac16 := by kernel_rfl
theorem go16 {vals : List V} {v : V} (ac : AC) (he : ac.erase = ac16) (hw : wpC Try.prog 0 ac (retQ [.tmp 2, .tmp 3] v) ⟨vals ++ List.replicate (19 - vals.length) (.tup []), []⟩) : CallP Try.prog 16 vals v :=
  call_of Try.func16 rfl rfl rfl (cc16.trans (congrArg some he.symm)) hw

/-- testbench/testbenchref04.Unhex -/
def ac17 : AC :=
  .seq (.reg 0 [⟨(some 2), 0, none, (.op (.mov (.k (.d (.int .u64 0)))))⟩,
    ⟨(some 3), 0, none, (.op (.mov (.k (.d (.int .i64 0)))))⟩])
  (.seq (.reg 0 [⟨(some 7), 0, none, (.op (.mov (.t 0)))⟩,
    ⟨(some 8), 0, none, (.call (.k (.fn (.func 31) [] [])) [(.t 7)])⟩,
    ⟨(some 6), 0, none, (.op (.mov (.t 8)))⟩,
    ⟨(some 9), 0, none, (.op (.ext (.t 6) 0))⟩,
    ⟨(some 10), 0, none, (.op (.ext (.t 6) 1))⟩,
    ⟨(some 4), 0, none, (.op (.mov (.t 9)))⟩,
    ⟨(some 5), 0, none, (.op (.mov (.t 10)))⟩])
  (.seq (.seq (.reg 0 [⟨(some 11), 0, none, (.op (.mov (.t 0)))⟩,
    ⟨(some 12), 0, none, (.op (.len true (.t 11)))⟩,
    ⟨(some 13), 0, none, (.op (.bin .neq (.t 12) (.k (.d (.int .i64 16)))))⟩,
    ⟨(some 14), 0, none, (.op (.mov (.t 13)))⟩,
    ⟨(some 15), 0, (some (14, false)), (.op (.mov (.t 5)))⟩,
    ⟨(some 16), 0, (some (14, false)), (.op (.un .not (.t 15)))⟩,
    ⟨(some 17), 0, none, (.op (.pick (.t 14) (.k (.d (.bool true))) (.t 16)))⟩])
  (.cond (.t 17)
    (.seq (.reg 0 [⟨(some 2), 0, none, (.op (.mov (.k (.d (.int .u64 0)))))⟩,
      ⟨(some 3), 0, none, (.op (.mov (.k (.d (.int .i64 5)))))⟩])
    (.ret))
    (.skip)))
  (.seq (.reg 0 [⟨(some 18), 0, none, (.op (.mov (.t 4)))⟩,
    ⟨(some 2), 0, none, (.op (.mov (.t 18)))⟩,
    ⟨(some 3), 0, none, (.op (.mov (.k (.d (.int .i64 0)))))⟩])
  (.ret))))
theorem cc17 : Try.f17.body.bind (compC Try.prog) = some ac17 := by kernel_rfl
theorem go17 {vals : List V} {v : V} (ac : AC) (he : ac.erase = ac17) (hw : wpC Try.prog 0 ac (retQ [.tmp 2, .tmp 3] v) ⟨vals ++ List.replicate (19 - vals.length) (.tup []), []⟩) : CallP Try.prog 17 vals v :=
  call_of Try.func17 rfl rfl rfl (cc17.trans (congrArg some he.symm)) hw

/-- testbench/hash.Open -/
def ac18 : AC :=
  .seq (.reg 0 [⟨(some 2), 0, none, (.op (.mov (.k (.d (.str [])))))⟩,
    ⟨(some 3), 0, none, (.op (.mov (.k (.d (.int .i64 0)))))⟩])
  (.seq (.reg 0 [⟨(some 7), 0, none, (.op (.mov (.t 0)))⟩,
    ⟨(some 8), 0, none, (.op (.len true (.t 7)))⟩,
    ⟨(some 9), 0, none, (.op (.bin .sub (.t 8) (.k (.d (.int .i64 9)))))⟩,
    ⟨(some 4), 0, none, (.op (.mov (.t 9)))⟩])
  (.seq (.seq (.reg 0 [⟨(some 10), 0, none, (.op (.mov (.t 4)))⟩,
    ⟨(some 11), 0, none, (.op (.bin .lss (.t 10) (.k (.d (.int .i64 0)))))⟩])
  (.cond (.t 11)
    (.seq (.reg 0 [⟨(some 2), 0, none, (.op (.mov (.k (.d (.str [])))))⟩,
      ⟨(some 3), 0, none, (.op (.mov (.k (.d (.int .i64 6)))))⟩])
    (.ret))
    (.skip)))
  (.seq (.reg 0 [⟨(some 13), 0, none, (.op (.mov (.t 0)))⟩,
    ⟨(some 14), 0, none, (.op (.mov (.t 4)))⟩,
    ⟨(some 15), 0, none, (.op (.bin .add (.t 14) (.k (.d (.int .i64 1)))))⟩,
    ⟨(some 16), 0, none, (.op (.slice 0 (.t 13) (some (.t 15)) none))⟩,
    ⟨(some 17), 0, none, (.call (.k (.fn (.func 30) [] [])) [(.t 16)])⟩,
    ⟨(some 12), 0, none, (.op (.mov (.t 17)))⟩,
    ⟨(some 18), 0, none, (.op (.ext (.t 12) 0))⟩,
    ⟨(some 19), 0, none, (.op (.ext (.t 12) 1))⟩,
    ⟨(some 5), 0, none, (.op (.mov (.t 18)))⟩,
    ⟨(some 6), 0, none, (.op (.mov (.t 19)))⟩])
  (.seq (.block 0
   (.seq (.reg 0 [⟨(some 21), 0, none, (.op (.mov (.t 0)))⟩,
     ⟨(some 22), 0, none, (.op (.mov (.t 4)))⟩,
     ⟨(some 23), 0, none, (.op (.idxS (.t 21) (.t 22)))⟩,
     ⟨(some 24), 0, none, (.op (.bin .neq (.t 23) (.k (.d (.int .u8 35)))))⟩,
     ⟨(some 25), 0, none, (.op (.mov (.t 24)))⟩,
     ⟨(some 26), 0, (some (25, false)), (.op (.mov (.t 6)))⟩,
     ⟨(some 27), 0, (some (25, false)), (.op (.un .not (.t 26)))⟩,
     ⟨(some 28), 0, none, (.op (.pick (.t 25) (.k (.d (.bool true))) (.t 27)))⟩,
     ⟨(some 20), 0, none, (.op (.mov (.t 28)))⟩])
   (.cond (.t 20)
     (.seq (.reg 0 [⟨(some 2), 0, none, (.op (.mov (.k (.d (.str [])))))⟩,
       ⟨(some 3), 0, none, (.op (.mov (.k (.d (.int .i64 5)))))⟩])
     (.ret))
     (.seq (.reg 0 [⟨(some 30), 0, none, (.op (.mov (.t 5)))⟩,
       ⟨(some 31), 0, none, (.op (.mov (.t 0)))⟩,
       ⟨(some 32), 0, none, (.op (.mov (.t 4)))⟩,
       ⟨(some 33), 0, none, (.op (.slice 0 (.t 31) none (some (.t 32))))⟩,
       ⟨(some 34), 0, none, (.call (.k (.fn (.func 12) [] [])) [(.t 33)])⟩,
       ⟨(some 35), 0, none, (.op (.conv .u64 (.t 34)))⟩,
       ⟨(some 36), 0, none, (.op (.bin .neq (.t 30) (.t 35)))⟩,
       ⟨(some 29), 0, none, (.op (.mov (.t 36)))⟩])
     (.cond (.t 29)
       (.seq (.reg 0 [⟨(some 2), 0, none, (.op (.mov (.k (.d (.str [])))))⟩,
         ⟨(some 3), 0, none, (.op (.mov (.k (.d (.int .i64 14)))))⟩])
       (.ret))
       (.skip))))))
  (.seq (.reg 0 [⟨(some 37), 0, none, (.op (.mov (.t 0)))⟩,
    ⟨(some 38), 0, none, (.op (.mov (.t 4)))⟩,
    ⟨(some 39), 0, none, (.op (.slice 0 (.t 37) none (some (.t 38))))⟩,
    ⟨(some 2), 0, none, (.op (.mov (.t 39)))⟩,
    ⟨(some 3), 0, none, (.op (.mov (.k (.d (.int .i64 0)))))⟩])
  (.ret))))))
theorem cc18 : Try.f18.body.bind (compC Try.prog) = some ac18 := by kernel_rfl
theorem go18 {vals : List V} {v : V} (ac : AC) (he : ac.erase = ac18) (hw : wpC Try.prog 0 ac (retQ [.tmp 2, .tmp 3] v) ⟨vals ++ List.replicate (40 - vals.length) (.tup []), []⟩) : CallP Try.prog 18 vals v :=
  call_of Try.func18 rfl rfl rfl (cc18.trans (congrArg some he.symm)) hw

/-- testbench/testbenchref04.Open -/
def ac19 : AC :=
  .seq (.reg 0 [⟨(some 2), 0, none, (.op (.mov (.k (.d (.str [])))))⟩,
    ⟨(some 3), 0, none, (.op (.mov (.k (.d (.int .i64 0)))))⟩])
  (.seq (.reg 0 [⟨(some 7), 0, none, (.op (.mov (.t 0)))⟩,
    ⟨(some 8), 0, none, (.op (.len true (.t 7)))⟩,
    ⟨(some 9), 0, none, (.op (.bin .sub (.t 8) (.k (.d (.int .i64 9)))))⟩,
    ⟨(some 4), 0, none, (.op (.mov (.t 9)))⟩])
  (.seq (.seq (.reg 0 [⟨(some 10), 0, none, (.op (.mov (.t 4)))⟩,
    ⟨(some 11), 0, none, (.op (.bin .lss (.t 10) (.k (.d (.int .i64 0)))))⟩])
  (.cond (.t 11)
    (.seq (.reg 0 [⟨(some 2), 0, none, (.op (.mov (.k (.d (.str [])))))⟩,
      ⟨(some 3), 0, none, (.op (.mov (.k (.d (.int .i64 6)))))⟩])
    (.ret))
    (.skip)))
  (.seq (.reg 0 [⟨(some 13), 0, none, (.op (.mov (.t 0)))⟩,
    ⟨(some 14), 0, none, (.op (.mov (.t 4)))⟩,
    ⟨(some 15), 0, none, (.op (.bin .add (.t 14) (.k (.d (.int .i64 1)))))⟩,
    ⟨(some 16), 0, none, (.op (.slice 0 (.t 13) (some (.t 15)) none))⟩,
    ⟨(some 17), 0, none, (.call (.k (.fn (.func 31) [] [])) [(.t 16)])⟩,
    ⟨(some 12), 0, none, (.op (.mov (.t 17)))⟩,
    ⟨(some 18), 0, none, (.op (.ext (.t 12) 0))⟩,
    ⟨(some 19), 0, none, (.op (.ext (.t 12) 1))⟩,
    ⟨(some 5), 0, none, (.op (.mov (.t 18)))⟩,
    ⟨(some 6), 0, none, (.op (.mov (.t 19)))⟩])
  (.seq (.seq (.reg 0 [⟨(some 20), 0, none, (.op (.mov (.t 0)))⟩,
    ⟨(some 21), 0, none, (.op (.mov (.t 4)))⟩,
    ⟨(some 22), 0, none, (.op (.idxS (.t 20) (.t 21)))⟩,
    ⟨(some 23), 0, none, (.op (.bin .neq (.t 22) (.k (.d (.int .u8 35)))))⟩,
    ⟨(some 24), 0, none, (.op (.mov (.t 23)))⟩,
    ⟨(some 25), 0, (some (24, false)), (.op (.mov (.t 6)))⟩,
    ⟨(some 26), 0, (some (24, false)), (.op (.un .not (.t 25)))⟩,
    ⟨(some 27), 0, none, (.op (.pick (.t 24) (.k (.d (.bool true))) (.t 26)))⟩])
  (.cond (.t 27)
    (.seq (.reg 0 [⟨(some 2), 0, none, (.op (.mov (.k (.d (.str [])))))⟩,
      ⟨(some 3), 0, none, (.op (.mov (.k (.d (.int .i64 5)))))⟩])
    (.ret))
    (.skip)))
  (.seq (.seq (.reg 0 [⟨(some 28), 0, none, (.op (.mov (.t 5)))⟩,
    ⟨(some 29), 0, none, (.op (.mov (.t 0)))⟩,
    ⟨(some 30), 0, none, (.op (.mov (.t 4)))⟩,
    ⟨(some 31), 0, none, (.op (.slice 0 (.t 29) none (some (.t 30))))⟩,
    ⟨(some 32), 0, none, (.call (.k (.fn (.func 13) [] [])) [(.t 31)])⟩,
    ⟨(some 33), 0, none, (.op (.conv .u64 (.t 32)))⟩,
    ⟨(some 34), 0, none, (.op (.bin .neq (.t 28) (.t 33)))⟩])
  (.cond (.t 34)
    (.seq (.reg 0 [⟨(some 2), 0, none, (.op (.mov (.k (.d (.str [])))))⟩,
      ⟨(some 3), 0, none, (.op (.mov (.k (.d (.int .i64 14)))))⟩])
    (.ret))
    (.skip)))
  (.seq (.reg 0 [⟨(some 35), 0, none, (.op (.mov (.t 0)))⟩,
    ⟨(some 36), 0, none, (.op (.mov (.t 4)))⟩,
    ⟨(some 37), 0, none, (.op (.slice 0 (.t 35) none (some (.t 36))))⟩,
    ⟨(some 2), 0, none, (.op (.mov (.t 37)))⟩,
    ⟨(some 3), 0, none, (.op (.mov (.k (.d (.int .i64 0)))))⟩])
  (.ret)))))))
theorem cc19 : Try.f19.body.bind (compC Try.prog) = some ac19 := by kernel_rfl
theorem go19 {vals : List V} {v : V} (ac : AC) (he : ac.erase = ac19) (hw : wpC Try.prog 0 ac (retQ [.tmp 2, .tmp 3] v) ⟨vals ++ List.replicate (38 - vals.length) (.tup []), []⟩) : CallP Try.prog 19 vals v :=
  call_of Try.func19 rfl rfl rfl (cc19.trans (congrArg some he.symm)) hw

/-- testbench/hash.Hex -/
def ac20 : AC :=
  .seq (.reg 0 [⟨(some 2), 0, none, (.op (.mov (.k (.d (.str [])))))⟩])
  (.seq (.reg 0 [⟨(some 3), 0, none, (.op (.mov (.t 0)))⟩,
    ⟨(some 4), 0, none, (.call (.k (.fn (.func 28) [] [])) [(.t 3), (.k (.d (.int .i64 16)))])⟩,
    ⟨(some 2), 0, none, (.op (.mov (.t 4)))⟩])
  (.ret))
theorem cc20 : Try.f20.body.bind (compC Try.prog) = some ac20 := by kernel_rfl
theorem go20 {vals : List V} {v : V} (ac : AC) (he : ac.erase = ac20) (hw : wpC Try.prog 0 ac (retQ [.tmp 2] v) ⟨vals ++ List.replicate (5 - vals.length) (.tup []), []⟩) : CallP Try.prog 20 vals v :=
  call_of Try.func20 rfl rfl rfl (cc20.trans (congrArg some he.symm)) hw

/-- testbench/hash.Finish -/
def ac21 : AC :=
  .seq (.reg 0 [⟨(some 2), 0, none, (.op (.mov (.k (.d (.int .u64 0)))))⟩])
  (.seq (.reg 0 [⟨(some 3), 0, none, (.op (.mov (.t 0)))⟩,
    ⟨(some 4), 0, none, (.op (.mov (.t 0)))⟩,
    ⟨(some 5), 0, none, (.op (.bin .shr (.t 4) (.k (.d (.int .u64 30)))))⟩,
    ⟨(some 6), 0, none, (.op (.bin .xor (.t 3) (.t 5)))⟩,
    ⟨(some 7), 0, none, (.op (.bin .mul (.t 6) (.k (.d (.int .u64 13787848793156543929)))))⟩,
    ⟨(some 0), 0, none, (.op (.mov (.t 7)))⟩])
  (.seq (.reg 0 [⟨(some 8), 0, none, (.op (.mov (.t 0)))⟩,
    ⟨(some 9), 0, none, (.op (.mov (.t 0)))⟩,
    ⟨(some 10), 0, none, (.op (.bin .shr (.t 9) (.k (.d (.int .u64 27)))))⟩,
    ⟨(some 11), 0, none, (.op (.bin .xor (.t 8) (.t 10)))⟩,
    ⟨(some 12), 0, none, (.op (.bin .mul (.t 11) (.k (.d (.int .u64 10723151780598845931)))))⟩,
    ⟨(some 0), 0, none, (.op (.mov (.t 12)))⟩])
  (.seq (.reg 0 [⟨(some 13), 0, none, (.op (.mov (.t 0)))⟩,
    ⟨(some 14), 0, none, (.op (.mov (.t 0)))⟩,
    ⟨(some 15), 0, none, (.op (.bin .shr (.t 14) (.k (.d (.int .u64 31)))))⟩,
    ⟨(some 16), 0, none, (.op (.bin .xor (.t 13) (.t 15)))⟩,
    ⟨(some 2), 0, none, (.op (.mov (.t 16)))⟩])
  (.ret))))
theorem cc21 : Try.f21.body.bind (compC Try.prog) = some ac21 := by kernel_rfl
theorem go21 {vals : List V} {v : V} (ac : AC) (he : ac.erase = ac21) (hw : wpC Try.prog 0 ac (retQ [.tmp 2] v) ⟨vals ++ List.replicate (17 - vals.length) (.tup []), []⟩) : CallP Try.prog 21 vals v :=
  call_of Try.func21 rfl rfl rfl (cc21.trans (congrArg some he.symm)) hw

/-- testbench/testbenchref04.Finish -/
def ac22 : AC :=
  .seq (.reg 0 [⟨(some 2), 0, none, (.op (.mov (.k (.d (.int .u64 0)))))⟩])
  (.seq (.reg 0 [⟨(some 3), 0, none, (.op (.mov (.t 0)))⟩,
    ⟨(some 4), 0, none, (.op (.mov (.t 0)))⟩,
    ⟨(some 5), 0, none, (.op (.bin .shr (.t 4) (.k (.d (.int .u64 30)))))⟩,
    ⟨(some 6), 0, none, (.op (.bin .xor (.t 3) (.t 5)))⟩,
    ⟨(some 0), 0, none, (.op (.mov (.t 6)))⟩])
  (.seq (.reg 0 [⟨(some 7), 0, none, (.op (.mov (.t 0)))⟩,
    ⟨(some 8), 0, none, (.op (.bin .mul (.t 7) (.k (.d (.int .u64 13787848793156543929)))))⟩,
    ⟨(some 0), 0, none, (.op (.mov (.t 8)))⟩])
  (.seq (.reg 0 [⟨(some 9), 0, none, (.op (.mov (.t 0)))⟩,
    ⟨(some 10), 0, none, (.op (.mov (.t 0)))⟩,
    ⟨(some 11), 0, none, (.op (.bin .shr (.t 10) (.k (.d (.int .u64 27)))))⟩,
    ⟨(some 12), 0, none, (.op (.bin .xor (.t 9) (.t 11)))⟩,
    ⟨(some 0), 0, none, (.op (.mov (.t 12)))⟩])
  (.seq (.reg 0 [⟨(some 13), 0, none, (.op (.mov (.t 0)))⟩,
    ⟨(some 14), 0, none, (.op (.bin .mul (.t 13) (.k (.d (.int .u64 10723151780598845931)))))⟩,
    ⟨(some 0), 0, none, (.op (.mov (.t 14)))⟩])
  (.seq (.reg 0 [⟨(some 15), 0, none, (.op (.mov (.t 0)))⟩,
    ⟨(some 16), 0, none, (.op (.mov (.t 0)))⟩,
    ⟨(some 17), 0, none, (.op (.bin .shr (.t 16) (.k (.d (.int .u64 31)))))⟩,
    ⟨(some 18), 0, none, (.op (.bin .xor (.t 15) (.t 17)))⟩,
    ⟨(some 2), 0, none, (.op (.mov (.t 18)))⟩])
  (.ret))))))
theorem cc22 : Try.f22.body.bind (compC Try.prog) = some ac22 := by kernel_rfl
theorem go22 {vals : List V} {v : V} (ac : AC) (he : ac.erase = ac22) (hw : wpC Try.prog 0 ac (retQ [.tmp 2] v) ⟨vals ++ List.replicate (19 - vals.length) (.tup []), []⟩) : CallP Try.prog 22 vals v :=
  call_of Try.func22 rfl rfl rfl (cc22.trans (congrArg some he.symm)) hw

/-- testbench/hash.Mix -/
def ac23 : AC :=
  .seq (.reg 0 [⟨(some 4), 0, none, (.op (.mov (.k (.d (.int .u64 0)))))⟩])
  (.seq (.reg 0 [⟨(some 5), 0, none, (.op (.mov (.t 0)))⟩,
    ⟨(some 6), 0, none, (.op (.mov (.t 1)))⟩,
    ⟨(some 7), 0, none, (.op (.bin .add (.t 6) (.k (.d (.int .u64 1)))))⟩,
    ⟨(some 8), 0, none, (.op (.bin .mul (.k (.d (.int .u64 11400714819323198485))) (.t 7)))⟩,
    ⟨(some 9), 0, none, (.op (.bin .add (.t 5) (.t 8)))⟩,
    ⟨(some 10), 0, none, (.call (.k (.fn (.func 21) [] [])) [(.t 9)])⟩,
    ⟨(some 4), 0, none, (.op (.mov (.t 10)))⟩])
  (.ret))
theorem cc23 : Try.f23.body.bind (compC Try.prog) = some ac23 := by kernel_rfl
theorem go23 {vals : List V} {v : V} (ac : AC) (he : ac.erase = ac23) (hw : wpC Try.prog 0 ac (retQ [.tmp 4] v) ⟨vals ++ List.replicate (11 - vals.length) (.tup []), []⟩) : CallP Try.prog 23 vals v :=
  call_of Try.func23 rfl rfl rfl (cc23.trans (congrArg some he.symm)) hw

/-- testbench/testbenchref04.Mix -/
def ac24 : AC :=
  .seq (.reg 0 [⟨(some 4), 0, none, (.op (.mov (.k (.d (.int .u64 0)))))⟩])
  (.seq (.reg 0 [⟨(some 5), 0, none, (.op (.mov (.t 0)))⟩,
    ⟨(some 6), 0, none, (.op (.mov (.t 1)))⟩,
    ⟨(some 7), 0, none, (.op (.bin .add (.t 6) (.k (.d (.int .u64 1)))))⟩,
    ⟨(some 8), 0, none, (.op (.bin .mul (.k (.d (.int .u64 11400714819323198485))) (.t 7)))⟩,
    ⟨(some 9), 0, none, (.op (.bin .add (.t 5) (.t 8)))⟩,
    ⟨(some 10), 0, none, (.call (.k (.fn (.func 22) [] [])) [(.t 9)])⟩,
    ⟨(some 4), 0, none, (.op (.mov (.t 10)))⟩])
  (.ret))
theorem cc24 : Try.f24.body.bind (compC Try.prog) = some ac24 := by kernel_rfl
theorem go24 {vals : List V} {v : V} (ac : AC) (he : ac.erase = ac24) (hw : wpC Try.prog 0 ac (retQ [.tmp 4] v) ⟨vals ++ List.replicate (11 - vals.length) (.tup []), []⟩) : CallP Try.prog 24 vals v :=
  call_of Try.func24 rfl rfl rfl (cc24.trans (congrArg some he.symm)) hw

/-- testbench/testbenchref04.Hex -/
def ac25 : AC :=
  .seq (.reg 0 [⟨(some 2), 0, none, (.op (.mov (.k (.d (.str [])))))⟩])
  (.seq (.reg 0 [⟨(some 3), 0, none, (.op (.mov (.t 0)))⟩,
    ⟨(some 4), 0, none, (.call (.k (.fn (.func 29) [] [])) [(.t 3), (.k (.d (.int .i64 16)))])⟩,
    ⟨(some 2), 0, none, (.op (.mov (.t 4)))⟩])
  (.ret))
theorem cc25 : Try.f25.body.bind (compC Try.prog) = some ac25 := by kernel_rfl
theorem go25 {vals : List V} {v : V} (ac : AC) (he : ac.erase = ac25) (hw : wpC Try.prog 0 ac (retQ [.tmp 2] v) ⟨vals ++ List.replicate (5 - vals.length) (.tup []), []⟩) : CallP Try.prog 25 vals v :=
  call_of Try.func25 rfl rfl rfl (cc25.trans (congrArg some he.symm)) hw

/-- testbench/testbenchlaw04.undo -/
def ac26 : AC :=
  .seq (.reg 0 [⟨(some 2), 0, none, (.op (.mov (.k (.d (.int .u64 0)))))⟩])
  (.seq (.reg 0 [⟨(some 4), 0, none, (.op (.mov (.t 0)))⟩,
    ⟨(some 5), 0, none, (.call (.k (.fn (.func 32) [] [])) [(.t 4), (.k (.d (.int .i64 31)))])⟩,
    ⟨(some 6), 0, none, (.call (.k (.fn (.func 27) [] [])) [(.k (.d (.int .u64 10723151780598845931)))])⟩,
    ⟨(some 7), 0, none, (.op (.bin .mul (.t 5) (.t 6)))⟩,
    ⟨(some 3), 0, none, (.op (.mov (.t 7)))⟩])
  (.seq (.reg 0 [⟨(some 8), 0, none, (.op (.mov (.t 3)))⟩,
    ⟨(some 9), 0, none, (.call (.k (.fn (.func 32) [] [])) [(.t 8), (.k (.d (.int .i64 27)))])⟩,
    ⟨(some 10), 0, none, (.call (.k (.fn (.func 27) [] [])) [(.k (.d (.int .u64 13787848793156543929)))])⟩,
    ⟨(some 11), 0, none, (.op (.bin .mul (.t 9) (.t 10)))⟩,
    ⟨(some 3), 0, none, (.op (.mov (.t 11)))⟩])
  (.seq (.reg 0 [⟨(some 12), 0, none, (.op (.mov (.t 3)))⟩,
    ⟨(some 13), 0, none, (.call (.k (.fn (.func 32) [] [])) [(.t 12), (.k (.d (.int .i64 30)))])⟩,
    ⟨(some 2), 0, none, (.op (.mov (.t 13)))⟩])
  (.ret))))
theorem cc26 : Try.f26.body.bind (compC Try.prog) = some ac26 := by kernel_rfl
theorem go26 {vals : List V} {v : V} (ac : AC) (he : ac.erase = ac26) (hw : wpC Try.prog 0 ac (retQ [.tmp 2] v) ⟨vals ++ List.replicate (14 - vals.length) (.tup []), []⟩) : CallP Try.prog 26 vals v :=
  call_of Try.func26 rfl rfl rfl (cc26.trans (congrArg some he.symm)) hw

/-- testbench/testbenchlaw04.inverse -/
def ac27 : AC :=
  .seq (.reg 0 [⟨(some 2), 0, none, (.op (.mov (.k (.d (.int .u64 0)))))⟩])
  (.seq (.reg 0 [⟨(some 5), 0, none, (.op (.mov (.t 0)))⟩,
    ⟨(some 3), 0, none, (.op (.mov (.t 5)))⟩])
  (.seq (.seq (.reg 0 [⟨(some 4), 0, none, (.op (.mov (.k (.d (.int .i64 0)))))⟩])
  (.block 0
   (.loop
    (.seq (.seq (.reg 0 [⟨(some 6), 0, none, (.op (.mov (.t 4)))⟩,
      ⟨(some 7), 0, none, (.op (.bin .lss (.t 6) (.k (.d (.int .i64 6)))))⟩])
    (.cond (.t 7)
      (.skip)
      (.exit 0)))
    (.seq (.block 1
     (.reg 0 [⟨(some 10), 0, none, (.op (.mov (.t 3)))⟩,
       ⟨(some 11), 0, none, (.op (.mov (.t 0)))⟩,
       ⟨(some 12), 0, none, (.op (.mov (.t 3)))⟩,
       ⟨(some 13), 0, none, (.op (.bin .mul (.t 11) (.t 12)))⟩,
       ⟨(some 14), 0, none, (.op (.bin .sub (.k (.d (.int .u64 2))) (.t 13)))⟩,
       ⟨(some 15), 0, none, (.op (.bin .mul (.t 10) (.t 14)))⟩,
       ⟨(some 3), 0, none, (.op (.mov (.t 15)))⟩]))
    (.reg 0 [⟨(some 8), 0, none, (.op (.mov (.t 4)))⟩,
      ⟨(some 9), 0, none, (.op (.bin .add (.t 8) (.k (.d (.int .i64 1)))))⟩,
      ⟨(some 4), 0, none, (.op (.mov (.t 9)))⟩]))))))
  (.seq (.reg 0 [⟨(some 16), 0, none, (.op (.mov (.t 3)))⟩,
    ⟨(some 2), 0, none, (.op (.mov (.t 16)))⟩])
  (.ret))))
theorem cc27 : Try.f27.body.bind (compC Try.prog) = some ac27 := by kernel_rfl
theorem go27 {vals : List V} {v : V} (ac : AC) (he : ac.erase = ac27) (hw : wpC Try.prog 0 ac (retQ [.tmp 2] v) ⟨vals ++ List.replicate (17 - vals.length) (.tup []), []⟩) : CallP Try.prog 27 vals v :=
  call_of Try.func27 rfl rfl rfl (cc27.trans (congrArg some he.symm)) hw

/-- testbench/hash.hex -/
def ac28 : AC :=
  .seq (.reg 0 [⟨(some 4), 0, none, (.op (.mov (.k (.d (.str [])))))⟩])
  (.seq (.reg 1 [⟨(some 7), 0, none, (.op (.mov (.t 1)))⟩,
    ⟨(some 8), 0, none, (.op (.mksl 1 1 [(.int .u8 0)] (.t 7) (.t 7)))⟩,
    ⟨(some 5), 1, none, (.op (.mov (.t 8)))⟩])
  (.seq (.seq (.reg 0 [⟨(some 9), 0, none, (.op (.mov (.t 1)))⟩,
    ⟨(some 10), 0, none, (.op (.mov (.k (.d (.int .i64 0)))))⟩])
  (.block 0
   (.loop
    (.seq (.reg 0 [⟨(some 11), 0, none, (.op (.bin .lss (.t 10) (.t 9)))⟩])
    (.seq (.cond (.t 11)
      (.skip)
      (.exit 0))
    (.seq (.block 1
     (.seq (.reg 0 [⟨(some 12), 0, none, (.op (.mov (.t 10)))⟩,
       ⟨(some 6), 0, none, (.op (.mov (.t 12)))⟩])
     (.seq (.reg 0 [⟨(some 13), 0, none, (.op (.mov (.t 5)))⟩,
       ⟨(some 14), 0, none, (.op (.mov (.t 1)))⟩,
       ⟨(some 15), 0, none, (.op (.bin .sub (.t 14) (.k (.d (.int .i64 1)))))⟩,
       ⟨(some 16), 0, none, (.op (.mov (.t 6)))⟩,
       ⟨(some 17), 0, none, (.op (.bin .sub (.t 15) (.t 16)))⟩,
       ⟨(some 18), 0, none, (.op (.mov (.t 0)))⟩,
       ⟨(some 19), 0, none, (.op (.bin .and (.t 18) (.k (.d (.int .u64 15)))))⟩,
       ⟨(some 20), 0, none, (.op (.idxS (.k (.d (.str [48, 49, 50, 51, 52, 53, 54, 55, 56, 57, 97, 98, 99, 100, 101, 102]))) (.t 19)))⟩,
       ⟨(some 21), 0, none, (.op (.idxA 1 none (.t 13) (.t 17)))⟩,
       ⟨none, 0, none, (.op (.store 1 (.t 21) (.t 20)))⟩])
     (.reg 0 [⟨(some 22), 0, none, (.op (.mov (.t 0)))⟩,
       ⟨(some 23), 0, none, (.op (.bin .shr (.t 22) (.k (.d (.int .u64 4)))))⟩,
       ⟨(some 0), 0, none, (.op (.mov (.t 23)))⟩]))))
    (.reg 0 [⟨(some 24), 0, none, (.op (.bin .add (.t 10) (.k (.d (.int .i64 1)))))⟩,
      ⟨(some 10), 0, none, (.op (.mov (.t 24)))⟩])))))))
  (.seq (.reg 0 [⟨(some 25), 0, none, (.op (.mov (.t 5)))⟩,
    ⟨(some 26), 0, none, (.op (.b2s (.t 25)))⟩,
    ⟨(some 4), 0, none, (.op (.mov (.t 26)))⟩])
  (.ret))))
theorem cc28 : Try.f28.body.bind (compC Try.prog) = some ac28 := by kernel_rfl
theorem go28 {vals : List V} {v : V} (ac : AC) (he : ac.erase = ac28) (hw : wpC Try.prog 0 ac (retQ [.tmp 4] v) ⟨vals ++ List.replicate (27 - vals.length) (.tup []), []⟩) : CallP Try.prog 28 vals v :=
  call_of Try.func28 rfl rfl rfl (cc28.trans (congrArg some he.symm)) hw

/-- testbench/testbenchref04.form -/
def ac29 : AC :=
  .seq (.reg 0 [⟨(some 4), 0, none, (.op (.mov (.k (.d (.str [])))))⟩])
  (.seq (.reg 0 [⟨(some 5), 0, none, (.op (.mov (.k (.d (.str [])))))⟩])
  (.seq (.seq (.reg 0 [⟨(some 6), 0, none, (.op (.mov (.k (.d (.int .i64 0)))))⟩])
  (.block 0
   (.loop
    (.seq (.seq (.reg 0 [⟨(some 8), 0, none, (.op (.mov (.t 6)))⟩,
      ⟨(some 9), 0, none, (.op (.mov (.t 1)))⟩,
      ⟨(some 10), 0, none, (.op (.bin .lss (.t 8) (.t 9)))⟩])
    (.cond (.t 10)
      (.skip)
      (.exit 0)))
    (.seq (.block 1
     (.seq (.reg 0 [⟨(some 13), 0, none, (.op (.mov (.t 0)))⟩,
       ⟨(some 14), 0, none, (.op (.bin .rem (.t 13) (.k (.d (.int .u64 16)))))⟩,
       ⟨(some 7), 0, none, (.op (.mov (.t 14)))⟩])
     (.seq (.reg 0 [⟨(some 15), 0, none, (.op (.mov (.t 7)))⟩,
       ⟨(some 16), 0, none, (.op (.mov (.t 7)))⟩,
       ⟨(some 17), 0, none, (.op (.bin .add (.t 16) (.k (.d (.int .u64 1)))))⟩,
       ⟨(some 18), 0, none, (.op (.slice 0 (.k (.d (.str [48, 49, 50, 51, 52, 53, 54, 55, 56, 57, 97, 98, 99, 100, 101, 102]))) (some (.t 15)) (some (.t 17))))⟩,
       ⟨(some 19), 0, none, (.op (.mov (.t 5)))⟩,
       ⟨(some 20), 0, none, (.op (.bin .add (.t 18) (.t 19)))⟩,
       ⟨(some 5), 0, none, (.op (.mov (.t 20)))⟩])
     (.reg 0 [⟨(some 21), 0, none, (.op (.mov (.t 0)))⟩,
       ⟨(some 22), 0, none, (.op (.bin .quo (.t 21) (.k (.d (.int .u64 16)))))⟩,
       ⟨(some 0), 0, none, (.op (.mov (.t 22)))⟩]))))
    (.reg 0 [⟨(some 11), 0, none, (.op (.mov (.t 6)))⟩,
      ⟨(some 12), 0, none, (.op (.bin .add (.t 11) (.k (.d (.int .i64 1)))))⟩,
      ⟨(some 6), 0, none, (.op (.mov (.t 12)))⟩]))))))
  (.seq (.reg 0 [⟨(some 23), 0, none, (.op (.mov (.t 5)))⟩,
    ⟨(some 4), 0, none, (.op (.mov (.t 23)))⟩])
  (.ret))))
theorem cc29 : Try.f29.body.bind (compC Try.prog) = some ac29 := by kernel_rfl
theorem go29 {vals : List V} {v : V} (ac : AC) (he : ac.erase = ac29) (hw : wpC Try.prog 0 ac (retQ [.tmp 4] v) ⟨vals ++ List.replicate (24 - vals.length) (.tup []), []⟩) : CallP Try.prog 29 vals v :=
  call_of Try.func29 rfl rfl rfl (cc29.trans (congrArg some he.symm)) hw

/-- testbench/hash.unhex -/
def ac30 : AC :=
  .seq (.reg 0 [⟨(some 2), 0, none, (.op (.mov (.k (.d (.int .u64 0)))))⟩,
    ⟨(some 3), 0, none, (.op (.mov (.k (.d (.bool false)))))⟩])
  (.seq (.reg 0 [⟨(some 4), 0, none, (.op (.mov (.k (.d (.int .u64 0)))))⟩])
  (.seq (.seq (.reg 0 [⟨(some 8), 0, none, (.op (.mov (.t 0)))⟩,
    ⟨(some 9), 0, none, (.op (.len true (.t 8)))⟩,
    ⟨(some 10), 0, none, (.op (.mov (.k (.d (.int .i64 0)))))⟩])
  (.block 0
   (.loop
    (.seq (.reg 0 [⟨(some 11), 0, none, (.op (.bin .lss (.t 10) (.t 9)))⟩])
    (.seq (.cond (.t 11)
      (.skip)
      (.exit 0))
    (.seq (.block 1
     (.seq (.reg 0 [⟨(some 12), 0, none, (.op (.mov (.t 10)))⟩,
       ⟨(some 5), 0, none, (.op (.mov (.t 12)))⟩])
     (.seq (.reg 0 [⟨(some 14), 0, none, (.op (.mov (.t 0)))⟩,
       ⟨(some 15), 0, none, (.op (.mov (.t 5)))⟩,
       ⟨(some 16), 0, none, (.op (.idxS (.t 14) (.t 15)))⟩,
       ⟨(some 17), 0, none, (.call (.k (.fn (.func 33) [] [])) [(.t 16)])⟩,
       ⟨(some 13), 0, none, (.op (.mov (.t 17)))⟩,
       ⟨(some 18), 0, none, (.op (.ext (.t 13) 0))⟩,
       ⟨(some 19), 0, none, (.op (.ext (.t 13) 1))⟩,
       ⟨(some 6), 0, none, (.op (.mov (.t 18)))⟩,
       ⟨(some 7), 0, none, (.op (.mov (.t 19)))⟩])
     (.seq (.seq (.reg 0 [⟨(some 20), 0, none, (.op (.mov (.t 7)))⟩,
       ⟨(some 21), 0, none, (.op (.un .not (.t 20)))⟩])
     (.cond (.t 21)
       (.seq (.reg 0 [⟨(some 2), 0, none, (.op (.mov (.k (.d (.int .u64 0)))))⟩,
         ⟨(some 3), 0, none, (.op (.mov (.k (.d (.bool false)))))⟩])
       (.ret))
       (.skip)))
     (.reg 0 [⟨(some 22), 0, none, (.op (.mov (.t 4)))⟩,
       ⟨(some 23), 0, none, (.op (.bin .shl (.t 22) (.k (.d (.int .u64 4)))))⟩,
       ⟨(some 24), 0, none, (.op (.mov (.t 6)))⟩,
       ⟨(some 25), 0, none, (.op (.bin .or (.t 23) (.t 24)))⟩,
       ⟨(some 4), 0, none, (.op (.mov (.t 25)))⟩])))))
    (.reg 0 [⟨(some 26), 0, none, (.op (.bin .add (.t 10) (.k (.d (.int .i64 1)))))⟩,
      ⟨(some 10), 0, none, (.op (.mov (.t 26)))⟩])))))))
  (.seq (.reg 0 [⟨(some 27), 0, none, (.op (.mov (.t 4)))⟩,
    ⟨(some 2), 0, none, (.op (.mov (.t 27)))⟩,
    ⟨(some 3), 0, none, (.op (.mov (.k (.d (.bool true)))))⟩])
  (.ret))))
theorem cc30 : Try.f30.body.bind (compC Try.prog) = some ac30 := by kernel_rfl
theorem go30 {vals : List V} {v : V} (ac : AC) (he : ac.erase = ac30) (hw : wpC Try.prog 0 ac (retQ [.tmp 2, .tmp 3] v) ⟨vals ++ List.replicate (28 - vals.length) (.tup []), []⟩) : CallP Try.prog 30 vals v :=
  call_of Try.func30 rfl rfl rfl (cc30.trans (congrArg some he.symm)) hw

/-- testbench/testbenchref04.read -/
def ac31 : AC :=
  .seq (.reg 0 [⟨(some 2), 0, none, (.op (.mov (.k (.d (.int .u64 0)))))⟩,
    ⟨(some 3), 0, none, (.op (.mov (.k (.d (.bool false)))))⟩])
  (.seq (.reg 0 [⟨(some 4), 0, none, (.op (.mov (.k (.d (.int .u64 0)))))⟩])
  (.seq (.seq (.reg 0 [⟨(some 5), 0, none, (.op (.mov (.k (.d (.int .i64 0)))))⟩])
  (.block 0
   (.loop
    (.seq (.seq (.reg 0 [⟨(some 7), 0, none, (.op (.mov (.t 5)))⟩,
      ⟨(some 8), 0, none, (.op (.mov (.t 0)))⟩,
      ⟨(some 9), 0, none, (.op (.len true (.t 8)))⟩,
      ⟨(some 10), 0, none, (.op (.bin .lss (.t 7) (.t 9)))⟩])
    (.cond (.t 10)
      (.skip)
      (.exit 0)))
    (.seq (.block 1
     (.seq (.reg 0 [⟨(some 13), 0, none, (.op (.mov (.t 0)))⟩,
       ⟨(some 14), 0, none, (.op (.mov (.t 5)))⟩,
       ⟨(some 15), 0, none, (.op (.idxS (.t 13) (.t 14)))⟩,
       ⟨(some 6), 0, none, (.op (.mov (.t 15)))⟩])
     (.seq (.reg 0 [⟨(some 16), 0, none, (.op (.mov (.t 6)))⟩,
       ⟨(some 17), 0, none, (.op (.bin .geq (.t 16) (.k (.d (.int .u8 48)))))⟩,
       ⟨(some 18), 0, none, (.op (.mov (.t 17)))⟩,
       ⟨(some 19), 0, (some (18, true)), (.op (.mov (.t 6)))⟩,
       ⟨(some 20), 0, (some (18, true)), (.op (.bin .leq (.t 19) (.k (.d (.int .u8 57)))))⟩,
       ⟨(some 21), 0, none, (.op (.pick (.t 18) (.t 20) (.k (.d (.bool false)))))⟩])
     (.cond (.t 21)
       (.reg 0 [⟨(some 22), 0, none, (.op (.mov (.t 4)))⟩,
         ⟨(some 23), 0, none, (.op (.bin .mul (.k (.d (.int .u64 16))) (.t 22)))⟩,
         ⟨(some 24), 0, none, (.op (.mov (.t 6)))⟩,
         ⟨(some 25), 0, none, (.op (.bin .sub (.t 24) (.k (.d (.int .u8 48)))))⟩,
         ⟨(some 26), 0, none, (.op (.conv .u64 (.t 25)))⟩,
         ⟨(some 27), 0, none, (.op (.bin .add (.t 23) (.t 26)))⟩,
         ⟨(some 4), 0, none, (.op (.mov (.t 27)))⟩])
       (.seq (.reg 0 [⟨(some 28), 0, none, (.op (.mov (.t 6)))⟩,
         ⟨(some 29), 0, none, (.op (.bin .geq (.t 28) (.k (.d (.int .u8 97)))))⟩,
         ⟨(some 30), 0, none, (.op (.mov (.t 29)))⟩,
         ⟨(some 31), 0, (some (30, true)), (.op (.mov (.t 6)))⟩,
         ⟨(some 32), 0, (some (30, true)), (.op (.bin .leq (.t 31) (.k (.d (.int .u8 102)))))⟩,
         ⟨(some 33), 0, none, (.op (.pick (.t 30) (.t 32) (.k (.d (.bool false)))))⟩])
       (.cond (.t 33)
         (.reg 0 [⟨(some 34), 0, none, (.op (.mov (.t 4)))⟩,
           ⟨(some 35), 0, none, (.op (.bin .mul (.k (.d (.int .u64 16))) (.t 34)))⟩,
           ⟨(some 36), 0, none, (.op (.mov (.t 6)))⟩,
           ⟨(some 37), 0, none, (.op (.bin .sub (.t 36) (.k (.d (.int .u8 97)))))⟩,
           ⟨(some 38), 0, none, (.op (.conv .u64 (.t 37)))⟩,
           ⟨(some 39), 0, none, (.op (.bin .add (.t 35) (.t 38)))⟩,
           ⟨(some 40), 0, none, (.op (.bin .add (.t 39) (.k (.d (.int .u64 10)))))⟩,
           ⟨(some 4), 0, none, (.op (.mov (.t 40)))⟩])
         (.seq (.reg 0 [⟨(some 2), 0, none, (.op (.mov (.k (.d (.int .u64 0)))))⟩,
           ⟨(some 3), 0, none, (.op (.mov (.k (.d (.bool false)))))⟩])
         (.ret))))))))
    (.reg 0 [⟨(some 11), 0, none, (.op (.mov (.t 5)))⟩,
      ⟨(some 12), 0, none, (.op (.bin .add (.t 11) (.k (.d (.int .i64 1)))))⟩,
      ⟨(some 5), 0, none, (.op (.mov (.t 12)))⟩]))))))
  (.seq (.reg 0 [⟨(some 41), 0, none, (.op (.mov (.t 4)))⟩,
    ⟨(some 2), 0, none, (.op (.mov (.t 41)))⟩,
    ⟨(some 3), 0, none, (.op (.mov (.k (.d (.bool true)))))⟩])
  (.ret))))
theorem cc31 : Try.f31.body.bind (compC Try.prog) = some ac31 := by kernel_rfl
theorem go31 {vals : List V} {v : V} (ac : AC) (he : ac.erase = ac31) (hw : wpC Try.prog 0 ac (retQ [.tmp 2, .tmp 3] v) ⟨vals ++ List.replicate (42 - vals.length) (.tup []), []⟩) : CallP Try.prog 31 vals v :=
  call_of Try.func31 rfl rfl rfl (cc31.trans (congrArg some he.symm)) hw

/-- testbench/testbenchlaw04.unshift -/
def ac32 : AC :=
  .seq (.reg 0 [⟨(some 4), 0, none, (.op (.mov (.k (.d (.int .u64 0)))))⟩])
  (.seq (.reg 0 [⟨(some 7), 0, none, (.op (.mov (.t 0)))⟩,
    ⟨(some 5), 0, none, (.op (.mov (.t 7)))⟩])
  (.seq (.seq (.reg 0 [⟨(some 8), 0, none, (.op (.mov (.t 1)))⟩,
    ⟨(some 6), 0, none, (.op (.mov (.t 8)))⟩])
  (.block 0
   (.loop
    (.seq (.seq (.reg 0 [⟨(some 9), 0, none, (.op (.mov (.t 6)))⟩,
      ⟨(some 10), 0, none, (.op (.bin .lss (.t 9) (.k (.d (.int .i64 64)))))⟩])
    (.cond (.t 10)
      (.skip)
      (.exit 0)))
    (.seq (.block 1
     (.reg 0 [⟨(some 14), 0, none, (.op (.mov (.t 0)))⟩,
       ⟨(some 15), 0, none, (.op (.mov (.t 5)))⟩,
       ⟨(some 16), 0, none, (.op (.mov (.t 1)))⟩,
       ⟨(some 17), 0, none, (.op (.conv .u64 (.t 16)))⟩,
       ⟨(some 18), 0, none, (.op (.bin .shr (.t 15) (.t 17)))⟩,
       ⟨(some 19), 0, none, (.op (.bin .xor (.t 14) (.t 18)))⟩,
       ⟨(some 5), 0, none, (.op (.mov (.t 19)))⟩]))
    (.reg 0 [⟨(some 11), 0, none, (.op (.mov (.t 6)))⟩,
      ⟨(some 12), 0, none, (.op (.mov (.t 1)))⟩,
      ⟨(some 13), 0, none, (.op (.bin .add (.t 11) (.t 12)))⟩,
      ⟨(some 6), 0, none, (.op (.mov (.t 13)))⟩]))))))
  (.seq (.reg 0 [⟨(some 20), 0, none, (.op (.mov (.t 5)))⟩,
    ⟨(some 4), 0, none, (.op (.mov (.t 20)))⟩])
  (.ret))))
theorem cc32 : Try.f32.body.bind (compC Try.prog) = some ac32 := by kernel_rfl
theorem go32 {vals : List V} {v : V} (ac : AC) (he : ac.erase = ac32) (hw : wpC Try.prog 0 ac (retQ [.tmp 4] v) ⟨vals ++ List.replicate (21 - vals.length) (.tup []), []⟩) : CallP Try.prog 32 vals v :=
  call_of Try.func32 rfl rfl rfl (cc32.trans (congrArg some he.symm)) hw

/-- testbench/hash.nibble -/
def ac33 : AC :=
  .seq (.reg 0 [⟨(some 2), 0, none, (.op (.mov (.k (.d (.int .u64 0)))))⟩,
    ⟨(some 3), 0, none, (.op (.mov (.k (.d (.bool false)))))⟩])
  (.seq (.block 0
   (.seq (.reg 0 [⟨(some 5), 0, none, (.op (.mov (.t 0)))⟩,
     ⟨(some 6), 0, none, (.op (.bin .geq (.t 5) (.k (.d (.int .u8 48)))))⟩,
     ⟨(some 7), 0, none, (.op (.mov (.t 6)))⟩,
     ⟨(some 8), 0, (some (7, true)), (.op (.mov (.t 0)))⟩,
     ⟨(some 9), 0, (some (7, true)), (.op (.bin .leq (.t 8) (.k (.d (.int .u8 57)))))⟩,
     ⟨(some 10), 0, none, (.op (.pick (.t 7) (.t 9) (.k (.d (.bool false)))))⟩,
     ⟨(some 4), 0, none, (.op (.mov (.t 10)))⟩])
   (.cond (.t 4)
     (.seq (.reg 0 [⟨(some 11), 0, none, (.op (.mov (.t 0)))⟩,
       ⟨(some 12), 0, none, (.op (.bin .sub (.t 11) (.k (.d (.int .u8 48)))))⟩,
       ⟨(some 13), 0, none, (.op (.conv .u64 (.t 12)))⟩,
       ⟨(some 2), 0, none, (.op (.mov (.t 13)))⟩,
       ⟨(some 3), 0, none, (.op (.mov (.k (.d (.bool true)))))⟩])
     (.ret))
     (.seq (.reg 0 [⟨(some 15), 0, none, (.op (.mov (.t 0)))⟩,
       ⟨(some 16), 0, none, (.op (.bin .geq (.t 15) (.k (.d (.int .u8 97)))))⟩,
       ⟨(some 17), 0, none, (.op (.mov (.t 16)))⟩,
       ⟨(some 18), 0, (some (17, true)), (.op (.mov (.t 0)))⟩,
       ⟨(some 19), 0, (some (17, true)), (.op (.bin .leq (.t 18) (.k (.d (.int .u8 102)))))⟩,
       ⟨(some 20), 0, none, (.op (.pick (.t 17) (.t 19) (.k (.d (.bool false)))))⟩,
       ⟨(some 14), 0, none, (.op (.mov (.t 20)))⟩])
     (.cond (.t 14)
       (.seq (.reg 0 [⟨(some 21), 0, none, (.op (.mov (.t 0)))⟩,
         ⟨(some 22), 0, none, (.op (.bin .sub (.t 21) (.k (.d (.int .u8 97)))))⟩,
         ⟨(some 23), 0, none, (.op (.conv .u64 (.t 22)))⟩,
         ⟨(some 24), 0, none, (.op (.bin .add (.t 23) (.k (.d (.int .u64 10)))))⟩,
         ⟨(some 2), 0, none, (.op (.mov (.t 24)))⟩,
         ⟨(some 3), 0, none, (.op (.mov (.k (.d (.bool true)))))⟩])
       (.ret))
       (.skip))))))
  (.seq (.reg 0 [⟨(some 2), 0, none, (.op (.mov (.k (.d (.int .u64 0)))))⟩,
    ⟨(some 3), 0, none, (.op (.mov (.k (.d (.bool false)))))⟩])
  (.ret)))
theorem cc33 : Try.f33.body.bind (compC Try.prog) = some ac33 := by kernel_rfl
theorem go33 {vals : List V} {v : V} (ac : AC) (he : ac.erase = ac33) (hw : wpC Try.prog 0 ac (retQ [.tmp 2, .tmp 3] v) ⟨vals ++ List.replicate (25 - vals.length) (.tup []), []⟩) : CallP Try.prog 33 vals v :=
  call_of Try.func33 rfl rfl rfl (cc33.trans (congrArg some he.symm)) hw

/-- the functions -/
def tab : Tab := tabOf [(3, ac3, 29, [.tmp 2]), (4, ac4, 52, [.tmp 2]), (5, ac5, 92, [.tmp 6]), (6, ac6, 25, [.tmp 4]), (7, ac7, 46, [.tmp 4]), (8, ac8, 35, [.tmp 4]), (9, ac9, 47, [.tmp 0]), (10, ac10, 19, [.tmp 2]), (11, ac11, 19, [.tmp 2]), (12, ac12, 31, [.tmp 2]), (13, ac13, 32, [.tmp 2]), (14, ac14, 10, [.tmp 2]), (15, ac15, 10, [.tmp 2]), (16, ac16, 19, [.tmp 2, .tmp 3]), (17, ac17, 19, [.tmp 2, .tmp 3]), (18, ac18, 40, [.tmp 2, .tmp 3]), (19, ac19, 38, [.tmp 2, .tmp 3]), (20, ac20, 5, [.tmp 2]), (21, ac21, 17, [.tmp 2]), (22, ac22, 19, [.tmp 2]), (23, ac23, 11, [.tmp 4]), (24, ac24, 11, [.tmp 4]), (25, ac25, 5, [.tmp 2]), (26, ac26, 14, [.tmp 2]), (27, ac27, 17, [.tmp 2]), (28, ac28, 27, [.tmp 4]), (29, ac29, 24, [.tmp 4]), (30, ac30, 28, [.tmp 2, .tmp 3]), (31, ac31, 42, [.tmp 2, .tmp 3]), (32, ac32, 21, [.tmp 4]), (33, ac33, 25, [.tmp 2, .tmp 3])]
theorem tab_ok : TabOk Try.prog tab :=
  tabOf_cons (fun _ _ h => go3 ac3 rfl h) (tabOf_cons (fun _ _ h => go4 ac4 rfl h) (tabOf_cons (fun _ _ h => go5 ac5 rfl h) (tabOf_cons (fun _ _ h => go6 ac6 rfl h) (tabOf_cons (fun _ _ h => go7 ac7 rfl h) (tabOf_cons (fun _ _ h => go8 ac8 rfl h) (tabOf_cons (fun _ _ h => go9 ac9 rfl h) (tabOf_cons (fun _ _ h => go10 ac10 rfl h) (tabOf_cons (fun _ _ h => go11 ac11 rfl h) (tabOf_cons (fun _ _ h => go12 ac12 rfl h) (tabOf_cons (fun _ _ h => go13 ac13 rfl h) (tabOf_cons (fun _ _ h => go14 ac14 rfl h) (tabOf_cons (fun _ _ h => go15 ac15 rfl h) (tabOf_cons (fun _ _ h => go16 ac16 rfl h) (tabOf_cons (fun _ _ h => go17 ac17 rfl h) (tabOf_cons (fun _ _ h => go18 ac18 rfl h) (tabOf_cons (fun _ _ h => go19 ac19 rfl h) (tabOf_cons (fun _ _ h => go20 ac20 rfl h) (tabOf_cons (fun _ _ h => go21 ac21 rfl h) (tabOf_cons (fun _ _ h => go22 ac22 rfl h) (tabOf_cons (fun _ _ h => go23 ac23 rfl h) (tabOf_cons (fun _ _ h => go24 ac24 rfl h) (tabOf_cons (fun _ _ h => go25 ac25 rfl h) (tabOf_cons (fun _ _ h => go26 ac26 rfl h) (tabOf_cons (fun _ _ h => go27 ac27 rfl h) (tabOf_cons (fun _ _ h => go28 ac28 rfl h) (tabOf_cons (fun _ _ h => go29 ac29 rfl h) (tabOf_cons (fun _ _ h => go30 ac30 rfl h) (tabOf_cons (fun _ _ h => go31 ac31 rfl h) (tabOf_cons (fun _ _ h => go32 ac32 rfl h) (tabOf_cons (fun _ _ h => go33 ac33 rfl h) (tabOf_nil)))))))))))))))))))))))))))))))
end Go.Proofs.Hs
