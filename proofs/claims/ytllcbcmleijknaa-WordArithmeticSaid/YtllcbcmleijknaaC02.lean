import Derived.Test.YtllcbcmleijknaaVxAll
import Derived.KernelRfl
import Derived.Test.YtllcbcmleijknaaProg
set_option linter.unusedSimpArgs false
set_option linter.unusedVariables false
namespace Go.Proofs.Tl
open Go.Vx

/-- testbench/testbenchlaw02.WordWraps -/
def ac3 : AC :=
  .seq (.reg 0 [⟨(some 2), 0, none, (.op (.mov (.k (.d (.bool false)))))⟩])
  (.seq (.reg 0 [⟨(some 4), 0, none, (.op (.mov (.t 0)))⟩,
    ⟨(some 5), 0, none, (.call (.k (.fn (.func 10) [] [])) [(.t 4)])⟩,
    ⟨(some 3), 0, none, (.op (.mov (.t 5)))⟩])
  (.seq (.reg 0 [⟨(some 6), 0, none, (.op (.mov (.t 3)))⟩,
    ⟨(some 7), 0, none, (.op (.mov (.t 0)))⟩,
    ⟨(some 8), 0, none, (.call (.k (.fn (.func 11) [] [])) [(.t 7)])⟩,
    ⟨(some 9), 0, none, (.op (.bin .eql (.t 6) (.t 8)))⟩,
    ⟨(some 10), 0, none, (.op (.mov (.t 9)))⟩,
    ⟨(some 11), 0, (some (10, true)), (.op (.mov (.t 3)))⟩,
    ⟨(some 12), 0, (some (10, true)), (.op (.bin .geq (.t 11) (.k (.d (.int .i64 0)))))⟩,
    ⟨(some 13), 0, none, (.op (.pick (.t 10) (.t 12) (.k (.d (.bool false)))))⟩,
    ⟨(some 14), 0, none, (.op (.mov (.t 13)))⟩,
    ⟨(some 15), 0, (some (14, true)), (.op (.mov (.t 3)))⟩,
    ⟨(some 16), 0, (some (14, true)), (.op (.bin .leq (.t 15) (.k (.d (.int .i64 65535)))))⟩,
    ⟨(some 17), 0, none, (.op (.pick (.t 14) (.t 16) (.k (.d (.bool false)))))⟩,
    ⟨(some 18), 0, none, (.op (.mov (.t 17)))⟩,
    ⟨(some 19), 0, (some (18, true)), (.op (.mov (.t 3)))⟩,
    ⟨(some 20), 0, (some (18, true)), (.call (.k (.fn (.func 10) [] [])) [(.t 19)])⟩,
    ⟨(some 21), 0, (some (18, true)), (.op (.mov (.t 3)))⟩,
    ⟨(some 22), 0, (some (18, true)), (.op (.bin .eql (.t 20) (.t 21)))⟩,
    ⟨(some 23), 0, none, (.op (.pick (.t 18) (.t 22) (.k (.d (.bool false)))))⟩,
    ⟨(some 24), 0, none, (.op (.mov (.t 23)))⟩,
    ⟨(some 25), 0, (some (24, true)), (.op (.mov (.t 3)))⟩,
    ⟨(some 26), 0, (some (24, true)), (.op (.bin .sub (.t 25) (.k (.d (.int .i64 65536)))))⟩,
    ⟨(some 27), 0, (some (24, true)), (.call (.k (.fn (.func 10) [] [])) [(.t 26)])⟩,
    ⟨(some 28), 0, (some (24, true)), (.op (.mov (.t 3)))⟩,
    ⟨(some 29), 0, (some (24, true)), (.op (.bin .eql (.t 27) (.t 28)))⟩,
    ⟨(some 30), 0, none, (.op (.pick (.t 24) (.t 29) (.k (.d (.bool false)))))⟩,
    ⟨(some 31), 0, none, (.op (.mov (.t 30)))⟩,
    ⟨(some 32), 0, (some (31, true)), (.call (.k (.fn (.func 12) [] [])) [])⟩,
    ⟨(some 33), 0, none, (.op (.pick (.t 31) (.t 32) (.k (.d (.bool false)))))⟩,
    ⟨(some 2), 0, none, (.op (.mov (.t 33)))⟩])
  (.ret)))
theorem cc3 : Try.f3.body.bind (compC Try.prog) = some ac3 := by kernel_rfl
theorem go3 {vals : List V} {v : V} (ac : AC) (he : ac.erase = ac3) (hw : wpC Try.prog 0 ac (retQ [.tmp 2] v) ⟨vals ++ List.replicate (34 - vals.length) (.tup []), []⟩) : CallP Try.prog 3 vals v :=
  call_of Try.func3 rfl rfl rfl (cc3.trans (congrArg some he.symm)) hw

/-- testbench/testbenchlaw02.WordFits -/
def ac4 : AC :=
  .seq (.reg 0 [⟨(some 4), 0, none, (.op (.mov (.k (.d (.bool false)))))⟩])
  (.seq (.seq (.reg 0 [⟨(some 5), 0, none, (.op (.mov (.t 1)))⟩,
    ⟨(some 6), 0, none, (.call (.k (.fn (.func 13) [] [])) [(.t 5)])⟩,
    ⟨(some 7), 0, none, (.op (.mov (.t 1)))⟩,
    ⟨(some 8), 0, none, (.call (.k (.fn (.func 14) [] [])) [(.t 7)])⟩,
    ⟨(some 9), 0, none, (.op (.bin .neq (.t 6) (.t 8)))⟩,
    ⟨(some 10), 0, none, (.op (.mov (.t 9)))⟩,
    ⟨(some 11), 0, (some (10, false)), (.op (.mov (.t 0)))⟩,
    ⟨(some 12), 0, (some (10, false)), (.op (.mov (.t 1)))⟩,
    ⟨(some 13), 0, (some (10, false)), (.call (.k (.fn (.func 15) [] [])) [(.t 11), (.t 12)])⟩,
    ⟨(some 14), 0, (some (10, false)), (.op (.mov (.t 0)))⟩,
    ⟨(some 15), 0, (some (10, false)), (.op (.mov (.t 1)))⟩,
    ⟨(some 16), 0, (some (10, false)), (.call (.k (.fn (.func 16) [] [])) [(.t 14), (.t 15)])⟩,
    ⟨(some 17), 0, (some (10, false)), (.op (.eqB true (.t 13) (.t 16)))⟩,
    ⟨(some 18), 0, none, (.op (.pick (.t 10) (.k (.d (.bool true))) (.t 17)))⟩])
  (.cond (.t 18)
    (.seq (.reg 0 [⟨(some 4), 0, none, (.op (.mov (.k (.d (.bool false)))))⟩])
    (.ret))
    (.skip)))
  (.seq (.reg 0 [⟨(some 19), 0, none, (.op (.mov (.t 1)))⟩,
    ⟨(some 20), 0, none, (.op (.bin .lss (.t 19) (.k (.d (.int .i64 1)))))⟩,
    ⟨(some 21), 0, none, (.op (.mov (.t 20)))⟩,
    ⟨(some 22), 0, (some (21, false)), (.op (.mov (.t 1)))⟩,
    ⟨(some 23), 0, (some (21, false)), (.op (.bin .gtr (.t 22) (.k (.d (.int .i64 16)))))⟩,
    ⟨(some 24), 0, none, (.op (.pick (.t 21) (.k (.d (.bool true))) (.t 23)))⟩,
    ⟨(some 25), 0, none, (.op (.mov (.t 24)))⟩,
    ⟨(some 26), 0, (some (25, false)), (.op (.mov (.t 0)))⟩,
    ⟨(some 27), 0, (some (25, false)), (.call (.k (.fn (.func 10) [] [])) [(.t 26)])⟩,
    ⟨(some 28), 0, (some (25, false)), (.op (.mov (.t 1)))⟩,
    ⟨(some 29), 0, (some (25, false)), (.call (.k (.fn (.func 13) [] [])) [(.t 28)])⟩,
    ⟨(some 30), 0, (some (25, false)), (.op (.bin .and (.t 27) (.t 29)))⟩,
    ⟨(some 31), 0, (some (25, false)), (.op (.mov (.t 1)))⟩,
    ⟨(some 32), 0, (some (25, false)), (.call (.k (.fn (.func 15) [] [])) [(.t 30), (.t 31)])⟩,
    ⟨(some 33), 0, none, (.op (.pick (.t 25) (.k (.d (.bool true))) (.t 32)))⟩,
    ⟨(some 34), 0, none, (.op (.mov (.t 33)))⟩,
    ⟨(some 35), 0, (some (34, true)), (.call (.k (.fn (.func 12) [] [])) [])⟩,
    ⟨(some 36), 0, none, (.op (.pick (.t 34) (.t 35) (.k (.d (.bool false)))))⟩,
    ⟨(some 4), 0, none, (.op (.mov (.t 36)))⟩])
  (.ret)))
theorem cc4 : Try.f4.body.bind (compC Try.prog) = some ac4 := by kernel_rfl
theorem go4 {vals : List V} {v : V} (ac : AC) (he : ac.erase = ac4) (hw : wpC Try.prog 0 ac (retQ [.tmp 4] v) ⟨vals ++ List.replicate (37 - vals.length) (.tup []), []⟩) : CallP Try.prog 4 vals v :=
  call_of Try.func4 rfl rfl rfl (cc4.trans (congrArg some he.symm)) hw

/-- testbench/testbenchlaw02.WordReverses -/
def ac5 : AC :=
  .seq (.reg 0 [⟨(some 4), 0, none, (.op (.mov (.k (.d (.bool false)))))⟩])
  (.seq (.reg 0 [⟨(some 6), 0, none, (.op (.mov (.t 0)))⟩,
    ⟨(some 7), 0, none, (.op (.mov (.t 1)))⟩,
    ⟨(some 8), 0, none, (.call (.k (.fn (.func 17) [] [])) [(.t 6), (.t 7)])⟩,
    ⟨(some 5), 0, none, (.op (.mov (.t 8)))⟩])
  (.seq (.seq (.reg 0 [⟨(some 9), 0, none, (.op (.mov (.t 5)))⟩,
    ⟨(some 10), 0, none, (.op (.mov (.t 0)))⟩,
    ⟨(some 11), 0, none, (.op (.mov (.t 1)))⟩,
    ⟨(some 12), 0, none, (.call (.k (.fn (.func 18) [] [])) [(.t 10), (.t 11)])⟩,
    ⟨(some 13), 0, none, (.op (.bin .neq (.t 9) (.t 12)))⟩])
  (.cond (.t 13)
    (.seq (.reg 0 [⟨(some 4), 0, none, (.op (.mov (.k (.d (.bool false)))))⟩])
    (.ret))
    (.skip)))
  (.seq (.seq (.reg 0 [⟨(some 14), 0, none, (.op (.mov (.t 1)))⟩,
    ⟨(some 15), 0, none, (.op (.bin .lss (.t 14) (.k (.d (.int .i64 1)))))⟩,
    ⟨(some 16), 0, none, (.op (.mov (.t 15)))⟩,
    ⟨(some 17), 0, (some (16, false)), (.op (.mov (.t 1)))⟩,
    ⟨(some 18), 0, (some (16, false)), (.op (.bin .gtr (.t 17) (.k (.d (.int .i64 16)))))⟩,
    ⟨(some 19), 0, none, (.op (.pick (.t 16) (.k (.d (.bool true))) (.t 18)))⟩])
  (.cond (.t 19)
    (.seq (.reg 0 [⟨(some 20), 0, none, (.op (.mov (.t 5)))⟩,
      ⟨(some 21), 0, none, (.op (.bin .eql (.t 20) (.k (.d (.int .i64 0)))))⟩,
      ⟨(some 22), 0, none, (.op (.mov (.t 21)))⟩,
      ⟨(some 23), 0, (some (22, true)), (.call (.k (.fn (.func 12) [] [])) [])⟩,
      ⟨(some 24), 0, none, (.op (.pick (.t 22) (.t 23) (.k (.d (.bool false)))))⟩,
      ⟨(some 4), 0, none, (.op (.mov (.t 24)))⟩])
    (.ret))
    (.skip)))
  (.seq (.reg 0 [⟨(some 25), 0, none, (.op (.mov (.t 5)))⟩,
    ⟨(some 26), 0, none, (.op (.mov (.t 1)))⟩,
    ⟨(some 27), 0, none, (.call (.k (.fn (.func 17) [] [])) [(.t 25), (.t 26)])⟩,
    ⟨(some 28), 0, none, (.op (.mov (.t 0)))⟩,
    ⟨(some 29), 0, none, (.call (.k (.fn (.func 10) [] [])) [(.t 28)])⟩,
    ⟨(some 30), 0, none, (.op (.mov (.t 1)))⟩,
    ⟨(some 31), 0, none, (.call (.k (.fn (.func 13) [] [])) [(.t 30)])⟩,
    ⟨(some 32), 0, none, (.op (.bin .and (.t 29) (.t 31)))⟩,
    ⟨(some 33), 0, none, (.op (.bin .eql (.t 27) (.t 32)))⟩,
    ⟨(some 34), 0, none, (.op (.mov (.t 33)))⟩,
    ⟨(some 35), 0, (some (34, true)), (.op (.mov (.t 5)))⟩,
    ⟨(some 36), 0, (some (34, true)), (.call (.k (.fn (.func 19) [] [])) [(.t 35)])⟩,
    ⟨(some 37), 0, (some (34, true)), (.op (.mov (.t 0)))⟩,
    ⟨(some 38), 0, (some (34, true)), (.call (.k (.fn (.func 10) [] [])) [(.t 37)])⟩,
    ⟨(some 39), 0, (some (34, true)), (.op (.mov (.t 1)))⟩,
    ⟨(some 40), 0, (some (34, true)), (.call (.k (.fn (.func 13) [] [])) [(.t 39)])⟩,
    ⟨(some 41), 0, (some (34, true)), (.op (.bin .and (.t 38) (.t 40)))⟩,
    ⟨(some 42), 0, (some (34, true)), (.call (.k (.fn (.func 19) [] [])) [(.t 41)])⟩,
    ⟨(some 43), 0, (some (34, true)), (.op (.bin .eql (.t 36) (.t 42)))⟩,
    ⟨(some 44), 0, none, (.op (.pick (.t 34) (.t 43) (.k (.d (.bool false)))))⟩,
    ⟨(some 45), 0, none, (.op (.mov (.t 44)))⟩,
    ⟨(some 46), 0, (some (45, true)), (.call (.k (.fn (.func 12) [] [])) [])⟩,
    ⟨(some 47), 0, none, (.op (.pick (.t 45) (.t 46) (.k (.d (.bool false)))))⟩,
    ⟨(some 4), 0, none, (.op (.mov (.t 47)))⟩])
  (.ret)))))
theorem cc5 : Try.f5.body.bind (compC Try.prog) = some ac5 := by kernel_rfl
theorem go5 {vals : List V} {v : V} (ac : AC) (he : ac.erase = ac5) (hw : wpC Try.prog 0 ac (retQ [.tmp 4] v) ⟨vals ++ List.replicate (48 - vals.length) (.tup []), []⟩) : CallP Try.prog 5 vals v :=
  call_of Try.func5 rfl rfl rfl (cc5.trans (congrArg some he.symm)) hw

/-- testbench/testbenchlaw02.WordShifts -/
def ac6 : AC :=
  .seq (.reg 0 [⟨(some 4), 0, none, (.op (.mov (.k (.d (.bool false)))))⟩])
  (.seq (.seq (.reg 0 [⟨(some 5), 0, none, (.op (.mov (.t 0)))⟩,
    ⟨(some 6), 0, none, (.op (.mov (.t 1)))⟩,
    ⟨(some 7), 0, none, (.call (.k (.fn (.func 20) [] [])) [(.t 5), (.t 6)])⟩,
    ⟨(some 8), 0, none, (.op (.mov (.t 0)))⟩,
    ⟨(some 9), 0, none, (.op (.mov (.t 1)))⟩,
    ⟨(some 10), 0, none, (.call (.k (.fn (.func 21) [] [])) [(.t 8), (.t 9)])⟩,
    ⟨(some 11), 0, none, (.op (.bin .neq (.t 7) (.t 10)))⟩,
    ⟨(some 12), 0, none, (.op (.mov (.t 11)))⟩,
    ⟨(some 13), 0, (some (12, false)), (.op (.mov (.t 0)))⟩,
    ⟨(some 14), 0, (some (12, false)), (.op (.mov (.t 1)))⟩,
    ⟨(some 15), 0, (some (12, false)), (.call (.k (.fn (.func 22) [] [])) [(.t 13), (.t 14)])⟩,
    ⟨(some 16), 0, (some (12, false)), (.op (.mov (.t 0)))⟩,
    ⟨(some 17), 0, (some (12, false)), (.op (.mov (.t 1)))⟩,
    ⟨(some 18), 0, (some (12, false)), (.call (.k (.fn (.func 23) [] [])) [(.t 16), (.t 17)])⟩,
    ⟨(some 19), 0, (some (12, false)), (.op (.bin .neq (.t 15) (.t 18)))⟩,
    ⟨(some 20), 0, none, (.op (.pick (.t 12) (.k (.d (.bool true))) (.t 19)))⟩])
  (.cond (.t 20)
    (.seq (.reg 0 [⟨(some 4), 0, none, (.op (.mov (.k (.d (.bool false)))))⟩])
    (.ret))
    (.skip)))
  (.seq (.seq (.reg 0 [⟨(some 21), 0, none, (.op (.mov (.t 1)))⟩,
    ⟨(some 22), 0, none, (.op (.bin .lss (.t 21) (.k (.d (.int .i64 0)))))⟩,
    ⟨(some 23), 0, none, (.op (.mov (.t 22)))⟩,
    ⟨(some 24), 0, (some (23, false)), (.op (.mov (.t 1)))⟩,
    ⟨(some 25), 0, (some (23, false)), (.op (.bin .gtr (.t 24) (.k (.d (.int .i64 15)))))⟩,
    ⟨(some 26), 0, none, (.op (.pick (.t 23) (.k (.d (.bool true))) (.t 25)))⟩])
  (.cond (.t 26)
    (.seq (.reg 0 [⟨(some 27), 0, none, (.op (.mov (.t 0)))⟩,
      ⟨(some 28), 0, none, (.op (.mov (.t 1)))⟩,
      ⟨(some 29), 0, none, (.call (.k (.fn (.func 20) [] [])) [(.t 27), (.t 28)])⟩,
      ⟨(some 30), 0, none, (.op (.bin .eql (.t 29) (.k (.d (.int .i64 0)))))⟩,
      ⟨(some 31), 0, none, (.op (.mov (.t 30)))⟩,
      ⟨(some 32), 0, (some (31, true)), (.op (.mov (.t 0)))⟩,
      ⟨(some 33), 0, (some (31, true)), (.op (.mov (.t 1)))⟩,
      ⟨(some 34), 0, (some (31, true)), (.call (.k (.fn (.func 22) [] [])) [(.t 32), (.t 33)])⟩,
      ⟨(some 35), 0, (some (31, true)), (.op (.bin .eql (.t 34) (.k (.d (.int .i64 0)))))⟩,
      ⟨(some 36), 0, none, (.op (.pick (.t 31) (.t 35) (.k (.d (.bool false)))))⟩,
      ⟨(some 37), 0, none, (.op (.mov (.t 36)))⟩,
      ⟨(some 38), 0, (some (37, true)), (.call (.k (.fn (.func 12) [] [])) [])⟩,
      ⟨(some 39), 0, none, (.op (.pick (.t 37) (.t 38) (.k (.d (.bool false)))))⟩,
      ⟨(some 4), 0, none, (.op (.mov (.t 39)))⟩])
    (.ret))
    (.skip)))
  (.seq (.reg 0 [⟨(some 40), 0, none, (.op (.mov (.t 0)))⟩,
    ⟨(some 41), 0, none, (.op (.mov (.t 1)))⟩,
    ⟨(some 42), 0, none, (.call (.k (.fn (.func 20) [] [])) [(.t 40), (.t 41)])⟩,
    ⟨(some 43), 0, none, (.op (.mov (.t 0)))⟩,
    ⟨(some 44), 0, none, (.op (.mov (.t 1)))⟩,
    ⟨(some 45), 0, none, (.op (.conv .u64 (.t 44)))⟩,
    ⟨(some 46), 0, none, (.op (.bin .shl (.k (.d (.int .i64 1))) (.t 45)))⟩,
    ⟨(some 47), 0, none, (.call (.k (.fn (.func 24) [] [])) [(.t 43), (.t 46)])⟩,
    ⟨(some 48), 0, none, (.op (.bin .eql (.t 42) (.t 47)))⟩,
    ⟨(some 49), 0, none, (.op (.mov (.t 48)))⟩,
    ⟨(some 50), 0, (some (49, true)), (.op (.mov (.t 0)))⟩,
    ⟨(some 51), 0, (some (49, true)), (.op (.mov (.t 1)))⟩,
    ⟨(some 52), 0, (some (49, true)), (.call (.k (.fn (.func 20) [] [])) [(.t 50), (.t 51)])⟩,
    ⟨(some 53), 0, (some (49, true)), (.op (.mov (.t 1)))⟩,
    ⟨(some 54), 0, (some (49, true)), (.call (.k (.fn (.func 22) [] [])) [(.t 52), (.t 53)])⟩,
    ⟨(some 55), 0, (some (49, true)), (.op (.mov (.t 0)))⟩,
    ⟨(some 56), 0, (some (49, true)), (.call (.k (.fn (.func 10) [] [])) [(.t 55)])⟩,
    ⟨(some 57), 0, (some (49, true)), (.op (.mov (.t 1)))⟩,
    ⟨(some 58), 0, (some (49, true)), (.op (.bin .sub (.k (.d (.int .i64 16))) (.t 57)))⟩,
    ⟨(some 59), 0, (some (49, true)), (.call (.k (.fn (.func 13) [] [])) [(.t 58)])⟩,
    ⟨(some 60), 0, (some (49, true)), (.op (.bin .and (.t 56) (.t 59)))⟩,
    ⟨(some 61), 0, (some (49, true)), (.op (.bin .eql (.t 54) (.t 60)))⟩,
    ⟨(some 62), 0, none, (.op (.pick (.t 49) (.t 61) (.k (.d (.bool false)))))⟩,
    ⟨(some 63), 0, none, (.op (.mov (.t 62)))⟩,
    ⟨(some 64), 0, (some (63, true)), (.call (.k (.fn (.func 12) [] [])) [])⟩,
    ⟨(some 65), 0, none, (.op (.pick (.t 63) (.t 64) (.k (.d (.bool false)))))⟩,
    ⟨(some 4), 0, none, (.op (.mov (.t 65)))⟩])
  (.ret))))
theorem cc6 : Try.f6.body.bind (compC Try.prog) = some ac6 := by kernel_rfl
theorem go6 {vals : List V} {v : V} (ac : AC) (he : ac.erase = ac6) (hw : wpC Try.prog 0 ac (retQ [.tmp 4] v) ⟨vals ++ List.replicate (66 - vals.length) (.tup []), []⟩) : CallP Try.prog 6 vals v :=
  call_of Try.func6 rfl rfl rfl (cc6.trans (congrArg some he.symm)) hw

/-- testbench/testbenchlaw02.WordBits -/
def ac7 : AC :=
  .seq (.reg 0 [⟨(some 4), 0, none, (.op (.mov (.k (.d (.bool false)))))⟩])
  (.seq (.seq (.reg 0 [⟨(some 7), 0, none, (.op (.mov (.t 0)))⟩,
    ⟨(some 8), 0, none, (.op (.mov (.t 1)))⟩,
    ⟨(some 9), 0, none, (.call (.k (.fn (.func 25) [] [])) [(.t 7), (.t 8)])⟩,
    ⟨(some 10), 0, none, (.op (.mov (.t 0)))⟩,
    ⟨(some 11), 0, none, (.op (.mov (.t 1)))⟩,
    ⟨(some 12), 0, none, (.call (.k (.fn (.func 26) [] [])) [(.t 10), (.t 11)])⟩,
    ⟨(some 13), 0, none, (.op (.bin .neq (.t 9) (.t 12)))⟩,
    ⟨(some 14), 0, none, (.op (.mov (.t 13)))⟩,
    ⟨(some 15), 0, (some (14, false)), (.op (.mov (.t 0)))⟩,
    ⟨(some 16), 0, (some (14, false)), (.call (.k (.fn (.func 19) [] [])) [(.t 15)])⟩,
    ⟨(some 17), 0, (some (14, false)), (.op (.mov (.t 0)))⟩,
    ⟨(some 18), 0, (some (14, false)), (.call (.k (.fn (.func 27) [] [])) [(.t 17)])⟩,
    ⟨(some 19), 0, (some (14, false)), (.op (.bin .neq (.t 16) (.t 18)))⟩,
    ⟨(some 20), 0, none, (.op (.pick (.t 14) (.k (.d (.bool true))) (.t 19)))⟩])
  (.cond (.t 20)
    (.seq (.reg 0 [⟨(some 4), 0, none, (.op (.mov (.k (.d (.bool false)))))⟩])
    (.ret))
    (.skip)))
  (.seq (.reg 0 [⟨(some 5), 0, none, (.op (.mov (.k (.d (.int .i64 0)))))⟩])
  (.seq (.seq (.reg 0 [⟨(some 6), 0, none, (.op (.mov (.k (.d (.int .i64 0)))))⟩])
  (.block 0
   (.loop
    (.seq (.seq (.reg 0 [⟨(some 21), 0, none, (.op (.mov (.t 6)))⟩,
      ⟨(some 22), 0, none, (.op (.bin .lss (.t 21) (.k (.d (.int .i64 16)))))⟩])
    (.cond (.t 22)
      (.skip)
      (.exit 0)))
    (.seq (.block 1
     (.reg 0 [⟨(some 25), 0, none, (.op (.mov (.t 5)))⟩,
       ⟨(some 26), 0, none, (.op (.mov (.t 0)))⟩,
       ⟨(some 27), 0, none, (.op (.mov (.t 6)))⟩,
       ⟨(some 28), 0, none, (.call (.k (.fn (.func 25) [] [])) [(.t 26), (.t 27)])⟩,
       ⟨(some 29), 0, none, (.op (.bin .add (.t 25) (.t 28)))⟩,
       ⟨(some 5), 0, none, (.op (.mov (.t 29)))⟩]))
    (.reg 0 [⟨(some 23), 0, none, (.op (.mov (.t 6)))⟩,
      ⟨(some 24), 0, none, (.op (.bin .add (.t 23) (.k (.d (.int .i64 1)))))⟩,
      ⟨(some 6), 0, none, (.op (.mov (.t 24)))⟩]))))))
  (.seq (.reg 0 [⟨(some 30), 0, none, (.op (.mov (.t 5)))⟩,
    ⟨(some 31), 0, none, (.op (.mov (.t 0)))⟩,
    ⟨(some 32), 0, none, (.call (.k (.fn (.func 19) [] [])) [(.t 31)])⟩,
    ⟨(some 33), 0, none, (.op (.bin .eql (.t 30) (.t 32)))⟩,
    ⟨(some 34), 0, none, (.op (.mov (.t 33)))⟩,
    ⟨(some 35), 0, (some (34, true)), (.op (.mov (.t 0)))⟩,
    ⟨(some 36), 0, (some (34, true)), (.call (.k (.fn (.func 19) [] [])) [(.t 35)])⟩,
    ⟨(some 37), 0, (some (34, true)), (.op (.mov (.t 0)))⟩,
    ⟨(some 38), 0, (some (34, true)), (.call (.k (.fn (.func 28) [] [])) [(.t 37)])⟩,
    ⟨(some 39), 0, (some (34, true)), (.call (.k (.fn (.func 19) [] [])) [(.t 38)])⟩,
    ⟨(some 40), 0, (some (34, true)), (.op (.bin .add (.t 36) (.t 39)))⟩,
    ⟨(some 41), 0, (some (34, true)), (.op (.bin .eql (.t 40) (.k (.d (.int .i64 16)))))⟩,
    ⟨(some 42), 0, none, (.op (.pick (.t 34) (.t 41) (.k (.d (.bool false)))))⟩,
    ⟨(some 43), 0, none, (.op (.mov (.t 42)))⟩,
    ⟨(some 44), 0, (some (43, true)), (.call (.k (.fn (.func 12) [] [])) [])⟩,
    ⟨(some 45), 0, none, (.op (.pick (.t 43) (.t 44) (.k (.d (.bool false)))))⟩,
    ⟨(some 4), 0, none, (.op (.mov (.t 45)))⟩])
  (.ret)))))
theorem cc7 : Try.f7.body.bind (compC Try.prog) = some ac7 := by kernel_rfl
theorem go7 {vals : List V} {v : V} (ac : AC) (he : ac.erase = ac7) (hw : wpC Try.prog 0 ac (retQ [.tmp 4] v) ⟨vals ++ List.replicate (46 - vals.length) (.tup []), []⟩) : CallP Try.prog 7 vals v :=
  call_of Try.func7 rfl rfl rfl (cc7.trans (congrArg some he.symm)) hw

/-- testbench/testbenchlaw02.WordArithmetic -/
def ac8 : AC :=
  .seq (.reg 0 [⟨(some 4), 0, none, (.op (.mov (.k (.d (.bool false)))))⟩])
  (.seq (.reg 0 [⟨(some 5), 0, none, (.op (.mov (.t 0)))⟩,
    ⟨(some 6), 0, none, (.op (.mov (.t 1)))⟩,
    ⟨(some 7), 0, none, (.call (.k (.fn (.func 29) [] [])) [(.t 5), (.t 6)])⟩,
    ⟨(some 8), 0, none, (.op (.mov (.t 0)))⟩,
    ⟨(some 9), 0, none, (.op (.mov (.t 1)))⟩,
    ⟨(some 10), 0, none, (.call (.k (.fn (.func 30) [] [])) [(.t 8), (.t 9)])⟩,
    ⟨(some 11), 0, none, (.op (.bin .eql (.t 7) (.t 10)))⟩,
    ⟨(some 12), 0, none, (.op (.mov (.t 11)))⟩,
    ⟨(some 13), 0, (some (12, true)), (.op (.mov (.t 0)))⟩,
    ⟨(some 14), 0, (some (12, true)), (.op (.mov (.t 1)))⟩,
    ⟨(some 15), 0, (some (12, true)), (.call (.k (.fn (.func 31) [] [])) [(.t 13), (.t 14)])⟩,
    ⟨(some 16), 0, (some (12, true)), (.op (.mov (.t 0)))⟩,
    ⟨(some 17), 0, (some (12, true)), (.op (.mov (.t 1)))⟩,
    ⟨(some 18), 0, (some (12, true)), (.call (.k (.fn (.func 32) [] [])) [(.t 16), (.t 17)])⟩,
    ⟨(some 19), 0, (some (12, true)), (.op (.bin .eql (.t 15) (.t 18)))⟩,
    ⟨(some 20), 0, none, (.op (.pick (.t 12) (.t 19) (.k (.d (.bool false)))))⟩,
    ⟨(some 21), 0, none, (.op (.mov (.t 20)))⟩,
    ⟨(some 22), 0, (some (21, true)), (.op (.mov (.t 0)))⟩,
    ⟨(some 23), 0, (some (21, true)), (.op (.mov (.t 1)))⟩,
    ⟨(some 24), 0, (some (21, true)), (.call (.k (.fn (.func 24) [] [])) [(.t 22), (.t 23)])⟩,
    ⟨(some 25), 0, (some (21, true)), (.op (.mov (.t 0)))⟩,
    ⟨(some 26), 0, (some (21, true)), (.op (.mov (.t 1)))⟩,
    ⟨(some 27), 0, (some (21, true)), (.call (.k (.fn (.func 33) [] [])) [(.t 25), (.t 26)])⟩,
    ⟨(some 28), 0, (some (21, true)), (.op (.bin .eql (.t 24) (.t 27)))⟩,
    ⟨(some 29), 0, none, (.op (.pick (.t 21) (.t 28) (.k (.d (.bool false)))))⟩,
    ⟨(some 30), 0, none, (.op (.mov (.t 29)))⟩,
    ⟨(some 31), 0, (some (30, true)), (.op (.mov (.t 0)))⟩,
    ⟨(some 32), 0, (some (30, true)), (.call (.k (.fn (.func 34) [] [])) [(.t 31)])⟩,
    ⟨(some 33), 0, (some (30, true)), (.op (.mov (.t 0)))⟩,
    ⟨(some 34), 0, (some (30, true)), (.call (.k (.fn (.func 35) [] [])) [(.t 33)])⟩,
    ⟨(some 35), 0, (some (30, true)), (.op (.bin .eql (.t 32) (.t 34)))⟩,
    ⟨(some 36), 0, none, (.op (.pick (.t 30) (.t 35) (.k (.d (.bool false)))))⟩,
    ⟨(some 37), 0, none, (.op (.mov (.t 36)))⟩,
    ⟨(some 38), 0, (some (37, true)), (.op (.mov (.t 0)))⟩,
    ⟨(some 39), 0, (some (37, true)), (.call (.k (.fn (.func 28) [] [])) [(.t 38)])⟩,
    ⟨(some 40), 0, (some (37, true)), (.op (.mov (.t 0)))⟩,
    ⟨(some 41), 0, (some (37, true)), (.call (.k (.fn (.func 36) [] [])) [(.t 40)])⟩,
    ⟨(some 42), 0, (some (37, true)), (.op (.bin .eql (.t 39) (.t 41)))⟩,
    ⟨(some 43), 0, none, (.op (.pick (.t 37) (.t 42) (.k (.d (.bool false)))))⟩,
    ⟨(some 44), 0, none, (.op (.mov (.t 43)))⟩,
    ⟨(some 45), 0, (some (44, true)), (.call (.k (.fn (.func 12) [] [])) [])⟩,
    ⟨(some 46), 0, none, (.op (.pick (.t 44) (.t 45) (.k (.d (.bool false)))))⟩,
    ⟨(some 4), 0, none, (.op (.mov (.t 46)))⟩])
  (.ret))
theorem cc8 : Try.f8.body.bind (compC Try.prog) = some ac8 := by kernel_rfl
theorem go8 {vals : List V} {v : V} (ac : AC) (he : ac.erase = ac8) (hw : wpC Try.prog 0 ac (retQ [.tmp 4] v) ⟨vals ++ List.replicate (47 - vals.length) (.tup []), []⟩) : CallP Try.prog 8 vals v :=
  call_of Try.func8 rfl rfl rfl (cc8.trans (congrArg some he.symm)) hw

/-- testbench/testbenchlaw02.WordRing -/
def ac9 : AC :=
  .seq (.reg 0 [⟨(some 6), 0, none, (.op (.mov (.k (.d (.bool false)))))⟩])
  (.seq (.seq (.reg 0 [⟨(some 7), 0, none, (.op (.mov (.t 0)))⟩,
    ⟨(some 8), 0, none, (.op (.mov (.t 1)))⟩,
    ⟨(some 9), 0, none, (.call (.k (.fn (.func 29) [] [])) [(.t 7), (.t 8)])⟩,
    ⟨(some 10), 0, none, (.op (.mov (.t 1)))⟩,
    ⟨(some 11), 0, none, (.op (.mov (.t 0)))⟩,
    ⟨(some 12), 0, none, (.call (.k (.fn (.func 29) [] [])) [(.t 10), (.t 11)])⟩,
    ⟨(some 13), 0, none, (.op (.bin .neq (.t 9) (.t 12)))⟩,
    ⟨(some 14), 0, none, (.op (.mov (.t 13)))⟩,
    ⟨(some 15), 0, (some (14, false)), (.op (.mov (.t 0)))⟩,
    ⟨(some 16), 0, (some (14, false)), (.op (.mov (.t 1)))⟩,
    ⟨(some 17), 0, (some (14, false)), (.call (.k (.fn (.func 24) [] [])) [(.t 15), (.t 16)])⟩,
    ⟨(some 18), 0, (some (14, false)), (.op (.mov (.t 1)))⟩,
    ⟨(some 19), 0, (some (14, false)), (.op (.mov (.t 0)))⟩,
    ⟨(some 20), 0, (some (14, false)), (.call (.k (.fn (.func 24) [] [])) [(.t 18), (.t 19)])⟩,
    ⟨(some 21), 0, (some (14, false)), (.op (.bin .neq (.t 17) (.t 20)))⟩,
    ⟨(some 22), 0, none, (.op (.pick (.t 14) (.k (.d (.bool true))) (.t 21)))⟩,
    ⟨(some 23), 0, none, (.op (.mov (.t 22)))⟩,
    ⟨(some 24), 0, (some (23, false)), (.op (.mov (.t 0)))⟩,
    ⟨(some 25), 0, (some (23, false)), (.op (.mov (.t 1)))⟩,
    ⟨(some 26), 0, (some (23, false)), (.call (.k (.fn (.func 29) [] [])) [(.t 24), (.t 25)])⟩,
    ⟨(some 27), 0, (some (23, false)), (.op (.mov (.t 2)))⟩,
    ⟨(some 28), 0, (some (23, false)), (.call (.k (.fn (.func 29) [] [])) [(.t 26), (.t 27)])⟩,
    ⟨(some 29), 0, (some (23, false)), (.op (.mov (.t 0)))⟩,
    ⟨(some 30), 0, (some (23, false)), (.op (.mov (.t 1)))⟩,
    ⟨(some 31), 0, (some (23, false)), (.op (.mov (.t 2)))⟩,
    ⟨(some 32), 0, (some (23, false)), (.call (.k (.fn (.func 29) [] [])) [(.t 30), (.t 31)])⟩,
    ⟨(some 33), 0, (some (23, false)), (.call (.k (.fn (.func 29) [] [])) [(.t 29), (.t 32)])⟩,
    ⟨(some 34), 0, (some (23, false)), (.op (.bin .neq (.t 28) (.t 33)))⟩,
    ⟨(some 35), 0, none, (.op (.pick (.t 23) (.k (.d (.bool true))) (.t 34)))⟩,
    ⟨(some 36), 0, none, (.op (.mov (.t 35)))⟩,
    ⟨(some 37), 0, (some (36, false)), (.op (.mov (.t 0)))⟩,
    ⟨(some 38), 0, (some (36, false)), (.op (.mov (.t 1)))⟩,
    ⟨(some 39), 0, (some (36, false)), (.call (.k (.fn (.func 24) [] [])) [(.t 37), (.t 38)])⟩,
    ⟨(some 40), 0, (some (36, false)), (.op (.mov (.t 2)))⟩,
    ⟨(some 41), 0, (some (36, false)), (.call (.k (.fn (.func 24) [] [])) [(.t 39), (.t 40)])⟩,
    ⟨(some 42), 0, (some (36, false)), (.op (.mov (.t 0)))⟩,
    ⟨(some 43), 0, (some (36, false)), (.op (.mov (.t 1)))⟩,
    ⟨(some 44), 0, (some (36, false)), (.op (.mov (.t 2)))⟩,
    ⟨(some 45), 0, (some (36, false)), (.call (.k (.fn (.func 24) [] [])) [(.t 43), (.t 44)])⟩,
    ⟨(some 46), 0, (some (36, false)), (.call (.k (.fn (.func 24) [] [])) [(.t 42), (.t 45)])⟩,
    ⟨(some 47), 0, (some (36, false)), (.op (.bin .neq (.t 41) (.t 46)))⟩,
    ⟨(some 48), 0, none, (.op (.pick (.t 36) (.k (.d (.bool true))) (.t 47)))⟩])
  (.cond (.t 48)
    (.seq (.reg 0 [⟨(some 6), 0, none, (.op (.mov (.k (.d (.bool false)))))⟩])
    (.ret))
    (.skip)))
  (.seq (.seq (.reg 0 [⟨(some 49), 0, none, (.op (.mov (.t 0)))⟩,
    ⟨(some 50), 0, none, (.op (.mov (.t 1)))⟩,
    ⟨(some 51), 0, none, (.op (.mov (.t 2)))⟩,
    ⟨(some 52), 0, none, (.call (.k (.fn (.func 29) [] [])) [(.t 50), (.t 51)])⟩,
    ⟨(some 53), 0, none, (.call (.k (.fn (.func 24) [] [])) [(.t 49), (.t 52)])⟩,
    ⟨(some 54), 0, none, (.op (.mov (.t 0)))⟩,
    ⟨(some 55), 0, none, (.op (.mov (.t 1)))⟩,
    ⟨(some 56), 0, none, (.call (.k (.fn (.func 24) [] [])) [(.t 54), (.t 55)])⟩,
    ⟨(some 57), 0, none, (.op (.mov (.t 0)))⟩,
    ⟨(some 58), 0, none, (.op (.mov (.t 2)))⟩,
    ⟨(some 59), 0, none, (.call (.k (.fn (.func 24) [] [])) [(.t 57), (.t 58)])⟩,
    ⟨(some 60), 0, none, (.call (.k (.fn (.func 29) [] [])) [(.t 56), (.t 59)])⟩,
    ⟨(some 61), 0, none, (.op (.bin .neq (.t 53) (.t 60)))⟩,
    ⟨(some 62), 0, none, (.op (.mov (.t 61)))⟩,
    ⟨(some 63), 0, (some (62, false)), (.op (.mov (.t 0)))⟩,
    ⟨(some 64), 0, (some (62, false)), (.call (.k (.fn (.func 29) [] [])) [(.t 63), (.k (.d (.int .i64 0)))])⟩,
    ⟨(some 65), 0, (some (62, false)), (.op (.mov (.t 0)))⟩,
    ⟨(some 66), 0, (some (62, false)), (.call (.k (.fn (.func 10) [] [])) [(.t 65)])⟩,
    ⟨(some 67), 0, (some (62, false)), (.op (.bin .neq (.t 64) (.t 66)))⟩,
    ⟨(some 68), 0, none, (.op (.pick (.t 62) (.k (.d (.bool true))) (.t 67)))⟩,
    ⟨(some 69), 0, none, (.op (.mov (.t 68)))⟩,
    ⟨(some 70), 0, (some (69, false)), (.op (.mov (.t 0)))⟩,
    ⟨(some 71), 0, (some (69, false)), (.call (.k (.fn (.func 24) [] [])) [(.t 70), (.k (.d (.int .i64 1)))])⟩,
    ⟨(some 72), 0, (some (69, false)), (.op (.mov (.t 0)))⟩,
    ⟨(some 73), 0, (some (69, false)), (.call (.k (.fn (.func 10) [] [])) [(.t 72)])⟩,
    ⟨(some 74), 0, (some (69, false)), (.op (.bin .neq (.t 71) (.t 73)))⟩,
    ⟨(some 75), 0, none, (.op (.pick (.t 69) (.k (.d (.bool true))) (.t 74)))⟩])
  (.cond (.t 75)
    (.seq (.reg 0 [⟨(some 6), 0, none, (.op (.mov (.k (.d (.bool false)))))⟩])
    (.ret))
    (.skip)))
  (.seq (.reg 0 [⟨(some 76), 0, none, (.op (.mov (.t 0)))⟩,
    ⟨(some 77), 0, none, (.op (.mov (.t 0)))⟩,
    ⟨(some 78), 0, none, (.call (.k (.fn (.func 34) [] [])) [(.t 77)])⟩,
    ⟨(some 79), 0, none, (.call (.k (.fn (.func 29) [] [])) [(.t 76), (.t 78)])⟩,
    ⟨(some 80), 0, none, (.op (.bin .eql (.t 79) (.k (.d (.int .i64 0)))))⟩,
    ⟨(some 81), 0, none, (.op (.mov (.t 80)))⟩,
    ⟨(some 82), 0, (some (81, true)), (.op (.mov (.t 0)))⟩,
    ⟨(some 83), 0, (some (81, true)), (.op (.mov (.t 1)))⟩,
    ⟨(some 84), 0, (some (81, true)), (.call (.k (.fn (.func 31) [] [])) [(.t 82), (.t 83)])⟩,
    ⟨(some 85), 0, (some (81, true)), (.op (.mov (.t 0)))⟩,
    ⟨(some 86), 0, (some (81, true)), (.op (.mov (.t 1)))⟩,
    ⟨(some 87), 0, (some (81, true)), (.call (.k (.fn (.func 34) [] [])) [(.t 86)])⟩,
    ⟨(some 88), 0, (some (81, true)), (.call (.k (.fn (.func 29) [] [])) [(.t 85), (.t 87)])⟩,
    ⟨(some 89), 0, (some (81, true)), (.op (.bin .eql (.t 84) (.t 88)))⟩,
    ⟨(some 90), 0, none, (.op (.pick (.t 81) (.t 89) (.k (.d (.bool false)))))⟩,
    ⟨(some 91), 0, none, (.op (.mov (.t 90)))⟩,
    ⟨(some 92), 0, (some (91, true)), (.op (.mov (.t 0)))⟩,
    ⟨(some 93), 0, (some (91, true)), (.call (.k (.fn (.func 34) [] [])) [(.t 92)])⟩,
    ⟨(some 94), 0, (some (91, true)), (.op (.mov (.t 0)))⟩,
    ⟨(some 95), 0, (some (91, true)), (.call (.k (.fn (.func 28) [] [])) [(.t 94)])⟩,
    ⟨(some 96), 0, (some (91, true)), (.call (.k (.fn (.func 29) [] [])) [(.t 95), (.k (.d (.int .i64 1)))])⟩,
    ⟨(some 97), 0, (some (91, true)), (.op (.bin .eql (.t 93) (.t 96)))⟩,
    ⟨(some 98), 0, none, (.op (.pick (.t 91) (.t 97) (.k (.d (.bool false)))))⟩,
    ⟨(some 99), 0, none, (.op (.mov (.t 98)))⟩,
    ⟨(some 100), 0, (some (99, true)), (.call (.k (.fn (.func 12) [] [])) [])⟩,
    ⟨(some 101), 0, none, (.op (.pick (.t 99) (.t 100) (.k (.d (.bool false)))))⟩,
    ⟨(some 6), 0, none, (.op (.mov (.t 101)))⟩])
  (.ret))))
theorem cc9 : Try.f9.body.bind (compC Try.prog) = some ac9 := by kernel_rfl
theorem go9 {vals : List V} {v : V} (ac : AC) (he : ac.erase = ac9) (hw : wpC Try.prog 0 ac (retQ [.tmp 6] v) ⟨vals ++ List.replicate (102 - vals.length) (.tup []), []⟩) : CallP Try.prog 9 vals v :=
  call_of Try.func9 rfl rfl rfl (cc9.trans (congrArg some he.symm)) hw

/-- testbench/word.Wrap -/
def ac10 : AC :=
  .seq (.reg 0 [⟨(some 2), 0, none, (.op (.mov (.k (.d (.int .i64 0)))))⟩])
  (.seq (.reg 0 [⟨(some 3), 0, none, (.op (.mov (.t 0)))⟩,
    ⟨(some 4), 0, none, (.call (.k (.fn (.func 37) [] [])) [(.t 3)])⟩,
    ⟨(some 5), 0, none, (.call (.k (.fn (.func 38) [] [])) [(.t 4)])⟩,
    ⟨(some 2), 0, none, (.op (.mov (.t 5)))⟩])
  (.ret))
theorem cc10 : Try.f10.body.bind (compC Try.prog) = some ac10 := by kernel_rfl
theorem go10 {vals : List V} {v : V} (ac : AC) (he : ac.erase = ac10) (hw : wpC Try.prog 0 ac (retQ [.tmp 2] v) ⟨vals ++ List.replicate (6 - vals.length) (.tup []), []⟩) : CallP Try.prog 10 vals v :=
  call_of Try.func10 rfl rfl rfl (cc10.trans (congrArg some he.symm)) hw

/-- testbench/testbenchref02.Wrap -/
def ac11 : AC :=
  .seq (.reg 0 [⟨(some 2), 0, none, (.op (.mov (.k (.d (.int .i64 0)))))⟩])
  (.seq (.reg 0 [⟨(some 3), 0, none, (.op (.mov (.t 0)))⟩,
    ⟨(some 4), 0, none, (.op (.bin .rem (.t 3) (.k (.d (.int .i64 65536)))))⟩,
    ⟨(some 0), 0, none, (.op (.mov (.t 4)))⟩])
  (.seq (.seq (.reg 0 [⟨(some 5), 0, none, (.op (.mov (.t 0)))⟩,
    ⟨(some 6), 0, none, (.op (.bin .lss (.t 5) (.k (.d (.int .i64 0)))))⟩])
  (.cond (.t 6)
    (.reg 0 [⟨(some 7), 0, none, (.op (.mov (.t 0)))⟩,
      ⟨(some 8), 0, none, (.op (.bin .add (.t 7) (.k (.d (.int .i64 65535)))))⟩,
      ⟨(some 9), 0, none, (.op (.bin .add (.t 8) (.k (.d (.int .i64 1)))))⟩,
      ⟨(some 0), 0, none, (.op (.mov (.t 9)))⟩])
    (.skip)))
  (.seq (.reg 0 [⟨(some 10), 0, none, (.op (.mov (.t 0)))⟩,
    ⟨(some 2), 0, none, (.op (.mov (.t 10)))⟩])
  (.ret))))
theorem cc11 : Try.f11.body.bind (compC Try.prog) = some ac11 := by kernel_rfl
theorem go11 {vals : List V} {v : V} (ac : AC) (he : ac.erase = ac11) (hw : wpC Try.prog 0 ac (retQ [.tmp 2] v) ⟨vals ++ List.replicate (11 - vals.length) (.tup []), []⟩) : CallP Try.prog 11 vals v :=
  call_of Try.func11 rfl rfl rfl (cc11.trans (congrArg some he.symm)) hw

/-- testbench/testbenchlaw02.awake -/
def ac12 : AC :=
  .seq (.reg 0 [⟨(some 0), 0, none, (.op (.mov (.k (.d (.bool false)))))⟩])
  (.seq (.reg 0 [⟨(some 1), 0, none, (.call (.k (.fn (.func 10) [] [])) [(.k (.d (.int .i64 (-1))))])⟩,
    ⟨(some 2), 0, none, (.op (.bin .eql (.t 1) (.k (.d (.int .i64 65535)))))⟩,
    ⟨(some 3), 0, none, (.op (.mov (.t 2)))⟩,
    ⟨(some 4), 0, (some (3, true)), (.call (.k (.fn (.func 29) [] [])) [(.k (.d (.int .i64 65535))), (.k (.d (.int .i64 2)))])⟩,
    ⟨(some 5), 0, (some (3, true)), (.op (.bin .eql (.t 4) (.k (.d (.int .i64 1)))))⟩,
    ⟨(some 6), 0, none, (.op (.pick (.t 3) (.t 5) (.k (.d (.bool false)))))⟩,
    ⟨(some 7), 0, none, (.op (.mov (.t 6)))⟩,
    ⟨(some 8), 0, (some (7, true)), (.call (.k (.fn (.func 24) [] [])) [(.k (.d (.int .i64 256))), (.k (.d (.int .i64 256)))])⟩,
    ⟨(some 9), 0, (some (7, true)), (.op (.bin .eql (.t 8) (.k (.d (.int .i64 0)))))⟩,
    ⟨(some 10), 0, none, (.op (.pick (.t 7) (.t 9) (.k (.d (.bool false)))))⟩,
    ⟨(some 11), 0, none, (.op (.mov (.t 10)))⟩,
    ⟨(some 12), 0, (some (11, true)), (.call (.k (.fn (.func 20) [] [])) [(.k (.d (.int .i64 3))), (.k (.d (.int .i64 15)))])⟩,
    ⟨(some 13), 0, (some (11, true)), (.op (.bin .eql (.t 12) (.k (.d (.int .i64 32768)))))⟩,
    ⟨(some 14), 0, none, (.op (.pick (.t 11) (.t 13) (.k (.d (.bool false)))))⟩,
    ⟨(some 15), 0, none, (.op (.mov (.t 14)))⟩,
    ⟨(some 16), 0, (some (15, true)), (.call (.k (.fn (.func 19) [] [])) [(.k (.d (.int .i64 (-1))))])⟩,
    ⟨(some 17), 0, (some (15, true)), (.op (.bin .eql (.t 16) (.k (.d (.int .i64 16)))))⟩,
    ⟨(some 18), 0, none, (.op (.pick (.t 15) (.t 17) (.k (.d (.bool false)))))⟩,
    ⟨(some 19), 0, none, (.op (.mov (.t 18)))⟩,
    ⟨(some 20), 0, (some (19, true)), (.call (.k (.fn (.func 13) [] [])) [(.k (.d (.int .i64 8)))])⟩,
    ⟨(some 21), 0, (some (19, true)), (.op (.bin .eql (.t 20) (.k (.d (.int .i64 255)))))⟩,
    ⟨(some 22), 0, none, (.op (.pick (.t 19) (.t 21) (.k (.d (.bool false)))))⟩,
    ⟨(some 23), 0, none, (.op (.mov (.t 22)))⟩,
    ⟨(some 24), 0, (some (23, true)), (.call (.k (.fn (.func 15) [] [])) [(.k (.d (.int .i64 255))), (.k (.d (.int .i64 8)))])⟩,
    ⟨(some 25), 0, none, (.op (.pick (.t 23) (.t 24) (.k (.d (.bool false)))))⟩,
    ⟨(some 26), 0, none, (.op (.mov (.t 25)))⟩,
    ⟨(some 27), 0, (some (26, true)), (.call (.k (.fn (.func 17) [] [])) [(.k (.d (.int .i64 1))), (.k (.d (.int .i64 8)))])⟩,
    ⟨(some 28), 0, (some (26, true)), (.op (.bin .eql (.t 27) (.k (.d (.int .i64 128)))))⟩,
    ⟨(some 29), 0, none, (.op (.pick (.t 26) (.t 28) (.k (.d (.bool false)))))⟩,
    ⟨(some 0), 0, none, (.op (.mov (.t 29)))⟩])
  (.ret))
theorem cc12 : Try.f12.body.bind (compC Try.prog) = some ac12 := by kernel_rfl
theorem go12 {vals : List V} {v : V} (ac : AC) (he : ac.erase = ac12) (hw : wpC Try.prog 0 ac (retQ [.tmp 0] v) ⟨vals ++ List.replicate (30 - vals.length) (.tup []), []⟩) : CallP Try.prog 12 vals v :=
  call_of Try.func12 rfl rfl rfl (cc12.trans (congrArg some he.symm)) hw

/-- testbench/word.Mask -/
def ac13 : AC :=
  .seq (.reg 0 [⟨(some 2), 0, none, (.op (.mov (.k (.d (.int .i64 0)))))⟩])
  (.seq (.seq (.reg 0 [⟨(some 3), 0, none, (.op (.mov (.t 0)))⟩,
    ⟨(some 4), 0, none, (.op (.bin .lss (.t 3) (.k (.d (.int .i64 0)))))⟩,
    ⟨(some 5), 0, none, (.op (.mov (.t 4)))⟩,
    ⟨(some 6), 0, (some (5, false)), (.op (.mov (.t 0)))⟩,
    ⟨(some 7), 0, (some (5, false)), (.op (.bin .gtr (.t 6) (.k (.d (.int .i64 16)))))⟩,
    ⟨(some 8), 0, none, (.op (.pick (.t 5) (.k (.d (.bool true))) (.t 7)))⟩])
  (.cond (.t 8)
    (.seq (.reg 0 [⟨(some 2), 0, none, (.op (.mov (.k (.d (.int .i64 0)))))⟩])
    (.ret))
    (.skip)))
  (.seq (.reg 0 [⟨(some 9), 0, none, (.op (.mov (.t 0)))⟩,
    ⟨(some 10), 0, none, (.op (.bin .shl (.k (.d (.int .i64 1))) (.t 9)))⟩,
    ⟨(some 11), 0, none, (.op (.bin .sub (.t 10) (.k (.d (.int .i64 1)))))⟩,
    ⟨(some 2), 0, none, (.op (.mov (.t 11)))⟩])
  (.ret)))
theorem cc13 : Try.f13.body.bind (compC Try.prog) = some ac13 := by kernel_rfl
theorem go13 {vals : List V} {v : V} (ac : AC) (he : ac.erase = ac13) (hw : wpC Try.prog 0 ac (retQ [.tmp 2] v) ⟨vals ++ List.replicate (12 - vals.length) (.tup []), []⟩) : CallP Try.prog 13 vals v :=
  call_of Try.func13 rfl rfl rfl (cc13.trans (congrArg some he.symm)) hw

/-- testbench/testbenchref02.Mask -/
def ac14 : AC :=
  .seq (.reg 0 [⟨(some 2), 0, none, (.op (.mov (.k (.d (.int .i64 0)))))⟩])
  (.seq (.seq (.reg 0 [⟨(some 3), 0, none, (.op (.mov (.t 0)))⟩,
    ⟨(some 4), 0, none, (.op (.bin .lss (.t 3) (.k (.d (.int .i64 0)))))⟩,
    ⟨(some 5), 0, none, (.op (.mov (.t 4)))⟩,
    ⟨(some 6), 0, (some (5, false)), (.op (.mov (.t 0)))⟩,
    ⟨(some 7), 0, (some (5, false)), (.op (.bin .gtr (.t 6) (.k (.d (.int .i64 16)))))⟩,
    ⟨(some 8), 0, none, (.op (.pick (.t 5) (.k (.d (.bool true))) (.t 7)))⟩])
  (.cond (.t 8)
    (.seq (.reg 0 [⟨(some 2), 0, none, (.op (.mov (.k (.d (.int .i64 0)))))⟩])
    (.ret))
    (.skip)))
  (.seq (.reg 0 [⟨(some 9), 0, none, (.op (.mov (.t 0)))⟩,
    ⟨(some 10), 0, none, (.call (.k (.fn (.func 39) [] [])) [(.t 9)])⟩,
    ⟨(some 11), 0, none, (.op (.bin .sub (.t 10) (.k (.d (.int .i64 1)))))⟩,
    ⟨(some 2), 0, none, (.op (.mov (.t 11)))⟩])
  (.ret)))
theorem cc14 : Try.f14.body.bind (compC Try.prog) = some ac14 := by kernel_rfl
theorem go14 {vals : List V} {v : V} (ac : AC) (he : ac.erase = ac14) (hw : wpC Try.prog 0 ac (retQ [.tmp 2] v) ⟨vals ++ List.replicate (12 - vals.length) (.tup []), []⟩) : CallP Try.prog 14 vals v :=
  call_of Try.func14 rfl rfl rfl (cc14.trans (congrArg some he.symm)) hw

/-- testbench/word.Fits -/
def ac15 : AC :=
  .seq (.reg 0 [⟨(some 4), 0, none, (.op (.mov (.k (.d (.bool false)))))⟩])
  (.seq (.reg 0 [⟨(some 5), 0, none, (.op (.mov (.t 1)))⟩,
    ⟨(some 6), 0, none, (.op (.bin .geq (.t 5) (.k (.d (.int .i64 1)))))⟩,
    ⟨(some 7), 0, none, (.op (.mov (.t 6)))⟩,
    ⟨(some 8), 0, (some (7, true)), (.op (.mov (.t 1)))⟩,
    ⟨(some 9), 0, (some (7, true)), (.op (.bin .leq (.t 8) (.k (.d (.int .i64 16)))))⟩,
    ⟨(some 10), 0, none, (.op (.pick (.t 7) (.t 9) (.k (.d (.bool false)))))⟩,
    ⟨(some 11), 0, none, (.op (.mov (.t 10)))⟩,
    ⟨(some 12), 0, (some (11, true)), (.op (.mov (.t 0)))⟩,
    ⟨(some 13), 0, (some (11, true)), (.op (.bin .geq (.t 12) (.k (.d (.int .i64 0)))))⟩,
    ⟨(some 14), 0, none, (.op (.pick (.t 11) (.t 13) (.k (.d (.bool false)))))⟩,
    ⟨(some 15), 0, none, (.op (.mov (.t 14)))⟩,
    ⟨(some 16), 0, (some (15, true)), (.op (.mov (.t 0)))⟩,
    ⟨(some 17), 0, (some (15, true)), (.op (.mov (.t 1)))⟩,
    ⟨(some 18), 0, (some (15, true)), (.call (.k (.fn (.func 13) [] [])) [(.t 17)])⟩,
    ⟨(some 19), 0, (some (15, true)), (.op (.bin .leq (.t 16) (.t 18)))⟩,
    ⟨(some 20), 0, none, (.op (.pick (.t 15) (.t 19) (.k (.d (.bool false)))))⟩,
    ⟨(some 4), 0, none, (.op (.mov (.t 20)))⟩])
  (.ret))
theorem cc15 : Try.f15.body.bind (compC Try.prog) = some ac15 := by kernel_rfl
theorem go15 {vals : List V} {v : V} (ac : AC) (he : ac.erase = ac15) (hw : wpC Try.prog 0 ac (retQ [.tmp 4] v) ⟨vals ++ List.replicate (21 - vals.length) (.tup []), []⟩) : CallP Try.prog 15 vals v :=
  call_of Try.func15 rfl rfl rfl (cc15.trans (congrArg some he.symm)) hw

/-- testbench/testbenchref02.Fits -/
def ac16 : AC :=
  .seq (.reg 0 [⟨(some 4), 0, none, (.op (.mov (.k (.d (.bool false)))))⟩])
  (.seq (.reg 0 [⟨(some 5), 0, none, (.op (.mov (.t 1)))⟩,
    ⟨(some 6), 0, none, (.op (.bin .geq (.t 5) (.k (.d (.int .i64 1)))))⟩,
    ⟨(some 7), 0, none, (.op (.mov (.t 6)))⟩,
    ⟨(some 8), 0, (some (7, true)), (.op (.mov (.t 1)))⟩,
    ⟨(some 9), 0, (some (7, true)), (.op (.bin .leq (.t 8) (.k (.d (.int .i64 16)))))⟩,
    ⟨(some 10), 0, none, (.op (.pick (.t 7) (.t 9) (.k (.d (.bool false)))))⟩,
    ⟨(some 11), 0, none, (.op (.mov (.t 10)))⟩,
    ⟨(some 12), 0, (some (11, true)), (.op (.mov (.t 0)))⟩,
    ⟨(some 13), 0, (some (11, true)), (.op (.bin .geq (.t 12) (.k (.d (.int .i64 0)))))⟩,
    ⟨(some 14), 0, none, (.op (.pick (.t 11) (.t 13) (.k (.d (.bool false)))))⟩,
    ⟨(some 15), 0, none, (.op (.mov (.t 14)))⟩,
    ⟨(some 16), 0, (some (15, true)), (.op (.mov (.t 0)))⟩,
    ⟨(some 17), 0, (some (15, true)), (.op (.mov (.t 1)))⟩,
    ⟨(some 18), 0, (some (15, true)), (.call (.k (.fn (.func 14) [] [])) [(.t 17)])⟩,
    ⟨(some 19), 0, (some (15, true)), (.op (.bin .leq (.t 16) (.t 18)))⟩,
    ⟨(some 20), 0, none, (.op (.pick (.t 15) (.t 19) (.k (.d (.bool false)))))⟩,
    ⟨(some 4), 0, none, (.op (.mov (.t 20)))⟩])
  (.ret))
theorem cc16 : Try.f16.body.bind (compC Try.prog) = some ac16 := by kernel_rfl
theorem go16 {vals : List V} {v : V} (ac : AC) (he : ac.erase = ac16) (hw : wpC Try.prog 0 ac (retQ [.tmp 4] v) ⟨vals ++ List.replicate (21 - vals.length) (.tup []), []⟩) : CallP Try.prog 16 vals v :=
  call_of Try.func16 rfl rfl rfl (cc16.trans (congrArg some he.symm)) hw

/-- testbench/word.Reverse -/
def ac17 : AC :=
  .seq (.reg 0 [⟨(some 4), 0, none, (.op (.mov (.k (.d (.int .i64 0)))))⟩])
  (.seq (.seq (.reg 0 [⟨(some 5), 0, none, (.op (.mov (.t 1)))⟩,
    ⟨(some 6), 0, none, (.op (.bin .lss (.t 5) (.k (.d (.int .i64 1)))))⟩,
    ⟨(some 7), 0, none, (.op (.mov (.t 6)))⟩,
    ⟨(some 8), 0, (some (7, false)), (.op (.mov (.t 1)))⟩,
    ⟨(some 9), 0, (some (7, false)), (.op (.bin .gtr (.t 8) (.k (.d (.int .i64 16)))))⟩,
    ⟨(some 10), 0, none, (.op (.pick (.t 7) (.k (.d (.bool true))) (.t 9)))⟩])
  (.cond (.t 10)
    (.seq (.reg 0 [⟨(some 4), 0, none, (.op (.mov (.k (.d (.int .i64 0)))))⟩])
    (.ret))
    (.skip)))
  (.seq (.reg 0 [⟨(some 11), 0, none, (.op (.mov (.t 0)))⟩,
    ⟨(some 12), 0, none, (.call (.k (.fn (.func 37) [] [])) [(.t 11)])⟩,
    ⟨(some 13), 0, none, (.call (.k (.fn (.func 40) [] [])) [(.t 12)])⟩,
    ⟨(some 14), 0, none, (.op (.mov (.t 1)))⟩,
    ⟨(some 15), 0, none, (.op (.bin .sub (.k (.d (.int .i64 16))) (.t 14)))⟩,
    ⟨(some 16), 0, none, (.op (.bin .shr (.t 13) (.t 15)))⟩,
    ⟨(some 17), 0, none, (.op (.conv .i64 (.t 16)))⟩,
    ⟨(some 4), 0, none, (.op (.mov (.t 17)))⟩])
  (.ret)))
theorem cc17 : Try.f17.body.bind (compC Try.prog) = some ac17 := by kernel_rfl
theorem go17 {vals : List V} {v : V} (ac : AC) (he : ac.erase = ac17) (hw : wpC Try.prog 0 ac (retQ [.tmp 4] v) ⟨vals ++ List.replicate (18 - vals.length) (.tup []), []⟩) : CallP Try.prog 17 vals v :=
  call_of Try.func17 rfl rfl rfl (cc17.trans (congrArg some he.symm)) hw

/-- testbench/testbenchref02.Reverse -/
def ac18 : AC :=
  .seq (.reg 0 [⟨(some 4), 0, none, (.op (.mov (.k (.d (.int .i64 0)))))⟩])
  (.seq (.seq (.reg 0 [⟨(some 7), 0, none, (.op (.mov (.t 1)))⟩,
    ⟨(some 8), 0, none, (.op (.bin .lss (.t 7) (.k (.d (.int .i64 1)))))⟩,
    ⟨(some 9), 0, none, (.op (.mov (.t 8)))⟩,
    ⟨(some 10), 0, (some (9, false)), (.op (.mov (.t 1)))⟩,
    ⟨(some 11), 0, (some (9, false)), (.op (.bin .gtr (.t 10) (.k (.d (.int .i64 16)))))⟩,
    ⟨(some 12), 0, none, (.op (.pick (.t 9) (.k (.d (.bool true))) (.t 11)))⟩])
  (.cond (.t 12)
    (.seq (.reg 0 [⟨(some 4), 0, none, (.op (.mov (.k (.d (.int .i64 0)))))⟩])
    (.ret))
    (.skip)))
  (.seq (.reg 0 [⟨(some 5), 0, none, (.op (.mov (.k (.d (.int .i64 0)))))⟩])
  (.seq (.seq (.reg 0 [⟨(some 6), 0, none, (.op (.mov (.k (.d (.int .i64 0)))))⟩])
  (.block 0
   (.loop
    (.seq (.seq (.reg 0 [⟨(some 13), 0, none, (.op (.mov (.t 6)))⟩,
      ⟨(some 14), 0, none, (.op (.mov (.t 1)))⟩,
      ⟨(some 15), 0, none, (.op (.bin .lss (.t 13) (.t 14)))⟩])
    (.cond (.t 15)
      (.skip)
      (.exit 0)))
    (.seq (.block 1
     (.reg 0 [⟨(some 18), 0, none, (.op (.mov (.t 5)))⟩,
       ⟨(some 19), 0, none, (.op (.bin .mul (.k (.d (.int .i64 2))) (.t 18)))⟩,
       ⟨(some 20), 0, none, (.op (.mov (.t 0)))⟩,
       ⟨(some 21), 0, none, (.op (.mov (.t 6)))⟩,
       ⟨(some 22), 0, none, (.call (.k (.fn (.func 26) [] [])) [(.t 20), (.t 21)])⟩,
       ⟨(some 23), 0, none, (.op (.bin .add (.t 19) (.t 22)))⟩,
       ⟨(some 5), 0, none, (.op (.mov (.t 23)))⟩]))
    (.reg 0 [⟨(some 16), 0, none, (.op (.mov (.t 6)))⟩,
      ⟨(some 17), 0, none, (.op (.bin .add (.t 16) (.k (.d (.int .i64 1)))))⟩,
      ⟨(some 6), 0, none, (.op (.mov (.t 17)))⟩]))))))
  (.seq (.reg 0 [⟨(some 24), 0, none, (.op (.mov (.t 5)))⟩,
    ⟨(some 4), 0, none, (.op (.mov (.t 24)))⟩])
  (.ret)))))
theorem cc18 : Try.f18.body.bind (compC Try.prog) = some ac18 := by kernel_rfl
theorem go18 {vals : List V} {v : V} (ac : AC) (he : ac.erase = ac18) (hw : wpC Try.prog 0 ac (retQ [.tmp 4] v) ⟨vals ++ List.replicate (25 - vals.length) (.tup []), []⟩) : CallP Try.prog 18 vals v :=
  call_of Try.func18 rfl rfl rfl (cc18.trans (congrArg some he.symm)) hw

/-- testbench/word.Ones -/
def ac19 : AC :=
  .seq (.reg 0 [⟨(some 2), 0, none, (.op (.mov (.k (.d (.int .i64 0)))))⟩])
  (.seq (.reg 0 [⟨(some 3), 0, none, (.op (.mov (.t 0)))⟩,
    ⟨(some 4), 0, none, (.call (.k (.fn (.func 37) [] [])) [(.t 3)])⟩,
    ⟨(some 5), 0, none, (.call (.k (.fn (.func 41) [] [])) [(.t 4)])⟩,
    ⟨(some 2), 0, none, (.op (.mov (.t 5)))⟩])
  (.ret))
theorem cc19 : Try.f19.body.bind (compC Try.prog) = some ac19 := by kernel_rfl
theorem go19 {vals : List V} {v : V} (ac : AC) (he : ac.erase = ac19) (hw : wpC Try.prog 0 ac (retQ [.tmp 2] v) ⟨vals ++ List.replicate (6 - vals.length) (.tup []), []⟩) : CallP Try.prog 19 vals v :=
  call_of Try.func19 rfl rfl rfl (cc19.trans (congrArg some he.symm)) hw

/-- testbench/word.Shl -/
def ac20 : AC :=
  .seq (.reg 0 [⟨(some 4), 0, none, (.op (.mov (.k (.d (.int .i64 0)))))⟩])
  (.seq (.reg 0 [⟨(some 5), 0, none, (.op (.mov (.t 0)))⟩,
    ⟨(some 6), 0, none, (.call (.k (.fn (.func 37) [] [])) [(.t 5)])⟩,
    ⟨(some 7), 0, none, (.op (.mkfn (.func 43) [(.t 6)] []))⟩,
    ⟨(some 8), 0, none, (.op (.mov (.t 1)))⟩,
    ⟨(some 9), 0, none, (.call (.k (.fn (.func 42) [] [])) [(.t 7), (.t 8)])⟩,
    ⟨(some 4), 0, none, (.op (.mov (.t 9)))⟩])
  (.ret))
theorem cc20 : Try.f20.body.bind (compC Try.prog) = some ac20 := by kernel_rfl
theorem go20 {vals : List V} {v : V} (ac : AC) (he : ac.erase = ac20) (hw : wpC Try.prog 0 ac (retQ [.tmp 4] v) ⟨vals ++ List.replicate (10 - vals.length) (.tup []), []⟩) : CallP Try.prog 20 vals v :=
  call_of Try.func20 rfl rfl rfl (cc20.trans (congrArg some he.symm)) hw

/-- testbench/testbenchref02.Shl -/
def ac21 : AC :=
  .seq (.reg 0 [⟨(some 4), 0, none, (.op (.mov (.k (.d (.int .i64 0)))))⟩])
  (.seq (.seq (.reg 0 [⟨(some 5), 0, none, (.op (.mov (.t 1)))⟩,
    ⟨(some 6), 0, none, (.op (.bin .lss (.t 5) (.k (.d (.int .i64 0)))))⟩,
    ⟨(some 7), 0, none, (.op (.mov (.t 6)))⟩,
    ⟨(some 8), 0, (some (7, false)), (.op (.mov (.t 1)))⟩,
    ⟨(some 9), 0, (some (7, false)), (.op (.bin .gtr (.t 8) (.k (.d (.int .i64 15)))))⟩,
    ⟨(some 10), 0, none, (.op (.pick (.t 7) (.k (.d (.bool true))) (.t 9)))⟩])
  (.cond (.t 10)
    (.seq (.reg 0 [⟨(some 4), 0, none, (.op (.mov (.k (.d (.int .i64 0)))))⟩])
    (.ret))
    (.skip)))
  (.seq (.reg 0 [⟨(some 11), 0, none, (.op (.mov (.t 0)))⟩,
    ⟨(some 12), 0, none, (.call (.k (.fn (.func 11) [] [])) [(.t 11)])⟩,
    ⟨(some 13), 0, none, (.op (.mov (.t 1)))⟩,
    ⟨(some 14), 0, none, (.call (.k (.fn (.func 39) [] [])) [(.t 13)])⟩,
    ⟨(some 15), 0, none, (.op (.bin .mul (.t 12) (.t 14)))⟩,
    ⟨(some 16), 0, none, (.call (.k (.fn (.func 11) [] [])) [(.t 15)])⟩,
    ⟨(some 4), 0, none, (.op (.mov (.t 16)))⟩])
  (.ret)))
theorem cc21 : Try.f21.body.bind (compC Try.prog) = some ac21 := by kernel_rfl
theorem go21 {vals : List V} {v : V} (ac : AC) (he : ac.erase = ac21) (hw : wpC Try.prog 0 ac (retQ [.tmp 4] v) ⟨vals ++ List.replicate (17 - vals.length) (.tup []), []⟩) : CallP Try.prog 21 vals v :=
  call_of Try.func21 rfl rfl rfl (cc21.trans (congrArg some he.symm)) hw

/-- testbench/word.Shr -/
def ac22 : AC :=
  .seq (.reg 0 [⟨(some 4), 0, none, (.op (.mov (.k (.d (.int .i64 0)))))⟩])
  (.seq (.reg 0 [⟨(some 5), 0, none, (.op (.mov (.t 0)))⟩,
    ⟨(some 6), 0, none, (.call (.k (.fn (.func 37) [] [])) [(.t 5)])⟩,
    ⟨(some 7), 0, none, (.op (.mkfn (.func 44) [(.t 6)] []))⟩,
    ⟨(some 8), 0, none, (.op (.mov (.t 1)))⟩,
    ⟨(some 9), 0, none, (.call (.k (.fn (.func 42) [] [])) [(.t 7), (.t 8)])⟩,
    ⟨(some 4), 0, none, (.op (.mov (.t 9)))⟩])
  (.ret))
theorem cc22 : Try.f22.body.bind (compC Try.prog) = some ac22 := by kernel_rfl
theorem go22 {vals : List V} {v : V} (ac : AC) (he : ac.erase = ac22) (hw : wpC Try.prog 0 ac (retQ [.tmp 4] v) ⟨vals ++ List.replicate (10 - vals.length) (.tup []), []⟩) : CallP Try.prog 22 vals v :=
  call_of Try.func22 rfl rfl rfl (cc22.trans (congrArg some he.symm)) hw

/-- testbench/testbenchref02.Shr -/
def ac23 : AC :=
  .seq (.reg 0 [⟨(some 4), 0, none, (.op (.mov (.k (.d (.int .i64 0)))))⟩])
  (.seq (.seq (.reg 0 [⟨(some 5), 0, none, (.op (.mov (.t 1)))⟩,
    ⟨(some 6), 0, none, (.op (.bin .lss (.t 5) (.k (.d (.int .i64 0)))))⟩,
    ⟨(some 7), 0, none, (.op (.mov (.t 6)))⟩,
    ⟨(some 8), 0, (some (7, false)), (.op (.mov (.t 1)))⟩,
    ⟨(some 9), 0, (some (7, false)), (.op (.bin .gtr (.t 8) (.k (.d (.int .i64 15)))))⟩,
    ⟨(some 10), 0, none, (.op (.pick (.t 7) (.k (.d (.bool true))) (.t 9)))⟩])
  (.cond (.t 10)
    (.seq (.reg 0 [⟨(some 4), 0, none, (.op (.mov (.k (.d (.int .i64 0)))))⟩])
    (.ret))
    (.skip)))
  (.seq (.reg 0 [⟨(some 11), 0, none, (.op (.mov (.t 0)))⟩,
    ⟨(some 12), 0, none, (.call (.k (.fn (.func 11) [] [])) [(.t 11)])⟩,
    ⟨(some 13), 0, none, (.op (.mov (.t 1)))⟩,
    ⟨(some 14), 0, none, (.call (.k (.fn (.func 39) [] [])) [(.t 13)])⟩,
    ⟨(some 15), 0, none, (.op (.bin .quo (.t 12) (.t 14)))⟩,
    ⟨(some 4), 0, none, (.op (.mov (.t 15)))⟩])
  (.ret)))
theorem cc23 : Try.f23.body.bind (compC Try.prog) = some ac23 := by kernel_rfl
theorem go23 {vals : List V} {v : V} (ac : AC) (he : ac.erase = ac23) (hw : wpC Try.prog 0 ac (retQ [.tmp 4] v) ⟨vals ++ List.replicate (16 - vals.length) (.tup []), []⟩) : CallP Try.prog 23 vals v :=
  call_of Try.func23 rfl rfl rfl (cc23.trans (congrArg some he.symm)) hw

/-- testbench/word.Mul -/
def ac24 : AC :=
  .seq (.reg 0 [⟨(some 4), 0, none, (.op (.mov (.k (.d (.int .i64 0)))))⟩])
  (.seq (.reg 0 [⟨(some 5), 0, none, (.op (.mov (.t 0)))⟩,
    ⟨(some 6), 0, none, (.call (.k (.fn (.func 37) [] [])) [(.t 5)])⟩,
    ⟨(some 7), 0, none, (.op (.mkfn (.func 46) [(.t 6)] []))⟩,
    ⟨(some 8), 0, none, (.op (.mov (.t 1)))⟩,
    ⟨(some 9), 0, none, (.call (.k (.fn (.func 45) [] [])) [(.t 7), (.t 8)])⟩,
    ⟨(some 4), 0, none, (.op (.mov (.t 9)))⟩])
  (.ret))
theorem cc24 : Try.f24.body.bind (compC Try.prog) = some ac24 := by kernel_rfl
theorem go24 {vals : List V} {v : V} (ac : AC) (he : ac.erase = ac24) (hw : wpC Try.prog 0 ac (retQ [.tmp 4] v) ⟨vals ++ List.replicate (10 - vals.length) (.tup []), []⟩) : CallP Try.prog 24 vals v :=
  call_of Try.func24 rfl rfl rfl (cc24.trans (congrArg some he.symm)) hw

/-- testbench/word.Bit -/
def ac25 : AC :=
  .seq (.reg 0 [⟨(some 4), 0, none, (.op (.mov (.k (.d (.int .i64 0)))))⟩])
  (.seq (.reg 0 [⟨(some 5), 0, none, (.op (.mov (.t 0)))⟩,
    ⟨(some 6), 0, none, (.op (.mov (.t 1)))⟩,
    ⟨(some 7), 0, none, (.call (.k (.fn (.func 22) [] [])) [(.t 5), (.t 6)])⟩,
    ⟨(some 8), 0, none, (.op (.bin .and (.t 7) (.k (.d (.int .i64 1)))))⟩,
    ⟨(some 4), 0, none, (.op (.mov (.t 8)))⟩])
  (.ret))
theorem cc25 : Try.f25.body.bind (compC Try.prog) = some ac25 := by kernel_rfl
theorem go25 {vals : List V} {v : V} (ac : AC) (he : ac.erase = ac25) (hw : wpC Try.prog 0 ac (retQ [.tmp 4] v) ⟨vals ++ List.replicate (9 - vals.length) (.tup []), []⟩) : CallP Try.prog 25 vals v :=
  call_of Try.func25 rfl rfl rfl (cc25.trans (congrArg some he.symm)) hw

/-- testbench/testbenchref02.Bit -/
def ac26 : AC :=
  .seq (.reg 0 [⟨(some 4), 0, none, (.op (.mov (.k (.d (.int .i64 0)))))⟩])
  (.seq (.reg 0 [⟨(some 5), 0, none, (.op (.mov (.t 0)))⟩,
    ⟨(some 6), 0, none, (.op (.mov (.t 1)))⟩,
    ⟨(some 7), 0, none, (.call (.k (.fn (.func 23) [] [])) [(.t 5), (.t 6)])⟩,
    ⟨(some 8), 0, none, (.op (.bin .rem (.t 7) (.k (.d (.int .i64 2)))))⟩,
    ⟨(some 4), 0, none, (.op (.mov (.t 8)))⟩])
  (.ret))
theorem cc26 : Try.f26.body.bind (compC Try.prog) = some ac26 := by kernel_rfl
theorem go26 {vals : List V} {v : V} (ac : AC) (he : ac.erase = ac26) (hw : wpC Try.prog 0 ac (retQ [.tmp 4] v) ⟨vals ++ List.replicate (9 - vals.length) (.tup []), []⟩) : CallP Try.prog 26 vals v :=
  call_of Try.func26 rfl rfl rfl (cc26.trans (congrArg some he.symm)) hw

/-- testbench/testbenchref02.Ones -/
def ac27 : AC :=
  .seq (.reg 0 [⟨(some 2), 0, none, (.op (.mov (.k (.d (.int .i64 0)))))⟩])
  (.seq (.reg 0 [⟨(some 3), 0, none, (.op (.mov (.k (.d (.int .i64 0)))))⟩])
  (.seq (.seq (.reg 0 [⟨(some 4), 0, none, (.op (.mov (.k (.d (.int .i64 0)))))⟩])
  (.block 0
   (.loop
    (.seq (.seq (.reg 0 [⟨(some 5), 0, none, (.op (.mov (.t 4)))⟩,
      ⟨(some 6), 0, none, (.op (.bin .lss (.t 5) (.k (.d (.int .i64 16)))))⟩])
    (.cond (.t 6)
      (.skip)
      (.exit 0)))
    (.seq (.block 1
     (.reg 0 [⟨(some 9), 0, none, (.op (.mov (.t 3)))⟩,
       ⟨(some 10), 0, none, (.op (.mov (.t 0)))⟩,
       ⟨(some 11), 0, none, (.op (.mov (.t 4)))⟩,
       ⟨(some 12), 0, none, (.call (.k (.fn (.func 26) [] [])) [(.t 10), (.t 11)])⟩,
       ⟨(some 13), 0, none, (.op (.bin .add (.t 9) (.t 12)))⟩,
       ⟨(some 3), 0, none, (.op (.mov (.t 13)))⟩]))
    (.reg 0 [⟨(some 7), 0, none, (.op (.mov (.t 4)))⟩,
      ⟨(some 8), 0, none, (.op (.bin .add (.t 7) (.k (.d (.int .i64 1)))))⟩,
      ⟨(some 4), 0, none, (.op (.mov (.t 8)))⟩]))))))
  (.seq (.reg 0 [⟨(some 14), 0, none, (.op (.mov (.t 3)))⟩,
    ⟨(some 2), 0, none, (.op (.mov (.t 14)))⟩])
  (.ret))))
theorem cc27 : Try.f27.body.bind (compC Try.prog) = some ac27 := by kernel_rfl
theorem go27 {vals : List V} {v : V} (ac : AC) (he : ac.erase = ac27) (hw : wpC Try.prog 0 ac (retQ [.tmp 2] v) ⟨vals ++ List.replicate (15 - vals.length) (.tup []), []⟩) : CallP Try.prog 27 vals v :=
  call_of Try.func27 rfl rfl rfl (cc27.trans (congrArg some he.symm)) hw

/-- testbench/word.Inv -/
def ac28 : AC :=
  .seq (.reg 0 [⟨(some 2), 0, none, (.op (.mov (.k (.d (.int .i64 0)))))⟩])
  (.seq (.reg 0 [⟨(some 3), 0, none, (.op (.mov (.t 0)))⟩,
    ⟨(some 4), 0, none, (.call (.k (.fn (.func 37) [] [])) [(.t 3)])⟩,
    ⟨(some 5), 0, none, (.op (.mkfn (.func 48) [(.t 4)] []))⟩,
    ⟨(some 6), 0, none, (.call (.k (.fn (.func 47) [] [])) [(.t 5)])⟩,
    ⟨(some 2), 0, none, (.op (.mov (.t 6)))⟩])
  (.ret))
theorem cc28 : Try.f28.body.bind (compC Try.prog) = some ac28 := by kernel_rfl
theorem go28 {vals : List V} {v : V} (ac : AC) (he : ac.erase = ac28) (hw : wpC Try.prog 0 ac (retQ [.tmp 2] v) ⟨vals ++ List.replicate (7 - vals.length) (.tup []), []⟩) : CallP Try.prog 28 vals v :=
  call_of Try.func28 rfl rfl rfl (cc28.trans (congrArg some he.symm)) hw

/-- testbench/word.Add -/
def ac29 : AC :=
  .seq (.reg 0 [⟨(some 4), 0, none, (.op (.mov (.k (.d (.int .i64 0)))))⟩])
  (.seq (.reg 0 [⟨(some 5), 0, none, (.op (.mov (.t 0)))⟩,
    ⟨(some 6), 0, none, (.call (.k (.fn (.func 37) [] [])) [(.t 5)])⟩,
    ⟨(some 7), 0, none, (.op (.mkfn (.func 49) [(.t 6)] []))⟩,
    ⟨(some 8), 0, none, (.op (.mov (.t 1)))⟩,
    ⟨(some 9), 0, none, (.call (.k (.fn (.func 45) [] [])) [(.t 7), (.t 8)])⟩,
    ⟨(some 4), 0, none, (.op (.mov (.t 9)))⟩])
  (.ret))
theorem cc29 : Try.f29.body.bind (compC Try.prog) = some ac29 := by kernel_rfl
theorem go29 {vals : List V} {v : V} (ac : AC) (he : ac.erase = ac29) (hw : wpC Try.prog 0 ac (retQ [.tmp 4] v) ⟨vals ++ List.replicate (10 - vals.length) (.tup []), []⟩) : CallP Try.prog 29 vals v :=
  call_of Try.func29 rfl rfl rfl (cc29.trans (congrArg some he.symm)) hw

/-- testbench/testbenchref02.Add -/
def ac30 : AC :=
  .seq (.reg 0 [⟨(some 4), 0, none, (.op (.mov (.k (.d (.int .i64 0)))))⟩])
  (.seq (.reg 0 [⟨(some 5), 0, none, (.op (.mov (.t 0)))⟩,
    ⟨(some 6), 0, none, (.call (.k (.fn (.func 11) [] [])) [(.t 5)])⟩,
    ⟨(some 7), 0, none, (.op (.mov (.t 1)))⟩,
    ⟨(some 8), 0, none, (.call (.k (.fn (.func 11) [] [])) [(.t 7)])⟩,
    ⟨(some 9), 0, none, (.op (.bin .add (.t 6) (.t 8)))⟩,
    ⟨(some 10), 0, none, (.call (.k (.fn (.func 11) [] [])) [(.t 9)])⟩,
    ⟨(some 4), 0, none, (.op (.mov (.t 10)))⟩])
  (.ret))
theorem cc30 : Try.f30.body.bind (compC Try.prog) = some ac30 := by kernel_rfl
theorem go30 {vals : List V} {v : V} (ac : AC) (he : ac.erase = ac30) (hw : wpC Try.prog 0 ac (retQ [.tmp 4] v) ⟨vals ++ List.replicate (11 - vals.length) (.tup []), []⟩) : CallP Try.prog 30 vals v :=
  call_of Try.func30 rfl rfl rfl (cc30.trans (congrArg some he.symm)) hw

/-- testbench/word.Sub -/
def ac31 : AC :=
  .seq (.reg 0 [⟨(some 4), 0, none, (.op (.mov (.k (.d (.int .i64 0)))))⟩])
  (.seq (.reg 0 [⟨(some 5), 0, none, (.op (.mov (.t 0)))⟩,
    ⟨(some 6), 0, none, (.call (.k (.fn (.func 37) [] [])) [(.t 5)])⟩,
    ⟨(some 7), 0, none, (.op (.mkfn (.func 50) [(.t 6)] []))⟩,
    ⟨(some 8), 0, none, (.op (.mov (.t 1)))⟩,
    ⟨(some 9), 0, none, (.call (.k (.fn (.func 45) [] [])) [(.t 7), (.t 8)])⟩,
    ⟨(some 4), 0, none, (.op (.mov (.t 9)))⟩])
  (.ret))
theorem cc31 : Try.f31.body.bind (compC Try.prog) = some ac31 := by kernel_rfl
theorem go31 {vals : List V} {v : V} (ac : AC) (he : ac.erase = ac31) (hw : wpC Try.prog 0 ac (retQ [.tmp 4] v) ⟨vals ++ List.replicate (10 - vals.length) (.tup []), []⟩) : CallP Try.prog 31 vals v :=
  call_of Try.func31 rfl rfl rfl (cc31.trans (congrArg some he.symm)) hw

/-- testbench/testbenchref02.Sub -/
def ac32 : AC :=
  .seq (.reg 0 [⟨(some 4), 0, none, (.op (.mov (.k (.d (.int .i64 0)))))⟩])
  (.seq (.reg 0 [⟨(some 5), 0, none, (.op (.mov (.t 0)))⟩,
    ⟨(some 6), 0, none, (.call (.k (.fn (.func 11) [] [])) [(.t 5)])⟩,
    ⟨(some 7), 0, none, (.op (.mov (.t 1)))⟩,
    ⟨(some 8), 0, none, (.call (.k (.fn (.func 11) [] [])) [(.t 7)])⟩,
    ⟨(some 9), 0, none, (.op (.bin .sub (.t 6) (.t 8)))⟩,
    ⟨(some 10), 0, none, (.call (.k (.fn (.func 11) [] [])) [(.t 9)])⟩,
    ⟨(some 4), 0, none, (.op (.mov (.t 10)))⟩])
  (.ret))
theorem cc32 : Try.f32.body.bind (compC Try.prog) = some ac32 := by kernel_rfl
theorem go32 {vals : List V} {v : V} (ac : AC) (he : ac.erase = ac32) (hw : wpC Try.prog 0 ac (retQ [.tmp 4] v) ⟨vals ++ List.replicate (11 - vals.length) (.tup []), []⟩) : CallP Try.prog 32 vals v :=
  call_of Try.func32 rfl rfl rfl (cc32.trans (congrArg some he.symm)) hw

/-- testbench/testbenchref02.Mul -/
def ac33 : AC :=
  .seq (.reg 0 [⟨(some 4), 0, none, (.op (.mov (.k (.d (.int .i64 0)))))⟩])
  (.seq (.reg 0 [⟨(some 5), 0, none, (.op (.mov (.t 0)))⟩,
    ⟨(some 6), 0, none, (.call (.k (.fn (.func 11) [] [])) [(.t 5)])⟩,
    ⟨(some 7), 0, none, (.op (.mov (.t 1)))⟩,
    ⟨(some 8), 0, none, (.call (.k (.fn (.func 11) [] [])) [(.t 7)])⟩,
    ⟨(some 9), 0, none, (.op (.bin .mul (.t 6) (.t 8)))⟩,
    ⟨(some 10), 0, none, (.call (.k (.fn (.func 11) [] [])) [(.t 9)])⟩,
    ⟨(some 4), 0, none, (.op (.mov (.t 10)))⟩])
  (.ret))
theorem cc33 : Try.f33.body.bind (compC Try.prog) = some ac33 := by kernel_rfl
theorem go33 {vals : List V} {v : V} (ac : AC) (he : ac.erase = ac33) (hw : wpC Try.prog 0 ac (retQ [.tmp 4] v) ⟨vals ++ List.replicate (11 - vals.length) (.tup []), []⟩) : CallP Try.prog 33 vals v :=
  call_of Try.func33 rfl rfl rfl (cc33.trans (congrArg some he.symm)) hw

/-- testbench/word.Neg -/
def ac34 : AC :=
  .seq (.reg 0 [⟨(some 2), 0, none, (.op (.mov (.k (.d (.int .i64 0)))))⟩])
  (.seq (.reg 0 [⟨(some 3), 0, none, (.op (.mov (.t 0)))⟩,
    ⟨(some 4), 0, none, (.call (.k (.fn (.func 37) [] [])) [(.t 3)])⟩,
    ⟨(some 5), 0, none, (.op (.mkfn (.func 51) [(.t 4)] []))⟩,
    ⟨(some 6), 0, none, (.call (.k (.fn (.func 47) [] [])) [(.t 5)])⟩,
    ⟨(some 2), 0, none, (.op (.mov (.t 6)))⟩])
  (.ret))
theorem cc34 : Try.f34.body.bind (compC Try.prog) = some ac34 := by kernel_rfl
theorem go34 {vals : List V} {v : V} (ac : AC) (he : ac.erase = ac34) (hw : wpC Try.prog 0 ac (retQ [.tmp 2] v) ⟨vals ++ List.replicate (7 - vals.length) (.tup []), []⟩) : CallP Try.prog 34 vals v :=
  call_of Try.func34 rfl rfl rfl (cc34.trans (congrArg some he.symm)) hw

/-- testbench/testbenchref02.Neg -/
def ac35 : AC :=
  .seq (.reg 0 [⟨(some 2), 0, none, (.op (.mov (.k (.d (.int .i64 0)))))⟩])
  (.seq (.reg 0 [⟨(some 3), 0, none, (.op (.mov (.t 0)))⟩,
    ⟨(some 4), 0, none, (.call (.k (.fn (.func 11) [] [])) [(.t 3)])⟩,
    ⟨(some 5), 0, none, (.op (.bin .sub (.k (.d (.int .i64 0))) (.t 4)))⟩,
    ⟨(some 6), 0, none, (.call (.k (.fn (.func 11) [] [])) [(.t 5)])⟩,
    ⟨(some 2), 0, none, (.op (.mov (.t 6)))⟩])
  (.ret))
theorem cc35 : Try.f35.body.bind (compC Try.prog) = some ac35 := by kernel_rfl
theorem go35 {vals : List V} {v : V} (ac : AC) (he : ac.erase = ac35) (hw : wpC Try.prog 0 ac (retQ [.tmp 2] v) ⟨vals ++ List.replicate (7 - vals.length) (.tup []), []⟩) : CallP Try.prog 35 vals v :=
  call_of Try.func35 rfl rfl rfl (cc35.trans (congrArg some he.symm)) hw

/-- testbench/testbenchref02.Inv -/
def ac36 : AC :=
  .seq (.reg 0 [⟨(some 2), 0, none, (.op (.mov (.k (.d (.int .i64 0)))))⟩])
  (.seq (.reg 0 [⟨(some 3), 0, none, (.op (.mov (.t 0)))⟩,
    ⟨(some 4), 0, none, (.call (.k (.fn (.func 11) [] [])) [(.t 3)])⟩,
    ⟨(some 5), 0, none, (.op (.bin .sub (.k (.d (.int .i64 65535))) (.t 4)))⟩,
    ⟨(some 2), 0, none, (.op (.mov (.t 5)))⟩])
  (.ret))
theorem cc36 : Try.f36.body.bind (compC Try.prog) = some ac36 := by kernel_rfl
theorem go36 {vals : List V} {v : V} (ac : AC) (he : ac.erase = ac36) (hw : wpC Try.prog 0 ac (retQ [.tmp 2] v) ⟨vals ++ List.replicate (6 - vals.length) (.tup []), []⟩) : CallP Try.prog 36 vals v :=
  call_of Try.func36 rfl rfl rfl (cc36.trans (congrArg some he.symm)) hw

/-- testbench/word.of -/
def ac37 : AC :=
  .seq (.reg 0 [⟨(some 2), 0, none, (.op (.mov (.k (.d (.int .u16 0)))))⟩])
  (.seq (.reg 0 [⟨(some 3), 0, none, (.op (.mov (.t 0)))⟩,
    ⟨(some 4), 0, none, (.op (.bin .and (.t 3) (.k (.d (.int .i64 65535)))))⟩,
    ⟨(some 5), 0, none, (.op (.conv .u16 (.t 4)))⟩,
    ⟨(some 2), 0, none, (.op (.mov (.t 5)))⟩])
  (.ret))
theorem cc37 : Try.f37.body.bind (compC Try.prog) = some ac37 := by kernel_rfl
theorem go37 {vals : List V} {v : V} (ac : AC) (he : ac.erase = ac37) (hw : wpC Try.prog 0 ac (retQ [.tmp 2] v) ⟨vals ++ List.replicate (6 - vals.length) (.tup []), []⟩) : CallP Try.prog 37 vals v :=
  call_of Try.func37 rfl rfl rfl (cc37.trans (congrArg some he.symm)) hw

/-- (testbench/word.word).value -/
def ac38 : AC :=
  .seq (.reg 0 [⟨(some 2), 0, none, (.op (.mov (.k (.d (.int .i64 0)))))⟩])
  (.seq (.reg 0 [⟨(some 3), 0, none, (.op (.mov (.t 0)))⟩,
    ⟨(some 4), 0, none, (.op (.conv .i64 (.t 3)))⟩,
    ⟨(some 2), 0, none, (.op (.mov (.t 4)))⟩])
  (.ret))
theorem cc38 : Try.f38.body.bind (compC Try.prog) = some ac38 := by kernel_rfl
theorem go38 {vals : List V} {v : V} (ac : AC) (he : ac.erase = ac38) (hw : wpC Try.prog 0 ac (retQ [.tmp 2] v) ⟨vals ++ List.replicate (5 - vals.length) (.tup []), []⟩) : CallP Try.prog 38 vals v :=
  call_of Try.func38 rfl rfl rfl (cc38.trans (congrArg some he.symm)) hw

/-- testbench/testbenchref02.power -/
def ac39 : AC :=
  .seq (.reg 0 [⟨(some 2), 0, none, (.op (.mov (.k (.d (.int .i64 0)))))⟩])
  (.seq (.reg 0 [⟨(some 3), 0, none, (.op (.mov (.k (.d (.int .i64 1)))))⟩])
  (.seq (.seq (.reg 0 [⟨(some 4), 0, none, (.op (.mov (.k (.d (.int .i64 0)))))⟩])
  (.block 0
   (.loop
    (.seq (.seq (.reg 0 [⟨(some 5), 0, none, (.op (.mov (.t 4)))⟩,
      ⟨(some 6), 0, none, (.op (.mov (.t 0)))⟩,
      ⟨(some 7), 0, none, (.op (.bin .lss (.t 5) (.t 6)))⟩])
    (.cond (.t 7)
      (.skip)
      (.exit 0)))
    (.seq (.block 1
     (.reg 0 [⟨(some 10), 0, none, (.op (.mov (.t 3)))⟩,
       ⟨(some 11), 0, none, (.op (.bin .mul (.k (.d (.int .i64 2))) (.t 10)))⟩,
       ⟨(some 3), 0, none, (.op (.mov (.t 11)))⟩]))
    (.reg 0 [⟨(some 8), 0, none, (.op (.mov (.t 4)))⟩,
      ⟨(some 9), 0, none, (.op (.bin .add (.t 8) (.k (.d (.int .i64 1)))))⟩,
      ⟨(some 4), 0, none, (.op (.mov (.t 9)))⟩]))))))
  (.seq (.reg 0 [⟨(some 12), 0, none, (.op (.mov (.t 3)))⟩,
    ⟨(some 2), 0, none, (.op (.mov (.t 12)))⟩])
  (.ret))))
theorem cc39 : Try.f39.body.bind (compC Try.prog) = some ac39 := by kernel_rfl
theorem go39 {vals : List V} {v : V} (ac : AC) (he : ac.erase = ac39) (hw : wpC Try.prog 0 ac (retQ [.tmp 2] v) ⟨vals ++ List.replicate (13 - vals.length) (.tup []), []⟩) : CallP Try.prog 39 vals v :=
  call_of Try.func39 rfl rfl rfl (cc39.trans (congrArg some he.symm)) hw

def lit0 : List UInt8 := [0, 128, 64, 192, 32, 160, 96, 224, 16, 144, 80, 208, 48, 176, 112, 240, 8, 136, 72, 200, 40, 168, 104, 232, 24, 152, 88, 216, 56, 184, 120, 248, 4, 132, 68, 196, 36, 164, 100, 228, 20, 148, 84, 212, 52, 180, 116, 244, 12, 140, 76, 204, 44, 172, 108, 236, 28, 156, 92, 220, 60, 188, 124, 252, 2, 130, 66, 194, 34, 162, 98, 226, 18, 146, 82, 210, 50, 178, 114, 242, 10, 138, 74, 202, 42, 170, 106, 234, 26, 154, 90, 218, 58, 186, 122, 250, 6, 134, 70, 198, 38, 166, 102, 230, 22, 150, 86, 214, 54, 182, 118, 246, 14, 142, 78, 206, 46, 174, 110, 238, 30, 158, 94, 222, 62, 190, 126, 254, 1, 129, 65, 193, 33, 161, 97, 225, 17, 145, 81, 209, 49, 177, 113, 241, 9, 137, 73, 201, 41, 169, 105, 233, 25, 153, 89, 217, 57, 185, 121, 249, 5, 133, 69, 197, 37, 165, 101, 229, 21, 149, 85, 213, 53, 181, 117, 245, 13, 141, 77, 205, 45, 173, 109, 237, 29, 157, 93, 221, 61, 189, 125, 253, 3, 131, 67, 195, 35, 163, 99, 227, 19, 147, 83, 211, 51, 179, 115, 243, 11, 139, 75, 203, 43, 171, 107, 235, 27, 155, 91, 219, 59, 187, 123, 251, 7, 135, 71, 199, 39, 167, 103, 231, 23, 151, 87, 215, 55, 183, 119, 247, 15, 143, 79, 207, 47, 175, 111, 239, 31, 159, 95, 223, 63, 191, 127, 255]
/-- math/bits.Reverse16 -/
def ac40 : AC :=
  .seq (.reg 0 [⟨(some 2), 0, none, (.op (.mov (.k (.d (.int .u16 0)))))⟩])
  (.seq (.regD 0 [(⟨(some 3), 0, none, (.op (.mov (.t 0)))⟩, []),
    (⟨(some 4), 0, none, (.op (.bin .shr (.t 3) (.k (.d (.int .u64 8)))))⟩, [0]),
    (⟨(some 5), 0, none, (.op (.idxS (.k (.d (.str lit0))) (.t 4)))⟩, [1, 0]),
    (⟨(some 6), 0, none, (.op (.conv .u16 (.t 5)))⟩, [2, 1, 0]),
    (⟨(some 7), 0, none, (.op (.mov (.t 0)))⟩, []),
    (⟨(some 8), 0, none, (.op (.bin .and (.t 7) (.k (.d (.int .u16 255)))))⟩, [4]),
    (⟨(some 9), 0, none, (.op (.idxS (.k (.d (.str lit0))) (.t 8)))⟩, [5, 4]),
    (⟨(some 10), 0, none, (.op (.conv .u16 (.t 9)))⟩, [6, 5, 4]),
    (⟨(some 11), 0, none, (.op (.bin .shl (.t 10) (.k (.d (.int .u64 8)))))⟩, [7, 6, 5, 4]),
    (⟨(some 12), 0, none, (.op (.bin .or (.t 6) (.t 11)))⟩, [3, 2, 1, 0, 8, 7, 6, 5, 4]),
    (⟨(some 2), 0, none, (.op (.mov (.t 12)))⟩, [9, 3, 2, 1, 0, 8, 7, 6, 5, 4])])
  (.ret))
theorem cc40 : Try.f40.body.bind (compC Try.prog) = some ac40 := by kernel_rfl
theorem go40 {vals : List V} {v : V} (ac : AC) (he : ac.erase = ac40) (hw : wpC Try.prog 0 ac (retQ [.tmp 2] v) ⟨vals ++ List.replicate (13 - vals.length) (.tup []), []⟩) : CallP Try.prog 40 vals v :=
  call_of Try.func40 rfl rfl rfl (cc40.trans (congrArg some he.symm)) hw

def lit1 : List UInt8 := [0, 1, 1, 2, 1, 2, 2, 3, 1, 2, 2, 3, 2, 3, 3, 4, 1, 2, 2, 3, 2, 3, 3, 4, 2, 3, 3, 4, 3, 4, 4, 5, 1, 2, 2, 3, 2, 3, 3, 4, 2, 3, 3, 4, 3, 4, 4, 5, 2, 3, 3, 4, 3, 4, 4, 5, 3, 4, 4, 5, 4, 5, 5, 6, 1, 2, 2, 3, 2, 3, 3, 4, 2, 3, 3, 4, 3, 4, 4, 5, 2, 3, 3, 4, 3, 4, 4, 5, 3, 4, 4, 5, 4, 5, 5, 6, 2, 3, 3, 4, 3, 4, 4, 5, 3, 4, 4, 5, 4, 5, 5, 6, 3, 4, 4, 5, 4, 5, 5, 6, 4, 5, 5, 6, 5, 6, 6, 7, 1, 2, 2, 3, 2, 3, 3, 4, 2, 3, 3, 4, 3, 4, 4, 5, 2, 3, 3, 4, 3, 4, 4, 5, 3, 4, 4, 5, 4, 5, 5, 6, 2, 3, 3, 4, 3, 4, 4, 5, 3, 4, 4, 5, 4, 5, 5, 6, 3, 4, 4, 5, 4, 5, 5, 6, 4, 5, 5, 6, 5, 6, 6, 7, 2, 3, 3, 4, 3, 4, 4, 5, 3, 4, 4, 5, 4, 5, 5, 6, 3, 4, 4, 5, 4, 5, 5, 6, 4, 5, 5, 6, 5, 6, 6, 7, 3, 4, 4, 5, 4, 5, 5, 6, 4, 5, 5, 6, 5, 6, 6, 7, 4, 5, 5, 6, 5, 6, 6, 7, 5, 6, 6, 7, 6, 7, 7, 8]
/-- math/bits.OnesCount16 -/
def ac41 : AC :=
  .seq (.reg 0 [⟨(some 2), 0, none, (.op (.mov (.k (.d (.int .i64 0)))))⟩])
  (.seq (.regD 0 [(⟨(some 3), 0, none, (.op (.mov (.t 0)))⟩, []),
    (⟨(some 4), 0, none, (.op (.bin .shr (.t 3) (.k (.d (.int .u64 8)))))⟩, [0]),
    (⟨(some 5), 0, none, (.op (.idxS (.k (.d (.str lit1))) (.t 4)))⟩, [1, 0]),
    (⟨(some 6), 0, none, (.op (.mov (.t 0)))⟩, []),
    (⟨(some 7), 0, none, (.op (.bin .and (.t 6) (.k (.d (.int .u16 255)))))⟩, [3]),
    (⟨(some 8), 0, none, (.op (.idxS (.k (.d (.str lit1))) (.t 7)))⟩, [4, 3]),
    (⟨(some 9), 0, none, (.op (.bin .add (.t 5) (.t 8)))⟩, [2, 1, 0, 5, 4, 3]),
    (⟨(some 10), 0, none, (.op (.conv .i64 (.t 9)))⟩, [6, 2, 1, 0, 5, 4, 3]),
    (⟨(some 2), 0, none, (.op (.mov (.t 10)))⟩, [7, 6, 2, 1, 0, 5, 4, 3])])
  (.ret))
theorem cc41 : Try.f41.body.bind (compC Try.prog) = some ac41 := by kernel_rfl
theorem go41 {vals : List V} {v : V} (ac : AC) (he : ac.erase = ac41) (hw : wpC Try.prog 0 ac (retQ [.tmp 2] v) ⟨vals ++ List.replicate (11 - vals.length) (.tup []), []⟩) : CallP Try.prog 41 vals v :=
  call_of Try.func41 rfl rfl rfl (cc41.trans (congrArg some he.symm)) hw

/-- testbench/word.shift -/
def ac42 : AC :=
  .seq (.reg 0 [⟨(some 4), 0, none, (.op (.mov (.k (.d (.int .i64 0)))))⟩])
  (.seq (.seq (.reg 0 [⟨(some 5), 0, none, (.op (.mov (.t 1)))⟩,
    ⟨(some 6), 0, none, (.op (.bin .lss (.t 5) (.k (.d (.int .i64 0)))))⟩,
    ⟨(some 7), 0, none, (.op (.mov (.t 6)))⟩,
    ⟨(some 8), 0, (some (7, false)), (.op (.mov (.t 1)))⟩,
    ⟨(some 9), 0, (some (7, false)), (.op (.bin .geq (.t 8) (.k (.d (.int .i64 16)))))⟩,
    ⟨(some 10), 0, none, (.op (.pick (.t 7) (.k (.d (.bool true))) (.t 9)))⟩])
  (.cond (.t 10)
    (.seq (.reg 0 [⟨(some 4), 0, none, (.op (.mov (.k (.d (.int .i64 0)))))⟩])
    (.ret))
    (.skip)))
  (.seq (.reg 0 [⟨(some 11), 0, none, (.op (.mov (.t 0)))⟩,
    ⟨(some 12), 0, none, (.op (.mov (.t 1)))⟩,
    ⟨(some 13), 0, none, (.call (.t 11) [(.t 12)])⟩,
    ⟨(some 14), 0, none, (.call (.k (.fn (.func 38) [] [])) [(.t 13)])⟩,
    ⟨(some 4), 0, none, (.op (.mov (.t 14)))⟩])
  (.ret)))
theorem cc42 : Try.f42.body.bind (compC Try.prog) = some ac42 := by kernel_rfl
theorem go42 {vals : List V} {v : V} (ac : AC) (he : ac.erase = ac42) (hw : wpC Try.prog 0 ac (retQ [.tmp 4] v) ⟨vals ++ List.replicate (15 - vals.length) (.tup []), []⟩) : CallP Try.prog 42 vals v :=
  call_of Try.func42 rfl rfl rfl (cc42.trans (congrArg some he.symm)) hw

/-- (testbench/word.word).shl -/
def ac43 : AC :=
  .seq (.reg 0 [⟨(some 4), 0, none, (.op (.mov (.k (.d (.int .u16 0)))))⟩])
  (.seq (.reg 0 [⟨(some 5), 0, none, (.op (.mov (.t 0)))⟩,
    ⟨(some 6), 0, none, (.op (.mov (.t 1)))⟩,
    ⟨(some 7), 0, none, (.op (.bin .shl (.t 5) (.t 6)))⟩,
    ⟨(some 4), 0, none, (.op (.mov (.t 7)))⟩])
  (.ret))
theorem cc43 : Try.f43.body.bind (compC Try.prog) = some ac43 := by kernel_rfl
theorem go43 {vals : List V} {v : V} (ac : AC) (he : ac.erase = ac43) (hw : wpC Try.prog 0 ac (retQ [.tmp 4] v) ⟨vals ++ List.replicate (8 - vals.length) (.tup []), []⟩) : CallP Try.prog 43 vals v :=
  call_of Try.func43 rfl rfl rfl (cc43.trans (congrArg some he.symm)) hw

/-- (testbench/word.word).shr -/
def ac44 : AC :=
  .seq (.reg 0 [⟨(some 4), 0, none, (.op (.mov (.k (.d (.int .u16 0)))))⟩])
  (.seq (.reg 0 [⟨(some 5), 0, none, (.op (.mov (.t 0)))⟩,
    ⟨(some 6), 0, none, (.op (.mov (.t 1)))⟩,
    ⟨(some 7), 0, none, (.op (.bin .shr (.t 5) (.t 6)))⟩,
    ⟨(some 4), 0, none, (.op (.mov (.t 7)))⟩])
  (.ret))
theorem cc44 : Try.f44.body.bind (compC Try.prog) = some ac44 := by kernel_rfl
theorem go44 {vals : List V} {v : V} (ac : AC) (he : ac.erase = ac44) (hw : wpC Try.prog 0 ac (retQ [.tmp 4] v) ⟨vals ++ List.replicate (8 - vals.length) (.tup []), []⟩) : CallP Try.prog 44 vals v :=
  call_of Try.func44 rfl rfl rfl (cc44.trans (congrArg some he.symm)) hw

/-- testbench/word.two -/
def ac45 : AC :=
  .seq (.reg 0 [⟨(some 4), 0, none, (.op (.mov (.k (.d (.int .i64 0)))))⟩])
  (.seq (.reg 0 [⟨(some 5), 0, none, (.op (.mov (.t 0)))⟩,
    ⟨(some 6), 0, none, (.op (.mov (.t 1)))⟩,
    ⟨(some 7), 0, none, (.call (.k (.fn (.func 37) [] [])) [(.t 6)])⟩,
    ⟨(some 8), 0, none, (.call (.t 5) [(.t 7)])⟩,
    ⟨(some 9), 0, none, (.call (.k (.fn (.func 38) [] [])) [(.t 8)])⟩,
    ⟨(some 4), 0, none, (.op (.mov (.t 9)))⟩])
  (.ret))
theorem cc45 : Try.f45.body.bind (compC Try.prog) = some ac45 := by kernel_rfl
theorem go45 {vals : List V} {v : V} (ac : AC) (he : ac.erase = ac45) (hw : wpC Try.prog 0 ac (retQ [.tmp 4] v) ⟨vals ++ List.replicate (10 - vals.length) (.tup []), []⟩) : CallP Try.prog 45 vals v :=
  call_of Try.func45 rfl rfl rfl (cc45.trans (congrArg some he.symm)) hw

/-- (testbench/word.word).mul -/
def ac46 : AC :=
  .seq (.reg 0 [⟨(some 4), 0, none, (.op (.mov (.k (.d (.int .u16 0)))))⟩])
  (.seq (.reg 0 [⟨(some 5), 0, none, (.op (.mov (.t 0)))⟩,
    ⟨(some 6), 0, none, (.op (.mov (.t 1)))⟩,
    ⟨(some 7), 0, none, (.op (.bin .mul (.t 5) (.t 6)))⟩,
    ⟨(some 4), 0, none, (.op (.mov (.t 7)))⟩])
  (.ret))
theorem cc46 : Try.f46.body.bind (compC Try.prog) = some ac46 := by kernel_rfl
theorem go46 {vals : List V} {v : V} (ac : AC) (he : ac.erase = ac46) (hw : wpC Try.prog 0 ac (retQ [.tmp 4] v) ⟨vals ++ List.replicate (8 - vals.length) (.tup []), []⟩) : CallP Try.prog 46 vals v :=
  call_of Try.func46 rfl rfl rfl (cc46.trans (congrArg some he.symm)) hw

/-- testbench/word.one -/
def ac47 : AC :=
  .seq (.reg 0 [⟨(some 2), 0, none, (.op (.mov (.k (.d (.int .i64 0)))))⟩])
  (.seq (.reg 0 [⟨(some 3), 0, none, (.op (.mov (.t 0)))⟩,
    ⟨(some 4), 0, none, (.call (.t 3) [])⟩,
    ⟨(some 5), 0, none, (.call (.k (.fn (.func 38) [] [])) [(.t 4)])⟩,
    ⟨(some 2), 0, none, (.op (.mov (.t 5)))⟩])
  (.ret))
theorem cc47 : Try.f47.body.bind (compC Try.prog) = some ac47 := by kernel_rfl
theorem go47 {vals : List V} {v : V} (ac : AC) (he : ac.erase = ac47) (hw : wpC Try.prog 0 ac (retQ [.tmp 2] v) ⟨vals ++ List.replicate (6 - vals.length) (.tup []), []⟩) : CallP Try.prog 47 vals v :=
  call_of Try.func47 rfl rfl rfl (cc47.trans (congrArg some he.symm)) hw

/-- (testbench/word.word).inv -/
def ac48 : AC :=
  .seq (.reg 0 [⟨(some 2), 0, none, (.op (.mov (.k (.d (.int .u16 0)))))⟩])
  (.seq (.reg 0 [⟨(some 3), 0, none, (.op (.mov (.t 0)))⟩,
    ⟨(some 4), 0, none, (.op (.un .xor (.t 3)))⟩,
    ⟨(some 2), 0, none, (.op (.mov (.t 4)))⟩])
  (.ret))
theorem cc48 : Try.f48.body.bind (compC Try.prog) = some ac48 := by kernel_rfl
theorem go48 {vals : List V} {v : V} (ac : AC) (he : ac.erase = ac48) (hw : wpC Try.prog 0 ac (retQ [.tmp 2] v) ⟨vals ++ List.replicate (5 - vals.length) (.tup []), []⟩) : CallP Try.prog 48 vals v :=
  call_of Try.func48 rfl rfl rfl (cc48.trans (congrArg some he.symm)) hw

/-- (testbench/word.word).add -/
def ac49 : AC :=
  .seq (.reg 0 [⟨(some 4), 0, none, (.op (.mov (.k (.d (.int .u16 0)))))⟩])
  (.seq (.reg 0 [⟨(some 5), 0, none, (.op (.mov (.t 0)))⟩,
    ⟨(some 6), 0, none, (.op (.mov (.t 1)))⟩,
    ⟨(some 7), 0, none, (.op (.bin .add (.t 5) (.t 6)))⟩,
    ⟨(some 4), 0, none, (.op (.mov (.t 7)))⟩])
  (.ret))
theorem cc49 : Try.f49.body.bind (compC Try.prog) = some ac49 := by kernel_rfl
theorem go49 {vals : List V} {v : V} (ac : AC) (he : ac.erase = ac49) (hw : wpC Try.prog 0 ac (retQ [.tmp 4] v) ⟨vals ++ List.replicate (8 - vals.length) (.tup []), []⟩) : CallP Try.prog 49 vals v :=
  call_of Try.func49 rfl rfl rfl (cc49.trans (congrArg some he.symm)) hw

/-- (testbench/word.word).sub -/
def ac50 : AC :=
  .seq (.reg 0 [⟨(some 4), 0, none, (.op (.mov (.k (.d (.int .u16 0)))))⟩])
  (.seq (.reg 0 [⟨(some 5), 0, none, (.op (.mov (.t 0)))⟩,
    ⟨(some 6), 0, none, (.op (.mov (.t 1)))⟩,
    ⟨(some 7), 0, none, (.op (.bin .sub (.t 5) (.t 6)))⟩,
    ⟨(some 4), 0, none, (.op (.mov (.t 7)))⟩])
  (.ret))
theorem cc50 : Try.f50.body.bind (compC Try.prog) = some ac50 := by kernel_rfl
theorem go50 {vals : List V} {v : V} (ac : AC) (he : ac.erase = ac50) (hw : wpC Try.prog 0 ac (retQ [.tmp 4] v) ⟨vals ++ List.replicate (8 - vals.length) (.tup []), []⟩) : CallP Try.prog 50 vals v :=
  call_of Try.func50 rfl rfl rfl (cc50.trans (congrArg some he.symm)) hw

/-- (testbench/word.word).neg -/
def ac51 : AC :=
  .seq (.reg 0 [⟨(some 2), 0, none, (.op (.mov (.k (.d (.int .u16 0)))))⟩])
  (.seq (.reg 0 [⟨(some 3), 0, none, (.op (.mov (.t 0)))⟩,
    ⟨(some 4), 0, none, (.op (.un .neg (.t 3)))⟩,
    ⟨(some 2), 0, none, (.op (.mov (.t 4)))⟩])
  (.ret))
theorem cc51 : Try.f51.body.bind (compC Try.prog) = some ac51 := by kernel_rfl
theorem go51 {vals : List V} {v : V} (ac : AC) (he : ac.erase = ac51) (hw : wpC Try.prog 0 ac (retQ [.tmp 2] v) ⟨vals ++ List.replicate (5 - vals.length) (.tup []), []⟩) : CallP Try.prog 51 vals v :=
  call_of Try.func51 rfl rfl rfl (cc51.trans (congrArg some he.symm)) hw

end Go.Proofs.Tl
