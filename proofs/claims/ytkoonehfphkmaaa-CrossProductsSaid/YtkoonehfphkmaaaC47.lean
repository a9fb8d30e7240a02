import Derived.Test.YtkoonehfphkmaaaVxEv2
import Derived.KernelRfl
import Derived.Test.YtkoonehfphkmaaaProg
set_option linter.unusedSimpArgs false
set_option linter.unusedVariables false
namespace Go.Proofs.Cr
open Go.Vx

/-- testbench/testbenchlaw47.CrossSizes -/
def ac3 : AC :=
  .seq (.reg 1 [⟨(some 3), 0, none, (.op (.box 2 (.t 0)))⟩,
    ⟨(some 6), 1, none, (.op (.mov (.k (.d (.bool false)))))⟩])
  (.seq (.seq (.reg 0 [⟨(some 11), 0, none, (.op (.load true 2 (.t 3)))⟩,
    ⟨(some 12), 0, none, (.call (.k (.fn (.func 9) [] [])) [(.t 11)])⟩,
    ⟨(some 13), 0, none, (.op (.un .not (.t 12)))⟩])
  (.cond (.t 13)
    (.seq (.reg 0 [⟨(some 14), 0, none, (.call (.k (.fn (.func 10) [] [])) [])⟩,
      ⟨(some 6), 0, none, (.op (.mov (.t 14)))⟩])
    (.ret))
    (.skip)))
  (.seq (.reg 0 [⟨(some 16), 0, none, (.op (.load true 2 (.t 3)))⟩,
    ⟨(some 17), 0, none, (.op (.mov (.t 1)))⟩,
    ⟨(some 18), 0, none, (.op (.mov (.t 2)))⟩,
    ⟨(some 19), 0, none, (.call (.k (.fn (.func 11) [] [])) [(.t 16), (.t 17), (.t 18)])⟩,
    ⟨(some 15), 0, none, (.op (.mov (.t 19)))⟩,
    ⟨(some 20), 0, none, (.op (.ext (.t 15) 0))⟩,
    ⟨(some 21), 0, none, (.op (.ext (.t 15) 1))⟩,
    ⟨(some 7), 0, none, (.op (.mov (.t 20)))⟩,
    ⟨(some 8), 0, none, (.op (.mov (.t 21)))⟩])
  (.seq (.reg 0 [⟨(some 23), 0, none, (.op (.load true 2 (.t 3)))⟩,
    ⟨(some 24), 0, none, (.op (.mov (.t 1)))⟩,
    ⟨(some 25), 0, none, (.op (.mov (.t 2)))⟩,
    ⟨(some 26), 0, none, (.call (.k (.fn (.func 12) [] [])) [(.t 23), (.t 24), (.t 25)])⟩,
    ⟨(some 22), 0, none, (.op (.mov (.t 26)))⟩,
    ⟨(some 27), 0, none, (.op (.ext (.t 22) 0))⟩,
    ⟨(some 28), 0, none, (.op (.ext (.t 22) 1))⟩,
    ⟨(some 9), 0, none, (.op (.mov (.t 27)))⟩,
    ⟨(some 10), 0, none, (.op (.mov (.t 28)))⟩])
  (.seq (.regD 0 [(⟨(some 29), 0, none, (.op (.load true 2 (.t 3)))⟩, []),
    (⟨(some 30), 0, none, (.op (.mov (.t 1)))⟩, []),
    (⟨(some 31), 0, none, (.call (.k (.fn (.func 13) [] [])) [(.t 29), (.t 30)])⟩, [0, 1]),
    (⟨(some 32), 0, none, (.op (.load true 2 (.t 3)))⟩, []),
    (⟨(some 33), 0, none, (.op (.mov (.t 1)))⟩, []),
    (⟨(some 34), 0, none, (.call (.k (.fn (.func 14) [] [])) [(.t 32), (.t 33)])⟩, [3, 4, 2, 0, 1]),
    (⟨(some 35), 0, none, (.op (.bin .eql (.t 31) (.t 34)))⟩, [2, 0, 1, 5, 3, 4]),
    (⟨(some 36), 0, none, (.op (.mov (.t 35)))⟩, [6, 2, 0, 1, 5, 3, 4]),
    (⟨(some 37), 0, (some (36, true)), (.op (.mov (.t 8)))⟩, [7, 6, 2, 0, 1, 5, 3, 4]),
    (⟨(some 38), 0, (some (36, true)), (.op (.mov (.t 10)))⟩, [7, 6, 2, 0, 1, 5, 3, 4]),
    (⟨(some 39), 0, (some (36, true)), (.op (.eqB false (.t 37) (.t 38)))⟩, [8, 7, 6, 2, 0, 1, 5, 3, 4, 9]),
    (⟨(some 40), 0, none, (.op (.pick (.t 36) (.t 39) (.k (.d (.bool false)))))⟩, [7, 6, 2, 0, 1, 5, 3, 4, 10, 8, 9]),
    (⟨(some 41), 0, none, (.op (.mov (.t 40)))⟩, [11, 7, 6, 2, 0, 1, 5, 3, 4, 10, 8, 9]),
    (⟨(some 42), 0, (some (41, true)), (.op (.mov (.t 7)))⟩, [12, 11, 7, 6, 2, 0, 1, 5, 3, 4, 10, 8, 9]),
    (⟨(some 43), 0, (some (41, true)), (.op (.mov (.t 9)))⟩, [12, 11, 7, 6, 2, 0, 1, 5, 3, 4, 10, 8, 9]),
    (⟨(some 44), 0, (some (41, true)), (.call (.k (.fn (.func 15) [] [])) [(.t 42), (.t 43)])⟩, [13, 12, 11, 7, 6, 2, 0, 1, 5, 3, 4, 10, 8, 9, 14]),
    (⟨(some 45), 0, none, (.op (.pick (.t 41) (.t 44) (.k (.d (.bool false)))))⟩, [12, 11, 7, 6, 2, 0, 1, 5, 3, 4, 10, 8, 9, 15, 13, 14]),
    (⟨(some 46), 0, none, (.op (.mov (.t 45)))⟩, [16, 12, 11, 7, 6, 2, 0, 1, 5, 3, 4, 10, 8, 9, 15, 13, 14]),
    (⟨(some 47), 0, (some (46, true)), (.call (.k (.fn (.func 10) [] [])) [])⟩, [17, 16, 12, 11, 7, 6, 2, 0, 1, 5, 3, 4, 10, 8, 9, 15, 13, 14]),
    (⟨(some 48), 0, none, (.op (.pick (.t 46) (.t 47) (.k (.d (.bool false)))))⟩, [17, 16, 12, 11, 7, 6, 2, 0, 1, 5, 3, 4, 10, 8, 9, 15, 13, 14, 18]),
    (⟨(some 6), 0, none, (.op (.mov (.t 48)))⟩, [19, 17, 16, 12, 11, 7, 6, 2, 0, 1, 5, 3, 4, 10, 8, 9, 15, 13, 14, 18])])
  (.ret)))))
theorem cc3 : Try.f3.body.bind (compC Try.prog) = some ac3 := by kernel_rfl
theorem go3 {vals : List V} {v : V} (ac : AC) (he : ac.erase = ac3) (hw : wpC Try.prog 0 ac (retQ [.tmp 6] v) ⟨vals ++ List.replicate (49 - vals.length) (.tup []), []⟩) : CallP Try.prog 3 vals v :=
  call_of Try.func3 rfl rfl rfl (cc3.trans (congrArg some he.symm)) hw
theorem gi3 {vals : List V} {rows : Go.Vx.Rows} {K : V → Go.Vx.Rows → Prop} (ac : AC) (he : ac.erase = ac3) (hw : wpC Try.prog rows.length ac (retI [.tmp 6] K) ⟨vals ++ List.replicate (49 - vals.length) (.tup []), rows⟩) : InlP Try.prog 3 vals rows K :=
  inl_of' Try.func3 rfl rfl rfl (cc3.trans (congrArg some he.symm)) hw
theorem gm3 {vals : List V} {v : V} {sz : Nat} {es es' : List (List V)} (ac : AC) (he : ac.erase = ac3) (hw : wpC Try.prog 1 ac (retM [.tmp 6] v sz es') ⟨vals ++ List.replicate (49 - vals.length) (.tup []), [.live sz es]⟩) : CallM Try.prog 3 vals sz es v es' :=
  callM_of' Try.func3 rfl rfl rfl (cc3.trans (congrArg some he.symm)) hw

/-- testbench/testbenchlaw47.CrossNumbers -/
def ac4 : AC :=
  .seq (.reg 1 [⟨(some 3), 0, none, (.op (.box 2 (.t 0)))⟩,
    ⟨(some 6), 1, none, (.op (.mov (.k (.d (.bool false)))))⟩])
  (.seq (.seq (.reg 0 [⟨(some 11), 0, none, (.op (.load true 2 (.t 3)))⟩,
    ⟨(some 12), 0, none, (.call (.k (.fn (.func 9) [] [])) [(.t 11)])⟩,
    ⟨(some 13), 0, none, (.op (.un .not (.t 12)))⟩,
    ⟨(some 14), 0, none, (.op (.mov (.t 13)))⟩,
    ⟨(some 15), 0, (some (14, false)), (.op (.mov (.t 2)))⟩,
    ⟨(some 16), 0, (some (14, false)), (.op (.len false (.t 15)))⟩,
    ⟨(some 17), 0, (some (14, false)), (.op (.bin .gtr (.t 16) (.k (.d (.int .i64 20)))))⟩,
    ⟨(some 18), 0, none, (.op (.pick (.t 14) (.k (.d (.bool true))) (.t 17)))⟩])
  (.cond (.t 18)
    (.seq (.reg 0 [⟨(some 19), 0, none, (.call (.k (.fn (.func 10) [] [])) [])⟩,
      ⟨(some 6), 0, none, (.op (.mov (.t 19)))⟩])
    (.ret))
    (.skip)))
  (.seq (.reg 0 [⟨(some 21), 0, none, (.op (.load true 2 (.t 3)))⟩,
    ⟨(some 22), 0, none, (.op (.mov (.t 1)))⟩,
    ⟨(some 23), 0, none, (.op (.mov (.t 2)))⟩,
    ⟨(some 24), 0, none, (.call (.k (.fn (.func 16) [] [])) [(.t 21), (.t 22), (.t 23)])⟩,
    ⟨(some 20), 0, none, (.op (.mov (.t 24)))⟩,
    ⟨(some 25), 0, none, (.op (.ext (.t 20) 0))⟩,
    ⟨(some 26), 0, none, (.op (.ext (.t 20) 1))⟩,
    ⟨(some 7), 0, none, (.op (.mov (.t 25)))⟩,
    ⟨(some 8), 0, none, (.op (.mov (.t 26)))⟩])
  (.seq (.reg 0 [⟨(some 28), 0, none, (.op (.load true 2 (.t 3)))⟩,
    ⟨(some 29), 0, none, (.op (.mov (.t 1)))⟩,
    ⟨(some 30), 0, none, (.op (.mov (.t 2)))⟩,
    ⟨(some 31), 0, none, (.call (.k (.fn (.func 17) [] [])) [(.t 28), (.t 29), (.t 30)])⟩,
    ⟨(some 27), 0, none, (.op (.mov (.t 31)))⟩,
    ⟨(some 32), 0, none, (.op (.ext (.t 27) 0))⟩,
    ⟨(some 33), 0, none, (.op (.ext (.t 27) 1))⟩,
    ⟨(some 9), 0, none, (.op (.mov (.t 32)))⟩,
    ⟨(some 10), 0, none, (.op (.mov (.t 33)))⟩])
  (.seq (.regD 0 [(⟨(some 34), 0, none, (.op (.mov (.t 7)))⟩, []),
    (⟨(some 35), 0, none, (.op (.mov (.t 9)))⟩, []),
    (⟨(some 36), 0, none, (.op (.bin .eql (.t 34) (.t 35)))⟩, [0, 1]),
    (⟨(some 37), 0, none, (.op (.mov (.t 36)))⟩, [2, 0, 1]),
    (⟨(some 38), 0, (some (37, true)), (.op (.mov (.t 8)))⟩, [3, 2, 0, 1]),
    (⟨(some 39), 0, (some (37, true)), (.op (.mov (.t 10)))⟩, [3, 2, 0, 1]),
    (⟨(some 40), 0, (some (37, true)), (.op (.eqB false (.t 38) (.t 39)))⟩, [4, 3, 2, 0, 1, 5]),
    (⟨(some 41), 0, none, (.op (.pick (.t 37) (.t 40) (.k (.d (.bool false)))))⟩, [3, 2, 0, 1, 6, 4, 5]),
    (⟨(some 42), 0, none, (.op (.mov (.t 41)))⟩, [7, 3, 2, 0, 1, 6, 4, 5]),
    (⟨(some 43), 0, (some (42, true)), (.op (.load true 2 (.t 3)))⟩, [8, 7, 3, 2, 0, 1, 6, 4, 5]),
    (⟨(some 44), 0, (some (42, true)), (.op (.mov (.t 1)))⟩, [8, 7, 3, 2, 0, 1, 6, 4, 5]),
    (⟨(some 45), 0, (some (42, true)), (.op (.mov (.t 2)))⟩, [8, 7, 3, 2, 0, 1, 6, 4, 5]),
    (⟨(some 46), 0, (some (42, true)), (.call (.k (.fn (.func 18) [] [])) [(.t 43), (.t 44), (.t 45)])⟩, [9, 8, 7, 3, 2, 0, 1, 6, 4, 5, 10, 11]),
    (⟨(some 47), 0, (some (42, true)), (.op (.load true 2 (.t 3)))⟩, [8, 7, 3, 2, 0, 1, 6, 4, 5]),
    (⟨(some 48), 0, (some (42, true)), (.op (.mov (.t 1)))⟩, [8, 7, 3, 2, 0, 1, 6, 4, 5]),
    (⟨(some 49), 0, (some (42, true)), (.op (.mov (.t 2)))⟩, [8, 7, 3, 2, 0, 1, 6, 4, 5]),
    (⟨(some 50), 0, (some (42, true)), (.call (.k (.fn (.func 19) [] [])) [(.t 47), (.t 48), (.t 49)])⟩, [13, 8, 7, 3, 2, 0, 1, 6, 4, 5, 14, 15, 12, 9, 10, 11]),
    (⟨(some 51), 0, (some (42, true)), (.op (.eqB false (.t 46) (.t 50)))⟩, [12, 9, 8, 7, 3, 2, 0, 1, 6, 4, 5, 10, 11, 16, 13, 14, 15]),
    (⟨(some 52), 0, none, (.op (.pick (.t 42) (.t 51) (.k (.d (.bool false)))))⟩, [8, 7, 3, 2, 0, 1, 6, 4, 5, 17, 12, 9, 10, 11, 16, 13, 14, 15]),
    (⟨(some 53), 0, none, (.op (.mov (.t 52)))⟩, [18, 8, 7, 3, 2, 0, 1, 6, 4, 5, 17, 12, 9, 10, 11, 16, 13, 14, 15]),
    (⟨(some 54), 0, (some (53, true)), (.call (.k (.fn (.func 10) [] [])) [])⟩, [19, 18, 8, 7, 3, 2, 0, 1, 6, 4, 5, 17, 12, 9, 10, 11, 16, 13, 14, 15]),
    (⟨(some 55), 0, none, (.op (.pick (.t 53) (.t 54) (.k (.d (.bool false)))))⟩, [19, 18, 8, 7, 3, 2, 0, 1, 6, 4, 5, 17, 12, 9, 10, 11, 16, 13, 14, 15, 20]),
    (⟨(some 6), 0, none, (.op (.mov (.t 55)))⟩, [21, 19, 18, 8, 7, 3, 2, 0, 1, 6, 4, 5, 17, 12, 9, 10, 11, 16, 13, 14, 15, 20])])
  (.ret)))))
theorem cc4 : Try.f4.body.bind (compC Try.prog) = some ac4 := by kernel_rfl
theorem go4 {vals : List V} {v : V} (ac : AC) (he : ac.erase = ac4) (hw : wpC Try.prog 0 ac (retQ [.tmp 6] v) ⟨vals ++ List.replicate (56 - vals.length) (.tup []), []⟩) : CallP Try.prog 4 vals v :=
  call_of Try.func4 rfl rfl rfl (cc4.trans (congrArg some he.symm)) hw
theorem gi4 {vals : List V} {rows : Go.Vx.Rows} {K : V → Go.Vx.Rows → Prop} (ac : AC) (he : ac.erase = ac4) (hw : wpC Try.prog rows.length ac (retI [.tmp 6] K) ⟨vals ++ List.replicate (56 - vals.length) (.tup []), rows⟩) : InlP Try.prog 4 vals rows K :=
  inl_of' Try.func4 rfl rfl rfl (cc4.trans (congrArg some he.symm)) hw
theorem gm4 {vals : List V} {v : V} {sz : Nat} {es es' : List (List V)} (ac : AC) (he : ac.erase = ac4) (hw : wpC Try.prog 1 ac (retM [.tmp 6] v sz es') ⟨vals ++ List.replicate (56 - vals.length) (.tup []), [.live sz es]⟩) : CallM Try.prog 4 vals sz es v es' :=
  callM_of' Try.func4 rfl rfl rfl (cc4.trans (congrArg some he.symm)) hw

/-- testbench/testbenchlaw47.CrossFinds -/
def ac5 : AC :=
  .seq (.reg 1 [⟨(some 3), 0, none, (.op (.box 2 (.t 0)))⟩,
    ⟨(some 6), 1, none, (.op (.mov (.k (.d (.bool false)))))⟩])
  (.seq (.seq (.reg 0 [⟨(some 7), 0, none, (.op (.load true 2 (.t 3)))⟩,
    ⟨(some 8), 0, none, (.call (.k (.fn (.func 9) [] [])) [(.t 7)])⟩,
    ⟨(some 9), 0, none, (.op (.un .not (.t 8)))⟩,
    ⟨(some 10), 0, none, (.op (.mov (.t 9)))⟩,
    ⟨(some 11), 0, (some (10, false)), (.op (.mov (.t 2)))⟩,
    ⟨(some 12), 0, (some (10, false)), (.call (.k (.fn (.func 20) [] [])) [(.t 11)])⟩,
    ⟨(some 13), 0, (some (10, false)), (.op (.un .not (.t 12)))⟩,
    ⟨(some 14), 0, none, (.op (.pick (.t 10) (.k (.d (.bool true))) (.t 13)))⟩])
  (.cond (.t 14)
    (.seq (.reg 0 [⟨(some 15), 0, none, (.call (.k (.fn (.func 10) [] [])) [])⟩,
      ⟨(some 6), 0, none, (.op (.mov (.t 15)))⟩])
    (.ret))
    (.skip)))
  (.seq (.regD 0 [(⟨(some 16), 0, none, (.op (.load true 2 (.t 3)))⟩, []),
    (⟨(some 17), 0, none, (.op (.mov (.t 1)))⟩, []),
    (⟨(some 18), 0, none, (.op (.mov (.t 2)))⟩, []),
    (⟨(some 19), 0, none, (.call (.k (.fn (.func 21) [] [])) [(.t 16), (.t 17), (.t 18)])⟩, [0, 1, 2]),
    (⟨(some 20), 0, none, (.op (.load true 2 (.t 3)))⟩, []),
    (⟨(some 21), 0, none, (.op (.mov (.t 1)))⟩, []),
    (⟨(some 22), 0, none, (.op (.mov (.t 2)))⟩, []),
    (⟨(some 23), 0, none, (.call (.k (.fn (.func 22) [] [])) [(.t 20), (.t 21), (.t 22)])⟩, [4, 5, 6, 3, 0, 1, 2]),
    (⟨(some 24), 0, none, (.call (.k (.fn (.func 15) [] [])) [(.t 19), (.t 23)])⟩, [3, 0, 1, 2, 7, 4, 5, 6]),
    (⟨(some 25), 0, none, (.op (.mov (.t 24)))⟩, [8, 3, 0, 1, 2, 7, 4, 5, 6]),
    (⟨(some 26), 0, (some (25, true)), (.call (.k (.fn (.func 10) [] [])) [])⟩, [9, 8, 3, 0, 1, 2, 7, 4, 5, 6]),
    (⟨(some 27), 0, none, (.op (.pick (.t 25) (.t 26) (.k (.d (.bool false)))))⟩, [9, 8, 3, 0, 1, 2, 7, 4, 5, 6, 10]),
    (⟨(some 6), 0, none, (.op (.mov (.t 27)))⟩, [11, 9, 8, 3, 0, 1, 2, 7, 4, 5, 6, 10])])
  (.ret)))
theorem cc5 : Try.f5.body.bind (compC Try.prog) = some ac5 := by kernel_rfl
theorem go5 {vals : List V} {v : V} (ac : AC) (he : ac.erase = ac5) (hw : wpC Try.prog 0 ac (retQ [.tmp 6] v) ⟨vals ++ List.replicate (28 - vals.length) (.tup []), []⟩) : CallP Try.prog 5 vals v :=
  call_of Try.func5 rfl rfl rfl (cc5.trans (congrArg some he.symm)) hw
theorem gi5 {vals : List V} {rows : Go.Vx.Rows} {K : V → Go.Vx.Rows → Prop} (ac : AC) (he : ac.erase = ac5) (hw : wpC Try.prog rows.length ac (retI [.tmp 6] K) ⟨vals ++ List.replicate (28 - vals.length) (.tup []), rows⟩) : InlP Try.prog 5 vals rows K :=
  inl_of' Try.func5 rfl rfl rfl (cc5.trans (congrArg some he.symm)) hw
theorem gm5 {vals : List V} {v : V} {sz : Nat} {es es' : List (List V)} (ac : AC) (he : ac.erase = ac5) (hw : wpC Try.prog 1 ac (retM [.tmp 6] v sz es') ⟨vals ++ List.replicate (28 - vals.length) (.tup []), [.live sz es]⟩) : CallM Try.prog 5 vals sz es v es' :=
  callM_of' Try.func5 rfl rfl rfl (cc5.trans (congrArg some he.symm)) hw

/-- testbench/testbenchlaw47.CrossIndexes -/
def ac6 : AC :=
  .seq (.reg 1 [⟨(some 2), 0, none, (.op (.box 2 (.t 0)))⟩,
    ⟨(some 4), 1, none, (.op (.mov (.k (.d (.bool false)))))⟩])
  (.seq (.seq (.reg 0 [⟨(some 14), 0, none, (.op (.load true 2 (.t 2)))⟩,
    ⟨(some 15), 0, none, (.call (.k (.fn (.func 9) [] [])) [(.t 14)])⟩,
    ⟨(some 16), 0, none, (.op (.un .not (.t 15)))⟩])
  (.cond (.t 16)
    (.seq (.reg 0 [⟨(some 17), 0, none, (.call (.k (.fn (.func 10) [] [])) [])⟩,
      ⟨(some 4), 0, none, (.op (.mov (.t 17)))⟩])
    (.ret))
    (.skip)))
  (.seq (.reg 0 [⟨(some 18), 0, none, (.op (.load true 2 (.t 2)))⟩,
    ⟨(some 19), 0, none, (.op (.mov (.t 1)))⟩,
    ⟨(some 20), 0, none, (.call (.k (.fn (.func 13) [] [])) [(.t 18), (.t 19)])⟩,
    ⟨(some 5), 0, none, (.op (.mov (.t 20)))⟩])
  (.seq (.reg 0 [⟨(some 6), 0, none, (.op (.mov (.k (.d .nils))))⟩])
  (.seq (.seq (.reg 0 [⟨(some 7), 0, none, (.op (.mov (.k (.d (.int .i64 0)))))⟩])
  (.block 0
   (.loop
    (.seq (.seq (.reg 0 [⟨(some 21), 0, none, (.op (.mov (.t 7)))⟩,
      ⟨(some 22), 0, none, (.op (.mov (.t 5)))⟩,
      ⟨(some 23), 0, none, (.op (.bin .lss (.t 21) (.t 22)))⟩])
    (.cond (.t 23)
      (.skip)
      (.exit 0)))
    (.seq (.block 1
     (.seq (.reg 0 [⟨(some 27), 0, none, (.op (.load true 2 (.t 2)))⟩,
       ⟨(some 28), 0, none, (.op (.mov (.t 1)))⟩,
       ⟨(some 29), 0, none, (.op (.mov (.t 7)))⟩,
       ⟨(some 30), 0, none, (.call (.k (.fn (.func 11) [] [])) [(.t 27), (.t 28), (.t 29)])⟩,
       ⟨(some 26), 0, none, (.op (.mov (.t 30)))⟩,
       ⟨(some 31), 0, none, (.op (.ext (.t 26) 0))⟩,
       ⟨(some 32), 0, none, (.op (.ext (.t 26) 1))⟩,
       ⟨(some 8), 0, none, (.op (.mov (.t 31)))⟩,
       ⟨(some 9), 0, none, (.op (.mov (.t 32)))⟩])
     (.seq (.reg 0 [⟨(some 34), 0, none, (.op (.load true 2 (.t 2)))⟩,
       ⟨(some 35), 0, none, (.op (.mov (.t 1)))⟩,
       ⟨(some 36), 0, none, (.op (.mov (.t 8)))⟩,
       ⟨(some 37), 0, none, (.call (.k (.fn (.func 16) [] [])) [(.t 34), (.t 35), (.t 36)])⟩,
       ⟨(some 33), 0, none, (.op (.mov (.t 37)))⟩,
       ⟨(some 38), 0, none, (.op (.ext (.t 33) 0))⟩,
       ⟨(some 39), 0, none, (.op (.ext (.t 33) 1))⟩,
       ⟨(some 10), 0, none, (.op (.mov (.t 38)))⟩,
       ⟨(some 11), 0, none, (.op (.mov (.t 39)))⟩])
     (.seq (.seq (.reg 0 [⟨(some 40), 0, none, (.op (.mov (.t 9)))⟩,
       ⟨(some 41), 0, none, (.op (.un .not (.t 40)))⟩,
       ⟨(some 42), 0, none, (.op (.mov (.t 41)))⟩,
       ⟨(some 43), 0, (some (42, false)), (.op (.mov (.t 11)))⟩,
       ⟨(some 44), 0, (some (42, false)), (.op (.un .not (.t 43)))⟩,
       ⟨(some 45), 0, none, (.op (.pick (.t 42) (.k (.d (.bool true))) (.t 44)))⟩,
       ⟨(some 46), 0, none, (.op (.mov (.t 45)))⟩,
       ⟨(some 47), 0, (some (46, false)), (.op (.mov (.t 10)))⟩,
       ⟨(some 48), 0, (some (46, false)), (.op (.mov (.t 7)))⟩,
       ⟨(some 49), 0, (some (46, false)), (.op (.bin .neq (.t 47) (.t 48)))⟩,
       ⟨(some 50), 0, none, (.op (.pick (.t 46) (.k (.d (.bool true))) (.t 49)))⟩,
       ⟨(some 51), 0, none, (.op (.mov (.t 50)))⟩,
       ⟨(some 52), 0, (some (51, false)), (.op (.mov (.t 7)))⟩,
       ⟨(some 53), 0, (some (51, false)), (.op (.bin .gtr (.t 52) (.k (.d (.int .i64 0)))))⟩,
       ⟨(some 54), 0, (some (51, false)), (.op (.mov (.t 53)))⟩,
       ⟨(some 55), 0, (some (54, true)), (.op (.mov (.t 6)))⟩,
       ⟨(some 56), 0, (some (54, true)), (.op (.mov (.t 8)))⟩,
       ⟨(some 57), 0, (some (54, true)), (.call (.k (.fn (.func 23) [] [])) [(.t 55), (.t 56)])⟩,
       ⟨(some 58), 0, (some (54, true)), (.op (.un .not (.t 57)))⟩,
       ⟨(some 59), 0, (some (51, false)), (.op (.pick (.t 54) (.t 58) (.k (.d (.bool false)))))⟩,
       ⟨(some 60), 0, none, (.op (.pick (.t 51) (.k (.d (.bool true))) (.t 59)))⟩])
     (.cond (.t 60)
       (.seq (.reg 0 [⟨(some 4), 0, none, (.op (.mov (.k (.d (.bool false)))))⟩])
       (.ret))
       (.skip)))
     (.reg 0 [⟨(some 61), 0, none, (.op (.mov (.t 8)))⟩,
       ⟨(some 6), 0, none, (.op (.mov (.t 61)))⟩])))))
    (.reg 0 [⟨(some 24), 0, none, (.op (.mov (.t 7)))⟩,
      ⟨(some 25), 0, none, (.op (.bin .add (.t 24) (.k (.d (.int .i64 1)))))⟩,
      ⟨(some 7), 0, none, (.op (.mov (.t 25)))⟩]))))))
  (.seq (.reg 0 [⟨(some 63), 0, none, (.op (.load true 2 (.t 2)))⟩,
    ⟨(some 64), 0, none, (.op (.mov (.t 1)))⟩,
    ⟨(some 65), 0, none, (.op (.mov (.t 5)))⟩,
    ⟨(some 66), 0, none, (.call (.k (.fn (.func 11) [] [])) [(.t 63), (.t 64), (.t 65)])⟩,
    ⟨(some 62), 0, none, (.op (.mov (.t 66)))⟩,
    ⟨(some 67), 0, none, (.op (.ext (.t 62) 0))⟩,
    ⟨(some 68), 0, none, (.op (.ext (.t 62) 1))⟩,
    ⟨(some 12), 0, none, (.op (.mov (.t 67)))⟩,
    ⟨(some 13), 0, none, (.op (.mov (.t 68)))⟩])
  (.seq (.reg 0 [⟨(some 69), 0, none, (.op (.mov (.t 13)))⟩,
    ⟨(some 70), 0, none, (.op (.un .not (.t 69)))⟩,
    ⟨(some 71), 0, none, (.op (.mov (.t 70)))⟩,
    ⟨(some 72), 0, (some (71, true)), (.call (.k (.fn (.func 10) [] [])) [])⟩,
    ⟨(some 73), 0, none, (.op (.pick (.t 71) (.t 72) (.k (.d (.bool false)))))⟩,
    ⟨(some 4), 0, none, (.op (.mov (.t 73)))⟩])
  (.ret)))))))
theorem cc6 : Try.f6.body.bind (compC Try.prog) = some ac6 := by kernel_rfl
theorem go6 {vals : List V} {v : V} (ac : AC) (he : ac.erase = ac6) (hw : wpC Try.prog 0 ac (retQ [.tmp 4] v) ⟨vals ++ List.replicate (74 - vals.length) (.tup []), []⟩) : CallP Try.prog 6 vals v :=
  call_of Try.func6 rfl rfl rfl (cc6.trans (congrArg some he.symm)) hw
theorem gi6 {vals : List V} {rows : Go.Vx.Rows} {K : V → Go.Vx.Rows → Prop} (ac : AC) (he : ac.erase = ac6) (hw : wpC Try.prog rows.length ac (retI [.tmp 4] K) ⟨vals ++ List.replicate (74 - vals.length) (.tup []), rows⟩) : InlP Try.prog 6 vals rows K :=
  inl_of' Try.func6 rfl rfl rfl (cc6.trans (congrArg some he.symm)) hw
theorem gm6 {vals : List V} {v : V} {sz : Nat} {es es' : List (List V)} (ac : AC) (he : ac.erase = ac6) (hw : wpC Try.prog 1 ac (retM [.tmp 4] v sz es') ⟨vals ++ List.replicate (74 - vals.length) (.tup []), [.live sz es]⟩) : CallM Try.prog 6 vals sz es v es' :=
  callM_of' Try.func6 rfl rfl rfl (cc6.trans (congrArg some he.symm)) hw

/-- testbench/testbenchlaw47.CrossGrows -/
def ac7 : AC :=
  .seq (.reg 2 [⟨(some 4), 0, none, (.op (.box 2 (.t 0)))⟩,
    ⟨(some 7), 1, none, (.op (.box 2 (.t 3)))⟩,
    ⟨(some 8), 2, none, (.op (.mov (.k (.d (.bool false)))))⟩])
  (.seq (.seq (.reg 0 [⟨(some 16), 0, none, (.op (.load true 2 (.t 4)))⟩,
    ⟨(some 17), 0, none, (.call (.k (.fn (.func 9) [] [])) [(.t 16)])⟩,
    ⟨(some 18), 0, none, (.op (.un .not (.t 17)))⟩,
    ⟨(some 19), 0, none, (.op (.mov (.t 18)))⟩,
    ⟨(some 20), 0, (some (19, false)), (.op (.mov (.t 2)))⟩,
    ⟨(some 21), 0, (some (19, false)), (.call (.k (.fn (.func 20) [] [])) [(.t 20)])⟩,
    ⟨(some 22), 0, (some (19, false)), (.op (.un .not (.t 21)))⟩,
    ⟨(some 23), 0, none, (.op (.pick (.t 19) (.k (.d (.bool true))) (.t 22)))⟩,
    ⟨(some 24), 0, none, (.op (.mov (.t 23)))⟩,
    ⟨(some 25), 0, (some (24, false)), (.op (.idxA 1 (some 2) (.t 7) (.k (.d (.int .i64 0)))))⟩,
    ⟨(some 26), 0, (some (24, false)), (.op (.load false 1 (.t 25)))⟩,
    ⟨(some 27), 0, (some (24, false)), (.op (.bin .lss (.t 26) (.k (.d (.int .i64 0)))))⟩,
    ⟨(some 28), 0, none, (.op (.pick (.t 24) (.k (.d (.bool true))) (.t 27)))⟩,
    ⟨(some 29), 0, none, (.op (.mov (.t 28)))⟩,
    ⟨(some 30), 0, (some (29, false)), (.op (.idxA 1 (some 2) (.t 7) (.k (.d (.int .i64 0)))))⟩,
    ⟨(some 31), 0, (some (29, false)), (.op (.load false 1 (.t 30)))⟩,
    ⟨(some 32), 0, (some (29, false)), (.op (.mov (.t 2)))⟩,
    ⟨(some 33), 0, (some (29, false)), (.op (.len false (.t 32)))⟩,
    ⟨(some 34), 0, (some (29, false)), (.op (.bin .geq (.t 31) (.t 33)))⟩,
    ⟨(some 35), 0, none, (.op (.pick (.t 29) (.k (.d (.bool true))) (.t 34)))⟩])
  (.cond (.t 35)
    (.seq (.reg 0 [⟨(some 36), 0, none, (.call (.k (.fn (.func 10) [] [])) [])⟩,
      ⟨(some 8), 0, none, (.op (.mov (.t 36)))⟩])
    (.ret))
    (.skip)))
  (.seq (.reg 0 [⟨(some 9), 0, none, (.op (.mov (.k (.d .nils))))⟩])
  (.seq (.seq (.reg 0 [⟨(some 10), 0, none, (.op (.mov (.k (.d (.int .i64 0)))))⟩])
  (.block 0
   (.loop
    (.seq (.seq (.reg 0 [⟨(some 37), 0, none, (.op (.mov (.t 10)))⟩,
      ⟨(some 38), 0, none, (.op (.mov (.t 2)))⟩,
      ⟨(some 39), 0, none, (.op (.len false (.t 38)))⟩,
      ⟨(some 40), 0, none, (.op (.bin .lss (.t 37) (.t 39)))⟩])
    (.cond (.t 40)
      (.skip)
      (.exit 0)))
    (.seq (.block 1
     (.seq (.reg 2 [⟨(some 43), 0, none, (.op (.buildSl 1 0 [(.int .i64 0)] []))⟩,
       ⟨(some 44), 1, none, (.op (.mov (.t 2)))⟩,
       ⟨(some 45), 1, none, (.op (.mov (.t 10)))⟩,
       ⟨(some 46), 1, none, (.op (.idxA 1 none (.t 44) (.t 45)))⟩,
       ⟨(some 47), 1, none, (.op (.load false 1 (.t 46)))⟩,
       ⟨(some 48), 1, none, (.op (.append 1 8 (.t 43) (.t 47)))⟩,
       ⟨(some 11), 2, none, (.op (.mov (.t 48)))⟩])
     (.seq (.seq (.reg 0 [⟨(some 49), 0, none, (.op (.mov (.t 10)))⟩,
       ⟨(some 50), 0, none, (.op (.idxA 1 (some 2) (.t 7) (.k (.d (.int .i64 0)))))⟩,
       ⟨(some 51), 0, none, (.op (.load false 1 (.t 50)))⟩,
       ⟨(some 52), 0, none, (.op (.bin .eql (.t 49) (.t 51)))⟩])
     (.cond (.t 52)
       (.reg 2 [⟨(some 53), 0, none, (.op (.mov (.t 11)))⟩,
         ⟨(some 54), 0, none, (.op (.idxA 1 (some 2) (.t 7) (.k (.d (.int .i64 1)))))⟩,
         ⟨(some 55), 0, none, (.op (.load false 1 (.t 54)))⟩,
         ⟨(some 56), 0, none, (.op (.buildSl 1 1 [(.int .i64 0)] [(0, (.t 55))]))⟩,
         ⟨(some 57), 1, none, (.op (.append 1 8 (.t 53) (.t 56)))⟩,
         ⟨(some 11), 2, none, (.op (.mov (.t 57)))⟩])
       (.skip)))
     (.reg 2 [⟨(some 58), 0, none, (.op (.mov (.t 9)))⟩,
       ⟨(some 59), 0, none, (.op (.mov (.t 11)))⟩,
       ⟨(some 60), 0, none, (.op (.buildSl 1 1 [.nils] [(0, (.t 59))]))⟩,
       ⟨(some 61), 1, none, (.op (.append 1 24 (.t 58) (.t 60)))⟩,
       ⟨(some 9), 2, none, (.op (.mov (.t 61)))⟩]))))
    (.reg 0 [⟨(some 41), 0, none, (.op (.mov (.t 10)))⟩,
      ⟨(some 42), 0, none, (.op (.bin .add (.t 41) (.k (.d (.int .i64 1)))))⟩,
      ⟨(some 10), 0, none, (.op (.mov (.t 42)))⟩]))))))
  (.seq (.regD 0 [(⟨(some 62), 0, none, (.op (.load true 2 (.t 4)))⟩, []),
    (⟨(some 63), 0, none, (.op (.mov (.t 1)))⟩, []),
    (⟨(some 64), 0, none, (.op (.mov (.t 2)))⟩, []),
    (⟨(some 65), 0, none, (.call (.k (.fn (.func 21) [] [])) [(.t 62), (.t 63), (.t 64)])⟩, [0, 1, 2]),
    (⟨(some 66), 0, none, (.op (.load true 2 (.t 4)))⟩, []),
    (⟨(some 67), 0, none, (.op (.mov (.t 1)))⟩, []),
    (⟨(some 68), 0, none, (.op (.mov (.t 9)))⟩, []),
    (⟨(some 69), 0, none, (.call (.k (.fn (.func 21) [] [])) [(.t 66), (.t 67), (.t 68)])⟩, [4, 5, 6, 3, 0, 1, 2]),
    (⟨(some 12), 0, none, (.op (.mov (.t 65)))⟩, [3, 0, 1, 2, 7, 4, 5, 6]),
    (⟨(some 13), 0, none, (.op (.mov (.t 69)))⟩, [7, 4, 5, 6, 3, 0, 1, 2, 8])])
  (.seq (.reg 0 [⟨(some 14), 0, none, (.op (.mov (.k (.d (.int .i64 0)))))⟩])
  (.seq (.seq (.reg 0 [⟨(some 15), 0, none, (.op (.mov (.k (.d (.int .i64 0)))))⟩])
  (.block 2
   (.loop
    (.seq (.seq (.reg 0 [⟨(some 70), 0, none, (.op (.mov (.t 15)))⟩,
      ⟨(some 71), 0, none, (.op (.mov (.t 13)))⟩,
      ⟨(some 72), 0, none, (.op (.len false (.t 71)))⟩,
      ⟨(some 73), 0, none, (.op (.bin .lss (.t 70) (.t 72)))⟩])
    (.cond (.t 73)
      (.skip)
      (.exit 2)))
    (.seq (.block 3
     (.seq (.regD 0 [(⟨(some 76), 0, none, (.op (.mov (.t 14)))⟩, []),
       (⟨(some 77), 0, none, (.op (.mov (.t 12)))⟩, []),
       (⟨(some 78), 0, none, (.op (.len false (.t 77)))⟩, [1]),
       (⟨(some 79), 0, none, (.op (.bin .lss (.t 76) (.t 78)))⟩, [0, 2, 1]),
       (⟨(some 80), 0, none, (.op (.mov (.t 79)))⟩, [3, 0, 2, 1]),
       (⟨(some 81), 0, (some (80, true)), (.op (.mov (.t 12)))⟩, [4, 3, 0, 2, 1]),
       (⟨(some 82), 0, (some (80, true)), (.op (.mov (.t 14)))⟩, [4, 3, 0, 2, 1]),
       (⟨(some 83), 0, (some (80, true)), (.op (.idxA 1 none (.t 81) (.t 82)))⟩, [5, 4, 3, 0, 2, 1, 6]),
       (⟨(some 84), 0, (some (80, true)), (.op (.load false 1 (.t 83)))⟩, [7, 5, 4, 3, 0, 2, 1, 6]),
       (⟨(some 85), 0, (some (80, true)), (.op (.mov (.t 13)))⟩, [4, 3, 0, 2, 1]),
       (⟨(some 86), 0, (some (80, true)), (.op (.mov (.t 15)))⟩, [4, 3, 0, 2, 1]),
       (⟨(some 87), 0, (some (80, true)), (.op (.idxA 1 none (.t 85) (.t 86)))⟩, [9, 4, 3, 0, 2, 1, 10]),
       (⟨(some 88), 0, (some (80, true)), (.op (.load false 1 (.t 87)))⟩, [11, 9, 4, 3, 0, 2, 1, 10]),
       (⟨(some 89), 0, (some (80, true)), (.op (.bin .eql (.t 84) (.t 88)))⟩, [8, 7, 5, 4, 3, 0, 2, 1, 6, 12, 11, 9, 10]),
       (⟨(some 90), 0, none, (.op (.pick (.t 80) (.t 89) (.k (.d (.bool false)))))⟩, [4, 3, 0, 2, 1, 13, 8, 7, 5, 6, 12, 11, 9, 10])])
     (.cond (.t 90)
       (.reg 0 [⟨(some 91), 0, none, (.op (.mov (.t 14)))⟩,
         ⟨(some 92), 0, none, (.op (.bin .add (.t 91) (.k (.d (.int .i64 1)))))⟩,
         ⟨(some 14), 0, none, (.op (.mov (.t 92)))⟩])
       (.skip))))
    (.reg 0 [⟨(some 74), 0, none, (.op (.mov (.t 15)))⟩,
      ⟨(some 75), 0, none, (.op (.bin .add (.t 74) (.k (.d (.int .i64 1)))))⟩,
      ⟨(some 15), 0, none, (.op (.mov (.t 75)))⟩]))))))
  (.seq (.reg 0 [⟨(some 93), 0, none, (.op (.mov (.t 14)))⟩,
    ⟨(some 94), 0, none, (.op (.mov (.t 12)))⟩,
    ⟨(some 95), 0, none, (.op (.len false (.t 94)))⟩,
    ⟨(some 96), 0, none, (.op (.bin .eql (.t 93) (.t 95)))⟩,
    ⟨(some 97), 0, none, (.op (.mov (.t 96)))⟩,
    ⟨(some 98), 0, (some (97, true)), (.call (.k (.fn (.func 10) [] [])) [])⟩,
    ⟨(some 99), 0, none, (.op (.pick (.t 97) (.t 98) (.k (.d (.bool false)))))⟩,
    ⟨(some 8), 0, none, (.op (.mov (.t 99)))⟩])
  (.ret))))))))
theorem cc7 : Try.f7.body.bind (compC Try.prog) = some ac7 := by kernel_rfl
theorem go7 {vals : List V} {v : V} (ac : AC) (he : ac.erase = ac7) (hw : wpC Try.prog 0 ac (retQ [.tmp 8] v) ⟨vals ++ List.replicate (100 - vals.length) (.tup []), []⟩) : CallP Try.prog 7 vals v :=
  call_of Try.func7 rfl rfl rfl (cc7.trans (congrArg some he.symm)) hw
theorem gi7 {vals : List V} {rows : Go.Vx.Rows} {K : V → Go.Vx.Rows → Prop} (ac : AC) (he : ac.erase = ac7) (hw : wpC Try.prog rows.length ac (retI [.tmp 8] K) ⟨vals ++ List.replicate (100 - vals.length) (.tup []), rows⟩) : InlP Try.prog 7 vals rows K :=
  inl_of' Try.func7 rfl rfl rfl (cc7.trans (congrArg some he.symm)) hw
theorem gm7 {vals : List V} {v : V} {sz : Nat} {es es' : List (List V)} (ac : AC) (he : ac.erase = ac7) (hw : wpC Try.prog 1 ac (retM [.tmp 8] v sz es') ⟨vals ++ List.replicate (100 - vals.length) (.tup []), [.live sz es]⟩) : CallM Try.prog 7 vals sz es v es' :=
  callM_of' Try.func7 rfl rfl rfl (cc7.trans (congrArg some he.symm)) hw

/-- testbench/testbenchlaw47.CrossProducts -/
def ac8 : AC :=
  .seq (.reg 1 [⟨(some 3), 0, none, (.op (.box 2 (.t 0)))⟩,
    ⟨(some 6), 1, none, (.op (.mov (.k (.d (.bool false)))))⟩])
  (.seq (.seq (.reg 0 [⟨(some 13), 0, none, (.op (.load true 2 (.t 3)))⟩,
    ⟨(some 14), 0, none, (.call (.k (.fn (.func 9) [] [])) [(.t 13)])⟩,
    ⟨(some 15), 0, none, (.op (.un .not (.t 14)))⟩,
    ⟨(some 16), 0, none, (.op (.mov (.t 15)))⟩,
    ⟨(some 17), 0, (some (16, false)), (.op (.mov (.t 2)))⟩,
    ⟨(some 18), 0, (some (16, false)), (.call (.k (.fn (.func 20) [] [])) [(.t 17)])⟩,
    ⟨(some 19), 0, (some (16, false)), (.op (.un .not (.t 18)))⟩,
    ⟨(some 20), 0, none, (.op (.pick (.t 16) (.k (.d (.bool true))) (.t 19)))⟩,
    ⟨(some 21), 0, none, (.op (.mov (.t 20)))⟩,
    ⟨(some 22), 0, (some (21, false)), (.op (.mov (.t 1)))⟩,
    ⟨(some 23), 0, (some (21, false)), (.op (.bin .lss (.t 22) (.k (.d (.int .i64 0)))))⟩,
    ⟨(some 24), 0, none, (.op (.pick (.t 21) (.k (.d (.bool true))) (.t 23)))⟩,
    ⟨(some 25), 0, none, (.op (.mov (.t 24)))⟩,
    ⟨(some 26), 0, (some (25, false)), (.op (.mov (.t 1)))⟩,
    ⟨(some 27), 0, (some (25, false)), (.op (.fldA 1 (.t 3)))⟩,
    ⟨(some 28), 0, (some (25, false)), (.op (.load false 1 (.t 27)))⟩,
    ⟨(some 29), 0, (some (25, false)), (.op (.len false (.t 28)))⟩,
    ⟨(some 30), 0, (some (25, false)), (.op (.bin .geq (.t 26) (.t 29)))⟩,
    ⟨(some 31), 0, none, (.op (.pick (.t 25) (.k (.d (.bool true))) (.t 30)))⟩,
    ⟨(some 32), 0, none, (.op (.mov (.t 31)))⟩,
    ⟨(some 33), 0, (some (32, false)), (.op (.mov (.t 2)))⟩,
    ⟨(some 34), 0, (some (32, false)), (.op (.len false (.t 33)))⟩,
    ⟨(some 35), 0, (some (32, false)), (.op (.fldA 0 (.t 3)))⟩,
    ⟨(some 36), 0, (some (32, false)), (.op (.load false 1 (.t 35)))⟩,
    ⟨(some 37), 0, (some (32, false)), (.op (.len false (.t 36)))⟩,
    ⟨(some 38), 0, (some (32, false)), (.op (.bin .neq (.t 34) (.t 37)))⟩,
    ⟨(some 39), 0, none, (.op (.pick (.t 32) (.k (.d (.bool true))) (.t 38)))⟩])
  (.cond (.t 39)
    (.seq (.reg 0 [⟨(some 40), 0, none, (.call (.k (.fn (.func 10) [] [])) [])⟩,
      ⟨(some 6), 0, none, (.op (.mov (.t 40)))⟩])
    (.ret))
    (.skip)))
  (.seq (.reg 1 [⟨(some 41), 0, none, (.op (.fldA 1 (.t 3)))⟩,
    ⟨(some 42), 0, none, (.op (.load false 1 (.t 41)))⟩,
    ⟨(some 43), 0, none, (.op (.mov (.t 1)))⟩,
    ⟨(some 44), 0, none, (.op (.idxA 3 none (.t 42) (.t 43)))⟩,
    ⟨(some 45), 0, none, (.op (.load true 3 (.t 44)))⟩,
    ⟨(some 7), 0, none, (.op (.alloc [(.str []), .nils, .nils]))⟩,
    ⟨none, 1, none, (.op (.store 3 (.t 7) (.t 45)))⟩])
  (.seq (.reg 0 [⟨(some 8), 0, none, (.op (.mov (.k (.d (.int .i64 1)))))⟩])
  (.seq (.seq (.reg 0 [⟨(some 9), 0, none, (.op (.mov (.k (.d (.int .i64 0)))))⟩])
  (.block 0
   (.loop
    (.seq (.seq (.reg 0 [⟨(some 46), 0, none, (.op (.mov (.t 9)))⟩,
      ⟨(some 47), 0, none, (.op (.fldA 1 (.t 7)))⟩,
      ⟨(some 48), 0, none, (.op (.load false 1 (.t 47)))⟩,
      ⟨(some 49), 0, none, (.op (.len false (.t 48)))⟩,
      ⟨(some 50), 0, none, (.op (.bin .lss (.t 46) (.t 49)))⟩])
    (.cond (.t 50)
      (.skip)
      (.exit 0)))
    (.seq (.block 1
     (.seq (.reg 0 [⟨(some 53), 0, none, (.op (.fldA 1 (.t 7)))⟩,
       ⟨(some 54), 0, none, (.op (.load false 1 (.t 53)))⟩,
       ⟨(some 55), 0, none, (.op (.mov (.t 9)))⟩,
       ⟨(some 56), 0, none, (.op (.idxA 1 none (.t 54) (.t 55)))⟩,
       ⟨(some 57), 0, none, (.op (.load false 1 (.t 56)))⟩,
       ⟨(some 10), 0, none, (.op (.mov (.t 57)))⟩])
     (.seq (.seq (.reg 0 [⟨(some 58), 0, none, (.op (.mov (.t 10)))⟩,
       ⟨(some 59), 0, none, (.op (.bin .lss (.t 58) (.k (.d (.int .i64 0)))))⟩,
       ⟨(some 60), 0, none, (.op (.mov (.t 59)))⟩,
       ⟨(some 61), 0, (some (60, false)), (.op (.mov (.t 10)))⟩,
       ⟨(some 62), 0, (some (60, false)), (.op (.fldA 0 (.t 3)))⟩,
       ⟨(some 63), 0, (some (60, false)), (.op (.load false 1 (.t 62)))⟩,
       ⟨(some 64), 0, (some (60, false)), (.op (.len false (.t 63)))⟩,
       ⟨(some 65), 0, (some (60, false)), (.op (.bin .geq (.t 61) (.t 64)))⟩,
       ⟨(some 66), 0, none, (.op (.pick (.t 60) (.k (.d (.bool true))) (.t 65)))⟩])
     (.cond (.t 66)
       (.seq (.reg 0 [⟨(some 67), 0, none, (.call (.k (.fn (.func 10) [] [])) [])⟩,
         ⟨(some 6), 0, none, (.op (.mov (.t 67)))⟩])
       (.ret))
       (.skip)))
     (.seq (.reg 0 [⟨(some 68), 0, none, (.op (.fldA 0 (.t 3)))⟩,
       ⟨(some 69), 0, none, (.op (.load false 1 (.t 68)))⟩,
       ⟨(some 70), 0, none, (.op (.mov (.t 10)))⟩,
       ⟨(some 71), 0, none, (.op (.idxA 6 none (.t 69) (.t 70)))⟩,
       ⟨(some 72), 0, none, (.op (.fldA 5 (.t 71)))⟩,
       ⟨(some 73), 0, none, (.op (.load false 1 (.t 72)))⟩,
       ⟨(some 11), 0, none, (.op (.mov (.t 73)))⟩])
     (.seq (.seq (.reg 0 [⟨(some 12), 0, none, (.op (.mov (.k (.d (.int .i64 0)))))⟩])
     (.block 2
      (.loop
       (.seq (.seq (.reg 0 [⟨(some 74), 0, none, (.op (.mov (.t 12)))⟩,
         ⟨(some 75), 0, none, (.op (.mov (.t 11)))⟩,
         ⟨(some 76), 0, none, (.op (.len false (.t 75)))⟩,
         ⟨(some 77), 0, none, (.op (.bin .lss (.t 74) (.t 76)))⟩])
       (.cond (.t 77)
         (.skip)
         (.exit 2)))
       (.seq (.block 3
        (.seq (.reg 0 [⟨(some 80), 0, none, (.op (.mov (.t 11)))⟩,
          ⟨(some 81), 0, none, (.op (.mov (.t 12)))⟩,
          ⟨(some 82), 0, none, (.op (.idxA 4 none (.t 80) (.t 81)))⟩,
          ⟨(some 83), 0, none, (.op (.fldA 1 (.t 82)))⟩,
          ⟨(some 84), 0, none, (.op (.load false 1 (.t 83)))⟩,
          ⟨(some 85), 0, none, (.op (.bin .neq (.t 84) (.k (.d (.int .i64 0)))))⟩])
        (.cond (.t 85)
          (.seq (.reg 0 [⟨(some 86), 0, none, (.call (.k (.fn (.func 10) [] [])) [])⟩,
            ⟨(some 6), 0, none, (.op (.mov (.t 86)))⟩])
          (.ret))
          (.skip))))
       (.reg 0 [⟨(some 78), 0, none, (.op (.mov (.t 12)))⟩,
         ⟨(some 79), 0, none, (.op (.bin .add (.t 78) (.k (.d (.int .i64 1)))))⟩,
         ⟨(some 12), 0, none, (.op (.mov (.t 79)))⟩]))))))
     (.reg 0 [⟨(some 87), 0, none, (.op (.mov (.t 8)))⟩,
       ⟨(some 88), 0, none, (.op (.mov (.t 2)))⟩,
       ⟨(some 89), 0, none, (.op (.mov (.t 10)))⟩,
       ⟨(some 90), 0, none, (.op (.idxA 1 none (.t 88) (.t 89)))⟩,
       ⟨(some 91), 0, none, (.op (.load false 1 (.t 90)))⟩,
       ⟨(some 92), 0, none, (.op (.mov (.t 11)))⟩,
       ⟨(some 93), 0, none, (.op (.len false (.t 92)))⟩,
       ⟨(some 94), 0, none, (.call (.k (.fn (.func 24) [] [])) [(.t 91), (.t 93)])⟩,
       ⟨(some 95), 0, none, (.op (.bin .mul (.t 87) (.t 94)))⟩,
       ⟨(some 8), 0, none, (.op (.mov (.t 95)))⟩]))))))
    (.reg 0 [⟨(some 51), 0, none, (.op (.mov (.t 9)))⟩,
      ⟨(some 52), 0, none, (.op (.bin .add (.t 51) (.k (.d (.int .i64 1)))))⟩,
      ⟨(some 9), 0, none, (.op (.mov (.t 52)))⟩]))))))
  (.seq (.reg 0 [⟨(some 96), 0, none, (.op (.fldA 2 (.t 7)))⟩,
    ⟨(some 97), 0, none, (.op (.load false 1 (.t 96)))⟩,
    ⟨(some 98), 0, none, (.op (.len false (.t 97)))⟩,
    ⟨(some 99), 0, none, (.op (.bin .gtr (.t 98) (.k (.d (.int .i64 0)))))⟩,
    ⟨(some 100), 0, none, (.op (.mov (.t 99)))⟩,
    ⟨(some 101), 0, (some (100, false)), (.op (.load true 2 (.t 3)))⟩,
    ⟨(some 102), 0, (some (100, false)), (.op (.mov (.t 1)))⟩,
    ⟨(some 103), 0, (some (100, false)), (.op (.mov (.t 2)))⟩,
    ⟨(some 104), 0, (some (100, false)), (.call (.k (.fn (.func 21) [] [])) [(.t 101), (.t 102), (.t 103)])⟩,
    ⟨(some 105), 0, (some (100, false)), (.op (.len false (.t 104)))⟩,
    ⟨(some 106), 0, (some (100, false)), (.op (.mov (.t 8)))⟩,
    ⟨(some 107), 0, (some (100, false)), (.op (.bin .eql (.t 105) (.t 106)))⟩,
    ⟨(some 108), 0, none, (.op (.pick (.t 100) (.k (.d (.bool true))) (.t 107)))⟩,
    ⟨(some 109), 0, none, (.op (.mov (.t 108)))⟩,
    ⟨(some 110), 0, (some (109, true)), (.call (.k (.fn (.func 10) [] [])) [])⟩,
    ⟨(some 111), 0, none, (.op (.pick (.t 109) (.t 110) (.k (.d (.bool false)))))⟩,
    ⟨(some 6), 0, none, (.op (.mov (.t 111)))⟩])
  (.ret))))))
theorem cc8 : Try.f8.body.bind (compC Try.prog) = some ac8 := by kernel_rfl
theorem go8 {vals : List V} {v : V} (ac : AC) (he : ac.erase = ac8) (hw : wpC Try.prog 0 ac (retQ [.tmp 6] v) ⟨vals ++ List.replicate (112 - vals.length) (.tup []), []⟩) : CallP Try.prog 8 vals v :=
  call_of Try.func8 rfl rfl rfl (cc8.trans (congrArg some he.symm)) hw
theorem gi8 {vals : List V} {rows : Go.Vx.Rows} {K : V → Go.Vx.Rows → Prop} (ac : AC) (he : ac.erase = ac8) (hw : wpC Try.prog rows.length ac (retI [.tmp 6] K) ⟨vals ++ List.replicate (112 - vals.length) (.tup []), rows⟩) : InlP Try.prog 8 vals rows K :=
  inl_of' Try.func8 rfl rfl rfl (cc8.trans (congrArg some he.symm)) hw
theorem gm8 {vals : List V} {v : V} {sz : Nat} {es es' : List (List V)} (ac : AC) (he : ac.erase = ac8) (hw : wpC Try.prog 1 ac (retM [.tmp 6] v sz es') ⟨vals ++ List.replicate (112 - vals.length) (.tup []), [.live sz es]⟩) : CallM Try.prog 8 vals sz es v es' :=
  callM_of' Try.func8 rfl rfl rfl (cc8.trans (congrArg some he.symm)) hw

/-- testbench/testbenchlaw47.Few -/
def ac9 : AC :=
  .seq (.reg 1 [⟨(some 1), 0, none, (.op (.box 2 (.t 0)))⟩,
    ⟨(some 2), 1, none, (.op (.mov (.k (.d (.bool false)))))⟩])
  (.seq (.seq (.reg 0 [⟨(some 6), 0, none, (.op (.fldA 0 (.t 1)))⟩,
    ⟨(some 7), 0, none, (.op (.load false 1 (.t 6)))⟩,
    ⟨(some 8), 0, none, (.op (.len false (.t 7)))⟩,
    ⟨(some 9), 0, none, (.op (.bin .gtr (.t 8) (.k (.d (.int .i64 12)))))⟩,
    ⟨(some 10), 0, none, (.op (.mov (.t 9)))⟩,
    ⟨(some 11), 0, (some (10, false)), (.op (.fldA 1 (.t 1)))⟩,
    ⟨(some 12), 0, (some (10, false)), (.op (.load false 1 (.t 11)))⟩,
    ⟨(some 13), 0, (some (10, false)), (.op (.len false (.t 12)))⟩,
    ⟨(some 14), 0, (some (10, false)), (.op (.bin .gtr (.t 13) (.k (.d (.int .i64 8)))))⟩,
    ⟨(some 15), 0, none, (.op (.pick (.t 10) (.k (.d (.bool true))) (.t 14)))⟩])
  (.cond (.t 15)
    (.seq (.reg 0 [⟨(some 2), 0, none, (.op (.mov (.k (.d (.bool false)))))⟩])
    (.ret))
    (.skip)))
  (.seq (.seq (.reg 0 [⟨(some 3), 0, none, (.op (.mov (.k (.d (.int .i64 0)))))⟩])
  (.block 0
   (.loop
    (.seq (.seq (.reg 0 [⟨(some 16), 0, none, (.op (.mov (.t 3)))⟩,
      ⟨(some 17), 0, none, (.op (.fldA 0 (.t 1)))⟩,
      ⟨(some 18), 0, none, (.op (.load false 1 (.t 17)))⟩,
      ⟨(some 19), 0, none, (.op (.len false (.t 18)))⟩,
      ⟨(some 20), 0, none, (.op (.bin .lss (.t 16) (.t 19)))⟩])
    (.cond (.t 20)
      (.skip)
      (.exit 0)))
    (.seq (.block 1
     (.seq (.reg 0 [⟨(some 23), 0, none, (.op (.fldA 0 (.t 1)))⟩,
       ⟨(some 24), 0, none, (.op (.load false 1 (.t 23)))⟩,
       ⟨(some 25), 0, none, (.op (.mov (.t 3)))⟩,
       ⟨(some 26), 0, none, (.op (.idxA 6 none (.t 24) (.t 25)))⟩,
       ⟨(some 27), 0, none, (.op (.fldA 5 (.t 26)))⟩,
       ⟨(some 28), 0, none, (.op (.load false 1 (.t 27)))⟩,
       ⟨(some 29), 0, none, (.op (.len false (.t 28)))⟩,
       ⟨(some 30), 0, none, (.op (.bin .gtr (.t 29) (.k (.d (.int .i64 40)))))⟩])
     (.cond (.t 30)
       (.seq (.reg 0 [⟨(some 2), 0, none, (.op (.mov (.k (.d (.bool false)))))⟩])
       (.ret))
       (.skip))))
    (.reg 0 [⟨(some 21), 0, none, (.op (.mov (.t 3)))⟩,
      ⟨(some 22), 0, none, (.op (.bin .add (.t 21) (.k (.d (.int .i64 1)))))⟩,
      ⟨(some 3), 0, none, (.op (.mov (.t 22)))⟩]))))))
  (.seq (.seq (.reg 0 [⟨(some 4), 0, none, (.op (.mov (.k (.d (.int .i64 0)))))⟩])
  (.block 2
   (.loop
    (.seq (.seq (.reg 0 [⟨(some 31), 0, none, (.op (.mov (.t 4)))⟩,
      ⟨(some 32), 0, none, (.op (.fldA 1 (.t 1)))⟩,
      ⟨(some 33), 0, none, (.op (.load false 1 (.t 32)))⟩,
      ⟨(some 34), 0, none, (.op (.len false (.t 33)))⟩,
      ⟨(some 35), 0, none, (.op (.bin .lss (.t 31) (.t 34)))⟩])
    (.cond (.t 35)
      (.skip)
      (.exit 2)))
    (.seq (.block 3
     (.seq (.reg 1 [⟨(some 38), 0, none, (.op (.fldA 1 (.t 1)))⟩,
       ⟨(some 39), 0, none, (.op (.load false 1 (.t 38)))⟩,
       ⟨(some 40), 0, none, (.op (.mov (.t 4)))⟩,
       ⟨(some 41), 0, none, (.op (.idxA 3 none (.t 39) (.t 40)))⟩,
       ⟨(some 42), 0, none, (.op (.load true 3 (.t 41)))⟩,
       ⟨(some 5), 0, none, (.op (.alloc [(.str []), .nils, .nils]))⟩,
       ⟨none, 1, none, (.op (.store 3 (.t 5) (.t 42)))⟩])
     (.seq (.reg 0 [⟨(some 43), 0, none, (.op (.fldA 1 (.t 5)))⟩,
       ⟨(some 44), 0, none, (.op (.load false 1 (.t 43)))⟩,
       ⟨(some 45), 0, none, (.op (.len false (.t 44)))⟩,
       ⟨(some 46), 0, none, (.op (.bin .gtr (.t 45) (.k (.d (.int .i64 4)))))⟩,
       ⟨(some 47), 0, none, (.op (.mov (.t 46)))⟩,
       ⟨(some 48), 0, (some (47, false)), (.op (.fldA 2 (.t 5)))⟩,
       ⟨(some 49), 0, (some (47, false)), (.op (.load false 1 (.t 48)))⟩,
       ⟨(some 50), 0, (some (47, false)), (.op (.len false (.t 49)))⟩,
       ⟨(some 51), 0, (some (47, false)), (.op (.bin .gtr (.t 50) (.k (.d (.int .i64 40)))))⟩,
       ⟨(some 52), 0, none, (.op (.pick (.t 47) (.k (.d (.bool true))) (.t 51)))⟩,
       ⟨(some 53), 0, none, (.op (.mov (.t 52)))⟩,
       ⟨(some 54), 0, (some (53, false)), (.op (.load true 2 (.t 1)))⟩,
       ⟨(some 55), 0, (some (53, false)), (.op (.mov (.t 4)))⟩,
       ⟨(some 56), 0, (some (53, false)), (.call (.k (.fn (.func 14) [] [])) [(.t 54), (.t 55)])⟩,
       ⟨(some 57), 0, (some (53, false)), (.op (.bin .gtr (.t 56) (.k (.d (.int .i64 500)))))⟩,
       ⟨(some 58), 0, none, (.op (.pick (.t 53) (.k (.d (.bool true))) (.t 57)))⟩])
     (.cond (.t 58)
       (.seq (.reg 0 [⟨(some 2), 0, none, (.op (.mov (.k (.d (.bool false)))))⟩])
       (.ret))
       (.skip)))))
    (.reg 0 [⟨(some 36), 0, none, (.op (.mov (.t 4)))⟩,
      ⟨(some 37), 0, none, (.op (.bin .add (.t 36) (.k (.d (.int .i64 1)))))⟩,
      ⟨(some 4), 0, none, (.op (.mov (.t 37)))⟩]))))))
  (.seq (.reg 0 [⟨(some 2), 0, none, (.op (.mov (.k (.d (.bool true)))))⟩])
  (.ret)))))
theorem cc9 : Try.f9.body.bind (compC Try.prog) = some ac9 := by kernel_rfl
theorem go9 {vals : List V} {v : V} (ac : AC) (he : ac.erase = ac9) (hw : wpC Try.prog 0 ac (retQ [.tmp 2] v) ⟨vals ++ List.replicate (59 - vals.length) (.tup []), []⟩) : CallP Try.prog 9 vals v :=
  call_of Try.func9 rfl rfl rfl (cc9.trans (congrArg some he.symm)) hw
theorem gi9 {vals : List V} {rows : Go.Vx.Rows} {K : V → Go.Vx.Rows → Prop} (ac : AC) (he : ac.erase = ac9) (hw : wpC Try.prog rows.length ac (retI [.tmp 2] K) ⟨vals ++ List.replicate (59 - vals.length) (.tup []), rows⟩) : InlP Try.prog 9 vals rows K :=
  inl_of' Try.func9 rfl rfl rfl (cc9.trans (congrArg some he.symm)) hw
theorem gm9 {vals : List V} {v : V} {sz : Nat} {es es' : List (List V)} (ac : AC) (he : ac.erase = ac9) (hw : wpC Try.prog 1 ac (retM [.tmp 2] v sz es') ⟨vals ++ List.replicate (59 - vals.length) (.tup []), [.live sz es]⟩) : CallM Try.prog 9 vals sz es v es' :=
  callM_of' Try.func9 rfl rfl rfl (cc9.trans (congrArg some he.symm)) hw

/-- testbench/testbenchlaw47.awake -/
def ac10 : AC :=
  .seq (.reg 0 [⟨(some 0), 0, none, (.op (.mov (.k (.d (.bool false)))))⟩])
  (.seq (.reg 1 [⟨(some 6), 0, none, (.call (.k (.fn (.func 25) [] [])) [])⟩,
    ⟨(some 7), 0, none, (.op (.buildSl 1 2 [(.int .i64 0)] [(0, (.k (.d (.int .i64 1)))), (1, (.k (.d (.int .i64 0))))]))⟩,
    ⟨(some 8), 1, none, (.call (.k (.fn (.func 16) [] [])) [(.t 6), (.k (.d (.int .i64 0))), (.t 7)])⟩,
    ⟨(some 5), 1, none, (.op (.mov (.t 8)))⟩,
    ⟨(some 9), 1, none, (.op (.ext (.t 5) 0))⟩,
    ⟨(some 10), 1, none, (.op (.ext (.t 5) 1))⟩,
    ⟨(some 1), 1, none, (.op (.mov (.t 9)))⟩,
    ⟨(some 2), 1, none, (.op (.mov (.t 10)))⟩])
  (.seq (.reg 0 [⟨(some 12), 0, none, (.call (.k (.fn (.func 25) [] [])) [])⟩,
    ⟨(some 13), 0, none, (.call (.k (.fn (.func 11) [] [])) [(.t 12), (.k (.d (.int .i64 0))), (.k (.d (.int .i64 5)))])⟩,
    ⟨(some 11), 0, none, (.op (.mov (.t 13)))⟩,
    ⟨(some 14), 0, none, (.op (.ext (.t 11) 0))⟩,
    ⟨(some 15), 0, none, (.op (.ext (.t 11) 1))⟩,
    ⟨(some 3), 0, none, (.op (.mov (.t 14)))⟩,
    ⟨(some 4), 0, none, (.op (.mov (.t 15)))⟩])
  (.seq (.reg 5 [⟨(some 16), 0, none, (.op (.mov (.t 2)))⟩,
    ⟨(some 17), 0, none, (.op (.mov (.t 16)))⟩,
    ⟨(some 18), 0, (some (17, true)), (.op (.mov (.t 1)))⟩,
    ⟨(some 19), 0, (some (17, true)), (.op (.bin .eql (.t 18) (.k (.d (.int .i64 3)))))⟩,
    ⟨(some 20), 0, none, (.op (.pick (.t 17) (.t 19) (.k (.d (.bool false)))))⟩,
    ⟨(some 21), 0, none, (.op (.mov (.t 20)))⟩,
    ⟨(some 22), 0, (some (21, true)), (.op (.mov (.t 4)))⟩,
    ⟨(some 23), 0, none, (.op (.pick (.t 21) (.t 22) (.k (.d (.bool false)))))⟩,
    ⟨(some 24), 0, none, (.op (.mov (.t 23)))⟩,
    ⟨(some 25), 0, (some (24, true)), (.op (.mov (.t 3)))⟩,
    ⟨(some 26), 0, (some (24, true)), (.op (.buildSl 1 2 [(.int .i64 0)] [(0, (.k (.d (.int .i64 1)))), (1, (.k (.d (.int .i64 2))))]))⟩,
    ⟨(some 27), 1, (some (24, true)), (.call (.k (.fn (.func 15) [] [])) [(.t 25), (.t 26)])⟩,
    ⟨(some 28), 1, none, (.op (.pick (.t 24) (.t 27) (.k (.d (.bool false)))))⟩,
    ⟨(some 29), 1, none, (.op (.mov (.t 28)))⟩,
    ⟨(some 30), 1, (some (29, true)), (.call (.k (.fn (.func 25) [] [])) [])⟩,
    ⟨(some 31), 1, (some (29, true)), (.call (.k (.fn (.func 13) [] [])) [(.t 30), (.k (.d (.int .i64 0)))])⟩,
    ⟨(some 32), 1, (some (29, true)), (.op (.bin .eql (.t 31) (.k (.d (.int .i64 6)))))⟩,
    ⟨(some 33), 1, none, (.op (.pick (.t 29) (.t 32) (.k (.d (.bool false)))))⟩,
    ⟨(some 34), 1, none, (.op (.mov (.t 33)))⟩,
    ⟨(some 35), 1, (some (34, true)), (.call (.k (.fn (.func 25) [] [])) [])⟩,
    ⟨(some 36), 1, (some (34, true)), (.op (.buildSl 1 1 [(.int .i64 0)] [(0, (.k (.d (.int .i64 1))))]))⟩,
    ⟨(some 37), 2, (some (34, true)), (.op (.buildSl 1 2 [(.int .i64 0)] [(0, (.k (.d (.int .i64 0)))), (1, (.k (.d (.int .i64 2))))]))⟩,
    ⟨(some 38), 3, (some (34, true)), (.op (.buildSl 1 2 [.nils] [(0, (.t 36)), (1, (.t 37))]))⟩,
    ⟨(some 39), 4, (some (34, true)), (.call (.k (.fn (.func 21) [] [])) [(.t 35), (.k (.d (.int .i64 0))), (.t 38)])⟩,
    ⟨(some 40), 4, (some (34, true)), (.op (.buildSl 1 2 [(.int .i64 0)] [(0, (.k (.d (.int .i64 3)))), (1, (.k (.d (.int .i64 5))))]))⟩,
    ⟨(some 41), 5, (some (34, true)), (.call (.k (.fn (.func 15) [] [])) [(.t 39), (.t 40)])⟩,
    ⟨(some 42), 5, none, (.op (.pick (.t 34) (.t 41) (.k (.d (.bool false)))))⟩,
    ⟨(some 0), 5, none, (.op (.mov (.t 42)))⟩])
  (.ret))))
theorem cc10 : Try.f10.body.bind (compC Try.prog) = some ac10 := by kernel_rfl
theorem go10 {vals : List V} {v : V} (ac : AC) (he : ac.erase = ac10) (hw : wpC Try.prog 0 ac (retQ [.tmp 0] v) ⟨vals ++ List.replicate (43 - vals.length) (.tup []), []⟩) : CallP Try.prog 10 vals v :=
  call_of Try.func10 rfl rfl rfl (cc10.trans (congrArg some he.symm)) hw
theorem gi10 {vals : List V} {rows : Go.Vx.Rows} {K : V → Go.Vx.Rows → Prop} (ac : AC) (he : ac.erase = ac10) (hw : wpC Try.prog rows.length ac (retI [.tmp 0] K) ⟨vals ++ List.replicate (43 - vals.length) (.tup []), rows⟩) : InlP Try.prog 10 vals rows K :=
  inl_of' Try.func10 rfl rfl rfl (cc10.trans (congrArg some he.symm)) hw
theorem gm10 {vals : List V} {v : V} {sz : Nat} {es es' : List (List V)} (ac : AC) (he : ac.erase = ac10) (hw : wpC Try.prog 1 ac (retM [.tmp 0] v sz es') ⟨vals ++ List.replicate (43 - vals.length) (.tup []), [.live sz es]⟩) : CallM Try.prog 10 vals sz es v es' :=
  callM_of' Try.func10 rfl rfl rfl (cc10.trans (congrArg some he.symm)) hw

/-- testbench/cross.Tuple -/
def ac11 : AC :=
  .seq (.reg 1 [⟨(some 3), 0, none, (.op (.box 2 (.t 0)))⟩,
    ⟨(some 6), 1, none, (.op (.mov (.k (.d .nils))))⟩,
    ⟨(some 7), 1, none, (.op (.mov (.k (.d (.bool false)))))⟩])
  (.seq (.seq (.reg 0 [⟨(some 11), 0, none, (.op (.mov (.t 2)))⟩,
    ⟨(some 12), 0, none, (.op (.bin .lss (.t 11) (.k (.d (.int .i64 0)))))⟩,
    ⟨(some 13), 0, none, (.op (.mov (.t 12)))⟩,
    ⟨(some 14), 0, (some (13, false)), (.op (.mov (.t 2)))⟩,
    ⟨(some 15), 0, (some (13, false)), (.op (.load true 2 (.t 3)))⟩,
    ⟨(some 16), 0, (some (13, false)), (.op (.mov (.t 1)))⟩,
    ⟨(some 17), 0, (some (13, false)), (.call (.k (.fn (.func 13) [] [])) [(.t 15), (.t 16)])⟩,
    ⟨(some 18), 0, (some (13, false)), (.op (.bin .geq (.t 14) (.t 17)))⟩,
    ⟨(some 19), 0, none, (.op (.pick (.t 13) (.k (.d (.bool true))) (.t 18)))⟩])
  (.cond (.t 19)
    (.seq (.reg 0 [⟨(some 6), 0, none, (.op (.mov (.k (.d .nils))))⟩,
      ⟨(some 7), 0, none, (.op (.mov (.k (.d (.bool false)))))⟩])
    (.ret))
    (.skip)))
  (.seq (.reg 0 [⟨(some 20), 0, none, (.op (.load true 2 (.t 3)))⟩,
    ⟨(some 21), 0, none, (.op (.mov (.t 1)))⟩,
    ⟨(some 22), 0, none, (.call (.k (.fn (.func 26) [] [])) [(.t 20), (.t 21)])⟩,
    ⟨(some 8), 0, none, (.op (.mov (.t 22)))⟩])
  (.seq (.reg 1 [⟨(some 23), 0, none, (.op (.mov (.t 8)))⟩,
    ⟨(some 24), 0, none, (.op (.len false (.t 23)))⟩,
    ⟨(some 25), 0, none, (.op (.mksl 1 8 [(.int .i64 0)] (.t 24) (.t 24)))⟩,
    ⟨(some 9), 1, none, (.op (.mov (.t 25)))⟩])
  (.seq (.reg 0 [⟨(some 26), 0, none, (.op (.mov (.t 9)))⟩,
    ⟨(some 27), 0, none, (.op (.mov (.t 8)))⟩,
    ⟨(some 28), 0, none, (.op (.copy 1 (.t 26) (.t 27)))⟩])
  (.seq (.seq (.reg 0 [⟨(some 29), 0, none, (.op (.mov (.t 8)))⟩,
    ⟨(some 30), 0, none, (.op (.len false (.t 29)))⟩,
    ⟨(some 31), 0, none, (.op (.bin .sub (.t 30) (.k (.d (.int .i64 1)))))⟩,
    ⟨(some 10), 0, none, (.op (.mov (.t 31)))⟩])
  (.block 0
   (.loop
    (.seq (.seq (.reg 0 [⟨(some 32), 0, none, (.op (.mov (.t 10)))⟩,
      ⟨(some 33), 0, none, (.op (.bin .geq (.t 32) (.k (.d (.int .i64 0)))))⟩])
    (.cond (.t 33)
      (.skip)
      (.exit 0)))
    (.seq (.block 1
     (.seq (.reg 0 [⟨(some 36), 0, none, (.op (.mov (.t 9)))⟩,
       ⟨(some 37), 0, none, (.op (.mov (.t 10)))⟩,
       ⟨(some 38), 0, none, (.op (.mov (.t 2)))⟩,
       ⟨(some 39), 0, none, (.op (.mov (.t 8)))⟩,
       ⟨(some 40), 0, none, (.op (.mov (.t 10)))⟩,
       ⟨(some 41), 0, none, (.op (.idxA 1 none (.t 39) (.t 40)))⟩,
       ⟨(some 42), 0, none, (.op (.load false 1 (.t 41)))⟩,
       ⟨(some 43), 0, none, (.op (.bin .rem (.t 38) (.t 42)))⟩,
       ⟨(some 44), 0, none, (.op (.idxA 1 none (.t 36) (.t 37)))⟩,
       ⟨none, 0, none, (.op (.store 1 (.t 44) (.t 43)))⟩])
     (.reg 0 [⟨(some 45), 0, none, (.op (.mov (.t 2)))⟩,
       ⟨(some 46), 0, none, (.op (.mov (.t 8)))⟩,
       ⟨(some 47), 0, none, (.op (.mov (.t 10)))⟩,
       ⟨(some 48), 0, none, (.op (.idxA 1 none (.t 46) (.t 47)))⟩,
       ⟨(some 49), 0, none, (.op (.load false 1 (.t 48)))⟩,
       ⟨(some 50), 0, none, (.op (.bin .quo (.t 45) (.t 49)))⟩,
       ⟨(some 2), 0, none, (.op (.mov (.t 50)))⟩])))
    (.reg 0 [⟨(some 34), 0, none, (.op (.mov (.t 10)))⟩,
      ⟨(some 35), 0, none, (.op (.bin .sub (.t 34) (.k (.d (.int .i64 1)))))⟩,
      ⟨(some 10), 0, none, (.op (.mov (.t 35)))⟩]))))))
  (.seq (.reg 0 [⟨(some 51), 0, none, (.op (.mov (.t 9)))⟩,
    ⟨(some 6), 0, none, (.op (.mov (.t 51)))⟩,
    ⟨(some 7), 0, none, (.op (.mov (.k (.d (.bool true)))))⟩])
  (.ret)))))))
theorem cc11 : Try.f11.body.bind (compC Try.prog) = some ac11 := by kernel_rfl
theorem go11 {vals : List V} {v : V} (ac : AC) (he : ac.erase = ac11) (hw : wpC Try.prog 0 ac (retQ [.tmp 6, .tmp 7] v) ⟨vals ++ List.replicate (52 - vals.length) (.tup []), []⟩) : CallP Try.prog 11 vals v :=
  call_of Try.func11 rfl rfl rfl (cc11.trans (congrArg some he.symm)) hw
theorem gi11 {vals : List V} {rows : Go.Vx.Rows} {K : V → Go.Vx.Rows → Prop} (ac : AC) (he : ac.erase = ac11) (hw : wpC Try.prog rows.length ac (retI [.tmp 6, .tmp 7] K) ⟨vals ++ List.replicate (52 - vals.length) (.tup []), rows⟩) : InlP Try.prog 11 vals rows K :=
  inl_of' Try.func11 rfl rfl rfl (cc11.trans (congrArg some he.symm)) hw
theorem gm11 {vals : List V} {v : V} {sz : Nat} {es es' : List (List V)} (ac : AC) (he : ac.erase = ac11) (hw : wpC Try.prog 1 ac (retM [.tmp 6, .tmp 7] v sz es') ⟨vals ++ List.replicate (52 - vals.length) (.tup []), [.live sz es]⟩) : CallM Try.prog 11 vals sz es v es' :=
  callM_of' Try.func11 rfl rfl rfl (cc11.trans (congrArg some he.symm)) hw

/-- testbench/testbenchref47.Tuple -/
def ac12 : AC :=
  .seq (.reg 1 [⟨(some 3), 0, none, (.op (.box 2 (.t 0)))⟩,
    ⟨(some 6), 1, none, (.op (.mov (.k (.d .nils))))⟩,
    ⟨(some 7), 1, none, (.op (.mov (.k (.d (.bool false)))))⟩])
  (.seq (.seq (.reg 0 [⟨(some 11), 0, none, (.op (.mov (.t 2)))⟩,
    ⟨(some 12), 0, none, (.op (.bin .lss (.t 11) (.k (.d (.int .i64 0)))))⟩,
    ⟨(some 13), 0, none, (.op (.mov (.t 12)))⟩,
    ⟨(some 14), 0, (some (13, false)), (.op (.mov (.t 2)))⟩,
    ⟨(some 15), 0, (some (13, false)), (.op (.load true 2 (.t 3)))⟩,
    ⟨(some 16), 0, (some (13, false)), (.op (.mov (.t 1)))⟩,
    ⟨(some 17), 0, (some (13, false)), (.call (.k (.fn (.func 14) [] [])) [(.t 15), (.t 16)])⟩,
    ⟨(some 18), 0, (some (13, false)), (.op (.bin .geq (.t 14) (.t 17)))⟩,
    ⟨(some 19), 0, none, (.op (.pick (.t 13) (.k (.d (.bool true))) (.t 18)))⟩])
  (.cond (.t 19)
    (.seq (.reg 0 [⟨(some 6), 0, none, (.op (.mov (.k (.d .nils))))⟩,
      ⟨(some 7), 0, none, (.op (.mov (.k (.d (.bool false)))))⟩])
    (.ret))
    (.skip)))
  (.seq (.reg 1 [⟨(some 20), 0, none, (.op (.fldA 1 (.t 3)))⟩,
    ⟨(some 21), 0, none, (.op (.load false 1 (.t 20)))⟩,
    ⟨(some 22), 0, none, (.op (.mov (.t 1)))⟩,
    ⟨(some 23), 0, none, (.op (.idxA 3 none (.t 21) (.t 22)))⟩,
    ⟨(some 24), 0, none, (.op (.fldA 1 (.t 23)))⟩,
    ⟨(some 25), 0, none, (.op (.load false 1 (.t 24)))⟩,
    ⟨(some 26), 0, none, (.op (.len false (.t 25)))⟩,
    ⟨(some 27), 0, none, (.op (.mksl 1 8 [(.int .i64 0)] (.t 26) (.t 26)))⟩,
    ⟨(some 8), 1, none, (.op (.mov (.t 27)))⟩])
  (.seq (.seq (.reg 0 [⟨(some 28), 0, none, (.op (.mov (.t 8)))⟩,
    ⟨(some 29), 0, none, (.op (.len false (.t 28)))⟩,
    ⟨(some 30), 0, none, (.op (.bin .sub (.t 29) (.k (.d (.int .i64 1)))))⟩,
    ⟨(some 9), 0, none, (.op (.mov (.t 30)))⟩])
  (.block 0
   (.loop
    (.seq (.seq (.reg 0 [⟨(some 31), 0, none, (.op (.mov (.t 9)))⟩,
      ⟨(some 32), 0, none, (.op (.bin .geq (.t 31) (.k (.d (.int .i64 0)))))⟩])
    (.cond (.t 32)
      (.skip)
      (.exit 0)))
    (.seq (.block 1
     (.seq (.reg 0 [⟨(some 35), 0, none, (.op (.load true 2 (.t 3)))⟩,
       ⟨(some 36), 0, none, (.op (.mov (.t 1)))⟩,
       ⟨(some 37), 0, none, (.op (.mov (.t 9)))⟩,
       ⟨(some 38), 0, none, (.call (.k (.fn (.func 27) [] [])) [(.t 35), (.t 36), (.t 37)])⟩,
       ⟨(some 10), 0, none, (.op (.mov (.t 38)))⟩])
     (.seq (.reg 0 [⟨(some 39), 0, none, (.op (.mov (.t 8)))⟩,
       ⟨(some 40), 0, none, (.op (.mov (.t 9)))⟩,
       ⟨(some 41), 0, none, (.op (.mov (.t 2)))⟩,
       ⟨(some 42), 0, none, (.op (.mov (.t 10)))⟩,
       ⟨(some 43), 0, none, (.op (.bin .rem (.t 41) (.t 42)))⟩,
       ⟨(some 44), 0, none, (.op (.idxA 1 none (.t 39) (.t 40)))⟩,
       ⟨none, 0, none, (.op (.store 1 (.t 44) (.t 43)))⟩])
     (.reg 0 [⟨(some 45), 0, none, (.op (.mov (.t 2)))⟩,
       ⟨(some 46), 0, none, (.op (.mov (.t 10)))⟩,
       ⟨(some 47), 0, none, (.op (.bin .quo (.t 45) (.t 46)))⟩,
       ⟨(some 2), 0, none, (.op (.mov (.t 47)))⟩]))))
    (.reg 0 [⟨(some 33), 0, none, (.op (.mov (.t 9)))⟩,
      ⟨(some 34), 0, none, (.op (.bin .sub (.t 33) (.k (.d (.int .i64 1)))))⟩,
      ⟨(some 9), 0, none, (.op (.mov (.t 34)))⟩]))))))
  (.seq (.reg 0 [⟨(some 48), 0, none, (.op (.mov (.t 8)))⟩,
    ⟨(some 6), 0, none, (.op (.mov (.t 48)))⟩,
    ⟨(some 7), 0, none, (.op (.mov (.k (.d (.bool true)))))⟩])
  (.ret)))))
theorem cc12 : Try.f12.body.bind (compC Try.prog) = some ac12 := by kernel_rfl
theorem go12 {vals : List V} {v : V} (ac : AC) (he : ac.erase = ac12) (hw : wpC Try.prog 0 ac (retQ [.tmp 6, .tmp 7] v) ⟨vals ++ List.replicate (49 - vals.length) (.tup []), []⟩) : CallP Try.prog 12 vals v :=
  call_of Try.func12 rfl rfl rfl (cc12.trans (congrArg some he.symm)) hw
theorem gi12 {vals : List V} {rows : Go.Vx.Rows} {K : V → Go.Vx.Rows → Prop} (ac : AC) (he : ac.erase = ac12) (hw : wpC Try.prog rows.length ac (retI [.tmp 6, .tmp 7] K) ⟨vals ++ List.replicate (49 - vals.length) (.tup []), rows⟩) : InlP Try.prog 12 vals rows K :=
  inl_of' Try.func12 rfl rfl rfl (cc12.trans (congrArg some he.symm)) hw
theorem gm12 {vals : List V} {v : V} {sz : Nat} {es es' : List (List V)} (ac : AC) (he : ac.erase = ac12) (hw : wpC Try.prog 1 ac (retM [.tmp 6, .tmp 7] v sz es') ⟨vals ++ List.replicate (49 - vals.length) (.tup []), [.live sz es]⟩) : CallM Try.prog 12 vals sz es v es' :=
  callM_of' Try.func12 rfl rfl rfl (cc12.trans (congrArg some he.symm)) hw

/-- testbench/cross.Size -/
def ac13 : AC :=
  .seq (.reg 1 [⟨(some 2), 0, none, (.op (.box 2 (.t 0)))⟩,
    ⟨(some 4), 1, none, (.op (.mov (.k (.d (.int .i64 0)))))⟩])
  (.seq (.seq (.reg 0 [⟨(some 8), 0, none, (.op (.load true 2 (.t 2)))⟩,
    ⟨(some 9), 0, none, (.op (.mov (.t 1)))⟩,
    ⟨(some 10), 0, none, (.call (.k (.fn (.func 28) [] [])) [(.t 8), (.t 9)])⟩,
    ⟨(some 11), 0, none, (.op (.un .not (.t 10)))⟩])
  (.cond (.t 11)
    (.seq (.reg 0 [⟨(some 4), 0, none, (.op (.mov (.k (.d (.int .i64 0)))))⟩])
    (.ret))
    (.skip)))
  (.seq (.reg 0 [⟨(some 5), 0, none, (.op (.mov (.k (.d (.int .i64 1)))))⟩])
  (.seq (.seq (.reg 0 [⟨(some 12), 0, none, (.op (.load true 2 (.t 2)))⟩,
    ⟨(some 13), 0, none, (.op (.mov (.t 1)))⟩,
    ⟨(some 14), 0, none, (.call (.k (.fn (.func 26) [] [])) [(.t 12), (.t 13)])⟩,
    ⟨(some 15), 0, none, (.op (.len false (.t 14)))⟩,
    ⟨(some 16), 0, none, (.op (.mov (.k (.d (.int .i64 0)))))⟩])
  (.block 0
   (.loop
    (.seq (.reg 0 [⟨(some 17), 0, none, (.op (.bin .lss (.t 16) (.t 15)))⟩])
    (.seq (.cond (.t 17)
      (.skip)
      (.exit 0))
    (.seq (.block 1
     (.seq (.reg 0 [⟨(some 18), 0, none, (.op (.idxA 1 none (.t 14) (.t 16)))⟩,
       ⟨(some 19), 0, none, (.op (.load false 1 (.t 18)))⟩,
       ⟨(some 7), 0, none, (.op (.mov (.t 19)))⟩])
     (.reg 0 [⟨(some 20), 0, none, (.op (.mov (.t 5)))⟩,
       ⟨(some 21), 0, none, (.op (.mov (.t 7)))⟩,
       ⟨(some 22), 0, none, (.op (.bin .mul (.t 20) (.t 21)))⟩,
       ⟨(some 5), 0, none, (.op (.mov (.t 22)))⟩])))
    (.reg 0 [⟨(some 23), 0, none, (.op (.bin .add (.t 16) (.k (.d (.int .i64 1)))))⟩,
      ⟨(some 16), 0, none, (.op (.mov (.t 23)))⟩])))))))
  (.seq (.reg 0 [⟨(some 24), 0, none, (.op (.mov (.t 5)))⟩,
    ⟨(some 4), 0, none, (.op (.mov (.t 24)))⟩])
  (.ret)))))
theorem cc13 : Try.f13.body.bind (compC Try.prog) = some ac13 := by kernel_rfl
theorem go13 {vals : List V} {v : V} (ac : AC) (he : ac.erase = ac13) (hw : wpC Try.prog 0 ac (retQ [.tmp 4] v) ⟨vals ++ List.replicate (25 - vals.length) (.tup []), []⟩) : CallP Try.prog 13 vals v :=
  call_of Try.func13 rfl rfl rfl (cc13.trans (congrArg some he.symm)) hw
theorem gi13 {vals : List V} {rows : Go.Vx.Rows} {K : V → Go.Vx.Rows → Prop} (ac : AC) (he : ac.erase = ac13) (hw : wpC Try.prog rows.length ac (retI [.tmp 4] K) ⟨vals ++ List.replicate (25 - vals.length) (.tup []), rows⟩) : InlP Try.prog 13 vals rows K :=
  inl_of' Try.func13 rfl rfl rfl (cc13.trans (congrArg some he.symm)) hw
theorem gm13 {vals : List V} {v : V} {sz : Nat} {es es' : List (List V)} (ac : AC) (he : ac.erase = ac13) (hw : wpC Try.prog 1 ac (retM [.tmp 4] v sz es') ⟨vals ++ List.replicate (25 - vals.length) (.tup []), [.live sz es]⟩) : CallM Try.prog 13 vals sz es v es' :=
  callM_of' Try.func13 rfl rfl rfl (cc13.trans (congrArg some he.symm)) hw

/-- testbench/testbenchref47.Size -/
def ac14 : AC :=
  .seq (.reg 1 [⟨(some 2), 0, none, (.op (.box 2 (.t 0)))⟩,
    ⟨(some 4), 1, none, (.op (.mov (.k (.d (.int .i64 0)))))⟩])
  (.seq (.seq (.reg 0 [⟨(some 7), 0, none, (.op (.load true 2 (.t 2)))⟩,
    ⟨(some 8), 0, none, (.op (.mov (.t 1)))⟩,
    ⟨(some 9), 0, none, (.call (.k (.fn (.func 29) [] [])) [(.t 7), (.t 8)])⟩,
    ⟨(some 10), 0, none, (.op (.un .not (.t 9)))⟩])
  (.cond (.t 10)
    (.seq (.reg 0 [⟨(some 4), 0, none, (.op (.mov (.k (.d (.int .i64 0)))))⟩])
    (.ret))
    (.skip)))
  (.seq (.reg 0 [⟨(some 5), 0, none, (.op (.mov (.k (.d (.int .i64 1)))))⟩])
  (.seq (.seq (.reg 0 [⟨(some 6), 0, none, (.op (.mov (.k (.d (.int .i64 0)))))⟩])
  (.block 0
   (.loop
    (.seq (.seq (.reg 0 [⟨(some 11), 0, none, (.op (.mov (.t 6)))⟩,
      ⟨(some 12), 0, none, (.op (.fldA 1 (.t 2)))⟩,
      ⟨(some 13), 0, none, (.op (.load false 1 (.t 12)))⟩,
      ⟨(some 14), 0, none, (.op (.mov (.t 1)))⟩,
      ⟨(some 15), 0, none, (.op (.idxA 3 none (.t 13) (.t 14)))⟩,
      ⟨(some 16), 0, none, (.op (.fldA 1 (.t 15)))⟩,
      ⟨(some 17), 0, none, (.op (.load false 1 (.t 16)))⟩,
      ⟨(some 18), 0, none, (.op (.len false (.t 17)))⟩,
      ⟨(some 19), 0, none, (.op (.bin .lss (.t 11) (.t 18)))⟩])
    (.cond (.t 19)
      (.skip)
      (.exit 0)))
    (.seq (.block 1
     (.reg 0 [⟨(some 22), 0, none, (.op (.mov (.t 5)))⟩,
       ⟨(some 23), 0, none, (.op (.load true 2 (.t 2)))⟩,
       ⟨(some 24), 0, none, (.op (.mov (.t 1)))⟩,
       ⟨(some 25), 0, none, (.op (.mov (.t 6)))⟩,
       ⟨(some 26), 0, none, (.call (.k (.fn (.func 27) [] [])) [(.t 23), (.t 24), (.t 25)])⟩,
       ⟨(some 27), 0, none, (.op (.bin .mul (.t 22) (.t 26)))⟩,
       ⟨(some 5), 0, none, (.op (.mov (.t 27)))⟩]))
    (.reg 0 [⟨(some 20), 0, none, (.op (.mov (.t 6)))⟩,
      ⟨(some 21), 0, none, (.op (.bin .add (.t 20) (.k (.d (.int .i64 1)))))⟩,
      ⟨(some 6), 0, none, (.op (.mov (.t 21)))⟩]))))))
  (.seq (.reg 0 [⟨(some 28), 0, none, (.op (.mov (.t 5)))⟩,
    ⟨(some 4), 0, none, (.op (.mov (.t 28)))⟩])
  (.ret)))))
theorem cc14 : Try.f14.body.bind (compC Try.prog) = some ac14 := by kernel_rfl
theorem go14 {vals : List V} {v : V} (ac : AC) (he : ac.erase = ac14) (hw : wpC Try.prog 0 ac (retQ [.tmp 4] v) ⟨vals ++ List.replicate (29 - vals.length) (.tup []), []⟩) : CallP Try.prog 14 vals v :=
  call_of Try.func14 rfl rfl rfl (cc14.trans (congrArg some he.symm)) hw
theorem gi14 {vals : List V} {rows : Go.Vx.Rows} {K : V → Go.Vx.Rows → Prop} (ac : AC) (he : ac.erase = ac14) (hw : wpC Try.prog rows.length ac (retI [.tmp 4] K) ⟨vals ++ List.replicate (29 - vals.length) (.tup []), rows⟩) : InlP Try.prog 14 vals rows K :=
  inl_of' Try.func14 rfl rfl rfl (cc14.trans (congrArg some he.symm)) hw
theorem gm14 {vals : List V} {v : V} {sz : Nat} {es es' : List (List V)} (ac : AC) (he : ac.erase = ac14) (hw : wpC Try.prog 1 ac (retM [.tmp 4] v sz es') ⟨vals ++ List.replicate (29 - vals.length) (.tup []), [.live sz es]⟩) : CallM Try.prog 14 vals sz es v es' :=
  callM_of' Try.func14 rfl rfl rfl (cc14.trans (congrArg some he.symm)) hw

/-- testbench/testbenchlaw47.ints -/
def ac15 : AC :=
  .seq (.reg 0 [⟨(some 4), 0, none, (.op (.mov (.k (.d (.bool false)))))⟩])
  (.seq (.seq (.reg 0 [⟨(some 6), 0, none, (.op (.mov (.t 0)))⟩,
    ⟨(some 7), 0, none, (.op (.len false (.t 6)))⟩,
    ⟨(some 8), 0, none, (.op (.mov (.t 1)))⟩,
    ⟨(some 9), 0, none, (.op (.len false (.t 8)))⟩,
    ⟨(some 10), 0, none, (.op (.bin .neq (.t 7) (.t 9)))⟩])
  (.cond (.t 10)
    (.seq (.reg 0 [⟨(some 4), 0, none, (.op (.mov (.k (.d (.bool false)))))⟩])
    (.ret))
    (.skip)))
  (.seq (.seq (.reg 0 [⟨(some 5), 0, none, (.op (.mov (.k (.d (.int .i64 0)))))⟩])
  (.block 0
   (.loop
    (.seq (.seq (.reg 0 [⟨(some 11), 0, none, (.op (.mov (.t 5)))⟩,
      ⟨(some 12), 0, none, (.op (.mov (.t 0)))⟩,
      ⟨(some 13), 0, none, (.op (.len false (.t 12)))⟩,
      ⟨(some 14), 0, none, (.op (.bin .lss (.t 11) (.t 13)))⟩])
    (.cond (.t 14)
      (.skip)
      (.exit 0)))
    (.seq (.block 1
     (.seq (.regD 0 [(⟨(some 17), 0, none, (.op (.mov (.t 0)))⟩, []),
       (⟨(some 18), 0, none, (.op (.mov (.t 5)))⟩, []),
       (⟨(some 19), 0, none, (.op (.idxA 1 none (.t 17) (.t 18)))⟩, [0, 1]),
       (⟨(some 20), 0, none, (.op (.load false 1 (.t 19)))⟩, [2, 0, 1]),
       (⟨(some 21), 0, none, (.op (.mov (.t 1)))⟩, []),
       (⟨(some 22), 0, none, (.op (.mov (.t 5)))⟩, []),
       (⟨(some 23), 0, none, (.op (.idxA 1 none (.t 21) (.t 22)))⟩, [4, 5]),
       (⟨(some 24), 0, none, (.op (.load false 1 (.t 23)))⟩, [6, 4, 5]),
       (⟨(some 25), 0, none, (.op (.bin .neq (.t 20) (.t 24)))⟩, [3, 2, 0, 1, 7, 6, 4, 5])])
     (.cond (.t 25)
       (.seq (.reg 0 [⟨(some 4), 0, none, (.op (.mov (.k (.d (.bool false)))))⟩])
       (.ret))
       (.skip))))
    (.reg 0 [⟨(some 15), 0, none, (.op (.mov (.t 5)))⟩,
      ⟨(some 16), 0, none, (.op (.bin .add (.t 15) (.k (.d (.int .i64 1)))))⟩,
      ⟨(some 5), 0, none, (.op (.mov (.t 16)))⟩]))))))
  (.seq (.reg 0 [⟨(some 4), 0, none, (.op (.mov (.k (.d (.bool true)))))⟩])
  (.ret))))
theorem cc15 : Try.f15.body.bind (compC Try.prog) = some ac15 := by kernel_rfl
theorem go15 {vals : List V} {v : V} (ac : AC) (he : ac.erase = ac15) (hw : wpC Try.prog 0 ac (retQ [.tmp 4] v) ⟨vals ++ List.replicate (26 - vals.length) (.tup []), []⟩) : CallP Try.prog 15 vals v :=
  call_of Try.func15 rfl rfl rfl (cc15.trans (congrArg some he.symm)) hw
theorem gi15 {vals : List V} {rows : Go.Vx.Rows} {K : V → Go.Vx.Rows → Prop} (ac : AC) (he : ac.erase = ac15) (hw : wpC Try.prog rows.length ac (retI [.tmp 4] K) ⟨vals ++ List.replicate (26 - vals.length) (.tup []), rows⟩) : InlP Try.prog 15 vals rows K :=
  inl_of' Try.func15 rfl rfl rfl (cc15.trans (congrArg some he.symm)) hw
theorem gm15 {vals : List V} {v : V} {sz : Nat} {es es' : List (List V)} (ac : AC) (he : ac.erase = ac15) (hw : wpC Try.prog 1 ac (retM [.tmp 4] v sz es') ⟨vals ++ List.replicate (26 - vals.length) (.tup []), [.live sz es]⟩) : CallM Try.prog 15 vals sz es v es' :=
  callM_of' Try.func15 rfl rfl rfl (cc15.trans (congrArg some he.symm)) hw

/-- testbench/cross.Index -/
def ac16 : AC :=
  .seq (.reg 1 [⟨(some 3), 0, none, (.op (.box 2 (.t 0)))⟩,
    ⟨(some 6), 1, none, (.op (.mov (.k (.d (.int .i64 0)))))⟩,
    ⟨(some 7), 1, none, (.op (.mov (.k (.d (.bool false)))))⟩])
  (.seq (.seq (.reg 0 [⟨(some 12), 0, none, (.op (.load true 2 (.t 3)))⟩,
    ⟨(some 13), 0, none, (.op (.mov (.t 1)))⟩,
    ⟨(some 14), 0, none, (.call (.k (.fn (.func 28) [] [])) [(.t 12), (.t 13)])⟩,
    ⟨(some 15), 0, none, (.op (.un .not (.t 14)))⟩])
  (.cond (.t 15)
    (.seq (.reg 0 [⟨(some 6), 0, none, (.op (.mov (.k (.d (.int .i64 0)))))⟩,
      ⟨(some 7), 0, none, (.op (.mov (.k (.d (.bool false)))))⟩])
    (.ret))
    (.skip)))
  (.seq (.reg 0 [⟨(some 16), 0, none, (.op (.load true 2 (.t 3)))⟩,
    ⟨(some 17), 0, none, (.op (.mov (.t 1)))⟩,
    ⟨(some 18), 0, none, (.call (.k (.fn (.func 26) [] [])) [(.t 16), (.t 17)])⟩,
    ⟨(some 8), 0, none, (.op (.mov (.t 18)))⟩])
  (.seq (.seq (.reg 0 [⟨(some 19), 0, none, (.op (.mov (.t 2)))⟩,
    ⟨(some 20), 0, none, (.op (.len false (.t 19)))⟩,
    ⟨(some 21), 0, none, (.op (.mov (.t 8)))⟩,
    ⟨(some 22), 0, none, (.op (.len false (.t 21)))⟩,
    ⟨(some 23), 0, none, (.op (.bin .neq (.t 20) (.t 22)))⟩])
  (.cond (.t 23)
    (.seq (.reg 0 [⟨(some 6), 0, none, (.op (.mov (.k (.d (.int .i64 0)))))⟩,
      ⟨(some 7), 0, none, (.op (.mov (.k (.d (.bool false)))))⟩])
    (.ret))
    (.skip)))
  (.seq (.reg 0 [⟨(some 9), 0, none, (.op (.mov (.k (.d (.int .i64 0)))))⟩])
  (.seq (.seq (.reg 0 [⟨(some 24), 0, none, (.op (.mov (.t 2)))⟩,
    ⟨(some 25), 0, none, (.op (.len false (.t 24)))⟩,
    ⟨(some 26), 0, none, (.op (.mov (.k (.d (.int .i64 0)))))⟩])
  (.block 0
   (.loop
    (.seq (.reg 0 [⟨(some 27), 0, none, (.op (.bin .lss (.t 26) (.t 25)))⟩])
    (.seq (.cond (.t 27)
      (.skip)
      (.exit 0))
    (.seq (.block 1
     (.seq (.reg 0 [⟨(some 28), 0, none, (.op (.mov (.t 26)))⟩,
       ⟨(some 29), 0, none, (.op (.idxA 1 none (.t 24) (.t 26)))⟩,
       ⟨(some 30), 0, none, (.op (.load false 1 (.t 29)))⟩,
       ⟨(some 10), 0, none, (.op (.mov (.t 28)))⟩,
       ⟨(some 11), 0, none, (.op (.mov (.t 30)))⟩])
     (.seq (.seq (.reg 0 [⟨(some 31), 0, none, (.op (.mov (.t 11)))⟩,
       ⟨(some 32), 0, none, (.op (.bin .lss (.t 31) (.k (.d (.int .i64 0)))))⟩,
       ⟨(some 33), 0, none, (.op (.mov (.t 32)))⟩,
       ⟨(some 34), 0, (some (33, false)), (.op (.mov (.t 11)))⟩,
       ⟨(some 35), 0, (some (33, false)), (.op (.mov (.t 8)))⟩,
       ⟨(some 36), 0, (some (33, false)), (.op (.mov (.t 10)))⟩,
       ⟨(some 37), 0, (some (33, false)), (.op (.idxA 1 none (.t 35) (.t 36)))⟩,
       ⟨(some 38), 0, (some (33, false)), (.op (.load false 1 (.t 37)))⟩,
       ⟨(some 39), 0, (some (33, false)), (.op (.bin .geq (.t 34) (.t 38)))⟩,
       ⟨(some 40), 0, none, (.op (.pick (.t 33) (.k (.d (.bool true))) (.t 39)))⟩])
     (.cond (.t 40)
       (.seq (.reg 0 [⟨(some 6), 0, none, (.op (.mov (.k (.d (.int .i64 0)))))⟩,
         ⟨(some 7), 0, none, (.op (.mov (.k (.d (.bool false)))))⟩])
       (.ret))
       (.skip)))
     (.reg 0 [⟨(some 41), 0, none, (.op (.mov (.t 9)))⟩,
       ⟨(some 42), 0, none, (.op (.mov (.t 8)))⟩,
       ⟨(some 43), 0, none, (.op (.mov (.t 10)))⟩,
       ⟨(some 44), 0, none, (.op (.idxA 1 none (.t 42) (.t 43)))⟩,
       ⟨(some 45), 0, none, (.op (.load false 1 (.t 44)))⟩,
       ⟨(some 46), 0, none, (.op (.bin .mul (.t 41) (.t 45)))⟩,
       ⟨(some 47), 0, none, (.op (.mov (.t 11)))⟩,
       ⟨(some 48), 0, none, (.op (.bin .add (.t 46) (.t 47)))⟩,
       ⟨(some 9), 0, none, (.op (.mov (.t 48)))⟩]))))
    (.reg 0 [⟨(some 49), 0, none, (.op (.bin .add (.t 26) (.k (.d (.int .i64 1)))))⟩,
      ⟨(some 26), 0, none, (.op (.mov (.t 49)))⟩])))))))
  (.seq (.reg 0 [⟨(some 50), 0, none, (.op (.mov (.t 9)))⟩,
    ⟨(some 6), 0, none, (.op (.mov (.t 50)))⟩,
    ⟨(some 7), 0, none, (.op (.mov (.k (.d (.bool true)))))⟩])
  (.ret)))))))
theorem cc16 : Try.f16.body.bind (compC Try.prog) = some ac16 := by kernel_rfl
theorem go16 {vals : List V} {v : V} (ac : AC) (he : ac.erase = ac16) (hw : wpC Try.prog 0 ac (retQ [.tmp 6, .tmp 7] v) ⟨vals ++ List.replicate (51 - vals.length) (.tup []), []⟩) : CallP Try.prog 16 vals v :=
  call_of Try.func16 rfl rfl rfl (cc16.trans (congrArg some he.symm)) hw
theorem gi16 {vals : List V} {rows : Go.Vx.Rows} {K : V → Go.Vx.Rows → Prop} (ac : AC) (he : ac.erase = ac16) (hw : wpC Try.prog rows.length ac (retI [.tmp 6, .tmp 7] K) ⟨vals ++ List.replicate (51 - vals.length) (.tup []), rows⟩) : InlP Try.prog 16 vals rows K :=
  inl_of' Try.func16 rfl rfl rfl (cc16.trans (congrArg some he.symm)) hw
theorem gm16 {vals : List V} {v : V} {sz : Nat} {es es' : List (List V)} (ac : AC) (he : ac.erase = ac16) (hw : wpC Try.prog 1 ac (retM [.tmp 6, .tmp 7] v sz es') ⟨vals ++ List.replicate (51 - vals.length) (.tup []), [.live sz es]⟩) : CallM Try.prog 16 vals sz es v es' :=
  callM_of' Try.func16 rfl rfl rfl (cc16.trans (congrArg some he.symm)) hw

/-- testbench/testbenchref47.Index -/
def ac17 : AC :=
  .seq (.reg 1 [⟨(some 3), 0, none, (.op (.box 2 (.t 0)))⟩,
    ⟨(some 6), 1, none, (.op (.mov (.k (.d (.int .i64 0)))))⟩,
    ⟨(some 7), 1, none, (.op (.mov (.k (.d (.bool false)))))⟩])
  (.seq (.seq (.reg 0 [⟨(some 11), 0, none, (.op (.load true 2 (.t 3)))⟩,
    ⟨(some 12), 0, none, (.op (.mov (.t 1)))⟩,
    ⟨(some 13), 0, none, (.call (.k (.fn (.func 29) [] [])) [(.t 11), (.t 12)])⟩,
    ⟨(some 14), 0, none, (.op (.un .not (.t 13)))⟩,
    ⟨(some 15), 0, none, (.op (.mov (.t 14)))⟩,
    ⟨(some 16), 0, (some (15, false)), (.op (.mov (.t 2)))⟩,
    ⟨(some 17), 0, (some (15, false)), (.op (.len false (.t 16)))⟩,
    ⟨(some 18), 0, (some (15, false)), (.op (.fldA 1 (.t 3)))⟩,
    ⟨(some 19), 0, (some (15, false)), (.op (.load false 1 (.t 18)))⟩,
    ⟨(some 20), 0, (some (15, false)), (.op (.mov (.t 1)))⟩,
    ⟨(some 21), 0, (some (15, false)), (.op (.idxA 3 none (.t 19) (.t 20)))⟩,
    ⟨(some 22), 0, (some (15, false)), (.op (.fldA 1 (.t 21)))⟩,
    ⟨(some 23), 0, (some (15, false)), (.op (.load false 1 (.t 22)))⟩,
    ⟨(some 24), 0, (some (15, false)), (.op (.len false (.t 23)))⟩,
    ⟨(some 25), 0, (some (15, false)), (.op (.bin .neq (.t 17) (.t 24)))⟩,
    ⟨(some 26), 0, none, (.op (.pick (.t 15) (.k (.d (.bool true))) (.t 25)))⟩])
  (.cond (.t 26)
    (.seq (.reg 0 [⟨(some 6), 0, none, (.op (.mov (.k (.d (.int .i64 0)))))⟩,
      ⟨(some 7), 0, none, (.op (.mov (.k (.d (.bool false)))))⟩])
    (.ret))
    (.skip)))
  (.seq (.reg 0 [⟨(some 8), 0, none, (.op (.mov (.k (.d (.int .i64 0)))))⟩])
  (.seq (.seq (.reg 0 [⟨(some 9), 0, none, (.op (.mov (.k (.d (.int .i64 0)))))⟩])
  (.block 0
   (.loop
    (.seq (.seq (.reg 0 [⟨(some 27), 0, none, (.op (.mov (.t 9)))⟩,
      ⟨(some 28), 0, none, (.op (.mov (.t 2)))⟩,
      ⟨(some 29), 0, none, (.op (.len false (.t 28)))⟩,
      ⟨(some 30), 0, none, (.op (.bin .lss (.t 27) (.t 29)))⟩])
    (.cond (.t 30)
      (.skip)
      (.exit 0)))
    (.seq (.block 1
     (.seq (.reg 0 [⟨(some 33), 0, none, (.op (.load true 2 (.t 3)))⟩,
       ⟨(some 34), 0, none, (.op (.mov (.t 1)))⟩,
       ⟨(some 35), 0, none, (.op (.mov (.t 9)))⟩,
       ⟨(some 36), 0, none, (.call (.k (.fn (.func 27) [] [])) [(.t 33), (.t 34), (.t 35)])⟩,
       ⟨(some 10), 0, none, (.op (.mov (.t 36)))⟩])
     (.seq (.seq (.reg 0 [⟨(some 37), 0, none, (.op (.mov (.t 2)))⟩,
       ⟨(some 38), 0, none, (.op (.mov (.t 9)))⟩,
       ⟨(some 39), 0, none, (.op (.idxA 1 none (.t 37) (.t 38)))⟩,
       ⟨(some 40), 0, none, (.op (.load false 1 (.t 39)))⟩,
       ⟨(some 41), 0, none, (.op (.bin .lss (.t 40) (.k (.d (.int .i64 0)))))⟩,
       ⟨(some 42), 0, none, (.op (.mov (.t 41)))⟩,
       ⟨(some 43), 0, (some (42, false)), (.op (.mov (.t 2)))⟩,
       ⟨(some 44), 0, (some (42, false)), (.op (.mov (.t 9)))⟩,
       ⟨(some 45), 0, (some (42, false)), (.op (.idxA 1 none (.t 43) (.t 44)))⟩,
       ⟨(some 46), 0, (some (42, false)), (.op (.load false 1 (.t 45)))⟩,
       ⟨(some 47), 0, (some (42, false)), (.op (.mov (.t 10)))⟩,
       ⟨(some 48), 0, (some (42, false)), (.op (.bin .geq (.t 46) (.t 47)))⟩,
       ⟨(some 49), 0, none, (.op (.pick (.t 42) (.k (.d (.bool true))) (.t 48)))⟩])
     (.cond (.t 49)
       (.seq (.reg 0 [⟨(some 6), 0, none, (.op (.mov (.k (.d (.int .i64 0)))))⟩,
         ⟨(some 7), 0, none, (.op (.mov (.k (.d (.bool false)))))⟩])
       (.ret))
       (.skip)))
     (.reg 0 [⟨(some 50), 0, none, (.op (.mov (.t 8)))⟩,
       ⟨(some 51), 0, none, (.op (.mov (.t 10)))⟩,
       ⟨(some 52), 0, none, (.op (.bin .mul (.t 50) (.t 51)))⟩,
       ⟨(some 53), 0, none, (.op (.mov (.t 2)))⟩,
       ⟨(some 54), 0, none, (.op (.mov (.t 9)))⟩,
       ⟨(some 55), 0, none, (.op (.idxA 1 none (.t 53) (.t 54)))⟩,
       ⟨(some 56), 0, none, (.op (.load false 1 (.t 55)))⟩,
       ⟨(some 57), 0, none, (.op (.bin .add (.t 52) (.t 56)))⟩,
       ⟨(some 8), 0, none, (.op (.mov (.t 57)))⟩]))))
    (.reg 0 [⟨(some 31), 0, none, (.op (.mov (.t 9)))⟩,
      ⟨(some 32), 0, none, (.op (.bin .add (.t 31) (.k (.d (.int .i64 1)))))⟩,
      ⟨(some 9), 0, none, (.op (.mov (.t 32)))⟩]))))))
  (.seq (.reg 0 [⟨(some 58), 0, none, (.op (.mov (.t 8)))⟩,
    ⟨(some 6), 0, none, (.op (.mov (.t 58)))⟩,
    ⟨(some 7), 0, none, (.op (.mov (.k (.d (.bool true)))))⟩])
  (.ret)))))
theorem cc17 : Try.f17.body.bind (compC Try.prog) = some ac17 := by kernel_rfl
theorem go17 {vals : List V} {v : V} (ac : AC) (he : ac.erase = ac17) (hw : wpC Try.prog 0 ac (retQ [.tmp 6, .tmp 7] v) ⟨vals ++ List.replicate (59 - vals.length) (.tup []), []⟩) : CallP Try.prog 17 vals v :=
  call_of Try.func17 rfl rfl rfl (cc17.trans (congrArg some he.symm)) hw
theorem gi17 {vals : List V} {rows : Go.Vx.Rows} {K : V → Go.Vx.Rows → Prop} (ac : AC) (he : ac.erase = ac17) (hw : wpC Try.prog rows.length ac (retI [.tmp 6, .tmp 7] K) ⟨vals ++ List.replicate (59 - vals.length) (.tup []), rows⟩) : InlP Try.prog 17 vals rows K :=
  inl_of' Try.func17 rfl rfl rfl (cc17.trans (congrArg some he.symm)) hw
theorem gm17 {vals : List V} {v : V} {sz : Nat} {es es' : List (List V)} (ac : AC) (he : ac.erase = ac17) (hw : wpC Try.prog 1 ac (retM [.tmp 6, .tmp 7] v sz es') ⟨vals ++ List.replicate (59 - vals.length) (.tup []), [.live sz es]⟩) : CallM Try.prog 17 vals sz es v es' :=
  callM_of' Try.func17 rfl rfl rfl (cc17.trans (congrArg some he.symm)) hw

/-- testbench/cross.Excluded -/
def ac18 : AC :=
  .seq (.reg 2 [⟨(some 3), 0, none, (.op (.box 2 (.t 0)))⟩,
    ⟨(some 5), 1, none, (.op (.box 1 (.t 2)))⟩,
    ⟨(some 6), 2, none, (.op (.mov (.k (.d (.bool false)))))⟩])
  (.seq (.seq (.reg 0 [⟨(some 12), 0, none, (.op (.load true 2 (.t 3)))⟩,
    ⟨(some 13), 0, none, (.op (.mov (.t 1)))⟩,
    ⟨(some 14), 0, none, (.op (.load false 1 (.t 5)))⟩,
    ⟨(some 15), 0, none, (.call (.k (.fn (.func 16) [] [])) [(.t 12), (.t 13), (.t 14)])⟩,
    ⟨(some 11), 0, none, (.op (.mov (.t 15)))⟩,
    ⟨(some 16), 0, none, (.op (.ext (.t 11) 0))⟩,
    ⟨(some 17), 0, none, (.op (.ext (.t 11) 1))⟩,
    ⟨(some 7), 0, none, (.op (.mov (.t 16)))⟩,
    ⟨(some 8), 0, none, (.op (.mov (.t 17)))⟩])
  (.seq (.reg 0 [⟨(some 18), 0, none, (.op (.mov (.t 8)))⟩,
    ⟨(some 19), 0, none, (.op (.un .not (.t 18)))⟩])
  (.cond (.t 19)
    (.seq (.reg 0 [⟨(some 6), 0, none, (.op (.mov (.k (.d (.bool false)))))⟩])
    (.ret))
    (.skip))))
  (.seq (.seq (.reg 0 [⟨(some 20), 0, none, (.op (.fldA 1 (.t 3)))⟩,
    ⟨(some 21), 0, none, (.op (.load false 1 (.t 20)))⟩,
    ⟨(some 22), 0, none, (.op (.mov (.t 1)))⟩,
    ⟨(some 23), 0, none, (.op (.idxA 3 none (.t 21) (.t 22)))⟩,
    ⟨(some 24), 0, none, (.op (.fldA 1 (.t 23)))⟩,
    ⟨(some 25), 0, none, (.op (.load false 1 (.t 24)))⟩,
    ⟨(some 26), 0, none, (.op (.len false (.t 25)))⟩,
    ⟨(some 27), 0, none, (.op (.mov (.k (.d (.int .i64 0)))))⟩])
  (.block 0
   (.loop
    (.seq (.reg 0 [⟨(some 28), 0, none, (.op (.bin .lss (.t 27) (.t 26)))⟩])
    (.seq (.cond (.t 28)
      (.skip)
      (.exit 0))
    (.seq (.block 1
     (.seq (.reg 0 [⟨(some 29), 0, none, (.op (.mov (.t 27)))⟩,
       ⟨(some 30), 0, none, (.op (.idxA 1 none (.t 25) (.t 27)))⟩,
       ⟨(some 31), 0, none, (.op (.load false 1 (.t 30)))⟩,
       ⟨(some 9), 0, none, (.op (.mov (.t 29)))⟩,
       ⟨(some 10), 0, none, (.op (.mov (.t 31)))⟩])
     (.seq (.regD 0 [(⟨(some 32), 0, none, (.op (.fldA 0 (.t 3)))⟩, []),
       (⟨(some 33), 0, none, (.op (.load false 1 (.t 32)))⟩, [0]),
       (⟨(some 34), 0, none, (.op (.mov (.t 10)))⟩, []),
       (⟨(some 35), 0, none, (.op (.idxA 6 none (.t 33) (.t 34)))⟩, [1, 0, 2]),
       (⟨(some 36), 0, none, (.op (.fldA 5 (.t 35)))⟩, [3, 1, 0, 2]),
       (⟨(some 37), 0, none, (.op (.load false 1 (.t 36)))⟩, [4, 3, 1, 0, 2]),
       (⟨(some 38), 0, none, (.op (.load false 1 (.t 5)))⟩, []),
       (⟨(some 39), 0, none, (.op (.mov (.t 9)))⟩, []),
       (⟨(some 40), 0, none, (.op (.idxA 1 none (.t 38) (.t 39)))⟩, [6, 7]),
       (⟨(some 41), 0, none, (.op (.load false 1 (.t 40)))⟩, [8, 6, 7]),
       (⟨(some 42), 0, none, (.op (.idxA 4 none (.t 37) (.t 41)))⟩, [5, 4, 3, 1, 0, 2, 9, 8, 6, 7]),
       (⟨(some 43), 0, none, (.op (.fldA 1 (.t 42)))⟩, [10, 5, 4, 3, 1, 0, 2, 9, 8, 6, 7]),
       (⟨(some 44), 0, none, (.op (.load false 1 (.t 43)))⟩, [11, 10, 5, 4, 3, 1, 0, 2, 9, 8, 6, 7]),
       (⟨(some 45), 0, none, (.op (.bin .neq (.t 44) (.k (.d (.int .i64 0)))))⟩, [12, 11, 10, 5, 4, 3, 1, 0, 2, 9, 8, 6, 7])])
     (.cond (.t 45)
       (.seq (.reg 0 [⟨(some 6), 0, none, (.op (.mov (.k (.d (.bool true)))))⟩])
       (.ret))
       (.skip)))))
    (.reg 0 [⟨(some 46), 0, none, (.op (.bin .add (.t 27) (.k (.d (.int .i64 1)))))⟩,
      ⟨(some 27), 0, none, (.op (.mov (.t 46)))⟩])))))))
  (.seq (.reg 0 [⟨(some 47), 0, none, (.op (.fldA 1 (.t 3)))⟩,
    ⟨(some 48), 0, none, (.op (.load false 1 (.t 47)))⟩,
    ⟨(some 49), 0, none, (.op (.mov (.t 1)))⟩,
    ⟨(some 50), 0, none, (.op (.idxA 3 none (.t 48) (.t 49)))⟩,
    ⟨(some 51), 0, none, (.op (.fldA 2 (.t 50)))⟩,
    ⟨(some 52), 0, none, (.op (.load false 1 (.t 51)))⟩,
    ⟨(some 53), 0, none, (.op (.mkfn (.func 31) [] [(.t 5)]))⟩,
    ⟨(some 54), 0, none, (.call (.k (.fn (.func 30) [] [])) [(.t 52), (.t 53)])⟩,
    ⟨(some 6), 0, none, (.op (.mov (.t 54)))⟩])
  (.ret))))
theorem cc18 : Try.f18.body.bind (compC Try.prog) = some ac18 := by kernel_rfl
theorem go18 {vals : List V} {v : V} (ac : AC) (he : ac.erase = ac18) (hw : wpC Try.prog 0 ac (retQ [.tmp 6] v) ⟨vals ++ List.replicate (55 - vals.length) (.tup []), []⟩) : CallP Try.prog 18 vals v :=
  call_of Try.func18 rfl rfl rfl (cc18.trans (congrArg some he.symm)) hw
theorem gi18 {vals : List V} {rows : Go.Vx.Rows} {K : V → Go.Vx.Rows → Prop} (ac : AC) (he : ac.erase = ac18) (hw : wpC Try.prog rows.length ac (retI [.tmp 6] K) ⟨vals ++ List.replicate (55 - vals.length) (.tup []), rows⟩) : InlP Try.prog 18 vals rows K :=
  inl_of' Try.func18 rfl rfl rfl (cc18.trans (congrArg some he.symm)) hw
theorem gm18 {vals : List V} {v : V} {sz : Nat} {es es' : List (List V)} (ac : AC) (he : ac.erase = ac18) (hw : wpC Try.prog 1 ac (retM [.tmp 6] v sz es') ⟨vals ++ List.replicate (55 - vals.length) (.tup []), [.live sz es]⟩) : CallM Try.prog 18 vals sz es v es' :=
  callM_of' Try.func18 rfl rfl rfl (cc18.trans (congrArg some he.symm)) hw

/-- testbench/testbenchref47.Excluded -/
def ac19 : AC :=
  .seq (.reg 1 [⟨(some 3), 0, none, (.op (.box 2 (.t 0)))⟩,
    ⟨(some 6), 1, none, (.op (.mov (.k (.d (.bool false)))))⟩])
  (.seq (.seq (.reg 0 [⟨(some 13), 0, none, (.op (.load true 2 (.t 3)))⟩,
    ⟨(some 14), 0, none, (.op (.mov (.t 1)))⟩,
    ⟨(some 15), 0, none, (.op (.mov (.t 2)))⟩,
    ⟨(some 16), 0, none, (.call (.k (.fn (.func 17) [] [])) [(.t 13), (.t 14), (.t 15)])⟩,
    ⟨(some 12), 0, none, (.op (.mov (.t 16)))⟩,
    ⟨(some 17), 0, none, (.op (.ext (.t 12) 0))⟩,
    ⟨(some 18), 0, none, (.op (.ext (.t 12) 1))⟩,
    ⟨(some 7), 0, none, (.op (.mov (.t 17)))⟩,
    ⟨(some 8), 0, none, (.op (.mov (.t 18)))⟩])
  (.seq (.reg 0 [⟨(some 19), 0, none, (.op (.mov (.t 8)))⟩,
    ⟨(some 20), 0, none, (.op (.un .not (.t 19)))⟩])
  (.cond (.t 20)
    (.seq (.reg 0 [⟨(some 6), 0, none, (.op (.mov (.k (.d (.bool false)))))⟩])
    (.ret))
    (.skip))))
  (.seq (.reg 1 [⟨(some 21), 0, none, (.op (.fldA 1 (.t 3)))⟩,
    ⟨(some 22), 0, none, (.op (.load false 1 (.t 21)))⟩,
    ⟨(some 23), 0, none, (.op (.mov (.t 1)))⟩,
    ⟨(some 24), 0, none, (.op (.idxA 3 none (.t 22) (.t 23)))⟩,
    ⟨(some 25), 0, none, (.op (.load true 3 (.t 24)))⟩,
    ⟨(some 9), 0, none, (.op (.alloc [(.str []), .nils, .nils]))⟩,
    ⟨none, 1, none, (.op (.store 3 (.t 9) (.t 25)))⟩])
  (.seq (.seq (.reg 0 [⟨(some 10), 0, none, (.op (.mov (.k (.d (.int .i64 0)))))⟩])
  (.block 0
   (.loop
    (.seq (.seq (.reg 0 [⟨(some 26), 0, none, (.op (.mov (.t 10)))⟩,
      ⟨(some 27), 0, none, (.op (.fldA 2 (.t 9)))⟩,
      ⟨(some 28), 0, none, (.op (.load false 1 (.t 27)))⟩,
      ⟨(some 29), 0, none, (.op (.len false (.t 28)))⟩,
      ⟨(some 30), 0, none, (.op (.bin .lss (.t 26) (.t 29)))⟩])
    (.cond (.t 30)
      (.skip)
      (.exit 0)))
    (.seq (.block 1
     (.seq (.reg 0 [⟨(some 33), 0, none, (.op (.fldA 2 (.t 9)))⟩,
       ⟨(some 34), 0, none, (.op (.load false 1 (.t 33)))⟩,
       ⟨(some 35), 0, none, (.op (.mov (.t 10)))⟩,
       ⟨(some 36), 0, none, (.op (.idxA 1 none (.t 34) (.t 35)))⟩,
       ⟨(some 37), 0, none, (.op (.load false 1 (.t 36)))⟩,
       ⟨(some 38), 0, none, (.op (.mov (.t 2)))⟩,
       ⟨(some 39), 0, none, (.call (.k (.fn (.func 33) [] [])) [(.t 37), (.t 38)])⟩])
     (.cond (.t 39)
       (.seq (.reg 0 [⟨(some 6), 0, none, (.op (.mov (.k (.d (.bool true)))))⟩])
       (.ret))
       (.skip))))
    (.reg 0 [⟨(some 31), 0, none, (.op (.mov (.t 10)))⟩,
      ⟨(some 32), 0, none, (.op (.bin .add (.t 31) (.k (.d (.int .i64 1)))))⟩,
      ⟨(some 10), 0, none, (.op (.mov (.t 32)))⟩]))))))
  (.seq (.seq (.reg 0 [⟨(some 11), 0, none, (.op (.mov (.k (.d (.int .i64 0)))))⟩])
  (.block 2
   (.loop
    (.seq (.seq (.reg 0 [⟨(some 40), 0, none, (.op (.mov (.t 11)))⟩,
      ⟨(some 41), 0, none, (.op (.mov (.t 2)))⟩,
      ⟨(some 42), 0, none, (.op (.len false (.t 41)))⟩,
      ⟨(some 43), 0, none, (.op (.bin .lss (.t 40) (.t 42)))⟩])
    (.cond (.t 43)
      (.skip)
      (.exit 2)))
    (.seq (.block 3
     (.seq (.regD 0 [(⟨(some 46), 0, none, (.op (.fldA 0 (.t 3)))⟩, []),
       (⟨(some 47), 0, none, (.op (.load false 1 (.t 46)))⟩, [0]),
       (⟨(some 48), 0, none, (.op (.fldA 1 (.t 9)))⟩, []),
       (⟨(some 49), 0, none, (.op (.load false 1 (.t 48)))⟩, [2]),
       (⟨(some 50), 0, none, (.op (.mov (.t 11)))⟩, []),
       (⟨(some 51), 0, none, (.op (.idxA 1 none (.t 49) (.t 50)))⟩, [3, 2, 4]),
       (⟨(some 52), 0, none, (.op (.load false 1 (.t 51)))⟩, [5, 3, 2, 4]),
       (⟨(some 53), 0, none, (.op (.idxA 6 none (.t 47) (.t 52)))⟩, [1, 0, 6, 5, 3, 2, 4]),
       (⟨(some 54), 0, none, (.op (.fldA 5 (.t 53)))⟩, [7, 1, 0, 6, 5, 3, 2, 4]),
       (⟨(some 55), 0, none, (.op (.load false 1 (.t 54)))⟩, [8, 7, 1, 0, 6, 5, 3, 2, 4]),
       (⟨(some 56), 0, none, (.op (.mov (.t 2)))⟩, []),
       (⟨(some 57), 0, none, (.op (.mov (.t 11)))⟩, []),
       (⟨(some 58), 0, none, (.op (.idxA 1 none (.t 56) (.t 57)))⟩, [10, 11]),
       (⟨(some 59), 0, none, (.op (.load false 1 (.t 58)))⟩, [12, 10, 11]),
       (⟨(some 60), 0, none, (.op (.idxA 4 none (.t 55) (.t 59)))⟩, [9, 8, 7, 1, 0, 6, 5, 3, 2, 4, 13, 12, 10, 11]),
       (⟨(some 61), 0, none, (.op (.fldA 1 (.t 60)))⟩, [14, 9, 8, 7, 1, 0, 6, 5, 3, 2, 4, 13, 12, 10, 11]),
       (⟨(some 62), 0, none, (.op (.load false 1 (.t 61)))⟩, [15, 14, 9, 8, 7, 1, 0, 6, 5, 3, 2, 4, 13, 12, 10, 11]),
       (⟨(some 63), 0, none, (.op (.bin .neq (.t 62) (.k (.d (.int .i64 0)))))⟩, [16, 15, 14, 9, 8, 7, 1, 0, 6, 5, 3, 2, 4, 13, 12, 10, 11])])
     (.cond (.t 63)
       (.seq (.reg 0 [⟨(some 6), 0, none, (.op (.mov (.k (.d (.bool true)))))⟩])
       (.ret))
       (.skip))))
    (.reg 0 [⟨(some 44), 0, none, (.op (.mov (.t 11)))⟩,
      ⟨(some 45), 0, none, (.op (.bin .add (.t 44) (.k (.d (.int .i64 1)))))⟩,
      ⟨(some 11), 0, none, (.op (.mov (.t 45)))⟩]))))))
  (.seq (.reg 0 [⟨(some 6), 0, none, (.op (.mov (.k (.d (.bool false)))))⟩])
  (.ret))))))
theorem cc19 : Try.f19.body.bind (compC Try.prog) = some ac19 := by kernel_rfl
theorem go19 {vals : List V} {v : V} (ac : AC) (he : ac.erase = ac19) (hw : wpC Try.prog 0 ac (retQ [.tmp 6] v) ⟨vals ++ List.replicate (64 - vals.length) (.tup []), []⟩) : CallP Try.prog 19 vals v :=
  call_of Try.func19 rfl rfl rfl (cc19.trans (congrArg some he.symm)) hw
theorem gi19 {vals : List V} {rows : Go.Vx.Rows} {K : V → Go.Vx.Rows → Prop} (ac : AC) (he : ac.erase = ac19) (hw : wpC Try.prog rows.length ac (retI [.tmp 6] K) ⟨vals ++ List.replicate (64 - vals.length) (.tup []), rows⟩) : InlP Try.prog 19 vals rows K :=
  inl_of' Try.func19 rfl rfl rfl (cc19.trans (congrArg some he.symm)) hw
theorem gm19 {vals : List V} {v : V} {sz : Nat} {es es' : List (List V)} (ac : AC) (he : ac.erase = ac19) (hw : wpC Try.prog 1 ac (retM [.tmp 6] v sz es') ⟨vals ++ List.replicate (64 - vals.length) (.tup []), [.live sz es]⟩) : CallM Try.prog 19 vals sz es v es' :=
  callM_of' Try.func19 rfl rfl rfl (cc19.trans (congrArg some he.symm)) hw

/-- testbench/testbenchlaw47.short -/
def ac20 : AC :=
  .seq (.reg 0 [⟨(some 2), 0, none, (.op (.mov (.k (.d (.bool false)))))⟩])
  (.seq (.seq (.reg 0 [⟨(some 3), 0, none, (.op (.mov (.k (.d (.int .i64 0)))))⟩])
  (.block 0
   (.loop
    (.seq (.seq (.reg 0 [⟨(some 4), 0, none, (.op (.mov (.t 3)))⟩,
      ⟨(some 5), 0, none, (.op (.mov (.t 0)))⟩,
      ⟨(some 6), 0, none, (.op (.len false (.t 5)))⟩,
      ⟨(some 7), 0, none, (.op (.bin .lss (.t 4) (.t 6)))⟩,
      ⟨(some 8), 0, none, (.op (.mov (.t 7)))⟩,
      ⟨(some 9), 0, (some (8, true)), (.op (.mov (.t 3)))⟩,
      ⟨(some 10), 0, (some (8, true)), (.op (.bin .lss (.t 9) (.k (.d (.int .i64 21)))))⟩,
      ⟨(some 11), 0, none, (.op (.pick (.t 8) (.t 10) (.k (.d (.bool false)))))⟩])
    (.cond (.t 11)
      (.skip)
      (.exit 0)))
    (.seq (.block 1
     (.seq (.reg 0 [⟨(some 14), 0, none, (.op (.mov (.t 0)))⟩,
       ⟨(some 15), 0, none, (.op (.mov (.t 3)))⟩,
       ⟨(some 16), 0, none, (.op (.idxA 1 none (.t 14) (.t 15)))⟩,
       ⟨(some 17), 0, none, (.op (.load false 1 (.t 16)))⟩,
       ⟨(some 18), 0, none, (.op (.len false (.t 17)))⟩,
       ⟨(some 19), 0, none, (.op (.bin .gtr (.t 18) (.k (.d (.int .i64 40)))))⟩])
     (.cond (.t 19)
       (.seq (.reg 0 [⟨(some 2), 0, none, (.op (.mov (.k (.d (.bool false)))))⟩])
       (.ret))
       (.skip))))
    (.reg 0 [⟨(some 12), 0, none, (.op (.mov (.t 3)))⟩,
      ⟨(some 13), 0, none, (.op (.bin .add (.t 12) (.k (.d (.int .i64 1)))))⟩,
      ⟨(some 3), 0, none, (.op (.mov (.t 13)))⟩]))))))
  (.seq (.reg 0 [⟨(some 20), 0, none, (.op (.mov (.t 0)))⟩,
    ⟨(some 21), 0, none, (.op (.len false (.t 20)))⟩,
    ⟨(some 22), 0, none, (.op (.bin .leq (.t 21) (.k (.d (.int .i64 20)))))⟩,
    ⟨(some 2), 0, none, (.op (.mov (.t 22)))⟩])
  (.ret)))
theorem cc20 : Try.f20.body.bind (compC Try.prog) = some ac20 := by kernel_rfl
theorem go20 {vals : List V} {v : V} (ac : AC) (he : ac.erase = ac20) (hw : wpC Try.prog 0 ac (retQ [.tmp 2] v) ⟨vals ++ List.replicate (23 - vals.length) (.tup []), []⟩) : CallP Try.prog 20 vals v :=
  call_of Try.func20 rfl rfl rfl (cc20.trans (congrArg some he.symm)) hw
theorem gi20 {vals : List V} {rows : Go.Vx.Rows} {K : V → Go.Vx.Rows → Prop} (ac : AC) (he : ac.erase = ac20) (hw : wpC Try.prog rows.length ac (retI [.tmp 2] K) ⟨vals ++ List.replicate (23 - vals.length) (.tup []), rows⟩) : InlP Try.prog 20 vals rows K :=
  inl_of' Try.func20 rfl rfl rfl (cc20.trans (congrArg some he.symm)) hw
theorem gm20 {vals : List V} {v : V} {sz : Nat} {es es' : List (List V)} (ac : AC) (he : ac.erase = ac20) (hw : wpC Try.prog 1 ac (retM [.tmp 2] v sz es') ⟨vals ++ List.replicate (23 - vals.length) (.tup []), [.live sz es]⟩) : CallM Try.prog 20 vals sz es v es' :=
  callM_of' Try.func20 rfl rfl rfl (cc20.trans (congrArg some he.symm)) hw

/-- testbench/cross.Hits -/
def ac21 : AC :=
  .seq (.reg 1 [⟨(some 3), 0, none, (.op (.box 2 (.t 0)))⟩,
    ⟨(some 6), 1, none, (.op (.mov (.k (.d .nils))))⟩])
  (.seq (.seq (.reg 0 [⟨(some 20), 0, none, (.op (.load true 2 (.t 3)))⟩,
    ⟨(some 21), 0, none, (.op (.mov (.t 1)))⟩,
    ⟨(some 22), 0, none, (.call (.k (.fn (.func 28) [] [])) [(.t 20), (.t 21)])⟩,
    ⟨(some 23), 0, none, (.op (.un .not (.t 22)))⟩,
    ⟨(some 24), 0, none, (.op (.mov (.t 23)))⟩,
    ⟨(some 25), 0, (some (24, false)), (.op (.mov (.t 2)))⟩,
    ⟨(some 26), 0, (some (24, false)), (.op (.len false (.t 25)))⟩,
    ⟨(some 27), 0, (some (24, false)), (.op (.fldA 0 (.t 3)))⟩,
    ⟨(some 28), 0, (some (24, false)), (.op (.load false 1 (.t 27)))⟩,
    ⟨(some 29), 0, (some (24, false)), (.op (.len false (.t 28)))⟩,
    ⟨(some 30), 0, (some (24, false)), (.op (.bin .neq (.t 26) (.t 29)))⟩,
    ⟨(some 31), 0, none, (.op (.pick (.t 24) (.k (.d (.bool true))) (.t 30)))⟩])
  (.cond (.t 31)
    (.seq (.reg 0 [⟨(some 6), 0, none, (.op (.mov (.k (.d .nils))))⟩])
    (.ret))
    (.skip)))
  (.seq (.reg 1 [⟨(some 32), 0, none, (.op (.buildSl 1 1 [.nils] [(0, (.k (.d .nils)))]))⟩,
    ⟨(some 7), 1, none, (.op (.mov (.t 32)))⟩])
  (.seq (.seq (.reg 0 [⟨(some 33), 0, none, (.op (.fldA 1 (.t 3)))⟩,
    ⟨(some 34), 0, none, (.op (.load false 1 (.t 33)))⟩,
    ⟨(some 35), 0, none, (.op (.mov (.t 1)))⟩,
    ⟨(some 36), 0, none, (.op (.idxA 3 none (.t 34) (.t 35)))⟩,
    ⟨(some 37), 0, none, (.op (.fldA 1 (.t 36)))⟩,
    ⟨(some 38), 0, none, (.op (.load false 1 (.t 37)))⟩,
    ⟨(some 39), 0, none, (.op (.len false (.t 38)))⟩,
    ⟨(some 40), 0, none, (.op (.mov (.k (.d (.int .i64 0)))))⟩])
  (.block 0
   (.loop
    (.seq (.reg 0 [⟨(some 41), 0, none, (.op (.bin .lss (.t 40) (.t 39)))⟩])
    (.seq (.cond (.t 41)
      (.skip)
      (.exit 0))
    (.seq (.block 1
     (.seq (.reg 0 [⟨(some 42), 0, none, (.op (.mov (.t 40)))⟩,
       ⟨(some 43), 0, none, (.op (.idxA 1 none (.t 38) (.t 40)))⟩,
       ⟨(some 44), 0, none, (.op (.load false 1 (.t 43)))⟩,
       ⟨(some 8), 0, none, (.op (.mov (.t 42)))⟩,
       ⟨(some 9), 0, none, (.op (.mov (.t 44)))⟩])
     (.seq (.reg 0 [⟨(some 10), 0, none, (.op (.mov (.k (.d .nils))))⟩])
     (.seq (.seq (.reg 0 [⟨(some 45), 0, none, (.op (.mov (.t 7)))⟩,
       ⟨(some 46), 0, none, (.op (.len false (.t 45)))⟩,
       ⟨(some 47), 0, none, (.op (.mov (.k (.d (.int .i64 0)))))⟩])
     (.block 2
      (.loop
       (.seq (.reg 0 [⟨(some 48), 0, none, (.op (.bin .lss (.t 47) (.t 46)))⟩])
       (.seq (.cond (.t 48)
         (.skip)
         (.exit 2))
       (.seq (.block 3
        (.seq (.reg 0 [⟨(some 49), 0, none, (.op (.idxA 1 none (.t 45) (.t 47)))⟩,
          ⟨(some 50), 0, none, (.op (.load false 1 (.t 49)))⟩,
          ⟨(some 12), 0, none, (.op (.mov (.t 50)))⟩])
        (.seq (.reg 0 [⟨(some 51), 0, none, (.op (.load true 2 (.t 3)))⟩,
          ⟨(some 52), 0, none, (.op (.mov (.t 1)))⟩,
          ⟨(some 53), 0, none, (.call (.k (.fn (.func 26) [] [])) [(.t 51), (.t 52)])⟩,
          ⟨(some 54), 0, none, (.op (.mov (.t 8)))⟩,
          ⟨(some 55), 0, none, (.op (.idxA 1 none (.t 53) (.t 54)))⟩,
          ⟨(some 56), 0, none, (.op (.load false 1 (.t 55)))⟩,
          ⟨(some 57), 0, none, (.op (.mov (.k (.d (.int .i64 0)))))⟩])
        (.block 4
         (.loop
          (.seq (.reg 0 [⟨(some 58), 0, none, (.op (.bin .lss (.t 57) (.t 56)))⟩])
          (.seq (.cond (.t 58)
            (.skip)
            (.exit 4))
          (.seq (.block 5
           (.seq (.reg 0 [⟨(some 59), 0, none, (.op (.mov (.t 57)))⟩,
             ⟨(some 13), 0, none, (.op (.mov (.t 59)))⟩])
           (.seq (.reg 0 [⟨(some 60), 0, none, (.op (.mov (.t 2)))⟩,
             ⟨(some 61), 0, none, (.op (.mov (.t 9)))⟩,
             ⟨(some 62), 0, none, (.op (.idxA 1 none (.t 60) (.t 61)))⟩,
             ⟨(some 63), 0, none, (.op (.load false 1 (.t 62)))⟩,
             ⟨(some 64), 0, none, (.op (.mov (.t 13)))⟩,
             ⟨(some 65), 0, none, (.call (.k (.fn (.func 34) [] [])) [(.t 63), (.t 64)])⟩])
           (.cond (.t 65)
             (.seq (.reg 1 [⟨(some 66), 0, none, (.op (.mov (.t 12)))⟩,
               ⟨(some 67), 0, none, (.op (.len false (.t 66)))⟩,
               ⟨(some 68), 0, none, (.op (.bin .add (.t 67) (.k (.d (.int .i64 1)))))⟩,
               ⟨(some 69), 0, none, (.op (.mksl 1 8 [(.int .i64 0)] (.t 68) (.t 68)))⟩,
               ⟨(some 14), 1, none, (.op (.mov (.t 69)))⟩])
             (.seq (.reg 0 [⟨(some 70), 0, none, (.op (.mov (.t 14)))⟩,
               ⟨(some 71), 0, none, (.op (.mov (.t 12)))⟩,
               ⟨(some 72), 0, none, (.op (.copy 1 (.t 70) (.t 71)))⟩])
             (.seq (.reg 0 [⟨(some 73), 0, none, (.op (.mov (.t 14)))⟩,
               ⟨(some 74), 0, none, (.op (.mov (.t 12)))⟩,
               ⟨(some 75), 0, none, (.op (.len false (.t 74)))⟩,
               ⟨(some 76), 0, none, (.op (.mov (.t 13)))⟩,
               ⟨(some 77), 0, none, (.op (.idxA 1 none (.t 73) (.t 75)))⟩,
               ⟨none, 0, none, (.op (.store 1 (.t 77) (.t 76)))⟩])
             (.reg 2 [⟨(some 78), 0, none, (.op (.mov (.t 10)))⟩,
               ⟨(some 79), 0, none, (.op (.mov (.t 14)))⟩,
               ⟨(some 80), 0, none, (.op (.buildSl 1 1 [.nils] [(0, (.t 79))]))⟩,
               ⟨(some 81), 1, none, (.op (.append 1 24 (.t 78) (.t 80)))⟩,
               ⟨(some 10), 2, none, (.op (.mov (.t 81)))⟩]))))
             (.skip)))))
          (.reg 0 [⟨(some 82), 0, none, (.op (.bin .add (.t 57) (.k (.d (.int .i64 1)))))⟩,
            ⟨(some 57), 0, none, (.op (.mov (.t 82)))⟩])))))))))
       (.reg 0 [⟨(some 83), 0, none, (.op (.bin .add (.t 47) (.k (.d (.int .i64 1)))))⟩,
         ⟨(some 47), 0, none, (.op (.mov (.t 83)))⟩])))))))
     (.reg 0 [⟨(some 84), 0, none, (.op (.mov (.t 10)))⟩,
       ⟨(some 7), 0, none, (.op (.mov (.t 84)))⟩])))))
    (.reg 0 [⟨(some 85), 0, none, (.op (.bin .add (.t 40) (.k (.d (.int .i64 1)))))⟩,
      ⟨(some 40), 0, none, (.op (.mov (.t 85)))⟩])))))))
  (.seq (.reg 0 [⟨(some 15), 0, none, (.op (.mov (.k (.d .nils))))⟩])
  (.seq (.seq (.reg 0 [⟨(some 86), 0, none, (.op (.mov (.t 7)))⟩,
    ⟨(some 87), 0, none, (.op (.len false (.t 86)))⟩,
    ⟨(some 88), 0, none, (.op (.mov (.k (.d (.int .i64 0)))))⟩])
  (.block 6
   (.loop
    (.seq (.reg 0 [⟨(some 89), 0, none, (.op (.bin .lss (.t 88) (.t 87)))⟩])
    (.seq (.cond (.t 89)
      (.skip)
      (.exit 6))
    (.seq (.block 7
     (.seq (.reg 0 [⟨(some 90), 0, none, (.op (.idxA 1 none (.t 86) (.t 88)))⟩,
       ⟨(some 91), 0, none, (.op (.load false 1 (.t 90)))⟩,
       ⟨(some 17), 0, none, (.op (.mov (.t 91)))⟩])
     (.seq (.reg 0 [⟨(some 93), 0, none, (.op (.load true 2 (.t 3)))⟩,
       ⟨(some 94), 0, none, (.op (.mov (.t 1)))⟩,
       ⟨(some 95), 0, none, (.op (.mov (.t 17)))⟩,
       ⟨(some 96), 0, none, (.call (.k (.fn (.func 16) [] [])) [(.t 93), (.t 94), (.t 95)])⟩,
       ⟨(some 92), 0, none, (.op (.mov (.t 96)))⟩,
       ⟨(some 97), 0, none, (.op (.ext (.t 92) 0))⟩,
       ⟨(some 98), 0, none, (.op (.ext (.t 92) 1))⟩,
       ⟨(some 18), 0, none, (.op (.mov (.t 97)))⟩,
       ⟨(some 19), 0, none, (.op (.mov (.t 98)))⟩])
     (.seq (.reg 0 [⟨(some 99), 0, none, (.op (.mov (.t 19)))⟩,
       ⟨(some 100), 0, none, (.op (.mov (.t 99)))⟩,
       ⟨(some 101), 0, (some (100, true)), (.op (.load true 2 (.t 3)))⟩,
       ⟨(some 102), 0, (some (100, true)), (.op (.mov (.t 1)))⟩,
       ⟨(some 103), 0, (some (100, true)), (.op (.mov (.t 17)))⟩,
       ⟨(some 104), 0, (some (100, true)), (.call (.k (.fn (.func 18) [] [])) [(.t 101), (.t 102), (.t 103)])⟩,
       ⟨(some 105), 0, (some (100, true)), (.op (.un .not (.t 104)))⟩,
       ⟨(some 106), 0, none, (.op (.pick (.t 100) (.t 105) (.k (.d (.bool false)))))⟩])
     (.cond (.t 106)
       (.reg 2 [⟨(some 107), 0, none, (.op (.mov (.t 15)))⟩,
         ⟨(some 108), 0, none, (.op (.mov (.t 18)))⟩,
         ⟨(some 109), 0, none, (.op (.buildSl 1 1 [(.int .i64 0)] [(0, (.t 108))]))⟩,
         ⟨(some 110), 1, none, (.op (.append 1 8 (.t 107) (.t 109)))⟩,
         ⟨(some 15), 2, none, (.op (.mov (.t 110)))⟩])
       (.skip))))))
    (.reg 0 [⟨(some 111), 0, none, (.op (.bin .add (.t 88) (.k (.d (.int .i64 1)))))⟩,
      ⟨(some 88), 0, none, (.op (.mov (.t 111)))⟩])))))))
  (.seq (.reg 0 [⟨(some 112), 0, none, (.op (.mov (.t 15)))⟩,
    ⟨(some 6), 0, none, (.op (.mov (.t 112)))⟩])
  (.ret)))))))
theorem cc21 : Try.f21.body.bind (compC Try.prog) = some ac21 := by kernel_rfl
theorem go21 {vals : List V} {v : V} (ac : AC) (he : ac.erase = ac21) (hw : wpC Try.prog 0 ac (retQ [.tmp 6] v) ⟨vals ++ List.replicate (113 - vals.length) (.tup []), []⟩) : CallP Try.prog 21 vals v :=
  call_of Try.func21 rfl rfl rfl (cc21.trans (congrArg some he.symm)) hw
theorem gi21 {vals : List V} {rows : Go.Vx.Rows} {K : V → Go.Vx.Rows → Prop} (ac : AC) (he : ac.erase = ac21) (hw : wpC Try.prog rows.length ac (retI [.tmp 6] K) ⟨vals ++ List.replicate (113 - vals.length) (.tup []), rows⟩) : InlP Try.prog 21 vals rows K :=
  inl_of' Try.func21 rfl rfl rfl (cc21.trans (congrArg some he.symm)) hw
theorem gm21 {vals : List V} {v : V} {sz : Nat} {es es' : List (List V)} (ac : AC) (he : ac.erase = ac21) (hw : wpC Try.prog 1 ac (retM [.tmp 6] v sz es') ⟨vals ++ List.replicate (113 - vals.length) (.tup []), [.live sz es]⟩) : CallM Try.prog 21 vals sz es v es' :=
  callM_of' Try.func21 rfl rfl rfl (cc21.trans (congrArg some he.symm)) hw

/-- testbench/testbenchref47.Hits -/
def ac22 : AC :=
  .seq (.reg 1 [⟨(some 3), 0, none, (.op (.box 2 (.t 0)))⟩,
    ⟨(some 6), 1, none, (.op (.mov (.k (.d .nils))))⟩])
  (.seq (.reg 0 [⟨(some 7), 0, none, (.op (.mov (.k (.d .nils))))⟩])
  (.seq (.seq (.reg 0 [⟨(some 14), 0, none, (.op (.load true 2 (.t 3)))⟩,
    ⟨(some 15), 0, none, (.op (.mov (.t 1)))⟩,
    ⟨(some 16), 0, none, (.call (.k (.fn (.func 29) [] [])) [(.t 14), (.t 15)])⟩,
    ⟨(some 17), 0, none, (.op (.un .not (.t 16)))⟩,
    ⟨(some 18), 0, none, (.op (.mov (.t 17)))⟩,
    ⟨(some 19), 0, (some (18, false)), (.op (.mov (.t 2)))⟩,
    ⟨(some 20), 0, (some (18, false)), (.op (.len false (.t 19)))⟩,
    ⟨(some 21), 0, (some (18, false)), (.op (.fldA 0 (.t 3)))⟩,
    ⟨(some 22), 0, (some (18, false)), (.op (.load false 1 (.t 21)))⟩,
    ⟨(some 23), 0, (some (18, false)), (.op (.len false (.t 22)))⟩,
    ⟨(some 24), 0, (some (18, false)), (.op (.bin .neq (.t 20) (.t 23)))⟩,
    ⟨(some 25), 0, none, (.op (.pick (.t 18) (.k (.d (.bool true))) (.t 24)))⟩])
  (.cond (.t 25)
    (.seq (.reg 0 [⟨(some 26), 0, none, (.op (.mov (.t 7)))⟩,
      ⟨(some 6), 0, none, (.op (.mov (.t 26)))⟩])
    (.ret))
    (.skip)))
  (.seq (.reg 0 [⟨(some 27), 0, none, (.op (.load true 2 (.t 3)))⟩,
    ⟨(some 28), 0, none, (.op (.mov (.t 1)))⟩,
    ⟨(some 29), 0, none, (.call (.k (.fn (.func 14) [] [])) [(.t 27), (.t 28)])⟩,
    ⟨(some 8), 0, none, (.op (.mov (.t 29)))⟩])
  (.seq (.seq (.reg 0 [⟨(some 9), 0, none, (.op (.mov (.k (.d (.int .i64 0)))))⟩])
  (.block 0
   (.loop
    (.seq (.seq (.reg 0 [⟨(some 30), 0, none, (.op (.mov (.t 9)))⟩,
      ⟨(some 31), 0, none, (.op (.mov (.t 8)))⟩,
      ⟨(some 32), 0, none, (.op (.bin .lss (.t 30) (.t 31)))⟩])
    (.cond (.t 32)
      (.skip)
      (.exit 0)))
    (.seq (.block 1
     (.seq (.reg 0 [⟨(some 36), 0, none, (.op (.load true 2 (.t 3)))⟩,
       ⟨(some 37), 0, none, (.op (.mov (.t 1)))⟩,
       ⟨(some 38), 0, none, (.op (.mov (.t 9)))⟩,
       ⟨(some 39), 0, none, (.call (.k (.fn (.func 12) [] [])) [(.t 36), (.t 37), (.t 38)])⟩,
       ⟨(some 35), 0, none, (.op (.mov (.t 39)))⟩,
       ⟨(some 40), 0, none, (.op (.ext (.t 35) 0))⟩,
       ⟨(some 41), 0, none, (.op (.ext (.t 35) 1))⟩,
       ⟨(some 10), 0, none, (.op (.mov (.t 40)))⟩,
       ⟨(some 11), 0, none, (.op (.mov (.t 41)))⟩])
     (.seq (.reg 0 [⟨(some 42), 0, none, (.op (.load true 2 (.t 3)))⟩,
       ⟨(some 43), 0, none, (.op (.mov (.t 1)))⟩,
       ⟨(some 44), 0, none, (.op (.mov (.t 10)))⟩,
       ⟨(some 45), 0, none, (.call (.k (.fn (.func 19) [] [])) [(.t 42), (.t 43), (.t 44)])⟩,
       ⟨(some 46), 0, none, (.op (.un .not (.t 45)))⟩,
       ⟨(some 12), 0, none, (.op (.mov (.t 46)))⟩])
     (.seq (.seq (.reg 0 [⟨(some 13), 0, none, (.op (.mov (.k (.d (.int .i64 0)))))⟩])
     (.block 2
      (.loop
       (.seq (.seq (.reg 0 [⟨(some 47), 0, none, (.op (.mov (.t 13)))⟩,
         ⟨(some 48), 0, none, (.op (.mov (.t 10)))⟩,
         ⟨(some 49), 0, none, (.op (.len false (.t 48)))⟩,
         ⟨(some 50), 0, none, (.op (.bin .lss (.t 47) (.t 49)))⟩])
       (.cond (.t 50)
         (.skip)
         (.exit 2)))
       (.seq (.block 3
        (.regD 0 [(⟨(some 53), 0, none, (.op (.mov (.t 12)))⟩, []),
          (⟨(some 54), 0, none, (.op (.mov (.t 53)))⟩, [0]),
          (⟨(some 55), 0, (some (54, true)), (.op (.mov (.t 2)))⟩, [1, 0]),
          (⟨(some 56), 0, (some (54, true)), (.op (.fldA 1 (.t 3)))⟩, [1, 0]),
          (⟨(some 57), 0, (some (54, true)), (.op (.load false 1 (.t 56)))⟩, [3, 1, 0]),
          (⟨(some 58), 0, (some (54, true)), (.op (.mov (.t 1)))⟩, [1, 0]),
          (⟨(some 59), 0, (some (54, true)), (.op (.idxA 3 none (.t 57) (.t 58)))⟩, [4, 3, 1, 0, 5]),
          (⟨(some 60), 0, (some (54, true)), (.op (.fldA 1 (.t 59)))⟩, [6, 4, 3, 1, 0, 5]),
          (⟨(some 61), 0, (some (54, true)), (.op (.load false 1 (.t 60)))⟩, [7, 6, 4, 3, 1, 0, 5]),
          (⟨(some 62), 0, (some (54, true)), (.op (.mov (.t 13)))⟩, [1, 0]),
          (⟨(some 63), 0, (some (54, true)), (.op (.idxA 1 none (.t 61) (.t 62)))⟩, [8, 7, 6, 4, 3, 1, 0, 5, 9]),
          (⟨(some 64), 0, (some (54, true)), (.op (.load false 1 (.t 63)))⟩, [10, 8, 7, 6, 4, 3, 1, 0, 5, 9]),
          (⟨(some 65), 0, (some (54, true)), (.op (.idxA 1 none (.t 55) (.t 64)))⟩, [2, 1, 0, 11, 10, 8, 7, 6, 4, 3, 5, 9]),
          (⟨(some 66), 0, (some (54, true)), (.op (.load false 1 (.t 65)))⟩, [12, 2, 1, 0, 11, 10, 8, 7, 6, 4, 3, 5, 9]),
          (⟨(some 67), 0, (some (54, true)), (.op (.mov (.t 10)))⟩, [1, 0]),
          (⟨(some 68), 0, (some (54, true)), (.op (.mov (.t 13)))⟩, [1, 0]),
          (⟨(some 69), 0, (some (54, true)), (.op (.idxA 1 none (.t 67) (.t 68)))⟩, [14, 1, 0, 15]),
          (⟨(some 70), 0, (some (54, true)), (.op (.load false 1 (.t 69)))⟩, [16, 14, 1, 0, 15]),
          (⟨(some 71), 0, (some (54, true)), (.call (.k (.fn (.func 35) [] [])) [(.t 66), (.t 70)])⟩, [13, 12, 2, 1, 0, 11, 10, 8, 7, 6, 4, 3, 5, 9, 17, 16, 14, 15]),
          (⟨(some 72), 0, none, (.op (.pick (.t 54) (.t 71) (.k (.d (.bool false)))))⟩, [1, 0, 18, 13, 12, 2, 11, 10, 8, 7, 6, 4, 3, 5, 9, 17, 16, 14, 15]),
          (⟨(some 12), 0, none, (.op (.mov (.t 72)))⟩, [19, 1, 0, 18, 13, 12, 2, 11, 10, 8, 7, 6, 4, 3, 5, 9, 17, 16, 14, 15])]))
       (.reg 0 [⟨(some 51), 0, none, (.op (.mov (.t 13)))⟩,
         ⟨(some 52), 0, none, (.op (.bin .add (.t 51) (.k (.d (.int .i64 1)))))⟩,
         ⟨(some 13), 0, none, (.op (.mov (.t 52)))⟩]))))))
     (.seq (.reg 0 [⟨(some 73), 0, none, (.op (.mov (.t 12)))⟩])
     (.cond (.t 73)
       (.reg 2 [⟨(some 74), 0, none, (.op (.mov (.t 7)))⟩,
         ⟨(some 75), 0, none, (.op (.mov (.t 9)))⟩,
         ⟨(some 76), 0, none, (.op (.buildSl 1 1 [(.int .i64 0)] [(0, (.t 75))]))⟩,
         ⟨(some 77), 1, none, (.op (.append 1 8 (.t 74) (.t 76)))⟩,
         ⟨(some 7), 2, none, (.op (.mov (.t 77)))⟩])
       (.skip)))))))
    (.reg 0 [⟨(some 33), 0, none, (.op (.mov (.t 9)))⟩,
      ⟨(some 34), 0, none, (.op (.bin .add (.t 33) (.k (.d (.int .i64 1)))))⟩,
      ⟨(some 9), 0, none, (.op (.mov (.t 34)))⟩]))))))
  (.seq (.reg 0 [⟨(some 78), 0, none, (.op (.mov (.t 7)))⟩,
    ⟨(some 6), 0, none, (.op (.mov (.t 78)))⟩])
  (.ret))))))
theorem cc22 : Try.f22.body.bind (compC Try.prog) = some ac22 := by kernel_rfl
theorem go22 {vals : List V} {v : V} (ac : AC) (he : ac.erase = ac22) (hw : wpC Try.prog 0 ac (retQ [.tmp 6] v) ⟨vals ++ List.replicate (79 - vals.length) (.tup []), []⟩) : CallP Try.prog 22 vals v :=
  call_of Try.func22 rfl rfl rfl (cc22.trans (congrArg some he.symm)) hw
theorem gi22 {vals : List V} {rows : Go.Vx.Rows} {K : V → Go.Vx.Rows → Prop} (ac : AC) (he : ac.erase = ac22) (hw : wpC Try.prog rows.length ac (retI [.tmp 6] K) ⟨vals ++ List.replicate (79 - vals.length) (.tup []), rows⟩) : InlP Try.prog 22 vals rows K :=
  inl_of' Try.func22 rfl rfl rfl (cc22.trans (congrArg some he.symm)) hw
theorem gm22 {vals : List V} {v : V} {sz : Nat} {es es' : List (List V)} (ac : AC) (he : ac.erase = ac22) (hw : wpC Try.prog 1 ac (retM [.tmp 6] v sz es') ⟨vals ++ List.replicate (79 - vals.length) (.tup []), [.live sz es]⟩) : CallM Try.prog 22 vals sz es v es' :=
  callM_of' Try.func22 rfl rfl rfl (cc22.trans (congrArg some he.symm)) hw

/-- testbench/testbenchlaw47.less -/
def ac23 : AC :=
  .seq (.reg 0 [⟨(some 4), 0, none, (.op (.mov (.k (.d (.bool false)))))⟩])
  (.seq (.seq (.reg 0 [⟨(some 5), 0, none, (.op (.mov (.k (.d (.int .i64 0)))))⟩])
  (.block 0
   (.loop
    (.seq (.seq (.reg 0 [⟨(some 6), 0, none, (.op (.mov (.t 5)))⟩,
      ⟨(some 7), 0, none, (.op (.mov (.t 0)))⟩,
      ⟨(some 8), 0, none, (.op (.len false (.t 7)))⟩,
      ⟨(some 9), 0, none, (.op (.bin .lss (.t 6) (.t 8)))⟩,
      ⟨(some 10), 0, none, (.op (.mov (.t 9)))⟩,
      ⟨(some 11), 0, (some (10, true)), (.op (.mov (.t 5)))⟩,
      ⟨(some 12), 0, (some (10, true)), (.op (.mov (.t 1)))⟩,
      ⟨(some 13), 0, (some (10, true)), (.op (.len false (.t 12)))⟩,
      ⟨(some 14), 0, (some (10, true)), (.op (.bin .lss (.t 11) (.t 13)))⟩,
      ⟨(some 15), 0, none, (.op (.pick (.t 10) (.t 14) (.k (.d (.bool false)))))⟩])
    (.cond (.t 15)
      (.skip)
      (.exit 0)))
    (.seq (.block 1
     (.seq (.regD 0 [(⟨(some 18), 0, none, (.op (.mov (.t 0)))⟩, []),
       (⟨(some 19), 0, none, (.op (.mov (.t 5)))⟩, []),
       (⟨(some 20), 0, none, (.op (.idxA 1 none (.t 18) (.t 19)))⟩, [0, 1]),
       (⟨(some 21), 0, none, (.op (.load false 1 (.t 20)))⟩, [2, 0, 1]),
       (⟨(some 22), 0, none, (.op (.mov (.t 1)))⟩, []),
       (⟨(some 23), 0, none, (.op (.mov (.t 5)))⟩, []),
       (⟨(some 24), 0, none, (.op (.idxA 1 none (.t 22) (.t 23)))⟩, [4, 5]),
       (⟨(some 25), 0, none, (.op (.load false 1 (.t 24)))⟩, [6, 4, 5]),
       (⟨(some 26), 0, none, (.op (.bin .neq (.t 21) (.t 25)))⟩, [3, 2, 0, 1, 7, 6, 4, 5])])
     (.cond (.t 26)
       (.seq (.regD 0 [(⟨(some 27), 0, none, (.op (.mov (.t 0)))⟩, []),
         (⟨(some 28), 0, none, (.op (.mov (.t 5)))⟩, []),
         (⟨(some 29), 0, none, (.op (.idxA 1 none (.t 27) (.t 28)))⟩, [0, 1]),
         (⟨(some 30), 0, none, (.op (.load false 1 (.t 29)))⟩, [2, 0, 1]),
         (⟨(some 31), 0, none, (.op (.mov (.t 1)))⟩, []),
         (⟨(some 32), 0, none, (.op (.mov (.t 5)))⟩, []),
         (⟨(some 33), 0, none, (.op (.idxA 1 none (.t 31) (.t 32)))⟩, [4, 5]),
         (⟨(some 34), 0, none, (.op (.load false 1 (.t 33)))⟩, [6, 4, 5]),
         (⟨(some 35), 0, none, (.op (.bin .lss (.t 30) (.t 34)))⟩, [3, 2, 0, 1, 7, 6, 4, 5]),
         (⟨(some 4), 0, none, (.op (.mov (.t 35)))⟩, [8, 3, 2, 0, 1, 7, 6, 4, 5])])
       (.ret))
       (.skip))))
    (.reg 0 [⟨(some 16), 0, none, (.op (.mov (.t 5)))⟩,
      ⟨(some 17), 0, none, (.op (.bin .add (.t 16) (.k (.d (.int .i64 1)))))⟩,
      ⟨(some 5), 0, none, (.op (.mov (.t 17)))⟩]))))))
  (.seq (.reg 0 [⟨(some 4), 0, none, (.op (.mov (.k (.d (.bool false)))))⟩])
  (.ret)))
theorem cc23 : Try.f23.body.bind (compC Try.prog) = some ac23 := by kernel_rfl
theorem go23 {vals : List V} {v : V} (ac : AC) (he : ac.erase = ac23) (hw : wpC Try.prog 0 ac (retQ [.tmp 4] v) ⟨vals ++ List.replicate (36 - vals.length) (.tup []), []⟩) : CallP Try.prog 23 vals v :=
  call_of Try.func23 rfl rfl rfl (cc23.trans (congrArg some he.symm)) hw
theorem gi23 {vals : List V} {rows : Go.Vx.Rows} {K : V → Go.Vx.Rows → Prop} (ac : AC) (he : ac.erase = ac23) (hw : wpC Try.prog rows.length ac (retI [.tmp 4] K) ⟨vals ++ List.replicate (36 - vals.length) (.tup []), rows⟩) : InlP Try.prog 23 vals rows K :=
  inl_of' Try.func23 rfl rfl rfl (cc23.trans (congrArg some he.symm)) hw
theorem gm23 {vals : List V} {v : V} {sz : Nat} {es es' : List (List V)} (ac : AC) (he : ac.erase = ac23) (hw : wpC Try.prog 1 ac (retM [.tmp 4] v sz es') ⟨vals ++ List.replicate (36 - vals.length) (.tup []), [.live sz es]⟩) : CallM Try.prog 23 vals sz es v es' :=
  callM_of' Try.func23 rfl rfl rfl (cc23.trans (congrArg some he.symm)) hw

/-- testbench/testbenchlaw47.distinct -/
def ac24 : AC :=
  .seq (.reg 0 [⟨(some 4), 0, none, (.op (.mov (.k (.d (.int .i64 0)))))⟩])
  (.seq (.reg 0 [⟨(some 5), 0, none, (.op (.mov (.k (.d (.int .i64 0)))))⟩])
  (.seq (.seq (.reg 0 [⟨(some 6), 0, none, (.op (.mov (.k (.d (.int .i64 0)))))⟩])
  (.block 0
   (.loop
    (.seq (.seq (.reg 0 [⟨(some 9), 0, none, (.op (.mov (.t 6)))⟩,
      ⟨(some 10), 0, none, (.op (.mov (.t 1)))⟩,
      ⟨(some 11), 0, none, (.op (.bin .lss (.t 9) (.t 10)))⟩])
    (.cond (.t 11)
      (.skip)
      (.exit 0)))
    (.seq (.block 1
     (.seq (.reg 0 [⟨(some 7), 0, none, (.op (.mov (.k (.d (.bool false)))))⟩])
     (.seq (.seq (.reg 0 [⟨(some 8), 0, none, (.op (.mov (.k (.d (.int .i64 0)))))⟩])
     (.block 2
      (.loop
       (.seq (.seq (.reg 0 [⟨(some 14), 0, none, (.op (.mov (.t 8)))⟩,
         ⟨(some 15), 0, none, (.op (.mov (.t 0)))⟩,
         ⟨(some 16), 0, none, (.op (.len false (.t 15)))⟩,
         ⟨(some 17), 0, none, (.op (.bin .lss (.t 14) (.t 16)))⟩])
       (.cond (.t 17)
         (.skip)
         (.exit 2)))
       (.seq (.block 3
        (.reg 0 [⟨(some 20), 0, none, (.op (.mov (.t 7)))⟩,
          ⟨(some 21), 0, none, (.op (.mov (.t 20)))⟩,
          ⟨(some 22), 0, (some (21, false)), (.op (.mov (.t 0)))⟩,
          ⟨(some 23), 0, (some (21, false)), (.op (.mov (.t 8)))⟩,
          ⟨(some 24), 0, (some (21, false)), (.op (.idxA 1 none (.t 22) (.t 23)))⟩,
          ⟨(some 25), 0, (some (21, false)), (.op (.load false 1 (.t 24)))⟩,
          ⟨(some 26), 0, (some (21, false)), (.op (.mov (.t 6)))⟩,
          ⟨(some 27), 0, (some (21, false)), (.op (.bin .eql (.t 25) (.t 26)))⟩,
          ⟨(some 28), 0, none, (.op (.pick (.t 21) (.k (.d (.bool true))) (.t 27)))⟩,
          ⟨(some 7), 0, none, (.op (.mov (.t 28)))⟩]))
       (.reg 0 [⟨(some 18), 0, none, (.op (.mov (.t 8)))⟩,
         ⟨(some 19), 0, none, (.op (.bin .add (.t 18) (.k (.d (.int .i64 1)))))⟩,
         ⟨(some 8), 0, none, (.op (.mov (.t 19)))⟩]))))))
     (.seq (.reg 0 [⟨(some 29), 0, none, (.op (.mov (.t 7)))⟩])
     (.cond (.t 29)
       (.reg 0 [⟨(some 30), 0, none, (.op (.mov (.t 5)))⟩,
         ⟨(some 31), 0, none, (.op (.bin .add (.t 30) (.k (.d (.int .i64 1)))))⟩,
         ⟨(some 5), 0, none, (.op (.mov (.t 31)))⟩])
       (.skip))))))
    (.reg 0 [⟨(some 12), 0, none, (.op (.mov (.t 6)))⟩,
      ⟨(some 13), 0, none, (.op (.bin .add (.t 12) (.k (.d (.int .i64 1)))))⟩,
      ⟨(some 6), 0, none, (.op (.mov (.t 13)))⟩]))))))
  (.seq (.reg 0 [⟨(some 32), 0, none, (.op (.mov (.t 5)))⟩,
    ⟨(some 4), 0, none, (.op (.mov (.t 32)))⟩])
  (.ret))))
theorem cc24 : Try.f24.body.bind (compC Try.prog) = some ac24 := by kernel_rfl
theorem go24 {vals : List V} {v : V} (ac : AC) (he : ac.erase = ac24) (hw : wpC Try.prog 0 ac (retQ [.tmp 4] v) ⟨vals ++ List.replicate (33 - vals.length) (.tup []), []⟩) : CallP Try.prog 24 vals v :=
  call_of Try.func24 rfl rfl rfl (cc24.trans (congrArg some he.symm)) hw
theorem gi24 {vals : List V} {rows : Go.Vx.Rows} {K : V → Go.Vx.Rows → Prop} (ac : AC) (he : ac.erase = ac24) (hw : wpC Try.prog rows.length ac (retI [.tmp 4] K) ⟨vals ++ List.replicate (33 - vals.length) (.tup []), rows⟩) : InlP Try.prog 24 vals rows K :=
  inl_of' Try.func24 rfl rfl rfl (cc24.trans (congrArg some he.symm)) hw
theorem gm24 {vals : List V} {v : V} {sz : Nat} {es es' : List (List V)} (ac : AC) (he : ac.erase = ac24) (hw : wpC Try.prog 1 ac (retM [.tmp 4] v sz es') ⟨vals ++ List.replicate (33 - vals.length) (.tup []), [.live sz es]⟩) : CallM Try.prog 24 vals sz es v es' :=
  callM_of' Try.func24 rfl rfl rfl (cc24.trans (congrArg some he.symm)) hw

/-- testbench/testbenchlaw47.model -/
def ac25 : AC :=
  .seq (.reg 1 [⟨(some 0), 0, none, (.op (.alloc [.nils, .nils]))⟩])
  (.seq (.regD 5 [(⟨(some 1), 0, none, (.op (.mksl 4 72 [(.str []), (.int .i64 0), .nils, .nils] (.k (.d (.int .i64 2))) (.k (.d (.int .i64 2)))))⟩, []),
    (⟨(some 2), 1, none, (.op (.build [(.str []), (.int .i64 0), (.int .i64 0), (.str []), .nils, .nils] [(0, 1, (.k (.d (.str [112])))), (5, 1, (.t 1))]))⟩, [0]),
    (⟨(some 3), 1, none, (.op (.mksl 4 72 [(.str []), (.int .i64 0), .nils, .nils] (.k (.d (.int .i64 3))) (.k (.d (.int .i64 3)))))⟩, []),
    (⟨(some 4), 2, none, (.op (.build [(.str []), (.int .i64 0), (.int .i64 0), (.str []), .nils, .nils] [(0, 1, (.k (.d (.str [113])))), (5, 1, (.t 3))]))⟩, [2]),
    (⟨(some 5), 2, none, (.op (.buildSl 6 2 [(.str []), (.int .i64 0), (.int .i64 0), (.str []), .nils, .nils] [(0, (.t 2)), (1, (.t 4))]))⟩, [1, 0, 3, 2]),
    (⟨(some 6), 3, none, (.op (.buildSl 1 2 [(.int .i64 0)] [(0, (.k (.d (.int .i64 0)))), (1, (.k (.d (.int .i64 1))))]))⟩, []),
    (⟨(some 7), 4, none, (.op (.build [(.str []), .nils, .nils] [(0, 1, (.k (.d (.str [120])))), (1, 1, (.t 6))]))⟩, [5]),
    (⟨(some 8), 4, none, (.op (.buildSl 3 1 [(.str []), .nils, .nils] [(0, (.t 7))]))⟩, [6, 5]),
    (⟨(some 9), 5, none, (.op (.build [.nils, .nils] [(0, 1, (.t 5)), (1, 1, (.t 8))]))⟩, [4, 1, 0, 3, 2, 7, 6, 5]),
    (⟨none, 5, none, (.op (.store 2 (.t 0) (.t 9)))⟩, [8, 4, 1, 0, 3, 2, 7, 6, 5])])
  (.ret))
theorem cc25 : Try.f25.body.bind (compC Try.prog) = some ac25 := by kernel_rfl
theorem go25 {vals : List V} {v : V} (ac : AC) (he : ac.erase = ac25) (hw : wpC Try.prog 0 ac (retQ [.cell 0 true 2] v) ⟨vals ++ List.replicate (10 - vals.length) (.tup []), []⟩) : CallP Try.prog 25 vals v :=
  call_of Try.func25 rfl rfl rfl (cc25.trans (congrArg some he.symm)) hw
theorem gi25 {vals : List V} {rows : Go.Vx.Rows} {K : V → Go.Vx.Rows → Prop} (ac : AC) (he : ac.erase = ac25) (hw : wpC Try.prog rows.length ac (retI [.cell 0 true 2] K) ⟨vals ++ List.replicate (10 - vals.length) (.tup []), rows⟩) : InlP Try.prog 25 vals rows K :=
  inl_of' Try.func25 rfl rfl rfl (cc25.trans (congrArg some he.symm)) hw
theorem gm25 {vals : List V} {v : V} {sz : Nat} {es es' : List (List V)} (ac : AC) (he : ac.erase = ac25) (hw : wpC Try.prog 1 ac (retM [.cell 0 true 2] v sz es') ⟨vals ++ List.replicate (10 - vals.length) (.tup []), [.live sz es]⟩) : CallM Try.prog 25 vals sz es v es' :=
  callM_of' Try.func25 rfl rfl rfl (cc25.trans (congrArg some he.symm)) hw

/-- testbench/cross.counts -/
def ac26 : AC :=
  .seq (.reg 1 [⟨(some 2), 0, none, (.op (.box 2 (.t 0)))⟩,
    ⟨(some 4), 1, none, (.op (.mov (.k (.d .nils))))⟩])
  (.seq (.reg 0 [⟨(some 5), 0, none, (.op (.mov (.k (.d .nils))))⟩])
  (.seq (.seq (.reg 0 [⟨(some 8), 0, none, (.op (.fldA 1 (.t 2)))⟩,
    ⟨(some 9), 0, none, (.op (.load false 1 (.t 8)))⟩,
    ⟨(some 10), 0, none, (.op (.mov (.t 1)))⟩,
    ⟨(some 11), 0, none, (.op (.idxA 3 none (.t 9) (.t 10)))⟩,
    ⟨(some 12), 0, none, (.op (.fldA 1 (.t 11)))⟩,
    ⟨(some 13), 0, none, (.op (.load false 1 (.t 12)))⟩,
    ⟨(some 14), 0, none, (.op (.len false (.t 13)))⟩,
    ⟨(some 15), 0, none, (.op (.mov (.k (.d (.int .i64 0)))))⟩])
  (.block 0
   (.loop
    (.seq (.reg 0 [⟨(some 16), 0, none, (.op (.bin .lss (.t 15) (.t 14)))⟩])
    (.seq (.cond (.t 16)
      (.skip)
      (.exit 0))
    (.seq (.block 1
     (.seq (.reg 0 [⟨(some 17), 0, none, (.op (.idxA 1 none (.t 13) (.t 15)))⟩,
       ⟨(some 18), 0, none, (.op (.load false 1 (.t 17)))⟩,
       ⟨(some 7), 0, none, (.op (.mov (.t 18)))⟩])
     (.reg 2 [⟨(some 19), 0, none, (.op (.mov (.t 5)))⟩,
       ⟨(some 20), 0, none, (.op (.fldA 0 (.t 2)))⟩,
       ⟨(some 21), 0, none, (.op (.load false 1 (.t 20)))⟩,
       ⟨(some 22), 0, none, (.op (.mov (.t 7)))⟩,
       ⟨(some 23), 0, none, (.op (.idxA 6 none (.t 21) (.t 22)))⟩,
       ⟨(some 24), 0, none, (.op (.fldA 5 (.t 23)))⟩,
       ⟨(some 25), 0, none, (.op (.load false 1 (.t 24)))⟩,
       ⟨(some 26), 0, none, (.op (.len false (.t 25)))⟩,
       ⟨(some 27), 0, none, (.op (.buildSl 1 1 [(.int .i64 0)] [(0, (.t 26))]))⟩,
       ⟨(some 28), 1, none, (.op (.append 1 8 (.t 19) (.t 27)))⟩,
       ⟨(some 5), 2, none, (.op (.mov (.t 28)))⟩])))
    (.reg 0 [⟨(some 29), 0, none, (.op (.bin .add (.t 15) (.k (.d (.int .i64 1)))))⟩,
      ⟨(some 15), 0, none, (.op (.mov (.t 29)))⟩])))))))
  (.seq (.reg 0 [⟨(some 30), 0, none, (.op (.mov (.t 5)))⟩,
    ⟨(some 4), 0, none, (.op (.mov (.t 30)))⟩])
  (.ret))))
theorem cc26 : Try.f26.body.bind (compC Try.prog) = some ac26 := by kernel_rfl
theorem go26 {vals : List V} {v : V} (ac : AC) (he : ac.erase = ac26) (hw : wpC Try.prog 0 ac (retQ [.tmp 4] v) ⟨vals ++ List.replicate (31 - vals.length) (.tup []), []⟩) : CallP Try.prog 26 vals v :=
  call_of Try.func26 rfl rfl rfl (cc26.trans (congrArg some he.symm)) hw
theorem gi26 {vals : List V} {rows : Go.Vx.Rows} {K : V → Go.Vx.Rows → Prop} (ac : AC) (he : ac.erase = ac26) (hw : wpC Try.prog rows.length ac (retI [.tmp 4] K) ⟨vals ++ List.replicate (31 - vals.length) (.tup []), rows⟩) : InlP Try.prog 26 vals rows K :=
  inl_of' Try.func26 rfl rfl rfl (cc26.trans (congrArg some he.symm)) hw
theorem gm26 {vals : List V} {v : V} {sz : Nat} {es es' : List (List V)} (ac : AC) (he : ac.erase = ac26) (hw : wpC Try.prog 1 ac (retM [.tmp 4] v sz es') ⟨vals ++ List.replicate (31 - vals.length) (.tup []), [.live sz es]⟩) : CallM Try.prog 26 vals sz es v es' :=
  callM_of' Try.func26 rfl rfl rfl (cc26.trans (congrArg some he.symm)) hw

/-- testbench/testbenchref47.bins -/
def ac27 : AC :=
  .seq (.reg 1 [⟨(some 3), 0, none, (.op (.box 2 (.t 0)))⟩,
    ⟨(some 6), 1, none, (.op (.mov (.k (.d (.int .i64 0)))))⟩])
  (.seq (.regD 0 [(⟨(some 7), 0, none, (.op (.fldA 0 (.t 3)))⟩, []),
    (⟨(some 8), 0, none, (.op (.load false 1 (.t 7)))⟩, [0]),
    (⟨(some 9), 0, none, (.op (.fldA 1 (.t 3)))⟩, []),
    (⟨(some 10), 0, none, (.op (.load false 1 (.t 9)))⟩, [2]),
    (⟨(some 11), 0, none, (.op (.mov (.t 1)))⟩, []),
    (⟨(some 12), 0, none, (.op (.idxA 3 none (.t 10) (.t 11)))⟩, [3, 2, 4]),
    (⟨(some 13), 0, none, (.op (.fldA 1 (.t 12)))⟩, [5, 3, 2, 4]),
    (⟨(some 14), 0, none, (.op (.load false 1 (.t 13)))⟩, [6, 5, 3, 2, 4]),
    (⟨(some 15), 0, none, (.op (.mov (.t 2)))⟩, []),
    (⟨(some 16), 0, none, (.op (.idxA 1 none (.t 14) (.t 15)))⟩, [7, 6, 5, 3, 2, 4, 8]),
    (⟨(some 17), 0, none, (.op (.load false 1 (.t 16)))⟩, [9, 7, 6, 5, 3, 2, 4, 8]),
    (⟨(some 18), 0, none, (.op (.idxA 6 none (.t 8) (.t 17)))⟩, [1, 0, 10, 9, 7, 6, 5, 3, 2, 4, 8]),
    (⟨(some 19), 0, none, (.op (.fldA 5 (.t 18)))⟩, [11, 1, 0, 10, 9, 7, 6, 5, 3, 2, 4, 8]),
    (⟨(some 20), 0, none, (.op (.load false 1 (.t 19)))⟩, [12, 11, 1, 0, 10, 9, 7, 6, 5, 3, 2, 4, 8]),
    (⟨(some 21), 0, none, (.op (.len false (.t 20)))⟩, [13, 12, 11, 1, 0, 10, 9, 7, 6, 5, 3, 2, 4, 8]),
    (⟨(some 6), 0, none, (.op (.mov (.t 21)))⟩, [14, 13, 12, 11, 1, 0, 10, 9, 7, 6, 5, 3, 2, 4, 8])])
  (.ret))
theorem cc27 : Try.f27.body.bind (compC Try.prog) = some ac27 := by kernel_rfl
theorem go27 {vals : List V} {v : V} (ac : AC) (he : ac.erase = ac27) (hw : wpC Try.prog 0 ac (retQ [.tmp 6] v) ⟨vals ++ List.replicate (22 - vals.length) (.tup []), []⟩) : CallP Try.prog 27 vals v :=
  call_of Try.func27 rfl rfl rfl (cc27.trans (congrArg some he.symm)) hw
theorem gi27 {vals : List V} {rows : Go.Vx.Rows} {K : V → Go.Vx.Rows → Prop} (ac : AC) (he : ac.erase = ac27) (hw : wpC Try.prog rows.length ac (retI [.tmp 6] K) ⟨vals ++ List.replicate (22 - vals.length) (.tup []), rows⟩) : InlP Try.prog 27 vals rows K :=
  inl_of' Try.func27 rfl rfl rfl (cc27.trans (congrArg some he.symm)) hw
theorem gm27 {vals : List V} {v : V} {sz : Nat} {es es' : List (List V)} (ac : AC) (he : ac.erase = ac27) (hw : wpC Try.prog 1 ac (retM [.tmp 6] v sz es') ⟨vals ++ List.replicate (22 - vals.length) (.tup []), [.live sz es]⟩) : CallM Try.prog 27 vals sz es v es' :=
  callM_of' Try.func27 rfl rfl rfl (cc27.trans (congrArg some he.symm)) hw

/-- testbench/cross.usable -/
def ac28 : AC :=
  .seq (.reg 1 [⟨(some 2), 0, none, (.op (.box 2 (.t 0)))⟩,
    ⟨(some 4), 1, none, (.op (.mov (.k (.d (.bool false)))))⟩])
  (.seq (.seq (.reg 0 [⟨(some 6), 0, none, (.op (.mov (.t 1)))⟩,
    ⟨(some 7), 0, none, (.op (.bin .lss (.t 6) (.k (.d (.int .i64 0)))))⟩,
    ⟨(some 8), 0, none, (.op (.mov (.t 7)))⟩,
    ⟨(some 9), 0, (some (8, false)), (.op (.mov (.t 1)))⟩,
    ⟨(some 10), 0, (some (8, false)), (.op (.fldA 1 (.t 2)))⟩,
    ⟨(some 11), 0, (some (8, false)), (.op (.load false 1 (.t 10)))⟩,
    ⟨(some 12), 0, (some (8, false)), (.op (.len false (.t 11)))⟩,
    ⟨(some 13), 0, (some (8, false)), (.op (.bin .geq (.t 9) (.t 12)))⟩,
    ⟨(some 14), 0, none, (.op (.pick (.t 8) (.k (.d (.bool true))) (.t 13)))⟩])
  (.cond (.t 14)
    (.seq (.reg 0 [⟨(some 4), 0, none, (.op (.mov (.k (.d (.bool false)))))⟩])
    (.ret))
    (.skip)))
  (.seq (.reg 0 [⟨(some 15), 0, none, (.op (.mkfn (.func 36) [] [(.t 2)]))⟩,
    ⟨(some 5), 0, none, (.op (.mov (.t 15)))⟩])
  (.seq (.reg 0 [⟨(some 16), 0, none, (.op (.fldA 1 (.t 2)))⟩,
    ⟨(some 17), 0, none, (.op (.load false 1 (.t 16)))⟩,
    ⟨(some 18), 0, none, (.op (.mov (.t 1)))⟩,
    ⟨(some 19), 0, none, (.op (.idxA 3 none (.t 17) (.t 18)))⟩,
    ⟨(some 20), 0, none, (.op (.fldA 1 (.t 19)))⟩,
    ⟨(some 21), 0, none, (.op (.load false 1 (.t 20)))⟩,
    ⟨(some 22), 0, none, (.op (.mov (.t 5)))⟩,
    ⟨(some 23), 0, none, (.call (.k (.fn (.func 37) [] [])) [(.t 21), (.t 22)])⟩,
    ⟨(some 24), 0, none, (.op (.un .not (.t 23)))⟩,
    ⟨(some 4), 0, none, (.op (.mov (.t 24)))⟩])
  (.ret))))
theorem cc28 : Try.f28.body.bind (compC Try.prog) = some ac28 := by kernel_rfl
theorem go28 {vals : List V} {v : V} (ac : AC) (he : ac.erase = ac28) (hw : wpC Try.prog 0 ac (retQ [.tmp 4] v) ⟨vals ++ List.replicate (25 - vals.length) (.tup []), []⟩) : CallP Try.prog 28 vals v :=
  call_of Try.func28 rfl rfl rfl (cc28.trans (congrArg some he.symm)) hw
theorem gi28 {vals : List V} {rows : Go.Vx.Rows} {K : V → Go.Vx.Rows → Prop} (ac : AC) (he : ac.erase = ac28) (hw : wpC Try.prog rows.length ac (retI [.tmp 4] K) ⟨vals ++ List.replicate (25 - vals.length) (.tup []), rows⟩) : InlP Try.prog 28 vals rows K :=
  inl_of' Try.func28 rfl rfl rfl (cc28.trans (congrArg some he.symm)) hw
theorem gm28 {vals : List V} {v : V} {sz : Nat} {es es' : List (List V)} (ac : AC) (he : ac.erase = ac28) (hw : wpC Try.prog 1 ac (retM [.tmp 4] v sz es') ⟨vals ++ List.replicate (25 - vals.length) (.tup []), [.live sz es]⟩) : CallM Try.prog 28 vals sz es v es' :=
  callM_of' Try.func28 rfl rfl rfl (cc28.trans (congrArg some he.symm)) hw

/-- testbench/testbenchref47.usable -/
def ac29 : AC :=
  .seq (.reg 1 [⟨(some 2), 0, none, (.op (.box 2 (.t 0)))⟩,
    ⟨(some 4), 1, none, (.op (.mov (.k (.d (.bool false)))))⟩])
  (.seq (.seq (.reg 0 [⟨(some 7), 0, none, (.op (.mov (.t 1)))⟩,
    ⟨(some 8), 0, none, (.op (.bin .lss (.t 7) (.k (.d (.int .i64 0)))))⟩,
    ⟨(some 9), 0, none, (.op (.mov (.t 8)))⟩,
    ⟨(some 10), 0, (some (9, false)), (.op (.mov (.t 1)))⟩,
    ⟨(some 11), 0, (some (9, false)), (.op (.fldA 1 (.t 2)))⟩,
    ⟨(some 12), 0, (some (9, false)), (.op (.load false 1 (.t 11)))⟩,
    ⟨(some 13), 0, (some (9, false)), (.op (.len false (.t 12)))⟩,
    ⟨(some 14), 0, (some (9, false)), (.op (.bin .geq (.t 10) (.t 13)))⟩,
    ⟨(some 15), 0, none, (.op (.pick (.t 9) (.k (.d (.bool true))) (.t 14)))⟩])
  (.cond (.t 15)
    (.seq (.reg 0 [⟨(some 4), 0, none, (.op (.mov (.k (.d (.bool false)))))⟩])
    (.ret))
    (.skip)))
  (.seq (.reg 0 [⟨(some 16), 0, none, (.op (.fldA 1 (.t 2)))⟩,
    ⟨(some 17), 0, none, (.op (.load false 1 (.t 16)))⟩,
    ⟨(some 18), 0, none, (.op (.mov (.t 1)))⟩,
    ⟨(some 19), 0, none, (.op (.idxA 3 none (.t 17) (.t 18)))⟩,
    ⟨(some 20), 0, none, (.op (.fldA 1 (.t 19)))⟩,
    ⟨(some 21), 0, none, (.op (.load false 1 (.t 20)))⟩,
    ⟨(some 5), 0, none, (.op (.mov (.t 21)))⟩])
  (.seq (.seq (.reg 0 [⟨(some 6), 0, none, (.op (.mov (.k (.d (.int .i64 0)))))⟩])
  (.block 0
   (.loop
    (.seq (.seq (.reg 0 [⟨(some 22), 0, none, (.op (.mov (.t 6)))⟩,
      ⟨(some 23), 0, none, (.op (.mov (.t 5)))⟩,
      ⟨(some 24), 0, none, (.op (.len false (.t 23)))⟩,
      ⟨(some 25), 0, none, (.op (.bin .lss (.t 22) (.t 24)))⟩])
    (.cond (.t 25)
      (.skip)
      (.exit 0)))
    (.seq (.block 1
     (.seq (.regD 0 [(⟨(some 28), 0, none, (.op (.mov (.t 5)))⟩, []),
       (⟨(some 29), 0, none, (.op (.mov (.t 6)))⟩, []),
       (⟨(some 30), 0, none, (.op (.idxA 1 none (.t 28) (.t 29)))⟩, [0, 1]),
       (⟨(some 31), 0, none, (.op (.load false 1 (.t 30)))⟩, [2, 0, 1]),
       (⟨(some 32), 0, none, (.op (.bin .lss (.t 31) (.k (.d (.int .i64 0)))))⟩, [3, 2, 0, 1]),
       (⟨(some 33), 0, none, (.op (.mov (.t 32)))⟩, [4, 3, 2, 0, 1]),
       (⟨(some 34), 0, (some (33, false)), (.op (.mov (.t 5)))⟩, [5, 4, 3, 2, 0, 1]),
       (⟨(some 35), 0, (some (33, false)), (.op (.mov (.t 6)))⟩, [5, 4, 3, 2, 0, 1]),
       (⟨(some 36), 0, (some (33, false)), (.op (.idxA 1 none (.t 34) (.t 35)))⟩, [6, 5, 4, 3, 2, 0, 1, 7]),
       (⟨(some 37), 0, (some (33, false)), (.op (.load false 1 (.t 36)))⟩, [8, 6, 5, 4, 3, 2, 0, 1, 7]),
       (⟨(some 38), 0, (some (33, false)), (.op (.fldA 0 (.t 2)))⟩, [5, 4, 3, 2, 0, 1]),
       (⟨(some 39), 0, (some (33, false)), (.op (.load false 1 (.t 38)))⟩, [10, 5, 4, 3, 2, 0, 1]),
       (⟨(some 40), 0, (some (33, false)), (.op (.len false (.t 39)))⟩, [11, 10, 5, 4, 3, 2, 0, 1]),
       (⟨(some 41), 0, (some (33, false)), (.op (.bin .geq (.t 37) (.t 40)))⟩, [9, 8, 6, 5, 4, 3, 2, 0, 1, 7, 12, 11, 10]),
       (⟨(some 42), 0, none, (.op (.pick (.t 33) (.k (.d (.bool true))) (.t 41)))⟩, [5, 4, 3, 2, 0, 1, 13, 9, 8, 6, 7, 12, 11, 10])])
     (.cond (.t 42)
       (.seq (.reg 0 [⟨(some 4), 0, none, (.op (.mov (.k (.d (.bool false)))))⟩])
       (.ret))
       (.skip))))
    (.reg 0 [⟨(some 26), 0, none, (.op (.mov (.t 6)))⟩,
      ⟨(some 27), 0, none, (.op (.bin .add (.t 26) (.k (.d (.int .i64 1)))))⟩,
      ⟨(some 6), 0, none, (.op (.mov (.t 27)))⟩]))))))
  (.seq (.reg 0 [⟨(some 4), 0, none, (.op (.mov (.k (.d (.bool true)))))⟩])
  (.ret)))))
theorem cc29 : Try.f29.body.bind (compC Try.prog) = some ac29 := by kernel_rfl
theorem go29 {vals : List V} {v : V} (ac : AC) (he : ac.erase = ac29) (hw : wpC Try.prog 0 ac (retQ [.tmp 4] v) ⟨vals ++ List.replicate (43 - vals.length) (.tup []), []⟩) : CallP Try.prog 29 vals v :=
  call_of Try.func29 rfl rfl rfl (cc29.trans (congrArg some he.symm)) hw
theorem gi29 {vals : List V} {rows : Go.Vx.Rows} {K : V → Go.Vx.Rows → Prop} (ac : AC) (he : ac.erase = ac29) (hw : wpC Try.prog rows.length ac (retI [.tmp 4] K) ⟨vals ++ List.replicate (43 - vals.length) (.tup []), rows⟩) : InlP Try.prog 29 vals rows K :=
  inl_of' Try.func29 rfl rfl rfl (cc29.trans (congrArg some he.symm)) hw
theorem gm29 {vals : List V} {v : V} {sz : Nat} {es es' : List (List V)} (ac : AC) (he : ac.erase = ac29) (hw : wpC Try.prog 1 ac (retM [.tmp 4] v sz es') ⟨vals ++ List.replicate (43 - vals.length) (.tup []), [.live sz es]⟩) : CallM Try.prog 29 vals sz es v es' :=
  callM_of' Try.func29 rfl rfl rfl (cc29.trans (congrArg some he.symm)) hw

/-- slices.ContainsFunc[[][]int,[]int] -/
def ac30 : AC :=
  .seq (.reg 0 [⟨(some 4), 0, none, (.op (.mov (.k (.d (.bool false)))))⟩])
  (.seq (.reg 0 [⟨(some 5), 0, none, (.op (.mov (.t 0)))⟩,
    ⟨(some 6), 0, none, (.op (.mov (.t 1)))⟩,
    ⟨(some 7), 0, none, (.call (.k (.fn (.func 38) [] [])) [(.t 5), (.t 6)])⟩,
    ⟨(some 8), 0, none, (.op (.bin .geq (.t 7) (.k (.d (.int .i64 0)))))⟩,
    ⟨(some 4), 0, none, (.op (.mov (.t 8)))⟩])
  (.ret))
theorem cc30 : Try.f30.body.bind (compC Try.prog) = some ac30 := by kernel_rfl
theorem go30 {vals : List V} {v : V} (ac : AC) (he : ac.erase = ac30) (hw : wpC Try.prog 0 ac (retQ [.tmp 4] v) ⟨vals ++ List.replicate (9 - vals.length) (.tup []), []⟩) : CallP Try.prog 30 vals v :=
  call_of Try.func30 rfl rfl rfl (cc30.trans (congrArg some he.symm)) hw
theorem gi30 {vals : List V} {rows : Go.Vx.Rows} {K : V → Go.Vx.Rows → Prop} (ac : AC) (he : ac.erase = ac30) (hw : wpC Try.prog rows.length ac (retI [.tmp 4] K) ⟨vals ++ List.replicate (9 - vals.length) (.tup []), rows⟩) : InlP Try.prog 30 vals rows K :=
  inl_of' Try.func30 rfl rfl rfl (cc30.trans (congrArg some he.symm)) hw
theorem gm30 {vals : List V} {v : V} {sz : Nat} {es es' : List (List V)} (ac : AC) (he : ac.erase = ac30) (hw : wpC Try.prog 1 ac (retM [.tmp 4] v sz es') ⟨vals ++ List.replicate (9 - vals.length) (.tup []), [.live sz es]⟩) : CallM Try.prog 30 vals sz es v es' :=
  callM_of' Try.func30 rfl rfl rfl (cc30.trans (congrArg some he.symm)) hw

/-- testbench/cross.Excluded$1 -/
def ac31 : AC :=
  .seq (.reg 0 [⟨(some 3), 0, none, (.op (.mov (.k (.d (.bool false)))))⟩])
  (.seq (.reg 0 [⟨(some 4), 0, none, (.op (.mov (.t 0)))⟩,
    ⟨(some 5), 0, none, (.op (.load false 1 (.t 1)))⟩,
    ⟨(some 6), 0, none, (.call (.k (.fn (.func 32) [] [])) [(.t 4), (.t 5)])⟩,
    ⟨(some 3), 0, none, (.op (.mov (.t 6)))⟩])
  (.ret))
theorem cc31 : Try.f31.body.bind (compC Try.prog) = some ac31 := by kernel_rfl
theorem go31 {vals : List V} {v : V} (ac : AC) (he : ac.erase = ac31) (hw : wpC Try.prog 0 ac (retQ [.tmp 3] v) ⟨vals ++ List.replicate (7 - vals.length) (.tup []), []⟩) : CallP Try.prog 31 vals v :=
  call_of Try.func31 rfl rfl rfl (cc31.trans (congrArg some he.symm)) hw
theorem gi31 {vals : List V} {rows : Go.Vx.Rows} {K : V → Go.Vx.Rows → Prop} (ac : AC) (he : ac.erase = ac31) (hw : wpC Try.prog rows.length ac (retI [.tmp 3] K) ⟨vals ++ List.replicate (7 - vals.length) (.tup []), rows⟩) : InlP Try.prog 31 vals rows K :=
  inl_of' Try.func31 rfl rfl rfl (cc31.trans (congrArg some he.symm)) hw
theorem gm31 {vals : List V} {v : V} {sz : Nat} {es es' : List (List V)} (ac : AC) (he : ac.erase = ac31) (hw : wpC Try.prog 1 ac (retM [.tmp 3] v sz es') ⟨vals ++ List.replicate (7 - vals.length) (.tup []), [.live sz es]⟩) : CallM Try.prog 31 vals sz es v es' :=
  callM_of' Try.func31 rfl rfl rfl (cc31.trans (congrArg some he.symm)) hw

/-- slices.Equal[[]int,int] -/
def ac32 : AC :=
  .seq (.reg 0 [⟨(some 4), 0, none, (.op (.mov (.k (.d (.bool false)))))⟩])
  (.seq (.seq (.reg 0 [⟨(some 6), 0, none, (.op (.mov (.t 0)))⟩,
    ⟨(some 7), 0, none, (.op (.len false (.t 6)))⟩,
    ⟨(some 8), 0, none, (.op (.mov (.t 1)))⟩,
    ⟨(some 9), 0, none, (.op (.len false (.t 8)))⟩,
    ⟨(some 10), 0, none, (.op (.bin .neq (.t 7) (.t 9)))⟩])
  (.cond (.t 10)
    (.seq (.reg 0 [⟨(some 4), 0, none, (.op (.mov (.k (.d (.bool false)))))⟩])
    (.ret))
    (.skip)))
  (.seq (.seq (.reg 0 [⟨(some 11), 0, none, (.op (.mov (.t 0)))⟩,
    ⟨(some 12), 0, none, (.op (.len false (.t 11)))⟩,
    ⟨(some 13), 0, none, (.op (.mov (.k (.d (.int .i64 0)))))⟩])
  (.block 0
   (.loop
    (.seq (.reg 0 [⟨(some 14), 0, none, (.op (.bin .lss (.t 13) (.t 12)))⟩])
    (.seq (.cond (.t 14)
      (.skip)
      (.exit 0))
    (.seq (.block 1
     (.seq (.reg 0 [⟨(some 15), 0, none, (.op (.mov (.t 13)))⟩,
       ⟨(some 5), 0, none, (.op (.mov (.t 15)))⟩])
     (.seq (.regD 0 [(⟨(some 16), 0, none, (.op (.mov (.t 0)))⟩, []),
       (⟨(some 17), 0, none, (.op (.mov (.t 5)))⟩, []),
       (⟨(some 18), 0, none, (.op (.idxA 1 none (.t 16) (.t 17)))⟩, [0, 1]),
       (⟨(some 19), 0, none, (.op (.load false 1 (.t 18)))⟩, [2, 0, 1]),
       (⟨(some 20), 0, none, (.op (.mov (.t 1)))⟩, []),
       (⟨(some 21), 0, none, (.op (.mov (.t 5)))⟩, []),
       (⟨(some 22), 0, none, (.op (.idxA 1 none (.t 20) (.t 21)))⟩, [4, 5]),
       (⟨(some 23), 0, none, (.op (.load false 1 (.t 22)))⟩, [6, 4, 5]),
       (⟨(some 24), 0, none, (.op (.bin .neq (.t 19) (.t 23)))⟩, [3, 2, 0, 1, 7, 6, 4, 5])])
     (.cond (.t 24)
       (.seq (.reg 0 [⟨(some 4), 0, none, (.op (.mov (.k (.d (.bool false)))))⟩])
       (.ret))
       (.skip)))))
    (.reg 0 [⟨(some 25), 0, none, (.op (.bin .add (.t 13) (.k (.d (.int .i64 1)))))⟩,
      ⟨(some 13), 0, none, (.op (.mov (.t 25)))⟩])))))))
  (.seq (.reg 0 [⟨(some 4), 0, none, (.op (.mov (.k (.d (.bool true)))))⟩])
  (.ret))))
theorem cc32 : Try.f32.body.bind (compC Try.prog) = some ac32 := by kernel_rfl
theorem go32 {vals : List V} {v : V} (ac : AC) (he : ac.erase = ac32) (hw : wpC Try.prog 0 ac (retQ [.tmp 4] v) ⟨vals ++ List.replicate (26 - vals.length) (.tup []), []⟩) : CallP Try.prog 32 vals v :=
  call_of Try.func32 rfl rfl rfl (cc32.trans (congrArg some he.symm)) hw
theorem gi32 {vals : List V} {rows : Go.Vx.Rows} {K : V → Go.Vx.Rows → Prop} (ac : AC) (he : ac.erase = ac32) (hw : wpC Try.prog rows.length ac (retI [.tmp 4] K) ⟨vals ++ List.replicate (26 - vals.length) (.tup []), rows⟩) : InlP Try.prog 32 vals rows K :=
  inl_of' Try.func32 rfl rfl rfl (cc32.trans (congrArg some he.symm)) hw
theorem gm32 {vals : List V} {v : V} {sz : Nat} {es es' : List (List V)} (ac : AC) (he : ac.erase = ac32) (hw : wpC Try.prog 1 ac (retM [.tmp 4] v sz es') ⟨vals ++ List.replicate (26 - vals.length) (.tup []), [.live sz es]⟩) : CallM Try.prog 32 vals sz es v es' :=
  callM_of' Try.func32 rfl rfl rfl (cc32.trans (congrArg some he.symm)) hw

/-- testbench/testbenchref47.same -/
def ac33 : AC :=
  .seq (.reg 0 [⟨(some 4), 0, none, (.op (.mov (.k (.d (.bool false)))))⟩])
  (.seq (.seq (.reg 0 [⟨(some 6), 0, none, (.op (.mov (.t 0)))⟩,
    ⟨(some 7), 0, none, (.op (.len false (.t 6)))⟩,
    ⟨(some 8), 0, none, (.op (.mov (.t 1)))⟩,
    ⟨(some 9), 0, none, (.op (.len false (.t 8)))⟩,
    ⟨(some 10), 0, none, (.op (.bin .neq (.t 7) (.t 9)))⟩])
  (.cond (.t 10)
    (.seq (.reg 0 [⟨(some 4), 0, none, (.op (.mov (.k (.d (.bool false)))))⟩])
    (.ret))
    (.skip)))
  (.seq (.seq (.reg 0 [⟨(some 5), 0, none, (.op (.mov (.k (.d (.int .i64 0)))))⟩])
  (.block 0
   (.loop
    (.seq (.seq (.reg 0 [⟨(some 11), 0, none, (.op (.mov (.t 5)))⟩,
      ⟨(some 12), 0, none, (.op (.mov (.t 0)))⟩,
      ⟨(some 13), 0, none, (.op (.len false (.t 12)))⟩,
      ⟨(some 14), 0, none, (.op (.bin .lss (.t 11) (.t 13)))⟩])
    (.cond (.t 14)
      (.skip)
      (.exit 0)))
    (.seq (.block 1
     (.seq (.regD 0 [(⟨(some 17), 0, none, (.op (.mov (.t 0)))⟩, []),
       (⟨(some 18), 0, none, (.op (.mov (.t 5)))⟩, []),
       (⟨(some 19), 0, none, (.op (.idxA 1 none (.t 17) (.t 18)))⟩, [0, 1]),
       (⟨(some 20), 0, none, (.op (.load false 1 (.t 19)))⟩, [2, 0, 1]),
       (⟨(some 21), 0, none, (.op (.mov (.t 1)))⟩, []),
       (⟨(some 22), 0, none, (.op (.mov (.t 5)))⟩, []),
       (⟨(some 23), 0, none, (.op (.idxA 1 none (.t 21) (.t 22)))⟩, [4, 5]),
       (⟨(some 24), 0, none, (.op (.load false 1 (.t 23)))⟩, [6, 4, 5]),
       (⟨(some 25), 0, none, (.op (.bin .neq (.t 20) (.t 24)))⟩, [3, 2, 0, 1, 7, 6, 4, 5])])
     (.cond (.t 25)
       (.seq (.reg 0 [⟨(some 4), 0, none, (.op (.mov (.k (.d (.bool false)))))⟩])
       (.ret))
       (.skip))))
    (.reg 0 [⟨(some 15), 0, none, (.op (.mov (.t 5)))⟩,
      ⟨(some 16), 0, none, (.op (.bin .add (.t 15) (.k (.d (.int .i64 1)))))⟩,
      ⟨(some 5), 0, none, (.op (.mov (.t 16)))⟩]))))))
  (.seq (.reg 0 [⟨(some 4), 0, none, (.op (.mov (.k (.d (.bool true)))))⟩])
  (.ret))))
theorem cc33 : Try.f33.body.bind (compC Try.prog) = some ac33 := by kernel_rfl
theorem go33 {vals : List V} {v : V} (ac : AC) (he : ac.erase = ac33) (hw : wpC Try.prog 0 ac (retQ [.tmp 4] v) ⟨vals ++ List.replicate (26 - vals.length) (.tup []), []⟩) : CallP Try.prog 33 vals v :=
  call_of Try.func33 rfl rfl rfl (cc33.trans (congrArg some he.symm)) hw
theorem gi33 {vals : List V} {rows : Go.Vx.Rows} {K : V → Go.Vx.Rows → Prop} (ac : AC) (he : ac.erase = ac33) (hw : wpC Try.prog rows.length ac (retI [.tmp 4] K) ⟨vals ++ List.replicate (26 - vals.length) (.tup []), rows⟩) : InlP Try.prog 33 vals rows K :=
  inl_of' Try.func33 rfl rfl rfl (cc33.trans (congrArg some he.symm)) hw
theorem gm33 {vals : List V} {v : V} {sz : Nat} {es es' : List (List V)} (ac : AC) (he : ac.erase = ac33) (hw : wpC Try.prog 1 ac (retM [.tmp 4] v sz es') ⟨vals ++ List.replicate (26 - vals.length) (.tup []), [.live sz es]⟩) : CallM Try.prog 33 vals sz es v es' :=
  callM_of' Try.func33 rfl rfl rfl (cc33.trans (congrArg some he.symm)) hw

/-- slices.Contains[[]int,int] -/
def ac34 : AC :=
  .seq (.reg 0 [⟨(some 4), 0, none, (.op (.mov (.k (.d (.bool false)))))⟩])
  (.seq (.reg 0 [⟨(some 5), 0, none, (.op (.mov (.t 0)))⟩,
    ⟨(some 6), 0, none, (.op (.mov (.t 1)))⟩,
    ⟨(some 7), 0, none, (.call (.k (.fn (.func 39) [] [])) [(.t 5), (.t 6)])⟩,
    ⟨(some 8), 0, none, (.op (.bin .geq (.t 7) (.k (.d (.int .i64 0)))))⟩,
    ⟨(some 4), 0, none, (.op (.mov (.t 8)))⟩])
  (.ret))
theorem cc34 : Try.f34.body.bind (compC Try.prog) = some ac34 := by kernel_rfl
theorem go34 {vals : List V} {v : V} (ac : AC) (he : ac.erase = ac34) (hw : wpC Try.prog 0 ac (retQ [.tmp 4] v) ⟨vals ++ List.replicate (9 - vals.length) (.tup []), []⟩) : CallP Try.prog 34 vals v :=
  call_of Try.func34 rfl rfl rfl (cc34.trans (congrArg some he.symm)) hw
theorem gi34 {vals : List V} {rows : Go.Vx.Rows} {K : V → Go.Vx.Rows → Prop} (ac : AC) (he : ac.erase = ac34) (hw : wpC Try.prog rows.length ac (retI [.tmp 4] K) ⟨vals ++ List.replicate (9 - vals.length) (.tup []), rows⟩) : InlP Try.prog 34 vals rows K :=
  inl_of' Try.func34 rfl rfl rfl (cc34.trans (congrArg some he.symm)) hw
theorem gm34 {vals : List V} {v : V} {sz : Nat} {es es' : List (List V)} (ac : AC) (he : ac.erase = ac34) (hw : wpC Try.prog 1 ac (retM [.tmp 4] v sz es') ⟨vals ++ List.replicate (9 - vals.length) (.tup []), [.live sz es]⟩) : CallM Try.prog 34 vals sz es v es' :=
  callM_of' Try.func34 rfl rfl rfl (cc34.trans (congrArg some he.symm)) hw

/-- testbench/testbenchref47.has -/
def ac35 : AC :=
  .seq (.reg 0 [⟨(some 4), 0, none, (.op (.mov (.k (.d (.bool false)))))⟩])
  (.seq (.seq (.reg 0 [⟨(some 5), 0, none, (.op (.mov (.k (.d (.int .i64 0)))))⟩])
  (.block 0
   (.loop
    (.seq (.seq (.reg 0 [⟨(some 6), 0, none, (.op (.mov (.t 5)))⟩,
      ⟨(some 7), 0, none, (.op (.mov (.t 0)))⟩,
      ⟨(some 8), 0, none, (.op (.len false (.t 7)))⟩,
      ⟨(some 9), 0, none, (.op (.bin .lss (.t 6) (.t 8)))⟩])
    (.cond (.t 9)
      (.skip)
      (.exit 0)))
    (.seq (.block 1
     (.seq (.reg 0 [⟨(some 12), 0, none, (.op (.mov (.t 0)))⟩,
       ⟨(some 13), 0, none, (.op (.mov (.t 5)))⟩,
       ⟨(some 14), 0, none, (.op (.idxA 1 none (.t 12) (.t 13)))⟩,
       ⟨(some 15), 0, none, (.op (.load false 1 (.t 14)))⟩,
       ⟨(some 16), 0, none, (.op (.mov (.t 1)))⟩,
       ⟨(some 17), 0, none, (.op (.bin .eql (.t 15) (.t 16)))⟩])
     (.cond (.t 17)
       (.seq (.reg 0 [⟨(some 4), 0, none, (.op (.mov (.k (.d (.bool true)))))⟩])
       (.ret))
       (.skip))))
    (.reg 0 [⟨(some 10), 0, none, (.op (.mov (.t 5)))⟩,
      ⟨(some 11), 0, none, (.op (.bin .add (.t 10) (.k (.d (.int .i64 1)))))⟩,
      ⟨(some 5), 0, none, (.op (.mov (.t 11)))⟩]))))))
  (.seq (.reg 0 [⟨(some 4), 0, none, (.op (.mov (.k (.d (.bool false)))))⟩])
  (.ret)))
theorem cc35 : Try.f35.body.bind (compC Try.prog) = some ac35 := by kernel_rfl
theorem go35 {vals : List V} {v : V} (ac : AC) (he : ac.erase = ac35) (hw : wpC Try.prog 0 ac (retQ [.tmp 4] v) ⟨vals ++ List.replicate (18 - vals.length) (.tup []), []⟩) : CallP Try.prog 35 vals v :=
  call_of Try.func35 rfl rfl rfl (cc35.trans (congrArg some he.symm)) hw
theorem gi35 {vals : List V} {rows : Go.Vx.Rows} {K : V → Go.Vx.Rows → Prop} (ac : AC) (he : ac.erase = ac35) (hw : wpC Try.prog rows.length ac (retI [.tmp 4] K) ⟨vals ++ List.replicate (18 - vals.length) (.tup []), rows⟩) : InlP Try.prog 35 vals rows K :=
  inl_of' Try.func35 rfl rfl rfl (cc35.trans (congrArg some he.symm)) hw
theorem gm35 {vals : List V} {v : V} {sz : Nat} {es es' : List (List V)} (ac : AC) (he : ac.erase = ac35) (hw : wpC Try.prog 1 ac (retM [.tmp 4] v sz es') ⟨vals ++ List.replicate (18 - vals.length) (.tup []), [.live sz es]⟩) : CallM Try.prog 35 vals sz es v es' :=
  callM_of' Try.func35 rfl rfl rfl (cc35.trans (congrArg some he.symm)) hw

/-- testbench/cross.usable$1 -/
def ac36 : AC :=
  .seq (.reg 0 [⟨(some 3), 0, none, (.op (.mov (.k (.d (.bool false)))))⟩])
  (.seq (.reg 0 [⟨(some 4), 0, none, (.op (.mov (.t 0)))⟩,
    ⟨(some 5), 0, none, (.op (.bin .lss (.t 4) (.k (.d (.int .i64 0)))))⟩,
    ⟨(some 6), 0, none, (.op (.mov (.t 5)))⟩,
    ⟨(some 7), 0, (some (6, false)), (.op (.mov (.t 0)))⟩,
    ⟨(some 8), 0, (some (6, false)), (.op (.fldA 0 (.t 1)))⟩,
    ⟨(some 9), 0, (some (6, false)), (.op (.load false 1 (.t 8)))⟩,
    ⟨(some 10), 0, (some (6, false)), (.op (.len false (.t 9)))⟩,
    ⟨(some 11), 0, (some (6, false)), (.op (.bin .geq (.t 7) (.t 10)))⟩,
    ⟨(some 12), 0, none, (.op (.pick (.t 6) (.k (.d (.bool true))) (.t 11)))⟩,
    ⟨(some 3), 0, none, (.op (.mov (.t 12)))⟩])
  (.ret))
theorem cc36 : Try.f36.body.bind (compC Try.prog) = some ac36 := by kernel_rfl
theorem go36 {vals : List V} {v : V} (ac : AC) (he : ac.erase = ac36) (hw : wpC Try.prog 0 ac (retQ [.tmp 3] v) ⟨vals ++ List.replicate (13 - vals.length) (.tup []), []⟩) : CallP Try.prog 36 vals v :=
  call_of Try.func36 rfl rfl rfl (cc36.trans (congrArg some he.symm)) hw
theorem gi36 {vals : List V} {rows : Go.Vx.Rows} {K : V → Go.Vx.Rows → Prop} (ac : AC) (he : ac.erase = ac36) (hw : wpC Try.prog rows.length ac (retI [.tmp 3] K) ⟨vals ++ List.replicate (13 - vals.length) (.tup []), rows⟩) : InlP Try.prog 36 vals rows K :=
  inl_of' Try.func36 rfl rfl rfl (cc36.trans (congrArg some he.symm)) hw
theorem gm36 {vals : List V} {v : V} {sz : Nat} {es es' : List (List V)} (ac : AC) (he : ac.erase = ac36) (hw : wpC Try.prog 1 ac (retM [.tmp 3] v sz es') ⟨vals ++ List.replicate (13 - vals.length) (.tup []), [.live sz es]⟩) : CallM Try.prog 36 vals sz es v es' :=
  callM_of' Try.func36 rfl rfl rfl (cc36.trans (congrArg some he.symm)) hw

/-- slices.ContainsFunc[[]int,int] -/
def ac37 : AC :=
  .seq (.reg 0 [⟨(some 4), 0, none, (.op (.mov (.k (.d (.bool false)))))⟩])
  (.seq (.reg 0 [⟨(some 5), 0, none, (.op (.mov (.t 0)))⟩,
    ⟨(some 6), 0, none, (.op (.mov (.t 1)))⟩,
    ⟨(some 7), 0, none, (.call (.k (.fn (.func 40) [] [])) [(.t 5), (.t 6)])⟩,
    ⟨(some 8), 0, none, (.op (.bin .geq (.t 7) (.k (.d (.int .i64 0)))))⟩,
    ⟨(some 4), 0, none, (.op (.mov (.t 8)))⟩])
  (.ret))
theorem cc37 : Try.f37.body.bind (compC Try.prog) = some ac37 := by kernel_rfl
theorem go37 {vals : List V} {v : V} (ac : AC) (he : ac.erase = ac37) (hw : wpC Try.prog 0 ac (retQ [.tmp 4] v) ⟨vals ++ List.replicate (9 - vals.length) (.tup []), []⟩) : CallP Try.prog 37 vals v :=
  call_of Try.func37 rfl rfl rfl (cc37.trans (congrArg some he.symm)) hw
theorem gi37 {vals : List V} {rows : Go.Vx.Rows} {K : V → Go.Vx.Rows → Prop} (ac : AC) (he : ac.erase = ac37) (hw : wpC Try.prog rows.length ac (retI [.tmp 4] K) ⟨vals ++ List.replicate (9 - vals.length) (.tup []), rows⟩) : InlP Try.prog 37 vals rows K :=
  inl_of' Try.func37 rfl rfl rfl (cc37.trans (congrArg some he.symm)) hw
theorem gm37 {vals : List V} {v : V} {sz : Nat} {es es' : List (List V)} (ac : AC) (he : ac.erase = ac37) (hw : wpC Try.prog 1 ac (retM [.tmp 4] v sz es') ⟨vals ++ List.replicate (9 - vals.length) (.tup []), [.live sz es]⟩) : CallM Try.prog 37 vals sz es v es' :=
  callM_of' Try.func37 rfl rfl rfl (cc37.trans (congrArg some he.symm)) hw

/-- slices.IndexFunc[[][]int,[]int] -/
def ac38 : AC :=
  .seq (.reg 0 [⟨(some 4), 0, none, (.op (.mov (.k (.d (.int .i64 0)))))⟩])
  (.seq (.seq (.reg 0 [⟨(some 6), 0, none, (.op (.mov (.t 0)))⟩,
    ⟨(some 7), 0, none, (.op (.len false (.t 6)))⟩,
    ⟨(some 8), 0, none, (.op (.mov (.k (.d (.int .i64 0)))))⟩])
  (.block 0
   (.loop
    (.seq (.reg 0 [⟨(some 9), 0, none, (.op (.bin .lss (.t 8) (.t 7)))⟩])
    (.seq (.cond (.t 9)
      (.skip)
      (.exit 0))
    (.seq (.block 1
     (.seq (.reg 0 [⟨(some 10), 0, none, (.op (.mov (.t 8)))⟩,
       ⟨(some 5), 0, none, (.op (.mov (.t 10)))⟩])
     (.seq (.reg 0 [⟨(some 11), 0, none, (.op (.mov (.t 1)))⟩,
       ⟨(some 12), 0, none, (.op (.mov (.t 0)))⟩,
       ⟨(some 13), 0, none, (.op (.mov (.t 5)))⟩,
       ⟨(some 14), 0, none, (.op (.idxA 1 none (.t 12) (.t 13)))⟩,
       ⟨(some 15), 0, none, (.op (.load false 1 (.t 14)))⟩,
       ⟨(some 16), 0, none, (.call (.t 11) [(.t 15)])⟩])
     (.cond (.t 16)
       (.seq (.reg 0 [⟨(some 17), 0, none, (.op (.mov (.t 5)))⟩,
         ⟨(some 4), 0, none, (.op (.mov (.t 17)))⟩])
       (.ret))
       (.skip)))))
    (.reg 0 [⟨(some 18), 0, none, (.op (.bin .add (.t 8) (.k (.d (.int .i64 1)))))⟩,
      ⟨(some 8), 0, none, (.op (.mov (.t 18)))⟩])))))))
  (.seq (.reg 0 [⟨(some 4), 0, none, (.op (.mov (.k (.d (.int .i64 (-1))))))⟩])
  (.ret)))
theorem cc38 : Try.f38.body.bind (compC Try.prog) = some ac38 := by kernel_rfl
theorem go38 {vals : List V} {v : V} (ac : AC) (he : ac.erase = ac38) (hw : wpC Try.prog 0 ac (retQ [.tmp 4] v) ⟨vals ++ List.replicate (19 - vals.length) (.tup []), []⟩) : CallP Try.prog 38 vals v :=
  call_of Try.func38 rfl rfl rfl (cc38.trans (congrArg some he.symm)) hw
theorem gi38 {vals : List V} {rows : Go.Vx.Rows} {K : V → Go.Vx.Rows → Prop} (ac : AC) (he : ac.erase = ac38) (hw : wpC Try.prog rows.length ac (retI [.tmp 4] K) ⟨vals ++ List.replicate (19 - vals.length) (.tup []), rows⟩) : InlP Try.prog 38 vals rows K :=
  inl_of' Try.func38 rfl rfl rfl (cc38.trans (congrArg some he.symm)) hw
theorem gm38 {vals : List V} {v : V} {sz : Nat} {es es' : List (List V)} (ac : AC) (he : ac.erase = ac38) (hw : wpC Try.prog 1 ac (retM [.tmp 4] v sz es') ⟨vals ++ List.replicate (19 - vals.length) (.tup []), [.live sz es]⟩) : CallM Try.prog 38 vals sz es v es' :=
  callM_of' Try.func38 rfl rfl rfl (cc38.trans (congrArg some he.symm)) hw

/-- slices.Index[[]int,int] -/
def ac39 : AC :=
  .seq (.reg 0 [⟨(some 4), 0, none, (.op (.mov (.k (.d (.int .i64 0)))))⟩])
  (.seq (.seq (.reg 0 [⟨(some 6), 0, none, (.op (.mov (.t 0)))⟩,
    ⟨(some 7), 0, none, (.op (.len false (.t 6)))⟩,
    ⟨(some 8), 0, none, (.op (.mov (.k (.d (.int .i64 0)))))⟩])
  (.block 0
   (.loop
    (.seq (.reg 0 [⟨(some 9), 0, none, (.op (.bin .lss (.t 8) (.t 7)))⟩])
    (.seq (.cond (.t 9)
      (.skip)
      (.exit 0))
    (.seq (.block 1
     (.seq (.reg 0 [⟨(some 10), 0, none, (.op (.mov (.t 8)))⟩,
       ⟨(some 5), 0, none, (.op (.mov (.t 10)))⟩])
     (.seq (.reg 0 [⟨(some 11), 0, none, (.op (.mov (.t 1)))⟩,
       ⟨(some 12), 0, none, (.op (.mov (.t 0)))⟩,
       ⟨(some 13), 0, none, (.op (.mov (.t 5)))⟩,
       ⟨(some 14), 0, none, (.op (.idxA 1 none (.t 12) (.t 13)))⟩,
       ⟨(some 15), 0, none, (.op (.load false 1 (.t 14)))⟩,
       ⟨(some 16), 0, none, (.op (.bin .eql (.t 11) (.t 15)))⟩])
     (.cond (.t 16)
       (.seq (.reg 0 [⟨(some 17), 0, none, (.op (.mov (.t 5)))⟩,
         ⟨(some 4), 0, none, (.op (.mov (.t 17)))⟩])
       (.ret))
       (.skip)))))
    (.reg 0 [⟨(some 18), 0, none, (.op (.bin .add (.t 8) (.k (.d (.int .i64 1)))))⟩,
      ⟨(some 8), 0, none, (.op (.mov (.t 18)))⟩])))))))
  (.seq (.reg 0 [⟨(some 4), 0, none, (.op (.mov (.k (.d (.int .i64 (-1))))))⟩])
  (.ret)))
theorem cc39 : Try.f39.body.bind (compC Try.prog) = some ac39 := by kernel_rfl
theorem go39 {vals : List V} {v : V} (ac : AC) (he : ac.erase = ac39) (hw : wpC Try.prog 0 ac (retQ [.tmp 4] v) ⟨vals ++ List.replicate (19 - vals.length) (.tup []), []⟩) : CallP Try.prog 39 vals v :=
  call_of Try.func39 rfl rfl rfl (cc39.trans (congrArg some he.symm)) hw
theorem gi39 {vals : List V} {rows : Go.Vx.Rows} {K : V → Go.Vx.Rows → Prop} (ac : AC) (he : ac.erase = ac39) (hw : wpC Try.prog rows.length ac (retI [.tmp 4] K) ⟨vals ++ List.replicate (19 - vals.length) (.tup []), rows⟩) : InlP Try.prog 39 vals rows K :=
  inl_of' Try.func39 rfl rfl rfl (cc39.trans (congrArg some he.symm)) hw
theorem gm39 {vals : List V} {v : V} {sz : Nat} {es es' : List (List V)} (ac : AC) (he : ac.erase = ac39) (hw : wpC Try.prog 1 ac (retM [.tmp 4] v sz es') ⟨vals ++ List.replicate (19 - vals.length) (.tup []), [.live sz es]⟩) : CallM Try.prog 39 vals sz es v es' :=
  callM_of' Try.func39 rfl rfl rfl (cc39.trans (congrArg some he.symm)) hw

/-- slices.IndexFunc[[]int,int] -/
def ac40 : AC :=
  .seq (.reg 0 [⟨(some 4), 0, none, (.op (.mov (.k (.d (.int .i64 0)))))⟩])
  (.seq (.seq (.reg 0 [⟨(some 6), 0, none, (.op (.mov (.t 0)))⟩,
    ⟨(some 7), 0, none, (.op (.len false (.t 6)))⟩,
    ⟨(some 8), 0, none, (.op (.mov (.k (.d (.int .i64 0)))))⟩])
  (.block 0
   (.loop
    (.seq (.reg 0 [⟨(some 9), 0, none, (.op (.bin .lss (.t 8) (.t 7)))⟩])
    (.seq (.cond (.t 9)
      (.skip)
      (.exit 0))
    (.seq (.block 1
     (.seq (.reg 0 [⟨(some 10), 0, none, (.op (.mov (.t 8)))⟩,
       ⟨(some 5), 0, none, (.op (.mov (.t 10)))⟩])
     (.seq (.reg 0 [⟨(some 11), 0, none, (.op (.mov (.t 1)))⟩,
       ⟨(some 12), 0, none, (.op (.mov (.t 0)))⟩,
       ⟨(some 13), 0, none, (.op (.mov (.t 5)))⟩,
       ⟨(some 14), 0, none, (.op (.idxA 1 none (.t 12) (.t 13)))⟩,
       ⟨(some 15), 0, none, (.op (.load false 1 (.t 14)))⟩,
       ⟨(some 16), 0, none, (.call (.t 11) [(.t 15)])⟩])
     (.cond (.t 16)
       (.seq (.reg 0 [⟨(some 17), 0, none, (.op (.mov (.t 5)))⟩,
         ⟨(some 4), 0, none, (.op (.mov (.t 17)))⟩])
       (.ret))
       (.skip)))))
    (.reg 0 [⟨(some 18), 0, none, (.op (.bin .add (.t 8) (.k (.d (.int .i64 1)))))⟩,
      ⟨(some 8), 0, none, (.op (.mov (.t 18)))⟩])))))))
  (.seq (.reg 0 [⟨(some 4), 0, none, (.op (.mov (.k (.d (.int .i64 (-1))))))⟩])
  (.ret)))
theorem cc40 : Try.f40.body.bind (compC Try.prog) = some ac40 := by kernel_rfl
theorem go40 {vals : List V} {v : V} (ac : AC) (he : ac.erase = ac40) (hw : wpC Try.prog 0 ac (retQ [.tmp 4] v) ⟨vals ++ List.replicate (19 - vals.length) (.tup []), []⟩) : CallP Try.prog 40 vals v :=
  call_of Try.func40 rfl rfl rfl (cc40.trans (congrArg some he.symm)) hw
theorem gi40 {vals : List V} {rows : Go.Vx.Rows} {K : V → Go.Vx.Rows → Prop} (ac : AC) (he : ac.erase = ac40) (hw : wpC Try.prog rows.length ac (retI [.tmp 4] K) ⟨vals ++ List.replicate (19 - vals.length) (.tup []), rows⟩) : InlP Try.prog 40 vals rows K :=
  inl_of' Try.func40 rfl rfl rfl (cc40.trans (congrArg some he.symm)) hw
theorem gm40 {vals : List V} {v : V} {sz : Nat} {es es' : List (List V)} (ac : AC) (he : ac.erase = ac40) (hw : wpC Try.prog 1 ac (retM [.tmp 4] v sz es') ⟨vals ++ List.replicate (19 - vals.length) (.tup []), [.live sz es]⟩) : CallM Try.prog 40 vals sz es v es' :=
  callM_of' Try.func40 rfl rfl rfl (cc40.trans (congrArg some he.symm)) hw

/-- the functions -/
def tab : Tab := tabOf [(3, ac3, 49, [.tmp 6]), (4, ac4, 56, [.tmp 6]), (5, ac5, 28, [.tmp 6]), (6, ac6, 74, [.tmp 4]), (7, ac7, 100, [.tmp 8]), (8, ac8, 112, [.tmp 6]), (9, ac9, 59, [.tmp 2]), (10, ac10, 43, [.tmp 0]), (11, ac11, 52, [.tmp 6, .tmp 7]), (12, ac12, 49, [.tmp 6, .tmp 7]), (13, ac13, 25, [.tmp 4]), (14, ac14, 29, [.tmp 4]), (15, ac15, 26, [.tmp 4]), (16, ac16, 51, [.tmp 6, .tmp 7]), (17, ac17, 59, [.tmp 6, .tmp 7]), (18, ac18, 55, [.tmp 6]), (19, ac19, 64, [.tmp 6]), (20, ac20, 23, [.tmp 2]), (21, ac21, 113, [.tmp 6]), (22, ac22, 79, [.tmp 6]), (23, ac23, 36, [.tmp 4]), (24, ac24, 33, [.tmp 4]), (25, ac25, 10, [.cell 0 true 2]), (26, ac26, 31, [.tmp 4]), (27, ac27, 22, [.tmp 6]), (28, ac28, 25, [.tmp 4]), (29, ac29, 43, [.tmp 4]), (30, ac30, 9, [.tmp 4]), (31, ac31, 7, [.tmp 3]), (32, ac32, 26, [.tmp 4]), (33, ac33, 26, [.tmp 4]), (34, ac34, 9, [.tmp 4]), (35, ac35, 18, [.tmp 4]), (36, ac36, 13, [.tmp 3]), (37, ac37, 9, [.tmp 4]), (38, ac38, 19, [.tmp 4]), (39, ac39, 19, [.tmp 4]), (40, ac40, 19, [.tmp 4])]
theorem tab_ok : TabOk Try.prog tab :=
  tabOf_cons (fun _ _ h => go3 ac3 rfl h) (tabOf_cons (fun _ _ h => go4 ac4 rfl h) (tabOf_cons (fun _ _ h => go5 ac5 rfl h) (tabOf_cons (fun _ _ h => go6 ac6 rfl h) (tabOf_cons (fun _ _ h => go7 ac7 rfl h) (tabOf_cons (fun _ _ h => go8 ac8 rfl h) (tabOf_cons (fun _ _ h => go9 ac9 rfl h) (tabOf_cons (fun _ _ h => go10 ac10 rfl h) (tabOf_cons (fun _ _ h => go11 ac11 rfl h) (tabOf_cons (fun _ _ h => go12 ac12 rfl h) (tabOf_cons (fun _ _ h => go13 ac13 rfl h) (tabOf_cons (fun _ _ h => go14 ac14 rfl h) (tabOf_cons (fun _ _ h => go15 ac15 rfl h) (tabOf_cons (fun _ _ h => go16 ac16 rfl h) (tabOf_cons (fun _ _ h => go17 ac17 rfl h) (tabOf_cons (fun _ _ h => go18 ac18 rfl h) (tabOf_cons (fun _ _ h => go19 ac19 rfl h) (tabOf_cons (fun _ _ h => go20 ac20 rfl h) (tabOf_cons (fun _ _ h => go21 ac21 rfl h) (tabOf_cons (fun _ _ h => go22 ac22 rfl h) (tabOf_cons (fun _ _ h => go23 ac23 rfl h) (tabOf_cons (fun _ _ h => go24 ac24 rfl h) (tabOf_cons (fun _ _ h => go25 ac25 rfl h) (tabOf_cons (fun _ _ h => go26 ac26 rfl h) (tabOf_cons (fun _ _ h => go27 ac27 rfl h) (tabOf_cons (fun _ _ h => go28 ac28 rfl h) (tabOf_cons (fun _ _ h => go29 ac29 rfl h) (tabOf_cons (fun _ _ h => go30 ac30 rfl h) (tabOf_cons (fun _ _ h => go31 ac31 rfl h) (tabOf_cons (fun _ _ h => go32 ac32 rfl h) (tabOf_cons (fun _ _ h => go33 ac33 rfl h) (tabOf_cons (fun _ _ h => go34 ac34 rfl h) (tabOf_cons (fun _ _ h => go35 ac35 rfl h) (tabOf_cons (fun _ _ h => go36 ac36 rfl h) (tabOf_cons (fun _ _ h => go37 ac37 rfl h) (tabOf_cons (fun _ _ h => go38 ac38 rfl h) (tabOf_cons (fun _ _ h => go39 ac39 rfl h) (tabOf_cons (fun _ _ h => go40 ac40 rfl h) (tabOf_nil))))))))))))))))))))))))))))))))))))))
end Go.Proofs.Cr
