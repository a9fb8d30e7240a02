import Derived.Test.YtfoncpamepepmaaVxEv
import Derived.KernelRfl
import Derived.Test.YtfoncpamepepmaaProg
set_option linter.unusedSimpArgs false
set_option linter.unusedVariables false
namespace Go.Proofs.Ar
open Go.Vx

/-- testbench/testbenchlaw29.ArbiterTurns -/
def ac3 : AC :=
  .seq (.reg 0 [⟨(some 2), 0, none, (.op (.mov (.k (.d (.bool false)))))⟩])
  (.seq (.seq (.reg 0 [⟨(some 6), 0, none, (.op (.mov (.t 0)))⟩,
    ⟨(some 7), 0, none, (.call (.k (.fn (.func 9) [] [])) [(.t 6)])⟩,
    ⟨(some 8), 0, none, (.op (.un .not (.t 7)))⟩])
  (.cond (.t 8)
    (.seq (.reg 0 [⟨(some 9), 0, none, (.call (.k (.fn (.func 10) [] [])) [])⟩,
      ⟨(some 2), 0, none, (.op (.mov (.t 9)))⟩])
    (.ret))
    (.skip)))
  (.seq (.reg 0 [⟨(some 3), 0, none, (.op (.mov (.k (.d (.int .i64 0)))))⟩])
  (.seq (.seq (.reg 0 [⟨(some 4), 0, none, (.op (.mov (.k (.d (.int .i64 0)))))⟩])
  (.block 0
   (.loop
    (.seq (.seq (.reg 0 [⟨(some 10), 0, none, (.op (.mov (.t 4)))⟩,
      ⟨(some 11), 0, none, (.op (.mov (.t 0)))⟩,
      ⟨(some 12), 0, none, (.op (.len false (.t 11)))⟩,
      ⟨(some 13), 0, none, (.op (.bin .lss (.t 10) (.t 12)))⟩])
    (.cond (.t 13)
      (.skip)
      (.exit 0)))
    (.seq (.block 1
     (.reg 0 [⟨(some 16), 0, none, (.op (.mov (.t 3)))⟩,
       ⟨(some 17), 0, none, (.op (.mov (.t 0)))⟩,
       ⟨(some 18), 0, none, (.op (.mov (.t 4)))⟩,
       ⟨(some 19), 0, none, (.op (.idxA 1 none (.t 17) (.t 18)))⟩,
       ⟨(some 20), 0, none, (.op (.load false 1 (.t 19)))⟩,
       ⟨(some 21), 0, none, (.op (.len false (.t 20)))⟩,
       ⟨(some 22), 0, none, (.op (.bin .add (.t 16) (.t 21)))⟩,
       ⟨(some 3), 0, none, (.op (.mov (.t 22)))⟩]))
    (.reg 0 [⟨(some 14), 0, none, (.op (.mov (.t 4)))⟩,
      ⟨(some 15), 0, none, (.op (.bin .add (.t 14) (.k (.d (.int .i64 1)))))⟩,
      ⟨(some 4), 0, none, (.op (.mov (.t 15)))⟩]))))))
  (.seq (.reg 0 [⟨(some 23), 0, none, (.op (.mov (.t 0)))⟩,
    ⟨(some 24), 0, none, (.call (.k (.fn (.func 11) [] [])) [(.t 23)])⟩,
    ⟨(some 5), 0, none, (.op (.mov (.t 24)))⟩])
  (.seq (.reg 0 [⟨(some 25), 0, none, (.op (.mov (.t 5)))⟩,
    ⟨(some 26), 0, none, (.op (.mov (.t 0)))⟩,
    ⟨(some 27), 0, none, (.call (.k (.fn (.func 13) [] [])) [(.t 26)])⟩,
    ⟨(some 28), 0, none, (.call (.k (.fn (.func 12) [] [])) [(.t 25), (.t 27)])⟩,
    ⟨(some 29), 0, none, (.op (.mov (.t 28)))⟩,
    ⟨(some 30), 0, (some (29, true)), (.op (.mov (.t 5)))⟩,
    ⟨(some 31), 0, (some (29, true)), (.op (.len false (.t 30)))⟩,
    ⟨(some 32), 0, (some (29, true)), (.op (.mov (.t 3)))⟩,
    ⟨(some 33), 0, (some (29, true)), (.op (.bin .eql (.t 31) (.t 32)))⟩,
    ⟨(some 34), 0, none, (.op (.pick (.t 29) (.t 33) (.k (.d (.bool false)))))⟩,
    ⟨(some 35), 0, none, (.op (.mov (.t 34)))⟩,
    ⟨(some 36), 0, (some (35, true)), (.call (.k (.fn (.func 10) [] [])) [])⟩,
    ⟨(some 37), 0, none, (.op (.pick (.t 35) (.t 36) (.k (.d (.bool false)))))⟩,
    ⟨(some 2), 0, none, (.op (.mov (.t 37)))⟩])
  (.ret))))))
theorem cc3 : Try.f3.body.bind (compC Try.prog) = some ac3 := by kernel_rfl
theorem go3 {vals : List V} {v : V} (ac : AC) (he : ac.erase = ac3) (hw : wpC Try.prog 0 ac (retQ [.tmp 2] v) ⟨vals ++ List.replicate (38 - vals.length) (.tup []), []⟩) : CallP Try.prog 3 vals v :=
  call_of Try.func3 rfl rfl rfl (cc3.trans (congrArg some he.symm)) hw
theorem gi3 {vals : List V} {rows : Go.Vx.Rows} {K : V → Go.Vx.Rows → Prop} (ac : AC) (he : ac.erase = ac3) (hw : wpC Try.prog rows.length ac (retI [.tmp 2] K) ⟨vals ++ List.replicate (38 - vals.length) (.tup []), rows⟩) : InlP Try.prog 3 vals rows K :=
  inl_of' Try.func3 rfl rfl rfl (cc3.trans (congrArg some he.symm)) hw
theorem gm3 {vals : List V} {v : V} {sz : Nat} {es es' : List (List V)} (ac : AC) (he : ac.erase = ac3) (hw : wpC Try.prog 1 ac (retM [.tmp 2] v sz es') ⟨vals ++ List.replicate (38 - vals.length) (.tup []), [.live sz es]⟩) : CallM Try.prog 3 vals sz es v es' :=
  callM_of' Try.func3 rfl rfl rfl (cc3.trans (congrArg some he.symm)) hw

/-- testbench/testbenchlaw29.ArbiterFirst -/
def ac4 : AC :=
  .seq (.reg 0 [⟨(some 2), 0, none, (.op (.mov (.k (.d (.bool false)))))⟩])
  (.seq (.seq (.reg 0 [⟨(some 3), 0, none, (.op (.mov (.t 0)))⟩,
    ⟨(some 4), 0, none, (.call (.k (.fn (.func 9) [] [])) [(.t 3)])⟩,
    ⟨(some 5), 0, none, (.op (.un .not (.t 4)))⟩])
  (.cond (.t 5)
    (.seq (.reg 0 [⟨(some 6), 0, none, (.call (.k (.fn (.func 10) [] [])) [])⟩,
      ⟨(some 2), 0, none, (.op (.mov (.t 6)))⟩])
    (.ret))
    (.skip)))
  (.seq (.reg 0 [⟨(some 7), 0, none, (.op (.mov (.t 0)))⟩,
    ⟨(some 8), 0, none, (.call (.k (.fn (.func 14) [] [])) [(.t 7)])⟩,
    ⟨(some 9), 0, none, (.op (.mov (.t 0)))⟩,
    ⟨(some 10), 0, none, (.call (.k (.fn (.func 15) [] [])) [(.t 9)])⟩,
    ⟨(some 11), 0, none, (.call (.k (.fn (.func 12) [] [])) [(.t 8), (.t 10)])⟩,
    ⟨(some 12), 0, none, (.op (.mov (.t 11)))⟩,
    ⟨(some 13), 0, (some (12, true)), (.call (.k (.fn (.func 10) [] [])) [])⟩,
    ⟨(some 14), 0, none, (.op (.pick (.t 12) (.t 13) (.k (.d (.bool false)))))⟩,
    ⟨(some 2), 0, none, (.op (.mov (.t 14)))⟩])
  (.ret)))
theorem cc4 : Try.f4.body.bind (compC Try.prog) = some ac4 := by kernel_rfl
theorem go4 {vals : List V} {v : V} (ac : AC) (he : ac.erase = ac4) (hw : wpC Try.prog 0 ac (retQ [.tmp 2] v) ⟨vals ++ List.replicate (15 - vals.length) (.tup []), []⟩) : CallP Try.prog 4 vals v :=
  call_of Try.func4 rfl rfl rfl (cc4.trans (congrArg some he.symm)) hw
theorem gi4 {vals : List V} {rows : Go.Vx.Rows} {K : V → Go.Vx.Rows → Prop} (ac : AC) (he : ac.erase = ac4) (hw : wpC Try.prog rows.length ac (retI [.tmp 2] K) ⟨vals ++ List.replicate (15 - vals.length) (.tup []), rows⟩) : InlP Try.prog 4 vals rows K :=
  inl_of' Try.func4 rfl rfl rfl (cc4.trans (congrArg some he.symm)) hw
theorem gm4 {vals : List V} {v : V} {sz : Nat} {es es' : List (List V)} (ac : AC) (he : ac.erase = ac4) (hw : wpC Try.prog 1 ac (retM [.tmp 2] v sz es') ⟨vals ++ List.replicate (15 - vals.length) (.tup []), [.live sz es]⟩) : CallM Try.prog 4 vals sz es v es' :=
  callM_of' Try.func4 rfl rfl rfl (cc4.trans (congrArg some he.symm)) hw

/-- testbench/testbenchlaw29.ArbiterSingles -/
def ac5 : AC :=
  .seq (.reg 0 [⟨(some 4), 0, none, (.op (.mov (.k (.d (.bool false)))))⟩])
  (.seq (.seq (.reg 0 [⟨(some 10), 0, none, (.op (.mov (.t 0)))⟩,
    ⟨(some 11), 0, none, (.call (.k (.fn (.func 9) [] [])) [(.t 10)])⟩,
    ⟨(some 12), 0, none, (.op (.un .not (.t 11)))⟩,
    ⟨(some 13), 0, none, (.op (.mov (.t 12)))⟩,
    ⟨(some 14), 0, (some (13, false)), (.op (.mov (.t 0)))⟩,
    ⟨(some 15), 0, (some (13, false)), (.op (.len false (.t 14)))⟩,
    ⟨(some 16), 0, (some (13, false)), (.op (.bin .gtr (.t 15) (.k (.d (.int .i64 7)))))⟩,
    ⟨(some 17), 0, none, (.op (.pick (.t 13) (.k (.d (.bool true))) (.t 16)))⟩,
    ⟨(some 18), 0, none, (.op (.mov (.t 17)))⟩,
    ⟨(some 19), 0, (some (18, false)), (.op (.mov (.t 0)))⟩,
    ⟨(some 20), 0, (some (18, false)), (.op (.len false (.t 19)))⟩,
    ⟨(some 21), 0, (some (18, false)), (.op (.bin .eql (.t 20) (.k (.d (.int .i64 0)))))⟩,
    ⟨(some 22), 0, none, (.op (.pick (.t 18) (.k (.d (.bool true))) (.t 21)))⟩])
  (.cond (.t 22)
    (.seq (.reg 0 [⟨(some 23), 0, none, (.call (.k (.fn (.func 10) [] [])) [])⟩,
      ⟨(some 4), 0, none, (.op (.mov (.t 23)))⟩])
    (.ret))
    (.skip)))
  (.seq (.reg 0 [⟨(some 24), 0, none, (.op (.mov (.t 0)))⟩,
    ⟨(some 25), 0, none, (.op (.mov (.t 1)))⟩,
    ⟨(some 26), 0, none, (.op (.conv .i64 (.t 25)))⟩,
    ⟨(some 27), 0, none, (.op (.mov (.t 0)))⟩,
    ⟨(some 28), 0, none, (.op (.len false (.t 27)))⟩,
    ⟨(some 29), 0, none, (.op (.bin .rem (.t 26) (.t 28)))⟩,
    ⟨(some 30), 0, none, (.op (.idxA 1 none (.t 24) (.t 29)))⟩,
    ⟨(some 31), 0, none, (.op (.load false 1 (.t 30)))⟩,
    ⟨(some 5), 0, none, (.op (.mov (.t 31)))⟩])
  (.seq (.reg 0 [⟨(some 6), 0, none, (.op (.mov (.k (.d (.int .i64 0)))))⟩])
  (.seq (.reg 0 [⟨(some 7), 0, none, (.op (.mov (.k (.d .nils))))⟩])
  (.seq (.seq (.reg 0 [⟨(some 8), 0, none, (.op (.mov (.k (.d (.int .i64 0)))))⟩])
  (.block 0
   (.loop
    (.seq (.seq (.reg 0 [⟨(some 32), 0, none, (.op (.mov (.t 8)))⟩,
      ⟨(some 33), 0, none, (.op (.mov (.t 0)))⟩,
      ⟨(some 34), 0, none, (.op (.len false (.t 33)))⟩,
      ⟨(some 35), 0, none, (.op (.bin .lss (.t 32) (.t 34)))⟩])
    (.cond (.t 35)
      (.skip)
      (.exit 0)))
    (.seq (.block 1
     (.seq (.reg 0 [⟨(some 38), 0, none, (.op (.mov (.t 6)))⟩,
       ⟨(some 39), 0, none, (.op (.mov (.t 0)))⟩,
       ⟨(some 40), 0, none, (.op (.mov (.t 8)))⟩,
       ⟨(some 41), 0, none, (.op (.idxA 1 none (.t 39) (.t 40)))⟩,
       ⟨(some 42), 0, none, (.op (.load false 1 (.t 41)))⟩,
       ⟨(some 43), 0, none, (.op (.len false (.t 42)))⟩,
       ⟨(some 44), 0, none, (.op (.bin .add (.t 38) (.t 43)))⟩,
       ⟨(some 6), 0, none, (.op (.mov (.t 44)))⟩])
     (.seq (.reg 2 [⟨(some 45), 0, none, (.op (.mov (.t 7)))⟩,
       ⟨(some 46), 0, none, (.op (.mov (.t 0)))⟩,
       ⟨(some 47), 0, none, (.op (.mov (.t 8)))⟩,
       ⟨(some 48), 0, none, (.op (.idxA 1 none (.t 46) (.t 47)))⟩,
       ⟨(some 49), 0, none, (.op (.load false 1 (.t 48)))⟩,
       ⟨(some 50), 0, none, (.op (.buildSl 1 1 [.nils] [(0, (.t 49))]))⟩,
       ⟨(some 51), 1, none, (.op (.append 1 24 (.t 45) (.t 50)))⟩,
       ⟨(some 7), 2, none, (.op (.mov (.t 51)))⟩])
     (.seq (.reg 0 [⟨(some 52), 0, none, (.op (.mov (.t 8)))⟩,
       ⟨(some 53), 0, none, (.op (.mov (.t 1)))⟩,
       ⟨(some 54), 0, none, (.op (.conv .i64 (.t 53)))⟩,
       ⟨(some 55), 0, none, (.op (.mov (.t 0)))⟩,
       ⟨(some 56), 0, none, (.op (.len false (.t 55)))⟩,
       ⟨(some 57), 0, none, (.op (.bin .rem (.t 54) (.t 56)))⟩,
       ⟨(some 58), 0, none, (.op (.bin .eql (.t 52) (.t 57)))⟩])
     (.cond (.t 58)
       (.reg 2 [⟨(some 59), 0, none, (.op (.mov (.t 7)))⟩,
         ⟨(some 60), 0, none, (.op (.buildSl 1 1 [.nils] [(0, (.k (.d .nils)))]))⟩,
         ⟨(some 61), 1, none, (.op (.append 1 24 (.t 59) (.t 60)))⟩,
         ⟨(some 7), 2, none, (.op (.mov (.t 61)))⟩])
       (.skip))))))
    (.reg 0 [⟨(some 36), 0, none, (.op (.mov (.t 8)))⟩,
      ⟨(some 37), 0, none, (.op (.bin .add (.t 36) (.k (.d (.int .i64 1)))))⟩,
      ⟨(some 8), 0, none, (.op (.mov (.t 37)))⟩]))))))
  (.seq (.reg 0 [⟨(some 62), 0, none, (.op (.mov (.t 0)))⟩,
    ⟨(some 63), 0, none, (.call (.k (.fn (.func 14) [] [])) [(.t 62)])⟩,
    ⟨(some 9), 0, none, (.op (.mov (.t 63)))⟩])
  (.seq (.reg 2 [⟨(some 64), 0, none, (.op (.mov (.t 5)))⟩,
    ⟨(some 65), 0, none, (.op (.buildSl 1 1 [.nils] [(0, (.t 64))]))⟩,
    ⟨(some 66), 1, none, (.call (.k (.fn (.func 11) [] [])) [(.t 65)])⟩,
    ⟨(some 67), 1, none, (.op (.mov (.t 5)))⟩,
    ⟨(some 68), 1, none, (.call (.k (.fn (.func 12) [] [])) [(.t 66), (.t 67)])⟩,
    ⟨(some 69), 1, none, (.op (.mov (.t 68)))⟩,
    ⟨(some 70), 1, (some (69, true)), (.op (.mov (.t 5)))⟩,
    ⟨(some 71), 1, (some (69, true)), (.op (.buildSl 1 1 [.nils] [(0, (.t 70))]))⟩,
    ⟨(some 72), 2, (some (69, true)), (.call (.k (.fn (.func 14) [] [])) [(.t 71)])⟩,
    ⟨(some 73), 2, (some (69, true)), (.call (.k (.fn (.func 16) [] [])) [(.t 72)])⟩,
    ⟨(some 74), 2, (some (69, true)), (.op (.mov (.t 5)))⟩,
    ⟨(some 75), 2, (some (69, true)), (.call (.k (.fn (.func 16) [] [])) [(.t 74)])⟩,
    ⟨(some 76), 2, (some (69, true)), (.call (.k (.fn (.func 12) [] [])) [(.t 73), (.t 75)])⟩,
    ⟨(some 77), 2, none, (.op (.pick (.t 69) (.t 76) (.k (.d (.bool false)))))⟩,
    ⟨(some 78), 2, none, (.op (.mov (.t 77)))⟩,
    ⟨(some 79), 2, (some (78, true)), (.op (.mov (.t 7)))⟩,
    ⟨(some 80), 2, (some (78, true)), (.call (.k (.fn (.func 11) [] [])) [(.t 79)])⟩,
    ⟨(some 81), 2, (some (78, true)), (.op (.mov (.t 0)))⟩,
    ⟨(some 82), 2, (some (78, true)), (.call (.k (.fn (.func 11) [] [])) [(.t 81)])⟩,
    ⟨(some 83), 2, (some (78, true)), (.call (.k (.fn (.func 12) [] [])) [(.t 80), (.t 82)])⟩,
    ⟨(some 84), 2, none, (.op (.pick (.t 78) (.t 83) (.k (.d (.bool false)))))⟩,
    ⟨(some 85), 2, none, (.op (.mov (.t 84)))⟩,
    ⟨(some 86), 2, (some (85, true)), (.op (.mov (.t 9)))⟩,
    ⟨(some 87), 2, (some (85, true)), (.op (.len false (.t 86)))⟩,
    ⟨(some 88), 2, (some (85, true)), (.op (.mov (.t 6)))⟩,
    ⟨(some 89), 2, (some (85, true)), (.op (.bin .leq (.t 87) (.t 88)))⟩,
    ⟨(some 90), 2, none, (.op (.pick (.t 85) (.t 89) (.k (.d (.bool false)))))⟩,
    ⟨(some 91), 2, none, (.op (.mov (.t 90)))⟩,
    ⟨(some 92), 2, (some (91, true)), (.op (.mov (.t 9)))⟩,
    ⟨(some 93), 2, (some (91, true)), (.call (.k (.fn (.func 17) [] [])) [(.t 92)])⟩,
    ⟨(some 94), 2, (some (91, true)), (.op (.mov (.t 9)))⟩,
    ⟨(some 95), 2, (some (91, true)), (.op (.len false (.t 94)))⟩,
    ⟨(some 96), 2, (some (91, true)), (.op (.bin .leq (.t 93) (.t 95)))⟩,
    ⟨(some 97), 2, none, (.op (.pick (.t 91) (.t 96) (.k (.d (.bool false)))))⟩,
    ⟨(some 98), 2, none, (.op (.mov (.t 97)))⟩,
    ⟨(some 99), 2, (some (98, true)), (.call (.k (.fn (.func 10) [] [])) [])⟩,
    ⟨(some 100), 2, none, (.op (.pick (.t 98) (.t 99) (.k (.d (.bool false)))))⟩,
    ⟨(some 4), 2, none, (.op (.mov (.t 100)))⟩])
  (.ret))))))))
theorem cc5 : Try.f5.body.bind (compC Try.prog) = some ac5 := by kernel_rfl
theorem go5 {vals : List V} {v : V} (ac : AC) (he : ac.erase = ac5) (hw : wpC Try.prog 0 ac (retQ [.tmp 4] v) ⟨vals ++ List.replicate (101 - vals.length) (.tup []), []⟩) : CallP Try.prog 5 vals v :=
  call_of Try.func5 rfl rfl rfl (cc5.trans (congrArg some he.symm)) hw
theorem gi5 {vals : List V} {rows : Go.Vx.Rows} {K : V → Go.Vx.Rows → Prop} (ac : AC) (he : ac.erase = ac5) (hw : wpC Try.prog rows.length ac (retI [.tmp 4] K) ⟨vals ++ List.replicate (101 - vals.length) (.tup []), rows⟩) : InlP Try.prog 5 vals rows K :=
  inl_of' Try.func5 rfl rfl rfl (cc5.trans (congrArg some he.symm)) hw
theorem gm5 {vals : List V} {v : V} {sz : Nat} {es es' : List (List V)} (ac : AC) (he : ac.erase = ac5) (hw : wpC Try.prog 1 ac (retM [.tmp 4] v sz es') ⟨vals ++ List.replicate (101 - vals.length) (.tup []), [.live sz es]⟩) : CallM Try.prog 5 vals sz es v es' :=
  callM_of' Try.func5 rfl rfl rfl (cc5.trans (congrArg some he.symm)) hw

/-- testbench/testbenchlaw29.ArbiterTrims -/
def ac6 : AC :=
  .seq (.reg 0 [⟨(some 4), 0, none, (.op (.mov (.k (.d (.bool false)))))⟩])
  (.seq (.seq (.reg 1 [⟨(some 9), 0, none, (.op (.mov (.t 0)))⟩,
    ⟨(some 10), 0, none, (.op (.buildSl 1 1 [.nils] [(0, (.t 9))]))⟩,
    ⟨(some 11), 1, none, (.call (.k (.fn (.func 9) [] [])) [(.t 10)])⟩,
    ⟨(some 12), 1, none, (.op (.un .not (.t 11)))⟩,
    ⟨(some 13), 1, none, (.op (.mov (.t 12)))⟩,
    ⟨(some 14), 1, (some (13, false)), (.op (.mov (.t 1)))⟩,
    ⟨(some 15), 1, (some (13, false)), (.op (.len false (.t 14)))⟩,
    ⟨(some 16), 1, (some (13, false)), (.op (.bin .gtr (.t 15) (.k (.d (.int .i64 8)))))⟩,
    ⟨(some 17), 1, none, (.op (.pick (.t 13) (.k (.d (.bool true))) (.t 16)))⟩])
  (.cond (.t 17)
    (.seq (.reg 0 [⟨(some 18), 0, none, (.call (.k (.fn (.func 10) [] [])) [])⟩,
      ⟨(some 4), 0, none, (.op (.mov (.t 18)))⟩])
    (.ret))
    (.skip)))
  (.seq (.reg 0 [⟨(some 19), 0, none, (.op (.mov (.t 0)))⟩,
    ⟨(some 20), 0, none, (.call (.k (.fn (.func 18) [] [])) [(.t 19)])⟩,
    ⟨(some 5), 0, none, (.op (.mov (.t 20)))⟩])
  (.seq (.reg 0 [⟨(some 21), 0, none, (.op (.mov (.t 0)))⟩,
    ⟨(some 22), 0, none, (.op (.mov (.t 1)))⟩,
    ⟨(some 23), 0, none, (.call (.k (.fn (.func 19) [] [])) [(.t 21), (.t 22)])⟩,
    ⟨(some 24), 0, none, (.op (.mov (.t 0)))⟩,
    ⟨(some 25), 0, none, (.op (.mov (.t 1)))⟩,
    ⟨(some 26), 0, none, (.call (.k (.fn (.func 20) [] [])) [(.t 24), (.t 25)])⟩,
    ⟨(some 6), 0, none, (.op (.mov (.t 23)))⟩,
    ⟨(some 7), 0, none, (.op (.mov (.t 26)))⟩])
  (.seq (.seq (.reg 0 [⟨(some 27), 0, none, (.op (.mov (.t 0)))⟩,
    ⟨(some 28), 0, none, (.call (.k (.fn (.func 17) [] [])) [(.t 27)])⟩,
    ⟨(some 29), 0, none, (.op (.mov (.t 0)))⟩,
    ⟨(some 30), 0, none, (.call (.k (.fn (.func 21) [] [])) [(.t 29)])⟩,
    ⟨(some 31), 0, none, (.op (.bin .neq (.t 28) (.t 30)))⟩,
    ⟨(some 32), 0, none, (.op (.mov (.t 31)))⟩,
    ⟨(some 33), 0, (some (32, false)), (.op (.mov (.t 5)))⟩,
    ⟨(some 34), 0, (some (32, false)), (.op (.mov (.t 0)))⟩,
    ⟨(some 35), 0, (some (32, false)), (.call (.k (.fn (.func 22) [] [])) [(.t 34)])⟩,
    ⟨(some 36), 0, (some (32, false)), (.call (.k (.fn (.func 12) [] [])) [(.t 33), (.t 35)])⟩,
    ⟨(some 37), 0, (some (32, false)), (.op (.un .not (.t 36)))⟩,
    ⟨(some 38), 0, none, (.op (.pick (.t 32) (.k (.d (.bool true))) (.t 37)))⟩,
    ⟨(some 39), 0, none, (.op (.mov (.t 38)))⟩,
    ⟨(some 40), 0, (some (39, false)), (.op (.mov (.t 5)))⟩,
    ⟨(some 41), 0, (some (39, false)), (.call (.k (.fn (.func 17) [] [])) [(.t 40)])⟩,
    ⟨(some 42), 0, (some (39, false)), (.op (.mov (.t 0)))⟩,
    ⟨(some 43), 0, (some (39, false)), (.call (.k (.fn (.func 17) [] [])) [(.t 42)])⟩,
    ⟨(some 44), 0, (some (39, false)), (.op (.bin .neq (.t 41) (.t 43)))⟩,
    ⟨(some 45), 0, none, (.op (.pick (.t 39) (.k (.d (.bool true))) (.t 44)))⟩,
    ⟨(some 46), 0, none, (.op (.mov (.t 45)))⟩,
    ⟨(some 47), 0, (some (46, false)), (.op (.mov (.t 6)))⟩,
    ⟨(some 48), 0, (some (46, false)), (.op (.len false (.t 47)))⟩,
    ⟨(some 49), 0, (some (46, false)), (.op (.mov (.t 7)))⟩,
    ⟨(some 50), 0, (some (46, false)), (.op (.len false (.t 49)))⟩,
    ⟨(some 51), 0, (some (46, false)), (.op (.bin .neq (.t 48) (.t 50)))⟩,
    ⟨(some 52), 0, none, (.op (.pick (.t 46) (.k (.d (.bool true))) (.t 51)))⟩])
  (.cond (.t 52)
    (.seq (.reg 0 [⟨(some 4), 0, none, (.op (.mov (.k (.d (.bool false)))))⟩])
    (.ret))
    (.skip)))
  (.seq (.seq (.reg 0 [⟨(some 8), 0, none, (.op (.mov (.k (.d (.int .i64 0)))))⟩])
  (.block 0
   (.loop
    (.seq (.seq (.reg 0 [⟨(some 53), 0, none, (.op (.mov (.t 8)))⟩,
      ⟨(some 54), 0, none, (.op (.mov (.t 6)))⟩,
      ⟨(some 55), 0, none, (.op (.len false (.t 54)))⟩,
      ⟨(some 56), 0, none, (.op (.bin .lss (.t 53) (.t 55)))⟩])
    (.cond (.t 56)
      (.skip)
      (.exit 0)))
    (.seq (.block 1
     (.seq (.regD 0 [(⟨(some 59), 0, none, (.op (.mov (.t 6)))⟩, []),
       (⟨(some 60), 0, none, (.op (.mov (.t 8)))⟩, []),
       (⟨(some 61), 0, none, (.op (.idxA 1 none (.t 59) (.t 60)))⟩, [0, 1]),
       (⟨(some 62), 0, none, (.op (.load false 1 (.t 61)))⟩, [2, 0, 1]),
       (⟨(some 63), 0, none, (.op (.mov (.t 7)))⟩, []),
       (⟨(some 64), 0, none, (.op (.mov (.t 8)))⟩, []),
       (⟨(some 65), 0, none, (.op (.idxA 1 none (.t 63) (.t 64)))⟩, [4, 5]),
       (⟨(some 66), 0, none, (.op (.load false 1 (.t 65)))⟩, [6, 4, 5]),
       (⟨(some 67), 0, none, (.call (.k (.fn (.func 12) [] [])) [(.t 62), (.t 66)])⟩, [3, 2, 0, 1, 7, 6, 4, 5]),
       (⟨(some 68), 0, none, (.op (.un .not (.t 67)))⟩, [8, 3, 2, 0, 1, 7, 6, 4, 5])])
     (.cond (.t 68)
       (.seq (.reg 0 [⟨(some 4), 0, none, (.op (.mov (.k (.d (.bool false)))))⟩])
       (.ret))
       (.skip))))
    (.reg 0 [⟨(some 57), 0, none, (.op (.mov (.t 8)))⟩,
      ⟨(some 58), 0, none, (.op (.bin .add (.t 57) (.k (.d (.int .i64 1)))))⟩,
      ⟨(some 8), 0, none, (.op (.mov (.t 58)))⟩]))))))
  (.seq (.reg 0 [⟨(some 69), 0, none, (.op (.mov (.t 5)))⟩,
    ⟨(some 70), 0, none, (.op (.len false (.t 69)))⟩,
    ⟨(some 71), 0, none, (.op (.bin .eql (.t 70) (.k (.d (.int .i64 0)))))⟩,
    ⟨(some 72), 0, none, (.op (.mov (.t 71)))⟩,
    ⟨(some 73), 0, (some (72, false)), (.op (.mov (.t 5)))⟩,
    ⟨(some 74), 0, (some (72, false)), (.op (.mov (.t 5)))⟩,
    ⟨(some 75), 0, (some (72, false)), (.op (.len false (.t 74)))⟩,
    ⟨(some 76), 0, (some (72, false)), (.op (.bin .sub (.t 75) (.k (.d (.int .i64 1)))))⟩,
    ⟨(some 77), 0, (some (72, false)), (.op (.idxA 4 none (.t 73) (.t 76)))⟩,
    ⟨(some 78), 0, (some (72, false)), (.op (.fldA 0 (.t 77)))⟩,
    ⟨(some 79), 0, (some (72, false)), (.op (.load false 1 (.t 78)))⟩,
    ⟨(some 80), 0, (some (72, false)), (.op (.un .not (.t 79)))⟩,
    ⟨(some 81), 0, none, (.op (.pick (.t 72) (.k (.d (.bool true))) (.t 80)))⟩,
    ⟨(some 82), 0, none, (.op (.mov (.t 81)))⟩,
    ⟨(some 83), 0, (some (82, true)), (.call (.k (.fn (.func 10) [] [])) [])⟩,
    ⟨(some 84), 0, none, (.op (.pick (.t 82) (.t 83) (.k (.d (.bool false)))))⟩,
    ⟨(some 4), 0, none, (.op (.mov (.t 84)))⟩])
  (.ret)))))))
theorem cc6 : Try.f6.body.bind (compC Try.prog) = some ac6 := by kernel_rfl
theorem go6 {vals : List V} {v : V} (ac : AC) (he : ac.erase = ac6) (hw : wpC Try.prog 0 ac (retQ [.tmp 4] v) ⟨vals ++ List.replicate (85 - vals.length) (.tup []), []⟩) : CallP Try.prog 6 vals v :=
  call_of Try.func6 rfl rfl rfl (cc6.trans (congrArg some he.symm)) hw
theorem gi6 {vals : List V} {rows : Go.Vx.Rows} {K : V → Go.Vx.Rows → Prop} (ac : AC) (he : ac.erase = ac6) (hw : wpC Try.prog rows.length ac (retI [.tmp 4] K) ⟨vals ++ List.replicate (85 - vals.length) (.tup []), rows⟩) : InlP Try.prog 6 vals rows K :=
  inl_of' Try.func6 rfl rfl rfl (cc6.trans (congrArg some he.symm)) hw
theorem gm6 {vals : List V} {v : V} {sz : Nat} {es es' : List (List V)} (ac : AC) (he : ac.erase = ac6) (hw : wpC Try.prog 1 ac (retM [.tmp 4] v sz es') ⟨vals ++ List.replicate (85 - vals.length) (.tup []), [.live sz es]⟩) : CallM Try.prog 6 vals sz es v es' :=
  callM_of' Try.func6 rfl rfl rfl (cc6.trans (congrArg some he.symm)) hw

/-- testbench/testbenchlaw29.ArbiterDraws -/
def ac7 : AC :=
  .seq (.reg 1 [⟨(some 5), 0, none, (.op (.box 2 (.t 2)))⟩,
    ⟨(some 6), 1, none, (.op (.mov (.k (.d (.bool false)))))⟩])
  (.seq (.seq (.reg 0 [⟨(some 11), 0, none, (.op (.mov (.t 0)))⟩,
    ⟨(some 12), 0, none, (.call (.k (.fn (.func 9) [] [])) [(.t 11)])⟩,
    ⟨(some 13), 0, none, (.op (.un .not (.t 12)))⟩,
    ⟨(some 14), 0, none, (.op (.mov (.t 13)))⟩,
    ⟨(some 15), 0, (some (14, false)), (.op (.mov (.t 1)))⟩,
    ⟨(some 16), 0, (some (14, false)), (.op (.len false (.t 15)))⟩,
    ⟨(some 17), 0, (some (14, false)), (.op (.bin .gtr (.t 16) (.k (.d (.int .i64 12)))))⟩,
    ⟨(some 18), 0, none, (.op (.pick (.t 14) (.k (.d (.bool true))) (.t 17)))⟩])
  (.cond (.t 18)
    (.seq (.reg 0 [⟨(some 19), 0, none, (.call (.k (.fn (.func 10) [] [])) [])⟩,
      ⟨(some 6), 0, none, (.op (.mov (.t 19)))⟩])
    (.ret))
    (.skip)))
  (.seq (.reg 0 [⟨(some 21), 0, none, (.op (.mov (.t 0)))⟩,
    ⟨(some 22), 0, none, (.op (.mov (.t 1)))⟩,
    ⟨(some 23), 0, none, (.op (.load true 2 (.t 5)))⟩,
    ⟨(some 24), 0, none, (.call (.k (.fn (.func 23) [] [])) [(.t 21), (.t 22), (.t 23)])⟩,
    ⟨(some 20), 0, none, (.op (.mov (.t 24)))⟩,
    ⟨(some 25), 0, none, (.op (.ext (.t 20) 0))⟩,
    ⟨(some 26), 0, none, (.op (.ext (.t 20) 1))⟩,
    ⟨(some 7), 0, none, (.op (.mov (.t 25)))⟩,
    ⟨(some 8), 0, none, (.op (.mov (.t 26)))⟩])
  (.seq (.reg 0 [⟨(some 28), 0, none, (.op (.mov (.t 0)))⟩,
    ⟨(some 29), 0, none, (.op (.mov (.t 1)))⟩,
    ⟨(some 30), 0, none, (.op (.load true 2 (.t 5)))⟩,
    ⟨(some 31), 0, none, (.call (.k (.fn (.func 24) [] [])) [(.t 28), (.t 29), (.t 30)])⟩,
    ⟨(some 27), 0, none, (.op (.mov (.t 31)))⟩,
    ⟨(some 32), 0, none, (.op (.ext (.t 27) 0))⟩,
    ⟨(some 33), 0, none, (.op (.ext (.t 27) 1))⟩,
    ⟨(some 9), 0, none, (.op (.mov (.t 32)))⟩,
    ⟨(some 10), 0, none, (.op (.mov (.t 33)))⟩])
  (.seq (.reg 0 [⟨(some 34), 0, none, (.op (.mov (.t 8)))⟩,
    ⟨(some 35), 0, none, (.op (.mov (.t 10)))⟩,
    ⟨(some 36), 0, none, (.op (.bin .eql (.t 34) (.t 35)))⟩,
    ⟨(some 37), 0, none, (.op (.mov (.t 36)))⟩,
    ⟨(some 38), 0, (some (37, true)), (.op (.mov (.t 7)))⟩,
    ⟨(some 39), 0, (some (37, true)), (.op (.mov (.t 9)))⟩,
    ⟨(some 40), 0, (some (37, true)), (.call (.k (.fn (.func 12) [] [])) [(.t 38), (.t 39)])⟩,
    ⟨(some 41), 0, none, (.op (.pick (.t 37) (.t 40) (.k (.d (.bool false)))))⟩,
    ⟨(some 42), 0, none, (.op (.mov (.t 41)))⟩,
    ⟨(some 43), 0, (some (42, true)), (.op (.mov (.t 7)))⟩,
    ⟨(some 44), 0, (some (42, true)), (.call (.k (.fn (.func 17) [] [])) [(.t 43)])⟩,
    ⟨(some 45), 0, (some (42, true)), (.op (.mov (.t 7)))⟩,
    ⟨(some 46), 0, (some (42, true)), (.op (.len false (.t 45)))⟩,
    ⟨(some 47), 0, (some (42, true)), (.op (.bin .eql (.t 44) (.t 46)))⟩,
    ⟨(some 48), 0, none, (.op (.pick (.t 42) (.t 47) (.k (.d (.bool false)))))⟩,
    ⟨(some 49), 0, none, (.op (.mov (.t 48)))⟩,
    ⟨(some 50), 0, (some (49, true)), (.call (.k (.fn (.func 10) [] [])) [])⟩,
    ⟨(some 51), 0, none, (.op (.pick (.t 49) (.t 50) (.k (.d (.bool false)))))⟩,
    ⟨(some 6), 0, none, (.op (.mov (.t 51)))⟩])
  (.ret)))))
theorem cc7 : Try.f7.body.bind (compC Try.prog) = some ac7 := by kernel_rfl
theorem go7 {vals : List V} {v : V} (ac : AC) (he : ac.erase = ac7) (hw : wpC Try.prog 0 ac (retQ [.tmp 6] v) ⟨vals ++ List.replicate (52 - vals.length) (.tup []), []⟩) : CallP Try.prog 7 vals v :=
  call_of Try.func7 rfl rfl rfl (cc7.trans (congrArg some he.symm)) hw
theorem gi7 {vals : List V} {rows : Go.Vx.Rows} {K : V → Go.Vx.Rows → Prop} (ac : AC) (he : ac.erase = ac7) (hw : wpC Try.prog rows.length ac (retI [.tmp 6] K) ⟨vals ++ List.replicate (52 - vals.length) (.tup []), rows⟩) : InlP Try.prog 7 vals rows K :=
  inl_of' Try.func7 rfl rfl rfl (cc7.trans (congrArg some he.symm)) hw
theorem gm7 {vals : List V} {v : V} {sz : Nat} {es es' : List (List V)} (ac : AC) (he : ac.erase = ac7) (hw : wpC Try.prog 1 ac (retM [.tmp 6] v sz es') ⟨vals ++ List.replicate (52 - vals.length) (.tup []), [.live sz es]⟩) : CallM Try.prog 7 vals sz es v es' :=
  callM_of' Try.func7 rfl rfl rfl (cc7.trans (congrArg some he.symm)) hw

/-- testbench/testbenchlaw29.ArbiterKeeps -/
def ac8 : AC :=
  .seq (.reg 1 [⟨(some 3), 0, none, (.op (.box 2 (.t 1)))⟩,
    ⟨(some 4), 1, none, (.op (.mov (.k (.d (.bool false)))))⟩])
  (.seq (.seq (.reg 0 [⟨(some 17), 0, none, (.op (.mov (.t 0)))⟩,
    ⟨(some 18), 0, none, (.call (.k (.fn (.func 9) [] [])) [(.t 17)])⟩,
    ⟨(some 19), 0, none, (.op (.un .not (.t 18)))⟩])
  (.cond (.t 19)
    (.seq (.reg 0 [⟨(some 20), 0, none, (.call (.k (.fn (.func 10) [] [])) [])⟩,
      ⟨(some 4), 0, none, (.op (.mov (.t 20)))⟩])
    (.ret))
    (.skip)))
  (.seq (.reg 0 [⟨(some 22), 0, none, (.op (.mov (.t 0)))⟩,
    ⟨(some 23), 0, none, (.call (.k (.fn (.func 25) [] [])) [(.t 22)])⟩,
    ⟨(some 21), 0, none, (.op (.mov (.t 23)))⟩,
    ⟨(some 24), 0, none, (.op (.ext (.t 21) 0))⟩,
    ⟨(some 25), 0, none, (.op (.ext (.t 21) 1))⟩,
    ⟨(some 5), 0, none, (.op (.mov (.t 24)))⟩,
    ⟨(some 6), 0, none, (.op (.mov (.t 25)))⟩])
  (.seq (.reg 0 [⟨(some 7), 0, none, (.op (.mov (.k (.d .nils))))⟩])
  (.seq (.reg 0 [⟨(some 8), 0, none, (.op (.mov (.k (.d (.int .i64 0)))))⟩])
  (.seq (.seq (.reg 0 [⟨(some 9), 0, none, (.op (.mov (.k (.d (.int .i64 0)))))⟩])
  (.block 0
   (.loop
    (.seq (.seq (.reg 0 [⟨(some 26), 0, none, (.op (.mov (.t 9)))⟩,
      ⟨(some 27), 0, none, (.op (.mov (.t 5)))⟩,
      ⟨(some 28), 0, none, (.op (.len false (.t 27)))⟩,
      ⟨(some 29), 0, none, (.op (.bin .lss (.t 26) (.t 28)))⟩])
    (.cond (.t 29)
      (.skip)
      (.exit 0)))
    (.seq (.block 1
     (.seq (.reg 2 [⟨(some 32), 0, none, (.op (.mov (.t 7)))⟩,
       ⟨(some 33), 0, none, (.op (.mov (.t 9)))⟩,
       ⟨(some 34), 0, none, (.op (.bin .add (.k (.d (.int .i64 1))) (.t 33)))⟩,
       ⟨(some 35), 0, none, (.op (.buildSl 1 1 [(.int .i64 0)] [(0, (.t 34))]))⟩,
       ⟨(some 36), 1, none, (.op (.append 1 8 (.t 32) (.t 35)))⟩,
       ⟨(some 7), 2, none, (.op (.mov (.t 36)))⟩])
     (.reg 0 [⟨(some 37), 0, none, (.op (.mov (.t 8)))⟩,
       ⟨(some 38), 0, none, (.op (.mov (.t 5)))⟩,
       ⟨(some 39), 0, none, (.op (.mov (.t 9)))⟩,
       ⟨(some 40), 0, none, (.op (.idxA 1 none (.t 38) (.t 39)))⟩,
       ⟨(some 41), 0, none, (.op (.load false 1 (.t 40)))⟩,
       ⟨(some 42), 0, none, (.call (.k (.fn (.func 16) [] [])) [(.t 41)])⟩,
       ⟨(some 43), 0, none, (.op (.len false (.t 42)))⟩,
       ⟨(some 44), 0, none, (.op (.bin .add (.t 37) (.t 43)))⟩,
       ⟨(some 8), 0, none, (.op (.mov (.t 44)))⟩])))
    (.reg 0 [⟨(some 30), 0, none, (.op (.mov (.t 9)))⟩,
      ⟨(some 31), 0, none, (.op (.bin .add (.t 30) (.k (.d (.int .i64 1)))))⟩,
      ⟨(some 9), 0, none, (.op (.mov (.t 31)))⟩]))))))
  (.seq (.reg 0 [⟨(some 46), 0, none, (.op (.mov (.t 5)))⟩,
    ⟨(some 47), 0, none, (.op (.mov (.t 7)))⟩,
    ⟨(some 48), 0, none, (.op (.load true 2 (.t 3)))⟩,
    ⟨(some 49), 0, none, (.call (.k (.fn (.func 23) [] [])) [(.t 46), (.t 47), (.t 48)])⟩,
    ⟨(some 45), 0, none, (.op (.mov (.t 49)))⟩,
    ⟨(some 50), 0, none, (.op (.ext (.t 45) 0))⟩,
    ⟨(some 51), 0, none, (.op (.ext (.t 45) 1))⟩,
    ⟨(some 10), 0, none, (.op (.mov (.t 50)))⟩,
    ⟨(some 11), 0, none, (.op (.mov (.t 51)))⟩])
  (.seq (.seq (.reg 0 [⟨(some 52), 0, none, (.op (.mov (.t 11)))⟩,
    ⟨(some 53), 0, none, (.op (.bin .neq (.t 52) (.k (.d (.int .i64 0)))))⟩])
  (.cond (.t 53)
    (.seq (.reg 0 [⟨(some 4), 0, none, (.op (.mov (.k (.d (.bool false)))))⟩])
    (.ret))
    (.skip)))
  (.seq (.reg 1 [⟨(some 54), 0, none, (.op (.mov (.t 5)))⟩,
    ⟨(some 55), 0, none, (.call (.k (.fn (.func 11) [] [])) [(.t 54)])⟩,
    ⟨(some 56), 0, none, (.op (.mov (.t 5)))⟩,
    ⟨(some 57), 0, none, (.call (.k (.fn (.func 14) [] [])) [(.t 56)])⟩,
    ⟨(some 58), 0, none, (.op (.mov (.t 10)))⟩,
    ⟨(some 59), 0, none, (.op (.buildSl 1 3 [.nils] [(0, (.t 55)), (1, (.t 57)), (2, (.t 58))]))⟩,
    ⟨(some 12), 1, none, (.op (.mov (.t 59)))⟩])
  (.seq (.seq (.reg 0 [⟨(some 13), 0, none, (.op (.mov (.k (.d (.int .i64 0)))))⟩])
  (.block 2
   (.loop
    (.seq (.seq (.reg 0 [⟨(some 60), 0, none, (.op (.mov (.t 13)))⟩,
      ⟨(some 61), 0, none, (.op (.mov (.t 12)))⟩,
      ⟨(some 62), 0, none, (.op (.len false (.t 61)))⟩,
      ⟨(some 63), 0, none, (.op (.bin .lss (.t 60) (.t 62)))⟩])
    (.cond (.t 63)
      (.skip)
      (.exit 2)))
    (.seq (.block 3
     (.seq (.reg 0 [⟨(some 66), 0, none, (.op (.mov (.t 12)))⟩,
       ⟨(some 67), 0, none, (.op (.mov (.t 13)))⟩,
       ⟨(some 68), 0, none, (.op (.idxA 1 none (.t 66) (.t 67)))⟩,
       ⟨(some 69), 0, none, (.op (.load false 1 (.t 68)))⟩,
       ⟨(some 70), 0, none, (.call (.k (.fn (.func 16) [] [])) [(.t 69)])⟩,
       ⟨(some 14), 0, none, (.op (.mov (.t 70)))⟩])
     (.seq (.reg 0 [⟨(some 71), 0, none, (.op (.mov (.t 14)))⟩,
       ⟨(some 72), 0, none, (.op (.mov (.t 6)))⟩,
       ⟨(some 73), 0, none, (.call (.k (.fn (.func 19) [] [])) [(.t 71), (.t 72)])⟩,
       ⟨(some 15), 0, none, (.op (.mov (.t 73)))⟩])
     (.seq (.seq (.reg 0 [⟨(some 74), 0, none, (.op (.mov (.t 14)))⟩,
       ⟨(some 75), 0, none, (.op (.len false (.t 74)))⟩,
       ⟨(some 76), 0, none, (.op (.mov (.t 8)))⟩,
       ⟨(some 77), 0, none, (.op (.bin .neq (.t 75) (.t 76)))⟩,
       ⟨(some 78), 0, none, (.op (.mov (.t 77)))⟩,
       ⟨(some 79), 0, (some (78, false)), (.op (.mov (.t 15)))⟩,
       ⟨(some 80), 0, (some (78, false)), (.op (.len false (.t 79)))⟩,
       ⟨(some 81), 0, (some (78, false)), (.op (.mov (.t 5)))⟩,
       ⟨(some 82), 0, (some (78, false)), (.op (.len false (.t 81)))⟩,
       ⟨(some 83), 0, (some (78, false)), (.op (.bin .neq (.t 80) (.t 82)))⟩,
       ⟨(some 84), 0, none, (.op (.pick (.t 78) (.k (.d (.bool true))) (.t 83)))⟩])
     (.cond (.t 84)
       (.seq (.reg 0 [⟨(some 4), 0, none, (.op (.mov (.k (.d (.bool false)))))⟩])
       (.ret))
       (.skip)))
     (.seq (.reg 0 [⟨(some 16), 0, none, (.op (.mov (.k (.d (.int .i64 0)))))⟩])
     (.block 4
      (.loop
       (.seq (.seq (.reg 0 [⟨(some 85), 0, none, (.op (.mov (.t 16)))⟩,
         ⟨(some 86), 0, none, (.op (.mov (.t 5)))⟩,
         ⟨(some 87), 0, none, (.op (.len false (.t 86)))⟩,
         ⟨(some 88), 0, none, (.op (.bin .lss (.t 85) (.t 87)))⟩])
       (.cond (.t 88)
         (.skip)
         (.exit 4)))
       (.seq (.block 5
        (.seq (.regD 0 [(⟨(some 91), 0, none, (.op (.mov (.t 15)))⟩, []),
          (⟨(some 92), 0, none, (.op (.mov (.t 16)))⟩, []),
          (⟨(some 93), 0, none, (.op (.idxA 1 none (.t 91) (.t 92)))⟩, [0, 1]),
          (⟨(some 94), 0, none, (.op (.load false 1 (.t 93)))⟩, [2, 0, 1]),
          (⟨(some 95), 0, none, (.op (.mov (.t 5)))⟩, []),
          (⟨(some 96), 0, none, (.op (.mov (.t 16)))⟩, []),
          (⟨(some 97), 0, none, (.op (.idxA 1 none (.t 95) (.t 96)))⟩, [4, 5]),
          (⟨(some 98), 0, none, (.op (.load false 1 (.t 97)))⟩, [6, 4, 5]),
          (⟨(some 99), 0, none, (.call (.k (.fn (.func 16) [] [])) [(.t 98)])⟩, [7, 6, 4, 5]),
          (⟨(some 100), 0, none, (.call (.k (.fn (.func 12) [] [])) [(.t 94), (.t 99)])⟩, [3, 2, 0, 1, 8, 7, 6, 4, 5]),
          (⟨(some 101), 0, none, (.op (.un .not (.t 100)))⟩, [9, 3, 2, 0, 1, 8, 7, 6, 4, 5])])
        (.cond (.t 101)
          (.seq (.reg 0 [⟨(some 4), 0, none, (.op (.mov (.k (.d (.bool false)))))⟩])
          (.ret))
          (.skip))))
       (.reg 0 [⟨(some 89), 0, none, (.op (.mov (.t 16)))⟩,
         ⟨(some 90), 0, none, (.op (.bin .add (.t 89) (.k (.d (.int .i64 1)))))⟩,
         ⟨(some 16), 0, none, (.op (.mov (.t 90)))⟩]))))))))))
    (.reg 0 [⟨(some 64), 0, none, (.op (.mov (.t 13)))⟩,
      ⟨(some 65), 0, none, (.op (.bin .add (.t 64) (.k (.d (.int .i64 1)))))⟩,
      ⟨(some 13), 0, none, (.op (.mov (.t 65)))⟩]))))))
  (.seq (.reg 0 [⟨(some 102), 0, none, (.call (.k (.fn (.func 10) [] [])) [])⟩,
    ⟨(some 4), 0, none, (.op (.mov (.t 102)))⟩])
  (.ret)))))))))))
theorem cc8 : Try.f8.body.bind (compC Try.prog) = some ac8 := by kernel_rfl
theorem go8 {vals : List V} {v : V} (ac : AC) (he : ac.erase = ac8) (hw : wpC Try.prog 0 ac (retQ [.tmp 4] v) ⟨vals ++ List.replicate (103 - vals.length) (.tup []), []⟩) : CallP Try.prog 8 vals v :=
  call_of Try.func8 rfl rfl rfl (cc8.trans (congrArg some he.symm)) hw
theorem gi8 {vals : List V} {rows : Go.Vx.Rows} {K : V → Go.Vx.Rows → Prop} (ac : AC) (he : ac.erase = ac8) (hw : wpC Try.prog rows.length ac (retI [.tmp 4] K) ⟨vals ++ List.replicate (103 - vals.length) (.tup []), rows⟩) : InlP Try.prog 8 vals rows K :=
  inl_of' Try.func8 rfl rfl rfl (cc8.trans (congrArg some he.symm)) hw
theorem gm8 {vals : List V} {v : V} {sz : Nat} {es es' : List (List V)} (ac : AC) (he : ac.erase = ac8) (hw : wpC Try.prog 1 ac (retM [.tmp 4] v sz es') ⟨vals ++ List.replicate (103 - vals.length) (.tup []), [.live sz es]⟩) : CallM Try.prog 8 vals sz es v es' :=
  callM_of' Try.func8 rfl rfl rfl (cc8.trans (congrArg some he.symm)) hw

/-- testbench/testbenchlaw29.Few -/
def ac9 : AC :=
  .seq (.reg 0 [⟨(some 2), 0, none, (.op (.mov (.k (.d (.bool false)))))⟩])
  (.seq (.seq (.reg 0 [⟨(some 5), 0, none, (.op (.mov (.t 0)))⟩,
    ⟨(some 6), 0, none, (.op (.len false (.t 5)))⟩,
    ⟨(some 7), 0, none, (.op (.bin .gtr (.t 6) (.k (.d (.int .i64 8)))))⟩])
  (.cond (.t 7)
    (.seq (.reg 0 [⟨(some 2), 0, none, (.op (.mov (.k (.d (.bool false)))))⟩])
    (.ret))
    (.skip)))
  (.seq (.seq (.reg 0 [⟨(some 3), 0, none, (.op (.mov (.k (.d (.int .i64 0)))))⟩])
  (.block 0
   (.loop
    (.seq (.seq (.reg 0 [⟨(some 8), 0, none, (.op (.mov (.t 3)))⟩,
      ⟨(some 9), 0, none, (.op (.mov (.t 0)))⟩,
      ⟨(some 10), 0, none, (.op (.len false (.t 9)))⟩,
      ⟨(some 11), 0, none, (.op (.bin .lss (.t 8) (.t 10)))⟩])
    (.cond (.t 11)
      (.skip)
      (.exit 0)))
    (.seq (.block 1
     (.seq (.seq (.reg 0 [⟨(some 14), 0, none, (.op (.mov (.t 0)))⟩,
       ⟨(some 15), 0, none, (.op (.mov (.t 3)))⟩,
       ⟨(some 16), 0, none, (.op (.idxA 1 none (.t 14) (.t 15)))⟩,
       ⟨(some 17), 0, none, (.op (.load false 1 (.t 16)))⟩,
       ⟨(some 18), 0, none, (.op (.len false (.t 17)))⟩,
       ⟨(some 19), 0, none, (.op (.bin .gtr (.t 18) (.k (.d (.int .i64 20)))))⟩])
     (.cond (.t 19)
       (.seq (.reg 0 [⟨(some 2), 0, none, (.op (.mov (.k (.d (.bool false)))))⟩])
       (.ret))
       (.skip)))
     (.seq (.reg 0 [⟨(some 4), 0, none, (.op (.mov (.k (.d (.int .i64 0)))))⟩])
     (.block 2
      (.loop
       (.seq (.seq (.reg 0 [⟨(some 20), 0, none, (.op (.mov (.t 4)))⟩,
         ⟨(some 21), 0, none, (.op (.mov (.t 0)))⟩,
         ⟨(some 22), 0, none, (.op (.mov (.t 3)))⟩,
         ⟨(some 23), 0, none, (.op (.idxA 1 none (.t 21) (.t 22)))⟩,
         ⟨(some 24), 0, none, (.op (.load false 1 (.t 23)))⟩,
         ⟨(some 25), 0, none, (.op (.len false (.t 24)))⟩,
         ⟨(some 26), 0, none, (.op (.bin .lss (.t 20) (.t 25)))⟩])
       (.cond (.t 26)
         (.skip)
         (.exit 2)))
       (.seq (.block 3
        (.seq (.reg 0 [⟨(some 29), 0, none, (.op (.mov (.t 0)))⟩,
          ⟨(some 30), 0, none, (.op (.mov (.t 3)))⟩,
          ⟨(some 31), 0, none, (.op (.idxA 1 none (.t 29) (.t 30)))⟩,
          ⟨(some 32), 0, none, (.op (.load false 1 (.t 31)))⟩,
          ⟨(some 33), 0, none, (.op (.mov (.t 4)))⟩,
          ⟨(some 34), 0, none, (.op (.idxA 4 none (.t 32) (.t 33)))⟩,
          ⟨(some 35), 0, none, (.op (.fldA 1 (.t 34)))⟩,
          ⟨(some 36), 0, none, (.op (.fldA 0 (.t 35)))⟩,
          ⟨(some 37), 0, none, (.op (.load false 1 (.t 36)))⟩,
          ⟨(some 38), 0, none, (.op (.len false (.t 37)))⟩,
          ⟨(some 39), 0, none, (.op (.bin .gtr (.t 38) (.k (.d (.int .i64 10)))))⟩,
          ⟨(some 40), 0, none, (.op (.mov (.t 39)))⟩,
          ⟨(some 41), 0, (some (40, false)), (.op (.mov (.t 0)))⟩,
          ⟨(some 42), 0, (some (40, false)), (.op (.mov (.t 3)))⟩,
          ⟨(some 43), 0, (some (40, false)), (.op (.idxA 1 none (.t 41) (.t 42)))⟩,
          ⟨(some 44), 0, (some (40, false)), (.op (.load false 1 (.t 43)))⟩,
          ⟨(some 45), 0, (some (40, false)), (.op (.mov (.t 4)))⟩,
          ⟨(some 46), 0, (some (40, false)), (.op (.idxA 4 none (.t 44) (.t 45)))⟩,
          ⟨(some 47), 0, (some (40, false)), (.op (.fldA 1 (.t 46)))⟩,
          ⟨(some 48), 0, (some (40, false)), (.op (.fldA 1 (.t 47)))⟩,
          ⟨(some 49), 0, (some (40, false)), (.op (.load false 1 (.t 48)))⟩,
          ⟨(some 50), 0, (some (40, false)), (.op (.len false (.t 49)))⟩,
          ⟨(some 51), 0, (some (40, false)), (.op (.bin .gtr (.t 50) (.k (.d (.int .i64 10)))))⟩,
          ⟨(some 52), 0, none, (.op (.pick (.t 40) (.k (.d (.bool true))) (.t 51)))⟩])
        (.cond (.t 52)
          (.seq (.reg 0 [⟨(some 2), 0, none, (.op (.mov (.k (.d (.bool false)))))⟩])
          (.ret))
          (.skip))))
       (.reg 0 [⟨(some 27), 0, none, (.op (.mov (.t 4)))⟩,
         ⟨(some 28), 0, none, (.op (.bin .add (.t 27) (.k (.d (.int .i64 1)))))⟩,
         ⟨(some 4), 0, none, (.op (.mov (.t 28)))⟩]))))))))
    (.reg 0 [⟨(some 12), 0, none, (.op (.mov (.t 3)))⟩,
      ⟨(some 13), 0, none, (.op (.bin .add (.t 12) (.k (.d (.int .i64 1)))))⟩,
      ⟨(some 3), 0, none, (.op (.mov (.t 13)))⟩]))))))
  (.seq (.reg 0 [⟨(some 2), 0, none, (.op (.mov (.k (.d (.bool true)))))⟩])
  (.ret))))
theorem cc9 : Try.f9.body.bind (compC Try.prog) = some ac9 := by kernel_rfl
theorem go9 {vals : List V} {v : V} (ac : AC) (he : ac.erase = ac9) (hw : wpC Try.prog 0 ac (retQ [.tmp 2] v) ⟨vals ++ List.replicate (53 - vals.length) (.tup []), []⟩) : CallP Try.prog 9 vals v :=
  call_of Try.func9 rfl rfl rfl (cc9.trans (congrArg some he.symm)) hw
theorem gi9 {vals : List V} {rows : Go.Vx.Rows} {K : V → Go.Vx.Rows → Prop} (ac : AC) (he : ac.erase = ac9) (hw : wpC Try.prog rows.length ac (retI [.tmp 2] K) ⟨vals ++ List.replicate (53 - vals.length) (.tup []), rows⟩) : InlP Try.prog 9 vals rows K :=
  inl_of' Try.func9 rfl rfl rfl (cc9.trans (congrArg some he.symm)) hw
theorem gm9 {vals : List V} {v : V} {sz : Nat} {es es' : List (List V)} (ac : AC) (he : ac.erase = ac9) (hw : wpC Try.prog 1 ac (retM [.tmp 2] v sz es') ⟨vals ++ List.replicate (53 - vals.length) (.tup []), [.live sz es]⟩) : CallM Try.prog 9 vals sz es v es' :=
  callM_of' Try.func9 rfl rfl rfl (cc9.trans (congrArg some he.symm)) hw

/-- testbench/testbenchlaw29.awake -/
def ac10 : AC :=
  .seq (.reg 0 [⟨(some 0), 0, none, (.op (.mov (.k (.d (.bool false)))))⟩])
  (.seq (.reg 3 [⟨(some 2), 0, none, (.call (.k (.fn (.func 26) [] [])) [(.k (.d (.str [97])))])⟩,
    ⟨(some 3), 0, none, (.call (.k (.fn (.func 26) [] [])) [(.k (.d (.str [98])))])⟩,
    ⟨(some 4), 0, none, (.op (.buildSl 4 2 [(.bool false), .nils, .nils, (.str [])] [(0, (.t 2)), (1, (.t 3))]))⟩,
    ⟨(some 5), 1, none, (.call (.k (.fn (.func 26) [] [])) [(.k (.d (.str [120])))])⟩,
    ⟨(some 6), 1, none, (.op (.buildSl 4 1 [(.bool false), .nils, .nils, (.str [])] [(0, (.t 5))]))⟩,
    ⟨(some 7), 2, none, (.op (.buildSl 1 2 [.nils] [(0, (.t 4)), (1, (.t 6))]))⟩,
    ⟨(some 1), 3, none, (.op (.mov (.t 7)))⟩])
  (.seq (.reg 2 [⟨(some 8), 0, none, (.op (.mov (.t 1)))⟩,
    ⟨(some 9), 0, none, (.call (.k (.fn (.func 11) [] [])) [(.t 8)])⟩,
    ⟨(some 10), 0, none, (.call (.k (.fn (.func 26) [] [])) [(.k (.d (.str [97])))])⟩,
    ⟨(some 11), 0, none, (.call (.k (.fn (.func 26) [] [])) [(.k (.d (.str [120])))])⟩,
    ⟨(some 12), 0, none, (.call (.k (.fn (.func 26) [] [])) [(.k (.d (.str [98])))])⟩,
    ⟨(some 13), 0, none, (.op (.buildSl 4 3 [(.bool false), .nils, .nils, (.str [])] [(0, (.t 10)), (1, (.t 11)), (2, (.t 12))]))⟩,
    ⟨(some 14), 1, none, (.call (.k (.fn (.func 12) [] [])) [(.t 9), (.t 13)])⟩,
    ⟨(some 15), 1, none, (.op (.mov (.t 14)))⟩,
    ⟨(some 16), 1, (some (15, true)), (.op (.mov (.t 1)))⟩,
    ⟨(some 17), 1, (some (15, true)), (.call (.k (.fn (.func 14) [] [])) [(.t 16)])⟩,
    ⟨(some 18), 1, (some (15, true)), (.call (.k (.fn (.func 26) [] [])) [(.k (.d (.str [97])))])⟩,
    ⟨(some 19), 1, (some (15, true)), (.call (.k (.fn (.func 26) [] [])) [(.k (.d (.str [98])))])⟩,
    ⟨(some 20), 1, (some (15, true)), (.call (.k (.fn (.func 26) [] [])) [(.k (.d (.str [120])))])⟩,
    ⟨(some 21), 1, (some (15, true)), (.op (.buildSl 4 3 [(.bool false), .nils, .nils, (.str [])] [(0, (.t 18)), (1, (.t 19)), (2, (.t 20))]))⟩,
    ⟨(some 22), 2, (some (15, true)), (.call (.k (.fn (.func 12) [] [])) [(.t 17), (.t 21)])⟩,
    ⟨(some 23), 2, none, (.op (.pick (.t 15) (.t 22) (.k (.d (.bool false)))))⟩,
    ⟨(some 24), 2, none, (.op (.mov (.t 23)))⟩,
    ⟨(some 25), 2, (some (24, true)), (.op (.mov (.t 1)))⟩,
    ⟨(some 26), 2, (some (24, true)), (.op (.idxA 1 none (.t 25) (.k (.d (.int .i64 0)))))⟩,
    ⟨(some 27), 2, (some (24, true)), (.op (.load false 1 (.t 26)))⟩,
    ⟨(some 28), 2, (some (24, true)), (.call (.k (.fn (.func 17) [] [])) [(.t 27)])⟩,
    ⟨(some 29), 2, (some (24, true)), (.op (.bin .eql (.t 28) (.k (.d (.int .i64 2)))))⟩,
    ⟨(some 30), 2, none, (.op (.pick (.t 24) (.t 29) (.k (.d (.bool false)))))⟩,
    ⟨(some 0), 2, none, (.op (.mov (.t 30)))⟩])
  (.ret)))
theorem cc10 : Try.f10.body.bind (compC Try.prog) = some ac10 := by kernel_rfl
theorem go10 {vals : List V} {v : V} (ac : AC) (he : ac.erase = ac10) (hw : wpC Try.prog 0 ac (retQ [.tmp 0] v) ⟨vals ++ List.replicate (31 - vals.length) (.tup []), []⟩) : CallP Try.prog 10 vals v :=
  call_of Try.func10 rfl rfl rfl (cc10.trans (congrArg some he.symm)) hw
theorem gi10 {vals : List V} {rows : Go.Vx.Rows} {K : V → Go.Vx.Rows → Prop} (ac : AC) (he : ac.erase = ac10) (hw : wpC Try.prog rows.length ac (retI [.tmp 0] K) ⟨vals ++ List.replicate (31 - vals.length) (.tup []), rows⟩) : InlP Try.prog 10 vals rows K :=
  inl_of' Try.func10 rfl rfl rfl (cc10.trans (congrArg some he.symm)) hw
theorem gm10 {vals : List V} {v : V} {sz : Nat} {es es' : List (List V)} (ac : AC) (he : ac.erase = ac10) (hw : wpC Try.prog 1 ac (retM [.tmp 0] v sz es') ⟨vals ++ List.replicate (31 - vals.length) (.tup []), [.live sz es]⟩) : CallM Try.prog 10 vals sz es v es' :=
  callM_of' Try.func10 rfl rfl rfl (cc10.trans (congrArg some he.symm)) hw

/-- testbench/arbiter.Turns -/
def ac11 : AC :=
  .seq (.reg 0 [⟨(some 2), 0, none, (.op (.mov (.k (.d .nils))))⟩])
  (.seq (.reg 0 [⟨(some 3), 0, none, (.op (.mov (.k (.d .nils))))⟩])
  (.seq (.reg 0 [⟨(some 7), 0, none, (.op (.mov (.t 0)))⟩,
    ⟨(some 8), 0, none, (.call (.k (.fn (.func 27) [] [])) [(.t 7)])⟩,
    ⟨(some 4), 0, none, (.op (.mov (.t 8)))⟩])
  (.seq (.seq (.reg 0 [⟨(some 9), 0, none, (.op (.mov (.t 0)))⟩,
    ⟨(some 10), 0, none, (.call (.k (.fn (.func 28) [] [])) [(.t 9)])⟩,
    ⟨(some 11), 0, none, (.op (.mov (.k (.d (.int .i64 0)))))⟩])
  (.block 0
   (.loop
    (.seq (.reg 0 [⟨(some 12), 0, none, (.op (.bin .lss (.t 11) (.t 10)))⟩])
    (.seq (.cond (.t 12)
      (.skip)
      (.exit 0))
    (.seq (.block 1
     (.seq (.reg 0 [⟨(some 13), 0, none, (.op (.mov (.t 4)))⟩,
       ⟨(some 14), 0, none, (.op (.len false (.t 13)))⟩,
       ⟨(some 15), 0, none, (.op (.mov (.k (.d (.int .i64 0)))))⟩])
     (.block 2
      (.loop
       (.seq (.reg 0 [⟨(some 16), 0, none, (.op (.bin .lss (.t 15) (.t 14)))⟩])
       (.seq (.cond (.t 16)
         (.skip)
         (.exit 2))
       (.seq (.block 3
        (.seq (.reg 0 [⟨(some 17), 0, none, (.op (.idxA 1 none (.t 13) (.t 15)))⟩,
          ⟨(some 18), 0, none, (.op (.load false 1 (.t 17)))⟩,
          ⟨(some 6), 0, none, (.op (.mov (.t 18)))⟩])
        (.seq (.reg 0 [⟨(some 19), 0, none, (.op (.mov (.t 6)))⟩,
          ⟨(some 20), 0, none, (.call (.k (.fn (.func 29) [] [])) [(.t 19)])⟩,
          ⟨(some 21), 0, none, (.op (.un .not (.t 20)))⟩])
        (.cond (.t 21)
          (.reg 2 [⟨(some 22), 0, none, (.op (.mov (.t 3)))⟩,
            ⟨(some 23), 0, none, (.op (.mov (.t 6)))⟩,
            ⟨(some 24), 0, none, (.call (.k (.fn (.func 30) [] [])) [(.t 23)])⟩,
            ⟨(some 25), 0, none, (.op (.buildSl 4 1 [(.bool false), .nils, .nils, (.str [])] [(0, (.t 24))]))⟩,
            ⟨(some 26), 1, none, (.op (.append 4 72 (.t 22) (.t 25)))⟩,
            ⟨(some 3), 2, none, (.op (.mov (.t 26)))⟩])
          (.skip)))))
       (.reg 0 [⟨(some 27), 0, none, (.op (.bin .add (.t 15) (.k (.d (.int .i64 1)))))⟩,
         ⟨(some 15), 0, none, (.op (.mov (.t 27)))⟩]))))))))
    (.reg 0 [⟨(some 28), 0, none, (.op (.bin .add (.t 11) (.k (.d (.int .i64 1)))))⟩,
      ⟨(some 11), 0, none, (.op (.mov (.t 28)))⟩])))))))
  (.seq (.reg 0 [⟨(some 29), 0, none, (.op (.mov (.t 3)))⟩,
    ⟨(some 2), 0, none, (.op (.mov (.t 29)))⟩])
  (.ret)))))
theorem cc11 : Try.f11.body.bind (compC Try.prog) = some ac11 := by kernel_rfl
theorem go11 {vals : List V} {v : V} (ac : AC) (he : ac.erase = ac11) (hw : wpC Try.prog 0 ac (retQ [.tmp 2] v) ⟨vals ++ List.replicate (30 - vals.length) (.tup []), []⟩) : CallP Try.prog 11 vals v :=
  call_of Try.func11 rfl rfl rfl (cc11.trans (congrArg some he.symm)) hw
theorem gi11 {vals : List V} {rows : Go.Vx.Rows} {K : V → Go.Vx.Rows → Prop} (ac : AC) (he : ac.erase = ac11) (hw : wpC Try.prog rows.length ac (retI [.tmp 2] K) ⟨vals ++ List.replicate (30 - vals.length) (.tup []), rows⟩) : InlP Try.prog 11 vals rows K :=
  inl_of' Try.func11 rfl rfl rfl (cc11.trans (congrArg some he.symm)) hw
theorem gm11 {vals : List V} {v : V} {sz : Nat} {es es' : List (List V)} (ac : AC) (he : ac.erase = ac11) (hw : wpC Try.prog 1 ac (retM [.tmp 2] v sz es') ⟨vals ++ List.replicate (30 - vals.length) (.tup []), [.live sz es]⟩) : CallM Try.prog 11 vals sz es v es' :=
  callM_of' Try.func11 rfl rfl rfl (cc11.trans (congrArg some he.symm)) hw

/-- testbench/testbenchlaw29.slots -/
def ac12 : AC :=
  .seq (.reg 0 [⟨(some 4), 0, none, (.op (.mov (.k (.d (.bool false)))))⟩])
  (.seq (.seq (.reg 0 [⟨(some 6), 0, none, (.op (.mov (.t 0)))⟩,
    ⟨(some 7), 0, none, (.op (.len false (.t 6)))⟩,
    ⟨(some 8), 0, none, (.op (.mov (.t 1)))⟩,
    ⟨(some 9), 0, none, (.op (.len false (.t 8)))⟩,
    ⟨(some 10), 0, none, (.op (.bin .neq (.t 7) (.t 9)))⟩])
  (.cond (.t 10)
    (.seq (.reg 0 [⟨(some 4), 0, none, (.op (.mov (.k (.d (.bool false)))))⟩])
    (.ret))
    (.skip)))
  (.seq (.seq (.reg 0 [⟨(some 5), 0, none, (.op (.mov (.k (.d (.int .i64 0)))))⟩])
  (.block 0
   (.loop
    (.seq (.seq (.reg 0 [⟨(some 11), 0, none, (.op (.mov (.t 5)))⟩,
      ⟨(some 12), 0, none, (.op (.mov (.t 0)))⟩,
      ⟨(some 13), 0, none, (.op (.len false (.t 12)))⟩,
      ⟨(some 14), 0, none, (.op (.bin .lss (.t 11) (.t 13)))⟩])
    (.cond (.t 14)
      (.skip)
      (.exit 0)))
    (.seq (.block 1
     (.seq (.regD 0 [(⟨(some 17), 0, none, (.op (.mov (.t 0)))⟩, []),
       (⟨(some 18), 0, none, (.op (.mov (.t 5)))⟩, []),
       (⟨(some 19), 0, none, (.op (.idxA 4 none (.t 17) (.t 18)))⟩, [0, 1]),
       (⟨(some 20), 0, none, (.op (.load true 4 (.t 19)))⟩, [2, 0, 1]),
       (⟨(some 21), 0, none, (.op (.mov (.t 1)))⟩, []),
       (⟨(some 22), 0, none, (.op (.mov (.t 5)))⟩, []),
       (⟨(some 23), 0, none, (.op (.idxA 4 none (.t 21) (.t 22)))⟩, [4, 5]),
       (⟨(some 24), 0, none, (.op (.load true 4 (.t 23)))⟩, [6, 4, 5]),
       (⟨(some 25), 0, none, (.call (.k (.fn (.func 31) [] [])) [(.t 20), (.t 24)])⟩, [3, 2, 0, 1, 7, 6, 4, 5]),
       (⟨(some 26), 0, none, (.op (.un .not (.t 25)))⟩, [8, 3, 2, 0, 1, 7, 6, 4, 5])])
     (.cond (.t 26)
       (.seq (.reg 0 [⟨(some 4), 0, none, (.op (.mov (.k (.d (.bool false)))))⟩])
       (.ret))
       (.skip))))
    (.reg 0 [⟨(some 15), 0, none, (.op (.mov (.t 5)))⟩,
      ⟨(some 16), 0, none, (.op (.bin .add (.t 15) (.k (.d (.int .i64 1)))))⟩,
      ⟨(some 5), 0, none, (.op (.mov (.t 16)))⟩]))))))
  (.seq (.reg 0 [⟨(some 4), 0, none, (.op (.mov (.k (.d (.bool true)))))⟩])
  (.ret))))
theorem cc12 : Try.f12.body.bind (compC Try.prog) = some ac12 := by kernel_rfl
theorem go12 {vals : List V} {v : V} (ac : AC) (he : ac.erase = ac12) (hw : wpC Try.prog 0 ac (retQ [.tmp 4] v) ⟨vals ++ List.replicate (27 - vals.length) (.tup []), []⟩) : CallP Try.prog 12 vals v :=
  call_of Try.func12 rfl rfl rfl (cc12.trans (congrArg some he.symm)) hw
theorem gi12 {vals : List V} {rows : Go.Vx.Rows} {K : V → Go.Vx.Rows → Prop} (ac : AC) (he : ac.erase = ac12) (hw : wpC Try.prog rows.length ac (retI [.tmp 4] K) ⟨vals ++ List.replicate (27 - vals.length) (.tup []), rows⟩) : InlP Try.prog 12 vals rows K :=
  inl_of' Try.func12 rfl rfl rfl (cc12.trans (congrArg some he.symm)) hw
theorem gm12 {vals : List V} {v : V} {sz : Nat} {es es' : List (List V)} (ac : AC) (he : ac.erase = ac12) (hw : wpC Try.prog 1 ac (retM [.tmp 4] v sz es') ⟨vals ++ List.replicate (27 - vals.length) (.tup []), [.live sz es]⟩) : CallM Try.prog 12 vals sz es v es' :=
  callM_of' Try.func12 rfl rfl rfl (cc12.trans (congrArg some he.symm)) hw

/-- testbench/testbenchref29.Turns -/
def ac13 : AC :=
  .seq (.reg 0 [⟨(some 2), 0, none, (.op (.mov (.k (.d .nils))))⟩])
  (.seq (.reg 0 [⟨(some 3), 0, none, (.op (.mov (.k (.d .nils))))⟩])
  (.seq (.seq (.reg 0 [⟨(some 4), 0, none, (.op (.mov (.k (.d (.int .i64 0)))))⟩,
    ⟨(some 5), 0, none, (.op (.mov (.k (.d (.bool true)))))⟩])
  (.block 0
   (.loop
    (.seq (.seq (.reg 0 [⟨(some 7), 0, none, (.op (.mov (.t 5)))⟩])
    (.cond (.t 7)
      (.skip)
      (.exit 0)))
    (.seq (.block 1
     (.seq (.reg 0 [⟨(some 5), 0, none, (.op (.mov (.k (.d (.bool false)))))⟩])
     (.seq (.reg 0 [⟨(some 6), 0, none, (.op (.mov (.k (.d (.int .i64 0)))))⟩])
     (.block 2
      (.loop
       (.seq (.seq (.reg 0 [⟨(some 10), 0, none, (.op (.mov (.t 6)))⟩,
         ⟨(some 11), 0, none, (.op (.mov (.t 0)))⟩,
         ⟨(some 12), 0, none, (.op (.len false (.t 11)))⟩,
         ⟨(some 13), 0, none, (.op (.bin .lss (.t 10) (.t 12)))⟩])
       (.cond (.t 13)
         (.skip)
         (.exit 2)))
       (.seq (.block 3
        (.seq (.reg 0 [⟨(some 16), 0, none, (.op (.mov (.t 4)))⟩,
          ⟨(some 17), 0, none, (.op (.mov (.t 0)))⟩,
          ⟨(some 18), 0, none, (.op (.mov (.t 6)))⟩,
          ⟨(some 19), 0, none, (.op (.idxA 1 none (.t 17) (.t 18)))⟩,
          ⟨(some 20), 0, none, (.op (.load false 1 (.t 19)))⟩,
          ⟨(some 21), 0, none, (.op (.len false (.t 20)))⟩,
          ⟨(some 22), 0, none, (.op (.bin .lss (.t 16) (.t 21)))⟩])
        (.cond (.t 22)
          (.seq (.reg 2 [⟨(some 23), 0, none, (.op (.mov (.t 3)))⟩,
            ⟨(some 24), 0, none, (.op (.mov (.t 0)))⟩,
            ⟨(some 25), 0, none, (.op (.mov (.t 6)))⟩,
            ⟨(some 26), 0, none, (.op (.idxA 1 none (.t 24) (.t 25)))⟩,
            ⟨(some 27), 0, none, (.op (.load false 1 (.t 26)))⟩,
            ⟨(some 28), 0, none, (.op (.mov (.t 4)))⟩,
            ⟨(some 29), 0, none, (.op (.idxA 4 none (.t 27) (.t 28)))⟩,
            ⟨(some 30), 0, none, (.op (.load true 4 (.t 29)))⟩,
            ⟨(some 31), 0, none, (.op (.buildSl 4 1 [(.bool false), .nils, .nils, (.str [])] [(0, (.t 30))]))⟩,
            ⟨(some 32), 1, none, (.op (.append 4 72 (.t 23) (.t 31)))⟩,
            ⟨(some 3), 2, none, (.op (.mov (.t 32)))⟩])
          (.reg 0 [⟨(some 5), 0, none, (.op (.mov (.k (.d (.bool true)))))⟩]))
          (.skip))))
       (.reg 0 [⟨(some 14), 0, none, (.op (.mov (.t 6)))⟩,
         ⟨(some 15), 0, none, (.op (.bin .add (.t 14) (.k (.d (.int .i64 1)))))⟩,
         ⟨(some 6), 0, none, (.op (.mov (.t 15)))⟩]))))))))
    (.reg 0 [⟨(some 8), 0, none, (.op (.mov (.t 4)))⟩,
      ⟨(some 9), 0, none, (.op (.bin .add (.t 8) (.k (.d (.int .i64 1)))))⟩,
      ⟨(some 4), 0, none, (.op (.mov (.t 9)))⟩]))))))
  (.seq (.reg 0 [⟨(some 33), 0, none, (.op (.mov (.t 3)))⟩,
    ⟨(some 2), 0, none, (.op (.mov (.t 33)))⟩])
  (.ret))))
theorem cc13 : Try.f13.body.bind (compC Try.prog) = some ac13 := by kernel_rfl
theorem go13 {vals : List V} {v : V} (ac : AC) (he : ac.erase = ac13) (hw : wpC Try.prog 0 ac (retQ [.tmp 2] v) ⟨vals ++ List.replicate (34 - vals.length) (.tup []), []⟩) : CallP Try.prog 13 vals v :=
  call_of Try.func13 rfl rfl rfl (cc13.trans (congrArg some he.symm)) hw
theorem gi13 {vals : List V} {rows : Go.Vx.Rows} {K : V → Go.Vx.Rows → Prop} (ac : AC) (he : ac.erase = ac13) (hw : wpC Try.prog rows.length ac (retI [.tmp 2] K) ⟨vals ++ List.replicate (34 - vals.length) (.tup []), rows⟩) : InlP Try.prog 13 vals rows K :=
  inl_of' Try.func13 rfl rfl rfl (cc13.trans (congrArg some he.symm)) hw
theorem gm13 {vals : List V} {v : V} {sz : Nat} {es es' : List (List V)} (ac : AC) (he : ac.erase = ac13) (hw : wpC Try.prog 1 ac (retM [.tmp 2] v sz es') ⟨vals ++ List.replicate (34 - vals.length) (.tup []), [.live sz es]⟩) : CallM Try.prog 13 vals sz es v es' :=
  callM_of' Try.func13 rfl rfl rfl (cc13.trans (congrArg some he.symm)) hw

/-- testbench/arbiter.First -/
def ac14 : AC :=
  .seq (.reg 0 [⟨(some 2), 0, none, (.op (.mov (.k (.d .nils))))⟩])
  (.seq (.reg 0 [⟨(some 3), 0, none, (.op (.mov (.k (.d .nils))))⟩])
  (.seq (.reg 0 [⟨(some 9), 0, none, (.op (.mov (.t 0)))⟩,
    ⟨(some 10), 0, none, (.call (.k (.fn (.func 27) [] [])) [(.t 9)])⟩,
    ⟨(some 4), 0, none, (.op (.mov (.t 10)))⟩])
  (.block 0
   (.loop
    (.block 1
     (.seq (.seq (.reg 0 [⟨(some 11), 0, none, (.op (.mov (.t 4)))⟩,
       ⟨(some 12), 0, none, (.call (.k (.fn (.func 32) [] [])) [(.t 11), (.k (.fn (.func 33) [] []))])⟩,
       ⟨(some 5), 0, none, (.op (.mov (.t 12)))⟩])
     (.seq (.reg 0 [⟨(some 13), 0, none, (.op (.mov (.t 5)))⟩,
       ⟨(some 14), 0, none, (.op (.bin .geq (.t 13) (.k (.d (.int .i64 0)))))⟩])
     (.cond (.t 14)
       (.seq (.reg 2 [⟨(some 15), 0, none, (.op (.mov (.t 3)))⟩,
         ⟨(some 16), 0, none, (.op (.mov (.t 4)))⟩,
         ⟨(some 17), 0, none, (.op (.mov (.t 5)))⟩,
         ⟨(some 18), 0, none, (.op (.idxA 1 none (.t 16) (.t 17)))⟩,
         ⟨(some 19), 0, none, (.op (.load false 1 (.t 18)))⟩,
         ⟨(some 20), 0, none, (.call (.k (.fn (.func 30) [] [])) [(.t 19)])⟩,
         ⟨(some 21), 0, none, (.op (.buildSl 4 1 [(.bool false), .nils, .nils, (.str [])] [(0, (.t 20))]))⟩,
         ⟨(some 22), 1, none, (.op (.append 4 72 (.t 15) (.t 21)))⟩,
         ⟨(some 3), 2, none, (.op (.mov (.t 22)))⟩])
       (.exit 1))
       (.skip))))
     (.seq (.reg 0 [⟨(some 6), 0, none, (.op (.mov (.k (.d (.bool false)))))⟩])
     (.seq (.seq (.reg 0 [⟨(some 23), 0, none, (.op (.mov (.t 4)))⟩,
       ⟨(some 24), 0, none, (.op (.len false (.t 23)))⟩,
       ⟨(some 25), 0, none, (.op (.mov (.k (.d (.int .i64 0)))))⟩])
     (.block 2
      (.loop
       (.seq (.reg 0 [⟨(some 26), 0, none, (.op (.bin .lss (.t 25) (.t 24)))⟩])
       (.seq (.cond (.t 26)
         (.skip)
         (.exit 2))
       (.seq (.block 3
        (.seq (.reg 0 [⟨(some 27), 0, none, (.op (.idxA 1 none (.t 23) (.t 25)))⟩,
          ⟨(some 28), 0, none, (.op (.load false 1 (.t 27)))⟩,
          ⟨(some 8), 0, none, (.op (.mov (.t 28)))⟩])
        (.seq (.reg 0 [⟨(some 29), 0, none, (.op (.mov (.t 8)))⟩,
          ⟨(some 30), 0, none, (.call (.k (.fn (.func 29) [] [])) [(.t 29)])⟩,
          ⟨(some 31), 0, none, (.op (.un .not (.t 30)))⟩])
        (.cond (.t 31)
          (.seq (.reg 0 [⟨(some 6), 0, none, (.op (.mov (.k (.d (.bool true)))))⟩])
          (.reg 0 [⟨(some 32), 0, none, (.op (.mov (.t 8)))⟩,
            ⟨(some 33), 0, none, (.op (.nilck (.t 32)))⟩,
            ⟨(some 34), 0, none, (.op (.fldA 1 (.t 33)))⟩,
            ⟨(some 35), 0, none, (.op (.load false 1 (.t 34)))⟩,
            ⟨(some 36), 0, none, (.op (.bin .add (.t 35) (.k (.d (.int .i64 1)))))⟩,
            ⟨(some 37), 0, none, (.op (.nilck (.t 32)))⟩,
            ⟨(some 38), 0, none, (.op (.fldA 1 (.t 37)))⟩,
            ⟨none, 0, none, (.op (.store 1 (.t 38) (.t 36)))⟩]))
          (.skip)))))
       (.reg 0 [⟨(some 39), 0, none, (.op (.bin .add (.t 25) (.k (.d (.int .i64 1)))))⟩,
         ⟨(some 25), 0, none, (.op (.mov (.t 39)))⟩])))))))
     (.seq (.seq (.reg 0 [⟨(some 40), 0, none, (.op (.mov (.t 6)))⟩,
       ⟨(some 41), 0, none, (.op (.un .not (.t 40)))⟩])
     (.cond (.t 41)
       (.seq (.reg 0 [⟨(some 42), 0, none, (.op (.mov (.t 3)))⟩,
         ⟨(some 2), 0, none, (.op (.mov (.t 42)))⟩])
       (.ret))
       (.skip)))
     (.reg 2 [⟨(some 43), 0, none, (.op (.mov (.t 3)))⟩,
       ⟨(some 44), 0, none, (.op (.build [(.bool false), .nils, .nils, (.str [])] [(0, 1, (.k (.d (.bool true))))]))⟩,
       ⟨(some 45), 0, none, (.op (.buildSl 4 1 [(.bool false), .nils, .nils, (.str [])] [(0, (.t 44))]))⟩,
       ⟨(some 46), 1, none, (.op (.append 4 72 (.t 43) (.t 45)))⟩,
       ⟨(some 3), 2, none, (.op (.mov (.t 46)))⟩]))))))))))
theorem cc14 : Try.f14.body.bind (compC Try.prog) = some ac14 := by kernel_rfl
theorem go14 {vals : List V} {v : V} (ac : AC) (he : ac.erase = ac14) (hw : wpC Try.prog 0 ac (retQ [.tmp 2] v) ⟨vals ++ List.replicate (47 - vals.length) (.tup []), []⟩) : CallP Try.prog 14 vals v :=
  call_of Try.func14 rfl rfl rfl (cc14.trans (congrArg some he.symm)) hw
theorem gi14 {vals : List V} {rows : Go.Vx.Rows} {K : V → Go.Vx.Rows → Prop} (ac : AC) (he : ac.erase = ac14) (hw : wpC Try.prog rows.length ac (retI [.tmp 2] K) ⟨vals ++ List.replicate (47 - vals.length) (.tup []), rows⟩) : InlP Try.prog 14 vals rows K :=
  inl_of' Try.func14 rfl rfl rfl (cc14.trans (congrArg some he.symm)) hw
theorem gm14 {vals : List V} {v : V} {sz : Nat} {es es' : List (List V)} (ac : AC) (he : ac.erase = ac14) (hw : wpC Try.prog 1 ac (retM [.tmp 2] v sz es') ⟨vals ++ List.replicate (47 - vals.length) (.tup []), [.live sz es]⟩) : CallM Try.prog 14 vals sz es v es' :=
  callM_of' Try.func14 rfl rfl rfl (cc14.trans (congrArg some he.symm)) hw

/-- testbench/testbenchref29.First -/
def ac15 : AC :=
  .seq (.reg 0 [⟨(some 2), 0, none, (.op (.mov (.k (.d .nils))))⟩])
  (.seq (.reg 1 [⟨(some 9), 0, none, (.op (.mov (.t 0)))⟩,
    ⟨(some 10), 0, none, (.op (.len false (.t 9)))⟩,
    ⟨(some 11), 0, none, (.op (.mksl 1 8 [(.int .i64 0)] (.t 10) (.t 10)))⟩,
    ⟨(some 3), 1, none, (.op (.mov (.t 11)))⟩])
  (.seq (.reg 0 [⟨(some 4), 0, none, (.op (.mov (.k (.d .nils))))⟩])
  (.block 0
   (.loop
    (.block 1
     (.seq (.reg 0 [⟨(some 5), 0, none, (.op (.mov (.k (.d (.bool false)))))⟩,
       ⟨(some 6), 0, none, (.op (.mov (.k (.d (.int .i64 (-1))))))⟩])
     (.seq (.seq (.reg 0 [⟨(some 12), 0, none, (.op (.mov (.t 0)))⟩,
       ⟨(some 13), 0, none, (.op (.len false (.t 12)))⟩,
       ⟨(some 14), 0, none, (.op (.bin .sub (.t 13) (.k (.d (.int .i64 1)))))⟩,
       ⟨(some 7), 0, none, (.op (.mov (.t 14)))⟩])
     (.block 2
      (.loop
       (.seq (.seq (.reg 0 [⟨(some 15), 0, none, (.op (.mov (.t 7)))⟩,
         ⟨(some 16), 0, none, (.op (.bin .geq (.t 15) (.k (.d (.int .i64 0)))))⟩])
       (.cond (.t 16)
         (.skip)
         (.exit 2)))
       (.seq (.block 3
        (.seq (.regD 0 [(⟨(some 19), 0, none, (.op (.mov (.t 3)))⟩, []),
          (⟨(some 20), 0, none, (.op (.mov (.t 7)))⟩, []),
          (⟨(some 21), 0, none, (.op (.idxA 1 none (.t 19) (.t 20)))⟩, [0, 1]),
          (⟨(some 22), 0, none, (.op (.load false 1 (.t 21)))⟩, [2, 0, 1]),
          (⟨(some 23), 0, none, (.op (.mov (.t 0)))⟩, []),
          (⟨(some 24), 0, none, (.op (.mov (.t 7)))⟩, []),
          (⟨(some 25), 0, none, (.op (.idxA 1 none (.t 23) (.t 24)))⟩, [4, 5]),
          (⟨(some 26), 0, none, (.op (.load false 1 (.t 25)))⟩, [6, 4, 5]),
          (⟨(some 27), 0, none, (.op (.len false (.t 26)))⟩, [7, 6, 4, 5]),
          (⟨(some 28), 0, none, (.op (.bin .lss (.t 22) (.t 27)))⟩, [3, 2, 0, 1, 8, 7, 6, 4, 5])])
        (.cond (.t 28)
          (.seq (.reg 0 [⟨(some 5), 0, none, (.op (.mov (.k (.d (.bool true)))))⟩])
          (.seq (.regD 0 [(⟨(some 29), 0, none, (.op (.mov (.t 0)))⟩, []),
            (⟨(some 30), 0, none, (.op (.mov (.t 7)))⟩, []),
            (⟨(some 31), 0, none, (.op (.idxA 1 none (.t 29) (.t 30)))⟩, [0, 1]),
            (⟨(some 32), 0, none, (.op (.load false 1 (.t 31)))⟩, [2, 0, 1]),
            (⟨(some 33), 0, none, (.op (.mov (.t 3)))⟩, []),
            (⟨(some 34), 0, none, (.op (.mov (.t 7)))⟩, []),
            (⟨(some 35), 0, none, (.op (.idxA 1 none (.t 33) (.t 34)))⟩, [4, 5]),
            (⟨(some 36), 0, none, (.op (.load false 1 (.t 35)))⟩, [6, 4, 5]),
            (⟨(some 37), 0, none, (.op (.idxA 4 none (.t 32) (.t 36)))⟩, [3, 2, 0, 1, 7, 6, 4, 5]),
            (⟨(some 38), 0, none, (.op (.fldA 0 (.t 37)))⟩, [8, 3, 2, 0, 1, 7, 6, 4, 5]),
            (⟨(some 39), 0, none, (.op (.load false 1 (.t 38)))⟩, [9, 8, 3, 2, 0, 1, 7, 6, 4, 5]),
            (⟨(some 40), 0, none, (.op (.un .not (.t 39)))⟩, [10, 9, 8, 3, 2, 0, 1, 7, 6, 4, 5])])
          (.cond (.t 40)
            (.reg 0 [⟨(some 41), 0, none, (.op (.mov (.t 7)))⟩,
              ⟨(some 6), 0, none, (.op (.mov (.t 41)))⟩])
            (.skip))))
          (.skip))))
       (.reg 0 [⟨(some 17), 0, none, (.op (.mov (.t 7)))⟩,
         ⟨(some 18), 0, none, (.op (.bin .sub (.t 17) (.k (.d (.int .i64 1)))))⟩,
         ⟨(some 7), 0, none, (.op (.mov (.t 18)))⟩]))))))
     (.seq (.seq (.reg 0 [⟨(some 42), 0, none, (.op (.mov (.t 5)))⟩,
       ⟨(some 43), 0, none, (.op (.un .not (.t 42)))⟩])
     (.cond (.t 43)
       (.seq (.reg 0 [⟨(some 44), 0, none, (.op (.mov (.t 4)))⟩,
         ⟨(some 2), 0, none, (.op (.mov (.t 44)))⟩])
       (.ret))
       (.skip)))
     (.seq (.seq (.reg 0 [⟨(some 45), 0, none, (.op (.mov (.t 6)))⟩,
       ⟨(some 46), 0, none, (.op (.bin .geq (.t 45) (.k (.d (.int .i64 0)))))⟩])
     (.cond (.t 46)
       (.seq (.regD 2 [(⟨(some 47), 0, none, (.op (.mov (.t 4)))⟩, []),
         (⟨(some 48), 0, none, (.op (.mov (.t 0)))⟩, []),
         (⟨(some 49), 0, none, (.op (.mov (.t 6)))⟩, []),
         (⟨(some 50), 0, none, (.op (.idxA 1 none (.t 48) (.t 49)))⟩, [1, 2]),
         (⟨(some 51), 0, none, (.op (.load false 1 (.t 50)))⟩, [3, 1, 2]),
         (⟨(some 52), 0, none, (.op (.mov (.t 3)))⟩, []),
         (⟨(some 53), 0, none, (.op (.mov (.t 6)))⟩, []),
         (⟨(some 54), 0, none, (.op (.idxA 1 none (.t 52) (.t 53)))⟩, [5, 6]),
         (⟨(some 55), 0, none, (.op (.load false 1 (.t 54)))⟩, [7, 5, 6]),
         (⟨(some 56), 0, none, (.op (.idxA 4 none (.t 51) (.t 55)))⟩, [4, 3, 1, 2, 8, 7, 5, 6]),
         (⟨(some 57), 0, none, (.op (.load true 4 (.t 56)))⟩, [9, 4, 3, 1, 2, 8, 7, 5, 6]),
         (⟨(some 58), 0, none, (.op (.buildSl 4 1 [(.bool false), .nils, .nils, (.str [])] [(0, (.t 57))]))⟩, [10, 9, 4, 3, 1, 2, 8, 7, 5, 6]),
         (⟨(some 59), 1, none, (.op (.append 4 72 (.t 47) (.t 58)))⟩, [0, 11, 10, 9, 4, 3, 1, 2, 8, 7, 5, 6]),
         (⟨(some 4), 2, none, (.op (.mov (.t 59)))⟩, [12, 0, 11, 10, 9, 4, 3, 1, 2, 8, 7, 5, 6])])
       (.seq (.reg 0 [⟨(some 60), 0, none, (.op (.mov (.t 3)))⟩,
         ⟨(some 61), 0, none, (.op (.mov (.t 6)))⟩,
         ⟨(some 62), 0, none, (.op (.mov (.t 3)))⟩,
         ⟨(some 63), 0, none, (.op (.mov (.t 6)))⟩,
         ⟨(some 64), 0, none, (.op (.idxA 1 none (.t 62) (.t 63)))⟩,
         ⟨(some 65), 0, none, (.op (.load false 1 (.t 64)))⟩,
         ⟨(some 66), 0, none, (.op (.bin .add (.t 65) (.k (.d (.int .i64 1)))))⟩,
         ⟨(some 67), 0, none, (.op (.idxA 1 none (.t 60) (.t 61)))⟩,
         ⟨none, 0, none, (.op (.store 1 (.t 67) (.t 66)))⟩])
       (.exit 1)))
       (.skip)))
     (.seq (.reg 2 [⟨(some 68), 0, none, (.op (.mov (.t 4)))⟩,
       ⟨(some 69), 0, none, (.op (.build [(.bool false), .nils, .nils, (.str [])] [(0, 1, (.k (.d (.bool true))))]))⟩,
       ⟨(some 70), 0, none, (.op (.buildSl 4 1 [(.bool false), .nils, .nils, (.str [])] [(0, (.t 69))]))⟩,
       ⟨(some 71), 1, none, (.op (.append 4 72 (.t 68) (.t 70)))⟩,
       ⟨(some 4), 2, none, (.op (.mov (.t 71)))⟩])
     (.seq (.reg 0 [⟨(some 8), 0, none, (.op (.mov (.k (.d (.int .i64 0)))))⟩])
     (.block 4
      (.loop
       (.seq (.seq (.reg 0 [⟨(some 72), 0, none, (.op (.mov (.t 8)))⟩,
         ⟨(some 73), 0, none, (.op (.mov (.t 0)))⟩,
         ⟨(some 74), 0, none, (.op (.len false (.t 73)))⟩,
         ⟨(some 75), 0, none, (.op (.bin .lss (.t 72) (.t 74)))⟩])
       (.cond (.t 75)
         (.skip)
         (.exit 4)))
       (.seq (.block 5
        (.seq (.regD 0 [(⟨(some 78), 0, none, (.op (.mov (.t 3)))⟩, []),
          (⟨(some 79), 0, none, (.op (.mov (.t 8)))⟩, []),
          (⟨(some 80), 0, none, (.op (.idxA 1 none (.t 78) (.t 79)))⟩, [0, 1]),
          (⟨(some 81), 0, none, (.op (.load false 1 (.t 80)))⟩, [2, 0, 1]),
          (⟨(some 82), 0, none, (.op (.mov (.t 0)))⟩, []),
          (⟨(some 83), 0, none, (.op (.mov (.t 8)))⟩, []),
          (⟨(some 84), 0, none, (.op (.idxA 1 none (.t 82) (.t 83)))⟩, [4, 5]),
          (⟨(some 85), 0, none, (.op (.load false 1 (.t 84)))⟩, [6, 4, 5]),
          (⟨(some 86), 0, none, (.op (.len false (.t 85)))⟩, [7, 6, 4, 5]),
          (⟨(some 87), 0, none, (.op (.bin .lss (.t 81) (.t 86)))⟩, [3, 2, 0, 1, 8, 7, 6, 4, 5])])
        (.cond (.t 87)
          (.reg 0 [⟨(some 88), 0, none, (.op (.mov (.t 3)))⟩,
            ⟨(some 89), 0, none, (.op (.mov (.t 8)))⟩,
            ⟨(some 90), 0, none, (.op (.mov (.t 3)))⟩,
            ⟨(some 91), 0, none, (.op (.mov (.t 8)))⟩,
            ⟨(some 92), 0, none, (.op (.idxA 1 none (.t 90) (.t 91)))⟩,
            ⟨(some 93), 0, none, (.op (.load false 1 (.t 92)))⟩,
            ⟨(some 94), 0, none, (.op (.bin .add (.t 93) (.k (.d (.int .i64 1)))))⟩,
            ⟨(some 95), 0, none, (.op (.idxA 1 none (.t 88) (.t 89)))⟩,
            ⟨none, 0, none, (.op (.store 1 (.t 95) (.t 94)))⟩])
          (.skip))))
       (.reg 0 [⟨(some 76), 0, none, (.op (.mov (.t 8)))⟩,
         ⟨(some 77), 0, none, (.op (.bin .add (.t 76) (.k (.d (.int .i64 1)))))⟩,
         ⟨(some 8), 0, none, (.op (.mov (.t 77)))⟩]))))))))))))))))
theorem cc15 : Try.f15.body.bind (compC Try.prog) = some ac15 := by kernel_rfl
theorem go15 {vals : List V} {v : V} (ac : AC) (he : ac.erase = ac15) (hw : wpC Try.prog 0 ac (retQ [.tmp 2] v) ⟨vals ++ List.replicate (96 - vals.length) (.tup []), []⟩) : CallP Try.prog 15 vals v :=
  call_of Try.func15 rfl rfl rfl (cc15.trans (congrArg some he.symm)) hw
theorem gi15 {vals : List V} {rows : Go.Vx.Rows} {K : V → Go.Vx.Rows → Prop} (ac : AC) (he : ac.erase = ac15) (hw : wpC Try.prog rows.length ac (retI [.tmp 2] K) ⟨vals ++ List.replicate (96 - vals.length) (.tup []), rows⟩) : InlP Try.prog 15 vals rows K :=
  inl_of' Try.func15 rfl rfl rfl (cc15.trans (congrArg some he.symm)) hw
theorem gm15 {vals : List V} {v : V} {sz : Nat} {es es' : List (List V)} (ac : AC) (he : ac.erase = ac15) (hw : wpC Try.prog 1 ac (retM [.tmp 2] v sz es') ⟨vals ++ List.replicate (96 - vals.length) (.tup []), [.live sz es]⟩) : CallM Try.prog 15 vals sz es v es' :=
  callM_of' Try.func15 rfl rfl rfl (cc15.trans (congrArg some he.symm)) hw

/-- testbench/testbenchlaw29.only -/
def ac16 : AC :=
  .seq (.reg 0 [⟨(some 2), 0, none, (.op (.mov (.k (.d .nils))))⟩])
  (.seq (.reg 0 [⟨(some 3), 0, none, (.op (.mov (.k (.d .nils))))⟩])
  (.seq (.seq (.reg 0 [⟨(some 4), 0, none, (.op (.mov (.k (.d (.int .i64 0)))))⟩])
  (.block 0
   (.loop
    (.seq (.seq (.reg 0 [⟨(some 5), 0, none, (.op (.mov (.t 4)))⟩,
      ⟨(some 6), 0, none, (.op (.mov (.t 0)))⟩,
      ⟨(some 7), 0, none, (.op (.len false (.t 6)))⟩,
      ⟨(some 8), 0, none, (.op (.bin .lss (.t 5) (.t 7)))⟩])
    (.cond (.t 8)
      (.skip)
      (.exit 0)))
    (.seq (.block 1
     (.seq (.reg 0 [⟨(some 11), 0, none, (.op (.mov (.t 0)))⟩,
       ⟨(some 12), 0, none, (.op (.mov (.t 4)))⟩,
       ⟨(some 13), 0, none, (.op (.idxA 4 none (.t 11) (.t 12)))⟩,
       ⟨(some 14), 0, none, (.op (.fldA 0 (.t 13)))⟩,
       ⟨(some 15), 0, none, (.op (.load false 1 (.t 14)))⟩,
       ⟨(some 16), 0, none, (.op (.un .not (.t 15)))⟩])
     (.cond (.t 16)
       (.reg 2 [⟨(some 17), 0, none, (.op (.mov (.t 3)))⟩,
         ⟨(some 18), 0, none, (.op (.mov (.t 0)))⟩,
         ⟨(some 19), 0, none, (.op (.mov (.t 4)))⟩,
         ⟨(some 20), 0, none, (.op (.idxA 4 none (.t 18) (.t 19)))⟩,
         ⟨(some 21), 0, none, (.op (.load true 4 (.t 20)))⟩,
         ⟨(some 22), 0, none, (.op (.buildSl 4 1 [(.bool false), .nils, .nils, (.str [])] [(0, (.t 21))]))⟩,
         ⟨(some 23), 1, none, (.op (.append 4 72 (.t 17) (.t 22)))⟩,
         ⟨(some 3), 2, none, (.op (.mov (.t 23)))⟩])
       (.skip))))
    (.reg 0 [⟨(some 9), 0, none, (.op (.mov (.t 4)))⟩,
      ⟨(some 10), 0, none, (.op (.bin .add (.t 9) (.k (.d (.int .i64 1)))))⟩,
      ⟨(some 4), 0, none, (.op (.mov (.t 10)))⟩]))))))
  (.seq (.reg 0 [⟨(some 24), 0, none, (.op (.mov (.t 3)))⟩,
    ⟨(some 2), 0, none, (.op (.mov (.t 24)))⟩])
  (.ret))))
theorem cc16 : Try.f16.body.bind (compC Try.prog) = some ac16 := by kernel_rfl
theorem go16 {vals : List V} {v : V} (ac : AC) (he : ac.erase = ac16) (hw : wpC Try.prog 0 ac (retQ [.tmp 2] v) ⟨vals ++ List.replicate (25 - vals.length) (.tup []), []⟩) : CallP Try.prog 16 vals v :=
  call_of Try.func16 rfl rfl rfl (cc16.trans (congrArg some he.symm)) hw
theorem gi16 {vals : List V} {rows : Go.Vx.Rows} {K : V → Go.Vx.Rows → Prop} (ac : AC) (he : ac.erase = ac16) (hw : wpC Try.prog rows.length ac (retI [.tmp 2] K) ⟨vals ++ List.replicate (25 - vals.length) (.tup []), rows⟩) : InlP Try.prog 16 vals rows K :=
  inl_of' Try.func16 rfl rfl rfl (cc16.trans (congrArg some he.symm)) hw
theorem gm16 {vals : List V} {v : V} {sz : Nat} {es es' : List (List V)} (ac : AC) (he : ac.erase = ac16) (hw : wpC Try.prog 1 ac (retM [.tmp 2] v sz es') ⟨vals ++ List.replicate (25 - vals.length) (.tup []), [.live sz es]⟩) : CallM Try.prog 16 vals sz es v es' :=
  callM_of' Try.func16 rfl rfl rfl (cc16.trans (congrArg some he.symm)) hw

/-- testbench/arbiter.Busy -/
def ac17 : AC :=
  .seq (.reg 0 [⟨(some 2), 0, none, (.op (.mov (.k (.d (.int .i64 0)))))⟩])
  (.seq (.reg 0 [⟨(some 3), 0, none, (.op (.mov (.k (.d (.int .i64 0)))))⟩])
  (.seq (.seq (.reg 0 [⟨(some 6), 0, none, (.op (.mov (.t 0)))⟩,
    ⟨(some 7), 0, none, (.op (.len false (.t 6)))⟩,
    ⟨(some 8), 0, none, (.op (.mov (.k (.d (.int .i64 0)))))⟩])
  (.block 0
   (.loop
    (.seq (.reg 0 [⟨(some 9), 0, none, (.op (.bin .lss (.t 8) (.t 7)))⟩])
    (.seq (.cond (.t 9)
      (.skip)
      (.exit 0))
    (.seq (.block 1
     (.seq (.reg 1 [⟨(some 10), 0, none, (.op (.idxA 4 none (.t 6) (.t 8)))⟩,
       ⟨(some 11), 0, none, (.op (.load true 4 (.t 10)))⟩,
       ⟨(some 5), 0, none, (.op (.alloc [(.bool false), .nils, .nils, (.str [])]))⟩,
       ⟨none, 1, none, (.op (.store 4 (.t 5) (.t 11)))⟩])
     (.seq (.reg 0 [⟨(some 12), 0, none, (.op (.fldA 0 (.t 5)))⟩,
       ⟨(some 13), 0, none, (.op (.load false 1 (.t 12)))⟩,
       ⟨(some 14), 0, none, (.op (.un .not (.t 13)))⟩])
     (.cond (.t 14)
       (.reg 0 [⟨(some 15), 0, none, (.op (.mov (.t 3)))⟩,
         ⟨(some 16), 0, none, (.op (.bin .add (.t 15) (.k (.d (.int .i64 1)))))⟩,
         ⟨(some 3), 0, none, (.op (.mov (.t 16)))⟩])
       (.skip)))))
    (.reg 0 [⟨(some 17), 0, none, (.op (.bin .add (.t 8) (.k (.d (.int .i64 1)))))⟩,
      ⟨(some 8), 0, none, (.op (.mov (.t 17)))⟩])))))))
  (.seq (.reg 0 [⟨(some 18), 0, none, (.op (.mov (.t 3)))⟩,
    ⟨(some 2), 0, none, (.op (.mov (.t 18)))⟩])
  (.ret))))
theorem cc17 : Try.f17.body.bind (compC Try.prog) = some ac17 := by kernel_rfl
theorem go17 {vals : List V} {v : V} (ac : AC) (he : ac.erase = ac17) (hw : wpC Try.prog 0 ac (retQ [.tmp 2] v) ⟨vals ++ List.replicate (19 - vals.length) (.tup []), []⟩) : CallP Try.prog 17 vals v :=
  call_of Try.func17 rfl rfl rfl (cc17.trans (congrArg some he.symm)) hw
theorem gi17 {vals : List V} {rows : Go.Vx.Rows} {K : V → Go.Vx.Rows → Prop} (ac : AC) (he : ac.erase = ac17) (hw : wpC Try.prog rows.length ac (retI [.tmp 2] K) ⟨vals ++ List.replicate (19 - vals.length) (.tup []), rows⟩) : InlP Try.prog 17 vals rows K :=
  inl_of' Try.func17 rfl rfl rfl (cc17.trans (congrArg some he.symm)) hw
theorem gm17 {vals : List V} {v : V} {sz : Nat} {es es' : List (List V)} (ac : AC) (he : ac.erase = ac17) (hw : wpC Try.prog 1 ac (retM [.tmp 2] v sz es') ⟨vals ++ List.replicate (19 - vals.length) (.tup []), [.live sz es]⟩) : CallM Try.prog 17 vals sz es v es' :=
  callM_of' Try.func17 rfl rfl rfl (cc17.trans (congrArg some he.symm)) hw

/-- testbench/arbiter.Trim -/
def ac18 : AC :=
  .seq (.reg 0 [⟨(some 2), 0, none, (.op (.mov (.k (.d .nils))))⟩])
  (.seq (.reg 0 [⟨(some 7), 0, none, (.op (.mov (.t 0)))⟩,
    ⟨(some 8), 0, none, (.op (.len false (.t 7)))⟩,
    ⟨(some 3), 0, none, (.op (.mov (.t 8)))⟩])
  (.seq (.block 0
   (.loop
    (.seq (.seq (.reg 0 [⟨(some 9), 0, none, (.op (.mov (.t 3)))⟩,
      ⟨(some 10), 0, none, (.op (.bin .gtr (.t 9) (.k (.d (.int .i64 0)))))⟩,
      ⟨(some 11), 0, none, (.op (.mov (.t 10)))⟩,
      ⟨(some 12), 0, (some (11, true)), (.op (.mov (.t 0)))⟩,
      ⟨(some 13), 0, (some (11, true)), (.op (.mov (.t 3)))⟩,
      ⟨(some 14), 0, (some (11, true)), (.op (.bin .sub (.t 13) (.k (.d (.int .i64 1)))))⟩,
      ⟨(some 15), 0, (some (11, true)), (.op (.idxA 4 none (.t 12) (.t 14)))⟩,
      ⟨(some 16), 0, (some (11, true)), (.op (.fldA 0 (.t 15)))⟩,
      ⟨(some 17), 0, (some (11, true)), (.op (.load false 1 (.t 16)))⟩,
      ⟨(some 18), 0, none, (.op (.pick (.t 11) (.t 17) (.k (.d (.bool false)))))⟩])
    (.cond (.t 18)
      (.skip)
      (.exit 0)))
    (.block 1
     (.reg 0 [⟨(some 19), 0, none, (.op (.mov (.t 3)))⟩,
       ⟨(some 20), 0, none, (.op (.bin .sub (.t 19) (.k (.d (.int .i64 1)))))⟩,
       ⟨(some 3), 0, none, (.op (.mov (.t 20)))⟩])))))
  (.seq (.reg 0 [⟨(some 4), 0, none, (.op (.mov (.k (.d .nils))))⟩])
  (.seq (.seq (.reg 0 [⟨(some 21), 0, none, (.op (.mov (.t 0)))⟩,
    ⟨(some 22), 0, none, (.op (.mov (.t 3)))⟩,
    ⟨(some 23), 0, none, (.op (.slice 4 (.t 21) none (some (.t 22))))⟩,
    ⟨(some 24), 0, none, (.op (.len false (.t 23)))⟩,
    ⟨(some 25), 0, none, (.op (.mov (.k (.d (.int .i64 0)))))⟩])
  (.block 2
   (.loop
    (.seq (.reg 0 [⟨(some 26), 0, none, (.op (.bin .lss (.t 25) (.t 24)))⟩])
    (.seq (.cond (.t 26)
      (.skip)
      (.exit 2))
    (.seq (.block 3
     (.seq (.reg 1 [⟨(some 27), 0, none, (.op (.idxA 4 none (.t 23) (.t 25)))⟩,
       ⟨(some 28), 0, none, (.op (.load true 4 (.t 27)))⟩,
       ⟨(some 6), 0, none, (.op (.alloc [(.bool false), .nils, .nils, (.str [])]))⟩,
       ⟨none, 1, none, (.op (.store 4 (.t 6) (.t 28)))⟩])
     (.reg 2 [⟨(some 29), 0, none, (.op (.mov (.t 4)))⟩,
       ⟨(some 30), 0, none, (.op (.load true 4 (.t 6)))⟩,
       ⟨(some 31), 0, none, (.call (.k (.fn (.func 34) [] [])) [(.t 30)])⟩,
       ⟨(some 32), 0, none, (.op (.buildSl 4 1 [(.bool false), .nils, .nils, (.str [])] [(0, (.t 31))]))⟩,
       ⟨(some 33), 1, none, (.op (.append 4 72 (.t 29) (.t 32)))⟩,
       ⟨(some 4), 2, none, (.op (.mov (.t 33)))⟩])))
    (.reg 0 [⟨(some 34), 0, none, (.op (.bin .add (.t 25) (.k (.d (.int .i64 1)))))⟩,
      ⟨(some 25), 0, none, (.op (.mov (.t 34)))⟩])))))))
  (.seq (.reg 0 [⟨(some 35), 0, none, (.op (.mov (.t 4)))⟩,
    ⟨(some 2), 0, none, (.op (.mov (.t 35)))⟩])
  (.ret))))))
theorem cc18 : Try.f18.body.bind (compC Try.prog) = some ac18 := by kernel_rfl
theorem go18 {vals : List V} {v : V} (ac : AC) (he : ac.erase = ac18) (hw : wpC Try.prog 0 ac (retQ [.tmp 2] v) ⟨vals ++ List.replicate (36 - vals.length) (.tup []), []⟩) : CallP Try.prog 18 vals v :=
  call_of Try.func18 rfl rfl rfl (cc18.trans (congrArg some he.symm)) hw
theorem gi18 {vals : List V} {rows : Go.Vx.Rows} {K : V → Go.Vx.Rows → Prop} (ac : AC) (he : ac.erase = ac18) (hw : wpC Try.prog rows.length ac (retI [.tmp 2] K) ⟨vals ++ List.replicate (36 - vals.length) (.tup []), rows⟩) : InlP Try.prog 18 vals rows K :=
  inl_of' Try.func18 rfl rfl rfl (cc18.trans (congrArg some he.symm)) hw
theorem gm18 {vals : List V} {v : V} {sz : Nat} {es es' : List (List V)} (ac : AC) (he : ac.erase = ac18) (hw : wpC Try.prog 1 ac (retM [.tmp 2] v sz es') ⟨vals ++ List.replicate (36 - vals.length) (.tup []), [.live sz es]⟩) : CallM Try.prog 18 vals sz es v es' :=
  callM_of' Try.func18 rfl rfl rfl (cc18.trans (congrArg some he.symm)) hw

/-- testbench/arbiter.Split -/
def ac19 : AC :=
  .seq (.reg 0 [⟨(some 4), 0, none, (.op (.mov (.k (.d .nils))))⟩])
  (.seq (.reg 1 [⟨(some 10), 0, none, (.op (.mov (.t 1)))⟩,
    ⟨(some 11), 0, none, (.op (.len false (.t 10)))⟩,
    ⟨(some 12), 0, none, (.op (.mksl 1 24 [.nils] (.t 11) (.t 11)))⟩,
    ⟨(some 5), 1, none, (.op (.mov (.t 12)))⟩])
  (.seq (.seq (.reg 0 [⟨(some 13), 0, none, (.op (.mov (.t 1)))⟩,
    ⟨(some 14), 0, none, (.op (.len false (.t 13)))⟩,
    ⟨(some 15), 0, none, (.op (.mov (.k (.d (.int .i64 0)))))⟩])
  (.block 0
   (.loop
    (.seq (.reg 0 [⟨(some 16), 0, none, (.op (.bin .lss (.t 15) (.t 14)))⟩])
    (.seq (.cond (.t 16)
      (.skip)
      (.exit 0))
    (.seq (.block 1
     (.seq (.reg 0 [⟨(some 17), 0, none, (.op (.mov (.t 15)))⟩,
       ⟨(some 18), 0, none, (.op (.idxA 1 none (.t 13) (.t 15)))⟩,
       ⟨(some 19), 0, none, (.op (.load false 1 (.t 18)))⟩,
       ⟨(some 6), 0, none, (.op (.mov (.t 17)))⟩,
       ⟨(some 7), 0, none, (.op (.mov (.t 19)))⟩])
     (.seq (.reg 0 [⟨(some 20), 0, none, (.op (.mov (.t 0)))⟩,
       ⟨(some 21), 0, none, (.op (.len false (.t 20)))⟩,
       ⟨(some 22), 0, none, (.op (.mov (.k (.d (.int .i64 0)))))⟩])
     (.block 2
      (.loop
       (.seq (.reg 0 [⟨(some 23), 0, none, (.op (.bin .lss (.t 22) (.t 21)))⟩])
       (.seq (.cond (.t 23)
         (.skip)
         (.exit 2))
       (.seq (.block 3
        (.seq (.reg 1 [⟨(some 24), 0, none, (.op (.idxA 4 none (.t 20) (.t 22)))⟩,
          ⟨(some 25), 0, none, (.op (.load true 4 (.t 24)))⟩,
          ⟨(some 9), 0, none, (.op (.alloc [(.bool false), .nils, .nils, (.str [])]))⟩,
          ⟨none, 1, none, (.op (.store 4 (.t 9) (.t 25)))⟩])
        (.seq (.reg 0 [⟨(some 26), 0, none, (.op (.fldA 3 (.t 9)))⟩,
          ⟨(some 27), 0, none, (.op (.load false 1 (.t 26)))⟩,
          ⟨(some 28), 0, none, (.op (.mov (.t 7)))⟩,
          ⟨(some 29), 0, none, (.op (.bin .eql (.t 27) (.t 28)))⟩])
        (.cond (.t 29)
          (.regD 2 [(⟨(some 30), 0, none, (.op (.mov (.t 5)))⟩, []),
            (⟨(some 31), 0, none, (.op (.mov (.t 6)))⟩, []),
            (⟨(some 32), 0, none, (.op (.mov (.t 5)))⟩, []),
            (⟨(some 33), 0, none, (.op (.mov (.t 6)))⟩, []),
            (⟨(some 34), 0, none, (.op (.idxA 1 none (.t 32) (.t 33)))⟩, [2, 3]),
            (⟨(some 35), 0, none, (.op (.load false 1 (.t 34)))⟩, [4, 2, 3]),
            (⟨(some 36), 0, none, (.op (.load true 4 (.t 9)))⟩, []),
            (⟨(some 37), 0, none, (.call (.k (.fn (.func 34) [] [])) [(.t 36)])⟩, [6]),
            (⟨(some 38), 0, none, (.op (.buildSl 4 1 [(.bool false), .nils, .nils, (.str [])] [(0, (.t 37))]))⟩, [7, 6]),
            (⟨(some 39), 1, none, (.op (.append 4 72 (.t 35) (.t 38)))⟩, [5, 4, 2, 3, 8, 7, 6]),
            (⟨(some 40), 2, none, (.op (.idxA 1 none (.t 30) (.t 31)))⟩, [0, 1, 2, 3, 4, 5, 6, 7, 8, 9]),
            (⟨none, 2, none, (.op (.store 1 (.t 40) (.t 39)))⟩, [10, 0, 1, 2, 3, 4, 5, 6, 7, 8, 9])])
          (.skip)))))
       (.reg 0 [⟨(some 41), 0, none, (.op (.bin .add (.t 22) (.k (.d (.int .i64 1)))))⟩,
         ⟨(some 22), 0, none, (.op (.mov (.t 41)))⟩])))))))))
    (.reg 0 [⟨(some 42), 0, none, (.op (.bin .add (.t 15) (.k (.d (.int .i64 1)))))⟩,
      ⟨(some 15), 0, none, (.op (.mov (.t 42)))⟩])))))))
  (.seq (.reg 0 [⟨(some 43), 0, none, (.op (.mov (.t 5)))⟩,
    ⟨(some 4), 0, none, (.op (.mov (.t 43)))⟩])
  (.ret))))
theorem cc19 : Try.f19.body.bind (compC Try.prog) = some ac19 := by kernel_rfl
theorem go19 {vals : List V} {v : V} (ac : AC) (he : ac.erase = ac19) (hw : wpC Try.prog 0 ac (retQ [.tmp 4] v) ⟨vals ++ List.replicate (44 - vals.length) (.tup []), []⟩) : CallP Try.prog 19 vals v :=
  call_of Try.func19 rfl rfl rfl (cc19.trans (congrArg some he.symm)) hw
theorem gi19 {vals : List V} {rows : Go.Vx.Rows} {K : V → Go.Vx.Rows → Prop} (ac : AC) (he : ac.erase = ac19) (hw : wpC Try.prog rows.length ac (retI [.tmp 4] K) ⟨vals ++ List.replicate (44 - vals.length) (.tup []), rows⟩) : InlP Try.prog 19 vals rows K :=
  inl_of' Try.func19 rfl rfl rfl (cc19.trans (congrArg some he.symm)) hw
theorem gm19 {vals : List V} {v : V} {sz : Nat} {es es' : List (List V)} (ac : AC) (he : ac.erase = ac19) (hw : wpC Try.prog 1 ac (retM [.tmp 4] v sz es') ⟨vals ++ List.replicate (44 - vals.length) (.tup []), [.live sz es]⟩) : CallM Try.prog 19 vals sz es v es' :=
  callM_of' Try.func19 rfl rfl rfl (cc19.trans (congrArg some he.symm)) hw

/-- testbench/testbenchref29.Split -/
def ac20 : AC :=
  .seq (.reg 0 [⟨(some 4), 0, none, (.op (.mov (.k (.d .nils))))⟩])
  (.seq (.reg 0 [⟨(some 5), 0, none, (.op (.mov (.k (.d .nils))))⟩])
  (.seq (.seq (.reg 0 [⟨(some 6), 0, none, (.op (.mov (.k (.d (.int .i64 0)))))⟩])
  (.block 0
   (.loop
    (.seq (.seq (.reg 0 [⟨(some 9), 0, none, (.op (.mov (.t 6)))⟩,
      ⟨(some 10), 0, none, (.op (.mov (.t 1)))⟩,
      ⟨(some 11), 0, none, (.op (.len false (.t 10)))⟩,
      ⟨(some 12), 0, none, (.op (.bin .lss (.t 9) (.t 11)))⟩])
    (.cond (.t 12)
      (.skip)
      (.exit 0)))
    (.seq (.block 1
     (.seq (.reg 0 [⟨(some 7), 0, none, (.op (.mov (.k (.d .nils))))⟩])
     (.seq (.seq (.reg 0 [⟨(some 8), 0, none, (.op (.mov (.k (.d (.int .i64 0)))))⟩])
     (.block 2
      (.loop
       (.seq (.seq (.reg 0 [⟨(some 15), 0, none, (.op (.mov (.t 8)))⟩,
         ⟨(some 16), 0, none, (.op (.mov (.t 0)))⟩,
         ⟨(some 17), 0, none, (.op (.len false (.t 16)))⟩,
         ⟨(some 18), 0, none, (.op (.bin .lss (.t 15) (.t 17)))⟩])
       (.cond (.t 18)
         (.skip)
         (.exit 2)))
       (.seq (.block 3
        (.seq (.regD 0 [(⟨(some 21), 0, none, (.op (.mov (.t 0)))⟩, []),
          (⟨(some 22), 0, none, (.op (.mov (.t 8)))⟩, []),
          (⟨(some 23), 0, none, (.op (.idxA 4 none (.t 21) (.t 22)))⟩, [0, 1]),
          (⟨(some 24), 0, none, (.op (.fldA 3 (.t 23)))⟩, [2, 0, 1]),
          (⟨(some 25), 0, none, (.op (.load false 1 (.t 24)))⟩, [3, 2, 0, 1]),
          (⟨(some 26), 0, none, (.op (.mov (.t 1)))⟩, []),
          (⟨(some 27), 0, none, (.op (.mov (.t 6)))⟩, []),
          (⟨(some 28), 0, none, (.op (.idxA 1 none (.t 26) (.t 27)))⟩, [5, 6]),
          (⟨(some 29), 0, none, (.op (.load false 1 (.t 28)))⟩, [7, 5, 6]),
          (⟨(some 30), 0, none, (.op (.bin .eql (.t 25) (.t 29)))⟩, [4, 3, 2, 0, 1, 8, 7, 5, 6])])
        (.cond (.t 30)
          (.reg 2 [⟨(some 31), 0, none, (.op (.mov (.t 7)))⟩,
            ⟨(some 32), 0, none, (.op (.mov (.t 0)))⟩,
            ⟨(some 33), 0, none, (.op (.mov (.t 8)))⟩,
            ⟨(some 34), 0, none, (.op (.idxA 4 none (.t 32) (.t 33)))⟩,
            ⟨(some 35), 0, none, (.op (.load true 4 (.t 34)))⟩,
            ⟨(some 36), 0, none, (.op (.buildSl 4 1 [(.bool false), .nils, .nils, (.str [])] [(0, (.t 35))]))⟩,
            ⟨(some 37), 1, none, (.op (.append 4 72 (.t 31) (.t 36)))⟩,
            ⟨(some 7), 2, none, (.op (.mov (.t 37)))⟩])
          (.skip))))
       (.reg 0 [⟨(some 19), 0, none, (.op (.mov (.t 8)))⟩,
         ⟨(some 20), 0, none, (.op (.bin .add (.t 19) (.k (.d (.int .i64 1)))))⟩,
         ⟨(some 8), 0, none, (.op (.mov (.t 20)))⟩]))))))
     (.reg 2 [⟨(some 38), 0, none, (.op (.mov (.t 5)))⟩,
       ⟨(some 39), 0, none, (.op (.mov (.t 7)))⟩,
       ⟨(some 40), 0, none, (.op (.buildSl 1 1 [.nils] [(0, (.t 39))]))⟩,
       ⟨(some 41), 1, none, (.op (.append 1 24 (.t 38) (.t 40)))⟩,
       ⟨(some 5), 2, none, (.op (.mov (.t 41)))⟩]))))
    (.reg 0 [⟨(some 13), 0, none, (.op (.mov (.t 6)))⟩,
      ⟨(some 14), 0, none, (.op (.bin .add (.t 13) (.k (.d (.int .i64 1)))))⟩,
      ⟨(some 6), 0, none, (.op (.mov (.t 14)))⟩]))))))
  (.seq (.reg 0 [⟨(some 42), 0, none, (.op (.mov (.t 5)))⟩,
    ⟨(some 4), 0, none, (.op (.mov (.t 42)))⟩])
  (.ret))))
theorem cc20 : Try.f20.body.bind (compC Try.prog) = some ac20 := by kernel_rfl
theorem go20 {vals : List V} {v : V} (ac : AC) (he : ac.erase = ac20) (hw : wpC Try.prog 0 ac (retQ [.tmp 4] v) ⟨vals ++ List.replicate (43 - vals.length) (.tup []), []⟩) : CallP Try.prog 20 vals v :=
  call_of Try.func20 rfl rfl rfl (cc20.trans (congrArg some he.symm)) hw
theorem gi20 {vals : List V} {rows : Go.Vx.Rows} {K : V → Go.Vx.Rows → Prop} (ac : AC) (he : ac.erase = ac20) (hw : wpC Try.prog rows.length ac (retI [.tmp 4] K) ⟨vals ++ List.replicate (43 - vals.length) (.tup []), rows⟩) : InlP Try.prog 20 vals rows K :=
  inl_of' Try.func20 rfl rfl rfl (cc20.trans (congrArg some he.symm)) hw
theorem gm20 {vals : List V} {v : V} {sz : Nat} {es es' : List (List V)} (ac : AC) (he : ac.erase = ac20) (hw : wpC Try.prog 1 ac (retM [.tmp 4] v sz es') ⟨vals ++ List.replicate (43 - vals.length) (.tup []), [.live sz es]⟩) : CallM Try.prog 20 vals sz es v es' :=
  callM_of' Try.func20 rfl rfl rfl (cc20.trans (congrArg some he.symm)) hw

/-- testbench/testbenchref29.Busy -/
def ac21 : AC :=
  .seq (.reg 0 [⟨(some 2), 0, none, (.op (.mov (.k (.d (.int .i64 0)))))⟩])
  (.seq (.reg 0 [⟨(some 3), 0, none, (.op (.mov (.t 0)))⟩,
    ⟨(some 4), 0, none, (.call (.k (.fn (.func 35) [] [])) [(.t 3)])⟩,
    ⟨(some 5), 0, none, (.op (.len false (.t 4)))⟩,
    ⟨(some 2), 0, none, (.op (.mov (.t 5)))⟩])
  (.ret))
theorem cc21 : Try.f21.body.bind (compC Try.prog) = some ac21 := by kernel_rfl
theorem go21 {vals : List V} {v : V} (ac : AC) (he : ac.erase = ac21) (hw : wpC Try.prog 0 ac (retQ [.tmp 2] v) ⟨vals ++ List.replicate (6 - vals.length) (.tup []), []⟩) : CallP Try.prog 21 vals v :=
  call_of Try.func21 rfl rfl rfl (cc21.trans (congrArg some he.symm)) hw
theorem gi21 {vals : List V} {rows : Go.Vx.Rows} {K : V → Go.Vx.Rows → Prop} (ac : AC) (he : ac.erase = ac21) (hw : wpC Try.prog rows.length ac (retI [.tmp 2] K) ⟨vals ++ List.replicate (6 - vals.length) (.tup []), rows⟩) : InlP Try.prog 21 vals rows K :=
  inl_of' Try.func21 rfl rfl rfl (cc21.trans (congrArg some he.symm)) hw
theorem gm21 {vals : List V} {v : V} {sz : Nat} {es es' : List (List V)} (ac : AC) (he : ac.erase = ac21) (hw : wpC Try.prog 1 ac (retM [.tmp 2] v sz es') ⟨vals ++ List.replicate (6 - vals.length) (.tup []), [.live sz es]⟩) : CallM Try.prog 21 vals sz es v es' :=
  callM_of' Try.func21 rfl rfl rfl (cc21.trans (congrArg some he.symm)) hw

/-- testbench/testbenchref29.Trim -/
def ac22 : AC :=
  .seq (.reg 0 [⟨(some 2), 0, none, (.op (.mov (.k (.d .nils))))⟩])
  (.seq (.reg 0 [⟨(some 4), 0, none, (.op (.mov (.t 0)))⟩,
    ⟨(some 5), 0, none, (.op (.len false (.t 4)))⟩,
    ⟨(some 3), 0, none, (.op (.mov (.t 5)))⟩])
  (.seq (.block 0
   (.loop
    (.seq (.seq (.reg 0 [⟨(some 6), 0, none, (.op (.mov (.t 3)))⟩,
      ⟨(some 7), 0, none, (.op (.bin .gtr (.t 6) (.k (.d (.int .i64 0)))))⟩,
      ⟨(some 8), 0, none, (.op (.mov (.t 7)))⟩,
      ⟨(some 9), 0, (some (8, true)), (.op (.mov (.t 0)))⟩,
      ⟨(some 10), 0, (some (8, true)), (.op (.mov (.t 3)))⟩,
      ⟨(some 11), 0, (some (8, true)), (.op (.bin .sub (.t 10) (.k (.d (.int .i64 1)))))⟩,
      ⟨(some 12), 0, (some (8, true)), (.op (.idxA 4 none (.t 9) (.t 11)))⟩,
      ⟨(some 13), 0, (some (8, true)), (.op (.fldA 0 (.t 12)))⟩,
      ⟨(some 14), 0, (some (8, true)), (.op (.load false 1 (.t 13)))⟩,
      ⟨(some 15), 0, none, (.op (.pick (.t 8) (.t 14) (.k (.d (.bool false)))))⟩])
    (.cond (.t 15)
      (.skip)
      (.exit 0)))
    (.block 1
     (.reg 0 [⟨(some 16), 0, none, (.op (.mov (.t 3)))⟩,
       ⟨(some 17), 0, none, (.op (.bin .sub (.t 16) (.k (.d (.int .i64 1)))))⟩,
       ⟨(some 3), 0, none, (.op (.mov (.t 17)))⟩])))))
  (.seq (.reg 2 [⟨(some 18), 0, none, (.op (.buildSl 4 0 [(.bool false), .nils, .nils, (.str [])] []))⟩,
    ⟨(some 19), 1, none, (.op (.mov (.t 0)))⟩,
    ⟨(some 20), 1, none, (.op (.mov (.t 3)))⟩,
    ⟨(some 21), 1, none, (.op (.slice 4 (.t 19) none (some (.t 20))))⟩,
    ⟨(some 22), 1, none, (.op (.append 4 72 (.t 18) (.t 21)))⟩,
    ⟨(some 2), 2, none, (.op (.mov (.t 22)))⟩])
  (.ret))))
theorem cc22 : Try.f22.body.bind (compC Try.prog) = some ac22 := by kernel_rfl
theorem go22 {vals : List V} {v : V} (ac : AC) (he : ac.erase = ac22) (hw : wpC Try.prog 0 ac (retQ [.tmp 2] v) ⟨vals ++ List.replicate (23 - vals.length) (.tup []), []⟩) : CallP Try.prog 22 vals v :=
  call_of Try.func22 rfl rfl rfl (cc22.trans (congrArg some he.symm)) hw
theorem gi22 {vals : List V} {rows : Go.Vx.Rows} {K : V → Go.Vx.Rows → Prop} (ac : AC) (he : ac.erase = ac22) (hw : wpC Try.prog rows.length ac (retI [.tmp 2] K) ⟨vals ++ List.replicate (23 - vals.length) (.tup []), rows⟩) : InlP Try.prog 22 vals rows K :=
  inl_of' Try.func22 rfl rfl rfl (cc22.trans (congrArg some he.symm)) hw
theorem gm22 {vals : List V} {v : V} {sz : Nat} {es es' : List (List V)} (ac : AC) (he : ac.erase = ac22) (hw : wpC Try.prog 1 ac (retM [.tmp 2] v sz es') ⟨vals ++ List.replicate (23 - vals.length) (.tup []), [.live sz es]⟩) : CallM Try.prog 22 vals sz es v es' :=
  callM_of' Try.func22 rfl rfl rfl (cc22.trans (congrArg some he.symm)) hw

/-- testbench/arbiter.Lottery -/
def ac23 : AC :=
  .seq (.reg 1 [⟨(some 5), 0, none, (.op (.box 2 (.t 2)))⟩,
    ⟨(some 6), 1, none, (.op (.mov (.k (.d .nils))))⟩,
    ⟨(some 7), 1, none, (.op (.mov (.k (.d (.int .i64 0)))))⟩])
  (.seq (.seq (.reg 0 [⟨(some 18), 0, none, (.op (.mov (.t 1)))⟩,
    ⟨(some 19), 0, none, (.op (.mov (.t 0)))⟩,
    ⟨(some 20), 0, none, (.op (.len false (.t 19)))⟩,
    ⟨(some 21), 0, none, (.call (.k (.fn (.func 36) [] [])) [(.t 18), (.t 20)])⟩,
    ⟨(some 22), 0, none, (.op (.un .not (.t 21)))⟩])
  (.cond (.t 22)
    (.seq (.reg 0 [⟨(some 6), 0, none, (.op (.mov (.k (.d .nils))))⟩,
      ⟨(some 7), 0, none, (.op (.mov (.k (.d (.int .i64 1)))))⟩])
    (.ret))
    (.skip)))
  (.seq (.reg 1 [⟨(some 23), 0, none, (.op (.mov (.t 0)))⟩,
    ⟨(some 24), 0, none, (.op (.len false (.t 23)))⟩,
    ⟨(some 25), 0, none, (.op (.mksl 1 24 [.nils] (.t 24) (.t 24)))⟩,
    ⟨(some 8), 1, none, (.op (.mov (.t 25)))⟩])
  (.seq (.seq (.reg 0 [⟨(some 26), 0, none, (.op (.mov (.t 0)))⟩,
    ⟨(some 27), 0, none, (.op (.len false (.t 26)))⟩,
    ⟨(some 28), 0, none, (.op (.mov (.k (.d (.int .i64 0)))))⟩])
  (.block 0
   (.loop
    (.seq (.reg 0 [⟨(some 29), 0, none, (.op (.bin .lss (.t 28) (.t 27)))⟩])
    (.seq (.cond (.t 29)
      (.skip)
      (.exit 0))
    (.seq (.block 1
     (.seq (.reg 0 [⟨(some 30), 0, none, (.op (.mov (.t 28)))⟩,
       ⟨(some 31), 0, none, (.op (.idxA 1 none (.t 26) (.t 28)))⟩,
       ⟨(some 32), 0, none, (.op (.load false 1 (.t 31)))⟩,
       ⟨(some 9), 0, none, (.op (.mov (.t 30)))⟩,
       ⟨(some 10), 0, none, (.op (.mov (.t 32)))⟩])
     (.reg 0 [⟨(some 33), 0, none, (.op (.mov (.t 8)))⟩,
       ⟨(some 34), 0, none, (.op (.mov (.t 9)))⟩,
       ⟨(some 35), 0, none, (.op (.mov (.t 10)))⟩,
       ⟨(some 36), 0, none, (.call (.k (.fn (.func 38) [] [])) [(.t 35)])⟩,
       ⟨(some 37), 0, none, (.call (.k (.fn (.func 37) [] [])) [(.t 36), (.k (.fn (.func 39) [] []))])⟩,
       ⟨(some 38), 0, none, (.op (.idxA 1 none (.t 33) (.t 34)))⟩,
       ⟨none, 0, none, (.op (.store 1 (.t 38) (.t 37)))⟩])))
    (.reg 0 [⟨(some 39), 0, none, (.op (.bin .add (.t 28) (.k (.d (.int .i64 1)))))⟩,
      ⟨(some 28), 0, none, (.op (.mov (.t 39)))⟩])))))))
  (.seq (.reg 0 [⟨(some 11), 0, none, (.op (.mov (.k (.d .nils))))⟩])
  (.block 2
   (.loop
    (.block 3
     (.seq (.reg 1 [⟨(some 40), 0, none, (.op (.mov (.t 1)))⟩,
       ⟨(some 41), 0, none, (.op (.len false (.t 40)))⟩,
       ⟨(some 42), 0, none, (.op (.mksl 1 8 [(.int .i64 0)] (.t 41) (.t 41)))⟩,
       ⟨(some 12), 1, none, (.op (.mov (.t 42)))⟩])
     (.seq (.seq (.reg 0 [⟨(some 43), 0, none, (.op (.mov (.t 8)))⟩,
       ⟨(some 44), 0, none, (.op (.len false (.t 43)))⟩,
       ⟨(some 45), 0, none, (.op (.mov (.k (.d (.int .i64 0)))))⟩])
     (.block 4
      (.loop
       (.seq (.reg 0 [⟨(some 46), 0, none, (.op (.bin .lss (.t 45) (.t 44)))⟩])
       (.seq (.cond (.t 46)
         (.skip)
         (.exit 4))
       (.seq (.block 5
        (.seq (.reg 0 [⟨(some 47), 0, none, (.op (.mov (.t 45)))⟩,
          ⟨(some 48), 0, none, (.op (.idxA 1 none (.t 43) (.t 45)))⟩,
          ⟨(some 49), 0, none, (.op (.load false 1 (.t 48)))⟩,
          ⟨(some 13), 0, none, (.op (.mov (.t 47)))⟩,
          ⟨(some 14), 0, none, (.op (.mov (.t 49)))⟩])
        (.seq (.reg 0 [⟨(some 50), 0, none, (.op (.mov (.t 14)))⟩,
          ⟨(some 51), 0, none, (.op (.len false (.t 50)))⟩,
          ⟨(some 52), 0, none, (.op (.bin .gtr (.t 51) (.k (.d (.int .i64 0)))))⟩])
        (.cond (.t 52)
          (.reg 0 [⟨(some 53), 0, none, (.op (.mov (.t 12)))⟩,
            ⟨(some 54), 0, none, (.op (.mov (.t 13)))⟩,
            ⟨(some 55), 0, none, (.op (.mov (.t 1)))⟩,
            ⟨(some 56), 0, none, (.op (.mov (.t 13)))⟩,
            ⟨(some 57), 0, none, (.op (.idxA 1 none (.t 55) (.t 56)))⟩,
            ⟨(some 58), 0, none, (.op (.load false 1 (.t 57)))⟩,
            ⟨(some 59), 0, none, (.op (.idxA 1 none (.t 53) (.t 54)))⟩,
            ⟨none, 0, none, (.op (.store 1 (.t 59) (.t 58)))⟩])
          (.skip)))))
       (.reg 0 [⟨(some 60), 0, none, (.op (.bin .add (.t 45) (.k (.d (.int .i64 1)))))⟩,
         ⟨(some 45), 0, none, (.op (.mov (.t 60)))⟩])))))))
     (.seq (.reg 1 [⟨(some 62), 0, none, (.op (.load true 2 (.t 5)))⟩,
       ⟨(some 63), 0, none, (.op (.mov (.t 12)))⟩,
       ⟨(some 64), 0, none, (.call (.k (.fn (.func 40) [] [])) [(.t 62), (.t 63)])⟩,
       ⟨(some 61), 0, none, (.op (.mov (.t 64)))⟩,
       ⟨(some 65), 0, none, (.op (.ext (.t 61) 0))⟩,
       ⟨(some 66), 0, none, (.op (.ext (.t 61) 1))⟩,
       ⟨(some 67), 0, none, (.op (.ext (.t 61) 2))⟩,
       ⟨(some 16), 0, none, (.op (.alloc [(.int .u64 0), (.int .u64 0)]))⟩,
       ⟨(some 15), 1, none, (.op (.mov (.t 65)))⟩,
       ⟨none, 1, none, (.op (.store 2 (.t 16) (.t 66)))⟩,
       ⟨(some 17), 1, none, (.op (.mov (.t 67)))⟩])
     (.seq (.seq (.reg 0 [⟨(some 68), 0, none, (.op (.mov (.t 17)))⟩,
       ⟨(some 69), 0, none, (.op (.bin .neq (.t 68) (.k (.d (.int .i64 0)))))⟩])
     (.cond (.t 69)
       (.seq (.reg 0 [⟨(some 70), 0, none, (.op (.mov (.t 11)))⟩,
         ⟨(some 6), 0, none, (.op (.mov (.t 70)))⟩,
         ⟨(some 7), 0, none, (.op (.mov (.k (.d (.int .i64 0)))))⟩])
       (.ret))
       (.skip)))
     (.seq (.reg 0 [⟨(some 71), 0, none, (.op (.load true 2 (.t 16)))⟩,
       ⟨none, 0, none, (.op (.store 2 (.t 5) (.t 71)))⟩])
     (.seq (.reg 2 [⟨(some 72), 0, none, (.op (.mov (.t 11)))⟩,
       ⟨(some 73), 0, none, (.op (.mov (.t 8)))⟩,
       ⟨(some 74), 0, none, (.op (.mov (.t 15)))⟩,
       ⟨(some 75), 0, none, (.op (.idxA 1 none (.t 73) (.t 74)))⟩,
       ⟨(some 76), 0, none, (.op (.load false 1 (.t 75)))⟩,
       ⟨(some 77), 0, none, (.op (.idxA 4 none (.t 76) (.k (.d (.int .i64 0)))))⟩,
       ⟨(some 78), 0, none, (.op (.load true 4 (.t 77)))⟩,
       ⟨(some 79), 0, none, (.call (.k (.fn (.func 34) [] [])) [(.t 78)])⟩,
       ⟨(some 80), 0, none, (.op (.buildSl 4 1 [(.bool false), .nils, .nils, (.str [])] [(0, (.t 79))]))⟩,
       ⟨(some 81), 1, none, (.op (.append 4 72 (.t 72) (.t 80)))⟩,
       ⟨(some 11), 2, none, (.op (.mov (.t 81)))⟩])
     (.reg 0 [⟨(some 82), 0, none, (.op (.mov (.t 8)))⟩,
       ⟨(some 83), 0, none, (.op (.mov (.t 15)))⟩,
       ⟨(some 84), 0, none, (.op (.mov (.t 8)))⟩,
       ⟨(some 85), 0, none, (.op (.mov (.t 15)))⟩,
       ⟨(some 86), 0, none, (.op (.idxA 1 none (.t 84) (.t 85)))⟩,
       ⟨(some 87), 0, none, (.op (.load false 1 (.t 86)))⟩,
       ⟨(some 88), 0, none, (.op (.slice 4 (.t 87) (some (.k (.d (.int .i64 1)))) none))⟩,
       ⟨(some 89), 0, none, (.op (.idxA 1 none (.t 82) (.t 83)))⟩,
       ⟨none, 0, none, (.op (.store 1 (.t 89) (.t 88)))⟩]))))))))))))))
theorem cc23 : Try.f23.body.bind (compC Try.prog) = some ac23 := by kernel_rfl
theorem go23 {vals : List V} {v : V} (ac : AC) (he : ac.erase = ac23) (hw : wpC Try.prog 0 ac (retQ [.tmp 6, .tmp 7] v) ⟨vals ++ List.replicate (90 - vals.length) (.tup []), []⟩) : CallP Try.prog 23 vals v :=
  call_of Try.func23 rfl rfl rfl (cc23.trans (congrArg some he.symm)) hw
theorem gi23 {vals : List V} {rows : Go.Vx.Rows} {K : V → Go.Vx.Rows → Prop} (ac : AC) (he : ac.erase = ac23) (hw : wpC Try.prog rows.length ac (retI [.tmp 6, .tmp 7] K) ⟨vals ++ List.replicate (90 - vals.length) (.tup []), rows⟩) : InlP Try.prog 23 vals rows K :=
  inl_of' Try.func23 rfl rfl rfl (cc23.trans (congrArg some he.symm)) hw
theorem gm23 {vals : List V} {v : V} {sz : Nat} {es es' : List (List V)} (ac : AC) (he : ac.erase = ac23) (hw : wpC Try.prog 1 ac (retM [.tmp 6, .tmp 7] v sz es') ⟨vals ++ List.replicate (90 - vals.length) (.tup []), [.live sz es]⟩) : CallM Try.prog 23 vals sz es v es' :=
  callM_of' Try.func23 rfl rfl rfl (cc23.trans (congrArg some he.symm)) hw

/-- testbench/testbenchref29.Lottery -/
def ac24 : AC :=
  .seq (.reg 1 [⟨(some 5), 0, none, (.op (.box 2 (.t 2)))⟩,
    ⟨(some 6), 1, none, (.op (.mov (.k (.d .nils))))⟩,
    ⟨(some 7), 1, none, (.op (.mov (.k (.d (.int .i64 0)))))⟩])
  (.seq (.seq (.reg 0 [⟨(some 18), 0, none, (.op (.mov (.t 1)))⟩,
    ⟨(some 19), 0, none, (.op (.len false (.t 18)))⟩,
    ⟨(some 20), 0, none, (.op (.mov (.t 0)))⟩,
    ⟨(some 21), 0, none, (.op (.len false (.t 20)))⟩,
    ⟨(some 22), 0, none, (.op (.bin .neq (.t 19) (.t 21)))⟩])
  (.cond (.t 22)
    (.seq (.reg 0 [⟨(some 6), 0, none, (.op (.mov (.k (.d .nils))))⟩,
      ⟨(some 7), 0, none, (.op (.mov (.k (.d (.int .i64 1)))))⟩])
    (.ret))
    (.skip)))
  (.seq (.reg 0 [⟨(some 8), 0, none, (.op (.mov (.k (.d .nils))))⟩])
  (.seq (.reg 0 [⟨(some 9), 0, none, (.op (.mov (.k (.d (.int .i64 0)))))⟩])
  (.seq (.seq (.reg 0 [⟨(some 10), 0, none, (.op (.mov (.k (.d (.int .i64 0)))))⟩])
  (.block 0
   (.loop
    (.seq (.seq (.reg 0 [⟨(some 23), 0, none, (.op (.mov (.t 10)))⟩,
      ⟨(some 24), 0, none, (.op (.mov (.t 0)))⟩,
      ⟨(some 25), 0, none, (.op (.len false (.t 24)))⟩,
      ⟨(some 26), 0, none, (.op (.bin .lss (.t 23) (.t 25)))⟩])
    (.cond (.t 26)
      (.skip)
      (.exit 0)))
    (.seq (.block 1
     (.seq (.seq (.reg 0 [⟨(some 29), 0, none, (.op (.mov (.t 1)))⟩,
       ⟨(some 30), 0, none, (.op (.mov (.t 10)))⟩,
       ⟨(some 31), 0, none, (.op (.idxA 1 none (.t 29) (.t 30)))⟩,
       ⟨(some 32), 0, none, (.op (.load false 1 (.t 31)))⟩,
       ⟨(some 33), 0, none, (.op (.bin .lss (.t 32) (.k (.d (.int .i64 1)))))⟩,
       ⟨(some 34), 0, none, (.op (.mov (.t 33)))⟩,
       ⟨(some 35), 0, (some (34, false)), (.op (.mov (.t 1)))⟩,
       ⟨(some 36), 0, (some (34, false)), (.op (.mov (.t 10)))⟩,
       ⟨(some 37), 0, (some (34, false)), (.op (.idxA 1 none (.t 35) (.t 36)))⟩,
       ⟨(some 38), 0, (some (34, false)), (.op (.load false 1 (.t 37)))⟩,
       ⟨(some 39), 0, (some (34, false)), (.op (.bin .gtr (.t 38) (.k (.d (.int .i64 1000)))))⟩,
       ⟨(some 40), 0, none, (.op (.pick (.t 34) (.k (.d (.bool true))) (.t 39)))⟩])
     (.cond (.t 40)
       (.seq (.reg 0 [⟨(some 6), 0, none, (.op (.mov (.k (.d .nils))))⟩,
         ⟨(some 7), 0, none, (.op (.mov (.k (.d (.int .i64 1)))))⟩])
       (.ret))
       (.skip)))
     (.seq (.reg 0 [⟨(some 41), 0, none, (.op (.mov (.t 0)))⟩,
       ⟨(some 42), 0, none, (.op (.mov (.t 10)))⟩,
       ⟨(some 43), 0, none, (.op (.idxA 1 none (.t 41) (.t 42)))⟩,
       ⟨(some 44), 0, none, (.op (.load false 1 (.t 43)))⟩,
       ⟨(some 45), 0, none, (.call (.k (.fn (.func 35) [] [])) [(.t 44)])⟩,
       ⟨(some 11), 0, none, (.op (.mov (.t 45)))⟩])
     (.seq (.reg 2 [⟨(some 46), 0, none, (.op (.mov (.t 8)))⟩,
       ⟨(some 47), 0, none, (.op (.mov (.t 11)))⟩,
       ⟨(some 48), 0, none, (.op (.buildSl 1 1 [.nils] [(0, (.t 47))]))⟩,
       ⟨(some 49), 1, none, (.op (.append 1 24 (.t 46) (.t 48)))⟩,
       ⟨(some 8), 2, none, (.op (.mov (.t 49)))⟩])
     (.reg 0 [⟨(some 50), 0, none, (.op (.mov (.t 9)))⟩,
       ⟨(some 51), 0, none, (.op (.mov (.t 11)))⟩,
       ⟨(some 52), 0, none, (.op (.len false (.t 51)))⟩,
       ⟨(some 53), 0, none, (.op (.bin .add (.t 50) (.t 52)))⟩,
       ⟨(some 9), 0, none, (.op (.mov (.t 53)))⟩])))))
    (.reg 0 [⟨(some 27), 0, none, (.op (.mov (.t 10)))⟩,
      ⟨(some 28), 0, none, (.op (.bin .add (.t 27) (.k (.d (.int .i64 1)))))⟩,
      ⟨(some 10), 0, none, (.op (.mov (.t 28)))⟩]))))))
  (.seq (.reg 0 [⟨(some 12), 0, none, (.op (.mov (.k (.d .nils))))⟩])
  (.seq (.block 2
   (.loop
    (.seq (.seq (.reg 0 [⟨(some 54), 0, none, (.op (.mov (.t 12)))⟩,
      ⟨(some 55), 0, none, (.op (.len false (.t 54)))⟩,
      ⟨(some 56), 0, none, (.op (.mov (.t 9)))⟩,
      ⟨(some 57), 0, none, (.op (.bin .lss (.t 55) (.t 56)))⟩])
    (.cond (.t 57)
      (.skip)
      (.exit 2)))
    (.block 3
     (.seq (.reg 0 [⟨(some 13), 0, none, (.op (.mov (.k (.d .nils))))⟩])
     (.seq (.seq (.reg 0 [⟨(some 14), 0, none, (.op (.mov (.k (.d (.int .i64 0)))))⟩])
     (.block 4
      (.loop
       (.seq (.seq (.reg 0 [⟨(some 58), 0, none, (.op (.mov (.t 14)))⟩,
         ⟨(some 59), 0, none, (.op (.mov (.t 8)))⟩,
         ⟨(some 60), 0, none, (.op (.len false (.t 59)))⟩,
         ⟨(some 61), 0, none, (.op (.bin .lss (.t 58) (.t 60)))⟩])
       (.cond (.t 61)
         (.skip)
         (.exit 4)))
       (.seq (.block 5
        (.seq (.reg 0 [⟨(some 64), 0, none, (.op (.mov (.t 8)))⟩,
          ⟨(some 65), 0, none, (.op (.mov (.t 14)))⟩,
          ⟨(some 66), 0, none, (.op (.idxA 1 none (.t 64) (.t 65)))⟩,
          ⟨(some 67), 0, none, (.op (.load false 1 (.t 66)))⟩,
          ⟨(some 68), 0, none, (.op (.len false (.t 67)))⟩,
          ⟨(some 69), 0, none, (.op (.bin .gtr (.t 68) (.k (.d (.int .i64 0)))))⟩])
        (.cond (.t 69)
          (.reg 2 [⟨(some 70), 0, none, (.op (.mov (.t 13)))⟩,
            ⟨(some 71), 0, none, (.op (.mov (.t 1)))⟩,
            ⟨(some 72), 0, none, (.op (.mov (.t 14)))⟩,
            ⟨(some 73), 0, none, (.op (.idxA 1 none (.t 71) (.t 72)))⟩,
            ⟨(some 74), 0, none, (.op (.load false 1 (.t 73)))⟩,
            ⟨(some 75), 0, none, (.op (.buildSl 1 1 [(.int .i64 0)] [(0, (.t 74))]))⟩,
            ⟨(some 76), 1, none, (.op (.append 1 8 (.t 70) (.t 75)))⟩,
            ⟨(some 13), 2, none, (.op (.mov (.t 76)))⟩])
          (.reg 2 [⟨(some 77), 0, none, (.op (.mov (.t 13)))⟩,
            ⟨(some 78), 0, none, (.op (.buildSl 1 1 [(.int .i64 0)] [(0, (.k (.d (.int .i64 0))))]))⟩,
            ⟨(some 79), 1, none, (.op (.append 1 8 (.t 77) (.t 78)))⟩,
            ⟨(some 13), 2, none, (.op (.mov (.t 79)))⟩]))))
       (.reg 0 [⟨(some 62), 0, none, (.op (.mov (.t 14)))⟩,
         ⟨(some 63), 0, none, (.op (.bin .add (.t 62) (.k (.d (.int .i64 1)))))⟩,
         ⟨(some 14), 0, none, (.op (.mov (.t 63)))⟩]))))))
     (.seq (.reg 1 [⟨(some 81), 0, none, (.op (.load true 2 (.t 5)))⟩,
       ⟨(some 82), 0, none, (.op (.mov (.t 13)))⟩,
       ⟨(some 83), 0, none, (.call (.k (.fn (.func 41) [] [])) [(.t 81), (.t 82)])⟩,
       ⟨(some 80), 0, none, (.op (.mov (.t 83)))⟩,
       ⟨(some 84), 0, none, (.op (.ext (.t 80) 0))⟩,
       ⟨(some 85), 0, none, (.op (.ext (.t 80) 1))⟩,
       ⟨(some 86), 0, none, (.op (.ext (.t 80) 2))⟩,
       ⟨(some 16), 0, none, (.op (.alloc [(.int .u64 0), (.int .u64 0)]))⟩,
       ⟨(some 15), 1, none, (.op (.mov (.t 84)))⟩,
       ⟨none, 1, none, (.op (.store 2 (.t 16) (.t 85)))⟩,
       ⟨(some 17), 1, none, (.op (.mov (.t 86)))⟩])
     (.seq (.seq (.reg 0 [⟨(some 87), 0, none, (.op (.mov (.t 17)))⟩,
       ⟨(some 88), 0, none, (.op (.bin .neq (.t 87) (.k (.d (.int .i64 0)))))⟩])
     (.cond (.t 88)
       (.seq (.reg 0 [⟨(some 89), 0, none, (.op (.mov (.t 17)))⟩,
         ⟨(some 6), 0, none, (.op (.mov (.k (.d .nils))))⟩,
         ⟨(some 7), 0, none, (.op (.mov (.t 89)))⟩])
       (.ret))
       (.skip)))
     (.seq (.reg 0 [⟨(some 90), 0, none, (.op (.load true 2 (.t 16)))⟩,
       ⟨none, 0, none, (.op (.store 2 (.t 5) (.t 90)))⟩])
     (.seq (.reg 2 [⟨(some 91), 0, none, (.op (.mov (.t 12)))⟩,
       ⟨(some 92), 0, none, (.op (.mov (.t 8)))⟩,
       ⟨(some 93), 0, none, (.op (.mov (.t 15)))⟩,
       ⟨(some 94), 0, none, (.op (.idxA 1 none (.t 92) (.t 93)))⟩,
       ⟨(some 95), 0, none, (.op (.load false 1 (.t 94)))⟩,
       ⟨(some 96), 0, none, (.op (.idxA 4 none (.t 95) (.k (.d (.int .i64 0)))))⟩,
       ⟨(some 97), 0, none, (.op (.load true 4 (.t 96)))⟩,
       ⟨(some 98), 0, none, (.op (.buildSl 4 1 [(.bool false), .nils, .nils, (.str [])] [(0, (.t 97))]))⟩,
       ⟨(some 99), 1, none, (.op (.append 4 72 (.t 91) (.t 98)))⟩,
       ⟨(some 12), 2, none, (.op (.mov (.t 99)))⟩])
     (.reg 0 [⟨(some 100), 0, none, (.op (.mov (.t 8)))⟩,
       ⟨(some 101), 0, none, (.op (.mov (.t 15)))⟩,
       ⟨(some 102), 0, none, (.op (.mov (.t 8)))⟩,
       ⟨(some 103), 0, none, (.op (.mov (.t 15)))⟩,
       ⟨(some 104), 0, none, (.op (.idxA 1 none (.t 102) (.t 103)))⟩,
       ⟨(some 105), 0, none, (.op (.load false 1 (.t 104)))⟩,
       ⟨(some 106), 0, none, (.op (.slice 4 (.t 105) (some (.k (.d (.int .i64 1)))) none))⟩,
       ⟨(some 107), 0, none, (.op (.idxA 1 none (.t 100) (.t 101)))⟩,
       ⟨none, 0, none, (.op (.store 1 (.t 107) (.t 106)))⟩])))))))))))
  (.seq (.reg 0 [⟨(some 108), 0, none, (.op (.mov (.t 12)))⟩,
    ⟨(some 6), 0, none, (.op (.mov (.t 108)))⟩,
    ⟨(some 7), 0, none, (.op (.mov (.k (.d (.int .i64 0)))))⟩])
  (.ret))))))))
theorem cc24 : Try.f24.body.bind (compC Try.prog) = some ac24 := by kernel_rfl
theorem go24 {vals : List V} {v : V} (ac : AC) (he : ac.erase = ac24) (hw : wpC Try.prog 0 ac (retQ [.tmp 6, .tmp 7] v) ⟨vals ++ List.replicate (109 - vals.length) (.tup []), []⟩) : CallP Try.prog 24 vals v :=
  call_of Try.func24 rfl rfl rfl (cc24.trans (congrArg some he.symm)) hw
theorem gi24 {vals : List V} {rows : Go.Vx.Rows} {K : V → Go.Vx.Rows → Prop} (ac : AC) (he : ac.erase = ac24) (hw : wpC Try.prog rows.length ac (retI [.tmp 6, .tmp 7] K) ⟨vals ++ List.replicate (109 - vals.length) (.tup []), rows⟩) : InlP Try.prog 24 vals rows K :=
  inl_of' Try.func24 rfl rfl rfl (cc24.trans (congrArg some he.symm)) hw
theorem gm24 {vals : List V} {v : V} {sz : Nat} {es es' : List (List V)} (ac : AC) (he : ac.erase = ac24) (hw : wpC Try.prog 1 ac (retM [.tmp 6, .tmp 7] v sz es') ⟨vals ++ List.replicate (109 - vals.length) (.tup []), [.live sz es]⟩) : CallM Try.prog 24 vals sz es v es' :=
  callM_of' Try.func24 rfl rfl rfl (cc24.trans (congrArg some he.symm)) hw

/-- testbench/testbenchlaw29.named -/
def ac25 : AC :=
  .seq (.reg 0 [⟨(some 2), 0, none, (.op (.mov (.k (.d .nils))))⟩,
    ⟨(some 3), 0, none, (.op (.mov (.k (.d .nils))))⟩])
  (.seq (.reg 0 [⟨(some 4), 0, none, (.op (.mov (.k (.d .nils))))⟩])
  (.seq (.reg 0 [⟨(some 5), 0, none, (.op (.mov (.k (.d .nils))))⟩])
  (.seq (.seq (.reg 0 [⟨(some 6), 0, none, (.op (.mov (.k (.d (.int .i64 0)))))⟩])
  (.block 0
   (.loop
    (.seq (.seq (.reg 0 [⟨(some 11), 0, none, (.op (.mov (.t 6)))⟩,
      ⟨(some 12), 0, none, (.op (.mov (.t 0)))⟩,
      ⟨(some 13), 0, none, (.op (.len false (.t 12)))⟩,
      ⟨(some 14), 0, none, (.op (.bin .lss (.t 11) (.t 13)))⟩])
    (.cond (.t 14)
      (.skip)
      (.exit 0)))
    (.seq (.block 1
     (.seq (.reg 0 [⟨(some 17), 0, none, (.op (.mov (.t 6)))⟩,
       ⟨(some 18), 0, none, (.op (.mov (.t 6)))⟩,
       ⟨(some 19), 0, none, (.op (.bin .add (.t 18) (.k (.d (.int .i64 1)))))⟩,
       ⟨(some 20), 0, none, (.op (.slice 0 (.k (.d (.str [97, 98, 99, 100, 101, 102, 103, 104]))) (some (.t 17)) (some (.t 19))))⟩,
       ⟨(some 7), 0, none, (.op (.mov (.t 20)))⟩])
     (.seq (.reg 0 [⟨(some 8), 0, none, (.op (.mov (.k (.d .nils))))⟩])
     (.seq (.seq (.reg 0 [⟨(some 9), 0, none, (.op (.mov (.k (.d (.int .i64 0)))))⟩])
     (.block 2
      (.loop
       (.seq (.seq (.reg 0 [⟨(some 21), 0, none, (.op (.mov (.t 9)))⟩,
         ⟨(some 22), 0, none, (.op (.mov (.t 0)))⟩,
         ⟨(some 23), 0, none, (.op (.mov (.t 6)))⟩,
         ⟨(some 24), 0, none, (.op (.idxA 1 none (.t 22) (.t 23)))⟩,
         ⟨(some 25), 0, none, (.op (.load false 1 (.t 24)))⟩,
         ⟨(some 26), 0, none, (.op (.len false (.t 25)))⟩,
         ⟨(some 27), 0, none, (.op (.bin .lss (.t 21) (.t 26)))⟩])
       (.cond (.t 27)
         (.skip)
         (.exit 2)))
       (.seq (.block 3
        (.seq (.reg 1 [⟨(some 30), 0, none, (.op (.mov (.t 0)))⟩,
          ⟨(some 31), 0, none, (.op (.mov (.t 6)))⟩,
          ⟨(some 32), 0, none, (.op (.idxA 1 none (.t 30) (.t 31)))⟩,
          ⟨(some 33), 0, none, (.op (.load false 1 (.t 32)))⟩,
          ⟨(some 34), 0, none, (.op (.mov (.t 9)))⟩,
          ⟨(some 35), 0, none, (.op (.idxA 4 none (.t 33) (.t 34)))⟩,
          ⟨(some 36), 0, none, (.op (.load true 4 (.t 35)))⟩,
          ⟨(some 10), 0, none, (.op (.alloc [(.bool false), .nils, .nils, (.str [])]))⟩,
          ⟨none, 1, none, (.op (.store 4 (.t 10) (.t 36)))⟩])
        (.seq (.reg 0 [⟨(some 37), 0, none, (.op (.mov (.t 7)))⟩,
          ⟨(some 38), 0, none, (.op (.fldA 3 (.t 10)))⟩,
          ⟨none, 0, none, (.op (.store 1 (.t 38) (.t 37)))⟩])
        (.reg 2 [⟨(some 39), 0, none, (.op (.mov (.t 8)))⟩,
          ⟨(some 40), 0, none, (.op (.load true 4 (.t 10)))⟩,
          ⟨(some 41), 0, none, (.op (.buildSl 4 1 [(.bool false), .nils, .nils, (.str [])] [(0, (.t 40))]))⟩,
          ⟨(some 42), 1, none, (.op (.append 4 72 (.t 39) (.t 41)))⟩,
          ⟨(some 8), 2, none, (.op (.mov (.t 42)))⟩]))))
       (.reg 0 [⟨(some 28), 0, none, (.op (.mov (.t 9)))⟩,
         ⟨(some 29), 0, none, (.op (.bin .add (.t 28) (.k (.d (.int .i64 1)))))⟩,
         ⟨(some 9), 0, none, (.op (.mov (.t 29)))⟩]))))))
     (.seq (.reg 2 [⟨(some 43), 0, none, (.op (.mov (.t 4)))⟩,
       ⟨(some 44), 0, none, (.op (.mov (.t 8)))⟩,
       ⟨(some 45), 0, none, (.op (.buildSl 1 1 [.nils] [(0, (.t 44))]))⟩,
       ⟨(some 46), 1, none, (.op (.append 1 24 (.t 43) (.t 45)))⟩,
       ⟨(some 4), 2, none, (.op (.mov (.t 46)))⟩])
     (.reg 2 [⟨(some 47), 0, none, (.op (.mov (.t 5)))⟩,
       ⟨(some 48), 0, none, (.op (.mov (.t 7)))⟩,
       ⟨(some 49), 0, none, (.op (.buildSl 1 1 [(.str [])] [(0, (.t 48))]))⟩,
       ⟨(some 50), 1, none, (.op (.append 1 16 (.t 47) (.t 49)))⟩,
       ⟨(some 5), 2, none, (.op (.mov (.t 50)))⟩]))))))
    (.reg 0 [⟨(some 15), 0, none, (.op (.mov (.t 6)))⟩,
      ⟨(some 16), 0, none, (.op (.bin .add (.t 15) (.k (.d (.int .i64 1)))))⟩,
      ⟨(some 6), 0, none, (.op (.mov (.t 16)))⟩]))))))
  (.seq (.reg 0 [⟨(some 51), 0, none, (.op (.mov (.t 4)))⟩,
    ⟨(some 52), 0, none, (.op (.mov (.t 5)))⟩,
    ⟨(some 2), 0, none, (.op (.mov (.t 51)))⟩,
    ⟨(some 3), 0, none, (.op (.mov (.t 52)))⟩])
  (.ret)))))
theorem cc25 : Try.f25.body.bind (compC Try.prog) = some ac25 := by kernel_rfl
theorem go25 {vals : List V} {v : V} (ac : AC) (he : ac.erase = ac25) (hw : wpC Try.prog 0 ac (retQ [.tmp 2, .tmp 3] v) ⟨vals ++ List.replicate (53 - vals.length) (.tup []), []⟩) : CallP Try.prog 25 vals v :=
  call_of Try.func25 rfl rfl rfl (cc25.trans (congrArg some he.symm)) hw
theorem gi25 {vals : List V} {rows : Go.Vx.Rows} {K : V → Go.Vx.Rows → Prop} (ac : AC) (he : ac.erase = ac25) (hw : wpC Try.prog rows.length ac (retI [.tmp 2, .tmp 3] K) ⟨vals ++ List.replicate (53 - vals.length) (.tup []), rows⟩) : InlP Try.prog 25 vals rows K :=
  inl_of' Try.func25 rfl rfl rfl (cc25.trans (congrArg some he.symm)) hw
theorem gm25 {vals : List V} {v : V} {sz : Nat} {es es' : List (List V)} (ac : AC) (he : ac.erase = ac25) (hw : wpC Try.prog 1 ac (retM [.tmp 2, .tmp 3] v sz es') ⟨vals ++ List.replicate (53 - vals.length) (.tup []), [.live sz es]⟩) : CallM Try.prog 25 vals sz es v es' :=
  callM_of' Try.func25 rfl rfl rfl (cc25.trans (congrArg some he.symm)) hw

/-- testbench/testbenchlaw29.busy -/
def ac26 : AC :=
  .seq (.reg 1 [⟨(some 2), 0, none, (.op (.alloc [(.bool false), .nils, .nils, (.str [])]))⟩])
  (.seq (.reg 0 [⟨(some 3), 0, none, (.op (.mov (.t 0)))⟩,
    ⟨(some 4), 0, none, (.op (.build [(.bool false), .nils, .nils, (.str [])] [(3, 1, (.t 3))]))⟩,
    ⟨none, 0, none, (.op (.store 4 (.t 2) (.t 4)))⟩])
  (.ret))
theorem cc26 : Try.f26.body.bind (compC Try.prog) = some ac26 := by kernel_rfl
theorem go26 {vals : List V} {v : V} (ac : AC) (he : ac.erase = ac26) (hw : wpC Try.prog 0 ac (retQ [.cell 2 true 4] v) ⟨vals ++ List.replicate (5 - vals.length) (.tup []), []⟩) : CallP Try.prog 26 vals v :=
  call_of Try.func26 rfl rfl rfl (cc26.trans (congrArg some he.symm)) hw
theorem gi26 {vals : List V} {rows : Go.Vx.Rows} {K : V → Go.Vx.Rows → Prop} (ac : AC) (he : ac.erase = ac26) (hw : wpC Try.prog rows.length ac (retI [.cell 2 true 4] K) ⟨vals ++ List.replicate (5 - vals.length) (.tup []), rows⟩) : InlP Try.prog 26 vals rows K :=
  inl_of' Try.func26 rfl rfl rfl (cc26.trans (congrArg some he.symm)) hw
theorem gm26 {vals : List V} {v : V} {sz : Nat} {es es' : List (List V)} (ac : AC) (he : ac.erase = ac26) (hw : wpC Try.prog 1 ac (retM [.cell 2 true 4] v sz es') ⟨vals ++ List.replicate (5 - vals.length) (.tup []), [.live sz es]⟩) : CallM Try.prog 26 vals sz es v es' :=
  callM_of' Try.func26 rfl rfl rfl (cc26.trans (congrArg some he.symm)) hw

/-- testbench/arbiter.lanes -/
def ac27 : AC :=
  .seq (.reg 0 [⟨(some 2), 0, none, (.op (.mov (.k (.d .nils))))⟩])
  (.seq (.reg 1 [⟨(some 6), 0, none, (.op (.mov (.t 0)))⟩,
    ⟨(some 7), 0, none, (.op (.len false (.t 6)))⟩,
    ⟨(some 8), 0, none, (.op (.mksl 1 8 [.nilp] (.t 7) (.t 7)))⟩,
    ⟨(some 3), 1, none, (.op (.mov (.t 8)))⟩])
  (.seq (.seq (.reg 0 [⟨(some 9), 0, none, (.op (.mov (.t 0)))⟩,
    ⟨(some 10), 0, none, (.op (.len false (.t 9)))⟩,
    ⟨(some 11), 0, none, (.op (.mov (.k (.d (.int .i64 0)))))⟩])
  (.block 0
   (.loop
    (.seq (.reg 0 [⟨(some 12), 0, none, (.op (.bin .lss (.t 11) (.t 10)))⟩])
    (.seq (.cond (.t 12)
      (.skip)
      (.exit 0))
    (.seq (.block 1
     (.seq (.reg 0 [⟨(some 13), 0, none, (.op (.mov (.t 11)))⟩,
       ⟨(some 14), 0, none, (.op (.idxA 1 none (.t 9) (.t 11)))⟩,
       ⟨(some 15), 0, none, (.op (.load false 1 (.t 14)))⟩,
       ⟨(some 4), 0, none, (.op (.mov (.t 13)))⟩,
       ⟨(some 5), 0, none, (.op (.mov (.t 15)))⟩])
     (.reg 1 [⟨(some 16), 0, none, (.op (.mov (.t 3)))⟩,
       ⟨(some 17), 0, none, (.op (.mov (.t 4)))⟩,
       ⟨(some 18), 0, none, (.op (.mov (.t 5)))⟩,
       ⟨(some 19), 0, none, (.op (.build [.nils, (.int .i64 0)] [(0, 1, (.t 18))]))⟩,
       ⟨(some 20), 0, none, (.op (.box 2 (.t 19)))⟩,
       ⟨(some 21), 1, none, (.op (.idxA 1 none (.t 16) (.t 17)))⟩,
       ⟨none, 1, none, (.op (.store 1 (.t 21) (.t 20)))⟩])))
    (.reg 0 [⟨(some 22), 0, none, (.op (.bin .add (.t 11) (.k (.d (.int .i64 1)))))⟩,
      ⟨(some 11), 0, none, (.op (.mov (.t 22)))⟩])))))))
  (.seq (.reg 0 [⟨(some 23), 0, none, (.op (.mov (.t 3)))⟩,
    ⟨(some 2), 0, none, (.op (.mov (.t 23)))⟩])
  (.ret))))
theorem cc27 : Try.f27.body.bind (compC Try.prog) = some ac27 := by kernel_rfl
theorem go27 {vals : List V} {v : V} (ac : AC) (he : ac.erase = ac27) (hw : wpC Try.prog 0 ac (retQ [.tmp 2] v) ⟨vals ++ List.replicate (24 - vals.length) (.tup []), []⟩) : CallP Try.prog 27 vals v :=
  call_of Try.func27 rfl rfl rfl (cc27.trans (congrArg some he.symm)) hw
theorem gi27 {vals : List V} {rows : Go.Vx.Rows} {K : V → Go.Vx.Rows → Prop} (ac : AC) (he : ac.erase = ac27) (hw : wpC Try.prog rows.length ac (retI [.tmp 2] K) ⟨vals ++ List.replicate (24 - vals.length) (.tup []), rows⟩) : InlP Try.prog 27 vals rows K :=
  inl_of' Try.func27 rfl rfl rfl (cc27.trans (congrArg some he.symm)) hw
theorem gm27 {vals : List V} {v : V} {sz : Nat} {es es' : List (List V)} (ac : AC) (he : ac.erase = ac27) (hw : wpC Try.prog 1 ac (retM [.tmp 2] v sz es') ⟨vals ++ List.replicate (24 - vals.length) (.tup []), [.live sz es]⟩) : CallM Try.prog 27 vals sz es v es' :=
  callM_of' Try.func27 rfl rfl rfl (cc27.trans (congrArg some he.symm)) hw

/-- testbench/arbiter.longest -/
def ac28 : AC :=
  .seq (.reg 0 [⟨(some 2), 0, none, (.op (.mov (.k (.d (.int .i64 0)))))⟩])
  (.seq (.reg 0 [⟨(some 3), 0, none, (.op (.mov (.k (.d (.int .i64 0)))))⟩])
  (.seq (.seq (.reg 0 [⟨(some 6), 0, none, (.op (.mov (.t 0)))⟩,
    ⟨(some 7), 0, none, (.op (.len false (.t 6)))⟩,
    ⟨(some 8), 0, none, (.op (.mov (.k (.d (.int .i64 0)))))⟩])
  (.block 0
   (.loop
    (.seq (.reg 0 [⟨(some 9), 0, none, (.op (.bin .lss (.t 8) (.t 7)))⟩])
    (.seq (.cond (.t 9)
      (.skip)
      (.exit 0))
    (.seq (.block 1
     (.seq (.reg 0 [⟨(some 10), 0, none, (.op (.idxA 1 none (.t 6) (.t 8)))⟩,
       ⟨(some 11), 0, none, (.op (.load false 1 (.t 10)))⟩,
       ⟨(some 5), 0, none, (.op (.mov (.t 11)))⟩])
     (.reg 0 [⟨(some 12), 0, none, (.op (.mov (.t 3)))⟩,
       ⟨(some 13), 0, none, (.op (.mov (.t 5)))⟩,
       ⟨(some 14), 0, none, (.op (.len false (.t 13)))⟩,
       ⟨(some 15), 0, none, (.op (.mx (.t 12) (.t 14)))⟩,
       ⟨(some 3), 0, none, (.op (.mov (.t 15)))⟩])))
    (.reg 0 [⟨(some 16), 0, none, (.op (.bin .add (.t 8) (.k (.d (.int .i64 1)))))⟩,
      ⟨(some 8), 0, none, (.op (.mov (.t 16)))⟩])))))))
  (.seq (.reg 0 [⟨(some 17), 0, none, (.op (.mov (.t 3)))⟩,
    ⟨(some 2), 0, none, (.op (.mov (.t 17)))⟩])
  (.ret))))
theorem cc28 : Try.f28.body.bind (compC Try.prog) = some ac28 := by kernel_rfl
theorem go28 {vals : List V} {v : V} (ac : AC) (he : ac.erase = ac28) (hw : wpC Try.prog 0 ac (retQ [.tmp 2] v) ⟨vals ++ List.replicate (18 - vals.length) (.tup []), []⟩) : CallP Try.prog 28 vals v :=
  call_of Try.func28 rfl rfl rfl (cc28.trans (congrArg some he.symm)) hw
theorem gi28 {vals : List V} {rows : Go.Vx.Rows} {K : V → Go.Vx.Rows → Prop} (ac : AC) (he : ac.erase = ac28) (hw : wpC Try.prog rows.length ac (retI [.tmp 2] K) ⟨vals ++ List.replicate (18 - vals.length) (.tup []), rows⟩) : InlP Try.prog 28 vals rows K :=
  inl_of' Try.func28 rfl rfl rfl (cc28.trans (congrArg some he.symm)) hw
theorem gm28 {vals : List V} {v : V} {sz : Nat} {es es' : List (List V)} (ac : AC) (he : ac.erase = ac28) (hw : wpC Try.prog 1 ac (retM [.tmp 2] v sz es') ⟨vals ++ List.replicate (18 - vals.length) (.tup []), [.live sz es]⟩) : CallM Try.prog 28 vals sz es v es' :=
  callM_of' Try.func28 rfl rfl rfl (cc28.trans (congrArg some he.symm)) hw

/-- (*testbench/arbiter.lane).finished -/
def ac29 : AC :=
  .seq (.reg 0 [⟨(some 2), 0, none, (.op (.mov (.k (.d (.bool false)))))⟩])
  (.seq (.regD 0 [(⟨(some 3), 0, none, (.op (.mov (.t 0)))⟩, []),
    (⟨(some 4), 0, none, (.op (.nilck (.t 3)))⟩, [0]),
    (⟨(some 5), 0, none, (.op (.fldA 1 (.t 4)))⟩, [1, 0]),
    (⟨(some 6), 0, none, (.op (.load false 1 (.t 5)))⟩, [2, 1, 0]),
    (⟨(some 7), 0, none, (.op (.mov (.t 0)))⟩, []),
    (⟨(some 8), 0, none, (.op (.nilck (.t 7)))⟩, [4]),
    (⟨(some 9), 0, none, (.op (.fldA 0 (.t 8)))⟩, [5, 4]),
    (⟨(some 10), 0, none, (.op (.load false 1 (.t 9)))⟩, [6, 5, 4]),
    (⟨(some 11), 0, none, (.op (.len false (.t 10)))⟩, [7, 6, 5, 4]),
    (⟨(some 12), 0, none, (.op (.bin .geq (.t 6) (.t 11)))⟩, [3, 2, 1, 0, 8, 7, 6, 5, 4]),
    (⟨(some 2), 0, none, (.op (.mov (.t 12)))⟩, [9, 3, 2, 1, 0, 8, 7, 6, 5, 4])])
  (.ret))
theorem cc29 : Try.f29.body.bind (compC Try.prog) = some ac29 := by kernel_rfl
theorem go29 {vals : List V} {v : V} (ac : AC) (he : ac.erase = ac29) (hw : wpC Try.prog 0 ac (retQ [.tmp 2] v) ⟨vals ++ List.replicate (13 - vals.length) (.tup []), []⟩) : CallP Try.prog 29 vals v :=
  call_of Try.func29 rfl rfl rfl (cc29.trans (congrArg some he.symm)) hw
theorem gi29 {vals : List V} {rows : Go.Vx.Rows} {K : V → Go.Vx.Rows → Prop} (ac : AC) (he : ac.erase = ac29) (hw : wpC Try.prog rows.length ac (retI [.tmp 2] K) ⟨vals ++ List.replicate (13 - vals.length) (.tup []), rows⟩) : InlP Try.prog 29 vals rows K :=
  inl_of' Try.func29 rfl rfl rfl (cc29.trans (congrArg some he.symm)) hw
theorem gm29 {vals : List V} {v : V} {sz : Nat} {es es' : List (List V)} (ac : AC) (he : ac.erase = ac29) (hw : wpC Try.prog 1 ac (retM [.tmp 2] v sz es') ⟨vals ++ List.replicate (13 - vals.length) (.tup []), [.live sz es]⟩) : CallM Try.prog 29 vals sz es v es' :=
  callM_of' Try.func29 rfl rfl rfl (cc29.trans (congrArg some he.symm)) hw

/-- (*testbench/arbiter.lane).take -/
def ac30 : AC :=
  .seq (.reg 1 [⟨(some 2), 0, none, (.op (.alloc [(.bool false), .nils, .nils, (.str [])]))⟩])
  (.seq (.regD 1 [(⟨(some 4), 0, none, (.op (.mov (.t 0)))⟩, []),
    (⟨(some 5), 0, none, (.op (.nilck (.t 4)))⟩, [0]),
    (⟨(some 6), 0, none, (.op (.fldA 0 (.t 5)))⟩, [1, 0]),
    (⟨(some 7), 0, none, (.op (.load false 1 (.t 6)))⟩, [2, 1, 0]),
    (⟨(some 8), 0, none, (.op (.mov (.t 0)))⟩, []),
    (⟨(some 9), 0, none, (.op (.nilck (.t 8)))⟩, [4]),
    (⟨(some 10), 0, none, (.op (.fldA 1 (.t 9)))⟩, [5, 4]),
    (⟨(some 11), 0, none, (.op (.load false 1 (.t 10)))⟩, [6, 5, 4]),
    (⟨(some 12), 0, none, (.op (.idxA 4 none (.t 7) (.t 11)))⟩, [3, 2, 1, 0, 7, 6, 5, 4]),
    (⟨(some 13), 0, none, (.op (.load true 4 (.t 12)))⟩, [8, 3, 2, 1, 0, 7, 6, 5, 4]),
    (⟨(some 3), 0, none, (.op (.alloc [(.bool false), .nils, .nils, (.str [])]))⟩, []),
    (⟨none, 1, none, (.op (.store 4 (.t 3) (.t 13)))⟩, [10, 9, 8, 3, 2, 1, 0, 7, 6, 5, 4])])
  (.seq (.reg 0 [⟨(some 14), 0, none, (.op (.mov (.t 0)))⟩,
    ⟨(some 15), 0, none, (.op (.nilck (.t 14)))⟩,
    ⟨(some 16), 0, none, (.op (.fldA 1 (.t 15)))⟩,
    ⟨(some 17), 0, none, (.op (.load false 1 (.t 16)))⟩,
    ⟨(some 18), 0, none, (.op (.bin .add (.t 17) (.k (.d (.int .i64 1)))))⟩,
    ⟨(some 19), 0, none, (.op (.nilck (.t 14)))⟩,
    ⟨(some 20), 0, none, (.op (.fldA 1 (.t 19)))⟩,
    ⟨none, 0, none, (.op (.store 1 (.t 20) (.t 18)))⟩])
  (.seq (.reg 0 [⟨(some 21), 0, none, (.op (.load true 4 (.t 3)))⟩,
    ⟨(some 22), 0, none, (.call (.k (.fn (.func 34) [] [])) [(.t 21)])⟩,
    ⟨none, 0, none, (.op (.store 4 (.t 2) (.t 22)))⟩])
  (.ret))))
theorem cc30 : Try.f30.body.bind (compC Try.prog) = some ac30 := by kernel_rfl
theorem go30 {vals : List V} {v : V} (ac : AC) (he : ac.erase = ac30) (hw : wpC Try.prog 0 ac (retQ [.cell 2 true 4] v) ⟨vals ++ List.replicate (23 - vals.length) (.tup []), []⟩) : CallP Try.prog 30 vals v :=
  call_of Try.func30 rfl rfl rfl (cc30.trans (congrArg some he.symm)) hw
theorem gi30 {vals : List V} {rows : Go.Vx.Rows} {K : V → Go.Vx.Rows → Prop} (ac : AC) (he : ac.erase = ac30) (hw : wpC Try.prog rows.length ac (retI [.cell 2 true 4] K) ⟨vals ++ List.replicate (23 - vals.length) (.tup []), rows⟩) : InlP Try.prog 30 vals rows K :=
  inl_of' Try.func30 rfl rfl rfl (cc30.trans (congrArg some he.symm)) hw
theorem gm30 {vals : List V} {v : V} {sz : Nat} {es es' : List (List V)} (ac : AC) (he : ac.erase = ac30) (hw : wpC Try.prog 1 ac (retM [.cell 2 true 4] v sz es') ⟨vals ++ List.replicate (23 - vals.length) (.tup []), [.live sz es]⟩) : CallM Try.prog 30 vals sz es v es' :=
  callM_of' Try.func30 rfl rfl rfl (cc30.trans (congrArg some he.symm)) hw

/-- testbench/testbenchlaw29.same -/
def ac31 : AC :=
  .seq (.reg 2 [⟨(some 2), 0, none, (.op (.box 4 (.t 0)))⟩,
    ⟨(some 3), 1, none, (.op (.box 4 (.t 1)))⟩,
    ⟨(some 4), 2, none, (.op (.mov (.k (.d (.bool false)))))⟩])
  (.seq (.reg 0 [⟨(some 5), 0, none, (.op (.fldA 0 (.t 2)))⟩,
    ⟨(some 6), 0, none, (.op (.load false 1 (.t 5)))⟩,
    ⟨(some 7), 0, none, (.op (.fldA 0 (.t 3)))⟩,
    ⟨(some 8), 0, none, (.op (.load false 1 (.t 7)))⟩,
    ⟨(some 9), 0, none, (.op (.eqB false (.t 6) (.t 8)))⟩,
    ⟨(some 10), 0, none, (.op (.mov (.t 9)))⟩,
    ⟨(some 11), 0, (some (10, true)), (.op (.fldA 3 (.t 2)))⟩,
    ⟨(some 12), 0, (some (10, true)), (.op (.load false 1 (.t 11)))⟩,
    ⟨(some 13), 0, (some (10, true)), (.op (.fldA 3 (.t 3)))⟩,
    ⟨(some 14), 0, (some (10, true)), (.op (.load false 1 (.t 13)))⟩,
    ⟨(some 15), 0, (some (10, true)), (.op (.bin .eql (.t 12) (.t 14)))⟩,
    ⟨(some 16), 0, none, (.op (.pick (.t 10) (.t 15) (.k (.d (.bool false)))))⟩,
    ⟨(some 17), 0, none, (.op (.mov (.t 16)))⟩,
    ⟨(some 18), 0, (some (17, true)), (.op (.fldA 1 (.t 2)))⟩,
    ⟨(some 19), 0, (some (17, true)), (.op (.load true 2 (.t 18)))⟩,
    ⟨(some 20), 0, (some (17, true)), (.op (.fldA 1 (.t 3)))⟩,
    ⟨(some 21), 0, (some (17, true)), (.op (.load true 2 (.t 20)))⟩,
    ⟨(some 22), 0, (some (17, true)), (.call (.k (.fn (.func 42) [] [])) [(.t 19), (.t 21)])⟩,
    ⟨(some 23), 0, none, (.op (.pick (.t 17) (.t 22) (.k (.d (.bool false)))))⟩,
    ⟨(some 4), 0, none, (.op (.mov (.t 23)))⟩])
  (.ret))
theorem cc31 : Try.f31.body.bind (compC Try.prog) = some ac31 := by kernel_rfl
theorem go31 {vals : List V} {v : V} (ac : AC) (he : ac.erase = ac31) (hw : wpC Try.prog 0 ac (retQ [.tmp 4] v) ⟨vals ++ List.replicate (24 - vals.length) (.tup []), []⟩) : CallP Try.prog 31 vals v :=
  call_of Try.func31 rfl rfl rfl (cc31.trans (congrArg some he.symm)) hw
theorem gi31 {vals : List V} {rows : Go.Vx.Rows} {K : V → Go.Vx.Rows → Prop} (ac : AC) (he : ac.erase = ac31) (hw : wpC Try.prog rows.length ac (retI [.tmp 4] K) ⟨vals ++ List.replicate (24 - vals.length) (.tup []), rows⟩) : InlP Try.prog 31 vals rows K :=
  inl_of' Try.func31 rfl rfl rfl (cc31.trans (congrArg some he.symm)) hw
theorem gm31 {vals : List V} {v : V} {sz : Nat} {es es' : List (List V)} (ac : AC) (he : ac.erase = ac31) (hw : wpC Try.prog 1 ac (retM [.tmp 4] v sz es') ⟨vals ++ List.replicate (24 - vals.length) (.tup []), [.live sz es]⟩) : CallM Try.prog 31 vals sz es v es' :=
  callM_of' Try.func31 rfl rfl rfl (cc31.trans (congrArg some he.symm)) hw

/-- slices.IndexFunc[[]*testbench/arbiter.lane,*testbench/arbiter.lane] -/
def ac32 : AC :=
  .seq (.reg 0 [⟨(some 4), 0, none, (.op (.mov (.k (.d (.int .i64 0)))))⟩])
  (.seq (.seq (.reg 0 [⟨(some 6), 0, none, (.op (.mov (.t 0)))⟩,
    ⟨(some 7), 0, none, (.op (.len false (.t 6)))⟩,
    ⟨(some 8), 0, none, (.op (.mov (.k (.d (.int .i64 0)))))⟩])
  (.block 0
   (.loop
    (.seq (.reg 0 [⟨(some 9), 0, none, (.op (.bin .lss (.t 8) (.t 7)))⟩])
    (.seq (.cond (.t 9)
      (.skip)
      (.exit 0))
    (.seq (.block 1
     (.seq (.reg 0 [⟨(some 10), 0, none, (.op (.mov (.t 8)))⟩,
       ⟨(some 5), 0, none, (.op (.mov (.t 10)))⟩])
     (.seq (.reg 0 [⟨(some 11), 0, none, (.op (.mov (.t 1)))⟩,
       ⟨(some 12), 0, none, (.op (.mov (.t 0)))⟩,
       ⟨(some 13), 0, none, (.op (.mov (.t 5)))⟩,
       ⟨(some 14), 0, none, (.op (.idxA 1 none (.t 12) (.t 13)))⟩,
       ⟨(some 15), 0, none, (.op (.load false 1 (.t 14)))⟩,
       ⟨(some 16), 0, none, (.call (.t 11) [(.t 15)])⟩])
     (.cond (.t 16)
       (.seq (.reg 0 [⟨(some 17), 0, none, (.op (.mov (.t 5)))⟩,
         ⟨(some 4), 0, none, (.op (.mov (.t 17)))⟩])
       (.ret))
       (.skip)))))
    (.reg 0 [⟨(some 18), 0, none, (.op (.bin .add (.t 8) (.k (.d (.int .i64 1)))))⟩,
      ⟨(some 8), 0, none, (.op (.mov (.t 18)))⟩])))))))
  (.seq (.reg 0 [⟨(some 4), 0, none, (.op (.mov (.k (.d (.int .i64 (-1))))))⟩])
  (.ret)))
theorem cc32 : Try.f32.body.bind (compC Try.prog) = some ac32 := by kernel_rfl
theorem go32 {vals : List V} {v : V} (ac : AC) (he : ac.erase = ac32) (hw : wpC Try.prog 0 ac (retQ [.tmp 4] v) ⟨vals ++ List.replicate (19 - vals.length) (.tup []), []⟩) : CallP Try.prog 32 vals v :=
  call_of Try.func32 rfl rfl rfl (cc32.trans (congrArg some he.symm)) hw
theorem gi32 {vals : List V} {rows : Go.Vx.Rows} {K : V → Go.Vx.Rows → Prop} (ac : AC) (he : ac.erase = ac32) (hw : wpC Try.prog rows.length ac (retI [.tmp 4] K) ⟨vals ++ List.replicate (19 - vals.length) (.tup []), rows⟩) : InlP Try.prog 32 vals rows K :=
  inl_of' Try.func32 rfl rfl rfl (cc32.trans (congrArg some he.symm)) hw
theorem gm32 {vals : List V} {v : V} {sz : Nat} {es es' : List (List V)} (ac : AC) (he : ac.erase = ac32) (hw : wpC Try.prog 1 ac (retM [.tmp 4] v sz es') ⟨vals ++ List.replicate (19 - vals.length) (.tup []), [.live sz es]⟩) : CallM Try.prog 32 vals sz es v es' :=
  callM_of' Try.func32 rfl rfl rfl (cc32.trans (congrArg some he.symm)) hw

/-- (*testbench/arbiter.lane).busy -/
def ac33 : AC :=
  .seq (.reg 0 [⟨(some 2), 0, none, (.op (.mov (.k (.d (.bool false)))))⟩])
  (.seq (.regD 0 [(⟨(some 3), 0, none, (.op (.mov (.t 0)))⟩, []),
    (⟨(some 4), 0, none, (.call (.k (.fn (.func 29) [] [])) [(.t 3)])⟩, [0]),
    (⟨(some 5), 0, none, (.op (.un .not (.t 4)))⟩, [1, 0]),
    (⟨(some 6), 0, none, (.op (.mov (.t 5)))⟩, [2, 1, 0]),
    (⟨(some 7), 0, (some (6, true)), (.op (.mov (.t 0)))⟩, [3, 2, 1, 0]),
    (⟨(some 8), 0, (some (6, true)), (.op (.nilck (.t 7)))⟩, [4, 3, 2, 1, 0]),
    (⟨(some 9), 0, (some (6, true)), (.op (.fldA 0 (.t 8)))⟩, [5, 4, 3, 2, 1, 0]),
    (⟨(some 10), 0, (some (6, true)), (.op (.load false 1 (.t 9)))⟩, [6, 5, 4, 3, 2, 1, 0]),
    (⟨(some 11), 0, (some (6, true)), (.op (.mov (.t 0)))⟩, [3, 2, 1, 0]),
    (⟨(some 12), 0, (some (6, true)), (.op (.nilck (.t 11)))⟩, [8, 3, 2, 1, 0]),
    (⟨(some 13), 0, (some (6, true)), (.op (.fldA 1 (.t 12)))⟩, [9, 8, 3, 2, 1, 0]),
    (⟨(some 14), 0, (some (6, true)), (.op (.load false 1 (.t 13)))⟩, [10, 9, 8, 3, 2, 1, 0]),
    (⟨(some 15), 0, (some (6, true)), (.op (.idxA 4 none (.t 10) (.t 14)))⟩, [7, 6, 5, 4, 3, 2, 1, 0, 11, 10, 9, 8]),
    (⟨(some 16), 0, (some (6, true)), (.op (.fldA 0 (.t 15)))⟩, [12, 7, 6, 5, 4, 3, 2, 1, 0, 11, 10, 9, 8]),
    (⟨(some 17), 0, (some (6, true)), (.op (.load false 1 (.t 16)))⟩, [13, 12, 7, 6, 5, 4, 3, 2, 1, 0, 11, 10, 9, 8]),
    (⟨(some 18), 0, (some (6, true)), (.op (.un .not (.t 17)))⟩, [14, 13, 12, 7, 6, 5, 4, 3, 2, 1, 0, 11, 10, 9, 8]),
    (⟨(some 19), 0, none, (.op (.pick (.t 6) (.t 18) (.k (.d (.bool false)))))⟩, [3, 2, 1, 0, 15, 14, 13, 12, 7, 6, 5, 4, 11, 10, 9, 8]),
    (⟨(some 2), 0, none, (.op (.mov (.t 19)))⟩, [16, 3, 2, 1, 0, 15, 14, 13, 12, 7, 6, 5, 4, 11, 10, 9, 8])])
  (.ret))
theorem cc33 : Try.f33.body.bind (compC Try.prog) = some ac33 := by kernel_rfl
theorem go33 {vals : List V} {v : V} (ac : AC) (he : ac.erase = ac33) (hw : wpC Try.prog 0 ac (retQ [.tmp 2] v) ⟨vals ++ List.replicate (20 - vals.length) (.tup []), []⟩) : CallP Try.prog 33 vals v :=
  call_of Try.func33 rfl rfl rfl (cc33.trans (congrArg some he.symm)) hw
theorem gi33 {vals : List V} {rows : Go.Vx.Rows} {K : V → Go.Vx.Rows → Prop} (ac : AC) (he : ac.erase = ac33) (hw : wpC Try.prog rows.length ac (retI [.tmp 2] K) ⟨vals ++ List.replicate (20 - vals.length) (.tup []), rows⟩) : InlP Try.prog 33 vals rows K :=
  inl_of' Try.func33 rfl rfl rfl (cc33.trans (congrArg some he.symm)) hw
theorem gm33 {vals : List V} {v : V} {sz : Nat} {es es' : List (List V)} (ac : AC) (he : ac.erase = ac33) (hw : wpC Try.prog 1 ac (retM [.tmp 2] v sz es') ⟨vals ++ List.replicate (20 - vals.length) (.tup []), [.live sz es]⟩) : CallM Try.prog 33 vals sz es v es' :=
  callM_of' Try.func33 rfl rfl rfl (cc33.trans (congrArg some he.symm)) hw

/-- testbench/arbiter.copied -/
def ac34 : AC :=
  .seq (.reg 2 [⟨(some 1), 0, none, (.op (.box 4 (.t 0)))⟩,
    ⟨(some 2), 1, none, (.op (.alloc [(.bool false), .nils, .nils, (.str [])]))⟩])
  (.seq (.reg 0 [⟨(some 3), 0, none, (.op (.fldA 1 (.t 1)))⟩,
    ⟨(some 4), 0, none, (.op (.fldA 0 (.t 3)))⟩,
    ⟨(some 5), 0, none, (.op (.load false 1 (.t 4)))⟩,
    ⟨(some 6), 0, none, (.call (.k (.fn (.func 43) [] [])) [(.t 5)])⟩,
    ⟨(some 7), 0, none, (.op (.fldA 1 (.t 1)))⟩,
    ⟨(some 8), 0, none, (.op (.fldA 0 (.t 7)))⟩,
    ⟨none, 0, none, (.op (.store 1 (.t 8) (.t 6)))⟩])
  (.seq (.reg 0 [⟨(some 9), 0, none, (.op (.fldA 1 (.t 1)))⟩,
    ⟨(some 10), 0, none, (.op (.fldA 1 (.t 9)))⟩,
    ⟨(some 11), 0, none, (.op (.load false 1 (.t 10)))⟩,
    ⟨(some 12), 0, none, (.call (.k (.fn (.func 44) [] [])) [(.t 11)])⟩,
    ⟨(some 13), 0, none, (.op (.fldA 1 (.t 1)))⟩,
    ⟨(some 14), 0, none, (.op (.fldA 1 (.t 13)))⟩,
    ⟨none, 0, none, (.op (.store 1 (.t 14) (.t 12)))⟩])
  (.seq (.reg 0 [⟨(some 15), 0, none, (.op (.load true 4 (.t 1)))⟩,
    ⟨none, 0, none, (.op (.store 4 (.t 2) (.t 15)))⟩])
  (.ret))))
theorem cc34 : Try.f34.body.bind (compC Try.prog) = some ac34 := by kernel_rfl
theorem go34 {vals : List V} {v : V} (ac : AC) (he : ac.erase = ac34) (hw : wpC Try.prog 0 ac (retQ [.cell 2 true 4] v) ⟨vals ++ List.replicate (16 - vals.length) (.tup []), []⟩) : CallP Try.prog 34 vals v :=
  call_of Try.func34 rfl rfl rfl (cc34.trans (congrArg some he.symm)) hw
theorem gi34 {vals : List V} {rows : Go.Vx.Rows} {K : V → Go.Vx.Rows → Prop} (ac : AC) (he : ac.erase = ac34) (hw : wpC Try.prog rows.length ac (retI [.cell 2 true 4] K) ⟨vals ++ List.replicate (16 - vals.length) (.tup []), rows⟩) : InlP Try.prog 34 vals rows K :=
  inl_of' Try.func34 rfl rfl rfl (cc34.trans (congrArg some he.symm)) hw
theorem gm34 {vals : List V} {v : V} {sz : Nat} {es es' : List (List V)} (ac : AC) (he : ac.erase = ac34) (hw : wpC Try.prog 1 ac (retM [.cell 2 true 4] v sz es') ⟨vals ++ List.replicate (16 - vals.length) (.tup []), [.live sz es]⟩) : CallM Try.prog 34 vals sz es v es' :=
  callM_of' Try.func34 rfl rfl rfl (cc34.trans (congrArg some he.symm)) hw

/-- testbench/testbenchref29.only -/
def ac35 : AC :=
  .seq (.reg 0 [⟨(some 2), 0, none, (.op (.mov (.k (.d .nils))))⟩])
  (.seq (.reg 0 [⟨(some 3), 0, none, (.op (.mov (.k (.d .nils))))⟩])
  (.seq (.seq (.reg 0 [⟨(some 4), 0, none, (.op (.mov (.k (.d (.int .i64 0)))))⟩])
  (.block 0
   (.loop
    (.seq (.seq (.reg 0 [⟨(some 5), 0, none, (.op (.mov (.t 4)))⟩,
      ⟨(some 6), 0, none, (.op (.mov (.t 0)))⟩,
      ⟨(some 7), 0, none, (.op (.len false (.t 6)))⟩,
      ⟨(some 8), 0, none, (.op (.bin .lss (.t 5) (.t 7)))⟩])
    (.cond (.t 8)
      (.skip)
      (.exit 0)))
    (.seq (.block 1
     (.seq (.reg 0 [⟨(some 11), 0, none, (.op (.mov (.t 0)))⟩,
       ⟨(some 12), 0, none, (.op (.mov (.t 4)))⟩,
       ⟨(some 13), 0, none, (.op (.idxA 4 none (.t 11) (.t 12)))⟩,
       ⟨(some 14), 0, none, (.op (.fldA 0 (.t 13)))⟩,
       ⟨(some 15), 0, none, (.op (.load false 1 (.t 14)))⟩,
       ⟨(some 16), 0, none, (.op (.un .not (.t 15)))⟩])
     (.cond (.t 16)
       (.reg 2 [⟨(some 17), 0, none, (.op (.mov (.t 3)))⟩,
         ⟨(some 18), 0, none, (.op (.mov (.t 0)))⟩,
         ⟨(some 19), 0, none, (.op (.mov (.t 4)))⟩,
         ⟨(some 20), 0, none, (.op (.idxA 4 none (.t 18) (.t 19)))⟩,
         ⟨(some 21), 0, none, (.op (.load true 4 (.t 20)))⟩,
         ⟨(some 22), 0, none, (.op (.buildSl 4 1 [(.bool false), .nils, .nils, (.str [])] [(0, (.t 21))]))⟩,
         ⟨(some 23), 1, none, (.op (.append 4 72 (.t 17) (.t 22)))⟩,
         ⟨(some 3), 2, none, (.op (.mov (.t 23)))⟩])
       (.skip))))
    (.reg 0 [⟨(some 9), 0, none, (.op (.mov (.t 4)))⟩,
      ⟨(some 10), 0, none, (.op (.bin .add (.t 9) (.k (.d (.int .i64 1)))))⟩,
      ⟨(some 4), 0, none, (.op (.mov (.t 10)))⟩]))))))
  (.seq (.reg 0 [⟨(some 24), 0, none, (.op (.mov (.t 3)))⟩,
    ⟨(some 2), 0, none, (.op (.mov (.t 24)))⟩])
  (.ret))))
theorem cc35 : Try.f35.body.bind (compC Try.prog) = some ac35 := by kernel_rfl
theorem go35 {vals : List V} {v : V} (ac : AC) (he : ac.erase = ac35) (hw : wpC Try.prog 0 ac (retQ [.tmp 2] v) ⟨vals ++ List.replicate (25 - vals.length) (.tup []), []⟩) : CallP Try.prog 35 vals v :=
  call_of Try.func35 rfl rfl rfl (cc35.trans (congrArg some he.symm)) hw
theorem gi35 {vals : List V} {rows : Go.Vx.Rows} {K : V → Go.Vx.Rows → Prop} (ac : AC) (he : ac.erase = ac35) (hw : wpC Try.prog rows.length ac (retI [.tmp 2] K) ⟨vals ++ List.replicate (25 - vals.length) (.tup []), rows⟩) : InlP Try.prog 35 vals rows K :=
  inl_of' Try.func35 rfl rfl rfl (cc35.trans (congrArg some he.symm)) hw
theorem gm35 {vals : List V} {v : V} {sz : Nat} {es es' : List (List V)} (ac : AC) (he : ac.erase = ac35) (hw : wpC Try.prog 1 ac (retM [.tmp 2] v sz es') ⟨vals ++ List.replicate (25 - vals.length) (.tup []), [.live sz es]⟩) : CallM Try.prog 35 vals sz es v es' :=
  callM_of' Try.func35 rfl rfl rfl (cc35.trans (congrArg some he.symm)) hw

/-- testbench/arbiter.valid -/
def ac36 : AC :=
  .seq (.reg 0 [⟨(some 4), 0, none, (.op (.mov (.k (.d (.bool false)))))⟩])
  (.seq (.seq (.reg 0 [⟨(some 7), 0, none, (.op (.mov (.t 0)))⟩,
    ⟨(some 8), 0, none, (.op (.len false (.t 7)))⟩,
    ⟨(some 9), 0, none, (.op (.mov (.t 1)))⟩,
    ⟨(some 10), 0, none, (.op (.bin .neq (.t 8) (.t 9)))⟩])
  (.cond (.t 10)
    (.seq (.reg 0 [⟨(some 4), 0, none, (.op (.mov (.k (.d (.bool false)))))⟩])
    (.ret))
    (.skip)))
  (.seq (.seq (.reg 0 [⟨(some 11), 0, none, (.op (.mov (.t 0)))⟩,
    ⟨(some 12), 0, none, (.op (.len false (.t 11)))⟩,
    ⟨(some 13), 0, none, (.op (.mov (.k (.d (.int .i64 0)))))⟩])
  (.block 0
   (.loop
    (.seq (.reg 0 [⟨(some 14), 0, none, (.op (.bin .lss (.t 13) (.t 12)))⟩])
    (.seq (.cond (.t 14)
      (.skip)
      (.exit 0))
    (.seq (.block 1
     (.seq (.reg 0 [⟨(some 15), 0, none, (.op (.idxA 1 none (.t 11) (.t 13)))⟩,
       ⟨(some 16), 0, none, (.op (.load false 1 (.t 15)))⟩,
       ⟨(some 6), 0, none, (.op (.mov (.t 16)))⟩])
     (.seq (.reg 0 [⟨(some 17), 0, none, (.op (.mov (.t 6)))⟩,
       ⟨(some 18), 0, none, (.op (.bin .lss (.t 17) (.k (.d (.int .i64 1)))))⟩,
       ⟨(some 19), 0, none, (.op (.mov (.t 18)))⟩,
       ⟨(some 20), 0, (some (19, false)), (.op (.mov (.t 6)))⟩,
       ⟨(some 21), 0, (some (19, false)), (.op (.bin .gtr (.t 20) (.k (.d (.int .i64 1000)))))⟩,
       ⟨(some 22), 0, none, (.op (.pick (.t 19) (.k (.d (.bool true))) (.t 21)))⟩])
     (.cond (.t 22)
       (.seq (.reg 0 [⟨(some 4), 0, none, (.op (.mov (.k (.d (.bool false)))))⟩])
       (.ret))
       (.skip)))))
    (.reg 0 [⟨(some 23), 0, none, (.op (.bin .add (.t 13) (.k (.d (.int .i64 1)))))⟩,
      ⟨(some 13), 0, none, (.op (.mov (.t 23)))⟩])))))))
  (.seq (.reg 0 [⟨(some 4), 0, none, (.op (.mov (.k (.d (.bool true)))))⟩])
  (.ret))))
theorem cc36 : Try.f36.body.bind (compC Try.prog) = some ac36 := by kernel_rfl
theorem go36 {vals : List V} {v : V} (ac : AC) (he : ac.erase = ac36) (hw : wpC Try.prog 0 ac (retQ [.tmp 4] v) ⟨vals ++ List.replicate (24 - vals.length) (.tup []), []⟩) : CallP Try.prog 36 vals v :=
  call_of Try.func36 rfl rfl rfl (cc36.trans (congrArg some he.symm)) hw
theorem gi36 {vals : List V} {rows : Go.Vx.Rows} {K : V → Go.Vx.Rows → Prop} (ac : AC) (he : ac.erase = ac36) (hw : wpC Try.prog rows.length ac (retI [.tmp 4] K) ⟨vals ++ List.replicate (24 - vals.length) (.tup []), rows⟩) : InlP Try.prog 36 vals rows K :=
  inl_of' Try.func36 rfl rfl rfl (cc36.trans (congrArg some he.symm)) hw
theorem gm36 {vals : List V} {v : V} {sz : Nat} {es es' : List (List V)} (ac : AC) (he : ac.erase = ac36) (hw : wpC Try.prog 1 ac (retM [.tmp 4] v sz es') ⟨vals ++ List.replicate (24 - vals.length) (.tup []), [.live sz es]⟩) : CallM Try.prog 36 vals sz es v es' :=
  callM_of' Try.func36 rfl rfl rfl (cc36.trans (congrArg some he.symm)) hw

/-- slices.DeleteFunc[[]testbench/api.Slot,testbench/api.Slot] -/
def ac37 : AC :=
  .seq (.reg 0 [⟨(some 4), 0, none, (.op (.mov (.k (.d .nils))))⟩])
  (.seq (.reg 0 [⟨(some 8), 0, none, (.op (.mov (.t 0)))⟩,
    ⟨(some 9), 0, none, (.op (.mov (.t 1)))⟩,
    ⟨(some 10), 0, none, (.call (.k (.fn (.func 45) [] [])) [(.t 8), (.t 9)])⟩,
    ⟨(some 5), 0, none, (.op (.mov (.t 10)))⟩])
  (.seq (.seq (.reg 0 [⟨(some 11), 0, none, (.op (.mov (.t 5)))⟩,
    ⟨(some 12), 0, none, (.op (.bin .eql (.t 11) (.k (.d (.int .i64 (-1))))))⟩])
  (.cond (.t 12)
    (.seq (.reg 0 [⟨(some 13), 0, none, (.op (.mov (.t 0)))⟩,
      ⟨(some 4), 0, none, (.op (.mov (.t 13)))⟩])
    (.ret))
    (.skip)))
  (.seq (.seq (.reg 0 [⟨(some 14), 0, none, (.op (.mov (.t 5)))⟩,
    ⟨(some 15), 0, none, (.op (.bin .add (.t 14) (.k (.d (.int .i64 1)))))⟩,
    ⟨(some 6), 0, none, (.op (.mov (.t 15)))⟩])
  (.block 0
   (.loop
    (.seq (.seq (.reg 0 [⟨(some 16), 0, none, (.op (.mov (.t 6)))⟩,
      ⟨(some 17), 0, none, (.op (.mov (.t 0)))⟩,
      ⟨(some 18), 0, none, (.op (.len false (.t 17)))⟩,
      ⟨(some 19), 0, none, (.op (.bin .lss (.t 16) (.t 18)))⟩])
    (.cond (.t 19)
      (.skip)
      (.exit 0)))
    (.seq (.block 1
     (.seq (.reg 1 [⟨(some 22), 0, none, (.op (.mov (.t 0)))⟩,
       ⟨(some 23), 0, none, (.op (.mov (.t 6)))⟩,
       ⟨(some 24), 0, none, (.op (.idxA 4 none (.t 22) (.t 23)))⟩,
       ⟨(some 25), 0, none, (.op (.load true 4 (.t 24)))⟩,
       ⟨(some 7), 0, none, (.op (.alloc [(.bool false), .nils, .nils, (.str [])]))⟩,
       ⟨none, 1, none, (.op (.store 4 (.t 7) (.t 25)))⟩])
     (.seq (.reg 0 [⟨(some 26), 0, none, (.op (.mov (.t 1)))⟩,
       ⟨(some 27), 0, none, (.op (.load true 4 (.t 7)))⟩,
       ⟨(some 28), 0, none, (.call (.t 26) [(.t 27)])⟩,
       ⟨(some 29), 0, none, (.op (.un .not (.t 28)))⟩])
     (.cond (.t 29)
       (.seq (.reg 0 [⟨(some 30), 0, none, (.op (.mov (.t 0)))⟩,
         ⟨(some 31), 0, none, (.op (.mov (.t 5)))⟩,
         ⟨(some 32), 0, none, (.op (.load true 4 (.t 7)))⟩,
         ⟨(some 33), 0, none, (.op (.idxA 4 none (.t 30) (.t 31)))⟩,
         ⟨none, 0, none, (.op (.store 4 (.t 33) (.t 32)))⟩])
       (.reg 0 [⟨(some 34), 0, none, (.op (.mov (.t 5)))⟩,
         ⟨(some 35), 0, none, (.op (.bin .add (.t 34) (.k (.d (.int .i64 1)))))⟩,
         ⟨(some 5), 0, none, (.op (.mov (.t 35)))⟩]))
       (.skip)))))
    (.reg 0 [⟨(some 20), 0, none, (.op (.mov (.t 6)))⟩,
      ⟨(some 21), 0, none, (.op (.bin .add (.t 20) (.k (.d (.int .i64 1)))))⟩,
      ⟨(some 6), 0, none, (.op (.mov (.t 21)))⟩]))))))
  (.seq (.reg 0 [⟨(some 36), 0, none, (.op (.mov (.t 0)))⟩,
    ⟨(some 37), 0, none, (.op (.mov (.t 5)))⟩,
    ⟨(some 38), 0, none, (.op (.slice 4 (.t 36) (some (.t 37)) none))⟩,
    ⟨none, 0, none, (.op (.clr 4 [(.bool false), .nils, .nils, (.str [])] (.t 38)))⟩])
  (.seq (.reg 0 [⟨(some 39), 0, none, (.op (.mov (.t 0)))⟩,
    ⟨(some 40), 0, none, (.op (.mov (.t 5)))⟩,
    ⟨(some 41), 0, none, (.op (.slice 4 (.t 39) none (some (.t 40))))⟩,
    ⟨(some 4), 0, none, (.op (.mov (.t 41)))⟩])
  (.ret))))))
theorem cc37 : Try.f37.body.bind (compC Try.prog) = some ac37 := by kernel_rfl
theorem go37 {vals : List V} {v : V} (ac : AC) (he : ac.erase = ac37) (hw : wpC Try.prog 0 ac (retQ [.tmp 4] v) ⟨vals ++ List.replicate (42 - vals.length) (.tup []), []⟩) : CallP Try.prog 37 vals v :=
  call_of Try.func37 rfl rfl rfl (cc37.trans (congrArg some he.symm)) hw
theorem gi37 {vals : List V} {rows : Go.Vx.Rows} {K : V → Go.Vx.Rows → Prop} (ac : AC) (he : ac.erase = ac37) (hw : wpC Try.prog rows.length ac (retI [.tmp 4] K) ⟨vals ++ List.replicate (42 - vals.length) (.tup []), rows⟩) : InlP Try.prog 37 vals rows K :=
  inl_of' Try.func37 rfl rfl rfl (cc37.trans (congrArg some he.symm)) hw
theorem gm37 {vals : List V} {v : V} {sz : Nat} {es es' : List (List V)} (ac : AC) (he : ac.erase = ac37) (hw : wpC Try.prog 1 ac (retM [.tmp 4] v sz es') ⟨vals ++ List.replicate (42 - vals.length) (.tup []), [.live sz es]⟩) : CallM Try.prog 37 vals sz es v es' :=
  callM_of' Try.func37 rfl rfl rfl (cc37.trans (congrArg some he.symm)) hw

/-- slices.Clone[[]testbench/api.Slot,testbench/api.Slot] -/
def ac38 : AC :=
  .seq (.reg 0 [⟨(some 2), 0, none, (.op (.mov (.k (.d .nils))))⟩])
  (.seq (.seq (.reg 0 [⟨(some 3), 0, none, (.op (.mov (.t 0)))⟩,
    ⟨(some 4), 0, none, (.op (.isNil false (.t 3) (.k (.d .nils))))⟩])
  (.cond (.t 4)
    (.seq (.reg 0 [⟨(some 2), 0, none, (.op (.mov (.k (.d .nils))))⟩])
    (.ret))
    (.skip)))
  (.seq (.reg 2 [⟨(some 5), 0, none, (.op (.buildSl 4 0 [(.bool false), .nils, .nils, (.str [])] []))⟩,
    ⟨(some 6), 1, none, (.op (.mov (.t 0)))⟩,
    ⟨(some 7), 1, none, (.op (.append 4 72 (.t 5) (.t 6)))⟩,
    ⟨(some 2), 2, none, (.op (.mov (.t 7)))⟩])
  (.ret)))
theorem cc38 : Try.f38.body.bind (compC Try.prog) = some ac38 := by kernel_rfl
theorem go38 {vals : List V} {v : V} (ac : AC) (he : ac.erase = ac38) (hw : wpC Try.prog 0 ac (retQ [.tmp 2] v) ⟨vals ++ List.replicate (8 - vals.length) (.tup []), []⟩) : CallP Try.prog 38 vals v :=
  call_of Try.func38 rfl rfl rfl (cc38.trans (congrArg some he.symm)) hw
theorem gi38 {vals : List V} {rows : Go.Vx.Rows} {K : V → Go.Vx.Rows → Prop} (ac : AC) (he : ac.erase = ac38) (hw : wpC Try.prog rows.length ac (retI [.tmp 2] K) ⟨vals ++ List.replicate (8 - vals.length) (.tup []), rows⟩) : InlP Try.prog 38 vals rows K :=
  inl_of' Try.func38 rfl rfl rfl (cc38.trans (congrArg some he.symm)) hw
theorem gm38 {vals : List V} {v : V} {sz : Nat} {es es' : List (List V)} (ac : AC) (he : ac.erase = ac38) (hw : wpC Try.prog 1 ac (retM [.tmp 2] v sz es') ⟨vals ++ List.replicate (8 - vals.length) (.tup []), [.live sz es]⟩) : CallM Try.prog 38 vals sz es v es' :=
  callM_of' Try.func38 rfl rfl rfl (cc38.trans (congrArg some he.symm)) hw

/-- testbench/arbiter.Lottery$1 -/
def ac39 : AC :=
  .seq (.reg 1 [⟨(some 1), 0, none, (.op (.box 4 (.t 0)))⟩,
    ⟨(some 2), 1, none, (.op (.mov (.k (.d (.bool false)))))⟩])
  (.seq (.reg 0 [⟨(some 3), 0, none, (.op (.fldA 0 (.t 1)))⟩,
    ⟨(some 4), 0, none, (.op (.load false 1 (.t 3)))⟩,
    ⟨(some 2), 0, none, (.op (.mov (.t 4)))⟩])
  (.ret))
theorem cc39 : Try.f39.body.bind (compC Try.prog) = some ac39 := by kernel_rfl
theorem go39 {vals : List V} {v : V} (ac : AC) (he : ac.erase = ac39) (hw : wpC Try.prog 0 ac (retQ [.tmp 2] v) ⟨vals ++ List.replicate (5 - vals.length) (.tup []), []⟩) : CallP Try.prog 39 vals v :=
  call_of Try.func39 rfl rfl rfl (cc39.trans (congrArg some he.symm)) hw
theorem gi39 {vals : List V} {rows : Go.Vx.Rows} {K : V → Go.Vx.Rows → Prop} (ac : AC) (he : ac.erase = ac39) (hw : wpC Try.prog rows.length ac (retI [.tmp 2] K) ⟨vals ++ List.replicate (5 - vals.length) (.tup []), rows⟩) : InlP Try.prog 39 vals rows K :=
  inl_of' Try.func39 rfl rfl rfl (cc39.trans (congrArg some he.symm)) hw
theorem gm39 {vals : List V} {v : V} {sz : Nat} {es es' : List (List V)} (ac : AC) (he : ac.erase = ac39) (hw : wpC Try.prog 1 ac (retM [.tmp 2] v sz es') ⟨vals ++ List.replicate (5 - vals.length) (.tup []), [.live sz es]⟩) : CallM Try.prog 39 vals sz es v es' :=
  callM_of' Try.func39 rfl rfl rfl (cc39.trans (congrArg some he.symm)) hw

/-- testbench/rng.Weighted -/
def ac40 : AC :=
  .seq (.reg 2 [⟨(some 2), 0, none, (.op (.box 2 (.t 0)))⟩,
    ⟨(some 4), 1, none, (.op (.mov (.k (.d (.int .i64 0)))))⟩,
    ⟨(some 5), 1, none, (.op (.alloc [(.int .u64 0), (.int .u64 0)]))⟩,
    ⟨(some 6), 2, none, (.op (.mov (.k (.d (.int .i64 0)))))⟩])
  (.seq (.reg 0 [⟨(some 13), 0, none, (.op (.mov (.t 1)))⟩,
    ⟨(some 14), 0, none, (.call (.k (.fn (.func 46) [] [])) [(.t 13)])⟩,
    ⟨(some 12), 0, none, (.op (.mov (.t 14)))⟩,
    ⟨(some 15), 0, none, (.op (.ext (.t 12) 0))⟩,
    ⟨(some 16), 0, none, (.op (.ext (.t 12) 1))⟩,
    ⟨(some 7), 0, none, (.op (.mov (.t 15)))⟩,
    ⟨(some 8), 0, none, (.op (.mov (.t 16)))⟩])
  (.seq (.seq (.reg 0 [⟨(some 17), 0, none, (.op (.mov (.t 8)))⟩,
    ⟨(some 18), 0, none, (.op (.un .not (.t 17)))⟩])
  (.cond (.t 18)
    (.seq (.reg 0 [⟨(some 19), 0, none, (.op (.build [(.int .u64 0), (.int .u64 0)] []))⟩,
      ⟨(some 4), 0, none, (.op (.mov (.k (.d (.int .i64 0)))))⟩,
      ⟨none, 0, none, (.op (.store 2 (.t 5) (.t 19)))⟩,
      ⟨(some 6), 0, none, (.op (.mov (.k (.d (.int .i64 1)))))⟩])
    (.ret))
    (.skip)))
  (.seq (.reg 0 [⟨(some 20), 0, none, (.call (.k (.fn (.func 47) [] [])) [(.t 2)])⟩,
    ⟨(some 21), 0, none, (.op (.mov (.t 7)))⟩,
    ⟨(some 22), 0, none, (.call (.t 20) [(.t 21)])⟩,
    ⟨(some 9), 0, none, (.op (.mov (.t 22)))⟩])
  (.seq (.seq (.reg 0 [⟨(some 23), 0, none, (.op (.mov (.t 1)))⟩,
    ⟨(some 24), 0, none, (.op (.len false (.t 23)))⟩,
    ⟨(some 25), 0, none, (.op (.mov (.k (.d (.int .i64 0)))))⟩])
  (.block 0
   (.loop
    (.seq (.reg 0 [⟨(some 26), 0, none, (.op (.bin .lss (.t 25) (.t 24)))⟩])
    (.seq (.cond (.t 26)
      (.skip)
      (.exit 0))
    (.seq (.block 1
     (.seq (.reg 0 [⟨(some 27), 0, none, (.op (.mov (.t 25)))⟩,
       ⟨(some 28), 0, none, (.op (.idxA 1 none (.t 23) (.t 25)))⟩,
       ⟨(some 29), 0, none, (.op (.load false 1 (.t 28)))⟩,
       ⟨(some 10), 0, none, (.op (.mov (.t 27)))⟩,
       ⟨(some 11), 0, none, (.op (.mov (.t 29)))⟩])
     (.seq (.seq (.reg 0 [⟨(some 30), 0, none, (.op (.mov (.t 9)))⟩,
       ⟨(some 31), 0, none, (.op (.mov (.t 11)))⟩,
       ⟨(some 32), 0, none, (.op (.bin .lss (.t 30) (.t 31)))⟩])
     (.cond (.t 32)
       (.seq (.regD 0 [(⟨(some 33), 0, none, (.op (.mov (.t 10)))⟩, []),
         (⟨(some 34), 0, none, (.op (.load true 2 (.t 2)))⟩, []),
         (⟨(some 4), 0, none, (.op (.mov (.t 33)))⟩, [0]),
         (⟨none, 0, none, (.op (.store 2 (.t 5) (.t 34)))⟩, [1, 2, 0]),
         (⟨(some 6), 0, none, (.op (.mov (.k (.d (.int .i64 0)))))⟩, [3, 1, 2, 0])])
       (.ret))
       (.skip)))
     (.reg 0 [⟨(some 35), 0, none, (.op (.mov (.t 9)))⟩,
       ⟨(some 36), 0, none, (.op (.mov (.t 11)))⟩,
       ⟨(some 37), 0, none, (.op (.bin .sub (.t 35) (.t 36)))⟩,
       ⟨(some 9), 0, none, (.op (.mov (.t 37)))⟩]))))
    (.reg 0 [⟨(some 38), 0, none, (.op (.bin .add (.t 25) (.k (.d (.int .i64 1)))))⟩,
      ⟨(some 25), 0, none, (.op (.mov (.t 38)))⟩])))))))
  (.seq (.reg 0 [⟨(some 39), 0, none, (.op (.build [(.int .u64 0), (.int .u64 0)] []))⟩,
    ⟨(some 4), 0, none, (.op (.mov (.k (.d (.int .i64 0)))))⟩,
    ⟨none, 0, none, (.op (.store 2 (.t 5) (.t 39)))⟩,
    ⟨(some 6), 0, none, (.op (.mov (.k (.d (.int .i64 1)))))⟩])
  (.ret))))))
theorem cc40 : Try.f40.body.bind (compC Try.prog) = some ac40 := by kernel_rfl
theorem go40 {vals : List V} {v : V} (ac : AC) (he : ac.erase = ac40) (hw : wpC Try.prog 0 ac (retQ [.tmp 4, .cell 5 true 2, .tmp 6] v) ⟨vals ++ List.replicate (40 - vals.length) (.tup []), []⟩) : CallP Try.prog 40 vals v :=
  call_of Try.func40 rfl rfl rfl (cc40.trans (congrArg some he.symm)) hw
theorem gi40 {vals : List V} {rows : Go.Vx.Rows} {K : V → Go.Vx.Rows → Prop} (ac : AC) (he : ac.erase = ac40) (hw : wpC Try.prog rows.length ac (retI [.tmp 4, .cell 5 true 2, .tmp 6] K) ⟨vals ++ List.replicate (40 - vals.length) (.tup []), rows⟩) : InlP Try.prog 40 vals rows K :=
  inl_of' Try.func40 rfl rfl rfl (cc40.trans (congrArg some he.symm)) hw
theorem gm40 {vals : List V} {v : V} {sz : Nat} {es es' : List (List V)} (ac : AC) (he : ac.erase = ac40) (hw : wpC Try.prog 1 ac (retM [.tmp 4, .cell 5 true 2, .tmp 6] v sz es') ⟨vals ++ List.replicate (40 - vals.length) (.tup []), [.live sz es]⟩) : CallM Try.prog 40 vals sz es v es' :=
  callM_of' Try.func40 rfl rfl rfl (cc40.trans (congrArg some he.symm)) hw

/-- testbench/testbenchref06.Weighted -/
def ac41 : AC :=
  .seq (.reg 2 [⟨(some 2), 0, none, (.op (.box 2 (.t 0)))⟩,
    ⟨(some 4), 1, none, (.op (.mov (.k (.d (.int .i64 0)))))⟩,
    ⟨(some 5), 1, none, (.op (.alloc [(.int .u64 0), (.int .u64 0)]))⟩,
    ⟨(some 6), 2, none, (.op (.mov (.k (.d (.int .i64 0)))))⟩])
  (.seq (.reg 0 [⟨(some 7), 0, none, (.op (.mov (.k (.d (.int .i64 0)))))⟩])
  (.seq (.seq (.reg 0 [⟨(some 8), 0, none, (.op (.mov (.k (.d (.int .i64 0)))))⟩])
  (.block 0
   (.loop
    (.seq (.seq (.reg 0 [⟨(some 13), 0, none, (.op (.mov (.t 8)))⟩,
      ⟨(some 14), 0, none, (.op (.mov (.t 1)))⟩,
      ⟨(some 15), 0, none, (.op (.len false (.t 14)))⟩,
      ⟨(some 16), 0, none, (.op (.bin .lss (.t 13) (.t 15)))⟩])
    (.cond (.t 16)
      (.skip)
      (.exit 0)))
    (.seq (.block 1
     (.seq (.seq (.reg 0 [⟨(some 19), 0, none, (.op (.mov (.t 1)))⟩,
       ⟨(some 20), 0, none, (.op (.mov (.t 8)))⟩,
       ⟨(some 21), 0, none, (.op (.idxA 1 none (.t 19) (.t 20)))⟩,
       ⟨(some 22), 0, none, (.op (.load false 1 (.t 21)))⟩,
       ⟨(some 23), 0, none, (.op (.bin .lss (.t 22) (.k (.d (.int .i64 0)))))⟩,
       ⟨(some 24), 0, none, (.op (.mov (.t 23)))⟩,
       ⟨(some 25), 0, (some (24, false)), (.op (.mov (.t 1)))⟩,
       ⟨(some 26), 0, (some (24, false)), (.op (.mov (.t 8)))⟩,
       ⟨(some 27), 0, (some (24, false)), (.op (.idxA 1 none (.t 25) (.t 26)))⟩,
       ⟨(some 28), 0, (some (24, false)), (.op (.load false 1 (.t 27)))⟩,
       ⟨(some 29), 0, (some (24, false)), (.op (.mov (.t 7)))⟩,
       ⟨(some 30), 0, (some (24, false)), (.op (.bin .sub (.k (.d (.int .i64 1099511627776))) (.t 29)))⟩,
       ⟨(some 31), 0, (some (24, false)), (.op (.bin .gtr (.t 28) (.t 30)))⟩,
       ⟨(some 32), 0, none, (.op (.pick (.t 24) (.k (.d (.bool true))) (.t 31)))⟩])
     (.cond (.t 32)
       (.seq (.reg 0 [⟨(some 33), 0, none, (.op (.build [(.int .u64 0), (.int .u64 0)] []))⟩,
         ⟨(some 4), 0, none, (.op (.mov (.k (.d (.int .i64 0)))))⟩,
         ⟨none, 0, none, (.op (.store 2 (.t 5) (.t 33)))⟩,
         ⟨(some 6), 0, none, (.op (.mov (.k (.d (.int .i64 1)))))⟩])
       (.ret))
       (.skip)))
     (.reg 0 [⟨(some 34), 0, none, (.op (.mov (.t 7)))⟩,
       ⟨(some 35), 0, none, (.op (.mov (.t 1)))⟩,
       ⟨(some 36), 0, none, (.op (.mov (.t 8)))⟩,
       ⟨(some 37), 0, none, (.op (.idxA 1 none (.t 35) (.t 36)))⟩,
       ⟨(some 38), 0, none, (.op (.load false 1 (.t 37)))⟩,
       ⟨(some 39), 0, none, (.op (.bin .add (.t 34) (.t 38)))⟩,
       ⟨(some 7), 0, none, (.op (.mov (.t 39)))⟩])))
    (.reg 0 [⟨(some 17), 0, none, (.op (.mov (.t 8)))⟩,
      ⟨(some 18), 0, none, (.op (.bin .add (.t 17) (.k (.d (.int .i64 1)))))⟩,
      ⟨(some 8), 0, none, (.op (.mov (.t 18)))⟩]))))))
  (.seq (.seq (.reg 0 [⟨(some 40), 0, none, (.op (.mov (.t 7)))⟩,
    ⟨(some 41), 0, none, (.op (.bin .eql (.t 40) (.k (.d (.int .i64 0)))))⟩])
  (.cond (.t 41)
    (.seq (.reg 0 [⟨(some 42), 0, none, (.op (.build [(.int .u64 0), (.int .u64 0)] []))⟩,
      ⟨(some 4), 0, none, (.op (.mov (.k (.d (.int .i64 0)))))⟩,
      ⟨none, 0, none, (.op (.store 2 (.t 5) (.t 42)))⟩,
      ⟨(some 6), 0, none, (.op (.mov (.k (.d (.int .i64 1)))))⟩])
    (.ret))
    (.skip)))
  (.seq (.reg 1 [⟨(some 44), 0, none, (.op (.load true 2 (.t 2)))⟩,
    ⟨(some 45), 0, none, (.op (.mov (.t 7)))⟩,
    ⟨(some 46), 0, none, (.call (.k (.fn (.func 48) [] [])) [(.t 44), (.t 45)])⟩,
    ⟨(some 43), 0, none, (.op (.mov (.t 46)))⟩,
    ⟨(some 47), 0, none, (.op (.ext (.t 43) 0))⟩,
    ⟨(some 48), 0, none, (.op (.ext (.t 43) 1))⟩,
    ⟨(some 49), 0, none, (.op (.ext (.t 43) 2))⟩,
    ⟨(some 10), 0, none, (.op (.alloc [(.int .u64 0), (.int .u64 0)]))⟩,
    ⟨(some 9), 1, none, (.op (.mov (.t 47)))⟩,
    ⟨none, 1, none, (.op (.store 2 (.t 10) (.t 48)))⟩,
    ⟨(some 11), 1, none, (.op (.mov (.t 49)))⟩])
  (.seq (.reg 0 [⟨(some 12), 0, none, (.op (.mov (.k (.d (.int .i64 0)))))⟩])
  (.seq (.block 2
   (.loop
    (.seq (.seq (.reg 0 [⟨(some 50), 0, none, (.op (.mov (.t 9)))⟩,
      ⟨(some 51), 0, none, (.op (.mov (.t 1)))⟩,
      ⟨(some 52), 0, none, (.op (.mov (.t 12)))⟩,
      ⟨(some 53), 0, none, (.op (.idxA 1 none (.t 51) (.t 52)))⟩,
      ⟨(some 54), 0, none, (.op (.load false 1 (.t 53)))⟩,
      ⟨(some 55), 0, none, (.op (.bin .geq (.t 50) (.t 54)))⟩])
    (.cond (.t 55)
      (.skip)
      (.exit 2)))
    (.block 3
     (.seq (.reg 0 [⟨(some 56), 0, none, (.op (.mov (.t 9)))⟩,
       ⟨(some 57), 0, none, (.op (.mov (.t 1)))⟩,
       ⟨(some 58), 0, none, (.op (.mov (.t 12)))⟩,
       ⟨(some 59), 0, none, (.op (.idxA 1 none (.t 57) (.t 58)))⟩,
       ⟨(some 60), 0, none, (.op (.load false 1 (.t 59)))⟩,
       ⟨(some 61), 0, none, (.op (.bin .sub (.t 56) (.t 60)))⟩,
       ⟨(some 9), 0, none, (.op (.mov (.t 61)))⟩])
     (.reg 0 [⟨(some 62), 0, none, (.op (.mov (.t 12)))⟩,
       ⟨(some 63), 0, none, (.op (.bin .add (.t 62) (.k (.d (.int .i64 1)))))⟩,
       ⟨(some 12), 0, none, (.op (.mov (.t 63)))⟩]))))))
  (.seq (.regD 0 [(⟨(some 64), 0, none, (.op (.mov (.t 12)))⟩, []),
    (⟨(some 65), 0, none, (.op (.load true 2 (.t 10)))⟩, []),
    (⟨(some 4), 0, none, (.op (.mov (.t 64)))⟩, [0]),
    (⟨none, 0, none, (.op (.store 2 (.t 5) (.t 65)))⟩, [1, 2, 0]),
    (⟨(some 6), 0, none, (.op (.mov (.k (.d (.int .i64 0)))))⟩, [3, 1, 2, 0])])
  (.ret))))))))
theorem cc41 : Try.f41.body.bind (compC Try.prog) = some ac41 := by kernel_rfl
theorem go41 {vals : List V} {v : V} (ac : AC) (he : ac.erase = ac41) (hw : wpC Try.prog 0 ac (retQ [.tmp 4, .cell 5 true 2, .tmp 6] v) ⟨vals ++ List.replicate (66 - vals.length) (.tup []), []⟩) : CallP Try.prog 41 vals v :=
  call_of Try.func41 rfl rfl rfl (cc41.trans (congrArg some he.symm)) hw
theorem gi41 {vals : List V} {rows : Go.Vx.Rows} {K : V → Go.Vx.Rows → Prop} (ac : AC) (he : ac.erase = ac41) (hw : wpC Try.prog rows.length ac (retI [.tmp 4, .cell 5 true 2, .tmp 6] K) ⟨vals ++ List.replicate (66 - vals.length) (.tup []), rows⟩) : InlP Try.prog 41 vals rows K :=
  inl_of' Try.func41 rfl rfl rfl (cc41.trans (congrArg some he.symm)) hw
theorem gm41 {vals : List V} {v : V} {sz : Nat} {es es' : List (List V)} (ac : AC) (he : ac.erase = ac41) (hw : wpC Try.prog 1 ac (retM [.tmp 4, .cell 5 true 2, .tmp 6] v sz es') ⟨vals ++ List.replicate (66 - vals.length) (.tup []), [.live sz es]⟩) : CallM Try.prog 41 vals sz es v es' :=
  callM_of' Try.func41 rfl rfl rfl (cc41.trans (congrArg some he.symm)) hw

/-- testbench/testbenchref26.Same -/
def ac42 : AC :=
  .seq (.reg 2 [⟨(some 2), 0, none, (.op (.box 2 (.t 0)))⟩,
    ⟨(some 3), 1, none, (.op (.box 2 (.t 1)))⟩,
    ⟨(some 4), 2, none, (.op (.mov (.k (.d (.bool false)))))⟩])
  (.seq (.seq (.reg 0 [⟨(some 7), 0, none, (.op (.fldA 0 (.t 2)))⟩,
    ⟨(some 8), 0, none, (.op (.load false 1 (.t 7)))⟩,
    ⟨(some 9), 0, none, (.op (.len false (.t 8)))⟩,
    ⟨(some 10), 0, none, (.op (.fldA 0 (.t 3)))⟩,
    ⟨(some 11), 0, none, (.op (.load false 1 (.t 10)))⟩,
    ⟨(some 12), 0, none, (.op (.len false (.t 11)))⟩,
    ⟨(some 13), 0, none, (.op (.bin .neq (.t 9) (.t 12)))⟩,
    ⟨(some 14), 0, none, (.op (.mov (.t 13)))⟩,
    ⟨(some 15), 0, (some (14, false)), (.op (.fldA 1 (.t 2)))⟩,
    ⟨(some 16), 0, (some (14, false)), (.op (.load false 1 (.t 15)))⟩,
    ⟨(some 17), 0, (some (14, false)), (.op (.len false (.t 16)))⟩,
    ⟨(some 18), 0, (some (14, false)), (.op (.fldA 1 (.t 3)))⟩,
    ⟨(some 19), 0, (some (14, false)), (.op (.load false 1 (.t 18)))⟩,
    ⟨(some 20), 0, (some (14, false)), (.op (.len false (.t 19)))⟩,
    ⟨(some 21), 0, (some (14, false)), (.op (.bin .neq (.t 17) (.t 20)))⟩,
    ⟨(some 22), 0, none, (.op (.pick (.t 14) (.k (.d (.bool true))) (.t 21)))⟩])
  (.cond (.t 22)
    (.seq (.reg 0 [⟨(some 4), 0, none, (.op (.mov (.k (.d (.bool false)))))⟩])
    (.ret))
    (.skip)))
  (.seq (.seq (.reg 0 [⟨(some 5), 0, none, (.op (.mov (.k (.d (.int .i64 0)))))⟩])
  (.block 0
   (.loop
    (.seq (.seq (.reg 0 [⟨(some 23), 0, none, (.op (.mov (.t 5)))⟩,
      ⟨(some 24), 0, none, (.op (.fldA 0 (.t 2)))⟩,
      ⟨(some 25), 0, none, (.op (.load false 1 (.t 24)))⟩,
      ⟨(some 26), 0, none, (.op (.len false (.t 25)))⟩,
      ⟨(some 27), 0, none, (.op (.bin .lss (.t 23) (.t 26)))⟩])
    (.cond (.t 27)
      (.skip)
      (.exit 0)))
    (.seq (.block 1
     (.seq (.regD 0 [(⟨(some 30), 0, none, (.op (.fldA 0 (.t 2)))⟩, []),
       (⟨(some 31), 0, none, (.op (.load false 1 (.t 30)))⟩, [0]),
       (⟨(some 32), 0, none, (.op (.mov (.t 5)))⟩, []),
       (⟨(some 33), 0, none, (.op (.idxA 1 none (.t 31) (.t 32)))⟩, [1, 0, 2]),
       (⟨(some 34), 0, none, (.op (.load false 1 (.t 33)))⟩, [3, 1, 0, 2]),
       (⟨(some 35), 0, none, (.op (.fldA 0 (.t 3)))⟩, []),
       (⟨(some 36), 0, none, (.op (.load false 1 (.t 35)))⟩, [5]),
       (⟨(some 37), 0, none, (.op (.mov (.t 5)))⟩, []),
       (⟨(some 38), 0, none, (.op (.idxA 1 none (.t 36) (.t 37)))⟩, [6, 5, 7]),
       (⟨(some 39), 0, none, (.op (.load false 1 (.t 38)))⟩, [8, 6, 5, 7]),
       (⟨(some 40), 0, none, (.op (.bin .neq (.t 34) (.t 39)))⟩, [4, 3, 1, 0, 2, 9, 8, 6, 5, 7])])
     (.cond (.t 40)
       (.seq (.reg 0 [⟨(some 4), 0, none, (.op (.mov (.k (.d (.bool false)))))⟩])
       (.ret))
       (.skip))))
    (.reg 0 [⟨(some 28), 0, none, (.op (.mov (.t 5)))⟩,
      ⟨(some 29), 0, none, (.op (.bin .add (.t 28) (.k (.d (.int .i64 1)))))⟩,
      ⟨(some 5), 0, none, (.op (.mov (.t 29)))⟩]))))))
  (.seq (.seq (.reg 0 [⟨(some 6), 0, none, (.op (.mov (.k (.d (.int .i64 0)))))⟩])
  (.block 2
   (.loop
    (.seq (.seq (.reg 0 [⟨(some 41), 0, none, (.op (.mov (.t 6)))⟩,
      ⟨(some 42), 0, none, (.op (.fldA 1 (.t 2)))⟩,
      ⟨(some 43), 0, none, (.op (.load false 1 (.t 42)))⟩,
      ⟨(some 44), 0, none, (.op (.len false (.t 43)))⟩,
      ⟨(some 45), 0, none, (.op (.bin .lss (.t 41) (.t 44)))⟩])
    (.cond (.t 45)
      (.skip)
      (.exit 2)))
    (.seq (.block 3
     (.seq (.regD 0 [(⟨(some 48), 0, none, (.op (.fldA 1 (.t 2)))⟩, []),
       (⟨(some 49), 0, none, (.op (.load false 1 (.t 48)))⟩, [0]),
       (⟨(some 50), 0, none, (.op (.mov (.t 6)))⟩, []),
       (⟨(some 51), 0, none, (.op (.idxA 1 none (.t 49) (.t 50)))⟩, [1, 0, 2]),
       (⟨(some 52), 0, none, (.op (.load false 1 (.t 51)))⟩, [3, 1, 0, 2]),
       (⟨(some 53), 0, none, (.op (.fldA 1 (.t 3)))⟩, []),
       (⟨(some 54), 0, none, (.op (.load false 1 (.t 53)))⟩, [5]),
       (⟨(some 55), 0, none, (.op (.mov (.t 6)))⟩, []),
       (⟨(some 56), 0, none, (.op (.idxA 1 none (.t 54) (.t 55)))⟩, [6, 5, 7]),
       (⟨(some 57), 0, none, (.op (.load false 1 (.t 56)))⟩, [8, 6, 5, 7]),
       (⟨(some 58), 0, none, (.op (.bin .neq (.t 52) (.t 57)))⟩, [4, 3, 1, 0, 2, 9, 8, 6, 5, 7])])
     (.cond (.t 58)
       (.seq (.reg 0 [⟨(some 4), 0, none, (.op (.mov (.k (.d (.bool false)))))⟩])
       (.ret))
       (.skip))))
    (.reg 0 [⟨(some 46), 0, none, (.op (.mov (.t 6)))⟩,
      ⟨(some 47), 0, none, (.op (.bin .add (.t 46) (.k (.d (.int .i64 1)))))⟩,
      ⟨(some 6), 0, none, (.op (.mov (.t 47)))⟩]))))))
  (.seq (.reg 0 [⟨(some 4), 0, none, (.op (.mov (.k (.d (.bool true)))))⟩])
  (.ret)))))
theorem cc42 : Try.f42.body.bind (compC Try.prog) = some ac42 := by kernel_rfl
theorem go42 {vals : List V} {v : V} (ac : AC) (he : ac.erase = ac42) (hw : wpC Try.prog 0 ac (retQ [.tmp 4] v) ⟨vals ++ List.replicate (59 - vals.length) (.tup []), []⟩) : CallP Try.prog 42 vals v :=
  call_of Try.func42 rfl rfl rfl (cc42.trans (congrArg some he.symm)) hw
theorem gi42 {vals : List V} {rows : Go.Vx.Rows} {K : V → Go.Vx.Rows → Prop} (ac : AC) (he : ac.erase = ac42) (hw : wpC Try.prog rows.length ac (retI [.tmp 4] K) ⟨vals ++ List.replicate (59 - vals.length) (.tup []), rows⟩) : InlP Try.prog 42 vals rows K :=
  inl_of' Try.func42 rfl rfl rfl (cc42.trans (congrArg some he.symm)) hw
theorem gm42 {vals : List V} {v : V} {sz : Nat} {es es' : List (List V)} (ac : AC) (he : ac.erase = ac42) (hw : wpC Try.prog 1 ac (retM [.tmp 4] v sz es') ⟨vals ++ List.replicate (59 - vals.length) (.tup []), [.live sz es]⟩) : CallM Try.prog 42 vals sz es v es' :=
  callM_of' Try.func42 rfl rfl rfl (cc42.trans (congrArg some he.symm)) hw

/-- slices.Clone[[]string,string] -/
def ac43 : AC :=
  .seq (.reg 0 [⟨(some 2), 0, none, (.op (.mov (.k (.d .nils))))⟩])
  (.seq (.seq (.reg 0 [⟨(some 3), 0, none, (.op (.mov (.t 0)))⟩,
    ⟨(some 4), 0, none, (.op (.isNil false (.t 3) (.k (.d .nils))))⟩])
  (.cond (.t 4)
    (.seq (.reg 0 [⟨(some 2), 0, none, (.op (.mov (.k (.d .nils))))⟩])
    (.ret))
    (.skip)))
  (.seq (.reg 2 [⟨(some 5), 0, none, (.op (.buildSl 1 0 [(.str [])] []))⟩,
    ⟨(some 6), 1, none, (.op (.mov (.t 0)))⟩,
    ⟨(some 7), 1, none, (.op (.append 1 16 (.t 5) (.t 6)))⟩,
    ⟨(some 2), 2, none, (.op (.mov (.t 7)))⟩])
  (.ret)))
theorem cc43 : Try.f43.body.bind (compC Try.prog) = some ac43 := by kernel_rfl
theorem go43 {vals : List V} {v : V} (ac : AC) (he : ac.erase = ac43) (hw : wpC Try.prog 0 ac (retQ [.tmp 2] v) ⟨vals ++ List.replicate (8 - vals.length) (.tup []), []⟩) : CallP Try.prog 43 vals v :=
  call_of Try.func43 rfl rfl rfl (cc43.trans (congrArg some he.symm)) hw
theorem gi43 {vals : List V} {rows : Go.Vx.Rows} {K : V → Go.Vx.Rows → Prop} (ac : AC) (he : ac.erase = ac43) (hw : wpC Try.prog rows.length ac (retI [.tmp 2] K) ⟨vals ++ List.replicate (8 - vals.length) (.tup []), rows⟩) : InlP Try.prog 43 vals rows K :=
  inl_of' Try.func43 rfl rfl rfl (cc43.trans (congrArg some he.symm)) hw
theorem gm43 {vals : List V} {v : V} {sz : Nat} {es es' : List (List V)} (ac : AC) (he : ac.erase = ac43) (hw : wpC Try.prog 1 ac (retM [.tmp 2] v sz es') ⟨vals ++ List.replicate (8 - vals.length) (.tup []), [.live sz es]⟩) : CallM Try.prog 43 vals sz es v es' :=
  callM_of' Try.func43 rfl rfl rfl (cc43.trans (congrArg some he.symm)) hw

/-- slices.Clone[[]int,int] -/
def ac44 : AC :=
  .seq (.reg 0 [⟨(some 2), 0, none, (.op (.mov (.k (.d .nils))))⟩])
  (.seq (.seq (.reg 0 [⟨(some 3), 0, none, (.op (.mov (.t 0)))⟩,
    ⟨(some 4), 0, none, (.op (.isNil false (.t 3) (.k (.d .nils))))⟩])
  (.cond (.t 4)
    (.seq (.reg 0 [⟨(some 2), 0, none, (.op (.mov (.k (.d .nils))))⟩])
    (.ret))
    (.skip)))
  (.seq (.reg 2 [⟨(some 5), 0, none, (.op (.buildSl 1 0 [(.int .i64 0)] []))⟩,
    ⟨(some 6), 1, none, (.op (.mov (.t 0)))⟩,
    ⟨(some 7), 1, none, (.op (.append 1 8 (.t 5) (.t 6)))⟩,
    ⟨(some 2), 2, none, (.op (.mov (.t 7)))⟩])
  (.ret)))
theorem cc44 : Try.f44.body.bind (compC Try.prog) = some ac44 := by kernel_rfl
theorem go44 {vals : List V} {v : V} (ac : AC) (he : ac.erase = ac44) (hw : wpC Try.prog 0 ac (retQ [.tmp 2] v) ⟨vals ++ List.replicate (8 - vals.length) (.tup []), []⟩) : CallP Try.prog 44 vals v :=
  call_of Try.func44 rfl rfl rfl (cc44.trans (congrArg some he.symm)) hw
theorem gi44 {vals : List V} {rows : Go.Vx.Rows} {K : V → Go.Vx.Rows → Prop} (ac : AC) (he : ac.erase = ac44) (hw : wpC Try.prog rows.length ac (retI [.tmp 2] K) ⟨vals ++ List.replicate (8 - vals.length) (.tup []), rows⟩) : InlP Try.prog 44 vals rows K :=
  inl_of' Try.func44 rfl rfl rfl (cc44.trans (congrArg some he.symm)) hw
theorem gm44 {vals : List V} {v : V} {sz : Nat} {es es' : List (List V)} (ac : AC) (he : ac.erase = ac44) (hw : wpC Try.prog 1 ac (retM [.tmp 2] v sz es') ⟨vals ++ List.replicate (8 - vals.length) (.tup []), [.live sz es]⟩) : CallM Try.prog 44 vals sz es v es' :=
  callM_of' Try.func44 rfl rfl rfl (cc44.trans (congrArg some he.symm)) hw

/-- slices.IndexFunc[[]testbench/api.Slot,testbench/api.Slot] -/
def ac45 : AC :=
  .seq (.reg 0 [⟨(some 4), 0, none, (.op (.mov (.k (.d (.int .i64 0)))))⟩])
  (.seq (.seq (.reg 0 [⟨(some 6), 0, none, (.op (.mov (.t 0)))⟩,
    ⟨(some 7), 0, none, (.op (.len false (.t 6)))⟩,
    ⟨(some 8), 0, none, (.op (.mov (.k (.d (.int .i64 0)))))⟩])
  (.block 0
   (.loop
    (.seq (.reg 0 [⟨(some 9), 0, none, (.op (.bin .lss (.t 8) (.t 7)))⟩])
    (.seq (.cond (.t 9)
      (.skip)
      (.exit 0))
    (.seq (.block 1
     (.seq (.reg 0 [⟨(some 10), 0, none, (.op (.mov (.t 8)))⟩,
       ⟨(some 5), 0, none, (.op (.mov (.t 10)))⟩])
     (.seq (.reg 0 [⟨(some 11), 0, none, (.op (.mov (.t 1)))⟩,
       ⟨(some 12), 0, none, (.op (.mov (.t 0)))⟩,
       ⟨(some 13), 0, none, (.op (.mov (.t 5)))⟩,
       ⟨(some 14), 0, none, (.op (.idxA 4 none (.t 12) (.t 13)))⟩,
       ⟨(some 15), 0, none, (.op (.load true 4 (.t 14)))⟩,
       ⟨(some 16), 0, none, (.call (.t 11) [(.t 15)])⟩])
     (.cond (.t 16)
       (.seq (.reg 0 [⟨(some 17), 0, none, (.op (.mov (.t 5)))⟩,
         ⟨(some 4), 0, none, (.op (.mov (.t 17)))⟩])
       (.ret))
       (.skip)))))
    (.reg 0 [⟨(some 18), 0, none, (.op (.bin .add (.t 8) (.k (.d (.int .i64 1)))))⟩,
      ⟨(some 8), 0, none, (.op (.mov (.t 18)))⟩])))))))
  (.seq (.reg 0 [⟨(some 4), 0, none, (.op (.mov (.k (.d (.int .i64 (-1))))))⟩])
  (.ret)))
theorem cc45 : Try.f45.body.bind (compC Try.prog) = some ac45 := by kernel_rfl
theorem go45 {vals : List V} {v : V} (ac : AC) (he : ac.erase = ac45) (hw : wpC Try.prog 0 ac (retQ [.tmp 4] v) ⟨vals ++ List.replicate (19 - vals.length) (.tup []), []⟩) : CallP Try.prog 45 vals v :=
  call_of Try.func45 rfl rfl rfl (cc45.trans (congrArg some he.symm)) hw
theorem gi45 {vals : List V} {rows : Go.Vx.Rows} {K : V → Go.Vx.Rows → Prop} (ac : AC) (he : ac.erase = ac45) (hw : wpC Try.prog rows.length ac (retI [.tmp 4] K) ⟨vals ++ List.replicate (19 - vals.length) (.tup []), rows⟩) : InlP Try.prog 45 vals rows K :=
  inl_of' Try.func45 rfl rfl rfl (cc45.trans (congrArg some he.symm)) hw
theorem gm45 {vals : List V} {v : V} {sz : Nat} {es es' : List (List V)} (ac : AC) (he : ac.erase = ac45) (hw : wpC Try.prog 1 ac (retM [.tmp 4] v sz es') ⟨vals ++ List.replicate (19 - vals.length) (.tup []), [.live sz es]⟩) : CallM Try.prog 45 vals sz es v es' :=
  callM_of' Try.func45 rfl rfl rfl (cc45.trans (congrArg some he.symm)) hw

/-- testbench/rng.total -/
def ac46 : AC :=
  .seq (.reg 0 [⟨(some 2), 0, none, (.op (.mov (.k (.d (.int .i64 0)))))⟩,
    ⟨(some 3), 0, none, (.op (.mov (.k (.d (.bool false)))))⟩])
  (.seq (.reg 0 [⟨(some 4), 0, none, (.op (.mov (.k (.d (.int .i64 0)))))⟩])
  (.seq (.seq (.reg 0 [⟨(some 7), 0, none, (.op (.mov (.t 0)))⟩,
    ⟨(some 8), 0, none, (.op (.len false (.t 7)))⟩,
    ⟨(some 9), 0, none, (.op (.mov (.k (.d (.int .i64 0)))))⟩])
  (.block 0
   (.loop
    (.seq (.reg 0 [⟨(some 10), 0, none, (.op (.bin .lss (.t 9) (.t 8)))⟩])
    (.seq (.cond (.t 10)
      (.skip)
      (.exit 0))
    (.seq (.block 1
     (.seq (.reg 0 [⟨(some 11), 0, none, (.op (.idxA 1 none (.t 7) (.t 9)))⟩,
       ⟨(some 12), 0, none, (.op (.load false 1 (.t 11)))⟩,
       ⟨(some 6), 0, none, (.op (.mov (.t 12)))⟩])
     (.seq (.seq (.reg 0 [⟨(some 13), 0, none, (.op (.mov (.t 6)))⟩,
       ⟨(some 14), 0, none, (.op (.bin .lss (.t 13) (.k (.d (.int .i64 0)))))⟩,
       ⟨(some 15), 0, none, (.op (.mov (.t 14)))⟩,
       ⟨(some 16), 0, (some (15, false)), (.op (.mov (.t 6)))⟩,
       ⟨(some 17), 0, (some (15, false)), (.op (.mov (.t 4)))⟩,
       ⟨(some 18), 0, (some (15, false)), (.op (.bin .sub (.k (.d (.int .i64 1099511627776))) (.t 17)))⟩,
       ⟨(some 19), 0, (some (15, false)), (.op (.bin .gtr (.t 16) (.t 18)))⟩,
       ⟨(some 20), 0, none, (.op (.pick (.t 15) (.k (.d (.bool true))) (.t 19)))⟩])
     (.cond (.t 20)
       (.seq (.reg 0 [⟨(some 2), 0, none, (.op (.mov (.k (.d (.int .i64 0)))))⟩,
         ⟨(some 3), 0, none, (.op (.mov (.k (.d (.bool false)))))⟩])
       (.ret))
       (.skip)))
     (.reg 0 [⟨(some 21), 0, none, (.op (.mov (.t 4)))⟩,
       ⟨(some 22), 0, none, (.op (.mov (.t 6)))⟩,
       ⟨(some 23), 0, none, (.op (.bin .add (.t 21) (.t 22)))⟩,
       ⟨(some 4), 0, none, (.op (.mov (.t 23)))⟩]))))
    (.reg 0 [⟨(some 24), 0, none, (.op (.bin .add (.t 9) (.k (.d (.int .i64 1)))))⟩,
      ⟨(some 9), 0, none, (.op (.mov (.t 24)))⟩])))))))
  (.seq (.reg 0 [⟨(some 25), 0, none, (.op (.mov (.t 4)))⟩,
    ⟨(some 26), 0, none, (.op (.mov (.t 4)))⟩,
    ⟨(some 27), 0, none, (.op (.bin .gtr (.t 26) (.k (.d (.int .i64 0)))))⟩,
    ⟨(some 2), 0, none, (.op (.mov (.t 25)))⟩,
    ⟨(some 3), 0, none, (.op (.mov (.t 27)))⟩])
  (.ret))))
theorem cc46 : Try.f46.body.bind (compC Try.prog) = some ac46 := by kernel_rfl
theorem go46 {vals : List V} {v : V} (ac : AC) (he : ac.erase = ac46) (hw : wpC Try.prog 0 ac (retQ [.tmp 2, .tmp 3] v) ⟨vals ++ List.replicate (28 - vals.length) (.tup []), []⟩) : CallP Try.prog 46 vals v :=
  call_of Try.func46 rfl rfl rfl (cc46.trans (congrArg some he.symm)) hw
theorem gi46 {vals : List V} {rows : Go.Vx.Rows} {K : V → Go.Vx.Rows → Prop} (ac : AC) (he : ac.erase = ac46) (hw : wpC Try.prog rows.length ac (retI [.tmp 2, .tmp 3] K) ⟨vals ++ List.replicate (28 - vals.length) (.tup []), rows⟩) : InlP Try.prog 46 vals rows K :=
  inl_of' Try.func46 rfl rfl rfl (cc46.trans (congrArg some he.symm)) hw
theorem gm46 {vals : List V} {v : V} {sz : Nat} {es es' : List (List V)} (ac : AC) (he : ac.erase = ac46) (hw : wpC Try.prog 1 ac (retM [.tmp 2, .tmp 3] v sz es') ⟨vals ++ List.replicate (28 - vals.length) (.tup []), [.live sz es]⟩) : CallM Try.prog 46 vals sz es v es' :=
  callM_of' Try.func46 rfl rfl rfl (cc46.trans (congrArg some he.symm)) hw

/-- testbench/rng.chooser -/
def ac47 : AC :=
  .seq (.reg 1 [⟨(some 1), 0, none, (.op (.box 1 (.t 0)))⟩,
    ⟨(some 2), 1, none, (.op (.mov (.k .any)))⟩])
  (.seq (.reg 0 [⟨(some 3), 0, none, (.op (.mkfn (.func 49) [] [(.t 1)]))⟩,
    ⟨(some 2), 0, none, (.op (.mov (.t 3)))⟩])
  (.ret))
theorem cc47 : Try.f47.body.bind (compC Try.prog) = some ac47 := by kernel_rfl
theorem go47 {vals : List V} {v : V} (ac : AC) (he : ac.erase = ac47) (hw : wpC Try.prog 0 ac (retQ [.tmp 2] v) ⟨vals ++ List.replicate (4 - vals.length) (.tup []), []⟩) : CallP Try.prog 47 vals v :=
  call_of Try.func47 rfl rfl rfl (cc47.trans (congrArg some he.symm)) hw
theorem gi47 {vals : List V} {rows : Go.Vx.Rows} {K : V → Go.Vx.Rows → Prop} (ac : AC) (he : ac.erase = ac47) (hw : wpC Try.prog rows.length ac (retI [.tmp 2] K) ⟨vals ++ List.replicate (4 - vals.length) (.tup []), rows⟩) : InlP Try.prog 47 vals rows K :=
  inl_of' Try.func47 rfl rfl rfl (cc47.trans (congrArg some he.symm)) hw
theorem gm47 {vals : List V} {v : V} {sz : Nat} {es es' : List (List V)} (ac : AC) (he : ac.erase = ac47) (hw : wpC Try.prog 1 ac (retM [.tmp 2] v sz es') ⟨vals ++ List.replicate (4 - vals.length) (.tup []), [.live sz es]⟩) : CallM Try.prog 47 vals sz es v es' :=
  callM_of' Try.func47 rfl rfl rfl (cc47.trans (congrArg some he.symm)) hw

/-- testbench/testbenchref06.Below -/
def ac48 : AC :=
  .seq (.reg 2 [⟨(some 2), 0, none, (.op (.box 2 (.t 0)))⟩,
    ⟨(some 4), 1, none, (.op (.mov (.k (.d (.int .i64 0)))))⟩,
    ⟨(some 5), 1, none, (.op (.alloc [(.int .u64 0), (.int .u64 0)]))⟩,
    ⟨(some 6), 2, none, (.op (.mov (.k (.d (.int .i64 0)))))⟩])
  (.seq (.seq (.reg 0 [⟨(some 12), 0, none, (.op (.mov (.t 1)))⟩,
    ⟨(some 13), 0, none, (.op (.bin .lss (.t 12) (.k (.d (.int .i64 1)))))⟩,
    ⟨(some 14), 0, none, (.op (.mov (.t 13)))⟩,
    ⟨(some 15), 0, (some (14, false)), (.op (.mov (.t 1)))⟩,
    ⟨(some 16), 0, (some (14, false)), (.op (.bin .gtr (.t 15) (.k (.d (.int .i64 4611686018427387904)))))⟩,
    ⟨(some 17), 0, none, (.op (.pick (.t 14) (.k (.d (.bool true))) (.t 16)))⟩])
  (.cond (.t 17)
    (.seq (.reg 0 [⟨(some 18), 0, none, (.op (.build [(.int .u64 0), (.int .u64 0)] []))⟩,
      ⟨(some 4), 0, none, (.op (.mov (.k (.d (.int .i64 0)))))⟩,
      ⟨none, 0, none, (.op (.store 2 (.t 5) (.t 18)))⟩,
      ⟨(some 6), 0, none, (.op (.mov (.k (.d (.int .i64 1)))))⟩])
    (.ret))
    (.skip)))
  (.seq (.reg 0 [⟨(some 19), 0, none, (.op (.mov (.t 1)))⟩,
    ⟨(some 20), 0, none, (.op (.conv .u64 (.t 19)))⟩,
    ⟨(some 7), 0, none, (.op (.mov (.t 20)))⟩])
  (.seq (.reg 0 [⟨(some 21), 0, none, (.op (.mov (.t 7)))⟩,
    ⟨(some 22), 0, none, (.op (.bin .rem (.k (.d (.int .u64 18446744073709551615))) (.t 21)))⟩,
    ⟨(some 8), 0, none, (.op (.mov (.t 22)))⟩])
  (.seq (.reg 0 [⟨(some 23), 0, none, (.op (.mov (.t 8)))⟩,
    ⟨(some 24), 0, none, (.op (.bin .add (.t 23) (.k (.d (.int .u64 1)))))⟩,
    ⟨(some 25), 0, none, (.op (.mov (.t 7)))⟩,
    ⟨(some 26), 0, none, (.op (.bin .rem (.t 24) (.t 25)))⟩,
    ⟨(some 8), 0, none, (.op (.mov (.t 26)))⟩])
  (.seq (.seq (.reg 0 [⟨(some 9), 0, none, (.op (.mov (.k (.d (.int .i64 0)))))⟩])
  (.block 0
   (.loop
    (.seq (.seq (.reg 0 [⟨(some 27), 0, none, (.op (.mov (.t 9)))⟩,
      ⟨(some 28), 0, none, (.op (.bin .lss (.t 27) (.k (.d (.int .i64 64)))))⟩])
    (.cond (.t 28)
      (.skip)
      (.exit 0)))
    (.seq (.block 1
     (.seq (.reg 1 [⟨(some 32), 0, none, (.op (.load true 2 (.t 2)))⟩,
       ⟨(some 33), 0, none, (.call (.k (.fn (.func 51) [] [])) [(.t 32)])⟩,
       ⟨(some 31), 0, none, (.op (.mov (.t 33)))⟩,
       ⟨(some 34), 0, none, (.op (.ext (.t 31) 0))⟩,
       ⟨(some 35), 0, none, (.op (.ext (.t 31) 1))⟩,
       ⟨(some 11), 0, none, (.op (.alloc [(.int .u64 0), (.int .u64 0)]))⟩,
       ⟨(some 10), 1, none, (.op (.mov (.t 34)))⟩,
       ⟨none, 1, none, (.op (.store 2 (.t 11) (.t 35)))⟩])
     (.seq (.reg 0 [⟨(some 36), 0, none, (.op (.load true 2 (.t 11)))⟩,
       ⟨none, 0, none, (.op (.store 2 (.t 2) (.t 36)))⟩])
     (.seq (.reg 0 [⟨(some 37), 0, none, (.op (.mov (.t 8)))⟩,
       ⟨(some 38), 0, none, (.op (.bin .eql (.t 37) (.k (.d (.int .u64 0)))))⟩,
       ⟨(some 39), 0, none, (.op (.mov (.t 38)))⟩,
       ⟨(some 40), 0, (some (39, false)), (.op (.mov (.t 10)))⟩,
       ⟨(some 41), 0, (some (39, false)), (.op (.mov (.t 8)))⟩,
       ⟨(some 42), 0, (some (39, false)), (.op (.un .neg (.t 41)))⟩,
       ⟨(some 43), 0, (some (39, false)), (.op (.bin .lss (.t 40) (.t 42)))⟩,
       ⟨(some 44), 0, none, (.op (.pick (.t 39) (.k (.d (.bool true))) (.t 43)))⟩,
       ⟨(some 45), 0, none, (.op (.mov (.t 44)))⟩,
       ⟨(some 46), 0, (some (45, false)), (.op (.mov (.t 9)))⟩,
       ⟨(some 47), 0, (some (45, false)), (.op (.bin .eql (.t 46) (.k (.d (.int .i64 63)))))⟩,
       ⟨(some 48), 0, none, (.op (.pick (.t 45) (.k (.d (.bool true))) (.t 47)))⟩])
     (.cond (.t 48)
       (.seq (.regD 0 [(⟨(some 49), 0, none, (.op (.mov (.t 10)))⟩, []),
         (⟨(some 50), 0, none, (.op (.mov (.t 7)))⟩, []),
         (⟨(some 51), 0, none, (.op (.bin .rem (.t 49) (.t 50)))⟩, [0, 1]),
         (⟨(some 52), 0, none, (.op (.conv .i64 (.t 51)))⟩, [2, 0, 1]),
         (⟨(some 53), 0, none, (.op (.load true 2 (.t 2)))⟩, []),
         (⟨(some 4), 0, none, (.op (.mov (.t 52)))⟩, [3, 2, 0, 1]),
         (⟨none, 0, none, (.op (.store 2 (.t 5) (.t 53)))⟩, [4, 5, 3, 2, 0, 1]),
         (⟨(some 6), 0, none, (.op (.mov (.k (.d (.int .i64 0)))))⟩, [6, 4, 5, 3, 2, 0, 1])])
       (.ret))
       (.skip))))))
    (.reg 0 [⟨(some 29), 0, none, (.op (.mov (.t 9)))⟩,
      ⟨(some 30), 0, none, (.op (.bin .add (.t 29) (.k (.d (.int .i64 1)))))⟩,
      ⟨(some 9), 0, none, (.op (.mov (.t 30)))⟩]))))))
  (.seq (.regD 0 [(⟨(some 54), 0, none, (.op (.load true 2 (.t 2)))⟩, []),
    (⟨(some 4), 0, none, (.op (.mov (.k (.d (.int .i64 0)))))⟩, []),
    (⟨none, 0, none, (.op (.store 2 (.t 5) (.t 54)))⟩, [0, 1]),
    (⟨(some 6), 0, none, (.op (.mov (.k (.d (.int .i64 0)))))⟩, [2, 0, 1])])
  (.ret)))))))
theorem cc48 : Try.f48.body.bind (compC Try.prog) = some ac48 := by kernel_rfl
theorem go48 {vals : List V} {v : V} (ac : AC) (he : ac.erase = ac48) (hw : wpC Try.prog 0 ac (retQ [.tmp 4, .cell 5 true 2, .tmp 6] v) ⟨vals ++ List.replicate (55 - vals.length) (.tup []), []⟩) : CallP Try.prog 48 vals v :=
  call_of Try.func48 rfl rfl rfl (cc48.trans (congrArg some he.symm)) hw
theorem gi48 {vals : List V} {rows : Go.Vx.Rows} {K : V → Go.Vx.Rows → Prop} (ac : AC) (he : ac.erase = ac48) (hw : wpC Try.prog rows.length ac (retI [.tmp 4, .cell 5 true 2, .tmp 6] K) ⟨vals ++ List.replicate (55 - vals.length) (.tup []), rows⟩) : InlP Try.prog 48 vals rows K :=
  inl_of' Try.func48 rfl rfl rfl (cc48.trans (congrArg some he.symm)) hw
theorem gm48 {vals : List V} {v : V} {sz : Nat} {es es' : List (List V)} (ac : AC) (he : ac.erase = ac48) (hw : wpC Try.prog 1 ac (retM [.tmp 4, .cell 5 true 2, .tmp 6] v sz es') ⟨vals ++ List.replicate (55 - vals.length) (.tup []), [.live sz es]⟩) : CallM Try.prog 48 vals sz es v es' :=
  callM_of' Try.func48 rfl rfl rfl (cc48.trans (congrArg some he.symm)) hw

/-- testbench/rng.chooser$1 -/
def ac49 : AC :=
  .seq (.reg 0 [⟨(some 3), 0, none, (.op (.mov (.k (.d (.int .i64 0)))))⟩])
  (.seq (.reg 0 [⟨(some 7), 0, none, (.op (.mov (.t 0)))⟩,
    ⟨(some 8), 0, none, (.op (.conv .u64 (.t 7)))⟩,
    ⟨(some 4), 0, none, (.op (.mov (.t 8)))⟩])
  (.seq (.reg 0 [⟨(some 9), 0, none, (.op (.mov (.t 4)))⟩,
    ⟨(some 10), 0, none, (.op (.un .neg (.t 9)))⟩,
    ⟨(some 11), 0, none, (.op (.mov (.t 4)))⟩,
    ⟨(some 12), 0, none, (.op (.bin .rem (.t 10) (.t 11)))⟩,
    ⟨(some 5), 0, none, (.op (.mov (.t 12)))⟩])
  (.seq (.reg 0 [⟨(some 6), 0, none, (.op (.mov (.k (.d (.int .u64 0)))))⟩])
  (.seq (.seq (.reg 0 [⟨(some 13), 0, none, (.op (.mov (.k (.d (.int .i64 0)))))⟩])
  (.block 0
   (.loop
    (.seq (.reg 0 [⟨(some 14), 0, none, (.op (.bin .lss (.t 13) (.k (.d (.int .i64 64)))))⟩])
    (.seq (.cond (.t 14)
      (.skip)
      (.exit 0))
    (.seq (.block 1
     (.seq (.regD 0 [(⟨(some 16), 0, none, (.op (.load false 1 (.t 1)))⟩, []),
       (⟨(some 17), 0, none, (.op (.load false 1 (.t 1)))⟩, []),
       (⟨(some 18), 0, none, (.op (.nilck (.t 17)))⟩, [1]),
       (⟨(some 19), 0, none, (.op (.load true 2 (.t 18)))⟩, [2, 1]),
       (⟨(some 20), 0, none, (.call (.k (.fn (.func 50) [] [])) [(.t 19)])⟩, [3, 2, 1]),
       (⟨(some 15), 0, none, (.op (.mov (.t 20)))⟩, [4, 3, 2, 1]),
       (⟨(some 21), 0, none, (.op (.ext (.t 15) 0))⟩, [5, 4, 3, 2, 1]),
       (⟨(some 22), 0, none, (.op (.ext (.t 15) 1))⟩, [5, 4, 3, 2, 1]),
       (⟨(some 6), 0, none, (.op (.mov (.t 21)))⟩, [6, 5, 4, 3, 2, 1]),
       (⟨(some 23), 0, none, (.op (.nilck (.t 16)))⟩, [0, 1, 2, 3, 4, 5, 6, 7, 8]),
       (⟨none, 0, none, (.op (.store 2 (.t 23) (.t 22)))⟩, [9, 0, 1, 2, 3, 4, 5, 6, 7, 8])])
     (.seq (.reg 0 [⟨(some 24), 0, none, (.op (.mov (.t 5)))⟩,
       ⟨(some 25), 0, none, (.op (.bin .eql (.t 24) (.k (.d (.int .u64 0)))))⟩,
       ⟨(some 26), 0, none, (.op (.mov (.t 25)))⟩,
       ⟨(some 27), 0, (some (26, false)), (.op (.mov (.t 6)))⟩,
       ⟨(some 28), 0, (some (26, false)), (.op (.mov (.t 5)))⟩,
       ⟨(some 29), 0, (some (26, false)), (.op (.un .neg (.t 28)))⟩,
       ⟨(some 30), 0, (some (26, false)), (.op (.bin .lss (.t 27) (.t 29)))⟩,
       ⟨(some 31), 0, none, (.op (.pick (.t 26) (.k (.d (.bool true))) (.t 30)))⟩])
     (.cond (.t 31)
       (.exit 0)
       (.skip)))))
    (.reg 0 [⟨(some 32), 0, none, (.op (.bin .add (.t 13) (.k (.d (.int .i64 1)))))⟩,
      ⟨(some 13), 0, none, (.op (.mov (.t 32)))⟩])))))))
  (.seq (.reg 0 [⟨(some 33), 0, none, (.op (.mov (.t 6)))⟩,
    ⟨(some 34), 0, none, (.op (.mov (.t 4)))⟩,
    ⟨(some 35), 0, none, (.op (.bin .rem (.t 33) (.t 34)))⟩,
    ⟨(some 36), 0, none, (.op (.conv .i64 (.t 35)))⟩,
    ⟨(some 3), 0, none, (.op (.mov (.t 36)))⟩])
  (.ret))))))
theorem cc49 : Try.f49.body.bind (compC Try.prog) = some ac49 := by kernel_rfl
theorem go49 {vals : List V} {v : V} (ac : AC) (he : ac.erase = ac49) (hw : wpC Try.prog 0 ac (retQ [.tmp 3] v) ⟨vals ++ List.replicate (37 - vals.length) (.tup []), []⟩) : CallP Try.prog 49 vals v :=
  call_of Try.func49 rfl rfl rfl (cc49.trans (congrArg some he.symm)) hw
theorem gi49 {vals : List V} {rows : Go.Vx.Rows} {K : V → Go.Vx.Rows → Prop} (ac : AC) (he : ac.erase = ac49) (hw : wpC Try.prog rows.length ac (retI [.tmp 3] K) ⟨vals ++ List.replicate (37 - vals.length) (.tup []), rows⟩) : InlP Try.prog 49 vals rows K :=
  inl_of' Try.func49 rfl rfl rfl (cc49.trans (congrArg some he.symm)) hw
theorem gm49 {vals : List V} {v : V} {sz : Nat} {es es' : List (List V)} (ac : AC) (he : ac.erase = ac49) (hw : wpC Try.prog 1 ac (retM [.tmp 3] v sz es') ⟨vals ++ List.replicate (37 - vals.length) (.tup []), [.live sz es]⟩) : CallM Try.prog 49 vals sz es v es' :=
  callM_of' Try.func49 rfl rfl rfl (cc49.trans (congrArg some he.symm)) hw

/-- testbench/rng.Next -/
def ac50 : AC :=
  .seq (.reg 2 [⟨(some 1), 0, none, (.op (.box 2 (.t 0)))⟩,
    ⟨(some 2), 1, none, (.op (.mov (.k (.d (.int .u64 0)))))⟩,
    ⟨(some 3), 1, none, (.op (.alloc [(.int .u64 0), (.int .u64 0)]))⟩])
  (.seq (.reg 0 [⟨(some 5), 0, none, (.op (.fldA 0 (.t 1)))⟩,
    ⟨(some 6), 0, none, (.op (.load false 1 (.t 5)))⟩,
    ⟨(some 7), 0, none, (.op (.fldA 1 (.t 1)))⟩,
    ⟨(some 8), 0, none, (.op (.load false 1 (.t 7)))⟩,
    ⟨(some 9), 0, none, (.call (.k (.fn (.func 52) [] [])) [(.t 6), (.t 8)])⟩,
    ⟨(some 4), 0, none, (.op (.mov (.t 9)))⟩])
  (.seq (.reg 0 [⟨(some 10), 0, none, (.op (.fldA 1 (.t 1)))⟩,
    ⟨(some 11), 0, none, (.op (.load false 1 (.t 10)))⟩,
    ⟨(some 12), 0, none, (.op (.bin .add (.t 11) (.k (.d (.int .u64 1)))))⟩,
    ⟨(some 13), 0, none, (.op (.fldA 1 (.t 1)))⟩,
    ⟨none, 0, none, (.op (.store 1 (.t 13) (.t 12)))⟩])
  (.seq (.regD 0 [(⟨(some 14), 0, none, (.op (.mov (.t 4)))⟩, []),
    (⟨(some 15), 0, none, (.op (.load true 2 (.t 1)))⟩, []),
    (⟨(some 2), 0, none, (.op (.mov (.t 14)))⟩, [0]),
    (⟨none, 0, none, (.op (.store 2 (.t 3) (.t 15)))⟩, [1, 2, 0])])
  (.ret))))
theorem cc50 : Try.f50.body.bind (compC Try.prog) = some ac50 := by kernel_rfl
theorem go50 {vals : List V} {v : V} (ac : AC) (he : ac.erase = ac50) (hw : wpC Try.prog 0 ac (retQ [.tmp 2, .cell 3 true 2] v) ⟨vals ++ List.replicate (16 - vals.length) (.tup []), []⟩) : CallP Try.prog 50 vals v :=
  call_of Try.func50 rfl rfl rfl (cc50.trans (congrArg some he.symm)) hw
theorem gi50 {vals : List V} {rows : Go.Vx.Rows} {K : V → Go.Vx.Rows → Prop} (ac : AC) (he : ac.erase = ac50) (hw : wpC Try.prog rows.length ac (retI [.tmp 2, .cell 3 true 2] K) ⟨vals ++ List.replicate (16 - vals.length) (.tup []), rows⟩) : InlP Try.prog 50 vals rows K :=
  inl_of' Try.func50 rfl rfl rfl (cc50.trans (congrArg some he.symm)) hw
theorem gm50 {vals : List V} {v : V} {sz : Nat} {es es' : List (List V)} (ac : AC) (he : ac.erase = ac50) (hw : wpC Try.prog 1 ac (retM [.tmp 2, .cell 3 true 2] v sz es') ⟨vals ++ List.replicate (16 - vals.length) (.tup []), [.live sz es]⟩) : CallM Try.prog 50 vals sz es v es' :=
  callM_of' Try.func50 rfl rfl rfl (cc50.trans (congrArg some he.symm)) hw

/-- testbench/testbenchref06.Next -/
def ac51 : AC :=
  .seq (.reg 2 [⟨(some 1), 0, none, (.op (.box 2 (.t 0)))⟩,
    ⟨(some 2), 1, none, (.op (.mov (.k (.d (.int .u64 0)))))⟩,
    ⟨(some 3), 1, none, (.op (.alloc [(.int .u64 0), (.int .u64 0)]))⟩])
  (.seq (.regD 0 [(⟨(some 4), 0, none, (.op (.fldA 0 (.t 1)))⟩, []),
    (⟨(some 5), 0, none, (.op (.load false 1 (.t 4)))⟩, [0]),
    (⟨(some 6), 0, none, (.op (.fldA 1 (.t 1)))⟩, []),
    (⟨(some 7), 0, none, (.op (.load false 1 (.t 6)))⟩, [2]),
    (⟨(some 8), 0, none, (.call (.k (.fn (.func 53) [] [])) [(.t 5), (.t 7)])⟩, [1, 0, 3, 2]),
    (⟨(some 9), 0, none, (.op (.fldA 0 (.t 1)))⟩, []),
    (⟨(some 10), 0, none, (.op (.load false 1 (.t 9)))⟩, [5]),
    (⟨(some 11), 0, none, (.op (.fldA 1 (.t 1)))⟩, []),
    (⟨(some 12), 0, none, (.op (.load false 1 (.t 11)))⟩, [7]),
    (⟨(some 13), 0, none, (.op (.bin .add (.t 12) (.k (.d (.int .u64 1)))))⟩, [8, 7]),
    (⟨(some 14), 0, none, (.op (.build [(.int .u64 0), (.int .u64 0)] [(0, 1, (.t 10)), (1, 1, (.t 13))]))⟩, [6, 5, 9, 8, 7]),
    (⟨(some 2), 0, none, (.op (.mov (.t 8)))⟩, [4, 1, 0, 3, 2]),
    (⟨none, 0, none, (.op (.store 2 (.t 3) (.t 14)))⟩, [10, 6, 5, 9, 8, 7, 11, 4, 1, 0, 3, 2])])
  (.ret))
theorem cc51 : Try.f51.body.bind (compC Try.prog) = some ac51 := by kernel_rfl
theorem go51 {vals : List V} {v : V} (ac : AC) (he : ac.erase = ac51) (hw : wpC Try.prog 0 ac (retQ [.tmp 2, .cell 3 true 2] v) ⟨vals ++ List.replicate (15 - vals.length) (.tup []), []⟩) : CallP Try.prog 51 vals v :=
  call_of Try.func51 rfl rfl rfl (cc51.trans (congrArg some he.symm)) hw
theorem gi51 {vals : List V} {rows : Go.Vx.Rows} {K : V → Go.Vx.Rows → Prop} (ac : AC) (he : ac.erase = ac51) (hw : wpC Try.prog rows.length ac (retI [.tmp 2, .cell 3 true 2] K) ⟨vals ++ List.replicate (15 - vals.length) (.tup []), rows⟩) : InlP Try.prog 51 vals rows K :=
  inl_of' Try.func51 rfl rfl rfl (cc51.trans (congrArg some he.symm)) hw
theorem gm51 {vals : List V} {v : V} {sz : Nat} {es es' : List (List V)} (ac : AC) (he : ac.erase = ac51) (hw : wpC Try.prog 1 ac (retM [.tmp 2, .cell 3 true 2] v sz es') ⟨vals ++ List.replicate (15 - vals.length) (.tup []), [.live sz es]⟩) : CallM Try.prog 51 vals sz es v es' :=
  callM_of' Try.func51 rfl rfl rfl (cc51.trans (congrArg some he.symm)) hw

/-- testbench/hash.Mix -/
def ac52 : AC :=
  .seq (.reg 0 [⟨(some 4), 0, none, (.op (.mov (.k (.d (.int .u64 0)))))⟩])
  (.seq (.reg 0 [⟨(some 5), 0, none, (.op (.mov (.t 0)))⟩,
    ⟨(some 6), 0, none, (.op (.mov (.t 1)))⟩,
    ⟨(some 7), 0, none, (.op (.bin .add (.t 6) (.k (.d (.int .u64 1)))))⟩,
    ⟨(some 8), 0, none, (.op (.bin .mul (.k (.d (.int .u64 11400714819323198485))) (.t 7)))⟩,
    ⟨(some 9), 0, none, (.op (.bin .add (.t 5) (.t 8)))⟩,
    ⟨(some 10), 0, none, (.call (.k (.fn (.func 54) [] [])) [(.t 9)])⟩,
    ⟨(some 4), 0, none, (.op (.mov (.t 10)))⟩])
  (.ret))
theorem cc52 : Try.f52.body.bind (compC Try.prog) = some ac52 := by kernel_rfl
theorem go52 {vals : List V} {v : V} (ac : AC) (he : ac.erase = ac52) (hw : wpC Try.prog 0 ac (retQ [.tmp 4] v) ⟨vals ++ List.replicate (11 - vals.length) (.tup []), []⟩) : CallP Try.prog 52 vals v :=
  call_of Try.func52 rfl rfl rfl (cc52.trans (congrArg some he.symm)) hw
theorem gi52 {vals : List V} {rows : Go.Vx.Rows} {K : V → Go.Vx.Rows → Prop} (ac : AC) (he : ac.erase = ac52) (hw : wpC Try.prog rows.length ac (retI [.tmp 4] K) ⟨vals ++ List.replicate (11 - vals.length) (.tup []), rows⟩) : InlP Try.prog 52 vals rows K :=
  inl_of' Try.func52 rfl rfl rfl (cc52.trans (congrArg some he.symm)) hw
theorem gm52 {vals : List V} {v : V} {sz : Nat} {es es' : List (List V)} (ac : AC) (he : ac.erase = ac52) (hw : wpC Try.prog 1 ac (retM [.tmp 4] v sz es') ⟨vals ++ List.replicate (11 - vals.length) (.tup []), [.live sz es]⟩) : CallM Try.prog 52 vals sz es v es' :=
  callM_of' Try.func52 rfl rfl rfl (cc52.trans (congrArg some he.symm)) hw

/-- testbench/testbenchref04.Mix -/
def ac53 : AC :=
  .seq (.reg 0 [⟨(some 4), 0, none, (.op (.mov (.k (.d (.int .u64 0)))))⟩])
  (.seq (.reg 0 [⟨(some 5), 0, none, (.op (.mov (.t 0)))⟩,
    ⟨(some 6), 0, none, (.op (.mov (.t 1)))⟩,
    ⟨(some 7), 0, none, (.op (.bin .add (.t 6) (.k (.d (.int .u64 1)))))⟩,
    ⟨(some 8), 0, none, (.op (.bin .mul (.k (.d (.int .u64 11400714819323198485))) (.t 7)))⟩,
    ⟨(some 9), 0, none, (.op (.bin .add (.t 5) (.t 8)))⟩,
    ⟨(some 10), 0, none, (.call (.k (.fn (.func 55) [] [])) [(.t 9)])⟩,
    ⟨(some 4), 0, none, (.op (.mov (.t 10)))⟩])
  (.ret))
theorem cc53 : Try.f53.body.bind (compC Try.prog) = some ac53 := by kernel_rfl
theorem go53 {vals : List V} {v : V} (ac : AC) (he : ac.erase = ac53) (hw : wpC Try.prog 0 ac (retQ [.tmp 4] v) ⟨vals ++ List.replicate (11 - vals.length) (.tup []), []⟩) : CallP Try.prog 53 vals v :=
  call_of Try.func53 rfl rfl rfl (cc53.trans (congrArg some he.symm)) hw
theorem gi53 {vals : List V} {rows : Go.Vx.Rows} {K : V → Go.Vx.Rows → Prop} (ac : AC) (he : ac.erase = ac53) (hw : wpC Try.prog rows.length ac (retI [.tmp 4] K) ⟨vals ++ List.replicate (11 - vals.length) (.tup []), rows⟩) : InlP Try.prog 53 vals rows K :=
  inl_of' Try.func53 rfl rfl rfl (cc53.trans (congrArg some he.symm)) hw
theorem gm53 {vals : List V} {v : V} {sz : Nat} {es es' : List (List V)} (ac : AC) (he : ac.erase = ac53) (hw : wpC Try.prog 1 ac (retM [.tmp 4] v sz es') ⟨vals ++ List.replicate (11 - vals.length) (.tup []), [.live sz es]⟩) : CallM Try.prog 53 vals sz es v es' :=
  callM_of' Try.func53 rfl rfl rfl (cc53.trans (congrArg some he.symm)) hw

/-- testbench/hash.Finish -/
def ac54 : AC :=
  .seq (.reg 0 [⟨(some 2), 0, none, (.op (.mov (.k (.d (.int .u64 0)))))⟩])
  (.seq (.reg 0 [⟨(some 3), 0, none, (.op (.mov (.t 0)))⟩,
    ⟨(some 4), 0, none, (.op (.mov (.t 0)))⟩,
    ⟨(some 5), 0, none, (.op (.bin .shr (.t 4) (.k (.d (.int .u64 30)))))⟩,
    ⟨(some 6), 0, none, (.op (.bin .xor (.t 3) (.t 5)))⟩,
    ⟨(some 7), 0, none, (.op (.bin .mul (.t 6) (.k (.d (.int .u64 13787848793156543929)))))⟩,
    ⟨(some 0), 0, none, (.op (.mov (.t 7)))⟩])
  (.seq (.reg 0 [⟨(some 8), 0, none, (.op (.mov (.t 0)))⟩,
    ⟨(some 9), 0, none, (.op (.mov (.t 0)))⟩,
    ⟨(some 10), 0, none, (.op (.bin .shr (.t 9) (.k (.d (.int .u64 27)))))⟩,
    ⟨(some 11), 0, none, (.op (.bin .xor (.t 8) (.t 10)))⟩,
    ⟨(some 12), 0, none, (.op (.bin .mul (.t 11) (.k (.d (.int .u64 10723151780598845931)))))⟩,
    ⟨(some 0), 0, none, (.op (.mov (.t 12)))⟩])
  (.seq (.reg 0 [⟨(some 13), 0, none, (.op (.mov (.t 0)))⟩,
    ⟨(some 14), 0, none, (.op (.mov (.t 0)))⟩,
    ⟨(some 15), 0, none, (.op (.bin .shr (.t 14) (.k (.d (.int .u64 31)))))⟩,
    ⟨(some 16), 0, none, (.op (.bin .xor (.t 13) (.t 15)))⟩,
    ⟨(some 2), 0, none, (.op (.mov (.t 16)))⟩])
  (.ret))))
theorem cc54 : Try.f54.body.bind (compC Try.prog) = some ac54 := by kernel_rfl
theorem go54 {vals : List V} {v : V} (ac : AC) (he : ac.erase = ac54) (hw : wpC Try.prog 0 ac (retQ [.tmp 2] v) ⟨vals ++ List.replicate (17 - vals.length) (.tup []), []⟩) : CallP Try.prog 54 vals v :=
  call_of Try.func54 rfl rfl rfl (cc54.trans (congrArg some he.symm)) hw
theorem gi54 {vals : List V} {rows : Go.Vx.Rows} {K : V → Go.Vx.Rows → Prop} (ac : AC) (he : ac.erase = ac54) (hw : wpC Try.prog rows.length ac (retI [.tmp 2] K) ⟨vals ++ List.replicate (17 - vals.length) (.tup []), rows⟩) : InlP Try.prog 54 vals rows K :=
  inl_of' Try.func54 rfl rfl rfl (cc54.trans (congrArg some he.symm)) hw
theorem gm54 {vals : List V} {v : V} {sz : Nat} {es es' : List (List V)} (ac : AC) (he : ac.erase = ac54) (hw : wpC Try.prog 1 ac (retM [.tmp 2] v sz es') ⟨vals ++ List.replicate (17 - vals.length) (.tup []), [.live sz es]⟩) : CallM Try.prog 54 vals sz es v es' :=
  callM_of' Try.func54 rfl rfl rfl (cc54.trans (congrArg some he.symm)) hw

/-- testbench/testbenchref04.Finish -/
def ac55 : AC :=
  .seq (.reg 0 [⟨(some 2), 0, none, (.op (.mov (.k (.d (.int .u64 0)))))⟩])
  (.seq (.reg 0 [⟨(some 3), 0, none, (.op (.mov (.t 0)))⟩,
    ⟨(some 4), 0, none, (.op (.mov (.t 0)))⟩,
    ⟨(some 5), 0, none, (.op (.bin .shr (.t 4) (.k (.d (.int .u64 30)))))⟩,
    ⟨(some 6), 0, none, (.op (.bin .xor (.t 3) (.t 5)))⟩,
    ⟨(some 0), 0, none, (.op (.mov (.t 6)))⟩])
  (.seq (.reg 0 [⟨(some 7), 0, none, (.op (.mov (.t 0)))⟩,
    ⟨(some 8), 0, none, (.op (.bin .mul (.t 7) (.k (.d (.int .u64 13787848793156543929)))))⟩,
    ⟨(some 0), 0, none, (.op (.mov (.t 8)))⟩])
  (.seq (.reg 0 [⟨(some 9), 0, none, (.op (.mov (.t 0)))⟩,
    ⟨(some 10), 0, none, (.op (.mov (.t 0)))⟩,
    ⟨(some 11), 0, none, (.op (.bin .shr (.t 10) (.k (.d (.int .u64 27)))))⟩,
    ⟨(some 12), 0, none, (.op (.bin .xor (.t 9) (.t 11)))⟩,
    ⟨(some 0), 0, none, (.op (.mov (.t 12)))⟩])
  (.seq (.reg 0 [⟨(some 13), 0, none, (.op (.mov (.t 0)))⟩,
    ⟨(some 14), 0, none, (.op (.bin .mul (.t 13) (.k (.d (.int .u64 10723151780598845931)))))⟩,
    ⟨(some 0), 0, none, (.op (.mov (.t 14)))⟩])
  (.seq (.reg 0 [⟨(some 15), 0, none, (.op (.mov (.t 0)))⟩,
    ⟨(some 16), 0, none, (.op (.mov (.t 0)))⟩,
    ⟨(some 17), 0, none, (.op (.bin .shr (.t 16) (.k (.d (.int .u64 31)))))⟩,
    ⟨(some 18), 0, none, (.op (.bin .xor (.t 15) (.t 17)))⟩,
    ⟨(some 2), 0, none, (.op (.mov (.t 18)))⟩])
  (.ret))))))
theorem cc55 : Try.f55.body.bind (compC Try.prog) = some ac55 := by kernel_rfl
theorem go55 {vals : List V} {v : V} (ac : AC) (he : ac.erase = ac55) (hw : wpC Try.prog 0 ac (retQ [.tmp 2] v) ⟨vals ++ List.replicate (19 - vals.length) (.tup []), []⟩) : CallP Try.prog 55 vals v :=
  call_of Try.func55 rfl rfl rfl (cc55.trans (congrArg some he.symm)) hw
theorem gi55 {vals : List V} {rows : Go.Vx.Rows} {K : V → Go.Vx.Rows → Prop} (ac : AC) (he : ac.erase = ac55) (hw : wpC Try.prog rows.length ac (retI [.tmp 2] K) ⟨vals ++ List.replicate (19 - vals.length) (.tup []), rows⟩) : InlP Try.prog 55 vals rows K :=
  inl_of' Try.func55 rfl rfl rfl (cc55.trans (congrArg some he.symm)) hw
theorem gm55 {vals : List V} {v : V} {sz : Nat} {es es' : List (List V)} (ac : AC) (he : ac.erase = ac55) (hw : wpC Try.prog 1 ac (retM [.tmp 2] v sz es') ⟨vals ++ List.replicate (19 - vals.length) (.tup []), [.live sz es]⟩) : CallM Try.prog 55 vals sz es v es' :=
  callM_of' Try.func55 rfl rfl rfl (cc55.trans (congrArg some he.symm)) hw

/-- the functions -/
def tab : Tab := tabOf [(3, ac3, 38, [.tmp 2]), (4, ac4, 15, [.tmp 2]), (5, ac5, 101, [.tmp 4]), (6, ac6, 85, [.tmp 4]), (7, ac7, 52, [.tmp 6]), (8, ac8, 103, [.tmp 4]), (9, ac9, 53, [.tmp 2]), (10, ac10, 31, [.tmp 0]), (11, ac11, 30, [.tmp 2]), (12, ac12, 27, [.tmp 4]), (13, ac13, 34, [.tmp 2]), (14, ac14, 47, [.tmp 2]), (15, ac15, 96, [.tmp 2]), (16, ac16, 25, [.tmp 2]), (17, ac17, 19, [.tmp 2]), (18, ac18, 36, [.tmp 2]), (19, ac19, 44, [.tmp 4]), (20, ac20, 43, [.tmp 4]), (21, ac21, 6, [.tmp 2]), (22, ac22, 23, [.tmp 2]), (23, ac23, 90, [.tmp 6, .tmp 7]), (24, ac24, 109, [.tmp 6, .tmp 7]), (25, ac25, 53, [.tmp 2, .tmp 3]), (26, ac26, 5, [.cell 2 true 4]), (27, ac27, 24, [.tmp 2]), (28, ac28, 18, [.tmp 2]), (29, ac29, 13, [.tmp 2]), (30, ac30, 23, [.cell 2 true 4]), (31, ac31, 24, [.tmp 4]), (32, ac32, 19, [.tmp 4]), (33, ac33, 20, [.tmp 2]), (34, ac34, 16, [.cell 2 true 4]), (35, ac35, 25, [.tmp 2]), (36, ac36, 24, [.tmp 4]), (37, ac37, 42, [.tmp 4]), (38, ac38, 8, [.tmp 2]), (39, ac39, 5, [.tmp 2]), (40, ac40, 40, [.tmp 4, .cell 5 true 2, .tmp 6]), (41, ac41, 66, [.tmp 4, .cell 5 true 2, .tmp 6]), (42, ac42, 59, [.tmp 4]), (43, ac43, 8, [.tmp 2]), (44, ac44, 8, [.tmp 2]), (45, ac45, 19, [.tmp 4]), (46, ac46, 28, [.tmp 2, .tmp 3]), (47, ac47, 4, [.tmp 2]), (48, ac48, 55, [.tmp 4, .cell 5 true 2, .tmp 6]), (49, ac49, 37, [.tmp 3]), (50, ac50, 16, [.tmp 2, .cell 3 true 2]), (51, ac51, 15, [.tmp 2, .cell 3 true 2]), (52, ac52, 11, [.tmp 4]), (53, ac53, 11, [.tmp 4]), (54, ac54, 17, [.tmp 2]), (55, ac55, 19, [.tmp 2])]
theorem tab_ok : TabOk Try.prog tab :=
  tabOf_cons (fun _ _ h => go3 ac3 rfl h) (tabOf_cons (fun _ _ h => go4 ac4 rfl h) (tabOf_cons (fun _ _ h => go5 ac5 rfl h) (tabOf_cons (fun _ _ h => go6 ac6 rfl h) (tabOf_cons (fun _ _ h => go7 ac7 rfl h) (tabOf_cons (fun _ _ h => go8 ac8 rfl h) (tabOf_cons (fun _ _ h => go9 ac9 rfl h) (tabOf_cons (fun _ _ h => go10 ac10 rfl h) (tabOf_cons (fun _ _ h => go11 ac11 rfl h) (tabOf_cons (fun _ _ h => go12 ac12 rfl h) (tabOf_cons (fun _ _ h => go13 ac13 rfl h) (tabOf_cons (fun _ _ h => go14 ac14 rfl h) (tabOf_cons (fun _ _ h => go15 ac15 rfl h) (tabOf_cons (fun _ _ h => go16 ac16 rfl h) (tabOf_cons (fun _ _ h => go17 ac17 rfl h) (tabOf_cons (fun _ _ h => go18 ac18 rfl h) (tabOf_cons (fun _ _ h => go19 ac19 rfl h) (tabOf_cons (fun _ _ h => go20 ac20 rfl h) (tabOf_cons (fun _ _ h => go21 ac21 rfl h) (tabOf_cons (fun _ _ h => go22 ac22 rfl h) (tabOf_cons (fun _ _ h => go23 ac23 rfl h) (tabOf_cons (fun _ _ h => go24 ac24 rfl h) (tabOf_cons (fun _ _ h => go25 ac25 rfl h) (tabOf_cons (fun _ _ h => go26 ac26 rfl h) (tabOf_cons (fun _ _ h => go27 ac27 rfl h) (tabOf_cons (fun _ _ h => go28 ac28 rfl h) (tabOf_cons (fun _ _ h => go29 ac29 rfl h) (tabOf_cons (fun _ _ h => go30 ac30 rfl h) (tabOf_cons (fun _ _ h => go31 ac31 rfl h) (tabOf_cons (fun _ _ h => go32 ac32 rfl h) (tabOf_cons (fun _ _ h => go33 ac33 rfl h) (tabOf_cons (fun _ _ h => go34 ac34 rfl h) (tabOf_cons (fun _ _ h => go35 ac35 rfl h) (tabOf_cons (fun _ _ h => go36 ac36 rfl h) (tabOf_cons (fun _ _ h => go37 ac37 rfl h) (tabOf_cons (fun _ _ h => go38 ac38 rfl h) (tabOf_cons (fun _ _ h => go39 ac39 rfl h) (tabOf_cons (fun _ _ h => go40 ac40 rfl h) (tabOf_cons (fun _ _ h => go41 ac41 rfl h) (tabOf_cons (fun _ _ h => go42 ac42 rfl h) (tabOf_cons (fun _ _ h => go43 ac43 rfl h) (tabOf_cons (fun _ _ h => go44 ac44 rfl h) (tabOf_cons (fun _ _ h => go45 ac45 rfl h) (tabOf_cons (fun _ _ h => go46 ac46 rfl h) (tabOf_cons (fun _ _ h => go47 ac47 rfl h) (tabOf_cons (fun _ _ h => go48 ac48 rfl h) (tabOf_cons (fun _ _ h => go49 ac49 rfl h) (tabOf_cons (fun _ _ h => go50 ac50 rfl h) (tabOf_cons (fun _ _ h => go51 ac51 rfl h) (tabOf_cons (fun _ _ h => go52 ac52 rfl h) (tabOf_cons (fun _ _ h => go53 ac53 rfl h) (tabOf_cons (fun _ _ h => go54 ac54 rfl h) (tabOf_cons (fun _ _ h => go55 ac55 rfl h) (tabOf_nil)))))))))))))))))))))))))))))))))))))))))))))))))))))
end Go.Proofs.Ar
