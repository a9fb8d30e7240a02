import Derived.Test.YtgdipflkmafpcaaVxEv2
import Derived.KernelRfl
import Derived.Test.YtgdipflkmafpcaaProg
set_option linter.unusedSimpArgs false
set_option linter.unusedVariables false
namespace Go.Proofs.Rf
open Go.Vx

/-- testbench/testbenchlaw38.RefmodelNames -/
def ac3 : AC :=
  .seq (.reg 0 [⟨(some 2), 0, none, (.op (.mov (.k (.d (.bool false)))))⟩])
  (.seq (.reg 0 [⟨(some 6), 0, none, (.call (.k (.fn (.func 10) [] [])) [])⟩,
    ⟨(some 7), 0, none, (.call (.k (.fn (.func 11) [] [])) [])⟩,
    ⟨(some 3), 0, none, (.op (.mov (.t 6)))⟩,
    ⟨(some 4), 0, none, (.op (.mov (.t 7)))⟩])
  (.seq (.seq (.reg 0 [⟨(some 8), 0, none, (.op (.mov (.t 3)))⟩,
    ⟨(some 9), 0, none, (.op (.len false (.t 8)))⟩,
    ⟨(some 10), 0, none, (.op (.mov (.t 4)))⟩,
    ⟨(some 11), 0, none, (.op (.len false (.t 10)))⟩,
    ⟨(some 12), 0, none, (.op (.bin .neq (.t 9) (.t 11)))⟩,
    ⟨(some 13), 0, none, (.op (.mov (.t 12)))⟩,
    ⟨(some 14), 0, (some (13, false)), (.op (.mov (.t 0)))⟩,
    ⟨(some 15), 0, (some (13, false)), (.call (.k (.fn (.func 12) [] [])) [(.t 14)])⟩,
    ⟨(some 16), 0, (some (13, false)), (.op (.mov (.t 0)))⟩,
    ⟨(some 17), 0, (some (13, false)), (.call (.k (.fn (.func 13) [] [])) [(.t 16)])⟩,
    ⟨(some 18), 0, (some (13, false)), (.op (.eqB true (.t 15) (.t 17)))⟩,
    ⟨(some 19), 0, none, (.op (.pick (.t 13) (.k (.d (.bool true))) (.t 18)))⟩])
  (.cond (.t 19)
    (.seq (.reg 0 [⟨(some 2), 0, none, (.op (.mov (.k (.d (.bool false)))))⟩])
    (.ret))
    (.skip)))
  (.seq (.seq (.reg 0 [⟨(some 5), 0, none, (.op (.mov (.k (.d (.int .i64 0)))))⟩])
  (.block 0
   (.loop
    (.seq (.seq (.reg 0 [⟨(some 20), 0, none, (.op (.mov (.t 5)))⟩,
      ⟨(some 21), 0, none, (.op (.mov (.t 3)))⟩,
      ⟨(some 22), 0, none, (.op (.len false (.t 21)))⟩,
      ⟨(some 23), 0, none, (.op (.bin .lss (.t 20) (.t 22)))⟩])
    (.cond (.t 23)
      (.skip)
      (.exit 0)))
    (.seq (.block 1
     (.seq (.regD 0 [(⟨(some 26), 0, none, (.op (.mov (.t 3)))⟩, []),
       (⟨(some 27), 0, none, (.op (.mov (.t 5)))⟩, []),
       (⟨(some 28), 0, none, (.op (.idxA 1 none (.t 26) (.t 27)))⟩, [0, 1]),
       (⟨(some 29), 0, none, (.op (.load false 1 (.t 28)))⟩, [2, 0, 1]),
       (⟨(some 30), 0, none, (.op (.mov (.t 4)))⟩, []),
       (⟨(some 31), 0, none, (.op (.mov (.t 5)))⟩, []),
       (⟨(some 32), 0, none, (.op (.idxA 1 none (.t 30) (.t 31)))⟩, [4, 5]),
       (⟨(some 33), 0, none, (.op (.load false 1 (.t 32)))⟩, [6, 4, 5]),
       (⟨(some 34), 0, none, (.op (.bin .neq (.t 29) (.t 33)))⟩, [3, 2, 0, 1, 7, 6, 4, 5])])
     (.cond (.t 34)
       (.seq (.reg 0 [⟨(some 2), 0, none, (.op (.mov (.k (.d (.bool false)))))⟩])
       (.ret))
       (.skip))))
    (.reg 0 [⟨(some 24), 0, none, (.op (.mov (.t 5)))⟩,
      ⟨(some 25), 0, none, (.op (.bin .add (.t 24) (.k (.d (.int .i64 1)))))⟩,
      ⟨(some 5), 0, none, (.op (.mov (.t 25)))⟩]))))))
  (.seq (.reg 0 [⟨(some 35), 0, none, (.call (.k (.fn (.func 14) [] [])) [])⟩,
    ⟨(some 2), 0, none, (.op (.mov (.t 35)))⟩])
  (.ret)))))
theorem cc3 : Try.f3.body.bind (compC Try.prog) = some ac3 := by kernel_rfl
theorem go3 {vals : List V} {v : V} (ac : AC) (he : ac.erase = ac3) (hw : wpC Try.prog 0 ac (retQ [.tmp 2] v) ⟨vals ++ List.replicate (36 - vals.length) (.tup []), []⟩) : CallP Try.prog 3 vals v :=
  call_of Try.func3 rfl rfl rfl (cc3.trans (congrArg some he.symm)) hw

/-- testbench/testbenchlaw38.RefmodelExpects -/
def ac4 : AC :=
  .seq (.reg 0 [⟨(some 4), 0, none, (.op (.mov (.k (.d (.bool false)))))⟩])
  (.seq (.seq (.reg 0 [⟨(some 9), 0, none, (.op (.mov (.t 1)))⟩,
    ⟨(some 10), 0, none, (.call (.k (.fn (.func 15) [] [])) [(.t 9)])⟩,
    ⟨(some 11), 0, none, (.op (.un .not (.t 10)))⟩])
  (.cond (.t 11)
    (.seq (.reg 0 [⟨(some 12), 0, none, (.call (.k (.fn (.func 14) [] [])) [])⟩,
      ⟨(some 4), 0, none, (.op (.mov (.t 12)))⟩])
    (.ret))
    (.skip)))
  (.seq (.reg 0 [⟨(some 14), 0, none, (.op (.mov (.t 0)))⟩,
    ⟨(some 15), 0, none, (.op (.mov (.t 1)))⟩,
    ⟨(some 16), 0, none, (.call (.k (.fn (.func 16) [] [])) [(.t 14), (.t 15)])⟩,
    ⟨(some 13), 0, none, (.op (.mov (.t 16)))⟩,
    ⟨(some 17), 0, none, (.op (.ext (.t 13) 0))⟩,
    ⟨(some 18), 0, none, (.op (.ext (.t 13) 1))⟩,
    ⟨(some 5), 0, none, (.op (.mov (.t 17)))⟩,
    ⟨(some 6), 0, none, (.op (.mov (.t 18)))⟩])
  (.seq (.reg 0 [⟨(some 20), 0, none, (.op (.mov (.t 0)))⟩,
    ⟨(some 21), 0, none, (.op (.mov (.t 1)))⟩,
    ⟨(some 22), 0, none, (.call (.k (.fn (.func 17) [] [])) [(.t 20), (.t 21)])⟩,
    ⟨(some 19), 0, none, (.op (.mov (.t 22)))⟩,
    ⟨(some 23), 0, none, (.op (.ext (.t 19) 0))⟩,
    ⟨(some 24), 0, none, (.op (.ext (.t 19) 1))⟩,
    ⟨(some 7), 0, none, (.op (.mov (.t 23)))⟩,
    ⟨(some 8), 0, none, (.op (.mov (.t 24)))⟩])
  (.seq (.reg 0 [⟨(some 25), 0, none, (.op (.mov (.t 6)))⟩,
    ⟨(some 26), 0, none, (.op (.mov (.t 8)))⟩,
    ⟨(some 27), 0, none, (.op (.bin .eql (.t 25) (.t 26)))⟩,
    ⟨(some 28), 0, none, (.op (.mov (.t 27)))⟩,
    ⟨(some 29), 0, (some (28, true)), (.op (.mov (.t 5)))⟩,
    ⟨(some 30), 0, (some (28, true)), (.op (.mov (.t 7)))⟩,
    ⟨(some 31), 0, (some (28, true)), (.call (.k (.fn (.func 18) [] [])) [(.t 29), (.t 30)])⟩,
    ⟨(some 32), 0, none, (.op (.pick (.t 28) (.t 31) (.k (.d (.bool false)))))⟩,
    ⟨(some 33), 0, none, (.op (.mov (.t 32)))⟩,
    ⟨(some 34), 0, (some (33, true)), (.call (.k (.fn (.func 14) [] [])) [])⟩,
    ⟨(some 35), 0, none, (.op (.pick (.t 33) (.t 34) (.k (.d (.bool false)))))⟩,
    ⟨(some 4), 0, none, (.op (.mov (.t 35)))⟩])
  (.ret)))))
theorem cc4 : Try.f4.body.bind (compC Try.prog) = some ac4 := by kernel_rfl
theorem go4 {vals : List V} {v : V} (ac : AC) (he : ac.erase = ac4) (hw : wpC Try.prog 0 ac (retQ [.tmp 4] v) ⟨vals ++ List.replicate (36 - vals.length) (.tup []), []⟩) : CallP Try.prog 4 vals v :=
  call_of Try.func4 rfl rfl rfl (cc4.trans (congrArg some he.symm)) hw

/-- testbench/testbenchlaw38.RefmodelLocal -/
def ac5 : AC :=
  .seq (.reg 0 [⟨(some 6), 0, none, (.op (.mov (.k (.d (.bool false)))))⟩])
  (.seq (.seq (.reg 0 [⟨(some 14), 0, none, (.op (.mov (.t 1)))⟩,
    ⟨(some 15), 0, none, (.call (.k (.fn (.func 15) [] [])) [(.t 14)])⟩,
    ⟨(some 16), 0, none, (.op (.un .not (.t 15)))⟩,
    ⟨(some 17), 0, none, (.op (.mov (.t 16)))⟩,
    ⟨(some 18), 0, (some (17, false)), (.op (.mov (.t 2)))⟩,
    ⟨(some 19), 0, (some (17, false)), (.call (.k (.fn (.func 15) [] [])) [(.t 18)])⟩,
    ⟨(some 20), 0, (some (17, false)), (.op (.un .not (.t 19)))⟩,
    ⟨(some 21), 0, none, (.op (.pick (.t 17) (.k (.d (.bool true))) (.t 20)))⟩,
    ⟨(some 22), 0, none, (.op (.mov (.t 21)))⟩,
    ⟨(some 23), 0, (some (22, false)), (.op (.mov (.t 2)))⟩,
    ⟨(some 24), 0, (some (22, false)), (.op (.len false (.t 23)))⟩,
    ⟨(some 25), 0, (some (22, false)), (.op (.mov (.t 1)))⟩,
    ⟨(some 26), 0, (some (22, false)), (.op (.len false (.t 25)))⟩,
    ⟨(some 27), 0, (some (22, false)), (.op (.bin .lss (.t 24) (.t 26)))⟩,
    ⟨(some 28), 0, none, (.op (.pick (.t 22) (.k (.d (.bool true))) (.t 27)))⟩])
  (.cond (.t 28)
    (.seq (.reg 0 [⟨(some 29), 0, none, (.call (.k (.fn (.func 14) [] [])) [])⟩,
      ⟨(some 6), 0, none, (.op (.mov (.t 29)))⟩])
    (.ret))
    (.skip)))
  (.seq (.reg 0 [⟨(some 31), 0, none, (.op (.mov (.t 0)))⟩,
    ⟨(some 32), 0, none, (.op (.mov (.t 1)))⟩,
    ⟨(some 33), 0, none, (.call (.k (.fn (.func 16) [] [])) [(.t 31), (.t 32)])⟩,
    ⟨(some 30), 0, none, (.op (.mov (.t 33)))⟩,
    ⟨(some 34), 0, none, (.op (.ext (.t 30) 0))⟩,
    ⟨(some 35), 0, none, (.op (.ext (.t 30) 1))⟩,
    ⟨(some 7), 0, none, (.op (.mov (.t 34)))⟩,
    ⟨(some 8), 0, none, (.op (.mov (.t 35)))⟩])
  (.seq (.seq (.reg 0 [⟨(some 36), 0, none, (.op (.mov (.t 8)))⟩,
    ⟨(some 37), 0, none, (.op (.bin .neq (.t 36) (.k (.d (.int .i64 0)))))⟩,
    ⟨(some 38), 0, none, (.op (.mov (.t 37)))⟩,
    ⟨(some 39), 0, (some (38, false)), (.op (.mov (.t 7)))⟩,
    ⟨(some 40), 0, (some (38, false)), (.op (.len false (.t 39)))⟩,
    ⟨(some 41), 0, (some (38, false)), (.op (.mov (.t 1)))⟩,
    ⟨(some 42), 0, (some (38, false)), (.op (.len false (.t 41)))⟩,
    ⟨(some 43), 0, (some (38, false)), (.op (.bin .neq (.t 40) (.t 42)))⟩,
    ⟨(some 44), 0, none, (.op (.pick (.t 38) (.k (.d (.bool true))) (.t 43)))⟩])
  (.cond (.t 44)
    (.seq (.reg 0 [⟨(some 45), 0, none, (.op (.mov (.t 8)))⟩,
      ⟨(some 46), 0, none, (.op (.bin .neq (.t 45) (.k (.d (.int .i64 0)))))⟩,
      ⟨(some 47), 0, none, (.op (.mov (.t 46)))⟩,
      ⟨(some 48), 0, (some (47, true)), (.call (.k (.fn (.func 14) [] [])) [])⟩,
      ⟨(some 49), 0, none, (.op (.pick (.t 47) (.t 48) (.k (.d (.bool false)))))⟩,
      ⟨(some 6), 0, none, (.op (.mov (.t 49)))⟩])
    (.ret))
    (.skip)))
  (.seq (.seq (.reg 0 [⟨(some 9), 0, none, (.op (.mov (.k (.d (.int .i64 0)))))⟩])
  (.block 0
   (.loop
    (.seq (.seq (.reg 0 [⟨(some 50), 0, none, (.op (.mov (.t 9)))⟩,
      ⟨(some 51), 0, none, (.op (.mov (.t 1)))⟩,
      ⟨(some 52), 0, none, (.op (.len false (.t 51)))⟩,
      ⟨(some 53), 0, none, (.op (.bin .lss (.t 50) (.t 52)))⟩])
    (.cond (.t 53)
      (.skip)
      (.exit 0)))
    (.seq (.block 1
     (.seq (.reg 0 [⟨(some 10), 0, none, (.op (.mov (.k (.d .nils))))⟩])
     (.seq (.seq (.reg 0 [⟨(some 11), 0, none, (.op (.mov (.k (.d (.int .i64 0)))))⟩])
     (.block 2
      (.loop
       (.seq (.seq (.reg 0 [⟨(some 56), 0, none, (.op (.mov (.t 11)))⟩,
         ⟨(some 57), 0, none, (.op (.mov (.t 1)))⟩,
         ⟨(some 58), 0, none, (.op (.len false (.t 57)))⟩,
         ⟨(some 59), 0, none, (.op (.bin .lss (.t 56) (.t 58)))⟩])
       (.cond (.t 59)
         (.skip)
         (.exit 2)))
       (.seq (.block 3
        (.seq (.reg 0 [⟨(some 62), 0, none, (.op (.mov (.t 11)))⟩,
          ⟨(some 63), 0, none, (.op (.mov (.t 9)))⟩,
          ⟨(some 64), 0, none, (.op (.bin .eql (.t 62) (.t 63)))⟩])
        (.cond (.t 64)
          (.reg 2 [⟨(some 65), 0, none, (.op (.mov (.t 10)))⟩,
            ⟨(some 66), 0, none, (.op (.mov (.t 1)))⟩,
            ⟨(some 67), 0, none, (.op (.mov (.t 11)))⟩,
            ⟨(some 68), 0, none, (.op (.idxA 2 none (.t 66) (.t 67)))⟩,
            ⟨(some 69), 0, none, (.op (.load true 2 (.t 68)))⟩,
            ⟨(some 70), 0, none, (.op (.buildSl 2 1 [.nils, .nils] [(0, (.t 69))]))⟩,
            ⟨(some 71), 1, none, (.op (.append 2 48 (.t 65) (.t 70)))⟩,
            ⟨(some 10), 2, none, (.op (.mov (.t 71)))⟩])
          (.reg 2 [⟨(some 72), 0, none, (.op (.mov (.t 10)))⟩,
            ⟨(some 73), 0, none, (.op (.mov (.t 2)))⟩,
            ⟨(some 74), 0, none, (.op (.mov (.t 11)))⟩,
            ⟨(some 75), 0, none, (.op (.idxA 2 none (.t 73) (.t 74)))⟩,
            ⟨(some 76), 0, none, (.op (.load true 2 (.t 75)))⟩,
            ⟨(some 77), 0, none, (.op (.buildSl 2 1 [.nils, .nils] [(0, (.t 76))]))⟩,
            ⟨(some 78), 1, none, (.op (.append 2 48 (.t 72) (.t 77)))⟩,
            ⟨(some 10), 2, none, (.op (.mov (.t 78)))⟩]))))
       (.reg 0 [⟨(some 60), 0, none, (.op (.mov (.t 11)))⟩,
         ⟨(some 61), 0, none, (.op (.bin .add (.t 60) (.k (.d (.int .i64 1)))))⟩,
         ⟨(some 11), 0, none, (.op (.mov (.t 61)))⟩]))))))
     (.seq (.reg 0 [⟨(some 80), 0, none, (.op (.mov (.t 0)))⟩,
       ⟨(some 81), 0, none, (.op (.mov (.t 10)))⟩,
       ⟨(some 82), 0, none, (.call (.k (.fn (.func 16) [] [])) [(.t 80), (.t 81)])⟩,
       ⟨(some 79), 0, none, (.op (.mov (.t 82)))⟩,
       ⟨(some 83), 0, none, (.op (.ext (.t 79) 0))⟩,
       ⟨(some 84), 0, none, (.op (.ext (.t 79) 1))⟩,
       ⟨(some 12), 0, none, (.op (.mov (.t 83)))⟩,
       ⟨(some 13), 0, none, (.op (.mov (.t 84)))⟩])
     (.seq (.regD 0 [(⟨(some 85), 0, none, (.op (.mov (.t 13)))⟩, []),
       (⟨(some 86), 0, none, (.op (.bin .eql (.t 85) (.k (.d (.int .i64 0)))))⟩, [0]),
       (⟨(some 87), 0, none, (.op (.mov (.t 86)))⟩, [1, 0]),
       (⟨(some 88), 0, (some (87, true)), (.op (.mov (.t 12)))⟩, [2, 1, 0]),
       (⟨(some 89), 0, (some (87, true)), (.op (.len false (.t 88)))⟩, [3, 2, 1, 0]),
       (⟨(some 90), 0, (some (87, true)), (.op (.mov (.t 7)))⟩, [2, 1, 0]),
       (⟨(some 91), 0, (some (87, true)), (.op (.len false (.t 90)))⟩, [5, 2, 1, 0]),
       (⟨(some 92), 0, (some (87, true)), (.op (.bin .neq (.t 89) (.t 91)))⟩, [4, 3, 2, 1, 0, 6, 5]),
       (⟨(some 93), 0, (some (87, true)), (.op (.mov (.t 92)))⟩, [7, 4, 3, 2, 1, 0, 6, 5]),
       (⟨(some 94), 0, (some (93, false)), (.op (.mov (.t 7)))⟩, [8, 7, 4, 3, 2, 1, 0, 6, 5]),
       (⟨(some 95), 0, (some (93, false)), (.op (.mov (.t 9)))⟩, [8, 7, 4, 3, 2, 1, 0, 6, 5]),
       (⟨(some 96), 0, (some (93, false)), (.op (.idxA 2 none (.t 94) (.t 95)))⟩, [9, 8, 7, 4, 3, 2, 1, 0, 6, 5, 10]),
       (⟨(some 97), 0, (some (93, false)), (.op (.load true 2 (.t 96)))⟩, [11, 9, 8, 7, 4, 3, 2, 1, 0, 6, 5, 10]),
       (⟨(some 98), 0, (some (93, false)), (.op (.mov (.t 12)))⟩, [8, 7, 4, 3, 2, 1, 0, 6, 5]),
       (⟨(some 99), 0, (some (93, false)), (.op (.mov (.t 9)))⟩, [8, 7, 4, 3, 2, 1, 0, 6, 5]),
       (⟨(some 100), 0, (some (93, false)), (.op (.idxA 2 none (.t 98) (.t 99)))⟩, [13, 8, 7, 4, 3, 2, 1, 0, 6, 5, 14]),
       (⟨(some 101), 0, (some (93, false)), (.op (.load true 2 (.t 100)))⟩, [15, 13, 8, 7, 4, 3, 2, 1, 0, 6, 5, 14]),
       (⟨(some 102), 0, (some (93, false)), (.call (.k (.fn (.func 19) [] [])) [(.t 97), (.t 101)])⟩, [12, 11, 9, 8, 7, 4, 3, 2, 1, 0, 6, 5, 10, 16, 15, 13, 14]),
       (⟨(some 103), 0, (some (93, false)), (.op (.un .not (.t 102)))⟩, [17, 12, 11, 9, 8, 7, 4, 3, 2, 1, 0, 6, 5, 10, 16, 15, 13, 14]),
       (⟨(some 104), 0, (some (87, true)), (.op (.pick (.t 93) (.k (.d (.bool true))) (.t 103)))⟩, [8, 7, 4, 3, 2, 1, 0, 6, 5, 18, 17, 12, 11, 9, 10, 16, 15, 13, 14]),
       (⟨(some 105), 0, none, (.op (.pick (.t 87) (.t 104) (.k (.d (.bool false)))))⟩, [2, 1, 0, 19, 8, 7, 4, 3, 6, 5, 18, 17, 12, 11, 9, 10, 16, 15, 13, 14])])
     (.cond (.t 105)
       (.seq (.reg 0 [⟨(some 6), 0, none, (.op (.mov (.k (.d (.bool false)))))⟩])
       (.ret))
       (.skip)))))))
    (.reg 0 [⟨(some 54), 0, none, (.op (.mov (.t 9)))⟩,
      ⟨(some 55), 0, none, (.op (.bin .add (.t 54) (.k (.d (.int .i64 1)))))⟩,
      ⟨(some 9), 0, none, (.op (.mov (.t 55)))⟩]))))))
  (.seq (.reg 0 [⟨(some 106), 0, none, (.call (.k (.fn (.func 14) [] [])) [])⟩,
    ⟨(some 6), 0, none, (.op (.mov (.t 106)))⟩])
  (.ret))))))
theorem cc5 : Try.f5.body.bind (compC Try.prog) = some ac5 := by kernel_rfl
theorem go5 {vals : List V} {v : V} (ac : AC) (he : ac.erase = ac5) (hw : wpC Try.prog 0 ac (retQ [.tmp 6] v) ⟨vals ++ List.replicate (107 - vals.length) (.tup []), []⟩) : CallP Try.prog 5 vals v :=
  call_of Try.func5 rfl rfl rfl (cc5.trans (congrArg some he.symm)) hw

/-- testbench/testbenchlaw38.RefmodelBounds -/
def ac6 : AC :=
  .seq (.reg 0 [⟨(some 4), 0, none, (.op (.mov (.k (.d (.bool false)))))⟩])
  (.seq (.seq (.reg 0 [⟨(some 16), 0, none, (.op (.mov (.t 1)))⟩,
    ⟨(some 17), 0, none, (.call (.k (.fn (.func 15) [] [])) [(.t 16)])⟩,
    ⟨(some 18), 0, none, (.op (.un .not (.t 17)))⟩])
  (.cond (.t 18)
    (.seq (.reg 0 [⟨(some 19), 0, none, (.call (.k (.fn (.func 14) [] [])) [])⟩,
      ⟨(some 4), 0, none, (.op (.mov (.t 19)))⟩])
    (.ret))
    (.skip)))
  (.seq (.reg 0 [⟨(some 21), 0, none, (.op (.mov (.t 0)))⟩,
    ⟨(some 22), 0, none, (.op (.mov (.t 1)))⟩,
    ⟨(some 23), 0, none, (.call (.k (.fn (.func 16) [] [])) [(.t 21), (.t 22)])⟩,
    ⟨(some 20), 0, none, (.op (.mov (.t 23)))⟩,
    ⟨(some 24), 0, none, (.op (.ext (.t 20) 0))⟩,
    ⟨(some 25), 0, none, (.op (.ext (.t 20) 1))⟩,
    ⟨(some 5), 0, none, (.op (.mov (.t 24)))⟩,
    ⟨(some 6), 0, none, (.op (.mov (.t 25)))⟩])
  (.seq (.seq (.reg 0 [⟨(some 7), 0, none, (.op (.mov (.k (.d (.int .i64 0)))))⟩])
  (.block 0
   (.loop
    (.seq (.seq (.reg 0 [⟨(some 26), 0, none, (.op (.mov (.t 7)))⟩,
      ⟨(some 27), 0, none, (.op (.mov (.t 5)))⟩,
      ⟨(some 28), 0, none, (.op (.len false (.t 27)))⟩,
      ⟨(some 29), 0, none, (.op (.bin .lss (.t 26) (.t 28)))⟩])
    (.cond (.t 29)
      (.skip)
      (.exit 0)))
    (.seq (.block 1
     (.seq (.reg 0 [⟨(some 33), 0, none, (.op (.mov (.t 5)))⟩,
       ⟨(some 34), 0, none, (.op (.mov (.t 7)))⟩,
       ⟨(some 35), 0, none, (.op (.idxA 2 none (.t 33) (.t 34)))⟩,
       ⟨(some 36), 0, none, (.op (.load true 2 (.t 35)))⟩,
       ⟨(some 37), 0, none, (.call (.k (.fn (.func 20) [] [])) [(.t 36), (.k (.d (.str [111, 116])))])⟩,
       ⟨(some 32), 0, none, (.op (.mov (.t 37)))⟩,
       ⟨(some 38), 0, none, (.op (.ext (.t 32) 0))⟩,
       ⟨(some 39), 0, none, (.op (.ext (.t 32) 1))⟩,
       ⟨(some 8), 0, none, (.op (.mov (.t 38)))⟩,
       ⟨(some 9), 0, none, (.op (.mov (.t 39)))⟩])
     (.seq (.reg 0 [⟨(some 41), 0, none, (.op (.mov (.t 5)))⟩,
       ⟨(some 42), 0, none, (.op (.mov (.t 7)))⟩,
       ⟨(some 43), 0, none, (.op (.idxA 2 none (.t 41) (.t 42)))⟩,
       ⟨(some 44), 0, none, (.op (.load true 2 (.t 43)))⟩,
       ⟨(some 45), 0, none, (.call (.k (.fn (.func 20) [] [])) [(.t 44), (.k (.d (.str [111, 97])))])⟩,
       ⟨(some 40), 0, none, (.op (.mov (.t 45)))⟩,
       ⟨(some 46), 0, none, (.op (.ext (.t 40) 0))⟩,
       ⟨(some 47), 0, none, (.op (.ext (.t 40) 1))⟩,
       ⟨(some 10), 0, none, (.op (.mov (.t 46)))⟩,
       ⟨(some 11), 0, none, (.op (.mov (.t 47)))⟩])
     (.seq (.reg 0 [⟨(some 48), 0, none, (.op (.mov (.t 9)))⟩,
       ⟨(some 49), 0, none, (.op (.un .not (.t 48)))⟩,
       ⟨(some 50), 0, none, (.op (.mov (.t 49)))⟩,
       ⟨(some 51), 0, (some (50, false)), (.op (.mov (.t 11)))⟩,
       ⟨(some 52), 0, (some (50, false)), (.op (.un .not (.t 51)))⟩,
       ⟨(some 53), 0, none, (.op (.pick (.t 50) (.k (.d (.bool true))) (.t 52)))⟩,
       ⟨(some 54), 0, none, (.op (.mov (.t 53)))⟩,
       ⟨(some 55), 0, (some (54, false)), (.op (.mov (.t 5)))⟩,
       ⟨(some 56), 0, (some (54, false)), (.op (.mov (.t 7)))⟩,
       ⟨(some 57), 0, (some (54, false)), (.op (.idxA 2 none (.t 55) (.t 56)))⟩,
       ⟨(some 58), 0, (some (54, false)), (.op (.load true 2 (.t 57)))⟩,
       ⟨(some 59), 0, (some (54, false)), (.call (.k (.fn (.func 21) [] [])) [(.t 58)])⟩,
       ⟨(some 60), 0, (some (54, false)), (.op (.un .not (.t 59)))⟩,
       ⟨(some 61), 0, none, (.op (.pick (.t 54) (.k (.d (.bool true))) (.t 60)))⟩,
       ⟨(some 62), 0, none, (.op (.mov (.t 61)))⟩,
       ⟨(some 63), 0, (some (62, false)), (.op (.mov (.t 5)))⟩,
       ⟨(some 64), 0, (some (62, false)), (.op (.mov (.t 7)))⟩,
       ⟨(some 65), 0, (some (62, false)), (.op (.idxA 2 none (.t 63) (.t 64)))⟩,
       ⟨(some 66), 0, (some (62, false)), (.op (.fldA 0 (.t 65)))⟩,
       ⟨(some 67), 0, (some (62, false)), (.op (.load false 1 (.t 66)))⟩,
       ⟨(some 68), 0, (some (62, false)), (.op (.len false (.t 67)))⟩,
       ⟨(some 69), 0, (some (62, false)), (.op (.bin .neq (.t 68) (.k (.d (.int .i64 2)))))⟩,
       ⟨(some 70), 0, none, (.op (.pick (.t 62) (.k (.d (.bool true))) (.t 69)))⟩,
       ⟨(some 71), 0, none, (.op (.mov (.t 70)))⟩,
       ⟨(some 72), 0, (some (71, false)), (.op (.mov (.t 8)))⟩,
       ⟨(some 73), 0, (some (71, false)), (.op (.bin .gtr (.t 72) (.k (.d (.int .i64 15)))))⟩,
       ⟨(some 74), 0, none, (.op (.pick (.t 71) (.k (.d (.bool true))) (.t 73)))⟩,
       ⟨(some 75), 0, none, (.op (.mov (.t 74)))⟩,
       ⟨(some 76), 0, (some (75, false)), (.op (.mov (.t 10)))⟩,
       ⟨(some 77), 0, (some (75, false)), (.op (.bin .gtr (.t 76) (.k (.d (.int .i64 255)))))⟩,
       ⟨(some 78), 0, none, (.op (.pick (.t 75) (.k (.d (.bool true))) (.t 77)))⟩])
     (.cond (.t 78)
       (.seq (.reg 0 [⟨(some 4), 0, none, (.op (.mov (.k (.d (.bool false)))))⟩])
       (.ret))
       (.skip))))))
    (.reg 0 [⟨(some 30), 0, none, (.op (.mov (.t 7)))⟩,
      ⟨(some 31), 0, none, (.op (.bin .add (.t 30) (.k (.d (.int .i64 1)))))⟩,
      ⟨(some 7), 0, none, (.op (.mov (.t 31)))⟩]))))))
  (.seq (.reg 0 [⟨(some 80), 0, none, (.op (.mov (.t 1)))⟩,
    ⟨(some 81), 0, none, (.call (.k (.fn (.func 16) [] [])) [(.k (.d (.str [99, 111, 112, 121]))), (.t 80)])⟩,
    ⟨(some 79), 0, none, (.op (.mov (.t 81)))⟩,
    ⟨(some 82), 0, none, (.op (.ext (.t 79) 0))⟩,
    ⟨(some 83), 0, none, (.op (.ext (.t 79) 1))⟩,
    ⟨(some 12), 0, none, (.op (.mov (.t 82)))⟩,
    ⟨(some 13), 0, none, (.op (.mov (.t 83)))⟩])
  (.seq (.reg 0 [⟨(some 85), 0, none, (.op (.mov (.t 1)))⟩,
    ⟨(some 86), 0, none, (.call (.k (.fn (.func 16) [] [])) [(.k (.d (.str [115, 119, 97, 112]))), (.t 85)])⟩,
    ⟨(some 84), 0, none, (.op (.mov (.t 86)))⟩,
    ⟨(some 87), 0, none, (.op (.ext (.t 84) 0))⟩,
    ⟨(some 88), 0, none, (.op (.ext (.t 84) 1))⟩,
    ⟨(some 14), 0, none, (.op (.mov (.t 87)))⟩,
    ⟨(some 15), 0, none, (.op (.mov (.t 88)))⟩])
  (.seq (.reg 0 [⟨(some 89), 0, none, (.op (.mov (.t 6)))⟩,
    ⟨(some 90), 0, none, (.op (.bin .eql (.t 89) (.k (.d (.int .i64 0)))))⟩,
    ⟨(some 91), 0, none, (.op (.mov (.t 90)))⟩,
    ⟨(some 92), 0, (some (91, false)), (.op (.mov (.t 5)))⟩,
    ⟨(some 93), 0, (some (91, false)), (.op (.len false (.t 92)))⟩,
    ⟨(some 94), 0, (some (91, false)), (.op (.bin .eql (.t 93) (.k (.d (.int .i64 0)))))⟩,
    ⟨(some 95), 0, none, (.op (.pick (.t 91) (.k (.d (.bool true))) (.t 94)))⟩,
    ⟨(some 96), 0, none, (.op (.mov (.t 95)))⟩,
    ⟨(some 97), 0, (some (96, true)), (.op (.mov (.t 13)))⟩,
    ⟨(some 98), 0, (some (96, true)), (.op (.mov (.t 15)))⟩,
    ⟨(some 99), 0, (some (96, true)), (.op (.bin .eql (.t 97) (.t 98)))⟩,
    ⟨(some 100), 0, none, (.op (.pick (.t 96) (.t 99) (.k (.d (.bool false)))))⟩,
    ⟨(some 101), 0, none, (.op (.mov (.t 100)))⟩,
    ⟨(some 102), 0, (some (101, true)), (.op (.mov (.t 12)))⟩,
    ⟨(some 103), 0, (some (101, true)), (.op (.mov (.t 14)))⟩,
    ⟨(some 104), 0, (some (101, true)), (.call (.k (.fn (.func 18) [] [])) [(.t 102), (.t 103)])⟩,
    ⟨(some 105), 0, none, (.op (.pick (.t 101) (.t 104) (.k (.d (.bool false)))))⟩,
    ⟨(some 106), 0, none, (.op (.mov (.t 105)))⟩,
    ⟨(some 107), 0, (some (106, true)), (.call (.k (.fn (.func 14) [] [])) [])⟩,
    ⟨(some 108), 0, none, (.op (.pick (.t 106) (.t 107) (.k (.d (.bool false)))))⟩,
    ⟨(some 4), 0, none, (.op (.mov (.t 108)))⟩])
  (.ret)))))))
theorem cc6 : Try.f6.body.bind (compC Try.prog) = some ac6 := by kernel_rfl
theorem go6 {vals : List V} {v : V} (ac : AC) (he : ac.erase = ac6) (hw : wpC Try.prog 0 ac (retQ [.tmp 4] v) ⟨vals ++ List.replicate (109 - vals.length) (.tup []), []⟩) : CallP Try.prog 6 vals v :=
  call_of Try.func6 rfl rfl rfl (cc6.trans (congrArg some he.symm)) hw

/-- testbench/testbenchlaw38.RefmodelParts -/
def ac7 : AC :=
  .seq (.reg 0 [⟨(some 6), 0, none, (.op (.mov (.k (.d (.bool false)))))⟩])
  (.seq (.seq (.reg 0 [⟨(some 11), 0, none, (.op (.mov (.t 1)))⟩,
    ⟨(some 12), 0, none, (.call (.k (.fn (.func 15) [] [])) [(.t 11)])⟩,
    ⟨(some 13), 0, none, (.op (.un .not (.t 12)))⟩])
  (.cond (.t 13)
    (.seq (.reg 0 [⟨(some 14), 0, none, (.call (.k (.fn (.func 14) [] [])) [])⟩,
      ⟨(some 6), 0, none, (.op (.mov (.t 14)))⟩])
    (.ret))
    (.skip)))
  (.seq (.reg 0 [⟨(some 16), 0, none, (.op (.mov (.t 0)))⟩,
    ⟨(some 17), 0, none, (.op (.mov (.t 1)))⟩,
    ⟨(some 18), 0, none, (.op (.mov (.t 2)))⟩,
    ⟨(some 19), 0, none, (.call (.k (.fn (.func 22) [] [])) [(.t 16), (.t 17), (.t 18)])⟩,
    ⟨(some 15), 0, none, (.op (.mov (.t 19)))⟩,
    ⟨(some 20), 0, none, (.op (.ext (.t 15) 0))⟩,
    ⟨(some 21), 0, none, (.op (.ext (.t 15) 1))⟩,
    ⟨(some 7), 0, none, (.op (.mov (.t 20)))⟩,
    ⟨(some 8), 0, none, (.op (.mov (.t 21)))⟩])
  (.seq (.reg 0 [⟨(some 23), 0, none, (.op (.mov (.t 0)))⟩,
    ⟨(some 24), 0, none, (.op (.mov (.t 1)))⟩,
    ⟨(some 25), 0, none, (.op (.mov (.t 2)))⟩,
    ⟨(some 26), 0, none, (.call (.k (.fn (.func 23) [] [])) [(.t 23), (.t 24), (.t 25)])⟩,
    ⟨(some 22), 0, none, (.op (.mov (.t 26)))⟩,
    ⟨(some 27), 0, none, (.op (.ext (.t 22) 0))⟩,
    ⟨(some 28), 0, none, (.op (.ext (.t 22) 1))⟩,
    ⟨(some 9), 0, none, (.op (.mov (.t 27)))⟩,
    ⟨(some 10), 0, none, (.op (.mov (.t 28)))⟩])
  (.seq (.reg 0 [⟨(some 29), 0, none, (.op (.mov (.t 8)))⟩,
    ⟨(some 30), 0, none, (.op (.mov (.t 10)))⟩,
    ⟨(some 31), 0, none, (.op (.bin .eql (.t 29) (.t 30)))⟩,
    ⟨(some 32), 0, none, (.op (.mov (.t 31)))⟩,
    ⟨(some 33), 0, (some (32, true)), (.op (.mov (.t 7)))⟩,
    ⟨(some 34), 0, (some (32, true)), (.op (.mov (.t 9)))⟩,
    ⟨(some 35), 0, (some (32, true)), (.call (.k (.fn (.func 18) [] [])) [(.t 33), (.t 34)])⟩,
    ⟨(some 36), 0, none, (.op (.pick (.t 32) (.t 35) (.k (.d (.bool false)))))⟩,
    ⟨(some 37), 0, none, (.op (.mov (.t 36)))⟩,
    ⟨(some 38), 0, (some (37, true)), (.call (.k (.fn (.func 14) [] [])) [])⟩,
    ⟨(some 39), 0, none, (.op (.pick (.t 37) (.t 38) (.k (.d (.bool false)))))⟩,
    ⟨(some 6), 0, none, (.op (.mov (.t 39)))⟩])
  (.ret)))))
theorem cc7 : Try.f7.body.bind (compC Try.prog) = some ac7 := by kernel_rfl
theorem go7 {vals : List V} {v : V} (ac : AC) (he : ac.erase = ac7) (hw : wpC Try.prog 0 ac (retQ [.tmp 6] v) ⟨vals ++ List.replicate (40 - vals.length) (.tup []), []⟩) : CallP Try.prog 7 vals v :=
  call_of Try.func7 rfl rfl rfl (cc7.trans (congrArg some he.symm)) hw

/-- testbench/testbenchlaw38.RefmodelPrefix -/
def ac8 : AC :=
  .seq (.reg 0 [⟨(some 6), 0, none, (.op (.mov (.k (.d (.bool false)))))⟩])
  (.seq (.seq (.reg 0 [⟨(some 12), 0, none, (.op (.mov (.t 1)))⟩,
    ⟨(some 13), 0, none, (.call (.k (.fn (.func 15) [] [])) [(.t 12)])⟩,
    ⟨(some 14), 0, none, (.op (.un .not (.t 13)))⟩])
  (.cond (.t 14)
    (.seq (.reg 0 [⟨(some 15), 0, none, (.call (.k (.fn (.func 14) [] [])) [])⟩,
      ⟨(some 6), 0, none, (.op (.mov (.t 15)))⟩])
    (.ret))
    (.skip)))
  (.seq (.reg 0 [⟨(some 17), 0, none, (.op (.mov (.t 0)))⟩,
    ⟨(some 18), 0, none, (.op (.mov (.t 1)))⟩,
    ⟨(some 19), 0, none, (.call (.k (.fn (.func 16) [] [])) [(.t 17), (.t 18)])⟩,
    ⟨(some 16), 0, none, (.op (.mov (.t 19)))⟩,
    ⟨(some 20), 0, none, (.op (.ext (.t 16) 0))⟩,
    ⟨(some 21), 0, none, (.op (.ext (.t 16) 1))⟩,
    ⟨(some 7), 0, none, (.op (.mov (.t 20)))⟩,
    ⟨(some 8), 0, none, (.op (.mov (.t 21)))⟩])
  (.seq (.seq (.reg 0 [⟨(some 22), 0, none, (.op (.mov (.t 8)))⟩,
    ⟨(some 23), 0, none, (.op (.bin .neq (.t 22) (.k (.d (.int .i64 0)))))⟩])
  (.cond (.t 23)
    (.seq (.reg 0 [⟨(some 24), 0, none, (.op (.mov (.t 7)))⟩,
      ⟨(some 25), 0, none, (.op (.len false (.t 24)))⟩,
      ⟨(some 26), 0, none, (.op (.bin .eql (.t 25) (.k (.d (.int .i64 0)))))⟩,
      ⟨(some 27), 0, none, (.op (.mov (.t 26)))⟩,
      ⟨(some 28), 0, (some (27, true)), (.call (.k (.fn (.func 14) [] [])) [])⟩,
      ⟨(some 29), 0, none, (.op (.pick (.t 27) (.t 28) (.k (.d (.bool false)))))⟩,
      ⟨(some 6), 0, none, (.op (.mov (.t 29)))⟩])
    (.ret))
    (.skip)))
  (.seq (.reg 0 [⟨(some 30), 0, none, (.op (.mov (.t 2)))⟩,
    ⟨(some 31), 0, none, (.op (.conv .i64 (.t 30)))⟩,
    ⟨(some 32), 0, none, (.op (.mov (.t 1)))⟩,
    ⟨(some 33), 0, none, (.op (.len false (.t 32)))⟩,
    ⟨(some 34), 0, none, (.op (.bin .add (.t 33) (.k (.d (.int .i64 1)))))⟩,
    ⟨(some 35), 0, none, (.op (.bin .rem (.t 31) (.t 34)))⟩,
    ⟨(some 9), 0, none, (.op (.mov (.t 35)))⟩])
  (.seq (.reg 0 [⟨(some 37), 0, none, (.op (.mov (.t 0)))⟩,
    ⟨(some 38), 0, none, (.op (.mov (.t 1)))⟩,
    ⟨(some 39), 0, none, (.op (.mov (.t 9)))⟩,
    ⟨(some 40), 0, none, (.call (.k (.fn (.func 22) [] [])) [(.t 37), (.t 38), (.t 39)])⟩,
    ⟨(some 36), 0, none, (.op (.mov (.t 40)))⟩,
    ⟨(some 41), 0, none, (.op (.ext (.t 36) 0))⟩,
    ⟨(some 42), 0, none, (.op (.ext (.t 36) 1))⟩,
    ⟨(some 10), 0, none, (.op (.mov (.t 41)))⟩,
    ⟨(some 11), 0, none, (.op (.mov (.t 42)))⟩])
  (.seq (.reg 0 [⟨(some 43), 0, none, (.op (.mov (.t 11)))⟩,
    ⟨(some 44), 0, none, (.op (.bin .eql (.t 43) (.k (.d (.int .i64 0)))))⟩,
    ⟨(some 45), 0, none, (.op (.mov (.t 44)))⟩,
    ⟨(some 46), 0, (some (45, true)), (.op (.mov (.t 7)))⟩,
    ⟨(some 47), 0, (some (45, true)), (.op (.len false (.t 46)))⟩,
    ⟨(some 48), 0, (some (45, true)), (.op (.mov (.t 1)))⟩,
    ⟨(some 49), 0, (some (45, true)), (.op (.len false (.t 48)))⟩,
    ⟨(some 50), 0, (some (45, true)), (.op (.bin .eql (.t 47) (.t 49)))⟩,
    ⟨(some 51), 0, none, (.op (.pick (.t 45) (.t 50) (.k (.d (.bool false)))))⟩,
    ⟨(some 52), 0, none, (.op (.mov (.t 51)))⟩,
    ⟨(some 53), 0, (some (52, true)), (.op (.mov (.t 10)))⟩,
    ⟨(some 54), 0, (some (52, true)), (.op (.mov (.t 7)))⟩,
    ⟨(some 55), 0, (some (52, true)), (.op (.mov (.t 9)))⟩,
    ⟨(some 56), 0, (some (52, true)), (.op (.slice 2 (.t 54) none (some (.t 55))))⟩,
    ⟨(some 57), 0, (some (52, true)), (.call (.k (.fn (.func 18) [] [])) [(.t 53), (.t 56)])⟩,
    ⟨(some 58), 0, none, (.op (.pick (.t 52) (.t 57) (.k (.d (.bool false)))))⟩,
    ⟨(some 59), 0, none, (.op (.mov (.t 58)))⟩,
    ⟨(some 60), 0, (some (59, true)), (.call (.k (.fn (.func 14) [] [])) [])⟩,
    ⟨(some 61), 0, none, (.op (.pick (.t 59) (.t 60) (.k (.d (.bool false)))))⟩,
    ⟨(some 6), 0, none, (.op (.mov (.t 61)))⟩])
  (.ret)))))))
theorem cc8 : Try.f8.body.bind (compC Try.prog) = some ac8 := by kernel_rfl
theorem go8 {vals : List V} {v : V} (ac : AC) (he : ac.erase = ac8) (hw : wpC Try.prog 0 ac (retQ [.tmp 6] v) ⟨vals ++ List.replicate (62 - vals.length) (.tup []), []⟩) : CallP Try.prog 8 vals v :=
  call_of Try.func8 rfl rfl rfl (cc8.trans (congrArg some he.symm)) hw

/-- testbench/testbenchlaw38.RefmodelLimits -/
def ac9 : AC :=
  .seq (.reg 0 [⟨(some 2), 0, none, (.op (.mov (.k (.d (.bool false)))))⟩])
  (.seq (.reg 1 [⟨(some 9), 0, none, (.op (.mov (.t 0)))⟩,
    ⟨(some 10), 0, none, (.op (.bin .rem (.t 9) (.k (.d (.int .u8 5)))))⟩,
    ⟨(some 11), 0, none, (.op (.conv .i64 (.t 10)))⟩,
    ⟨(some 12), 0, none, (.op (.bin .add (.k (.d (.int .i64 1022))) (.t 11)))⟩,
    ⟨(some 13), 0, none, (.op (.mksl 2 48 [.nils, .nils] (.t 12) (.t 12)))⟩,
    ⟨(some 3), 1, none, (.op (.mov (.t 13)))⟩])
  (.seq (.seq (.reg 0 [⟨(some 4), 0, none, (.op (.mov (.k (.d (.int .i64 0)))))⟩])
  (.block 0
   (.loop
    (.seq (.seq (.reg 0 [⟨(some 14), 0, none, (.op (.mov (.t 4)))⟩,
      ⟨(some 15), 0, none, (.op (.mov (.t 3)))⟩,
      ⟨(some 16), 0, none, (.op (.len false (.t 15)))⟩,
      ⟨(some 17), 0, none, (.op (.bin .lss (.t 14) (.t 16)))⟩])
    (.cond (.t 17)
      (.skip)
      (.exit 0)))
    (.seq (.block 1
     (.reg 0 [⟨(some 20), 0, none, (.op (.mov (.t 3)))⟩,
       ⟨(some 21), 0, none, (.op (.mov (.t 4)))⟩,
       ⟨(some 22), 0, none, (.op (.mov (.t 4)))⟩,
       ⟨(some 23), 0, none, (.op (.mov (.t 4)))⟩,
       ⟨(some 24), 0, none, (.call (.k (.fn (.func 24) [] [])) [(.t 22), (.t 23), (.k (.d (.int .i64 1)))])⟩,
       ⟨(some 25), 0, none, (.op (.idxA 2 none (.t 20) (.t 21)))⟩,
       ⟨none, 0, none, (.op (.store 2 (.t 25) (.t 24)))⟩]))
    (.reg 0 [⟨(some 18), 0, none, (.op (.mov (.t 4)))⟩,
      ⟨(some 19), 0, none, (.op (.bin .add (.t 18) (.k (.d (.int .i64 1)))))⟩,
      ⟨(some 4), 0, none, (.op (.mov (.t 19)))⟩]))))))
  (.seq (.reg 0 [⟨(some 27), 0, none, (.op (.mov (.t 3)))⟩,
    ⟨(some 28), 0, none, (.call (.k (.fn (.func 16) [] [])) [(.k (.d (.str [99, 111, 117, 110, 116]))), (.t 27)])⟩,
    ⟨(some 26), 0, none, (.op (.mov (.t 28)))⟩,
    ⟨(some 29), 0, none, (.op (.ext (.t 26) 0))⟩,
    ⟨(some 30), 0, none, (.op (.ext (.t 26) 1))⟩,
    ⟨(some 5), 0, none, (.op (.mov (.t 29)))⟩,
    ⟨(some 6), 0, none, (.op (.mov (.t 30)))⟩])
  (.seq (.seq (.reg 0 [⟨(some 31), 0, none, (.op (.mov (.t 3)))⟩,
    ⟨(some 32), 0, none, (.op (.len false (.t 31)))⟩,
    ⟨(some 33), 0, none, (.op (.bin .gtr (.t 32) (.k (.d (.int .i64 1024)))))⟩])
  (.cond (.t 33)
    (.seq (.reg 0 [⟨(some 35), 0, none, (.op (.mov (.t 3)))⟩,
      ⟨(some 36), 0, none, (.call (.k (.fn (.func 22) [] [])) [(.k (.d (.str [99, 111, 117, 110, 116]))), (.t 35), (.k (.d (.int .i64 3)))])⟩,
      ⟨(some 34), 0, none, (.op (.mov (.t 36)))⟩,
      ⟨(some 37), 0, none, (.op (.ext (.t 34) 0))⟩,
      ⟨(some 38), 0, none, (.op (.ext (.t 34) 1))⟩,
      ⟨(some 7), 0, none, (.op (.mov (.t 37)))⟩,
      ⟨(some 8), 0, none, (.op (.mov (.t 38)))⟩])
    (.seq (.reg 0 [⟨(some 39), 0, none, (.op (.mov (.t 6)))⟩,
      ⟨(some 40), 0, none, (.op (.bin .eql (.t 39) (.k (.d (.int .i64 2)))))⟩,
      ⟨(some 41), 0, none, (.op (.mov (.t 40)))⟩,
      ⟨(some 42), 0, (some (41, true)), (.op (.mov (.t 5)))⟩,
      ⟨(some 43), 0, (some (41, true)), (.op (.len false (.t 42)))⟩,
      ⟨(some 44), 0, (some (41, true)), (.op (.bin .eql (.t 43) (.k (.d (.int .i64 0)))))⟩,
      ⟨(some 45), 0, none, (.op (.pick (.t 41) (.t 44) (.k (.d (.bool false)))))⟩,
      ⟨(some 46), 0, none, (.op (.mov (.t 45)))⟩,
      ⟨(some 47), 0, (some (46, true)), (.op (.mov (.t 8)))⟩,
      ⟨(some 48), 0, (some (46, true)), (.op (.bin .eql (.t 47) (.k (.d (.int .i64 0)))))⟩,
      ⟨(some 49), 0, none, (.op (.pick (.t 46) (.t 48) (.k (.d (.bool false)))))⟩,
      ⟨(some 50), 0, none, (.op (.mov (.t 49)))⟩,
      ⟨(some 51), 0, (some (50, true)), (.call (.k (.fn (.func 14) [] [])) [])⟩,
      ⟨(some 52), 0, none, (.op (.pick (.t 50) (.t 51) (.k (.d (.bool false)))))⟩,
      ⟨(some 2), 0, none, (.op (.mov (.t 52)))⟩])
    (.ret)))
    (.skip)))
  (.seq (.reg 0 [⟨(some 53), 0, none, (.op (.mov (.t 6)))⟩,
    ⟨(some 54), 0, none, (.op (.bin .eql (.t 53) (.k (.d (.int .i64 0)))))⟩,
    ⟨(some 55), 0, none, (.op (.mov (.t 54)))⟩,
    ⟨(some 56), 0, (some (55, true)), (.op (.mov (.t 5)))⟩,
    ⟨(some 57), 0, (some (55, true)), (.op (.len false (.t 56)))⟩,
    ⟨(some 58), 0, (some (55, true)), (.op (.mov (.t 3)))⟩,
    ⟨(some 59), 0, (some (55, true)), (.op (.len false (.t 58)))⟩,
    ⟨(some 60), 0, (some (55, true)), (.op (.bin .eql (.t 57) (.t 59)))⟩,
    ⟨(some 61), 0, none, (.op (.pick (.t 55) (.t 60) (.k (.d (.bool false)))))⟩,
    ⟨(some 62), 0, none, (.op (.mov (.t 61)))⟩,
    ⟨(some 63), 0, (some (62, true)), (.call (.k (.fn (.func 14) [] [])) [])⟩,
    ⟨(some 64), 0, none, (.op (.pick (.t 62) (.t 63) (.k (.d (.bool false)))))⟩,
    ⟨(some 2), 0, none, (.op (.mov (.t 64)))⟩])
  (.ret))))))
theorem cc9 : Try.f9.body.bind (compC Try.prog) = some ac9 := by kernel_rfl
theorem go9 {vals : List V} {v : V} (ac : AC) (he : ac.erase = ac9) (hw : wpC Try.prog 0 ac (retQ [.tmp 2] v) ⟨vals ++ List.replicate (65 - vals.length) (.tup []), []⟩) : CallP Try.prog 9 vals v :=
  call_of Try.func9 rfl rfl rfl (cc9.trans (congrArg some he.symm)) hw

/-- testbench/refmodel.Names -/
def ac10 : AC :=
  .seq (.reg 0 [⟨(some 0), 0, none, (.op (.mov (.k (.d .nils))))⟩])
  (.seq (.reg 1 [⟨(some 1), 0, none, (.op (.buildSl 1 4 [(.str [])] [(0, (.k (.d (.str [99, 111, 112, 121])))), (1, (.k (.d (.str [115, 117, 109])))), (2, (.k (.d (.str [99, 111, 117, 110, 116])))), (3, (.k (.d (.str [115, 119, 97, 112]))))]))⟩,
    ⟨(some 0), 1, none, (.op (.mov (.t 1)))⟩])
  (.ret))
theorem cc10 : Try.f10.body.bind (compC Try.prog) = some ac10 := by kernel_rfl
theorem go10 {vals : List V} {v : V} (ac : AC) (he : ac.erase = ac10) (hw : wpC Try.prog 0 ac (retQ [.tmp 0] v) ⟨vals ++ List.replicate (2 - vals.length) (.tup []), []⟩) : CallP Try.prog 10 vals v :=
  call_of Try.func10 rfl rfl rfl (cc10.trans (congrArg some he.symm)) hw

/-- testbench/testbenchref38.Names -/
def ac11 : AC :=
  .seq (.reg 0 [⟨(some 0), 0, none, (.op (.mov (.k (.d .nils))))⟩])
  (.seq (.reg 1 [⟨(some 1), 0, none, (.op (.buildSl 1 4 [(.str [])] [(0, (.k (.d (.str [99, 111, 112, 121])))), (1, (.k (.d (.str [115, 117, 109])))), (2, (.k (.d (.str [99, 111, 117, 110, 116])))), (3, (.k (.d (.str [115, 119, 97, 112]))))]))⟩,
    ⟨(some 0), 1, none, (.op (.mov (.t 1)))⟩])
  (.ret))
theorem cc11 : Try.f11.body.bind (compC Try.prog) = some ac11 := by kernel_rfl
theorem go11 {vals : List V} {v : V} (ac : AC) (he : ac.erase = ac11) (hw : wpC Try.prog 0 ac (retQ [.tmp 0] v) ⟨vals ++ List.replicate (2 - vals.length) (.tup []), []⟩) : CallP Try.prog 11 vals v :=
  call_of Try.func11 rfl rfl rfl (cc11.trans (congrArg some he.symm)) hw

/-- testbench/refmodel.Ordered -/
def ac12 : AC :=
  .seq (.reg 0 [⟨(some 2), 0, none, (.op (.mov (.k (.d (.bool false)))))⟩])
  (.seq (.reg 0 [⟨(some 3), 0, none, (.op (.mov (.t 0)))⟩,
    ⟨(some 4), 0, none, (.call (.k (.fn (.func 25) [] [])) [(.t 3)])⟩,
    ⟨(some 5), 0, none, (.op (.mov (.t 4)))⟩,
    ⟨(some 6), 0, (some (5, true)), (.op (.mov (.t 0)))⟩,
    ⟨(some 7), 0, (some (5, true)), (.op (.bin .neq (.t 6) (.k (.d (.str [115, 119, 97, 112])))))⟩,
    ⟨(some 8), 0, none, (.op (.pick (.t 5) (.t 7) (.k (.d (.bool false)))))⟩,
    ⟨(some 2), 0, none, (.op (.mov (.t 8)))⟩])
  (.ret))
theorem cc12 : Try.f12.body.bind (compC Try.prog) = some ac12 := by kernel_rfl
theorem go12 {vals : List V} {v : V} (ac : AC) (he : ac.erase = ac12) (hw : wpC Try.prog 0 ac (retQ [.tmp 2] v) ⟨vals ++ List.replicate (9 - vals.length) (.tup []), []⟩) : CallP Try.prog 12 vals v :=
  call_of Try.func12 rfl rfl rfl (cc12.trans (congrArg some he.symm)) hw

/-- testbench/testbenchref38.Ordered -/
def ac13 : AC :=
  .seq (.reg 0 [⟨(some 2), 0, none, (.op (.mov (.k (.d (.bool false)))))⟩])
  (.seq (.reg 0 [⟨(some 3), 0, none, (.op (.mov (.t 0)))⟩,
    ⟨(some 4), 0, none, (.op (.bin .eql (.t 3) (.k (.d (.str [99, 111, 112, 121])))))⟩,
    ⟨(some 5), 0, none, (.op (.mov (.t 4)))⟩,
    ⟨(some 6), 0, (some (5, false)), (.op (.mov (.t 0)))⟩,
    ⟨(some 7), 0, (some (5, false)), (.op (.bin .eql (.t 6) (.k (.d (.str [115, 117, 109])))))⟩,
    ⟨(some 8), 0, none, (.op (.pick (.t 5) (.k (.d (.bool true))) (.t 7)))⟩,
    ⟨(some 9), 0, none, (.op (.mov (.t 8)))⟩,
    ⟨(some 10), 0, (some (9, false)), (.op (.mov (.t 0)))⟩,
    ⟨(some 11), 0, (some (9, false)), (.op (.bin .eql (.t 10) (.k (.d (.str [99, 111, 117, 110, 116])))))⟩,
    ⟨(some 12), 0, none, (.op (.pick (.t 9) (.k (.d (.bool true))) (.t 11)))⟩,
    ⟨(some 2), 0, none, (.op (.mov (.t 12)))⟩])
  (.ret))
theorem cc13 : Try.f13.body.bind (compC Try.prog) = some ac13 := by kernel_rfl
theorem go13 {vals : List V} {v : V} (ac : AC) (he : ac.erase = ac13) (hw : wpC Try.prog 0 ac (retQ [.tmp 2] v) ⟨vals ++ List.replicate (13 - vals.length) (.tup []), []⟩) : CallP Try.prog 13 vals v :=
  call_of Try.func13 rfl rfl rfl (cc13.trans (congrArg some he.symm)) hw

/-- testbench/testbenchlaw38.awake -/
def ac14 : AC :=
  .seq (.reg 0 [⟨(some 0), 0, none, (.op (.mov (.k (.d (.bool false)))))⟩])
  (.seq (.reg 1 [⟨(some 7), 0, none, (.call (.k (.fn (.func 24) [] [])) [(.k (.d (.int .i64 3))), (.k (.d (.int .i64 200))), (.k (.d (.int .i64 100)))])⟩,
    ⟨(some 8), 0, none, (.op (.buildSl 2 1 [.nils, .nils] [(0, (.t 7))]))⟩,
    ⟨(some 9), 1, none, (.call (.k (.fn (.func 16) [] [])) [(.k (.d (.str [99, 111, 112, 121]))), (.t 8)])⟩,
    ⟨(some 6), 1, none, (.op (.mov (.t 9)))⟩,
    ⟨(some 10), 1, none, (.op (.ext (.t 6) 0))⟩,
    ⟨(some 11), 1, none, (.op (.ext (.t 6) 1))⟩,
    ⟨(some 1), 1, none, (.op (.mov (.t 10)))⟩,
    ⟨(some 2), 1, none, (.op (.mov (.t 11)))⟩])
  (.seq (.reg 1 [⟨(some 13), 0, none, (.call (.k (.fn (.func 24) [] [])) [(.k (.d (.int .i64 3))), (.k (.d (.int .i64 200))), (.k (.d (.int .i64 100)))])⟩,
    ⟨(some 14), 0, none, (.op (.buildSl 2 1 [.nils, .nils] [(0, (.t 13))]))⟩,
    ⟨(some 15), 1, none, (.call (.k (.fn (.func 16) [] [])) [(.k (.d (.str [115, 117, 109]))), (.t 14)])⟩,
    ⟨(some 12), 1, none, (.op (.mov (.t 15)))⟩,
    ⟨(some 16), 1, none, (.op (.ext (.t 12) 0))⟩,
    ⟨(some 17), 1, none, (.op (.ext (.t 12) 1))⟩,
    ⟨(some 3), 1, none, (.op (.mov (.t 16)))⟩,
    ⟨(some 4), 1, none, (.op (.mov (.t 17)))⟩])
  (.seq (.reg 0 [⟨(some 18), 0, none, (.call (.k (.fn (.func 10) [] [])) [])⟩,
    ⟨(some 5), 0, none, (.op (.mov (.t 18)))⟩])
  (.seq (.reg 0 [⟨(some 19), 0, none, (.op (.mov (.t 2)))⟩,
    ⟨(some 20), 0, none, (.op (.bin .eql (.t 19) (.k (.d (.int .i64 0)))))⟩,
    ⟨(some 21), 0, none, (.op (.mov (.t 20)))⟩,
    ⟨(some 22), 0, (some (21, true)), (.op (.mov (.t 4)))⟩,
    ⟨(some 23), 0, (some (21, true)), (.op (.bin .eql (.t 22) (.k (.d (.int .i64 0)))))⟩,
    ⟨(some 24), 0, none, (.op (.pick (.t 21) (.t 23) (.k (.d (.bool false)))))⟩,
    ⟨(some 25), 0, none, (.op (.mov (.t 24)))⟩,
    ⟨(some 26), 0, (some (25, true)), (.op (.mov (.t 1)))⟩,
    ⟨(some 27), 0, (some (25, true)), (.op (.len false (.t 26)))⟩,
    ⟨(some 28), 0, (some (25, true)), (.op (.bin .eql (.t 27) (.k (.d (.int .i64 1)))))⟩,
    ⟨(some 29), 0, none, (.op (.pick (.t 25) (.t 28) (.k (.d (.bool false)))))⟩,
    ⟨(some 30), 0, none, (.op (.mov (.t 29)))⟩,
    ⟨(some 31), 0, (some (30, true)), (.op (.mov (.t 3)))⟩,
    ⟨(some 32), 0, (some (30, true)), (.op (.len false (.t 31)))⟩,
    ⟨(some 33), 0, (some (30, true)), (.op (.bin .eql (.t 32) (.k (.d (.int .i64 1)))))⟩,
    ⟨(some 34), 0, none, (.op (.pick (.t 30) (.t 33) (.k (.d (.bool false)))))⟩,
    ⟨(some 35), 0, none, (.op (.mov (.t 34)))⟩,
    ⟨(some 36), 0, (some (35, true)), (.op (.mov (.t 1)))⟩,
    ⟨(some 37), 0, (some (35, true)), (.op (.idxA 2 none (.t 36) (.k (.d (.int .i64 0)))))⟩,
    ⟨(some 38), 0, (some (35, true)), (.op (.load true 2 (.t 37)))⟩,
    ⟨(some 39), 0, (some (35, true)), (.call (.k (.fn (.func 26) [] [])) [(.t 38)])⟩,
    ⟨(some 40), 0, (some (35, true)), (.op (.bin .eql (.t 39) (.k (.d (.str [111, 116, 61, 51, 32, 111, 97, 61, 50, 48, 48])))))⟩,
    ⟨(some 41), 0, none, (.op (.pick (.t 35) (.t 40) (.k (.d (.bool false)))))⟩,
    ⟨(some 42), 0, none, (.op (.mov (.t 41)))⟩,
    ⟨(some 43), 0, (some (42, true)), (.op (.mov (.t 3)))⟩,
    ⟨(some 44), 0, (some (42, true)), (.op (.idxA 2 none (.t 43) (.k (.d (.int .i64 0)))))⟩,
    ⟨(some 45), 0, (some (42, true)), (.op (.load true 2 (.t 44)))⟩,
    ⟨(some 46), 0, (some (42, true)), (.call (.k (.fn (.func 26) [] [])) [(.t 45)])⟩,
    ⟨(some 47), 0, (some (42, true)), (.op (.bin .eql (.t 46) (.k (.d (.str [111, 116, 61, 51, 32, 111, 97, 61, 52, 52])))))⟩,
    ⟨(some 48), 0, none, (.op (.pick (.t 42) (.t 47) (.k (.d (.bool false)))))⟩,
    ⟨(some 49), 0, none, (.op (.mov (.t 48)))⟩,
    ⟨(some 50), 0, (some (49, true)), (.op (.mov (.t 5)))⟩,
    ⟨(some 51), 0, (some (49, true)), (.op (.len false (.t 50)))⟩,
    ⟨(some 52), 0, (some (49, true)), (.op (.bin .eql (.t 51) (.k (.d (.int .i64 4)))))⟩,
    ⟨(some 53), 0, none, (.op (.pick (.t 49) (.t 52) (.k (.d (.bool false)))))⟩,
    ⟨(some 54), 0, none, (.op (.mov (.t 53)))⟩,
    ⟨(some 55), 0, (some (54, true)), (.op (.mov (.t 5)))⟩,
    ⟨(some 56), 0, (some (54, true)), (.op (.idxA 1 none (.t 55) (.k (.d (.int .i64 3)))))⟩,
    ⟨(some 57), 0, (some (54, true)), (.op (.load false 1 (.t 56)))⟩,
    ⟨(some 58), 0, (some (54, true)), (.op (.bin .eql (.t 57) (.k (.d (.str [115, 119, 97, 112])))))⟩,
    ⟨(some 59), 0, none, (.op (.pick (.t 54) (.t 58) (.k (.d (.bool false)))))⟩,
    ⟨(some 60), 0, none, (.op (.mov (.t 59)))⟩,
    ⟨(some 61), 0, (some (60, true)), (.call (.k (.fn (.func 12) [] [])) [(.k (.d (.str [99, 111, 117, 110, 116])))])⟩,
    ⟨(some 62), 0, none, (.op (.pick (.t 60) (.t 61) (.k (.d (.bool false)))))⟩,
    ⟨(some 63), 0, none, (.op (.mov (.t 62)))⟩,
    ⟨(some 64), 0, (some (63, true)), (.call (.k (.fn (.func 12) [] [])) [(.k (.d (.str [115, 119, 97, 112])))])⟩,
    ⟨(some 65), 0, (some (63, true)), (.op (.un .not (.t 64)))⟩,
    ⟨(some 66), 0, none, (.op (.pick (.t 63) (.t 65) (.k (.d (.bool false)))))⟩,
    ⟨(some 0), 0, none, (.op (.mov (.t 66)))⟩])
  (.ret)))))
theorem cc14 : Try.f14.body.bind (compC Try.prog) = some ac14 := by kernel_rfl
theorem go14 {vals : List V} {v : V} (ac : AC) (he : ac.erase = ac14) (hw : wpC Try.prog 0 ac (retQ [.tmp 0] v) ⟨vals ++ List.replicate (67 - vals.length) (.tup []), []⟩) : CallP Try.prog 14 vals v :=
  call_of Try.func14 rfl rfl rfl (cc14.trans (congrArg some he.symm)) hw

/-- testbench/testbenchlaw38.few -/
def ac15 : AC :=
  .seq (.reg 0 [⟨(some 2), 0, none, (.op (.mov (.k (.d (.bool false)))))⟩])
  (.seq (.seq (.reg 0 [⟨(some 3), 0, none, (.op (.mov (.k (.d (.int .i64 0)))))⟩])
  (.block 0
   (.loop
    (.seq (.seq (.reg 0 [⟨(some 4), 0, none, (.op (.mov (.t 3)))⟩,
      ⟨(some 5), 0, none, (.op (.mov (.t 0)))⟩,
      ⟨(some 6), 0, none, (.op (.len false (.t 5)))⟩,
      ⟨(some 7), 0, none, (.op (.bin .lss (.t 4) (.t 6)))⟩,
      ⟨(some 8), 0, none, (.op (.mov (.t 7)))⟩,
      ⟨(some 9), 0, (some (8, true)), (.op (.mov (.t 3)))⟩,
      ⟨(some 10), 0, (some (8, true)), (.op (.bin .lss (.t 9) (.k (.d (.int .i64 31)))))⟩,
      ⟨(some 11), 0, none, (.op (.pick (.t 8) (.t 10) (.k (.d (.bool false)))))⟩])
    (.cond (.t 11)
      (.skip)
      (.exit 0)))
    (.seq (.block 1
     (.seq (.reg 0 [⟨(some 14), 0, none, (.op (.mov (.t 0)))⟩,
       ⟨(some 15), 0, none, (.op (.mov (.t 3)))⟩,
       ⟨(some 16), 0, none, (.op (.idxA 2 none (.t 14) (.t 15)))⟩,
       ⟨(some 17), 0, none, (.op (.load true 2 (.t 16)))⟩,
       ⟨(some 18), 0, none, (.call (.k (.fn (.func 27) [] [])) [(.t 17)])⟩,
       ⟨(some 19), 0, none, (.op (.un .not (.t 18)))⟩])
     (.cond (.t 19)
       (.seq (.reg 0 [⟨(some 2), 0, none, (.op (.mov (.k (.d (.bool false)))))⟩])
       (.ret))
       (.skip))))
    (.reg 0 [⟨(some 12), 0, none, (.op (.mov (.t 3)))⟩,
      ⟨(some 13), 0, none, (.op (.bin .add (.t 12) (.k (.d (.int .i64 1)))))⟩,
      ⟨(some 3), 0, none, (.op (.mov (.t 13)))⟩]))))))
  (.seq (.reg 0 [⟨(some 20), 0, none, (.op (.mov (.t 0)))⟩,
    ⟨(some 21), 0, none, (.op (.len false (.t 20)))⟩,
    ⟨(some 22), 0, none, (.op (.bin .leq (.t 21) (.k (.d (.int .i64 30)))))⟩,
    ⟨(some 2), 0, none, (.op (.mov (.t 22)))⟩])
  (.ret)))
theorem cc15 : Try.f15.body.bind (compC Try.prog) = some ac15 := by kernel_rfl
theorem go15 {vals : List V} {v : V} (ac : AC) (he : ac.erase = ac15) (hw : wpC Try.prog 0 ac (retQ [.tmp 2] v) ⟨vals ++ List.replicate (23 - vals.length) (.tup []), []⟩) : CallP Try.prog 15 vals v :=
  call_of Try.func15 rfl rfl rfl (cc15.trans (congrArg some he.symm)) hw

/-- testbench/refmodel.Expect -/
def ac16 : AC :=
  .seq (.reg 0 [⟨(some 4), 0, none, (.op (.mov (.k (.d .nils))))⟩,
    ⟨(some 5), 0, none, (.op (.mov (.k (.d (.int .i64 0)))))⟩])
  (.seq (.block 0
   (.seq (.reg 0 [⟨(some 12), 0, none, (.op (.mov (.t 0)))⟩,
     ⟨(some 13), 0, none, (.call (.k (.fn (.func 25) [] [])) [(.t 12)])⟩,
     ⟨(some 14), 0, none, (.op (.un .not (.t 13)))⟩,
     ⟨(some 11), 0, none, (.op (.mov (.t 14)))⟩])
   (.cond (.t 11)
     (.seq (.reg 0 [⟨(some 4), 0, none, (.op (.mov (.k (.d .nils))))⟩,
       ⟨(some 5), 0, none, (.op (.mov (.k (.d (.int .i64 7)))))⟩])
     (.ret))
     (.seq (.reg 0 [⟨(some 16), 0, none, (.op (.mov (.t 1)))⟩,
       ⟨(some 17), 0, none, (.op (.len false (.t 16)))⟩,
       ⟨(some 18), 0, none, (.op (.bin .gtr (.t 17) (.k (.d (.int .i64 1024)))))⟩,
       ⟨(some 15), 0, none, (.op (.mov (.t 18)))⟩])
     (.cond (.t 15)
       (.seq (.reg 0 [⟨(some 4), 0, none, (.op (.mov (.k (.d .nils))))⟩,
         ⟨(some 5), 0, none, (.op (.mov (.k (.d (.int .i64 2)))))⟩])
       (.ret))
       (.skip))))))
  (.seq (.reg 0 [⟨(some 6), 0, none, (.op (.mov (.k (.d .nils))))⟩])
  (.seq (.seq (.reg 0 [⟨(some 19), 0, none, (.op (.mov (.t 1)))⟩,
    ⟨(some 20), 0, none, (.op (.len false (.t 19)))⟩,
    ⟨(some 21), 0, none, (.op (.mov (.k (.d (.int .i64 0)))))⟩])
  (.block 1
   (.loop
    (.seq (.reg 0 [⟨(some 22), 0, none, (.op (.bin .lss (.t 21) (.t 20)))⟩])
    (.seq (.cond (.t 22)
      (.skip)
      (.exit 1))
    (.seq (.block 2
     (.seq (.reg 1 [⟨(some 23), 0, none, (.op (.mov (.t 21)))⟩,
       ⟨(some 24), 0, none, (.op (.idxA 2 none (.t 19) (.t 21)))⟩,
       ⟨(some 25), 0, none, (.op (.load true 2 (.t 24)))⟩,
       ⟨(some 8), 0, none, (.op (.alloc [.nils, .nils]))⟩,
       ⟨(some 7), 1, none, (.op (.mov (.t 23)))⟩,
       ⟨none, 1, none, (.op (.store 2 (.t 8) (.t 25)))⟩])
     (.seq (.reg 1 [⟨(some 27), 0, none, (.op (.load true 2 (.t 8)))⟩,
       ⟨(some 28), 0, none, (.op (.mov (.t 7)))⟩,
       ⟨(some 29), 0, none, (.call (.k (.fn (.func 28) [] [])) [(.t 27), (.t 28)])⟩,
       ⟨(some 26), 0, none, (.op (.mov (.t 29)))⟩,
       ⟨(some 30), 0, none, (.op (.ext (.t 26) 0))⟩,
       ⟨(some 31), 0, none, (.op (.ext (.t 26) 1))⟩,
       ⟨(some 9), 0, none, (.op (.alloc [(.int .i64 0), (.int .i64 0), (.int .i64 0), (.int .i64 0)]))⟩,
       ⟨none, 1, none, (.op (.store 4 (.t 9) (.t 30)))⟩,
       ⟨(some 10), 1, none, (.op (.mov (.t 31)))⟩])
     (.seq (.seq (.reg 0 [⟨(some 32), 0, none, (.op (.mov (.t 10)))⟩,
       ⟨(some 33), 0, none, (.op (.un .not (.t 32)))⟩])
     (.cond (.t 33)
       (.seq (.reg 0 [⟨(some 4), 0, none, (.op (.mov (.k (.d .nils))))⟩,
         ⟨(some 5), 0, none, (.op (.mov (.k (.d (.int .i64 7)))))⟩])
       (.ret))
       (.skip)))
     (.regD 2 [(⟨(some 34), 0, none, (.op (.mov (.t 6)))⟩, []),
       (⟨(some 35), 0, none, (.op (.load true 4 (.t 9)))⟩, []),
       (⟨(some 36), 0, none, (.op (.load true 4 (.t 9)))⟩, []),
       (⟨(some 37), 0, none, (.op (.mov (.t 0)))⟩, []),
       (⟨(some 38), 0, none, (.call (.k (.fn (.func 30) [] [])) [(.t 36), (.t 37)])⟩, [2, 3]),
       (⟨(some 39), 0, none, (.call (.k (.fn (.func 29) [] [])) [(.t 35), (.t 38)])⟩, [1, 4, 2, 3]),
       (⟨(some 40), 0, none, (.op (.buildSl 2 1 [.nils, .nils] [(0, (.t 39))]))⟩, [5, 1, 4, 2, 3]),
       (⟨(some 41), 1, none, (.op (.append 2 48 (.t 34) (.t 40)))⟩, [0, 6, 5, 1, 4, 2, 3]),
       (⟨(some 6), 2, none, (.op (.mov (.t 41)))⟩, [7, 0, 6, 5, 1, 4, 2, 3])])))))
    (.reg 0 [⟨(some 42), 0, none, (.op (.bin .add (.t 21) (.k (.d (.int .i64 1)))))⟩,
      ⟨(some 21), 0, none, (.op (.mov (.t 42)))⟩])))))))
  (.seq (.reg 0 [⟨(some 43), 0, none, (.op (.mov (.t 6)))⟩,
    ⟨(some 4), 0, none, (.op (.mov (.t 43)))⟩,
    ⟨(some 5), 0, none, (.op (.mov (.k (.d (.int .i64 0)))))⟩])
  (.ret)))))
theorem cc16 : Try.f16.body.bind (compC Try.prog) = some ac16 := by kernel_rfl
theorem go16 {vals : List V} {v : V} (ac : AC) (he : ac.erase = ac16) (hw : wpC Try.prog 0 ac (retQ [.tmp 4, .tmp 5] v) ⟨vals ++ List.replicate (44 - vals.length) (.tup []), []⟩) : CallP Try.prog 16 vals v :=
  call_of Try.func16 rfl rfl rfl (cc16.trans (congrArg some he.symm)) hw

/-- testbench/testbenchref38.Expect -/
def ac17 : AC :=
  .seq (.reg 0 [⟨(some 4), 0, none, (.op (.mov (.k (.d .nils))))⟩,
    ⟨(some 5), 0, none, (.op (.mov (.k (.d (.int .i64 0)))))⟩])
  (.seq (.seq (.reg 0 [⟨(some 14), 0, none, (.call (.k (.fn (.func 11) [] [])) [])⟩,
    ⟨(some 15), 0, none, (.op (.mov (.t 0)))⟩,
    ⟨(some 16), 0, none, (.call (.k (.fn (.func 31) [] [])) [(.t 14), (.t 15)])⟩,
    ⟨(some 17), 0, none, (.op (.bin .lss (.t 16) (.k (.d (.int .i64 0)))))⟩])
  (.cond (.t 17)
    (.seq (.reg 0 [⟨(some 4), 0, none, (.op (.mov (.k (.d .nils))))⟩,
      ⟨(some 5), 0, none, (.op (.mov (.k (.d (.int .i64 7)))))⟩])
    (.ret))
    (.skip)))
  (.seq (.seq (.reg 0 [⟨(some 18), 0, none, (.op (.mov (.t 1)))⟩,
    ⟨(some 19), 0, none, (.op (.len false (.t 18)))⟩,
    ⟨(some 20), 0, none, (.op (.bin .gtr (.t 19) (.k (.d (.int .i64 1024)))))⟩])
  (.cond (.t 20)
    (.seq (.reg 0 [⟨(some 4), 0, none, (.op (.mov (.k (.d .nils))))⟩,
      ⟨(some 5), 0, none, (.op (.mov (.k (.d (.int .i64 2)))))⟩])
    (.ret))
    (.skip)))
  (.seq (.reg 0 [⟨(some 6), 0, none, (.op (.mov (.k (.d .nils))))⟩])
  (.seq (.seq (.reg 0 [⟨(some 7), 0, none, (.op (.mov (.k (.d (.int .i64 0)))))⟩])
  (.block 0
   (.loop
    (.seq (.seq (.reg 0 [⟨(some 21), 0, none, (.op (.mov (.t 7)))⟩,
      ⟨(some 22), 0, none, (.op (.mov (.t 1)))⟩,
      ⟨(some 23), 0, none, (.op (.len false (.t 22)))⟩,
      ⟨(some 24), 0, none, (.op (.bin .lss (.t 21) (.t 23)))⟩])
    (.cond (.t 24)
      (.skip)
      (.exit 0)))
    (.seq (.block 1
     (.seq (.reg 0 [⟨(some 28), 0, none, (.op (.mov (.t 1)))⟩,
       ⟨(some 29), 0, none, (.op (.mov (.t 7)))⟩,
       ⟨(some 30), 0, none, (.op (.idxA 2 none (.t 28) (.t 29)))⟩,
       ⟨(some 31), 0, none, (.op (.load true 2 (.t 30)))⟩,
       ⟨(some 32), 0, none, (.call (.k (.fn (.func 20) [] [])) [(.t 31), (.k (.d (.str [105, 116])))])⟩,
       ⟨(some 27), 0, none, (.op (.mov (.t 32)))⟩,
       ⟨(some 33), 0, none, (.op (.ext (.t 27) 0))⟩,
       ⟨(some 34), 0, none, (.op (.ext (.t 27) 1))⟩,
       ⟨(some 8), 0, none, (.op (.mov (.t 33)))⟩,
       ⟨(some 9), 0, none, (.op (.mov (.t 34)))⟩])
     (.seq (.reg 0 [⟨(some 36), 0, none, (.op (.mov (.t 1)))⟩,
       ⟨(some 37), 0, none, (.op (.mov (.t 7)))⟩,
       ⟨(some 38), 0, none, (.op (.idxA 2 none (.t 36) (.t 37)))⟩,
       ⟨(some 39), 0, none, (.op (.load true 2 (.t 38)))⟩,
       ⟨(some 40), 0, none, (.call (.k (.fn (.func 20) [] [])) [(.t 39), (.k (.d (.str [105, 97])))])⟩,
       ⟨(some 35), 0, none, (.op (.mov (.t 40)))⟩,
       ⟨(some 41), 0, none, (.op (.ext (.t 35) 0))⟩,
       ⟨(some 42), 0, none, (.op (.ext (.t 35) 1))⟩,
       ⟨(some 10), 0, none, (.op (.mov (.t 41)))⟩,
       ⟨(some 11), 0, none, (.op (.mov (.t 42)))⟩])
     (.seq (.reg 0 [⟨(some 44), 0, none, (.op (.mov (.t 1)))⟩,
       ⟨(some 45), 0, none, (.op (.mov (.t 7)))⟩,
       ⟨(some 46), 0, none, (.op (.idxA 2 none (.t 44) (.t 45)))⟩,
       ⟨(some 47), 0, none, (.op (.load true 2 (.t 46)))⟩,
       ⟨(some 48), 0, none, (.call (.k (.fn (.func 20) [] [])) [(.t 47), (.k (.d (.str [105, 98])))])⟩,
       ⟨(some 43), 0, none, (.op (.mov (.t 48)))⟩,
       ⟨(some 49), 0, none, (.op (.ext (.t 43) 0))⟩,
       ⟨(some 50), 0, none, (.op (.ext (.t 43) 1))⟩,
       ⟨(some 12), 0, none, (.op (.mov (.t 49)))⟩,
       ⟨(some 13), 0, none, (.op (.mov (.t 50)))⟩])
     (.seq (.seq (.reg 0 [⟨(some 51), 0, none, (.op (.mov (.t 9)))⟩,
       ⟨(some 52), 0, none, (.op (.un .not (.t 51)))⟩,
       ⟨(some 53), 0, none, (.op (.mov (.t 52)))⟩,
       ⟨(some 54), 0, (some (53, false)), (.op (.mov (.t 11)))⟩,
       ⟨(some 55), 0, (some (53, false)), (.op (.un .not (.t 54)))⟩,
       ⟨(some 56), 0, none, (.op (.pick (.t 53) (.k (.d (.bool true))) (.t 55)))⟩,
       ⟨(some 57), 0, none, (.op (.mov (.t 56)))⟩,
       ⟨(some 58), 0, (some (57, false)), (.op (.mov (.t 13)))⟩,
       ⟨(some 59), 0, (some (57, false)), (.op (.un .not (.t 58)))⟩,
       ⟨(some 60), 0, none, (.op (.pick (.t 57) (.k (.d (.bool true))) (.t 59)))⟩])
     (.cond (.t 60)
       (.seq (.reg 0 [⟨(some 4), 0, none, (.op (.mov (.k (.d .nils))))⟩,
         ⟨(some 5), 0, none, (.op (.mov (.k (.d (.int .i64 7)))))⟩])
       (.ret))
       (.skip)))
     (.reg 4 [⟨(some 61), 0, none, (.op (.mov (.t 6)))⟩,
       ⟨(some 62), 0, none, (.op (.buildSl 1 2 [(.str [])] [(0, (.k (.d (.str [111, 116])))), (1, (.k (.d (.str [111, 97]))))]))⟩,
       ⟨(some 63), 1, none, (.op (.mov (.t 8)))⟩,
       ⟨(some 64), 1, none, (.call (.k (.fn (.func 32) [] [])) [(.t 63)])⟩,
       ⟨(some 65), 1, none, (.op (.bin .rem (.t 64) (.k (.d (.int .i64 16)))))⟩,
       ⟨(some 66), 1, none, (.op (.mov (.t 0)))⟩,
       ⟨(some 67), 1, none, (.op (.mov (.t 7)))⟩,
       ⟨(some 68), 1, none, (.op (.mov (.t 10)))⟩,
       ⟨(some 69), 1, none, (.op (.mov (.t 12)))⟩,
       ⟨(some 70), 1, none, (.call (.k (.fn (.func 33) [] [])) [(.t 66), (.t 67), (.t 68), (.t 69)])⟩,
       ⟨(some 71), 1, none, (.op (.buildSl 1 2 [(.int .i64 0)] [(0, (.t 65)), (1, (.t 70))]))⟩,
       ⟨(some 72), 2, none, (.op (.build [.nils, .nils] [(0, 1, (.t 62)), (1, 1, (.t 71))]))⟩,
       ⟨(some 73), 2, none, (.op (.buildSl 2 1 [.nils, .nils] [(0, (.t 72))]))⟩,
       ⟨(some 74), 3, none, (.op (.append 2 48 (.t 61) (.t 73)))⟩,
       ⟨(some 6), 4, none, (.op (.mov (.t 74)))⟩]))))))
    (.reg 0 [⟨(some 25), 0, none, (.op (.mov (.t 7)))⟩,
      ⟨(some 26), 0, none, (.op (.bin .add (.t 25) (.k (.d (.int .i64 1)))))⟩,
      ⟨(some 7), 0, none, (.op (.mov (.t 26)))⟩]))))))
  (.seq (.reg 0 [⟨(some 75), 0, none, (.op (.mov (.t 6)))⟩,
    ⟨(some 4), 0, none, (.op (.mov (.t 75)))⟩,
    ⟨(some 5), 0, none, (.op (.mov (.k (.d (.int .i64 0)))))⟩])
  (.ret))))))
theorem cc17 : Try.f17.body.bind (compC Try.prog) = some ac17 := by kernel_rfl
theorem go17 {vals : List V} {v : V} (ac : AC) (he : ac.erase = ac17) (hw : wpC Try.prog 0 ac (retQ [.tmp 4, .tmp 5] v) ⟨vals ++ List.replicate (76 - vals.length) (.tup []), []⟩) : CallP Try.prog 17 vals v :=
  call_of Try.func17 rfl rfl rfl (cc17.trans (congrArg some he.symm)) hw

/-- testbench/testbenchref26.SameAll -/
def ac18 : AC :=
  .seq (.reg 0 [⟨(some 4), 0, none, (.op (.mov (.k (.d (.bool false)))))⟩])
  (.seq (.seq (.reg 0 [⟨(some 6), 0, none, (.op (.mov (.t 0)))⟩,
    ⟨(some 7), 0, none, (.op (.len false (.t 6)))⟩,
    ⟨(some 8), 0, none, (.op (.mov (.t 1)))⟩,
    ⟨(some 9), 0, none, (.op (.len false (.t 8)))⟩,
    ⟨(some 10), 0, none, (.op (.bin .neq (.t 7) (.t 9)))⟩])
  (.cond (.t 10)
    (.seq (.reg 0 [⟨(some 4), 0, none, (.op (.mov (.k (.d (.bool false)))))⟩])
    (.ret))
    (.skip)))
  (.seq (.seq (.reg 0 [⟨(some 5), 0, none, (.op (.mov (.k (.d (.int .i64 0)))))⟩])
  (.block 0
   (.loop
    (.seq (.seq (.reg 0 [⟨(some 11), 0, none, (.op (.mov (.t 5)))⟩,
      ⟨(some 12), 0, none, (.op (.mov (.t 0)))⟩,
      ⟨(some 13), 0, none, (.op (.len false (.t 12)))⟩,
      ⟨(some 14), 0, none, (.op (.bin .lss (.t 11) (.t 13)))⟩])
    (.cond (.t 14)
      (.skip)
      (.exit 0)))
    (.seq (.block 1
     (.seq (.regD 0 [(⟨(some 17), 0, none, (.op (.mov (.t 0)))⟩, []),
       (⟨(some 18), 0, none, (.op (.mov (.t 5)))⟩, []),
       (⟨(some 19), 0, none, (.op (.idxA 2 none (.t 17) (.t 18)))⟩, [0, 1]),
       (⟨(some 20), 0, none, (.op (.load true 2 (.t 19)))⟩, [2, 0, 1]),
       (⟨(some 21), 0, none, (.op (.mov (.t 1)))⟩, []),
       (⟨(some 22), 0, none, (.op (.mov (.t 5)))⟩, []),
       (⟨(some 23), 0, none, (.op (.idxA 2 none (.t 21) (.t 22)))⟩, [4, 5]),
       (⟨(some 24), 0, none, (.op (.load true 2 (.t 23)))⟩, [6, 4, 5]),
       (⟨(some 25), 0, none, (.call (.k (.fn (.func 19) [] [])) [(.t 20), (.t 24)])⟩, [3, 2, 0, 1, 7, 6, 4, 5]),
       (⟨(some 26), 0, none, (.op (.un .not (.t 25)))⟩, [8, 3, 2, 0, 1, 7, 6, 4, 5])])
     (.cond (.t 26)
       (.seq (.reg 0 [⟨(some 4), 0, none, (.op (.mov (.k (.d (.bool false)))))⟩])
       (.ret))
       (.skip))))
    (.reg 0 [⟨(some 15), 0, none, (.op (.mov (.t 5)))⟩,
      ⟨(some 16), 0, none, (.op (.bin .add (.t 15) (.k (.d (.int .i64 1)))))⟩,
      ⟨(some 5), 0, none, (.op (.mov (.t 16)))⟩]))))))
  (.seq (.reg 0 [⟨(some 4), 0, none, (.op (.mov (.k (.d (.bool true)))))⟩])
  (.ret))))
theorem cc18 : Try.f18.body.bind (compC Try.prog) = some ac18 := by kernel_rfl
theorem go18 {vals : List V} {v : V} (ac : AC) (he : ac.erase = ac18) (hw : wpC Try.prog 0 ac (retQ [.tmp 4] v) ⟨vals ++ List.replicate (27 - vals.length) (.tup []), []⟩) : CallP Try.prog 18 vals v :=
  call_of Try.func18 rfl rfl rfl (cc18.trans (congrArg some he.symm)) hw

/-- testbench/testbenchref26.Same -/
def ac19 : AC :=
  .seq (.reg 2 [⟨(some 2), 0, none, (.op (.box 2 (.t 0)))⟩,
    ⟨(some 3), 1, none, (.op (.box 2 (.t 1)))⟩,
    ⟨(some 4), 2, none, (.op (.mov (.k (.d (.bool false)))))⟩])
  (.seq (.seq (.reg 0 [⟨(some 7), 0, none, (.op (.fldA 0 (.t 2)))⟩,
    ⟨(some 8), 0, none, (.op (.load false 1 (.t 7)))⟩,
    ⟨(some 9), 0, none, (.op (.len false (.t 8)))⟩,
    ⟨(some 10), 0, none, (.op (.fldA 0 (.t 3)))⟩,
    ⟨(some 11), 0, none, (.op (.load false 1 (.t 10)))⟩,
    ⟨(some 12), 0, none, (.op (.len false (.t 11)))⟩,
    ⟨(some 13), 0, none, (.op (.bin .neq (.t 9) (.t 12)))⟩,
    ⟨(some 14), 0, none, (.op (.mov (.t 13)))⟩,
    ⟨(some 15), 0, (some (14, false)), (.op (.fldA 1 (.t 2)))⟩,
    ⟨(some 16), 0, (some (14, false)), (.op (.load false 1 (.t 15)))⟩,
    ⟨(some 17), 0, (some (14, false)), (.op (.len false (.t 16)))⟩,
    ⟨(some 18), 0, (some (14, false)), (.op (.fldA 1 (.t 3)))⟩,
    ⟨(some 19), 0, (some (14, false)), (.op (.load false 1 (.t 18)))⟩,
    ⟨(some 20), 0, (some (14, false)), (.op (.len false (.t 19)))⟩,
    ⟨(some 21), 0, (some (14, false)), (.op (.bin .neq (.t 17) (.t 20)))⟩,
    ⟨(some 22), 0, none, (.op (.pick (.t 14) (.k (.d (.bool true))) (.t 21)))⟩])
  (.cond (.t 22)
    (.seq (.reg 0 [⟨(some 4), 0, none, (.op (.mov (.k (.d (.bool false)))))⟩])
    (.ret))
    (.skip)))
  (.seq (.seq (.reg 0 [⟨(some 5), 0, none, (.op (.mov (.k (.d (.int .i64 0)))))⟩])
  (.block 0
   (.loop
    (.seq (.seq (.reg 0 [⟨(some 23), 0, none, (.op (.mov (.t 5)))⟩,
      ⟨(some 24), 0, none, (.op (.fldA 0 (.t 2)))⟩,
      ⟨(some 25), 0, none, (.op (.load false 1 (.t 24)))⟩,
      ⟨(some 26), 0, none, (.op (.len false (.t 25)))⟩,
      ⟨(some 27), 0, none, (.op (.bin .lss (.t 23) (.t 26)))⟩])
    (.cond (.t 27)
      (.skip)
      (.exit 0)))
    (.seq (.block 1
     (.seq (.regD 0 [(⟨(some 30), 0, none, (.op (.fldA 0 (.t 2)))⟩, []),
       (⟨(some 31), 0, none, (.op (.load false 1 (.t 30)))⟩, [0]),
       (⟨(some 32), 0, none, (.op (.mov (.t 5)))⟩, []),
       (⟨(some 33), 0, none, (.op (.idxA 1 none (.t 31) (.t 32)))⟩, [1, 0, 2]),
       (⟨(some 34), 0, none, (.op (.load false 1 (.t 33)))⟩, [3, 1, 0, 2]),
       (⟨(some 35), 0, none, (.op (.fldA 0 (.t 3)))⟩, []),
       (⟨(some 36), 0, none, (.op (.load false 1 (.t 35)))⟩, [5]),
       (⟨(some 37), 0, none, (.op (.mov (.t 5)))⟩, []),
       (⟨(some 38), 0, none, (.op (.idxA 1 none (.t 36) (.t 37)))⟩, [6, 5, 7]),
       (⟨(some 39), 0, none, (.op (.load false 1 (.t 38)))⟩, [8, 6, 5, 7]),
       (⟨(some 40), 0, none, (.op (.bin .neq (.t 34) (.t 39)))⟩, [4, 3, 1, 0, 2, 9, 8, 6, 5, 7])])
     (.cond (.t 40)
       (.seq (.reg 0 [⟨(some 4), 0, none, (.op (.mov (.k (.d (.bool false)))))⟩])
       (.ret))
       (.skip))))
    (.reg 0 [⟨(some 28), 0, none, (.op (.mov (.t 5)))⟩,
      ⟨(some 29), 0, none, (.op (.bin .add (.t 28) (.k (.d (.int .i64 1)))))⟩,
      ⟨(some 5), 0, none, (.op (.mov (.t 29)))⟩]))))))
  (.seq (.seq (.reg 0 [⟨(some 6), 0, none, (.op (.mov (.k (.d (.int .i64 0)))))⟩])
  (.block 2
   (.loop
    (.seq (.seq (.reg 0 [⟨(some 41), 0, none, (.op (.mov (.t 6)))⟩,
      ⟨(some 42), 0, none, (.op (.fldA 1 (.t 2)))⟩,
      ⟨(some 43), 0, none, (.op (.load false 1 (.t 42)))⟩,
      ⟨(some 44), 0, none, (.op (.len false (.t 43)))⟩,
      ⟨(some 45), 0, none, (.op (.bin .lss (.t 41) (.t 44)))⟩])
    (.cond (.t 45)
      (.skip)
      (.exit 2)))
    (.seq (.block 3
     (.seq (.regD 0 [(⟨(some 48), 0, none, (.op (.fldA 1 (.t 2)))⟩, []),
       (⟨(some 49), 0, none, (.op (.load false 1 (.t 48)))⟩, [0]),
       (⟨(some 50), 0, none, (.op (.mov (.t 6)))⟩, []),
       (⟨(some 51), 0, none, (.op (.idxA 1 none (.t 49) (.t 50)))⟩, [1, 0, 2]),
       (⟨(some 52), 0, none, (.op (.load false 1 (.t 51)))⟩, [3, 1, 0, 2]),
       (⟨(some 53), 0, none, (.op (.fldA 1 (.t 3)))⟩, []),
       (⟨(some 54), 0, none, (.op (.load false 1 (.t 53)))⟩, [5]),
       (⟨(some 55), 0, none, (.op (.mov (.t 6)))⟩, []),
       (⟨(some 56), 0, none, (.op (.idxA 1 none (.t 54) (.t 55)))⟩, [6, 5, 7]),
       (⟨(some 57), 0, none, (.op (.load false 1 (.t 56)))⟩, [8, 6, 5, 7]),
       (⟨(some 58), 0, none, (.op (.bin .neq (.t 52) (.t 57)))⟩, [4, 3, 1, 0, 2, 9, 8, 6, 5, 7])])
     (.cond (.t 58)
       (.seq (.reg 0 [⟨(some 4), 0, none, (.op (.mov (.k (.d (.bool false)))))⟩])
       (.ret))
       (.skip))))
    (.reg 0 [⟨(some 46), 0, none, (.op (.mov (.t 6)))⟩,
      ⟨(some 47), 0, none, (.op (.bin .add (.t 46) (.k (.d (.int .i64 1)))))⟩,
      ⟨(some 6), 0, none, (.op (.mov (.t 47)))⟩]))))))
  (.seq (.reg 0 [⟨(some 4), 0, none, (.op (.mov (.k (.d (.bool true)))))⟩])
  (.ret)))))
theorem cc19 : Try.f19.body.bind (compC Try.prog) = some ac19 := by kernel_rfl
theorem go19 {vals : List V} {v : V} (ac : AC) (he : ac.erase = ac19) (hw : wpC Try.prog 0 ac (retQ [.tmp 4] v) ⟨vals ++ List.replicate (59 - vals.length) (.tup []), []⟩) : CallP Try.prog 19 vals v :=
  call_of Try.func19 rfl rfl rfl (cc19.trans (congrArg some he.symm)) hw

/-- testbench/testbenchref26.Get -/
def ac20 : AC :=
  .seq (.reg 1 [⟨(some 2), 0, none, (.op (.box 2 (.t 0)))⟩,
    ⟨(some 4), 1, none, (.op (.mov (.k (.d (.int .i64 0)))))⟩,
    ⟨(some 5), 1, none, (.op (.mov (.k (.d (.bool false)))))⟩])
  (.seq (.reg 0 [⟨(some 7), 0, none, (.op (.fldA 0 (.t 2)))⟩,
    ⟨(some 8), 0, none, (.op (.load false 1 (.t 7)))⟩,
    ⟨(some 9), 0, none, (.op (.mov (.t 1)))⟩,
    ⟨(some 10), 0, none, (.call (.k (.fn (.func 31) [] [])) [(.t 8), (.t 9)])⟩,
    ⟨(some 6), 0, none, (.op (.mov (.t 10)))⟩])
  (.seq (.seq (.reg 0 [⟨(some 11), 0, none, (.op (.mov (.t 6)))⟩,
    ⟨(some 12), 0, none, (.op (.bin .lss (.t 11) (.k (.d (.int .i64 0)))))⟩,
    ⟨(some 13), 0, none, (.op (.mov (.t 12)))⟩,
    ⟨(some 14), 0, (some (13, false)), (.op (.mov (.t 6)))⟩,
    ⟨(some 15), 0, (some (13, false)), (.op (.fldA 1 (.t 2)))⟩,
    ⟨(some 16), 0, (some (13, false)), (.op (.load false 1 (.t 15)))⟩,
    ⟨(some 17), 0, (some (13, false)), (.op (.len false (.t 16)))⟩,
    ⟨(some 18), 0, (some (13, false)), (.op (.bin .geq (.t 14) (.t 17)))⟩,
    ⟨(some 19), 0, none, (.op (.pick (.t 13) (.k (.d (.bool true))) (.t 18)))⟩])
  (.cond (.t 19)
    (.seq (.reg 0 [⟨(some 4), 0, none, (.op (.mov (.k (.d (.int .i64 0)))))⟩,
      ⟨(some 5), 0, none, (.op (.mov (.k (.d (.bool false)))))⟩])
    (.ret))
    (.skip)))
  (.seq (.reg 0 [⟨(some 20), 0, none, (.op (.fldA 1 (.t 2)))⟩,
    ⟨(some 21), 0, none, (.op (.load false 1 (.t 20)))⟩,
    ⟨(some 22), 0, none, (.op (.mov (.t 6)))⟩,
    ⟨(some 23), 0, none, (.op (.idxA 1 none (.t 21) (.t 22)))⟩,
    ⟨(some 24), 0, none, (.op (.load false 1 (.t 23)))⟩,
    ⟨(some 4), 0, none, (.op (.mov (.t 24)))⟩,
    ⟨(some 5), 0, none, (.op (.mov (.k (.d (.bool true)))))⟩])
  (.ret))))
theorem cc20 : Try.f20.body.bind (compC Try.prog) = some ac20 := by kernel_rfl
theorem go20 {vals : List V} {v : V} (ac : AC) (he : ac.erase = ac20) (hw : wpC Try.prog 0 ac (retQ [.tmp 4, .tmp 5] v) ⟨vals ++ List.replicate (25 - vals.length) (.tup []), []⟩) : CallP Try.prog 20 vals v :=
  call_of Try.func20 rfl rfl rfl (cc20.trans (congrArg some he.symm)) hw

/-- testbench/testbenchref26.Valid -/
def ac21 : AC :=
  .seq (.reg 1 [⟨(some 1), 0, none, (.op (.box 2 (.t 0)))⟩,
    ⟨(some 2), 1, none, (.op (.mov (.k (.d (.bool false)))))⟩])
  (.seq (.seq (.regD 0 [(⟨(some 4), 0, none, (.op (.fldA 0 (.t 1)))⟩, []),
    (⟨(some 5), 0, none, (.op (.load false 1 (.t 4)))⟩, [0]),
    (⟨(some 6), 0, none, (.op (.len false (.t 5)))⟩, [1, 0]),
    (⟨(some 7), 0, none, (.op (.fldA 1 (.t 1)))⟩, []),
    (⟨(some 8), 0, none, (.op (.load false 1 (.t 7)))⟩, [3]),
    (⟨(some 9), 0, none, (.op (.len false (.t 8)))⟩, [4, 3]),
    (⟨(some 10), 0, none, (.op (.bin .neq (.t 6) (.t 9)))⟩, [2, 1, 0, 5, 4, 3]),
    (⟨(some 11), 0, none, (.op (.mov (.t 10)))⟩, [6, 2, 1, 0, 5, 4, 3]),
    (⟨(some 12), 0, (some (11, false)), (.op (.fldA 0 (.t 1)))⟩, [7, 6, 2, 1, 0, 5, 4, 3]),
    (⟨(some 13), 0, (some (11, false)), (.op (.load false 1 (.t 12)))⟩, [8, 7, 6, 2, 1, 0, 5, 4, 3]),
    (⟨(some 14), 0, (some (11, false)), (.op (.len false (.t 13)))⟩, [9, 8, 7, 6, 2, 1, 0, 5, 4, 3]),
    (⟨(some 15), 0, (some (11, false)), (.call (.k (.fn (.func 34) [] [])) [])⟩, [7, 6, 2, 1, 0, 5, 4, 3]),
    (⟨(some 16), 0, (some (11, false)), (.op (.bin .gtr (.t 14) (.t 15)))⟩, [10, 9, 8, 7, 6, 2, 1, 0, 5, 4, 3, 11]),
    (⟨(some 17), 0, none, (.op (.pick (.t 11) (.k (.d (.bool true))) (.t 16)))⟩, [7, 6, 2, 1, 0, 5, 4, 3, 12, 10, 9, 8, 11]),
    (⟨(some 18), 0, none, (.op (.mov (.t 17)))⟩, [13, 7, 6, 2, 1, 0, 5, 4, 3, 12, 10, 9, 8, 11]),
    (⟨(some 19), 0, (some (18, false)), (.op (.fldA 0 (.t 1)))⟩, [14, 13, 7, 6, 2, 1, 0, 5, 4, 3, 12, 10, 9, 8, 11]),
    (⟨(some 20), 0, (some (18, false)), (.op (.load false 1 (.t 19)))⟩, [15, 14, 13, 7, 6, 2, 1, 0, 5, 4, 3, 12, 10, 9, 8, 11]),
    (⟨(some 21), 0, (some (18, false)), (.call (.k (.fn (.func 35) [] [])) [(.t 20)])⟩, [16, 15, 14, 13, 7, 6, 2, 1, 0, 5, 4, 3, 12, 10, 9, 8, 11]),
    (⟨(some 22), 0, (some (18, false)), (.op (.un .not (.t 21)))⟩, [17, 16, 15, 14, 13, 7, 6, 2, 1, 0, 5, 4, 3, 12, 10, 9, 8, 11]),
    (⟨(some 23), 0, none, (.op (.pick (.t 18) (.k (.d (.bool true))) (.t 22)))⟩, [14, 13, 7, 6, 2, 1, 0, 5, 4, 3, 12, 10, 9, 8, 11, 18, 17, 16, 15])])
  (.cond (.t 23)
    (.seq (.reg 0 [⟨(some 2), 0, none, (.op (.mov (.k (.d (.bool false)))))⟩])
    (.ret))
    (.skip)))
  (.seq (.seq (.reg 0 [⟨(some 3), 0, none, (.op (.mov (.k (.d (.int .i64 0)))))⟩])
  (.block 0
   (.loop
    (.seq (.seq (.reg 0 [⟨(some 24), 0, none, (.op (.mov (.t 3)))⟩,
      ⟨(some 25), 0, none, (.op (.fldA 1 (.t 1)))⟩,
      ⟨(some 26), 0, none, (.op (.load false 1 (.t 25)))⟩,
      ⟨(some 27), 0, none, (.op (.len false (.t 26)))⟩,
      ⟨(some 28), 0, none, (.op (.bin .lss (.t 24) (.t 27)))⟩])
    (.cond (.t 28)
      (.skip)
      (.exit 0)))
    (.seq (.block 1
     (.seq (.reg 0 [⟨(some 31), 0, none, (.op (.fldA 1 (.t 1)))⟩,
       ⟨(some 32), 0, none, (.op (.load false 1 (.t 31)))⟩,
       ⟨(some 33), 0, none, (.op (.mov (.t 3)))⟩,
       ⟨(some 34), 0, none, (.op (.idxA 1 none (.t 32) (.t 33)))⟩,
       ⟨(some 35), 0, none, (.op (.load false 1 (.t 34)))⟩,
       ⟨(some 36), 0, none, (.op (.bin .lss (.t 35) (.k (.d (.int .i64 0)))))⟩,
       ⟨(some 37), 0, none, (.op (.mov (.t 36)))⟩,
       ⟨(some 38), 0, (some (37, false)), (.op (.fldA 1 (.t 1)))⟩,
       ⟨(some 39), 0, (some (37, false)), (.op (.load false 1 (.t 38)))⟩,
       ⟨(some 40), 0, (some (37, false)), (.op (.mov (.t 3)))⟩,
       ⟨(some 41), 0, (some (37, false)), (.op (.idxA 1 none (.t 39) (.t 40)))⟩,
       ⟨(some 42), 0, (some (37, false)), (.op (.load false 1 (.t 41)))⟩,
       ⟨(some 43), 0, (some (37, false)), (.op (.bin .gtr (.t 42) (.k (.d (.int .i64 65535)))))⟩,
       ⟨(some 44), 0, none, (.op (.pick (.t 37) (.k (.d (.bool true))) (.t 43)))⟩])
     (.cond (.t 44)
       (.seq (.reg 0 [⟨(some 2), 0, none, (.op (.mov (.k (.d (.bool false)))))⟩])
       (.ret))
       (.skip))))
    (.reg 0 [⟨(some 29), 0, none, (.op (.mov (.t 3)))⟩,
      ⟨(some 30), 0, none, (.op (.bin .add (.t 29) (.k (.d (.int .i64 1)))))⟩,
      ⟨(some 3), 0, none, (.op (.mov (.t 30)))⟩]))))))
  (.seq (.reg 0 [⟨(some 2), 0, none, (.op (.mov (.k (.d (.bool true)))))⟩])
  (.ret))))
theorem cc21 : Try.f21.body.bind (compC Try.prog) = some ac21 := by kernel_rfl
theorem go21 {vals : List V} {v : V} (ac : AC) (he : ac.erase = ac21) (hw : wpC Try.prog 0 ac (retQ [.tmp 2] v) ⟨vals ++ List.replicate (45 - vals.length) (.tup []), []⟩) : CallP Try.prog 21 vals v :=
  call_of Try.func21 rfl rfl rfl (cc21.trans (congrArg some he.symm)) hw

/-- testbench/refmodel.Prefix -/
def ac22 : AC :=
  .seq (.reg 0 [⟨(some 6), 0, none, (.op (.mov (.k (.d .nils))))⟩,
    ⟨(some 7), 0, none, (.op (.mov (.k (.d (.int .i64 0)))))⟩])
  (.seq (.block 0
   (.seq (.reg 0 [⟨(some 9), 0, none, (.op (.mov (.t 0)))⟩,
     ⟨(some 10), 0, none, (.call (.k (.fn (.func 25) [] [])) [(.t 9)])⟩,
     ⟨(some 11), 0, none, (.op (.un .not (.t 10)))⟩,
     ⟨(some 8), 0, none, (.op (.mov (.t 11)))⟩])
   (.cond (.t 8)
     (.seq (.reg 0 [⟨(some 6), 0, none, (.op (.mov (.k (.d .nils))))⟩,
       ⟨(some 7), 0, none, (.op (.mov (.k (.d (.int .i64 7)))))⟩])
     (.ret))
     (.seq (.reg 0 [⟨(some 13), 0, none, (.op (.mov (.t 2)))⟩,
       ⟨(some 14), 0, none, (.op (.bin .lss (.t 13) (.k (.d (.int .i64 0)))))⟩,
       ⟨(some 15), 0, none, (.op (.mov (.t 14)))⟩,
       ⟨(some 16), 0, (some (15, false)), (.op (.mov (.t 2)))⟩,
       ⟨(some 17), 0, (some (15, false)), (.op (.mov (.t 1)))⟩,
       ⟨(some 18), 0, (some (15, false)), (.op (.len false (.t 17)))⟩,
       ⟨(some 19), 0, (some (15, false)), (.op (.bin .gtr (.t 16) (.t 18)))⟩,
       ⟨(some 20), 0, none, (.op (.pick (.t 15) (.k (.d (.bool true))) (.t 19)))⟩,
       ⟨(some 12), 0, none, (.op (.mov (.t 20)))⟩])
     (.cond (.t 12)
       (.seq (.reg 0 [⟨(some 6), 0, none, (.op (.mov (.k (.d .nils))))⟩,
         ⟨(some 7), 0, none, (.op (.mov (.k (.d (.int .i64 1)))))⟩])
       (.ret))
       (.skip))))))
  (.seq (.reg 0 [⟨(some 21), 0, none, (.op (.mov (.t 0)))⟩,
    ⟨(some 22), 0, none, (.op (.mov (.t 1)))⟩,
    ⟨(some 23), 0, none, (.op (.mov (.t 2)))⟩,
    ⟨(some 24), 0, none, (.op (.slice 2 (.t 22) none (some (.t 23))))⟩,
    ⟨(some 25), 0, none, (.call (.k (.fn (.func 16) [] [])) [(.t 21), (.t 24)])⟩,
    ⟨(some 26), 0, none, (.op (.ext (.t 25) 0))⟩,
    ⟨(some 27), 0, none, (.op (.ext (.t 25) 1))⟩,
    ⟨(some 6), 0, none, (.op (.mov (.t 26)))⟩,
    ⟨(some 7), 0, none, (.op (.mov (.t 27)))⟩])
  (.ret)))
theorem cc22 : Try.f22.body.bind (compC Try.prog) = some ac22 := by kernel_rfl
theorem go22 {vals : List V} {v : V} (ac : AC) (he : ac.erase = ac22) (hw : wpC Try.prog 0 ac (retQ [.tmp 6, .tmp 7] v) ⟨vals ++ List.replicate (28 - vals.length) (.tup []), []⟩) : CallP Try.prog 22 vals v :=
  call_of Try.func22 rfl rfl rfl (cc22.trans (congrArg some he.symm)) hw

/-- testbench/testbenchref38.Prefix -/
def ac23 : AC :=
  .seq (.reg 0 [⟨(some 6), 0, none, (.op (.mov (.k (.d .nils))))⟩,
    ⟨(some 7), 0, none, (.op (.mov (.k (.d (.int .i64 0)))))⟩])
  (.seq (.seq (.reg 0 [⟨(some 8), 0, none, (.call (.k (.fn (.func 11) [] [])) [])⟩,
    ⟨(some 9), 0, none, (.op (.mov (.t 0)))⟩,
    ⟨(some 10), 0, none, (.call (.k (.fn (.func 31) [] [])) [(.t 8), (.t 9)])⟩,
    ⟨(some 11), 0, none, (.op (.bin .lss (.t 10) (.k (.d (.int .i64 0)))))⟩])
  (.cond (.t 11)
    (.seq (.reg 0 [⟨(some 6), 0, none, (.op (.mov (.k (.d .nils))))⟩,
      ⟨(some 7), 0, none, (.op (.mov (.k (.d (.int .i64 7)))))⟩])
    (.ret))
    (.skip)))
  (.seq (.seq (.reg 0 [⟨(some 12), 0, none, (.op (.mov (.t 2)))⟩,
    ⟨(some 13), 0, none, (.op (.bin .lss (.t 12) (.k (.d (.int .i64 0)))))⟩,
    ⟨(some 14), 0, none, (.op (.mov (.t 13)))⟩,
    ⟨(some 15), 0, (some (14, false)), (.op (.mov (.t 2)))⟩,
    ⟨(some 16), 0, (some (14, false)), (.op (.mov (.t 1)))⟩,
    ⟨(some 17), 0, (some (14, false)), (.op (.len false (.t 16)))⟩,
    ⟨(some 18), 0, (some (14, false)), (.op (.bin .gtr (.t 15) (.t 17)))⟩,
    ⟨(some 19), 0, none, (.op (.pick (.t 14) (.k (.d (.bool true))) (.t 18)))⟩])
  (.cond (.t 19)
    (.seq (.reg 0 [⟨(some 6), 0, none, (.op (.mov (.k (.d .nils))))⟩,
      ⟨(some 7), 0, none, (.op (.mov (.k (.d (.int .i64 1)))))⟩])
    (.ret))
    (.skip)))
  (.seq (.reg 0 [⟨(some 20), 0, none, (.op (.mov (.t 0)))⟩,
    ⟨(some 21), 0, none, (.op (.mov (.t 1)))⟩,
    ⟨(some 22), 0, none, (.op (.mov (.t 2)))⟩,
    ⟨(some 23), 0, none, (.op (.slice 2 (.t 21) none (some (.t 22))))⟩,
    ⟨(some 24), 0, none, (.call (.k (.fn (.func 17) [] [])) [(.t 20), (.t 23)])⟩,
    ⟨(some 25), 0, none, (.op (.ext (.t 24) 0))⟩,
    ⟨(some 26), 0, none, (.op (.ext (.t 24) 1))⟩,
    ⟨(some 6), 0, none, (.op (.mov (.t 25)))⟩,
    ⟨(some 7), 0, none, (.op (.mov (.t 26)))⟩])
  (.ret))))
theorem cc23 : Try.f23.body.bind (compC Try.prog) = some ac23 := by kernel_rfl
theorem go23 {vals : List V} {v : V} (ac : AC) (he : ac.erase = ac23) (hw : wpC Try.prog 0 ac (retQ [.tmp 6, .tmp 7] v) ⟨vals ++ List.replicate (27 - vals.length) (.tup []), []⟩) : CallP Try.prog 23 vals v :=
  call_of Try.func23 rfl rfl rfl (cc23.trans (congrArg some he.symm)) hw

/-- testbench/testbenchlaw38.input -/
def ac24 : AC :=
  .seq (.reg 1 [⟨(some 6), 0, none, (.op (.alloc [.nils, .nils]))⟩])
  (.seq (.reg 2 [⟨(some 7), 0, none, (.op (.buildSl 1 3 [(.str [])] [(0, (.k (.d (.str [105, 116])))), (1, (.k (.d (.str [105, 97])))), (2, (.k (.d (.str [105, 98]))))]))⟩,
    ⟨(some 8), 1, none, (.op (.mov (.t 0)))⟩,
    ⟨(some 9), 1, none, (.op (.mov (.t 1)))⟩,
    ⟨(some 10), 1, none, (.op (.mov (.t 2)))⟩,
    ⟨(some 11), 1, none, (.op (.buildSl 1 3 [(.int .i64 0)] [(0, (.t 8)), (1, (.t 9)), (2, (.t 10))]))⟩,
    ⟨(some 12), 2, none, (.op (.build [.nils, .nils] [(0, 1, (.t 7)), (1, 1, (.t 11))]))⟩,
    ⟨none, 2, none, (.op (.store 2 (.t 6) (.t 12)))⟩])
  (.ret))
theorem cc24 : Try.f24.body.bind (compC Try.prog) = some ac24 := by kernel_rfl
theorem go24 {vals : List V} {v : V} (ac : AC) (he : ac.erase = ac24) (hw : wpC Try.prog 0 ac (retQ [.cell 6 true 2] v) ⟨vals ++ List.replicate (13 - vals.length) (.tup []), []⟩) : CallP Try.prog 24 vals v :=
  call_of Try.func24 rfl rfl rfl (cc24.trans (congrArg some he.symm)) hw

/-- testbench/refmodel.known -/
def ac25 : AC :=
  .seq (.reg 0 [⟨(some 2), 0, none, (.op (.mov (.k (.d (.bool false)))))⟩])
  (.seq (.seq (.reg 0 [⟨(some 5), 0, none, (.call (.k (.fn (.func 10) [] [])) [])⟩,
    ⟨(some 6), 0, none, (.op (.len false (.t 5)))⟩,
    ⟨(some 7), 0, none, (.op (.mov (.k (.d (.int .i64 0)))))⟩])
  (.block 0
   (.loop
    (.seq (.reg 0 [⟨(some 8), 0, none, (.op (.bin .lss (.t 7) (.t 6)))⟩])
    (.seq (.cond (.t 8)
      (.skip)
      (.exit 0))
    (.seq (.block 1
     (.seq (.reg 0 [⟨(some 9), 0, none, (.op (.idxA 1 none (.t 5) (.t 7)))⟩,
       ⟨(some 10), 0, none, (.op (.load false 1 (.t 9)))⟩,
       ⟨(some 4), 0, none, (.op (.mov (.t 10)))⟩])
     (.seq (.reg 0 [⟨(some 11), 0, none, (.op (.mov (.t 4)))⟩,
       ⟨(some 12), 0, none, (.op (.mov (.t 0)))⟩,
       ⟨(some 13), 0, none, (.op (.bin .eql (.t 11) (.t 12)))⟩])
     (.cond (.t 13)
       (.seq (.reg 0 [⟨(some 2), 0, none, (.op (.mov (.k (.d (.bool true)))))⟩])
       (.ret))
       (.skip)))))
    (.reg 0 [⟨(some 14), 0, none, (.op (.bin .add (.t 7) (.k (.d (.int .i64 1)))))⟩,
      ⟨(some 7), 0, none, (.op (.mov (.t 14)))⟩])))))))
  (.seq (.reg 0 [⟨(some 2), 0, none, (.op (.mov (.k (.d (.bool false)))))⟩])
  (.ret)))
theorem cc25 : Try.f25.body.bind (compC Try.prog) = some ac25 := by kernel_rfl
theorem go25 {vals : List V} {v : V} (ac : AC) (he : ac.erase = ac25) (hw : wpC Try.prog 0 ac (retQ [.tmp 2] v) ⟨vals ++ List.replicate (15 - vals.length) (.tup []), []⟩) : CallP Try.prog 25 vals v :=
  call_of Try.func25 rfl rfl rfl (cc25.trans (congrArg some he.symm)) hw

/-- testbench/testbenchref26.Print -/
def ac26 : AC :=
  .seq (.reg 1 [⟨(some 1), 0, none, (.op (.box 2 (.t 0)))⟩,
    ⟨(some 2), 1, none, (.op (.mov (.k (.d (.str [])))))⟩])
  (.seq (.seq (.reg 0 [⟨(some 5), 0, none, (.op (.load true 2 (.t 1)))⟩,
    ⟨(some 6), 0, none, (.call (.k (.fn (.func 21) [] [])) [(.t 5)])⟩,
    ⟨(some 7), 0, none, (.op (.un .not (.t 6)))⟩])
  (.cond (.t 7)
    (.seq (.reg 0 [⟨(some 2), 0, none, (.op (.mov (.k (.d (.str [])))))⟩])
    (.ret))
    (.skip)))
  (.seq (.reg 0 [⟨(some 3), 0, none, (.op (.mov (.k (.d (.str [])))))⟩])
  (.seq (.seq (.reg 0 [⟨(some 4), 0, none, (.op (.mov (.k (.d (.int .i64 0)))))⟩])
  (.block 0
   (.loop
    (.seq (.seq (.reg 0 [⟨(some 8), 0, none, (.op (.mov (.t 4)))⟩,
      ⟨(some 9), 0, none, (.op (.fldA 0 (.t 1)))⟩,
      ⟨(some 10), 0, none, (.op (.load false 1 (.t 9)))⟩,
      ⟨(some 11), 0, none, (.op (.len false (.t 10)))⟩,
      ⟨(some 12), 0, none, (.op (.bin .lss (.t 8) (.t 11)))⟩])
    (.cond (.t 12)
      (.skip)
      (.exit 0)))
    (.seq (.block 1
     (.seq (.seq (.reg 0 [⟨(some 15), 0, none, (.op (.mov (.t 4)))⟩,
       ⟨(some 16), 0, none, (.op (.bin .gtr (.t 15) (.k (.d (.int .i64 0)))))⟩])
     (.cond (.t 16)
       (.reg 0 [⟨(some 17), 0, none, (.op (.mov (.t 3)))⟩,
         ⟨(some 18), 0, none, (.op (.bin .add (.t 17) (.k (.d (.str [32])))))⟩,
         ⟨(some 3), 0, none, (.op (.mov (.t 18)))⟩])
       (.skip)))
     (.regD 0 [(⟨(some 19), 0, none, (.op (.mov (.t 3)))⟩, []),
       (⟨(some 20), 0, none, (.op (.fldA 0 (.t 1)))⟩, []),
       (⟨(some 21), 0, none, (.op (.load false 1 (.t 20)))⟩, [1]),
       (⟨(some 22), 0, none, (.op (.mov (.t 4)))⟩, []),
       (⟨(some 23), 0, none, (.op (.idxA 1 none (.t 21) (.t 22)))⟩, [2, 1, 3]),
       (⟨(some 24), 0, none, (.op (.load false 1 (.t 23)))⟩, [4, 2, 1, 3]),
       (⟨(some 25), 0, none, (.op (.bin .add (.t 19) (.t 24)))⟩, [0, 5, 4, 2, 1, 3]),
       (⟨(some 26), 0, none, (.op (.bin .add (.t 25) (.k (.d (.str [61])))))⟩, [6, 0, 5, 4, 2, 1, 3]),
       (⟨(some 27), 0, none, (.op (.fldA 1 (.t 1)))⟩, []),
       (⟨(some 28), 0, none, (.op (.load false 1 (.t 27)))⟩, [8]),
       (⟨(some 29), 0, none, (.op (.mov (.t 4)))⟩, []),
       (⟨(some 30), 0, none, (.op (.idxA 1 none (.t 28) (.t 29)))⟩, [9, 8, 10]),
       (⟨(some 31), 0, none, (.op (.load false 1 (.t 30)))⟩, [11, 9, 8, 10]),
       (⟨(some 32), 0, none, (.call (.k (.fn (.func 36) [] [])) [(.t 31)])⟩, [12, 11, 9, 8, 10]),
       (⟨(some 33), 0, none, (.op (.bin .add (.t 26) (.t 32)))⟩, [7, 6, 0, 5, 4, 2, 1, 3, 13, 12, 11, 9, 8, 10]),
       (⟨(some 3), 0, none, (.op (.mov (.t 33)))⟩, [14, 7, 6, 0, 5, 4, 2, 1, 3, 13, 12, 11, 9, 8, 10])])))
    (.reg 0 [⟨(some 13), 0, none, (.op (.mov (.t 4)))⟩,
      ⟨(some 14), 0, none, (.op (.bin .add (.t 13) (.k (.d (.int .i64 1)))))⟩,
      ⟨(some 4), 0, none, (.op (.mov (.t 14)))⟩]))))))
  (.seq (.reg 0 [⟨(some 34), 0, none, (.op (.mov (.t 3)))⟩,
    ⟨(some 2), 0, none, (.op (.mov (.t 34)))⟩])
  (.ret)))))
theorem cc26 : Try.f26.body.bind (compC Try.prog) = some ac26 := by kernel_rfl
theorem go26 {vals : List V} {v : V} (ac : AC) (he : ac.erase = ac26) (hw : wpC Try.prog 0 ac (retQ [.tmp 2] v) ⟨vals ++ List.replicate (35 - vals.length) (.tup []), []⟩) : CallP Try.prog 26 vals v :=
  call_of Try.func26 rfl rfl rfl (cc26.trans (congrArg some he.symm)) hw

/-- testbench/testbenchlaw26.Few -/
def ac27 : AC :=
  .seq (.reg 1 [⟨(some 1), 0, none, (.op (.box 2 (.t 0)))⟩,
    ⟨(some 2), 1, none, (.op (.mov (.k (.d (.bool false)))))⟩])
  (.seq (.seq (.reg 0 [⟨(some 4), 0, none, (.op (.fldA 0 (.t 1)))⟩,
    ⟨(some 5), 0, none, (.op (.load false 1 (.t 4)))⟩,
    ⟨(some 6), 0, none, (.op (.len false (.t 5)))⟩,
    ⟨(some 7), 0, none, (.op (.bin .gtr (.t 6) (.k (.d (.int .i64 140)))))⟩,
    ⟨(some 8), 0, none, (.op (.mov (.t 7)))⟩,
    ⟨(some 9), 0, (some (8, false)), (.op (.fldA 1 (.t 1)))⟩,
    ⟨(some 10), 0, (some (8, false)), (.op (.load false 1 (.t 9)))⟩,
    ⟨(some 11), 0, (some (8, false)), (.op (.len false (.t 10)))⟩,
    ⟨(some 12), 0, (some (8, false)), (.op (.bin .gtr (.t 11) (.k (.d (.int .i64 140)))))⟩,
    ⟨(some 13), 0, none, (.op (.pick (.t 8) (.k (.d (.bool true))) (.t 12)))⟩])
  (.cond (.t 13)
    (.seq (.reg 0 [⟨(some 2), 0, none, (.op (.mov (.k (.d (.bool false)))))⟩])
    (.ret))
    (.skip)))
  (.seq (.seq (.reg 0 [⟨(some 3), 0, none, (.op (.mov (.k (.d (.int .i64 0)))))⟩])
  (.block 0
   (.loop
    (.seq (.seq (.reg 0 [⟨(some 14), 0, none, (.op (.mov (.t 3)))⟩,
      ⟨(some 15), 0, none, (.op (.fldA 0 (.t 1)))⟩,
      ⟨(some 16), 0, none, (.op (.load false 1 (.t 15)))⟩,
      ⟨(some 17), 0, none, (.op (.len false (.t 16)))⟩,
      ⟨(some 18), 0, none, (.op (.bin .lss (.t 14) (.t 17)))⟩])
    (.cond (.t 18)
      (.skip)
      (.exit 0)))
    (.seq (.block 1
     (.seq (.reg 0 [⟨(some 21), 0, none, (.op (.fldA 0 (.t 1)))⟩,
       ⟨(some 22), 0, none, (.op (.load false 1 (.t 21)))⟩,
       ⟨(some 23), 0, none, (.op (.mov (.t 3)))⟩,
       ⟨(some 24), 0, none, (.op (.idxA 1 none (.t 22) (.t 23)))⟩,
       ⟨(some 25), 0, none, (.op (.load false 1 (.t 24)))⟩,
       ⟨(some 26), 0, none, (.op (.len true (.t 25)))⟩,
       ⟨(some 27), 0, none, (.op (.bin .gtr (.t 26) (.k (.d (.int .i64 40)))))⟩])
     (.cond (.t 27)
       (.seq (.reg 0 [⟨(some 2), 0, none, (.op (.mov (.k (.d (.bool false)))))⟩])
       (.ret))
       (.skip))))
    (.reg 0 [⟨(some 19), 0, none, (.op (.mov (.t 3)))⟩,
      ⟨(some 20), 0, none, (.op (.bin .add (.t 19) (.k (.d (.int .i64 1)))))⟩,
      ⟨(some 3), 0, none, (.op (.mov (.t 20)))⟩]))))))
  (.seq (.reg 0 [⟨(some 2), 0, none, (.op (.mov (.k (.d (.bool true)))))⟩])
  (.ret))))
theorem cc27 : Try.f27.body.bind (compC Try.prog) = some ac27 := by kernel_rfl
theorem go27 {vals : List V} {v : V} (ac : AC) (he : ac.erase = ac27) (hw : wpC Try.prog 0 ac (retQ [.tmp 2] v) ⟨vals ++ List.replicate (28 - vals.length) (.tup []), []⟩) : CallP Try.prog 27 vals v :=
  call_of Try.func27 rfl rfl rfl (cc27.trans (congrArg some he.symm)) hw

/-- testbench/refmodel.read -/
def ac28 : AC :=
  .seq (.reg 2 [⟨(some 2), 0, none, (.op (.box 2 (.t 0)))⟩,
    ⟨(some 4), 1, none, (.op (.alloc [(.int .i64 0), (.int .i64 0), (.int .i64 0), (.int .i64 0)]))⟩,
    ⟨(some 5), 2, none, (.op (.mov (.k (.d (.bool false)))))⟩])
  (.seq (.reg 0 [⟨(some 13), 0, none, (.op (.load true 2 (.t 2)))⟩,
    ⟨(some 14), 0, none, (.call (.k (.fn (.func 37) [] [])) [(.t 13), (.k (.d (.str [105, 116])))])⟩,
    ⟨(some 12), 0, none, (.op (.mov (.t 14)))⟩,
    ⟨(some 15), 0, none, (.op (.ext (.t 12) 0))⟩,
    ⟨(some 16), 0, none, (.op (.ext (.t 12) 1))⟩,
    ⟨(some 6), 0, none, (.op (.mov (.t 15)))⟩,
    ⟨(some 7), 0, none, (.op (.mov (.t 16)))⟩])
  (.seq (.reg 0 [⟨(some 18), 0, none, (.op (.load true 2 (.t 2)))⟩,
    ⟨(some 19), 0, none, (.call (.k (.fn (.func 37) [] [])) [(.t 18), (.k (.d (.str [105, 97])))])⟩,
    ⟨(some 17), 0, none, (.op (.mov (.t 19)))⟩,
    ⟨(some 20), 0, none, (.op (.ext (.t 17) 0))⟩,
    ⟨(some 21), 0, none, (.op (.ext (.t 17) 1))⟩,
    ⟨(some 8), 0, none, (.op (.mov (.t 20)))⟩,
    ⟨(some 9), 0, none, (.op (.mov (.t 21)))⟩])
  (.seq (.reg 0 [⟨(some 23), 0, none, (.op (.load true 2 (.t 2)))⟩,
    ⟨(some 24), 0, none, (.call (.k (.fn (.func 37) [] [])) [(.t 23), (.k (.d (.str [105, 98])))])⟩,
    ⟨(some 22), 0, none, (.op (.mov (.t 24)))⟩,
    ⟨(some 25), 0, none, (.op (.ext (.t 22) 0))⟩,
    ⟨(some 26), 0, none, (.op (.ext (.t 22) 1))⟩,
    ⟨(some 10), 0, none, (.op (.mov (.t 25)))⟩,
    ⟨(some 11), 0, none, (.op (.mov (.t 26)))⟩])
  (.seq (.reg 0 [⟨(some 27), 0, none, (.op (.mov (.t 1)))⟩,
    ⟨(some 28), 0, none, (.op (.mov (.t 6)))⟩,
    ⟨(some 29), 0, none, (.call (.k (.fn (.func 38) [] [])) [(.t 28)])⟩,
    ⟨(some 30), 0, none, (.op (.mov (.t 8)))⟩,
    ⟨(some 31), 0, none, (.call (.k (.fn (.func 38) [] [])) [(.t 30)])⟩,
    ⟨(some 32), 0, none, (.op (.mov (.t 10)))⟩,
    ⟨(some 33), 0, none, (.call (.k (.fn (.func 38) [] [])) [(.t 32)])⟩,
    ⟨(some 34), 0, none, (.op (.build [(.int .i64 0), (.int .i64 0), (.int .i64 0), (.int .i64 0)] [(0, 1, (.t 27)), (1, 1, (.t 29)), (2, 1, (.t 31)), (3, 1, (.t 33))]))⟩,
    ⟨(some 35), 0, none, (.op (.mov (.t 7)))⟩,
    ⟨(some 36), 0, none, (.op (.mov (.t 35)))⟩,
    ⟨(some 37), 0, (some (36, true)), (.op (.mov (.t 9)))⟩,
    ⟨(some 38), 0, none, (.op (.pick (.t 36) (.t 37) (.k (.d (.bool false)))))⟩,
    ⟨(some 39), 0, none, (.op (.mov (.t 38)))⟩,
    ⟨(some 40), 0, (some (39, true)), (.op (.mov (.t 11)))⟩,
    ⟨(some 41), 0, none, (.op (.pick (.t 39) (.t 40) (.k (.d (.bool false)))))⟩,
    ⟨none, 0, none, (.op (.store 4 (.t 4) (.t 34)))⟩,
    ⟨(some 5), 0, none, (.op (.mov (.t 41)))⟩])
  (.ret)))))
theorem cc28 : Try.f28.body.bind (compC Try.prog) = some ac28 := by kernel_rfl
theorem go28 {vals : List V} {v : V} (ac : AC) (he : ac.erase = ac28) (hw : wpC Try.prog 0 ac (retQ [.cell 4 true 4, .tmp 5] v) ⟨vals ++ List.replicate (42 - vals.length) (.tup []), []⟩) : CallP Try.prog 28 vals v :=
  call_of Try.func28 rfl rfl rfl (cc28.trans (congrArg some he.symm)) hw

/-- (testbench/refmodel.input).expected -/
def ac29 : AC :=
  .seq (.reg 2 [⟨(some 2), 0, none, (.op (.box 4 (.t 0)))⟩,
    ⟨(some 4), 1, none, (.op (.alloc [.nils, .nils]))⟩])
  (.seq (.regD 2 [(⟨(some 5), 0, none, (.op (.buildSl 1 2 [(.str [])] [(0, (.k (.d (.str [111, 116])))), (1, (.k (.d (.str [111, 97]))))]))⟩, []),
    (⟨(some 6), 1, none, (.op (.fldA 1 (.t 2)))⟩, []),
    (⟨(some 7), 1, none, (.op (.load false 1 (.t 6)))⟩, [1]),
    (⟨(some 8), 1, none, (.op (.bin .rem (.t 7) (.k (.d (.int .i64 16)))))⟩, [2, 1]),
    (⟨(some 9), 1, none, (.op (.mov (.t 1)))⟩, []),
    (⟨(some 10), 1, none, (.call (.t 9) [])⟩, [4]),
    (⟨(some 11), 1, none, (.op (.bin .rem (.t 10) (.k (.d (.int .i64 256)))))⟩, [5, 4]),
    (⟨(some 12), 1, none, (.op (.buildSl 1 2 [(.int .i64 0)] [(0, (.t 8)), (1, (.t 11))]))⟩, [3, 2, 1, 6, 5, 4]),
    (⟨(some 13), 2, none, (.op (.build [.nils, .nils] [(0, 1, (.t 5)), (1, 1, (.t 12))]))⟩, [0, 7, 3, 2, 1, 6, 5, 4]),
    (⟨none, 2, none, (.op (.store 2 (.t 4) (.t 13)))⟩, [8, 0, 7, 3, 2, 1, 6, 5, 4])])
  (.ret))
theorem cc29 : Try.f29.body.bind (compC Try.prog) = some ac29 := by kernel_rfl
theorem go29 {vals : List V} {v : V} (ac : AC) (he : ac.erase = ac29) (hw : wpC Try.prog 0 ac (retQ [.cell 4 true 2] v) ⟨vals ++ List.replicate (14 - vals.length) (.tup []), []⟩) : CallP Try.prog 29 vals v :=
  call_of Try.func29 rfl rfl rfl (cc29.trans (congrArg some he.symm)) hw

/-- (testbench/refmodel.input).by -/
def ac30 : AC :=
  .seq (.reg 1 [⟨(some 2), 0, none, (.op (.box 4 (.t 0)))⟩,
    ⟨(some 4), 1, none, (.op (.mov (.k .any)))⟩])
  (.seq (.seq (.reg 0 [⟨(some 5), 0, none, (.op (.mov (.t 1)))⟩])
  (.block 0
   (.seq (.reg 0 [⟨(some 7), 0, none, (.op (.bin .eql (.t 5) (.k (.d (.str [115, 117, 109])))))⟩,
     ⟨(some 6), 0, none, (.op (.mov (.t 7)))⟩])
   (.cond (.t 6)
     (.seq (.reg 0 [⟨(some 8), 0, none, (.op (.load true 4 (.t 2)))⟩,
       ⟨(some 9), 0, none, (.op (.mkfn (.func 39) [(.t 8)] []))⟩,
       ⟨(some 4), 0, none, (.op (.mov (.t 9)))⟩])
     (.ret))
     (.seq (.reg 0 [⟨(some 11), 0, none, (.op (.bin .eql (.t 5) (.k (.d (.str [99, 111, 117, 110, 116])))))⟩,
       ⟨(some 10), 0, none, (.op (.mov (.t 11)))⟩])
     (.cond (.t 10)
       (.seq (.reg 0 [⟨(some 12), 0, none, (.op (.load true 4 (.t 2)))⟩,
         ⟨(some 13), 0, none, (.op (.mkfn (.func 40) [(.t 12)] []))⟩,
         ⟨(some 4), 0, none, (.op (.mov (.t 13)))⟩])
       (.ret))
       (.skip)))))))
  (.seq (.reg 0 [⟨(some 14), 0, none, (.op (.load true 4 (.t 2)))⟩,
    ⟨(some 15), 0, none, (.op (.mkfn (.func 41) [(.t 14)] []))⟩,
    ⟨(some 4), 0, none, (.op (.mov (.t 15)))⟩])
  (.ret)))
theorem cc30 : Try.f30.body.bind (compC Try.prog) = some ac30 := by kernel_rfl
theorem go30 {vals : List V} {v : V} (ac : AC) (he : ac.erase = ac30) (hw : wpC Try.prog 0 ac (retQ [.tmp 4] v) ⟨vals ++ List.replicate (16 - vals.length) (.tup []), []⟩) : CallP Try.prog 30 vals v :=
  call_of Try.func30 rfl rfl rfl (cc30.trans (congrArg some he.symm)) hw

/-- testbench/testbenchref26.Place -/
def ac31 : AC :=
  .seq (.reg 0 [⟨(some 4), 0, none, (.op (.mov (.k (.d (.int .i64 0)))))⟩])
  (.seq (.seq (.reg 0 [⟨(some 5), 0, none, (.op (.mov (.k (.d (.int .i64 0)))))⟩])
  (.block 0
   (.loop
    (.seq (.seq (.reg 0 [⟨(some 6), 0, none, (.op (.mov (.t 5)))⟩,
      ⟨(some 7), 0, none, (.op (.mov (.t 0)))⟩,
      ⟨(some 8), 0, none, (.op (.len false (.t 7)))⟩,
      ⟨(some 9), 0, none, (.op (.bin .lss (.t 6) (.t 8)))⟩])
    (.cond (.t 9)
      (.skip)
      (.exit 0)))
    (.seq (.block 1
     (.seq (.reg 0 [⟨(some 12), 0, none, (.op (.mov (.t 0)))⟩,
       ⟨(some 13), 0, none, (.op (.mov (.t 5)))⟩,
       ⟨(some 14), 0, none, (.op (.idxA 1 none (.t 12) (.t 13)))⟩,
       ⟨(some 15), 0, none, (.op (.load false 1 (.t 14)))⟩,
       ⟨(some 16), 0, none, (.op (.mov (.t 1)))⟩,
       ⟨(some 17), 0, none, (.op (.bin .eql (.t 15) (.t 16)))⟩])
     (.cond (.t 17)
       (.seq (.reg 0 [⟨(some 18), 0, none, (.op (.mov (.t 5)))⟩,
         ⟨(some 4), 0, none, (.op (.mov (.t 18)))⟩])
       (.ret))
       (.skip))))
    (.reg 0 [⟨(some 10), 0, none, (.op (.mov (.t 5)))⟩,
      ⟨(some 11), 0, none, (.op (.bin .add (.t 10) (.k (.d (.int .i64 1)))))⟩,
      ⟨(some 5), 0, none, (.op (.mov (.t 11)))⟩]))))))
  (.seq (.reg 0 [⟨(some 4), 0, none, (.op (.mov (.k (.d (.int .i64 (-1))))))⟩])
  (.ret)))
theorem cc31 : Try.f31.body.bind (compC Try.prog) = some ac31 := by kernel_rfl
theorem go31 {vals : List V} {v : V} (ac : AC) (he : ac.erase = ac31) (hw : wpC Try.prog 0 ac (retQ [.tmp 4] v) ⟨vals ++ List.replicate (19 - vals.length) (.tup []), []⟩) : CallP Try.prog 31 vals v :=
  call_of Try.func31 rfl rfl rfl (cc31.trans (congrArg some he.symm)) hw

/-- testbench/testbenchref02.Wrap -/
def ac32 : AC :=
  .seq (.reg 0 [⟨(some 2), 0, none, (.op (.mov (.k (.d (.int .i64 0)))))⟩])
  (.seq (.reg 0 [⟨(some 3), 0, none, (.op (.mov (.t 0)))⟩,
    ⟨(some 4), 0, none, (.op (.bin .rem (.t 3) (.k (.d (.int .i64 65536)))))⟩,
    ⟨(some 0), 0, none, (.op (.mov (.t 4)))⟩])
  (.seq (.seq (.reg 0 [⟨(some 5), 0, none, (.op (.mov (.t 0)))⟩,
    ⟨(some 6), 0, none, (.op (.bin .lss (.t 5) (.k (.d (.int .i64 0)))))⟩])
  (.cond (.t 6)
    (.reg 0 [⟨(some 7), 0, none, (.op (.mov (.t 0)))⟩,
      ⟨(some 8), 0, none, (.op (.bin .add (.t 7) (.k (.d (.int .i64 65535)))))⟩,
      ⟨(some 9), 0, none, (.op (.bin .add (.t 8) (.k (.d (.int .i64 1)))))⟩,
      ⟨(some 0), 0, none, (.op (.mov (.t 9)))⟩])
    (.skip)))
  (.seq (.reg 0 [⟨(some 10), 0, none, (.op (.mov (.t 0)))⟩,
    ⟨(some 2), 0, none, (.op (.mov (.t 10)))⟩])
  (.ret))))
theorem cc32 : Try.f32.body.bind (compC Try.prog) = some ac32 := by kernel_rfl
theorem go32 {vals : List V} {v : V} (ac : AC) (he : ac.erase = ac32) (hw : wpC Try.prog 0 ac (retQ [.tmp 2] v) ⟨vals ++ List.replicate (11 - vals.length) (.tup []), []⟩) : CallP Try.prog 32 vals v :=
  call_of Try.func32 rfl rfl rfl (cc32.trans (congrArg some he.symm)) hw

/-- testbench/testbenchref38.data -/
def ac33 : AC :=
  .seq (.reg 0 [⟨(some 8), 0, none, (.op (.mov (.k (.d (.int .i64 0)))))⟩])
  (.seq (.seq (.reg 0 [⟨(some 9), 0, none, (.op (.mov (.t 0)))⟩])
  (.block 0
   (.seq (.reg 0 [⟨(some 11), 0, none, (.op (.bin .eql (.t 9) (.k (.d (.str [115, 117, 109])))))⟩,
     ⟨(some 10), 0, none, (.op (.mov (.t 11)))⟩])
   (.cond (.t 10)
     (.reg 0 [⟨(some 12), 0, none, (.op (.mov (.t 2)))⟩,
       ⟨(some 13), 0, none, (.call (.k (.fn (.func 32) [] [])) [(.t 12)])⟩,
       ⟨(some 14), 0, none, (.op (.mov (.t 3)))⟩,
       ⟨(some 15), 0, none, (.call (.k (.fn (.func 32) [] [])) [(.t 14)])⟩,
       ⟨(some 16), 0, none, (.op (.bin .add (.t 13) (.t 15)))⟩,
       ⟨(some 2), 0, none, (.op (.mov (.t 16)))⟩])
     (.seq (.reg 0 [⟨(some 18), 0, none, (.op (.bin .eql (.t 9) (.k (.d (.str [99, 111, 117, 110, 116])))))⟩,
       ⟨(some 17), 0, none, (.op (.mov (.t 18)))⟩])
     (.cond (.t 17)
       (.reg 0 [⟨(some 19), 0, none, (.op (.mov (.t 1)))⟩,
         ⟨(some 2), 0, none, (.op (.mov (.t 19)))⟩])
       (.skip)))))))
  (.seq (.reg 0 [⟨(some 20), 0, none, (.op (.mov (.t 2)))⟩,
    ⟨(some 21), 0, none, (.call (.k (.fn (.func 32) [] [])) [(.t 20)])⟩,
    ⟨(some 22), 0, none, (.op (.bin .rem (.t 21) (.k (.d (.int .i64 256)))))⟩,
    ⟨(some 8), 0, none, (.op (.mov (.t 22)))⟩])
  (.ret)))
theorem cc33 : Try.f33.body.bind (compC Try.prog) = some ac33 := by kernel_rfl
theorem go33 {vals : List V} {v : V} (ac : AC) (he : ac.erase = ac33) (hw : wpC Try.prog 0 ac (retQ [.tmp 8] v) ⟨vals ++ List.replicate (23 - vals.length) (.tup []), []⟩) : CallP Try.prog 33 vals v :=
  call_of Try.func33 rfl rfl rfl (cc33.trans (congrArg some he.symm)) hw

/-- testbench/testbenchref26.most -/
def ac34 : AC :=
  .seq (.reg 0 [⟨(some 0), 0, none, (.op (.mov (.k (.d (.int .i64 0)))))⟩])
  (.seq (.reg 0 [⟨(some 0), 0, none, (.op (.mov (.k (.d (.int .i64 128)))))⟩])
  (.ret))
theorem cc34 : Try.f34.body.bind (compC Try.prog) = some ac34 := by kernel_rfl
theorem go34 {vals : List V} {v : V} (ac : AC) (he : ac.erase = ac34) (hw : wpC Try.prog 0 ac (retQ [.tmp 0] v) ⟨vals ++ List.replicate (1 - vals.length) (.tup []), []⟩) : CallP Try.prog 34 vals v :=
  call_of Try.func34 rfl rfl rfl (cc34.trans (congrArg some he.symm)) hw

/-- testbench/testbenchref26.Different -/
def ac35 : AC :=
  .seq (.reg 0 [⟨(some 2), 0, none, (.op (.mov (.k (.d (.bool false)))))⟩])
  (.seq (.seq (.reg 0 [⟨(some 3), 0, none, (.op (.mov (.k (.d (.int .i64 0)))))⟩])
  (.block 0
   (.loop
    (.seq (.seq (.reg 0 [⟨(some 4), 0, none, (.op (.mov (.t 3)))⟩,
      ⟨(some 5), 0, none, (.op (.mov (.t 0)))⟩,
      ⟨(some 6), 0, none, (.op (.len false (.t 5)))⟩,
      ⟨(some 7), 0, none, (.op (.bin .lss (.t 4) (.t 6)))⟩])
    (.cond (.t 7)
      (.skip)
      (.exit 0)))
    (.seq (.block 1
     (.seq (.reg 0 [⟨(some 10), 0, none, (.op (.mov (.t 0)))⟩,
       ⟨(some 11), 0, none, (.op (.mov (.t 3)))⟩,
       ⟨(some 12), 0, none, (.op (.idxA 1 none (.t 10) (.t 11)))⟩,
       ⟨(some 13), 0, none, (.op (.load false 1 (.t 12)))⟩,
       ⟨(some 14), 0, none, (.call (.k (.fn (.func 42) [] [])) [(.t 13)])⟩,
       ⟨(some 15), 0, none, (.op (.un .not (.t 14)))⟩,
       ⟨(some 16), 0, none, (.op (.mov (.t 15)))⟩,
       ⟨(some 17), 0, (some (16, false)), (.op (.mov (.t 0)))⟩,
       ⟨(some 18), 0, (some (16, false)), (.op (.mov (.t 0)))⟩,
       ⟨(some 19), 0, (some (16, false)), (.op (.mov (.t 3)))⟩,
       ⟨(some 20), 0, (some (16, false)), (.op (.idxA 1 none (.t 18) (.t 19)))⟩,
       ⟨(some 21), 0, (some (16, false)), (.op (.load false 1 (.t 20)))⟩,
       ⟨(some 22), 0, (some (16, false)), (.call (.k (.fn (.func 31) [] [])) [(.t 17), (.t 21)])⟩,
       ⟨(some 23), 0, (some (16, false)), (.op (.mov (.t 3)))⟩,
       ⟨(some 24), 0, (some (16, false)), (.op (.bin .neq (.t 22) (.t 23)))⟩,
       ⟨(some 25), 0, none, (.op (.pick (.t 16) (.k (.d (.bool true))) (.t 24)))⟩])
     (.cond (.t 25)
       (.seq (.reg 0 [⟨(some 2), 0, none, (.op (.mov (.k (.d (.bool false)))))⟩])
       (.ret))
       (.skip))))
    (.reg 0 [⟨(some 8), 0, none, (.op (.mov (.t 3)))⟩,
      ⟨(some 9), 0, none, (.op (.bin .add (.t 8) (.k (.d (.int .i64 1)))))⟩,
      ⟨(some 3), 0, none, (.op (.mov (.t 9)))⟩]))))))
  (.seq (.reg 0 [⟨(some 2), 0, none, (.op (.mov (.k (.d (.bool true)))))⟩])
  (.ret)))
theorem cc35 : Try.f35.body.bind (compC Try.prog) = some ac35 := by kernel_rfl
theorem go35 {vals : List V} {v : V} (ac : AC) (he : ac.erase = ac35) (hw : wpC Try.prog 0 ac (retQ [.tmp 2] v) ⟨vals ++ List.replicate (26 - vals.length) (.tup []), []⟩) : CallP Try.prog 35 vals v :=
  call_of Try.func35 rfl rfl rfl (cc35.trans (congrArg some he.symm)) hw

/-- testbench/testbenchref01.Format -/
def ac36 : AC :=
  .seq (.reg 0 [⟨(some 2), 0, none, (.op (.mov (.k (.d (.str [])))))⟩])
  (.seq (.reg 0 [⟨(some 3), 0, none, (.op (.mov (.k (.d (.str [])))))⟩])
  (.seq (.reg 0 [⟨(some 5), 0, none, (.op (.mov (.t 0)))⟩,
    ⟨(some 6), 0, none, (.call (.k (.fn (.func 43) [] [])) [(.t 5)])⟩,
    ⟨(some 4), 0, none, (.op (.mov (.t 6)))⟩])
  (.seq (.block 0
   (.loop
    (.block 1
     (.seq (.reg 1 [⟨(some 7), 0, none, (.op (.mov (.t 4)))⟩,
       ⟨(some 8), 0, none, (.op (.bin .rem (.t 7) (.k (.d (.int .i64 10)))))⟩,
       ⟨(some 9), 0, none, (.op (.bin .sub (.k (.d (.int .i64 48))) (.t 8)))⟩,
       ⟨(some 10), 0, none, (.op (.conv .u8 (.t 9)))⟩,
       ⟨(some 11), 0, none, (.op (.buildSl 1 1 [(.int .u8 0)] [(0, (.t 10))]))⟩,
       ⟨(some 12), 1, none, (.op (.b2s (.t 11)))⟩,
       ⟨(some 13), 1, none, (.op (.mov (.t 3)))⟩,
       ⟨(some 14), 1, none, (.op (.bin .add (.t 12) (.t 13)))⟩,
       ⟨(some 3), 1, none, (.op (.mov (.t 14)))⟩])
     (.seq (.reg 0 [⟨(some 15), 0, none, (.op (.mov (.t 4)))⟩,
       ⟨(some 16), 0, none, (.op (.bin .quo (.t 15) (.k (.d (.int .i64 10)))))⟩,
       ⟨(some 4), 0, none, (.op (.mov (.t 16)))⟩])
     (.seq (.reg 0 [⟨(some 17), 0, none, (.op (.mov (.t 4)))⟩,
       ⟨(some 18), 0, none, (.op (.bin .eql (.t 17) (.k (.d (.int .i64 0)))))⟩])
     (.cond (.t 18)
       (.exit 0)
       (.skip))))))))
  (.seq (.seq (.reg 0 [⟨(some 19), 0, none, (.op (.mov (.t 0)))⟩,
    ⟨(some 20), 0, none, (.op (.bin .lss (.t 19) (.k (.d (.int .i64 0)))))⟩])
  (.cond (.t 20)
    (.seq (.reg 0 [⟨(some 21), 0, none, (.op (.mov (.t 3)))⟩,
      ⟨(some 22), 0, none, (.op (.bin .add (.k (.d (.str [45]))) (.t 21)))⟩,
      ⟨(some 2), 0, none, (.op (.mov (.t 22)))⟩])
    (.ret))
    (.skip)))
  (.seq (.reg 0 [⟨(some 23), 0, none, (.op (.mov (.t 3)))⟩,
    ⟨(some 2), 0, none, (.op (.mov (.t 23)))⟩])
  (.ret))))))
theorem cc36 : Try.f36.body.bind (compC Try.prog) = some ac36 := by kernel_rfl
theorem go36 {vals : List V} {v : V} (ac : AC) (he : ac.erase = ac36) (hw : wpC Try.prog 0 ac (retQ [.tmp 2] v) ⟨vals ++ List.replicate (24 - vals.length) (.tup []), []⟩) : CallP Try.prog 36 vals v :=
  call_of Try.func36 rfl rfl rfl (cc36.trans (congrArg some he.symm)) hw

/-- testbench/txn.Get -/
def ac37 : AC :=
  .seq (.reg 1 [⟨(some 2), 0, none, (.op (.box 2 (.t 0)))⟩,
    ⟨(some 4), 1, none, (.op (.mov (.k (.d (.int .i64 0)))))⟩,
    ⟨(some 5), 1, none, (.op (.mov (.k (.d (.bool false)))))⟩])
  (.seq (.reg 0 [⟨(some 7), 0, none, (.op (.fldA 0 (.t 2)))⟩,
    ⟨(some 8), 0, none, (.op (.load false 1 (.t 7)))⟩,
    ⟨(some 9), 0, none, (.op (.mov (.t 1)))⟩,
    ⟨(some 10), 0, none, (.call (.k (.fn (.func 44) [] [])) [(.t 8), (.t 9)])⟩,
    ⟨(some 6), 0, none, (.op (.mov (.t 10)))⟩])
  (.seq (.seq (.reg 0 [⟨(some 11), 0, none, (.op (.mov (.t 6)))⟩,
    ⟨(some 12), 0, none, (.op (.bin .lss (.t 11) (.k (.d (.int .i64 0)))))⟩,
    ⟨(some 13), 0, none, (.op (.mov (.t 12)))⟩,
    ⟨(some 14), 0, (some (13, false)), (.op (.mov (.t 6)))⟩,
    ⟨(some 15), 0, (some (13, false)), (.op (.fldA 1 (.t 2)))⟩,
    ⟨(some 16), 0, (some (13, false)), (.op (.load false 1 (.t 15)))⟩,
    ⟨(some 17), 0, (some (13, false)), (.op (.len false (.t 16)))⟩,
    ⟨(some 18), 0, (some (13, false)), (.op (.bin .geq (.t 14) (.t 17)))⟩,
    ⟨(some 19), 0, none, (.op (.pick (.t 13) (.k (.d (.bool true))) (.t 18)))⟩])
  (.cond (.t 19)
    (.seq (.reg 0 [⟨(some 4), 0, none, (.op (.mov (.k (.d (.int .i64 0)))))⟩,
      ⟨(some 5), 0, none, (.op (.mov (.k (.d (.bool false)))))⟩])
    (.ret))
    (.skip)))
  (.seq (.reg 0 [⟨(some 20), 0, none, (.op (.fldA 1 (.t 2)))⟩,
    ⟨(some 21), 0, none, (.op (.load false 1 (.t 20)))⟩,
    ⟨(some 22), 0, none, (.op (.mov (.t 6)))⟩,
    ⟨(some 23), 0, none, (.op (.idxA 1 none (.t 21) (.t 22)))⟩,
    ⟨(some 24), 0, none, (.op (.load false 1 (.t 23)))⟩,
    ⟨(some 4), 0, none, (.op (.mov (.t 24)))⟩,
    ⟨(some 5), 0, none, (.op (.mov (.k (.d (.bool true)))))⟩])
  (.ret))))
theorem cc37 : Try.f37.body.bind (compC Try.prog) = some ac37 := by kernel_rfl
theorem go37 {vals : List V} {v : V} (ac : AC) (he : ac.erase = ac37) (hw : wpC Try.prog 0 ac (retQ [.tmp 4, .tmp 5] v) ⟨vals ++ List.replicate (25 - vals.length) (.tup []), []⟩) : CallP Try.prog 37 vals v :=
  call_of Try.func37 rfl rfl rfl (cc37.trans (congrArg some he.symm)) hw

/-- testbench/word.Wrap -/
def ac38 : AC :=
  .seq (.reg 0 [⟨(some 2), 0, none, (.op (.mov (.k (.d (.int .i64 0)))))⟩])
  (.seq (.reg 0 [⟨(some 3), 0, none, (.op (.mov (.t 0)))⟩,
    ⟨(some 4), 0, none, (.call (.k (.fn (.func 45) [] [])) [(.t 3)])⟩,
    ⟨(some 5), 0, none, (.call (.k (.fn (.func 46) [] [])) [(.t 4)])⟩,
    ⟨(some 2), 0, none, (.op (.mov (.t 5)))⟩])
  (.ret))
theorem cc38 : Try.f38.body.bind (compC Try.prog) = some ac38 := by kernel_rfl
theorem go38 {vals : List V} {v : V} (ac : AC) (he : ac.erase = ac38) (hw : wpC Try.prog 0 ac (retQ [.tmp 2] v) ⟨vals ++ List.replicate (6 - vals.length) (.tup []), []⟩) : CallP Try.prog 38 vals v :=
  call_of Try.func38 rfl rfl rfl (cc38.trans (congrArg some he.symm)) hw

/-- (testbench/refmodel.input).sum -/
def ac39 : AC :=
  .seq (.reg 1 [⟨(some 1), 0, none, (.op (.box 4 (.t 0)))⟩,
    ⟨(some 2), 1, none, (.op (.mov (.k (.d (.int .i64 0)))))⟩])
  (.seq (.reg 0 [⟨(some 3), 0, none, (.op (.fldA 2 (.t 1)))⟩,
    ⟨(some 4), 0, none, (.op (.load false 1 (.t 3)))⟩,
    ⟨(some 5), 0, none, (.op (.fldA 3 (.t 1)))⟩,
    ⟨(some 6), 0, none, (.op (.load false 1 (.t 5)))⟩,
    ⟨(some 7), 0, none, (.op (.bin .add (.t 4) (.t 6)))⟩,
    ⟨(some 2), 0, none, (.op (.mov (.t 7)))⟩])
  (.ret))
theorem cc39 : Try.f39.body.bind (compC Try.prog) = some ac39 := by kernel_rfl
theorem go39 {vals : List V} {v : V} (ac : AC) (he : ac.erase = ac39) (hw : wpC Try.prog 0 ac (retQ [.tmp 2] v) ⟨vals ++ List.replicate (8 - vals.length) (.tup []), []⟩) : CallP Try.prog 39 vals v :=
  call_of Try.func39 rfl rfl rfl (cc39.trans (congrArg some he.symm)) hw

/-- (testbench/refmodel.input).place -/
def ac40 : AC :=
  .seq (.reg 1 [⟨(some 1), 0, none, (.op (.box 4 (.t 0)))⟩,
    ⟨(some 2), 1, none, (.op (.mov (.k (.d (.int .i64 0)))))⟩])
  (.seq (.reg 0 [⟨(some 3), 0, none, (.op (.fldA 0 (.t 1)))⟩,
    ⟨(some 4), 0, none, (.op (.load false 1 (.t 3)))⟩,
    ⟨(some 2), 0, none, (.op (.mov (.t 4)))⟩])
  (.ret))
theorem cc40 : Try.f40.body.bind (compC Try.prog) = some ac40 := by kernel_rfl
theorem go40 {vals : List V} {v : V} (ac : AC) (he : ac.erase = ac40) (hw : wpC Try.prog 0 ac (retQ [.tmp 2] v) ⟨vals ++ List.replicate (5 - vals.length) (.tup []), []⟩) : CallP Try.prog 40 vals v :=
  call_of Try.func40 rfl rfl rfl (cc40.trans (congrArg some he.symm)) hw

/-- (testbench/refmodel.input).first -/
def ac41 : AC :=
  .seq (.reg 1 [⟨(some 1), 0, none, (.op (.box 4 (.t 0)))⟩,
    ⟨(some 2), 1, none, (.op (.mov (.k (.d (.int .i64 0)))))⟩])
  (.seq (.reg 0 [⟨(some 3), 0, none, (.op (.fldA 2 (.t 1)))⟩,
    ⟨(some 4), 0, none, (.op (.load false 1 (.t 3)))⟩,
    ⟨(some 2), 0, none, (.op (.mov (.t 4)))⟩])
  (.ret))
theorem cc41 : Try.f41.body.bind (compC Try.prog) = some ac41 := by kernel_rfl
theorem go41 {vals : List V} {v : V} (ac : AC) (he : ac.erase = ac41) (hw : wpC Try.prog 0 ac (retQ [.tmp 2] v) ⟨vals ++ List.replicate (5 - vals.length) (.tup []), []⟩) : CallP Try.prog 41 vals v :=
  call_of Try.func41 rfl rfl rfl (cc41.trans (congrArg some he.symm)) hw

/-- testbench/testbenchref08.IsVar -/
def ac42 : AC :=
  .seq (.reg 0 [⟨(some 2), 0, none, (.op (.mov (.k (.d (.bool false)))))⟩])
  (.seq (.reg 0 [⟨(some 7), 0, none, (.op (.mov (.t 0)))⟩,
    ⟨(some 8), 0, none, (.call (.k (.fn (.func 47) [] [])) [(.t 7)])⟩,
    ⟨(some 6), 0, none, (.op (.mov (.t 8)))⟩,
    ⟨(some 9), 0, none, (.op (.ext (.t 6) 0))⟩,
    ⟨(some 10), 0, none, (.op (.ext (.t 6) 1))⟩,
    ⟨(some 11), 0, none, (.op (.ext (.t 6) 2))⟩,
    ⟨(some 3), 0, none, (.op (.mov (.t 9)))⟩,
    ⟨(some 4), 0, none, (.op (.mov (.t 10)))⟩,
    ⟨(some 5), 0, none, (.op (.mov (.t 11)))⟩])
  (.seq (.reg 0 [⟨(some 12), 0, none, (.op (.mov (.t 5)))⟩,
    ⟨(some 13), 0, none, (.op (.mov (.t 12)))⟩,
    ⟨(some 14), 0, (some (13, false)), (.op (.mov (.t 0)))⟩,
    ⟨(some 15), 0, (some (13, false)), (.call (.k (.fn (.func 48) [] [])) [(.t 14)])⟩,
    ⟨(some 16), 0, none, (.op (.pick (.t 13) (.k (.d (.bool true))) (.t 15)))⟩,
    ⟨(some 2), 0, none, (.op (.mov (.t 16)))⟩])
  (.ret)))
theorem cc42 : Try.f42.body.bind (compC Try.prog) = some ac42 := by kernel_rfl
theorem go42 {vals : List V} {v : V} (ac : AC) (he : ac.erase = ac42) (hw : wpC Try.prog 0 ac (retQ [.tmp 2] v) ⟨vals ++ List.replicate (17 - vals.length) (.tup []), []⟩) : CallP Try.prog 42 vals v :=
  call_of Try.func42 rfl rfl rfl (cc42.trans (congrArg some he.symm)) hw

/-- testbench/testbenchref01.below -/
def ac43 : AC :=
  .seq (.reg 0 [⟨(some 2), 0, none, (.op (.mov (.k (.d (.int .i64 0)))))⟩])
  (.seq (.seq (.reg 0 [⟨(some 3), 0, none, (.op (.mov (.t 0)))⟩,
    ⟨(some 4), 0, none, (.op (.bin .gtr (.t 3) (.k (.d (.int .i64 0)))))⟩])
  (.cond (.t 4)
    (.seq (.reg 0 [⟨(some 5), 0, none, (.op (.mov (.t 0)))⟩,
      ⟨(some 6), 0, none, (.op (.un .neg (.t 5)))⟩,
      ⟨(some 2), 0, none, (.op (.mov (.t 6)))⟩])
    (.ret))
    (.skip)))
  (.seq (.reg 0 [⟨(some 7), 0, none, (.op (.mov (.t 0)))⟩,
    ⟨(some 2), 0, none, (.op (.mov (.t 7)))⟩])
  (.ret)))
theorem cc43 : Try.f43.body.bind (compC Try.prog) = some ac43 := by kernel_rfl
theorem go43 {vals : List V} {v : V} (ac : AC) (he : ac.erase = ac43) (hw : wpC Try.prog 0 ac (retQ [.tmp 2] v) ⟨vals ++ List.replicate (8 - vals.length) (.tup []), []⟩) : CallP Try.prog 43 vals v :=
  call_of Try.func43 rfl rfl rfl (cc43.trans (congrArg some he.symm)) hw

/-- slices.Index[[]string,string] -/
def ac44 : AC :=
  .seq (.reg 0 [⟨(some 4), 0, none, (.op (.mov (.k (.d (.int .i64 0)))))⟩])
  (.seq (.seq (.reg 0 [⟨(some 6), 0, none, (.op (.mov (.t 0)))⟩,
    ⟨(some 7), 0, none, (.op (.len false (.t 6)))⟩,
    ⟨(some 8), 0, none, (.op (.mov (.k (.d (.int .i64 0)))))⟩])
  (.block 0
   (.loop
    (.seq (.reg 0 [⟨(some 9), 0, none, (.op (.bin .lss (.t 8) (.t 7)))⟩])
    (.seq (.cond (.t 9)
      (.skip)
      (.exit 0))
    (.seq (.block 1
     (.seq (.reg 0 [⟨(some 10), 0, none, (.op (.mov (.t 8)))⟩,
       ⟨(some 5), 0, none, (.op (.mov (.t 10)))⟩])
     (.seq (.reg 0 [⟨(some 11), 0, none, (.op (.mov (.t 1)))⟩,
       ⟨(some 12), 0, none, (.op (.mov (.t 0)))⟩,
       ⟨(some 13), 0, none, (.op (.mov (.t 5)))⟩,
       ⟨(some 14), 0, none, (.op (.idxA 1 none (.t 12) (.t 13)))⟩,
       ⟨(some 15), 0, none, (.op (.load false 1 (.t 14)))⟩,
       ⟨(some 16), 0, none, (.op (.bin .eql (.t 11) (.t 15)))⟩])
     (.cond (.t 16)
       (.seq (.reg 0 [⟨(some 17), 0, none, (.op (.mov (.t 5)))⟩,
         ⟨(some 4), 0, none, (.op (.mov (.t 17)))⟩])
       (.ret))
       (.skip)))))
    (.reg 0 [⟨(some 18), 0, none, (.op (.bin .add (.t 8) (.k (.d (.int .i64 1)))))⟩,
      ⟨(some 8), 0, none, (.op (.mov (.t 18)))⟩])))))))
  (.seq (.reg 0 [⟨(some 4), 0, none, (.op (.mov (.k (.d (.int .i64 (-1))))))⟩])
  (.ret)))
theorem cc44 : Try.f44.body.bind (compC Try.prog) = some ac44 := by kernel_rfl
theorem go44 {vals : List V} {v : V} (ac : AC) (he : ac.erase = ac44) (hw : wpC Try.prog 0 ac (retQ [.tmp 4] v) ⟨vals ++ List.replicate (19 - vals.length) (.tup []), []⟩) : CallP Try.prog 44 vals v :=
  call_of Try.func44 rfl rfl rfl (cc44.trans (congrArg some he.symm)) hw

/-- testbench/word.of -/
def ac45 : AC :=
  .seq (.reg 0 [⟨(some 2), 0, none, (.op (.mov (.k (.d (.int .u16 0)))))⟩])
  (.seq (.reg 0 [⟨(some 3), 0, none, (.op (.mov (.t 0)))⟩,
    ⟨(some 4), 0, none, (.op (.bin .and (.t 3) (.k (.d (.int .i64 65535)))))⟩,
    ⟨(some 5), 0, none, (.op (.conv .u16 (.t 4)))⟩,
    ⟨(some 2), 0, none, (.op (.mov (.t 5)))⟩])
  (.ret))
theorem cc45 : Try.f45.body.bind (compC Try.prog) = some ac45 := by kernel_rfl
theorem go45 {vals : List V} {v : V} (ac : AC) (he : ac.erase = ac45) (hw : wpC Try.prog 0 ac (retQ [.tmp 2] v) ⟨vals ++ List.replicate (6 - vals.length) (.tup []), []⟩) : CallP Try.prog 45 vals v :=
  call_of Try.func45 rfl rfl rfl (cc45.trans (congrArg some he.symm)) hw

/-- (testbench/word.word).value -/
def ac46 : AC :=
  .seq (.reg 0 [⟨(some 2), 0, none, (.op (.mov (.k (.d (.int .i64 0)))))⟩])
  (.seq (.reg 0 [⟨(some 3), 0, none, (.op (.mov (.t 0)))⟩,
    ⟨(some 4), 0, none, (.op (.conv .i64 (.t 3)))⟩,
    ⟨(some 2), 0, none, (.op (.mov (.t 4)))⟩])
  (.ret))
theorem cc46 : Try.f46.body.bind (compC Try.prog) = some ac46 := by kernel_rfl
theorem go46 {vals : List V} {v : V} (ac : AC) (he : ac.erase = ac46) (hw : wpC Try.prog 0 ac (retQ [.tmp 2] v) ⟨vals ++ List.replicate (5 - vals.length) (.tup []), []⟩) : CallP Try.prog 46 vals v :=
  call_of Try.func46 rfl rfl rfl (cc46.trans (congrArg some he.symm)) hw

/-- testbench/testbenchref08.Split -/
def ac47 : AC :=
  .seq (.reg 0 [⟨(some 2), 0, none, (.op (.mov (.k (.d (.str [])))))⟩,
    ⟨(some 3), 0, none, (.op (.mov (.k (.d (.int .i64 0)))))⟩,
    ⟨(some 4), 0, none, (.op (.mov (.k (.d (.bool false)))))⟩])
  (.seq (.seq (.reg 0 [⟨(some 7), 0, none, (.op (.mov (.t 0)))⟩,
    ⟨(some 8), 0, none, (.op (.len true (.t 7)))⟩,
    ⟨(some 9), 0, none, (.op (.bin .lss (.t 8) (.k (.d (.int .i64 4)))))⟩,
    ⟨(some 10), 0, none, (.op (.mov (.t 9)))⟩,
    ⟨(some 11), 0, (some (10, false)), (.op (.mov (.t 0)))⟩,
    ⟨(some 12), 0, (some (10, false)), (.op (.mov (.t 0)))⟩,
    ⟨(some 13), 0, (some (10, false)), (.op (.len true (.t 12)))⟩,
    ⟨(some 14), 0, (some (10, false)), (.op (.bin .sub (.t 13) (.k (.d (.int .i64 1)))))⟩,
    ⟨(some 15), 0, (some (10, false)), (.op (.idxS (.t 11) (.t 14)))⟩,
    ⟨(some 16), 0, (some (10, false)), (.op (.bin .neq (.t 15) (.k (.d (.int .u8 93)))))⟩,
    ⟨(some 17), 0, none, (.op (.pick (.t 10) (.k (.d (.bool true))) (.t 16)))⟩,
    ⟨(some 18), 0, none, (.op (.mov (.t 17)))⟩,
    ⟨(some 19), 0, (some (18, false)), (.op (.mov (.t 0)))⟩,
    ⟨(some 20), 0, (some (18, false)), (.op (.mov (.t 0)))⟩,
    ⟨(some 21), 0, (some (18, false)), (.op (.len true (.t 20)))⟩,
    ⟨(some 22), 0, (some (18, false)), (.op (.bin .sub (.t 21) (.k (.d (.int .i64 3)))))⟩,
    ⟨(some 23), 0, (some (18, false)), (.op (.idxS (.t 19) (.t 22)))⟩,
    ⟨(some 24), 0, (some (18, false)), (.op (.bin .neq (.t 23) (.k (.d (.int .u8 91)))))⟩,
    ⟨(some 25), 0, none, (.op (.pick (.t 18) (.k (.d (.bool true))) (.t 24)))⟩])
  (.cond (.t 25)
    (.seq (.reg 0 [⟨(some 2), 0, none, (.op (.mov (.k (.d (.str [])))))⟩,
      ⟨(some 3), 0, none, (.op (.mov (.k (.d (.int .i64 0)))))⟩,
      ⟨(some 4), 0, none, (.op (.mov (.k (.d (.bool false)))))⟩])
    (.ret))
    (.skip)))
  (.seq (.reg 0 [⟨(some 26), 0, none, (.op (.mov (.t 0)))⟩,
    ⟨(some 27), 0, none, (.op (.mov (.t 0)))⟩,
    ⟨(some 28), 0, none, (.op (.len true (.t 27)))⟩,
    ⟨(some 29), 0, none, (.op (.bin .sub (.t 28) (.k (.d (.int .i64 2)))))⟩,
    ⟨(some 30), 0, none, (.op (.idxS (.t 26) (.t 29)))⟩,
    ⟨(some 31), 0, none, (.op (.conv .i64 (.t 30)))⟩,
    ⟨(some 32), 0, none, (.op (.bin .sub (.t 31) (.k (.d (.int .i64 48)))))⟩,
    ⟨(some 5), 0, none, (.op (.mov (.t 32)))⟩])
  (.seq (.reg 0 [⟨(some 33), 0, none, (.op (.mov (.t 0)))⟩,
    ⟨(some 34), 0, none, (.op (.mov (.t 0)))⟩,
    ⟨(some 35), 0, none, (.op (.len true (.t 34)))⟩,
    ⟨(some 36), 0, none, (.op (.bin .sub (.t 35) (.k (.d (.int .i64 3)))))⟩,
    ⟨(some 37), 0, none, (.op (.slice 0 (.t 33) none (some (.t 36))))⟩,
    ⟨(some 6), 0, none, (.op (.mov (.t 37)))⟩])
  (.seq (.seq (.reg 0 [⟨(some 38), 0, none, (.op (.mov (.t 5)))⟩,
    ⟨(some 39), 0, none, (.op (.bin .lss (.t 38) (.k (.d (.int .i64 0)))))⟩,
    ⟨(some 40), 0, none, (.op (.mov (.t 39)))⟩,
    ⟨(some 41), 0, (some (40, false)), (.op (.mov (.t 5)))⟩,
    ⟨(some 42), 0, (some (40, false)), (.op (.bin .geq (.t 41) (.k (.d (.int .i64 8)))))⟩,
    ⟨(some 43), 0, none, (.op (.pick (.t 40) (.k (.d (.bool true))) (.t 42)))⟩,
    ⟨(some 44), 0, none, (.op (.mov (.t 43)))⟩,
    ⟨(some 45), 0, (some (44, false)), (.op (.mov (.t 6)))⟩,
    ⟨(some 46), 0, (some (44, false)), (.call (.k (.fn (.func 48) [] [])) [(.t 45)])⟩,
    ⟨(some 47), 0, (some (44, false)), (.op (.un .not (.t 46)))⟩,
    ⟨(some 48), 0, none, (.op (.pick (.t 44) (.k (.d (.bool true))) (.t 47)))⟩])
  (.cond (.t 48)
    (.seq (.reg 0 [⟨(some 2), 0, none, (.op (.mov (.k (.d (.str [])))))⟩,
      ⟨(some 3), 0, none, (.op (.mov (.k (.d (.int .i64 0)))))⟩,
      ⟨(some 4), 0, none, (.op (.mov (.k (.d (.bool false)))))⟩])
    (.ret))
    (.skip)))
  (.seq (.reg 0 [⟨(some 49), 0, none, (.op (.mov (.t 6)))⟩,
    ⟨(some 50), 0, none, (.op (.mov (.t 5)))⟩,
    ⟨(some 2), 0, none, (.op (.mov (.t 49)))⟩,
    ⟨(some 3), 0, none, (.op (.mov (.t 50)))⟩,
    ⟨(some 4), 0, none, (.op (.mov (.k (.d (.bool true)))))⟩])
  (.ret))))))
theorem cc47 : Try.f47.body.bind (compC Try.prog) = some ac47 := by kernel_rfl
theorem go47 {vals : List V} {v : V} (ac : AC) (he : ac.erase = ac47) (hw : wpC Try.prog 0 ac (retQ [.tmp 2, .tmp 3, .tmp 4] v) ⟨vals ++ List.replicate (51 - vals.length) (.tup []), []⟩) : CallP Try.prog 47 vals v :=
  call_of Try.func47 rfl rfl rfl (cc47.trans (congrArg some he.symm)) hw

/-- testbench/testbenchref07.IsName -/
def ac48 : AC :=
  .seq (.reg 0 [⟨(some 2), 0, none, (.op (.mov (.k (.d (.bool false)))))⟩])
  (.seq (.seq (.reg 0 [⟨(some 4), 0, none, (.op (.mov (.t 0)))⟩,
    ⟨(some 5), 0, none, (.op (.bin .eql (.t 4) (.k (.d (.str [])))))⟩,
    ⟨(some 6), 0, none, (.op (.mov (.t 5)))⟩,
    ⟨(some 7), 0, (some (6, false)), (.op (.mov (.t 0)))⟩,
    ⟨(some 8), 0, (some (6, false)), (.op (.len true (.t 7)))⟩,
    ⟨(some 9), 0, (some (6, false)), (.op (.bin .gtr (.t 8) (.k (.d (.int .i64 16)))))⟩,
    ⟨(some 10), 0, none, (.op (.pick (.t 6) (.k (.d (.bool true))) (.t 9)))⟩,
    ⟨(some 11), 0, none, (.op (.mov (.t 10)))⟩,
    ⟨(some 12), 0, (some (11, false)), (.op (.mov (.t 0)))⟩,
    ⟨(some 13), 0, (some (11, false)), (.op (.idxS (.t 12) (.k (.d (.int .i64 0)))))⟩,
    ⟨(some 14), 0, (some (11, false)), (.call (.k (.fn (.func 49) [] [])) [(.t 13)])⟩,
    ⟨(some 15), 0, (some (11, false)), (.op (.un .not (.t 14)))⟩,
    ⟨(some 16), 0, none, (.op (.pick (.t 11) (.k (.d (.bool true))) (.t 15)))⟩,
    ⟨(some 17), 0, none, (.op (.mov (.t 16)))⟩,
    ⟨(some 18), 0, (some (17, false)), (.op (.mov (.t 0)))⟩,
    ⟨(some 19), 0, (some (17, false)), (.call (.k (.fn (.func 50) [] [])) [(.t 18)])⟩,
    ⟨(some 20), 0, none, (.op (.pick (.t 17) (.k (.d (.bool true))) (.t 19)))⟩])
  (.cond (.t 20)
    (.seq (.reg 0 [⟨(some 2), 0, none, (.op (.mov (.k (.d (.bool false)))))⟩])
    (.ret))
    (.skip)))
  (.seq (.seq (.reg 0 [⟨(some 3), 0, none, (.op (.mov (.k (.d (.int .i64 0)))))⟩])
  (.block 0
   (.loop
    (.seq (.seq (.reg 0 [⟨(some 21), 0, none, (.op (.mov (.t 3)))⟩,
      ⟨(some 22), 0, none, (.op (.mov (.t 0)))⟩,
      ⟨(some 23), 0, none, (.op (.len true (.t 22)))⟩,
      ⟨(some 24), 0, none, (.op (.bin .lss (.t 21) (.t 23)))⟩])
    (.cond (.t 24)
      (.skip)
      (.exit 0)))
    (.seq (.block 1
     (.seq (.reg 0 [⟨(some 27), 0, none, (.op (.mov (.t 0)))⟩,
       ⟨(some 28), 0, none, (.op (.mov (.t 3)))⟩,
       ⟨(some 29), 0, none, (.op (.idxS (.t 27) (.t 28)))⟩,
       ⟨(some 30), 0, none, (.call (.k (.fn (.func 51) [] [])) [(.t 29)])⟩,
       ⟨(some 31), 0, none, (.op (.un .not (.t 30)))⟩])
     (.cond (.t 31)
       (.seq (.reg 0 [⟨(some 2), 0, none, (.op (.mov (.k (.d (.bool false)))))⟩])
       (.ret))
       (.skip))))
    (.reg 0 [⟨(some 25), 0, none, (.op (.mov (.t 3)))⟩,
      ⟨(some 26), 0, none, (.op (.bin .add (.t 25) (.k (.d (.int .i64 1)))))⟩,
      ⟨(some 3), 0, none, (.op (.mov (.t 26)))⟩]))))))
  (.seq (.reg 0 [⟨(some 2), 0, none, (.op (.mov (.k (.d (.bool true)))))⟩])
  (.ret))))
theorem cc48 : Try.f48.body.bind (compC Try.prog) = some ac48 := by kernel_rfl
theorem go48 {vals : List V} {v : V} (ac : AC) (he : ac.erase = ac48) (hw : wpC Try.prog 0 ac (retQ [.tmp 2] v) ⟨vals ++ List.replicate (32 - vals.length) (.tup []), []⟩) : CallP Try.prog 48 vals v :=
  call_of Try.func48 rfl rfl rfl (cc48.trans (congrArg some he.symm)) hw

/-- testbench/testbenchref07.small -/
def ac49 : AC :=
  .seq (.reg 0 [⟨(some 2), 0, none, (.op (.mov (.k (.d (.bool false)))))⟩])
  (.seq (.reg 0 [⟨(some 3), 0, none, (.op (.mov (.t 0)))⟩,
    ⟨(some 4), 0, none, (.op (.bin .geq (.t 3) (.k (.d (.int .u8 97)))))⟩,
    ⟨(some 5), 0, none, (.op (.mov (.t 4)))⟩,
    ⟨(some 6), 0, (some (5, true)), (.op (.mov (.t 0)))⟩,
    ⟨(some 7), 0, (some (5, true)), (.op (.bin .leq (.t 6) (.k (.d (.int .u8 122)))))⟩,
    ⟨(some 8), 0, none, (.op (.pick (.t 5) (.t 7) (.k (.d (.bool false)))))⟩,
    ⟨(some 2), 0, none, (.op (.mov (.t 8)))⟩])
  (.ret))
theorem cc49 : Try.f49.body.bind (compC Try.prog) = some ac49 := by kernel_rfl
theorem go49 {vals : List V} {v : V} (ac : AC) (he : ac.erase = ac49) (hw : wpC Try.prog 0 ac (retQ [.tmp 2] v) ⟨vals ++ List.replicate (9 - vals.length) (.tup []), []⟩) : CallP Try.prog 49 vals v :=
  call_of Try.func49 rfl rfl rfl (cc49.trans (congrArg some he.symm)) hw

/-- testbench/testbenchref07.IsKeyword -/
def ac50 : AC :=
  .seq (.reg 0 [⟨(some 2), 0, none, (.op (.mov (.k (.d (.bool false)))))⟩])
  (.seq (.reg 0 [⟨(some 3), 0, none, (.call (.k (.fn (.func 53) [] [])) [])⟩,
    ⟨(some 4), 0, none, (.op (.mov (.t 0)))⟩,
    ⟨(some 5), 0, none, (.call (.k (.fn (.func 52) [] [])) [(.t 3), (.t 4)])⟩,
    ⟨(some 2), 0, none, (.op (.mov (.t 5)))⟩])
  (.ret))
theorem cc50 : Try.f50.body.bind (compC Try.prog) = some ac50 := by kernel_rfl
theorem go50 {vals : List V} {v : V} (ac : AC) (he : ac.erase = ac50) (hw : wpC Try.prog 0 ac (retQ [.tmp 2] v) ⟨vals ++ List.replicate (6 - vals.length) (.tup []), []⟩) : CallP Try.prog 50 vals v :=
  call_of Try.func50 rfl rfl rfl (cc50.trans (congrArg some he.symm)) hw

/-- testbench/testbenchref07.inner -/
def ac51 : AC :=
  .seq (.reg 0 [⟨(some 2), 0, none, (.op (.mov (.k (.d (.bool false)))))⟩])
  (.seq (.reg 0 [⟨(some 3), 0, none, (.op (.mov (.t 0)))⟩,
    ⟨(some 4), 0, none, (.call (.k (.fn (.func 49) [] [])) [(.t 3)])⟩,
    ⟨(some 5), 0, none, (.op (.mov (.t 4)))⟩,
    ⟨(some 6), 0, (some (5, false)), (.op (.mov (.t 0)))⟩,
    ⟨(some 7), 0, (some (5, false)), (.call (.k (.fn (.func 54) [] [])) [(.t 6)])⟩,
    ⟨(some 8), 0, none, (.op (.pick (.t 5) (.k (.d (.bool true))) (.t 7)))⟩,
    ⟨(some 9), 0, none, (.op (.mov (.t 8)))⟩,
    ⟨(some 10), 0, (some (9, false)), (.op (.mov (.t 0)))⟩,
    ⟨(some 11), 0, (some (9, false)), (.op (.bin .geq (.t 10) (.k (.d (.int .u8 65)))))⟩,
    ⟨(some 12), 0, (some (9, false)), (.op (.mov (.t 11)))⟩,
    ⟨(some 13), 0, (some (12, true)), (.op (.mov (.t 0)))⟩,
    ⟨(some 14), 0, (some (12, true)), (.op (.bin .leq (.t 13) (.k (.d (.int .u8 90)))))⟩,
    ⟨(some 15), 0, (some (9, false)), (.op (.pick (.t 12) (.t 14) (.k (.d (.bool false)))))⟩,
    ⟨(some 16), 0, none, (.op (.pick (.t 9) (.k (.d (.bool true))) (.t 15)))⟩,
    ⟨(some 17), 0, none, (.op (.mov (.t 16)))⟩,
    ⟨(some 18), 0, (some (17, false)), (.op (.mov (.t 0)))⟩,
    ⟨(some 19), 0, (some (17, false)), (.op (.bin .eql (.t 18) (.k (.d (.int .u8 95)))))⟩,
    ⟨(some 20), 0, none, (.op (.pick (.t 17) (.k (.d (.bool true))) (.t 19)))⟩,
    ⟨(some 2), 0, none, (.op (.mov (.t 20)))⟩])
  (.ret))
theorem cc51 : Try.f51.body.bind (compC Try.prog) = some ac51 := by kernel_rfl
theorem go51 {vals : List V} {v : V} (ac : AC) (he : ac.erase = ac51) (hw : wpC Try.prog 0 ac (retQ [.tmp 2] v) ⟨vals ++ List.replicate (21 - vals.length) (.tup []), []⟩) : CallP Try.prog 51 vals v :=
  call_of Try.func51 rfl rfl rfl (cc51.trans (congrArg some he.symm)) hw

/-- testbench/testbenchref07.has -/
def ac52 : AC :=
  .seq (.reg 0 [⟨(some 4), 0, none, (.op (.mov (.k (.d (.bool false)))))⟩])
  (.seq (.seq (.reg 0 [⟨(some 5), 0, none, (.op (.mov (.k (.d (.int .i64 0)))))⟩])
  (.block 0
   (.loop
    (.seq (.seq (.reg 0 [⟨(some 6), 0, none, (.op (.mov (.t 5)))⟩,
      ⟨(some 7), 0, none, (.op (.mov (.t 0)))⟩,
      ⟨(some 8), 0, none, (.op (.len false (.t 7)))⟩,
      ⟨(some 9), 0, none, (.op (.bin .lss (.t 6) (.t 8)))⟩])
    (.cond (.t 9)
      (.skip)
      (.exit 0)))
    (.seq (.block 1
     (.seq (.reg 0 [⟨(some 12), 0, none, (.op (.mov (.t 0)))⟩,
       ⟨(some 13), 0, none, (.op (.mov (.t 5)))⟩,
       ⟨(some 14), 0, none, (.op (.idxA 1 none (.t 12) (.t 13)))⟩,
       ⟨(some 15), 0, none, (.op (.load false 1 (.t 14)))⟩,
       ⟨(some 16), 0, none, (.op (.mov (.t 1)))⟩,
       ⟨(some 17), 0, none, (.op (.bin .eql (.t 15) (.t 16)))⟩])
     (.cond (.t 17)
       (.seq (.reg 0 [⟨(some 4), 0, none, (.op (.mov (.k (.d (.bool true)))))⟩])
       (.ret))
       (.skip))))
    (.reg 0 [⟨(some 10), 0, none, (.op (.mov (.t 5)))⟩,
      ⟨(some 11), 0, none, (.op (.bin .add (.t 10) (.k (.d (.int .i64 1)))))⟩,
      ⟨(some 5), 0, none, (.op (.mov (.t 11)))⟩]))))))
  (.seq (.reg 0 [⟨(some 4), 0, none, (.op (.mov (.k (.d (.bool false)))))⟩])
  (.ret)))
theorem cc52 : Try.f52.body.bind (compC Try.prog) = some ac52 := by kernel_rfl
theorem go52 {vals : List V} {v : V} (ac : AC) (he : ac.erase = ac52) (hw : wpC Try.prog 0 ac (retQ [.tmp 4] v) ⟨vals ++ List.replicate (18 - vals.length) (.tup []), []⟩) : CallP Try.prog 52 vals v :=
  call_of Try.func52 rfl rfl rfl (cc52.trans (congrArg some he.symm)) hw

/-- testbench/testbenchref07.keywords -/
def ac53 : AC :=
  .seq (.reg 0 [⟨(some 0), 0, none, (.op (.mov (.k (.d .nils))))⟩])
  (.seq (.reg 1 [⟨(some 1), 0, none, (.op (.buildSl 1 24 [(.str [])] [(0, (.k (.d (.str [99, 108, 97, 115, 115])))), (1, (.k (.d (.str [101, 120, 116, 101, 110, 100, 115])))), (2, (.k (.d (.str [114, 97, 110, 100])))), (3, (.k (.d (.str [114, 97, 110, 100, 99])))), (4, (.k (.d (.str [115, 116, 97, 116, 101])))), (5, (.k (.d (.str [99, 111, 110, 115, 116, 114, 97, 105, 110, 116])))), (6, (.k (.d (.str [115, 111, 102, 116])))), (7, (.k (.d (.str [100, 105, 115, 116])))), (8, (.k (.d (.str [105, 102])))), (9, (.k (.d (.str [101, 108, 115, 101])))), (10, (.k (.d (.str [101, 97, 99, 104])))), (11, (.k (.d (.str [105, 110])))), (12, (.k (.d (.str [115, 111, 108, 118, 101])))), (13, (.k (.d (.str [98, 101, 102, 111, 114, 101])))), (14, (.k (.d (.str [105, 110, 115, 105, 100, 101])))), (15, (.k (.d (.str [112, 114, 111, 112, 101, 114, 116, 121])))), (16, (.k (.d (.str [115, 101, 113])))), (17, (.k (.d (.str [97, 110, 100])))), (18, (.k (.d (.str [111, 114])))), (19, (.k (.d (.str [110, 111, 116])))), (20, (.k (.d (.str [115, 101, 116])))), (21, (.k (.d (.str [104, 111, 108, 100])))), (22, (.k (.d (.str [112, 108, 97, 105, 110])))), (23, (.k (.d (.str [114, 101, 112, 101, 97, 116]))))]))⟩,
    ⟨(some 0), 1, none, (.op (.mov (.t 1)))⟩])
  (.ret))
theorem cc53 : Try.f53.body.bind (compC Try.prog) = some ac53 := by kernel_rfl
theorem go53 {vals : List V} {v : V} (ac : AC) (he : ac.erase = ac53) (hw : wpC Try.prog 0 ac (retQ [.tmp 0] v) ⟨vals ++ List.replicate (2 - vals.length) (.tup []), []⟩) : CallP Try.prog 53 vals v :=
  call_of Try.func53 rfl rfl rfl (cc53.trans (congrArg some he.symm)) hw

/-- testbench/testbenchref07.digit -/
def ac54 : AC :=
  .seq (.reg 0 [⟨(some 2), 0, none, (.op (.mov (.k (.d (.bool false)))))⟩])
  (.seq (.reg 0 [⟨(some 3), 0, none, (.op (.mov (.t 0)))⟩,
    ⟨(some 4), 0, none, (.op (.bin .geq (.t 3) (.k (.d (.int .u8 48)))))⟩,
    ⟨(some 5), 0, none, (.op (.mov (.t 4)))⟩,
    ⟨(some 6), 0, (some (5, true)), (.op (.mov (.t 0)))⟩,
    ⟨(some 7), 0, (some (5, true)), (.op (.bin .leq (.t 6) (.k (.d (.int .u8 57)))))⟩,
    ⟨(some 8), 0, none, (.op (.pick (.t 5) (.t 7) (.k (.d (.bool false)))))⟩,
    ⟨(some 2), 0, none, (.op (.mov (.t 8)))⟩])
  (.ret))
theorem cc54 : Try.f54.body.bind (compC Try.prog) = some ac54 := by kernel_rfl
theorem go54 {vals : List V} {v : V} (ac : AC) (he : ac.erase = ac54) (hw : wpC Try.prog 0 ac (retQ [.tmp 2] v) ⟨vals ++ List.replicate (9 - vals.length) (.tup []), []⟩) : CallP Try.prog 54 vals v :=
  call_of Try.func54 rfl rfl rfl (cc54.trans (congrArg some he.symm)) hw

/-- the functions -/
def tab : Tab := tabOf [(3, ac3, 36, [.tmp 2]), (4, ac4, 36, [.tmp 4]), (5, ac5, 107, [.tmp 6]), (6, ac6, 109, [.tmp 4]), (7, ac7, 40, [.tmp 6]), (8, ac8, 62, [.tmp 6]), (9, ac9, 65, [.tmp 2]), (10, ac10, 2, [.tmp 0]), (11, ac11, 2, [.tmp 0]), (12, ac12, 9, [.tmp 2]), (13, ac13, 13, [.tmp 2]), (14, ac14, 67, [.tmp 0]), (15, ac15, 23, [.tmp 2]), (16, ac16, 44, [.tmp 4, .tmp 5]), (17, ac17, 76, [.tmp 4, .tmp 5]), (18, ac18, 27, [.tmp 4]), (19, ac19, 59, [.tmp 4]), (20, ac20, 25, [.tmp 4, .tmp 5]), (21, ac21, 45, [.tmp 2]), (22, ac22, 28, [.tmp 6, .tmp 7]), (23, ac23, 27, [.tmp 6, .tmp 7]), (24, ac24, 13, [.cell 6 true 2]), (25, ac25, 15, [.tmp 2]), (26, ac26, 35, [.tmp 2]), (27, ac27, 28, [.tmp 2]), (28, ac28, 42, [.cell 4 true 4, .tmp 5]), (29, ac29, 14, [.cell 4 true 2]), (30, ac30, 16, [.tmp 4]), (31, ac31, 19, [.tmp 4]), (32, ac32, 11, [.tmp 2]), (33, ac33, 23, [.tmp 8]), (34, ac34, 1, [.tmp 0]), (35, ac35, 26, [.tmp 2]), (36, ac36, 24, [.tmp 2]), (37, ac37, 25, [.tmp 4, .tmp 5]), (38, ac38, 6, [.tmp 2]), (39, ac39, 8, [.tmp 2]), (40, ac40, 5, [.tmp 2]), (41, ac41, 5, [.tmp 2]), (42, ac42, 17, [.tmp 2]), (43, ac43, 8, [.tmp 2]), (44, ac44, 19, [.tmp 4]), (45, ac45, 6, [.tmp 2]), (46, ac46, 5, [.tmp 2]), (47, ac47, 51, [.tmp 2, .tmp 3, .tmp 4]), (48, ac48, 32, [.tmp 2]), (49, ac49, 9, [.tmp 2]), (50, ac50, 6, [.tmp 2]), (51, ac51, 21, [.tmp 2]), (52, ac52, 18, [.tmp 4]), (53, ac53, 2, [.tmp 0]), (54, ac54, 9, [.tmp 2])]
theorem tab_ok : TabOk Try.prog tab :=
  tabOf_cons (fun _ _ h => go3 ac3 rfl h) (tabOf_cons (fun _ _ h => go4 ac4 rfl h) (tabOf_cons (fun _ _ h => go5 ac5 rfl h) (tabOf_cons (fun _ _ h => go6 ac6 rfl h) (tabOf_cons (fun _ _ h => go7 ac7 rfl h) (tabOf_cons (fun _ _ h => go8 ac8 rfl h) (tabOf_cons (fun _ _ h => go9 ac9 rfl h) (tabOf_cons (fun _ _ h => go10 ac10 rfl h) (tabOf_cons (fun _ _ h => go11 ac11 rfl h) (tabOf_cons (fun _ _ h => go12 ac12 rfl h) (tabOf_cons (fun _ _ h => go13 ac13 rfl h) (tabOf_cons (fun _ _ h => go14 ac14 rfl h) (tabOf_cons (fun _ _ h => go15 ac15 rfl h) (tabOf_cons (fun _ _ h => go16 ac16 rfl h) (tabOf_cons (fun _ _ h => go17 ac17 rfl h) (tabOf_cons (fun _ _ h => go18 ac18 rfl h) (tabOf_cons (fun _ _ h => go19 ac19 rfl h) (tabOf_cons (fun _ _ h => go20 ac20 rfl h) (tabOf_cons (fun _ _ h => go21 ac21 rfl h) (tabOf_cons (fun _ _ h => go22 ac22 rfl h) (tabOf_cons (fun _ _ h => go23 ac23 rfl h) (tabOf_cons (fun _ _ h => go24 ac24 rfl h) (tabOf_cons (fun _ _ h => go25 ac25 rfl h) (tabOf_cons (fun _ _ h => go26 ac26 rfl h) (tabOf_cons (fun _ _ h => go27 ac27 rfl h) (tabOf_cons (fun _ _ h => go28 ac28 rfl h) (tabOf_cons (fun _ _ h => go29 ac29 rfl h) (tabOf_cons (fun _ _ h => go30 ac30 rfl h) (tabOf_cons (fun _ _ h => go31 ac31 rfl h) (tabOf_cons (fun _ _ h => go32 ac32 rfl h) (tabOf_cons (fun _ _ h => go33 ac33 rfl h) (tabOf_cons (fun _ _ h => go34 ac34 rfl h) (tabOf_cons (fun _ _ h => go35 ac35 rfl h) (tabOf_cons (fun _ _ h => go36 ac36 rfl h) (tabOf_cons (fun _ _ h => go37 ac37 rfl h) (tabOf_cons (fun _ _ h => go38 ac38 rfl h) (tabOf_cons (fun _ _ h => go39 ac39 rfl h) (tabOf_cons (fun _ _ h => go40 ac40 rfl h) (tabOf_cons (fun _ _ h => go41 ac41 rfl h) (tabOf_cons (fun _ _ h => go42 ac42 rfl h) (tabOf_cons (fun _ _ h => go43 ac43 rfl h) (tabOf_cons (fun _ _ h => go44 ac44 rfl h) (tabOf_cons (fun _ _ h => go45 ac45 rfl h) (tabOf_cons (fun _ _ h => go46 ac46 rfl h) (tabOf_cons (fun _ _ h => go47 ac47 rfl h) (tabOf_cons (fun _ _ h => go48 ac48 rfl h) (tabOf_cons (fun _ _ h => go49 ac49 rfl h) (tabOf_cons (fun _ _ h => go50 ac50 rfl h) (tabOf_cons (fun _ _ h => go51 ac51 rfl h) (tabOf_cons (fun _ _ h => go52 ac52 rfl h) (tabOf_cons (fun _ _ h => go53 ac53 rfl h) (tabOf_cons (fun _ _ h => go54 ac54 rfl h) (tabOf_nil))))))))))))))))))))))))))))))))))))))))))))))))))))
end Go.Proofs.Rf
