import Derived.Test.YtacjcacadekceaaDoorVxEv
import Derived.KernelRfl
import Derived.Test.YtacjcacadekceaaDoorProg
set_option linter.unusedSimpArgs false
set_option linter.unusedVariables false
namespace Go.Proofs.Dr
open Go.Vx

/-- testbench/testbenchlaw36.DriverValid -/
def ac3 : AC :=
  .seq (.reg 1 [⟨(some 3), 0, none, (.op (.box 3 (.t 1)))⟩,
    ⟨(some 4), 1, none, (.op (.mov (.k (.d (.bool false)))))⟩])
  (.seq (.reg 1 [⟨(some 6), 0, none, (.op (.mov (.t 0)))⟩,
    ⟨(some 7), 0, none, (.call (.k (.fn (.func 8) [] [])) [(.t 6)])⟩,
    ⟨(some 5), 0, none, (.op (.alloc [.nils, (.int .i64 0), (.int .i64 0)]))⟩,
    ⟨none, 1, none, (.op (.store 3 (.t 5) (.t 7)))⟩])
  (.seq (.regD 0 [(⟨(some 8), 0, none, (.op (.load true 3 (.t 5)))⟩, []),
    (⟨(some 9), 0, none, (.op (.mov (.t 0)))⟩, []),
    (⟨(some 10), 0, none, (.call (.k (.fn (.func 10) [] [])) [(.t 9)])⟩, [1]),
    (⟨(some 11), 0, none, (.call (.k (.fn (.func 9) [] [])) [(.t 8), (.t 10)])⟩, [0, 2, 1]),
    (⟨(some 12), 0, none, (.op (.mov (.t 11)))⟩, [3, 0, 2, 1]),
    (⟨(some 13), 0, (some (12, true)), (.op (.load true 3 (.t 3)))⟩, [4, 3, 0, 2, 1]),
    (⟨(some 14), 0, (some (12, true)), (.call (.k (.fn (.func 11) [] [])) [(.t 13)])⟩, [5, 4, 3, 0, 2, 1]),
    (⟨(some 15), 0, (some (12, true)), (.op (.load true 3 (.t 3)))⟩, [4, 3, 0, 2, 1]),
    (⟨(some 16), 0, (some (12, true)), (.call (.k (.fn (.func 12) [] [])) [(.t 15)])⟩, [7, 4, 3, 0, 2, 1, 6, 5]),
    (⟨(some 17), 0, (some (12, true)), (.op (.eqB false (.t 14) (.t 16)))⟩, [6, 5, 4, 3, 0, 2, 1, 8, 7]),
    (⟨(some 18), 0, none, (.op (.pick (.t 12) (.t 17) (.k (.d (.bool false)))))⟩, [4, 3, 0, 2, 1, 9, 6, 5, 8, 7]),
    (⟨(some 19), 0, none, (.op (.mov (.t 18)))⟩, [10, 4, 3, 0, 2, 1, 9, 6, 5, 8, 7]),
    (⟨(some 20), 0, (some (19, true)), (.op (.load true 3 (.t 5)))⟩, [11, 10, 4, 3, 0, 2, 1, 9, 6, 5, 8, 7]),
    (⟨(some 21), 0, (some (19, true)), (.call (.k (.fn (.func 11) [] [])) [(.t 20)])⟩, [12, 11, 10, 4, 3, 0, 2, 1, 9, 6, 5, 8, 7]),
    (⟨(some 22), 0, (some (19, true)), (.op (.load true 3 (.t 5)))⟩, [11, 10, 4, 3, 0, 2, 1, 9, 6, 5, 8, 7]),
    (⟨(some 23), 0, (some (19, true)), (.call (.k (.fn (.func 12) [] [])) [(.t 22)])⟩, [14, 11, 10, 4, 3, 0, 2, 1, 9, 6, 5, 8, 7, 13, 12]),
    (⟨(some 24), 0, (some (19, true)), (.op (.eqB false (.t 21) (.t 23)))⟩, [13, 12, 11, 10, 4, 3, 0, 2, 1, 9, 6, 5, 8, 7, 15, 14]),
    (⟨(some 25), 0, none, (.op (.pick (.t 19) (.t 24) (.k (.d (.bool false)))))⟩, [11, 10, 4, 3, 0, 2, 1, 9, 6, 5, 8, 7, 16, 13, 12, 15, 14]),
    (⟨(some 26), 0, none, (.op (.mov (.t 25)))⟩, [17, 11, 10, 4, 3, 0, 2, 1, 9, 6, 5, 8, 7, 16, 13, 12, 15, 14]),
    (⟨(some 27), 0, (some (26, true)), (.op (.load true 3 (.t 3)))⟩, [18, 17, 11, 10, 4, 3, 0, 2, 1, 9, 6, 5, 8, 7, 16, 13, 12, 15, 14]),
    (⟨(some 28), 0, (some (26, true)), (.call (.k (.fn (.func 13) [] [])) [(.t 27)])⟩, [19, 18, 17, 11, 10, 4, 3, 0, 2, 1, 9, 6, 5, 8, 7, 16, 13, 12, 15, 14]),
    (⟨(some 29), 0, (some (26, true)), (.op (.load true 3 (.t 3)))⟩, [18, 17, 11, 10, 4, 3, 0, 2, 1, 9, 6, 5, 8, 7, 16, 13, 12, 15, 14]),
    (⟨(some 30), 0, (some (26, true)), (.call (.k (.fn (.func 14) [] [])) [(.t 29)])⟩, [21, 18, 17, 11, 10, 4, 3, 0, 2, 1, 9, 6, 5, 8, 7, 16, 13, 12, 15, 14, 20, 19]),
    (⟨(some 31), 0, (some (26, true)), (.op (.eqB false (.t 28) (.t 30)))⟩, [20, 19, 18, 17, 11, 10, 4, 3, 0, 2, 1, 9, 6, 5, 8, 7, 16, 13, 12, 15, 14, 22, 21]),
    (⟨(some 32), 0, none, (.op (.pick (.t 26) (.t 31) (.k (.d (.bool false)))))⟩, [18, 17, 11, 10, 4, 3, 0, 2, 1, 9, 6, 5, 8, 7, 16, 13, 12, 15, 14, 23, 20, 19, 22, 21]),
    (⟨(some 33), 0, none, (.op (.mov (.t 32)))⟩, [24, 18, 17, 11, 10, 4, 3, 0, 2, 1, 9, 6, 5, 8, 7, 16, 13, 12, 15, 14, 23, 20, 19, 22, 21]),
    (⟨(some 34), 0, (some (33, true)), (.op (.load true 3 (.t 3)))⟩, [25, 24, 18, 17, 11, 10, 4, 3, 0, 2, 1, 9, 6, 5, 8, 7, 16, 13, 12, 15, 14, 23, 20, 19, 22, 21]),
    (⟨(some 35), 0, (some (33, true)), (.call (.k (.fn (.func 16) [] [])) [(.t 34)])⟩, [26, 25, 24, 18, 17, 11, 10, 4, 3, 0, 2, 1, 9, 6, 5, 8, 7, 16, 13, 12, 15, 14, 23, 20, 19, 22, 21]),
    (⟨(some 36), 0, (some (33, true)), (.op (.load true 3 (.t 3)))⟩, [25, 24, 18, 17, 11, 10, 4, 3, 0, 2, 1, 9, 6, 5, 8, 7, 16, 13, 12, 15, 14, 23, 20, 19, 22, 21]),
    (⟨(some 37), 0, (some (33, true)), (.call (.k (.fn (.func 17) [] [])) [(.t 36)])⟩, [28, 25, 24, 18, 17, 11, 10, 4, 3, 0, 2, 1, 9, 6, 5, 8, 7, 16, 13, 12, 15, 14, 23, 20, 19, 22, 21, 27, 26]),
    (⟨(some 38), 0, (some (33, true)), (.call (.k (.fn (.func 15) [] [])) [(.t 35), (.t 37)])⟩, [27, 26, 25, 24, 18, 17, 11, 10, 4, 3, 0, 2, 1, 9, 6, 5, 8, 7, 16, 13, 12, 15, 14, 23, 20, 19, 22, 21, 29, 28]),
    (⟨(some 39), 0, none, (.op (.pick (.t 33) (.t 38) (.k (.d (.bool false)))))⟩, [25, 24, 18, 17, 11, 10, 4, 3, 0, 2, 1, 9, 6, 5, 8, 7, 16, 13, 12, 15, 14, 23, 20, 19, 22, 21, 30, 27, 26, 29, 28]),
    (⟨(some 40), 0, none, (.op (.mov (.t 39)))⟩, [31, 25, 24, 18, 17, 11, 10, 4, 3, 0, 2, 1, 9, 6, 5, 8, 7, 16, 13, 12, 15, 14, 23, 20, 19, 22, 21, 30, 27, 26, 29, 28]),
    (⟨(some 41), 0, (some (40, true)), (.call (.k (.fn (.func 18) [] [])) [])⟩, [32, 31, 25, 24, 18, 17, 11, 10, 4, 3, 0, 2, 1, 9, 6, 5, 8, 7, 16, 13, 12, 15, 14, 23, 20, 19, 22, 21, 30, 27, 26, 29, 28]),
    (⟨(some 42), 0, none, (.op (.pick (.t 40) (.t 41) (.k (.d (.bool false)))))⟩, [32, 31, 25, 24, 18, 17, 11, 10, 4, 3, 0, 2, 1, 9, 6, 5, 8, 7, 16, 13, 12, 15, 14, 23, 20, 19, 22, 21, 30, 27, 26, 29, 28, 33]),
    (⟨(some 4), 0, none, (.op (.mov (.t 42)))⟩, [34, 32, 31, 25, 24, 18, 17, 11, 10, 4, 3, 0, 2, 1, 9, 6, 5, 8, 7, 16, 13, 12, 15, 14, 23, 20, 19, 22, 21, 30, 27, 26, 29, 28, 33])])
  (.ret)))
theorem cc3 : Tryd.f3.body.bind (compC Tryd.prog) = some ac3 := by kernel_rfl
theorem go3 {vals : List V} {v : V} (ac : AC) (he : ac.erase = ac3) (hw : wpC Tryd.prog 0 ac (retQ [.tmp 4] v) ⟨vals ++ List.replicate (43 - vals.length) (.tup []), []⟩) : CallP Tryd.prog 3 vals v :=
  call_of Tryd.func3 rfl rfl rfl (cc3.trans (congrArg some he.symm)) hw
theorem gi3 {vals : List V} {rows : Go.Vx.Rows} {K : V → Go.Vx.Rows → Prop} (ac : AC) (he : ac.erase = ac3) (hw : wpC Tryd.prog rows.length ac (retI [.tmp 4] K) ⟨vals ++ List.replicate (43 - vals.length) (.tup []), rows⟩) : InlP Tryd.prog 3 vals rows K :=
  inl_of' Tryd.func3 rfl rfl rfl (cc3.trans (congrArg some he.symm)) hw
theorem gm3 {vals : List V} {v : V} {sz : Nat} {es es' : List (List V)} (ac : AC) (he : ac.erase = ac3) (hw : wpC Tryd.prog 1 ac (retM [.tmp 4] v sz es') ⟨vals ++ List.replicate (43 - vals.length) (.tup []), [.live sz es]⟩) : CallM Tryd.prog 3 vals sz es v es' :=
  callM_of' Tryd.func3 rfl rfl rfl (cc3.trans (congrArg some he.symm)) hw

/-- testbench/testbenchlaw36.DriverDrives -/
def ac4 : AC :=
  .seq (.reg 2 [⟨(some 2), 0, none, (.op (.box 3 (.t 0)))⟩,
    ⟨(some 3), 1, none, (.op (.box 3 (.t 1)))⟩,
    ⟨(some 4), 2, none, (.op (.mov (.k (.d (.bool false)))))⟩])
  (.seq (.regD 0 [(⟨(some 5), 0, none, (.op (.load true 3 (.t 2)))⟩, []),
    (⟨(some 6), 0, none, (.op (.load true 3 (.t 3)))⟩, []),
    (⟨(some 7), 0, none, (.call (.k (.fn (.func 20) [] [])) [(.t 5), (.t 6)])⟩, [0, 1]),
    (⟨(some 8), 0, none, (.op (.load true 3 (.t 2)))⟩, []),
    (⟨(some 9), 0, none, (.op (.load true 3 (.t 3)))⟩, []),
    (⟨(some 10), 0, none, (.call (.k (.fn (.func 21) [] [])) [(.t 8), (.t 9)])⟩, [3, 4, 2, 0, 1]),
    (⟨(some 11), 0, none, (.call (.k (.fn (.func 19) [] [])) [(.t 7), (.t 10)])⟩, [2, 0, 1, 5, 3, 4]),
    (⟨(some 12), 0, none, (.op (.mov (.t 11)))⟩, [6, 2, 0, 1, 5, 3, 4]),
    (⟨(some 13), 0, (some (12, true)), (.call (.k (.fn (.func 18) [] [])) [])⟩, [7, 6, 2, 0, 1, 5, 3, 4]),
    (⟨(some 14), 0, none, (.op (.pick (.t 12) (.t 13) (.k (.d (.bool false)))))⟩, [7, 6, 2, 0, 1, 5, 3, 4, 8]),
    (⟨(some 4), 0, none, (.op (.mov (.t 14)))⟩, [9, 7, 6, 2, 0, 1, 5, 3, 4, 8])])
  (.ret))
theorem cc4 : Tryd.f4.body.bind (compC Tryd.prog) = some ac4 := by kernel_rfl
theorem go4 {vals : List V} {v : V} (ac : AC) (he : ac.erase = ac4) (hw : wpC Tryd.prog 0 ac (retQ [.tmp 4] v) ⟨vals ++ List.replicate (15 - vals.length) (.tup []), []⟩) : CallP Tryd.prog 4 vals v :=
  call_of Tryd.func4 rfl rfl rfl (cc4.trans (congrArg some he.symm)) hw
theorem gi4 {vals : List V} {rows : Go.Vx.Rows} {K : V → Go.Vx.Rows → Prop} (ac : AC) (he : ac.erase = ac4) (hw : wpC Tryd.prog rows.length ac (retI [.tmp 4] K) ⟨vals ++ List.replicate (15 - vals.length) (.tup []), rows⟩) : InlP Tryd.prog 4 vals rows K :=
  inl_of' Tryd.func4 rfl rfl rfl (cc4.trans (congrArg some he.symm)) hw
theorem gm4 {vals : List V} {v : V} {sz : Nat} {es es' : List (List V)} (ac : AC) (he : ac.erase = ac4) (hw : wpC Tryd.prog 1 ac (retM [.tmp 4] v sz es') ⟨vals ++ List.replicate (15 - vals.length) (.tup []), [.live sz es]⟩) : CallM Tryd.prog 4 vals sz es v es' :=
  callM_of' Tryd.func4 rfl rfl rfl (cc4.trans (congrArg some he.symm)) hw

/-- testbench/testbenchlaw36.DriverSteps -/
def ac5 : AC :=
  .seq (.reg 1 [⟨(some 2), 0, none, (.op (.box 3 (.t 0)))⟩,
    ⟨(some 4), 1, none, (.op (.mov (.k (.d (.bool false)))))⟩])
  (.seq (.reg 1 [⟨(some 10), 0, none, (.op (.load true 3 (.t 2)))⟩,
    ⟨(some 11), 0, none, (.op (.mov (.t 1)))⟩,
    ⟨(some 12), 0, none, (.call (.k (.fn (.func 22) [] [])) [(.t 10), (.t 11)])⟩,
    ⟨(some 9), 0, none, (.op (.mov (.t 12)))⟩,
    ⟨(some 13), 0, none, (.op (.ext (.t 9) 0))⟩,
    ⟨(some 14), 0, none, (.op (.ext (.t 9) 1))⟩,
    ⟨(some 5), 0, none, (.op (.alloc [.nils, (.int .i64 0), (.int .i64 0)]))⟩,
    ⟨none, 1, none, (.op (.store 3 (.t 5) (.t 13)))⟩,
    ⟨(some 6), 1, none, (.op (.mov (.t 14)))⟩])
  (.seq (.reg 1 [⟨(some 16), 0, none, (.op (.load true 3 (.t 2)))⟩,
    ⟨(some 17), 0, none, (.op (.mov (.t 1)))⟩,
    ⟨(some 18), 0, none, (.call (.k (.fn (.func 23) [] [])) [(.t 16), (.t 17)])⟩,
    ⟨(some 15), 0, none, (.op (.mov (.t 18)))⟩,
    ⟨(some 19), 0, none, (.op (.ext (.t 15) 0))⟩,
    ⟨(some 20), 0, none, (.op (.ext (.t 15) 1))⟩,
    ⟨(some 7), 0, none, (.op (.alloc [.nils, (.int .i64 0), (.int .i64 0)]))⟩,
    ⟨none, 1, none, (.op (.store 3 (.t 7) (.t 19)))⟩,
    ⟨(some 8), 1, none, (.op (.mov (.t 20)))⟩])
  (.seq (.reg 0 [⟨(some 21), 0, none, (.op (.load true 3 (.t 5)))⟩,
    ⟨(some 22), 0, none, (.op (.load true 3 (.t 7)))⟩,
    ⟨(some 23), 0, none, (.call (.k (.fn (.func 9) [] [])) [(.t 21), (.t 22)])⟩,
    ⟨(some 24), 0, none, (.op (.mov (.t 23)))⟩,
    ⟨(some 25), 0, (some (24, true)), (.op (.mov (.t 6)))⟩,
    ⟨(some 26), 0, (some (24, true)), (.op (.mov (.t 8)))⟩,
    ⟨(some 27), 0, (some (24, true)), (.op (.eqB false (.t 25) (.t 26)))⟩,
    ⟨(some 28), 0, none, (.op (.pick (.t 24) (.t 27) (.k (.d (.bool false)))))⟩,
    ⟨(some 29), 0, none, (.op (.mov (.t 28)))⟩,
    ⟨(some 30), 0, (some (29, true)), (.call (.k (.fn (.func 18) [] [])) [])⟩,
    ⟨(some 31), 0, none, (.op (.pick (.t 29) (.t 30) (.k (.d (.bool false)))))⟩,
    ⟨(some 4), 0, none, (.op (.mov (.t 31)))⟩])
  (.ret))))
theorem cc5 : Tryd.f5.body.bind (compC Tryd.prog) = some ac5 := by kernel_rfl
theorem go5 {vals : List V} {v : V} (ac : AC) (he : ac.erase = ac5) (hw : wpC Tryd.prog 0 ac (retQ [.tmp 4] v) ⟨vals ++ List.replicate (32 - vals.length) (.tup []), []⟩) : CallP Tryd.prog 5 vals v :=
  call_of Tryd.func5 rfl rfl rfl (cc5.trans (congrArg some he.symm)) hw
theorem gi5 {vals : List V} {rows : Go.Vx.Rows} {K : V → Go.Vx.Rows → Prop} (ac : AC) (he : ac.erase = ac5) (hw : wpC Tryd.prog rows.length ac (retI [.tmp 4] K) ⟨vals ++ List.replicate (32 - vals.length) (.tup []), rows⟩) : InlP Tryd.prog 5 vals rows K :=
  inl_of' Tryd.func5 rfl rfl rfl (cc5.trans (congrArg some he.symm)) hw
theorem gm5 {vals : List V} {v : V} {sz : Nat} {es es' : List (List V)} (ac : AC) (he : ac.erase = ac5) (hw : wpC Tryd.prog 1 ac (retM [.tmp 4] v sz es') ⟨vals ++ List.replicate (32 - vals.length) (.tup []), [.live sz es]⟩) : CallM Tryd.prog 5 vals sz es v es' :=
  callM_of' Tryd.func5 rfl rfl rfl (cc5.trans (congrArg some he.symm)) hw

/-- testbench/testbenchlaw36.DriverSends -/
def ac6 : AC :=
  .seq (.reg 1 [⟨(some 4), 0, none, (.op (.box 3 (.t 1)))⟩,
    ⟨(some 6), 1, none, (.op (.mov (.k (.d (.bool false)))))⟩])
  (.seq (.reg 0 [⟨(some 21), 0, none, (.op (.mov (.t 0)))⟩,
    ⟨(some 22), 0, none, (.op (.mov (.t 0)))⟩,
    ⟨(some 23), 0, none, (.op (.len false (.t 22)))⟩,
    ⟨(some 24), 0, none, (.op (.mn (.t 23) (.k (.d (.int .i64 40)))))⟩,
    ⟨(some 25), 0, none, (.op (.slice 4 (.t 21) none (some (.t 24))))⟩,
    ⟨(some 0), 0, none, (.op (.mov (.t 25)))⟩])
  (.seq (.seq (.reg 0 [⟨(some 26), 0, none, (.op (.mov (.t 0)))⟩,
    ⟨(some 27), 0, none, (.op (.len false (.t 26)))⟩,
    ⟨(some 28), 0, none, (.op (.mov (.k (.d (.int .i64 0)))))⟩])
  (.block 0
   (.loop
    (.seq (.reg 0 [⟨(some 29), 0, none, (.op (.bin .lss (.t 28) (.t 27)))⟩])
    (.seq (.cond (.t 29)
      (.skip)
      (.exit 0))
    (.seq (.block 1
     (.seq (.reg 1 [⟨(some 30), 0, none, (.op (.idxA 4 none (.t 26) (.t 28)))⟩,
       ⟨(some 31), 0, none, (.op (.load true 4 (.t 30)))⟩,
       ⟨(some 8), 0, none, (.op (.alloc [(.bool false), .nils, .nils, (.str [])]))⟩,
       ⟨none, 1, none, (.op (.store 4 (.t 8) (.t 31)))⟩])
     (.seq (.reg 0 [⟨(some 32), 0, none, (.op (.fldA 0 (.t 8)))⟩,
       ⟨(some 33), 0, none, (.op (.load false 1 (.t 32)))⟩,
       ⟨(some 34), 0, none, (.op (.un .not (.t 33)))⟩,
       ⟨(some 35), 0, none, (.op (.mov (.t 34)))⟩,
       ⟨(some 36), 0, (some (35, true)), (.op (.fldA 1 (.t 8)))⟩,
       ⟨(some 37), 0, (some (35, true)), (.op (.load true 2 (.t 36)))⟩,
       ⟨(some 38), 0, (some (35, true)), (.call (.k (.fn (.func 24) [] [])) [(.t 37)])⟩,
       ⟨(some 39), 0, (some (35, true)), (.op (.un .not (.t 38)))⟩,
       ⟨(some 40), 0, none, (.op (.pick (.t 35) (.t 39) (.k (.d (.bool false)))))⟩])
     (.cond (.t 40)
       (.seq (.reg 0 [⟨(some 41), 0, none, (.call (.k (.fn (.func 18) [] [])) [])⟩,
         ⟨(some 6), 0, none, (.op (.mov (.t 41)))⟩])
       (.ret))
       (.skip)))))
    (.reg 0 [⟨(some 42), 0, none, (.op (.bin .add (.t 28) (.k (.d (.int .i64 1)))))⟩,
      ⟨(some 28), 0, none, (.op (.mov (.t 42)))⟩])))))))
  (.seq (.reg 1 [⟨(some 43), 0, none, (.op (.mov (.t 0)))⟩,
    ⟨(some 44), 0, none, (.call (.k (.fn (.func 8) [] [])) [(.t 43)])⟩,
    ⟨(some 9), 0, none, (.op (.alloc [.nils, (.int .i64 0), (.int .i64 0)]))⟩,
    ⟨none, 1, none, (.op (.store 3 (.t 9) (.t 44)))⟩])
  (.seq (.reg 0 [⟨(some 10), 0, none, (.op (.mov (.k (.d .nils))))⟩])
  (.seq (.reg 0 [⟨(some 11), 0, none, (.op (.mov (.k (.d (.int .i64 0)))))⟩])
  (.seq (.seq (.reg 0 [⟨(some 45), 0, none, (.op (.mov (.t 2)))⟩,
    ⟨(some 46), 0, none, (.op (.mov (.t 2)))⟩,
    ⟨(some 47), 0, none, (.op (.len false (.t 46)))⟩,
    ⟨(some 48), 0, none, (.op (.mn (.t 47) (.k (.d (.int .i64 80)))))⟩,
    ⟨(some 49), 0, none, (.op (.slice 1 (.t 45) none (some (.t 48))))⟩,
    ⟨(some 50), 0, none, (.op (.len false (.t 49)))⟩,
    ⟨(some 51), 0, none, (.op (.mov (.k (.d (.int .i64 0)))))⟩])
  (.block 2
   (.loop
    (.seq (.reg 0 [⟨(some 52), 0, none, (.op (.bin .lss (.t 51) (.t 50)))⟩])
    (.seq (.cond (.t 52)
      (.skip)
      (.exit 2))
    (.seq (.block 3
     (.seq (.reg 0 [⟨(some 53), 0, none, (.op (.idxA 1 none (.t 49) (.t 51)))⟩,
       ⟨(some 54), 0, none, (.op (.load false 1 (.t 53)))⟩,
       ⟨(some 13), 0, none, (.op (.mov (.t 54)))⟩])
     (.seq (.reg 0 [⟨(some 55), 0, none, (.op (.load true 3 (.t 9)))⟩,
       ⟨(some 56), 0, none, (.op (.load true 3 (.t 4)))⟩,
       ⟨(some 57), 0, none, (.call (.k (.fn (.func 20) [] [])) [(.t 55), (.t 56)])⟩,
       ⟨(some 14), 0, none, (.op (.mov (.t 57)))⟩])
     (.seq (.reg 1 [⟨(some 59), 0, none, (.op (.load true 3 (.t 9)))⟩,
       ⟨(some 60), 0, none, (.op (.mov (.t 13)))⟩,
       ⟨(some 61), 0, none, (.call (.k (.fn (.func 22) [] [])) [(.t 59), (.t 60)])⟩,
       ⟨(some 58), 0, none, (.op (.mov (.t 61)))⟩,
       ⟨(some 62), 0, none, (.op (.ext (.t 58) 0))⟩,
       ⟨(some 63), 0, none, (.op (.ext (.t 58) 1))⟩,
       ⟨(some 15), 0, none, (.op (.alloc [.nils, (.int .i64 0), (.int .i64 0)]))⟩,
       ⟨none, 1, none, (.op (.store 3 (.t 15) (.t 62)))⟩,
       ⟨(some 16), 1, none, (.op (.mov (.t 63)))⟩])
     (.seq (.seq (.reg 0 [⟨(some 64), 0, none, (.op (.fldA 2 (.t 9)))⟩,
       ⟨(some 65), 0, none, (.op (.load false 1 (.t 64)))⟩,
       ⟨(some 66), 0, none, (.op (.mov (.t 11)))⟩,
       ⟨(some 67), 0, none, (.op (.bin .neq (.t 65) (.t 66)))⟩,
       ⟨(some 68), 0, none, (.op (.mov (.t 67)))⟩,
       ⟨(some 69), 0, (some (68, false)), (.op (.mov (.t 14)))⟩,
       ⟨(some 70), 0, (some (68, false)), (.op (.len false (.t 69)))⟩,
       ⟨(some 71), 0, (some (68, false)), (.op (.bin .eql (.t 70) (.k (.d (.int .i64 0)))))⟩,
       ⟨(some 72), 0, none, (.op (.pick (.t 68) (.k (.d (.bool true))) (.t 71)))⟩,
       ⟨(some 73), 0, none, (.op (.mov (.t 72)))⟩,
       ⟨(some 74), 0, (some (73, false)), (.op (.mov (.t 16)))⟩,
       ⟨(some 75), 0, (some (73, false)), (.op (.mov (.t 74)))⟩,
       ⟨(some 76), 0, (some (75, true)), (.op (.mov (.t 14)))⟩,
       ⟨(some 77), 0, (some (75, true)), (.op (.idxA 2 none (.t 76) (.k (.d (.int .i64 0)))))⟩,
       ⟨(some 78), 0, (some (75, true)), (.op (.fldA 1 (.t 77)))⟩,
       ⟨(some 79), 0, (some (75, true)), (.op (.load false 1 (.t 78)))⟩,
       ⟨(some 80), 0, (some (75, true)), (.op (.bin .neq (.t 79) (.k (.d (.int .i64 1)))))⟩,
       ⟨(some 81), 0, (some (75, true)), (.op (.mov (.t 80)))⟩,
       ⟨(some 82), 0, (some (81, false)), (.op (.fldA 1 (.t 9)))⟩,
       ⟨(some 83), 0, (some (81, false)), (.op (.load false 1 (.t 82)))⟩,
       ⟨(some 84), 0, (some (81, false)), (.op (.bin .lss (.t 83) (.k (.d (.int .i64 0)))))⟩,
       ⟨(some 85), 0, (some (75, true)), (.op (.pick (.t 81) (.k (.d (.bool true))) (.t 84)))⟩,
       ⟨(some 86), 0, (some (75, true)), (.op (.mov (.t 85)))⟩,
       ⟨(some 87), 0, (some (86, false)), (.op (.fldA 1 (.t 9)))⟩,
       ⟨(some 88), 0, (some (86, false)), (.op (.load false 1 (.t 87)))⟩,
       ⟨(some 89), 0, (some (86, false)), (.op (.mov (.t 0)))⟩,
       ⟨(some 90), 0, (some (86, false)), (.op (.len false (.t 89)))⟩,
       ⟨(some 91), 0, (some (86, false)), (.op (.bin .geq (.t 88) (.t 90)))⟩,
       ⟨(some 92), 0, (some (75, true)), (.op (.pick (.t 86) (.k (.d (.bool true))) (.t 91)))⟩,
       ⟨(some 93), 0, (some (73, false)), (.op (.pick (.t 75) (.t 92) (.k (.d (.bool false)))))⟩,
       ⟨(some 94), 0, none, (.op (.pick (.t 73) (.k (.d (.bool true))) (.t 93)))⟩])
     (.cond (.t 94)
       (.seq (.reg 0 [⟨(some 6), 0, none, (.op (.mov (.k (.d (.bool false)))))⟩])
       (.ret))
       (.skip)))
     (.seq (.seq (.reg 0 [⟨(some 95), 0, none, (.op (.mov (.t 16)))⟩])
     (.cond (.t 95)
       (.reg 2 [⟨(some 96), 0, none, (.op (.mov (.t 10)))⟩,
         ⟨(some 97), 0, none, (.op (.mov (.t 0)))⟩,
         ⟨(some 98), 0, none, (.op (.fldA 1 (.t 9)))⟩,
         ⟨(some 99), 0, none, (.op (.load false 1 (.t 98)))⟩,
         ⟨(some 100), 0, none, (.op (.idxA 4 none (.t 97) (.t 99)))⟩,
         ⟨(some 101), 0, none, (.op (.fldA 1 (.t 100)))⟩,
         ⟨(some 102), 0, none, (.op (.load true 2 (.t 101)))⟩,
         ⟨(some 103), 0, none, (.op (.buildSl 2 1 [.nils, .nils] [(0, (.t 102))]))⟩,
         ⟨(some 104), 1, none, (.op (.append 2 48 (.t 96) (.t 103)))⟩,
         ⟨(some 10), 2, none, (.op (.mov (.t 104)))⟩])
       (.skip)))
     (.seq (.seq (.reg 0 [⟨(some 105), 0, none, (.op (.mov (.t 16)))⟩,
       ⟨(some 106), 0, none, (.op (.un .not (.t 105)))⟩,
       ⟨(some 107), 0, none, (.op (.mov (.t 106)))⟩,
       ⟨(some 108), 0, (some (107, true)), (.op (.mov (.t 14)))⟩,
       ⟨(some 109), 0, (some (107, true)), (.op (.idxA 2 none (.t 108) (.k (.d (.int .i64 0)))))⟩,
       ⟨(some 110), 0, (some (107, true)), (.op (.fldA 1 (.t 109)))⟩,
       ⟨(some 111), 0, (some (107, true)), (.op (.load false 1 (.t 110)))⟩,
       ⟨(some 112), 0, (some (107, true)), (.op (.bin .eql (.t 111) (.k (.d (.int .i64 1)))))⟩,
       ⟨(some 113), 0, none, (.op (.pick (.t 107) (.t 112) (.k (.d (.bool false)))))⟩])
     (.cond (.t 113)
       (.seq (.reg 0 [⟨(some 114), 0, none, (.op (.mov (.t 11)))⟩,
         ⟨(some 115), 0, none, (.op (.bin .add (.t 114) (.k (.d (.int .i64 1)))))⟩,
         ⟨(some 11), 0, none, (.op (.mov (.t 115)))⟩])
       (.seq (.reg 0 [⟨(some 116), 0, none, (.op (.fldA 1 (.t 15)))⟩,
         ⟨(some 117), 0, none, (.op (.load false 1 (.t 116)))⟩,
         ⟨(some 118), 0, none, (.op (.fldA 1 (.t 9)))⟩,
         ⟨(some 119), 0, none, (.op (.load false 1 (.t 118)))⟩,
         ⟨(some 120), 0, none, (.op (.bin .neq (.t 117) (.t 119)))⟩,
         ⟨(some 121), 0, none, (.op (.mov (.t 120)))⟩,
         ⟨(some 122), 0, (some (121, false)), (.op (.load true 3 (.t 15)))⟩,
         ⟨(some 123), 0, (some (121, false)), (.op (.load true 3 (.t 4)))⟩,
         ⟨(some 124), 0, (some (121, false)), (.call (.k (.fn (.func 20) [] [])) [(.t 122), (.t 123)])⟩,
         ⟨(some 125), 0, (some (121, false)), (.op (.mov (.t 14)))⟩,
         ⟨(some 126), 0, (some (121, false)), (.call (.k (.fn (.func 19) [] [])) [(.t 124), (.t 125)])⟩,
         ⟨(some 127), 0, (some (121, false)), (.op (.un .not (.t 126)))⟩,
         ⟨(some 128), 0, none, (.op (.pick (.t 121) (.k (.d (.bool true))) (.t 127)))⟩])
       (.cond (.t 128)
         (.seq (.reg 0 [⟨(some 6), 0, none, (.op (.mov (.k (.d (.bool false)))))⟩])
         (.ret))
         (.skip))))
       (.reg 0 [⟨(some 11), 0, none, (.op (.mov (.k (.d (.int .i64 0)))))⟩])))
     (.seq (.reg 0 [⟨(some 129), 0, none, (.op (.load true 3 (.t 15)))⟩,
       ⟨none, 0, none, (.op (.store 3 (.t 9) (.t 129)))⟩])
     (.seq (.reg 0 [⟨(some 130), 0, none, (.op (.load true 3 (.t 9)))⟩,
       ⟨(some 131), 0, none, (.call (.k (.fn (.func 16) [] [])) [(.t 130)])⟩,
       ⟨(some 132), 0, none, (.op (.mov (.t 10)))⟩,
       ⟨(some 133), 0, none, (.call (.k (.fn (.func 15) [] [])) [(.t 131), (.t 132)])⟩,
       ⟨(some 134), 0, none, (.op (.un .not (.t 133)))⟩])
     (.cond (.t 134)
       (.seq (.reg 0 [⟨(some 6), 0, none, (.op (.mov (.k (.d (.bool false)))))⟩])
       (.ret))
       (.skip)))))))))))
    (.reg 0 [⟨(some 135), 0, none, (.op (.bin .add (.t 51) (.k (.d (.int .i64 1)))))⟩,
      ⟨(some 51), 0, none, (.op (.mov (.t 135)))⟩])))))))
  (.seq (.reg 0 [⟨(some 136), 0, none, (.op (.mov (.t 0)))⟩,
    ⟨(some 137), 0, none, (.call (.k (.fn (.func 8) [] [])) [(.t 136)])⟩,
    ⟨none, 0, none, (.op (.store 3 (.t 9) (.t 137)))⟩])
  (.seq (.seq (.reg 0 [⟨(some 17), 0, none, (.op (.mov (.k (.d (.int .i64 0)))))⟩])
  (.block 4
   (.loop
    (.seq (.seq (.reg 0 [⟨(some 138), 0, none, (.op (.mov (.t 17)))⟩,
      ⟨(some 139), 0, none, (.op (.mov (.t 0)))⟩,
      ⟨(some 140), 0, none, (.op (.len false (.t 139)))⟩,
      ⟨(some 141), 0, none, (.op (.bin .lss (.t 138) (.t 140)))⟩])
    (.cond (.t 141)
      (.skip)
      (.exit 4)))
    (.seq (.block 5
     (.seq (.seq (.reg 0 [⟨(some 144), 0, none, (.op (.load true 3 (.t 9)))⟩,
       ⟨(some 145), 0, none, (.call (.k (.fn (.func 13) [] [])) [(.t 144)])⟩])
     (.cond (.t 145)
       (.seq (.reg 0 [⟨(some 6), 0, none, (.op (.mov (.k (.d (.bool false)))))⟩])
       (.ret))
       (.skip)))
     (.reg 0 [⟨(some 147), 0, none, (.op (.load true 3 (.t 9)))⟩,
       ⟨(some 148), 0, none, (.call (.k (.fn (.func 22) [] [])) [(.t 147), (.k (.d (.bool true)))])⟩,
       ⟨(some 146), 0, none, (.op (.mov (.t 148)))⟩,
       ⟨(some 149), 0, none, (.op (.ext (.t 146) 0))⟩,
       ⟨(some 150), 0, none, (.op (.ext (.t 146) 1))⟩,
       ⟨none, 0, none, (.op (.store 3 (.t 9) (.t 149)))⟩])))
    (.reg 0 [⟨(some 142), 0, none, (.op (.mov (.t 17)))⟩,
      ⟨(some 143), 0, none, (.op (.bin .add (.t 142) (.k (.d (.int .i64 1)))))⟩,
      ⟨(some 17), 0, none, (.op (.mov (.t 143)))⟩]))))))
  (.seq (.reg 0 [⟨(some 18), 0, none, (.op (.mov (.k (.d .nils))))⟩])
  (.seq (.seq (.reg 0 [⟨(some 151), 0, none, (.op (.mov (.t 0)))⟩,
    ⟨(some 152), 0, none, (.op (.len false (.t 151)))⟩,
    ⟨(some 153), 0, none, (.op (.mov (.k (.d (.int .i64 0)))))⟩])
  (.block 6
   (.loop
    (.seq (.reg 0 [⟨(some 154), 0, none, (.op (.bin .lss (.t 153) (.t 152)))⟩])
    (.seq (.cond (.t 154)
      (.skip)
      (.exit 6))
    (.seq (.block 7
     (.seq (.reg 1 [⟨(some 155), 0, none, (.op (.idxA 4 none (.t 151) (.t 153)))⟩,
       ⟨(some 156), 0, none, (.op (.load true 4 (.t 155)))⟩,
       ⟨(some 20), 0, none, (.op (.alloc [(.bool false), .nils, .nils, (.str [])]))⟩,
       ⟨none, 1, none, (.op (.store 4 (.t 20) (.t 156)))⟩])
     (.seq (.reg 0 [⟨(some 157), 0, none, (.op (.fldA 0 (.t 20)))⟩,
       ⟨(some 158), 0, none, (.op (.load false 1 (.t 157)))⟩,
       ⟨(some 159), 0, none, (.op (.un .not (.t 158)))⟩])
     (.cond (.t 159)
       (.reg 2 [⟨(some 160), 0, none, (.op (.mov (.t 18)))⟩,
         ⟨(some 161), 0, none, (.op (.fldA 1 (.t 20)))⟩,
         ⟨(some 162), 0, none, (.op (.load true 2 (.t 161)))⟩,
         ⟨(some 163), 0, none, (.op (.buildSl 2 1 [.nils, .nils] [(0, (.t 162))]))⟩,
         ⟨(some 164), 1, none, (.op (.append 2 48 (.t 160) (.t 163)))⟩,
         ⟨(some 18), 2, none, (.op (.mov (.t 164)))⟩])
       (.skip)))))
    (.reg 0 [⟨(some 165), 0, none, (.op (.bin .add (.t 153) (.k (.d (.int .i64 1)))))⟩,
      ⟨(some 153), 0, none, (.op (.mov (.t 165)))⟩])))))))
  (.seq (.reg 0 [⟨(some 166), 0, none, (.op (.load true 3 (.t 9)))⟩,
    ⟨(some 167), 0, none, (.call (.k (.fn (.func 13) [] [])) [(.t 166)])⟩,
    ⟨(some 168), 0, none, (.op (.mov (.t 167)))⟩,
    ⟨(some 169), 0, (some (168, true)), (.op (.load true 3 (.t 9)))⟩,
    ⟨(some 170), 0, (some (168, true)), (.call (.k (.fn (.func 16) [] [])) [(.t 169)])⟩,
    ⟨(some 171), 0, (some (168, true)), (.op (.mov (.t 18)))⟩,
    ⟨(some 172), 0, (some (168, true)), (.call (.k (.fn (.func 15) [] [])) [(.t 170), (.t 171)])⟩,
    ⟨(some 173), 0, none, (.op (.pick (.t 168) (.t 172) (.k (.d (.bool false)))))⟩,
    ⟨(some 174), 0, none, (.op (.mov (.t 173)))⟩,
    ⟨(some 175), 0, (some (174, true)), (.call (.k (.fn (.func 18) [] [])) [])⟩,
    ⟨(some 176), 0, none, (.op (.pick (.t 174) (.t 175) (.k (.d (.bool false)))))⟩,
    ⟨(some 6), 0, none, (.op (.mov (.t 176)))⟩])
  (.ret))))))))))))
theorem cc6 : Tryd.f6.body.bind (compC Tryd.prog) = some ac6 := by kernel_rfl
theorem go6 {vals : List V} {v : V} (ac : AC) (he : ac.erase = ac6) (hw : wpC Tryd.prog 0 ac (retQ [.tmp 6] v) ⟨vals ++ List.replicate (177 - vals.length) (.tup []), []⟩) : CallP Tryd.prog 6 vals v :=
  call_of Tryd.func6 rfl rfl rfl (cc6.trans (congrArg some he.symm)) hw
theorem gi6 {vals : List V} {rows : Go.Vx.Rows} {K : V → Go.Vx.Rows → Prop} (ac : AC) (he : ac.erase = ac6) (hw : wpC Tryd.prog rows.length ac (retI [.tmp 6] K) ⟨vals ++ List.replicate (177 - vals.length) (.tup []), rows⟩) : InlP Tryd.prog 6 vals rows K :=
  inl_of' Tryd.func6 rfl rfl rfl (cc6.trans (congrArg some he.symm)) hw
theorem gm6 {vals : List V} {v : V} {sz : Nat} {es es' : List (List V)} (ac : AC) (he : ac.erase = ac6) (hw : wpC Tryd.prog 1 ac (retM [.tmp 6] v sz es') ⟨vals ++ List.replicate (177 - vals.length) (.tup []), [.live sz es]⟩) : CallM Tryd.prog 6 vals sz es v es' :=
  callM_of' Tryd.func6 rfl rfl rfl (cc6.trans (congrArg some he.symm)) hw

/-- testbench/testbenchlaw36.DriverKeeps -/
def ac7 : AC :=
  .seq (.reg 1 [⟨(some 2), 0, none, (.op (.box 3 (.t 0)))⟩,
    ⟨(some 4), 1, none, (.op (.mov (.k (.d (.bool false)))))⟩])
  (.seq (.reg 1 [⟨(some 8), 0, none, (.op (.load true 3 (.t 2)))⟩,
    ⟨(some 9), 0, none, (.op (.mov (.t 1)))⟩,
    ⟨(some 10), 0, none, (.call (.k (.fn (.func 22) [] [])) [(.t 8), (.t 9)])⟩,
    ⟨(some 7), 0, none, (.op (.mov (.t 10)))⟩,
    ⟨(some 11), 0, none, (.op (.ext (.t 7) 0))⟩,
    ⟨(some 12), 0, none, (.op (.ext (.t 7) 1))⟩,
    ⟨(some 5), 0, none, (.op (.alloc [.nils, (.int .i64 0), (.int .i64 0)]))⟩,
    ⟨none, 1, none, (.op (.store 3 (.t 5) (.t 11)))⟩,
    ⟨(some 6), 1, none, (.op (.mov (.t 12)))⟩])
  (.seq (.seq (.reg 0 [⟨(some 13), 0, none, (.op (.load true 3 (.t 2)))⟩,
    ⟨(some 14), 0, none, (.call (.k (.fn (.func 12) [] [])) [(.t 13)])⟩,
    ⟨(some 15), 0, none, (.op (.un .not (.t 14)))⟩,
    ⟨(some 16), 0, none, (.op (.mov (.t 15)))⟩,
    ⟨(some 17), 0, (some (16, false)), (.op (.load true 3 (.t 2)))⟩,
    ⟨(some 18), 0, (some (16, false)), (.call (.k (.fn (.func 14) [] [])) [(.t 17)])⟩,
    ⟨(some 19), 0, none, (.op (.pick (.t 16) (.k (.d (.bool true))) (.t 18)))⟩])
  (.cond (.t 19)
    (.seq (.reg 0 [⟨(some 20), 0, none, (.op (.mov (.t 6)))⟩,
      ⟨(some 21), 0, none, (.op (.un .not (.t 20)))⟩,
      ⟨(some 22), 0, none, (.op (.mov (.t 21)))⟩,
      ⟨(some 23), 0, (some (22, true)), (.op (.load true 3 (.t 5)))⟩,
      ⟨(some 24), 0, (some (22, true)), (.op (.load true 3 (.t 2)))⟩,
      ⟨(some 25), 0, (some (22, true)), (.call (.k (.fn (.func 9) [] [])) [(.t 23), (.t 24)])⟩,
      ⟨(some 26), 0, none, (.op (.pick (.t 22) (.t 25) (.k (.d (.bool false)))))⟩,
      ⟨(some 27), 0, none, (.op (.mov (.t 26)))⟩,
      ⟨(some 28), 0, (some (27, true)), (.call (.k (.fn (.func 18) [] [])) [])⟩,
      ⟨(some 29), 0, none, (.op (.pick (.t 27) (.t 28) (.k (.d (.bool false)))))⟩,
      ⟨(some 4), 0, none, (.op (.mov (.t 29)))⟩])
    (.ret))
    (.skip)))
  (.seq (.reg 0 [⟨(some 30), 0, none, (.op (.load true 3 (.t 5)))⟩,
    ⟨(some 31), 0, none, (.call (.k (.fn (.func 12) [] [])) [(.t 30)])⟩,
    ⟨(some 32), 0, none, (.op (.mov (.t 31)))⟩,
    ⟨(some 33), 0, (some (32, true)), (.op (.fldA 1 (.t 5)))⟩,
    ⟨(some 34), 0, (some (32, true)), (.op (.load false 1 (.t 33)))⟩,
    ⟨(some 35), 0, (some (32, true)), (.op (.fldA 1 (.t 2)))⟩,
    ⟨(some 36), 0, (some (32, true)), (.op (.load false 1 (.t 35)))⟩,
    ⟨(some 37), 0, (some (32, true)), (.op (.bin .geq (.t 34) (.t 36)))⟩,
    ⟨(some 38), 0, none, (.op (.pick (.t 32) (.t 37) (.k (.d (.bool false)))))⟩,
    ⟨(some 39), 0, none, (.op (.mov (.t 38)))⟩,
    ⟨(some 40), 0, (some (39, true)), (.op (.fldA 1 (.t 5)))⟩,
    ⟨(some 41), 0, (some (39, true)), (.op (.load false 1 (.t 40)))⟩,
    ⟨(some 42), 0, (some (39, true)), (.op (.fldA 1 (.t 2)))⟩,
    ⟨(some 43), 0, (some (39, true)), (.op (.load false 1 (.t 42)))⟩,
    ⟨(some 44), 0, (some (39, true)), (.op (.bin .add (.t 43) (.k (.d (.int .i64 1)))))⟩,
    ⟨(some 45), 0, (some (39, true)), (.op (.bin .leq (.t 41) (.t 44)))⟩,
    ⟨(some 46), 0, none, (.op (.pick (.t 39) (.t 45) (.k (.d (.bool false)))))⟩,
    ⟨(some 47), 0, none, (.op (.mov (.t 46)))⟩,
    ⟨(some 48), 0, (some (47, true)), (.op (.mov (.t 6)))⟩,
    ⟨(some 49), 0, (some (47, true)), (.op (.mov (.t 1)))⟩,
    ⟨(some 50), 0, (some (47, true)), (.op (.mov (.t 49)))⟩,
    ⟨(some 51), 0, (some (50, true)), (.op (.fldA 0 (.t 2)))⟩,
    ⟨(some 52), 0, (some (50, true)), (.op (.load false 1 (.t 51)))⟩,
    ⟨(some 53), 0, (some (50, true)), (.op (.fldA 1 (.t 2)))⟩,
    ⟨(some 54), 0, (some (50, true)), (.op (.load false 1 (.t 53)))⟩,
    ⟨(some 55), 0, (some (50, true)), (.op (.idxA 4 none (.t 52) (.t 54)))⟩,
    ⟨(some 56), 0, (some (50, true)), (.op (.fldA 0 (.t 55)))⟩,
    ⟨(some 57), 0, (some (50, true)), (.op (.load false 1 (.t 56)))⟩,
    ⟨(some 58), 0, (some (50, true)), (.op (.un .not (.t 57)))⟩,
    ⟨(some 59), 0, (some (47, true)), (.op (.pick (.t 50) (.t 58) (.k (.d (.bool false)))))⟩,
    ⟨(some 60), 0, (some (47, true)), (.op (.eqB false (.t 48) (.t 59)))⟩,
    ⟨(some 61), 0, none, (.op (.pick (.t 47) (.t 60) (.k (.d (.bool false)))))⟩,
    ⟨(some 62), 0, none, (.op (.mov (.t 61)))⟩,
    ⟨(some 63), 0, (some (62, true)), (.call (.k (.fn (.func 18) [] [])) [])⟩,
    ⟨(some 64), 0, none, (.op (.pick (.t 62) (.t 63) (.k (.d (.bool false)))))⟩,
    ⟨(some 4), 0, none, (.op (.mov (.t 64)))⟩])
  (.ret))))
theorem cc7 : Tryd.f7.body.bind (compC Tryd.prog) = some ac7 := by kernel_rfl
theorem go7 {vals : List V} {v : V} (ac : AC) (he : ac.erase = ac7) (hw : wpC Tryd.prog 0 ac (retQ [.tmp 4] v) ⟨vals ++ List.replicate (65 - vals.length) (.tup []), []⟩) : CallP Tryd.prog 7 vals v :=
  call_of Tryd.func7 rfl rfl rfl (cc7.trans (congrArg some he.symm)) hw
theorem gi7 {vals : List V} {rows : Go.Vx.Rows} {K : V → Go.Vx.Rows → Prop} (ac : AC) (he : ac.erase = ac7) (hw : wpC Tryd.prog rows.length ac (retI [.tmp 4] K) ⟨vals ++ List.replicate (65 - vals.length) (.tup []), rows⟩) : InlP Tryd.prog 7 vals rows K :=
  inl_of' Tryd.func7 rfl rfl rfl (cc7.trans (congrArg some he.symm)) hw
theorem gm7 {vals : List V} {v : V} {sz : Nat} {es es' : List (List V)} (ac : AC) (he : ac.erase = ac7) (hw : wpC Tryd.prog 1 ac (retM [.tmp 4] v sz es') ⟨vals ++ List.replicate (65 - vals.length) (.tup []), [.live sz es]⟩) : CallM Tryd.prog 7 vals sz es v es' :=
  callM_of' Tryd.func7 rfl rfl rfl (cc7.trans (congrArg some he.symm)) hw

/-- testbench/driver.Start -/
def ac8 : AC :=
  .seq (.reg 1 [⟨(some 2), 0, none, (.op (.alloc [.nils, (.int .i64 0), (.int .i64 0)]))⟩])
  (.seq (.reg 0 [⟨(some 3), 0, none, (.op (.mov (.t 0)))⟩,
    ⟨(some 4), 0, none, (.call (.k (.fn (.func 25) [] [])) [(.t 3)])⟩,
    ⟨(some 5), 0, none, (.op (.build [.nils, (.int .i64 0), (.int .i64 0)] [(0, 1, (.t 4))]))⟩,
    ⟨none, 0, none, (.op (.store 3 (.t 2) (.t 5)))⟩])
  (.ret))
theorem cc8 : Tryd.f8.body.bind (compC Tryd.prog) = some ac8 := by kernel_rfl
theorem go8 {vals : List V} {v : V} (ac : AC) (he : ac.erase = ac8) (hw : wpC Tryd.prog 0 ac (retQ [.cell 2 true 3] v) ⟨vals ++ List.replicate (6 - vals.length) (.tup []), []⟩) : CallP Tryd.prog 8 vals v :=
  call_of Tryd.func8 rfl rfl rfl (cc8.trans (congrArg some he.symm)) hw
theorem gi8 {vals : List V} {rows : Go.Vx.Rows} {K : V → Go.Vx.Rows → Prop} (ac : AC) (he : ac.erase = ac8) (hw : wpC Tryd.prog rows.length ac (retI [.cell 2 true 3] K) ⟨vals ++ List.replicate (6 - vals.length) (.tup []), rows⟩) : InlP Tryd.prog 8 vals rows K :=
  inl_of' Tryd.func8 rfl rfl rfl (cc8.trans (congrArg some he.symm)) hw
theorem gm8 {vals : List V} {v : V} {sz : Nat} {es es' : List (List V)} (ac : AC) (he : ac.erase = ac8) (hw : wpC Tryd.prog 1 ac (retM [.cell 2 true 3] v sz es') ⟨vals ++ List.replicate (6 - vals.length) (.tup []), [.live sz es]⟩) : CallM Tryd.prog 8 vals sz es v es' :=
  callM_of' Tryd.func8 rfl rfl rfl (cc8.trans (congrArg some he.symm)) hw

/-- testbench/testbenchref36.Same -/
def ac9 : AC :=
  .seq (.reg 2 [⟨(some 2), 0, none, (.op (.box 3 (.t 0)))⟩,
    ⟨(some 3), 1, none, (.op (.box 3 (.t 1)))⟩,
    ⟨(some 4), 2, none, (.op (.mov (.k (.d (.bool false)))))⟩])
  (.seq (.seq (.reg 0 [⟨(some 8), 0, none, (.op (.fldA 1 (.t 2)))⟩,
    ⟨(some 9), 0, none, (.op (.load false 1 (.t 8)))⟩,
    ⟨(some 10), 0, none, (.op (.fldA 1 (.t 3)))⟩,
    ⟨(some 11), 0, none, (.op (.load false 1 (.t 10)))⟩,
    ⟨(some 12), 0, none, (.op (.bin .neq (.t 9) (.t 11)))⟩,
    ⟨(some 13), 0, none, (.op (.mov (.t 12)))⟩,
    ⟨(some 14), 0, (some (13, false)), (.op (.fldA 2 (.t 2)))⟩,
    ⟨(some 15), 0, (some (13, false)), (.op (.load false 1 (.t 14)))⟩,
    ⟨(some 16), 0, (some (13, false)), (.op (.fldA 2 (.t 3)))⟩,
    ⟨(some 17), 0, (some (13, false)), (.op (.load false 1 (.t 16)))⟩,
    ⟨(some 18), 0, (some (13, false)), (.op (.bin .neq (.t 15) (.t 17)))⟩,
    ⟨(some 19), 0, none, (.op (.pick (.t 13) (.k (.d (.bool true))) (.t 18)))⟩,
    ⟨(some 20), 0, none, (.op (.mov (.t 19)))⟩,
    ⟨(some 21), 0, (some (20, false)), (.op (.fldA 0 (.t 2)))⟩,
    ⟨(some 22), 0, (some (20, false)), (.op (.load false 1 (.t 21)))⟩,
    ⟨(some 23), 0, (some (20, false)), (.op (.len false (.t 22)))⟩,
    ⟨(some 24), 0, (some (20, false)), (.op (.fldA 0 (.t 3)))⟩,
    ⟨(some 25), 0, (some (20, false)), (.op (.load false 1 (.t 24)))⟩,
    ⟨(some 26), 0, (some (20, false)), (.op (.len false (.t 25)))⟩,
    ⟨(some 27), 0, (some (20, false)), (.op (.bin .neq (.t 23) (.t 26)))⟩,
    ⟨(some 28), 0, none, (.op (.pick (.t 20) (.k (.d (.bool true))) (.t 27)))⟩])
  (.cond (.t 28)
    (.seq (.reg 0 [⟨(some 4), 0, none, (.op (.mov (.k (.d (.bool false)))))⟩])
    (.ret))
    (.skip)))
  (.seq (.seq (.reg 0 [⟨(some 5), 0, none, (.op (.mov (.k (.d (.int .i64 0)))))⟩])
  (.block 0
   (.loop
    (.seq (.seq (.reg 0 [⟨(some 29), 0, none, (.op (.mov (.t 5)))⟩,
      ⟨(some 30), 0, none, (.op (.fldA 0 (.t 2)))⟩,
      ⟨(some 31), 0, none, (.op (.load false 1 (.t 30)))⟩,
      ⟨(some 32), 0, none, (.op (.len false (.t 31)))⟩,
      ⟨(some 33), 0, none, (.op (.bin .lss (.t 29) (.t 32)))⟩])
    (.cond (.t 33)
      (.skip)
      (.exit 0)))
    (.seq (.block 1
     (.seq (.regD 2 [(⟨(some 36), 0, none, (.op (.fldA 0 (.t 2)))⟩, []),
       (⟨(some 37), 0, none, (.op (.load false 1 (.t 36)))⟩, [0]),
       (⟨(some 38), 0, none, (.op (.mov (.t 5)))⟩, []),
       (⟨(some 39), 0, none, (.op (.idxA 4 none (.t 37) (.t 38)))⟩, [1, 0, 2]),
       (⟨(some 40), 0, none, (.op (.load true 4 (.t 39)))⟩, [3, 1, 0, 2]),
       (⟨(some 41), 0, none, (.op (.fldA 0 (.t 3)))⟩, []),
       (⟨(some 42), 0, none, (.op (.load false 1 (.t 41)))⟩, [5]),
       (⟨(some 43), 0, none, (.op (.mov (.t 5)))⟩, []),
       (⟨(some 44), 0, none, (.op (.idxA 4 none (.t 42) (.t 43)))⟩, [6, 5, 7]),
       (⟨(some 45), 0, none, (.op (.load true 4 (.t 44)))⟩, [8, 6, 5, 7]),
       (⟨(some 6), 0, none, (.op (.alloc [(.bool false), .nils, .nils, (.str [])]))⟩, []),
       (⟨(some 7), 1, none, (.op (.alloc [(.bool false), .nils, .nils, (.str [])]))⟩, []),
       (⟨none, 2, none, (.op (.store 4 (.t 6) (.t 40)))⟩, [10, 4, 3, 1, 0, 2, 11]),
       (⟨none, 2, none, (.op (.store 4 (.t 7) (.t 45)))⟩, [11, 9, 8, 6, 5, 7, 12, 10, 4, 3, 1, 0, 2])])
     (.seq (.reg 0 [⟨(some 46), 0, none, (.op (.fldA 0 (.t 6)))⟩,
       ⟨(some 47), 0, none, (.op (.load false 1 (.t 46)))⟩,
       ⟨(some 48), 0, none, (.op (.fldA 0 (.t 7)))⟩,
       ⟨(some 49), 0, none, (.op (.load false 1 (.t 48)))⟩,
       ⟨(some 50), 0, none, (.op (.eqB true (.t 47) (.t 49)))⟩,
       ⟨(some 51), 0, none, (.op (.mov (.t 50)))⟩,
       ⟨(some 52), 0, (some (51, false)), (.op (.fldA 3 (.t 6)))⟩,
       ⟨(some 53), 0, (some (51, false)), (.op (.load false 1 (.t 52)))⟩,
       ⟨(some 54), 0, (some (51, false)), (.op (.fldA 3 (.t 7)))⟩,
       ⟨(some 55), 0, (some (51, false)), (.op (.load false 1 (.t 54)))⟩,
       ⟨(some 56), 0, (some (51, false)), (.op (.bin .neq (.t 53) (.t 55)))⟩,
       ⟨(some 57), 0, none, (.op (.pick (.t 51) (.k (.d (.bool true))) (.t 56)))⟩,
       ⟨(some 58), 0, none, (.op (.mov (.t 57)))⟩,
       ⟨(some 59), 0, (some (58, false)), (.op (.fldA 1 (.t 6)))⟩,
       ⟨(some 60), 0, (some (58, false)), (.op (.load true 2 (.t 59)))⟩,
       ⟨(some 61), 0, (some (58, false)), (.op (.fldA 1 (.t 7)))⟩,
       ⟨(some 62), 0, (some (58, false)), (.op (.load true 2 (.t 61)))⟩,
       ⟨(some 63), 0, (some (58, false)), (.call (.k (.fn (.func 26) [] [])) [(.t 60), (.t 62)])⟩,
       ⟨(some 64), 0, (some (58, false)), (.op (.un .not (.t 63)))⟩,
       ⟨(some 65), 0, none, (.op (.pick (.t 58) (.k (.d (.bool true))) (.t 64)))⟩])
     (.cond (.t 65)
       (.seq (.reg 0 [⟨(some 4), 0, none, (.op (.mov (.k (.d (.bool false)))))⟩])
       (.ret))
       (.skip)))))
    (.reg 0 [⟨(some 34), 0, none, (.op (.mov (.t 5)))⟩,
      ⟨(some 35), 0, none, (.op (.bin .add (.t 34) (.k (.d (.int .i64 1)))))⟩,
      ⟨(some 5), 0, none, (.op (.mov (.t 35)))⟩]))))))
  (.seq (.reg 0 [⟨(some 4), 0, none, (.op (.mov (.k (.d (.bool true)))))⟩])
  (.ret))))
theorem cc9 : Tryd.f9.body.bind (compC Tryd.prog) = some ac9 := by kernel_rfl
theorem go9 {vals : List V} {v : V} (ac : AC) (he : ac.erase = ac9) (hw : wpC Tryd.prog 0 ac (retQ [.tmp 4] v) ⟨vals ++ List.replicate (66 - vals.length) (.tup []), []⟩) : CallP Tryd.prog 9 vals v :=
  call_of Tryd.func9 rfl rfl rfl (cc9.trans (congrArg some he.symm)) hw
theorem gi9 {vals : List V} {rows : Go.Vx.Rows} {K : V → Go.Vx.Rows → Prop} (ac : AC) (he : ac.erase = ac9) (hw : wpC Tryd.prog rows.length ac (retI [.tmp 4] K) ⟨vals ++ List.replicate (66 - vals.length) (.tup []), rows⟩) : InlP Tryd.prog 9 vals rows K :=
  inl_of' Tryd.func9 rfl rfl rfl (cc9.trans (congrArg some he.symm)) hw
theorem gm9 {vals : List V} {v : V} {sz : Nat} {es es' : List (List V)} (ac : AC) (he : ac.erase = ac9) (hw : wpC Tryd.prog 1 ac (retM [.tmp 4] v sz es') ⟨vals ++ List.replicate (66 - vals.length) (.tup []), [.live sz es]⟩) : CallM Tryd.prog 9 vals sz es v es' :=
  callM_of' Tryd.func9 rfl rfl rfl (cc9.trans (congrArg some he.symm)) hw

/-- testbench/testbenchref36.Start -/
def ac10 : AC :=
  .seq (.reg 1 [⟨(some 2), 0, none, (.op (.alloc [.nils, (.int .i64 0), (.int .i64 0)]))⟩])
  (.seq (.reg 2 [⟨(some 3), 0, none, (.op (.buildSl 4 0 [(.bool false), .nils, .nils, (.str [])] []))⟩,
    ⟨(some 4), 1, none, (.op (.mov (.t 0)))⟩,
    ⟨(some 5), 1, none, (.op (.append 4 72 (.t 3) (.t 4)))⟩,
    ⟨(some 6), 2, none, (.op (.build [.nils, (.int .i64 0), (.int .i64 0)] [(0, 1, (.t 5))]))⟩,
    ⟨none, 2, none, (.op (.store 3 (.t 2) (.t 6)))⟩])
  (.ret))
theorem cc10 : Tryd.f10.body.bind (compC Tryd.prog) = some ac10 := by kernel_rfl
theorem go10 {vals : List V} {v : V} (ac : AC) (he : ac.erase = ac10) (hw : wpC Tryd.prog 0 ac (retQ [.cell 2 true 3] v) ⟨vals ++ List.replicate (7 - vals.length) (.tup []), []⟩) : CallP Tryd.prog 10 vals v :=
  call_of Tryd.func10 rfl rfl rfl (cc10.trans (congrArg some he.symm)) hw
theorem gi10 {vals : List V} {rows : Go.Vx.Rows} {K : V → Go.Vx.Rows → Prop} (ac : AC) (he : ac.erase = ac10) (hw : wpC Tryd.prog rows.length ac (retI [.cell 2 true 3] K) ⟨vals ++ List.replicate (7 - vals.length) (.tup []), rows⟩) : InlP Tryd.prog 10 vals rows K :=
  inl_of' Tryd.func10 rfl rfl rfl (cc10.trans (congrArg some he.symm)) hw
theorem gm10 {vals : List V} {v : V} {sz : Nat} {es es' : List (List V)} (ac : AC) (he : ac.erase = ac10) (hw : wpC Tryd.prog 1 ac (retM [.cell 2 true 3] v sz es') ⟨vals ++ List.replicate (7 - vals.length) (.tup []), [.live sz es]⟩) : CallM Tryd.prog 10 vals sz es v es' :=
  callM_of' Tryd.func10 rfl rfl rfl (cc10.trans (congrArg some he.symm)) hw

/-- testbench/driver.Valid -/
def ac11 : AC :=
  .seq (.reg 1 [⟨(some 1), 0, none, (.op (.box 3 (.t 0)))⟩,
    ⟨(some 2), 1, none, (.op (.mov (.k (.d (.bool false)))))⟩])
  (.seq (.seq (.reg 0 [⟨(some 3), 0, none, (.op (.fldA 1 (.t 1)))⟩,
    ⟨(some 4), 0, none, (.op (.load false 1 (.t 3)))⟩,
    ⟨(some 5), 0, none, (.op (.bin .lss (.t 4) (.k (.d (.int .i64 0)))))⟩,
    ⟨(some 6), 0, none, (.op (.mov (.t 5)))⟩,
    ⟨(some 7), 0, (some (6, false)), (.op (.fldA 1 (.t 1)))⟩,
    ⟨(some 8), 0, (some (6, false)), (.op (.load false 1 (.t 7)))⟩,
    ⟨(some 9), 0, (some (6, false)), (.op (.fldA 0 (.t 1)))⟩,
    ⟨(some 10), 0, (some (6, false)), (.op (.load false 1 (.t 9)))⟩,
    ⟨(some 11), 0, (some (6, false)), (.op (.len false (.t 10)))⟩,
    ⟨(some 12), 0, (some (6, false)), (.op (.bin .gtr (.t 8) (.t 11)))⟩,
    ⟨(some 13), 0, none, (.op (.pick (.t 6) (.k (.d (.bool true))) (.t 12)))⟩,
    ⟨(some 14), 0, none, (.op (.mov (.t 13)))⟩,
    ⟨(some 15), 0, (some (14, false)), (.op (.fldA 2 (.t 1)))⟩,
    ⟨(some 16), 0, (some (14, false)), (.op (.load false 1 (.t 15)))⟩,
    ⟨(some 17), 0, (some (14, false)), (.op (.bin .lss (.t 16) (.k (.d (.int .i64 0)))))⟩,
    ⟨(some 18), 0, none, (.op (.pick (.t 14) (.k (.d (.bool true))) (.t 17)))⟩,
    ⟨(some 19), 0, none, (.op (.mov (.t 18)))⟩,
    ⟨(some 20), 0, (some (19, false)), (.op (.fldA 2 (.t 1)))⟩,
    ⟨(some 21), 0, (some (19, false)), (.op (.load false 1 (.t 20)))⟩,
    ⟨(some 22), 0, (some (19, false)), (.op (.bin .gtr (.t 21) (.k (.d (.int .i64 1099511627776)))))⟩,
    ⟨(some 23), 0, none, (.op (.pick (.t 19) (.k (.d (.bool true))) (.t 22)))⟩,
    ⟨(some 24), 0, none, (.op (.mov (.t 23)))⟩,
    ⟨(some 25), 0, (some (24, false)), (.op (.fldA 2 (.t 1)))⟩,
    ⟨(some 26), 0, (some (24, false)), (.op (.load false 1 (.t 25)))⟩,
    ⟨(some 27), 0, (some (24, false)), (.op (.bin .gtr (.t 26) (.k (.d (.int .i64 0)))))⟩,
    ⟨(some 28), 0, (some (24, false)), (.op (.mov (.t 27)))⟩,
    ⟨(some 29), 0, (some (28, true)), (.op (.load true 3 (.t 1)))⟩,
    ⟨(some 30), 0, (some (28, true)), (.call (.k (.fn (.func 27) [] [])) [(.t 29)])⟩,
    ⟨(some 31), 0, (some (28, true)), (.op (.un .not (.t 30)))⟩,
    ⟨(some 32), 0, (some (24, false)), (.op (.pick (.t 28) (.t 31) (.k (.d (.bool false)))))⟩,
    ⟨(some 33), 0, none, (.op (.pick (.t 24) (.k (.d (.bool true))) (.t 32)))⟩])
  (.cond (.t 33)
    (.seq (.reg 0 [⟨(some 2), 0, none, (.op (.mov (.k (.d (.bool false)))))⟩])
    (.ret))
    (.skip)))
  (.seq (.reg 0 [⟨(some 34), 0, none, (.op (.fldA 0 (.t 1)))⟩,
    ⟨(some 35), 0, none, (.op (.load false 1 (.t 34)))⟩,
    ⟨(some 36), 0, none, (.call (.k (.fn (.func 28) [] [])) [(.t 35), (.k (.fn (.func 29) [] []))])⟩,
    ⟨(some 37), 0, none, (.op (.un .not (.t 36)))⟩,
    ⟨(some 2), 0, none, (.op (.mov (.t 37)))⟩])
  (.ret)))
theorem cc11 : Tryd.f11.body.bind (compC Tryd.prog) = some ac11 := by kernel_rfl
theorem go11 {vals : List V} {v : V} (ac : AC) (he : ac.erase = ac11) (hw : wpC Tryd.prog 0 ac (retQ [.tmp 2] v) ⟨vals ++ List.replicate (38 - vals.length) (.tup []), []⟩) : CallP Tryd.prog 11 vals v :=
  call_of Tryd.func11 rfl rfl rfl (cc11.trans (congrArg some he.symm)) hw
theorem gi11 {vals : List V} {rows : Go.Vx.Rows} {K : V → Go.Vx.Rows → Prop} (ac : AC) (he : ac.erase = ac11) (hw : wpC Tryd.prog rows.length ac (retI [.tmp 2] K) ⟨vals ++ List.replicate (38 - vals.length) (.tup []), rows⟩) : InlP Tryd.prog 11 vals rows K :=
  inl_of' Tryd.func11 rfl rfl rfl (cc11.trans (congrArg some he.symm)) hw
theorem gm11 {vals : List V} {v : V} {sz : Nat} {es es' : List (List V)} (ac : AC) (he : ac.erase = ac11) (hw : wpC Tryd.prog 1 ac (retM [.tmp 2] v sz es') ⟨vals ++ List.replicate (38 - vals.length) (.tup []), [.live sz es]⟩) : CallM Tryd.prog 11 vals sz es v es' :=
  callM_of' Tryd.func11 rfl rfl rfl (cc11.trans (congrArg some he.symm)) hw

/-- testbench/testbenchref36.Valid -/
def ac12 : AC :=
  .seq (.reg 1 [⟨(some 1), 0, none, (.op (.box 3 (.t 0)))⟩,
    ⟨(some 2), 1, none, (.op (.mov (.k (.d (.bool false)))))⟩])
  (.seq (.seq (.reg 0 [⟨(some 4), 0, none, (.op (.fldA 1 (.t 1)))⟩,
    ⟨(some 5), 0, none, (.op (.load false 1 (.t 4)))⟩,
    ⟨(some 6), 0, none, (.op (.bin .lss (.t 5) (.k (.d (.int .i64 0)))))⟩,
    ⟨(some 7), 0, none, (.op (.mov (.t 6)))⟩,
    ⟨(some 8), 0, (some (7, false)), (.op (.fldA 1 (.t 1)))⟩,
    ⟨(some 9), 0, (some (7, false)), (.op (.load false 1 (.t 8)))⟩,
    ⟨(some 10), 0, (some (7, false)), (.op (.fldA 0 (.t 1)))⟩,
    ⟨(some 11), 0, (some (7, false)), (.op (.load false 1 (.t 10)))⟩,
    ⟨(some 12), 0, (some (7, false)), (.op (.len false (.t 11)))⟩,
    ⟨(some 13), 0, (some (7, false)), (.op (.bin .gtr (.t 9) (.t 12)))⟩,
    ⟨(some 14), 0, none, (.op (.pick (.t 7) (.k (.d (.bool true))) (.t 13)))⟩,
    ⟨(some 15), 0, none, (.op (.mov (.t 14)))⟩,
    ⟨(some 16), 0, (some (15, false)), (.op (.fldA 2 (.t 1)))⟩,
    ⟨(some 17), 0, (some (15, false)), (.op (.load false 1 (.t 16)))⟩,
    ⟨(some 18), 0, (some (15, false)), (.op (.bin .lss (.t 17) (.k (.d (.int .i64 0)))))⟩,
    ⟨(some 19), 0, none, (.op (.pick (.t 15) (.k (.d (.bool true))) (.t 18)))⟩,
    ⟨(some 20), 0, none, (.op (.mov (.t 19)))⟩,
    ⟨(some 21), 0, (some (20, false)), (.op (.fldA 2 (.t 1)))⟩,
    ⟨(some 22), 0, (some (20, false)), (.op (.load false 1 (.t 21)))⟩,
    ⟨(some 23), 0, (some (20, false)), (.op (.bin .gtr (.t 22) (.k (.d (.int .i64 1099511627776)))))⟩,
    ⟨(some 24), 0, none, (.op (.pick (.t 20) (.k (.d (.bool true))) (.t 23)))⟩])
  (.cond (.t 24)
    (.seq (.reg 0 [⟨(some 2), 0, none, (.op (.mov (.k (.d (.bool false)))))⟩])
    (.ret))
    (.skip)))
  (.seq (.seq (.reg 0 [⟨(some 3), 0, none, (.op (.mov (.k (.d (.int .i64 0)))))⟩])
  (.block 0
   (.loop
    (.seq (.seq (.reg 0 [⟨(some 25), 0, none, (.op (.mov (.t 3)))⟩,
      ⟨(some 26), 0, none, (.op (.fldA 0 (.t 1)))⟩,
      ⟨(some 27), 0, none, (.op (.load false 1 (.t 26)))⟩,
      ⟨(some 28), 0, none, (.op (.len false (.t 27)))⟩,
      ⟨(some 29), 0, none, (.op (.bin .lss (.t 25) (.t 28)))⟩])
    (.cond (.t 29)
      (.skip)
      (.exit 0)))
    (.seq (.block 1
     (.seq (.reg 0 [⟨(some 32), 0, none, (.op (.fldA 0 (.t 1)))⟩,
       ⟨(some 33), 0, none, (.op (.load false 1 (.t 32)))⟩,
       ⟨(some 34), 0, none, (.op (.mov (.t 3)))⟩,
       ⟨(some 35), 0, none, (.op (.idxA 4 none (.t 33) (.t 34)))⟩,
       ⟨(some 36), 0, none, (.op (.fldA 0 (.t 35)))⟩,
       ⟨(some 37), 0, none, (.op (.load false 1 (.t 36)))⟩,
       ⟨(some 38), 0, none, (.op (.un .not (.t 37)))⟩,
       ⟨(some 39), 0, none, (.op (.mov (.t 38)))⟩,
       ⟨(some 40), 0, (some (39, true)), (.op (.fldA 0 (.t 1)))⟩,
       ⟨(some 41), 0, (some (39, true)), (.op (.load false 1 (.t 40)))⟩,
       ⟨(some 42), 0, (some (39, true)), (.op (.mov (.t 3)))⟩,
       ⟨(some 43), 0, (some (39, true)), (.op (.idxA 4 none (.t 41) (.t 42)))⟩,
       ⟨(some 44), 0, (some (39, true)), (.op (.fldA 1 (.t 43)))⟩,
       ⟨(some 45), 0, (some (39, true)), (.op (.load true 2 (.t 44)))⟩,
       ⟨(some 46), 0, (some (39, true)), (.call (.k (.fn (.func 24) [] [])) [(.t 45)])⟩,
       ⟨(some 47), 0, (some (39, true)), (.op (.un .not (.t 46)))⟩,
       ⟨(some 48), 0, none, (.op (.pick (.t 39) (.t 47) (.k (.d (.bool false)))))⟩])
     (.cond (.t 48)
       (.seq (.reg 0 [⟨(some 2), 0, none, (.op (.mov (.k (.d (.bool false)))))⟩])
       (.ret))
       (.skip))))
    (.reg 0 [⟨(some 30), 0, none, (.op (.mov (.t 3)))⟩,
      ⟨(some 31), 0, none, (.op (.bin .add (.t 30) (.k (.d (.int .i64 1)))))⟩,
      ⟨(some 3), 0, none, (.op (.mov (.t 31)))⟩]))))))
  (.seq (.reg 0 [⟨(some 49), 0, none, (.op (.fldA 2 (.t 1)))⟩,
    ⟨(some 50), 0, none, (.op (.load false 1 (.t 49)))⟩,
    ⟨(some 51), 0, none, (.op (.bin .eql (.t 50) (.k (.d (.int .i64 0)))))⟩,
    ⟨(some 52), 0, none, (.op (.mov (.t 51)))⟩,
    ⟨(some 53), 0, (some (52, false)), (.op (.load true 3 (.t 1)))⟩,
    ⟨(some 54), 0, (some (52, false)), (.call (.k (.fn (.func 31) [] [])) [(.t 53)])⟩,
    ⟨(some 55), 0, none, (.op (.pick (.t 52) (.k (.d (.bool true))) (.t 54)))⟩,
    ⟨(some 2), 0, none, (.op (.mov (.t 55)))⟩])
  (.ret))))
theorem cc12 : Tryd.f12.body.bind (compC Tryd.prog) = some ac12 := by kernel_rfl
theorem go12 {vals : List V} {v : V} (ac : AC) (he : ac.erase = ac12) (hw : wpC Tryd.prog 0 ac (retQ [.tmp 2] v) ⟨vals ++ List.replicate (56 - vals.length) (.tup []), []⟩) : CallP Tryd.prog 12 vals v :=
  call_of Tryd.func12 rfl rfl rfl (cc12.trans (congrArg some he.symm)) hw
theorem gi12 {vals : List V} {rows : Go.Vx.Rows} {K : V → Go.Vx.Rows → Prop} (ac : AC) (he : ac.erase = ac12) (hw : wpC Tryd.prog rows.length ac (retI [.tmp 2] K) ⟨vals ++ List.replicate (56 - vals.length) (.tup []), rows⟩) : InlP Tryd.prog 12 vals rows K :=
  inl_of' Tryd.func12 rfl rfl rfl (cc12.trans (congrArg some he.symm)) hw
theorem gm12 {vals : List V} {v : V} {sz : Nat} {es es' : List (List V)} (ac : AC) (he : ac.erase = ac12) (hw : wpC Tryd.prog 1 ac (retM [.tmp 2] v sz es') ⟨vals ++ List.replicate (56 - vals.length) (.tup []), [.live sz es]⟩) : CallM Tryd.prog 12 vals sz es v es' :=
  callM_of' Tryd.func12 rfl rfl rfl (cc12.trans (congrArg some he.symm)) hw

/-- testbench/driver.Done -/
def ac13 : AC :=
  .seq (.reg 1 [⟨(some 1), 0, none, (.op (.box 3 (.t 0)))⟩,
    ⟨(some 2), 1, none, (.op (.mov (.k (.d (.bool false)))))⟩])
  (.seq (.reg 0 [⟨(some 3), 0, none, (.op (.fldA 1 (.t 1)))⟩,
    ⟨(some 4), 0, none, (.op (.load false 1 (.t 3)))⟩,
    ⟨(some 5), 0, none, (.op (.fldA 0 (.t 1)))⟩,
    ⟨(some 6), 0, none, (.op (.load false 1 (.t 5)))⟩,
    ⟨(some 7), 0, none, (.op (.len false (.t 6)))⟩,
    ⟨(some 8), 0, none, (.op (.bin .geq (.t 4) (.t 7)))⟩,
    ⟨(some 9), 0, none, (.op (.mov (.t 8)))⟩,
    ⟨(some 10), 0, (some (9, false)), (.op (.fldA 1 (.t 1)))⟩,
    ⟨(some 11), 0, (some (9, false)), (.op (.load false 1 (.t 10)))⟩,
    ⟨(some 12), 0, (some (9, false)), (.op (.bin .lss (.t 11) (.k (.d (.int .i64 0)))))⟩,
    ⟨(some 13), 0, none, (.op (.pick (.t 9) (.k (.d (.bool true))) (.t 12)))⟩,
    ⟨(some 2), 0, none, (.op (.mov (.t 13)))⟩])
  (.ret))
theorem cc13 : Tryd.f13.body.bind (compC Tryd.prog) = some ac13 := by kernel_rfl
theorem go13 {vals : List V} {v : V} (ac : AC) (he : ac.erase = ac13) (hw : wpC Tryd.prog 0 ac (retQ [.tmp 2] v) ⟨vals ++ List.replicate (14 - vals.length) (.tup []), []⟩) : CallP Tryd.prog 13 vals v :=
  call_of Tryd.func13 rfl rfl rfl (cc13.trans (congrArg some he.symm)) hw
theorem gi13 {vals : List V} {rows : Go.Vx.Rows} {K : V → Go.Vx.Rows → Prop} (ac : AC) (he : ac.erase = ac13) (hw : wpC Tryd.prog rows.length ac (retI [.tmp 2] K) ⟨vals ++ List.replicate (14 - vals.length) (.tup []), rows⟩) : InlP Tryd.prog 13 vals rows K :=
  inl_of' Tryd.func13 rfl rfl rfl (cc13.trans (congrArg some he.symm)) hw
theorem gm13 {vals : List V} {v : V} {sz : Nat} {es es' : List (List V)} (ac : AC) (he : ac.erase = ac13) (hw : wpC Tryd.prog 1 ac (retM [.tmp 2] v sz es') ⟨vals ++ List.replicate (14 - vals.length) (.tup []), [.live sz es]⟩) : CallM Tryd.prog 13 vals sz es v es' :=
  callM_of' Tryd.func13 rfl rfl rfl (cc13.trans (congrArg some he.symm)) hw

/-- testbench/testbenchref36.Done -/
def ac14 : AC :=
  .seq (.reg 1 [⟨(some 1), 0, none, (.op (.box 3 (.t 0)))⟩,
    ⟨(some 2), 1, none, (.op (.mov (.k (.d (.bool false)))))⟩])
  (.seq (.reg 0 [⟨(some 3), 0, none, (.op (.fldA 1 (.t 1)))⟩,
    ⟨(some 4), 0, none, (.op (.load false 1 (.t 3)))⟩,
    ⟨(some 5), 0, none, (.op (.bin .lss (.t 4) (.k (.d (.int .i64 0)))))⟩,
    ⟨(some 6), 0, none, (.op (.mov (.t 5)))⟩,
    ⟨(some 7), 0, (some (6, false)), (.op (.fldA 1 (.t 1)))⟩,
    ⟨(some 8), 0, (some (6, false)), (.op (.load false 1 (.t 7)))⟩,
    ⟨(some 9), 0, (some (6, false)), (.op (.fldA 0 (.t 1)))⟩,
    ⟨(some 10), 0, (some (6, false)), (.op (.load false 1 (.t 9)))⟩,
    ⟨(some 11), 0, (some (6, false)), (.op (.len false (.t 10)))⟩,
    ⟨(some 12), 0, (some (6, false)), (.op (.bin .geq (.t 8) (.t 11)))⟩,
    ⟨(some 13), 0, none, (.op (.pick (.t 6) (.k (.d (.bool true))) (.t 12)))⟩,
    ⟨(some 2), 0, none, (.op (.mov (.t 13)))⟩])
  (.ret))
theorem cc14 : Tryd.f14.body.bind (compC Tryd.prog) = some ac14 := by kernel_rfl
theorem go14 {vals : List V} {v : V} (ac : AC) (he : ac.erase = ac14) (hw : wpC Tryd.prog 0 ac (retQ [.tmp 2] v) ⟨vals ++ List.replicate (14 - vals.length) (.tup []), []⟩) : CallP Tryd.prog 14 vals v :=
  call_of Tryd.func14 rfl rfl rfl (cc14.trans (congrArg some he.symm)) hw
theorem gi14 {vals : List V} {rows : Go.Vx.Rows} {K : V → Go.Vx.Rows → Prop} (ac : AC) (he : ac.erase = ac14) (hw : wpC Tryd.prog rows.length ac (retI [.tmp 2] K) ⟨vals ++ List.replicate (14 - vals.length) (.tup []), rows⟩) : InlP Tryd.prog 14 vals rows K :=
  inl_of' Tryd.func14 rfl rfl rfl (cc14.trans (congrArg some he.symm)) hw
theorem gm14 {vals : List V} {v : V} {sz : Nat} {es es' : List (List V)} (ac : AC) (he : ac.erase = ac14) (hw : wpC Tryd.prog 1 ac (retM [.tmp 2] v sz es') ⟨vals ++ List.replicate (14 - vals.length) (.tup []), [.live sz es]⟩) : CallM Tryd.prog 14 vals sz es v es' :=
  callM_of' Tryd.func14 rfl rfl rfl (cc14.trans (congrArg some he.symm)) hw

/-- testbench/testbenchref26.SameAll -/
def ac15 : AC :=
  .seq (.reg 0 [⟨(some 4), 0, none, (.op (.mov (.k (.d (.bool false)))))⟩])
  (.seq (.seq (.reg 0 [⟨(some 6), 0, none, (.op (.mov (.t 0)))⟩,
    ⟨(some 7), 0, none, (.op (.len false (.t 6)))⟩,
    ⟨(some 8), 0, none, (.op (.mov (.t 1)))⟩,
    ⟨(some 9), 0, none, (.op (.len false (.t 8)))⟩,
    ⟨(some 10), 0, none, (.op (.bin .neq (.t 7) (.t 9)))⟩])
  (.cond (.t 10)
    (.seq (.reg 0 [⟨(some 4), 0, none, (.op (.mov (.k (.d (.bool false)))))⟩])
    (.ret))
    (.skip)))
  (.seq (.seq (.reg 0 [⟨(some 5), 0, none, (.op (.mov (.k (.d (.int .i64 0)))))⟩])
  (.block 0
   (.loop
    (.seq (.seq (.reg 0 [⟨(some 11), 0, none, (.op (.mov (.t 5)))⟩,
      ⟨(some 12), 0, none, (.op (.mov (.t 0)))⟩,
      ⟨(some 13), 0, none, (.op (.len false (.t 12)))⟩,
      ⟨(some 14), 0, none, (.op (.bin .lss (.t 11) (.t 13)))⟩])
    (.cond (.t 14)
      (.skip)
      (.exit 0)))
    (.seq (.block 1
     (.seq (.regD 0 [(⟨(some 17), 0, none, (.op (.mov (.t 0)))⟩, []),
       (⟨(some 18), 0, none, (.op (.mov (.t 5)))⟩, []),
       (⟨(some 19), 0, none, (.op (.idxA 2 none (.t 17) (.t 18)))⟩, [0, 1]),
       (⟨(some 20), 0, none, (.op (.load true 2 (.t 19)))⟩, [2, 0, 1]),
       (⟨(some 21), 0, none, (.op (.mov (.t 1)))⟩, []),
       (⟨(some 22), 0, none, (.op (.mov (.t 5)))⟩, []),
       (⟨(some 23), 0, none, (.op (.idxA 2 none (.t 21) (.t 22)))⟩, [4, 5]),
       (⟨(some 24), 0, none, (.op (.load true 2 (.t 23)))⟩, [6, 4, 5]),
       (⟨(some 25), 0, none, (.call (.k (.fn (.func 26) [] [])) [(.t 20), (.t 24)])⟩, [3, 2, 0, 1, 7, 6, 4, 5]),
       (⟨(some 26), 0, none, (.op (.un .not (.t 25)))⟩, [8, 3, 2, 0, 1, 7, 6, 4, 5])])
     (.cond (.t 26)
       (.seq (.reg 0 [⟨(some 4), 0, none, (.op (.mov (.k (.d (.bool false)))))⟩])
       (.ret))
       (.skip))))
    (.reg 0 [⟨(some 15), 0, none, (.op (.mov (.t 5)))⟩,
      ⟨(some 16), 0, none, (.op (.bin .add (.t 15) (.k (.d (.int .i64 1)))))⟩,
      ⟨(some 5), 0, none, (.op (.mov (.t 16)))⟩]))))))
  (.seq (.reg 0 [⟨(some 4), 0, none, (.op (.mov (.k (.d (.bool true)))))⟩])
  (.ret))))
theorem cc15 : Tryd.f15.body.bind (compC Tryd.prog) = some ac15 := by kernel_rfl
theorem go15 {vals : List V} {v : V} (ac : AC) (he : ac.erase = ac15) (hw : wpC Tryd.prog 0 ac (retQ [.tmp 4] v) ⟨vals ++ List.replicate (27 - vals.length) (.tup []), []⟩) : CallP Tryd.prog 15 vals v :=
  call_of Tryd.func15 rfl rfl rfl (cc15.trans (congrArg some he.symm)) hw
theorem gi15 {vals : List V} {rows : Go.Vx.Rows} {K : V → Go.Vx.Rows → Prop} (ac : AC) (he : ac.erase = ac15) (hw : wpC Tryd.prog rows.length ac (retI [.tmp 4] K) ⟨vals ++ List.replicate (27 - vals.length) (.tup []), rows⟩) : InlP Tryd.prog 15 vals rows K :=
  inl_of' Tryd.func15 rfl rfl rfl (cc15.trans (congrArg some he.symm)) hw
theorem gm15 {vals : List V} {v : V} {sz : Nat} {es es' : List (List V)} (ac : AC) (he : ac.erase = ac15) (hw : wpC Tryd.prog 1 ac (retM [.tmp 4] v sz es') ⟨vals ++ List.replicate (27 - vals.length) (.tup []), [.live sz es]⟩) : CallM Tryd.prog 15 vals sz es v es' :=
  callM_of' Tryd.func15 rfl rfl rfl (cc15.trans (congrArg some he.symm)) hw

/-- testbench/driver.Sent -/
def ac16 : AC :=
  .seq (.reg 1 [⟨(some 1), 0, none, (.op (.box 3 (.t 0)))⟩,
    ⟨(some 2), 1, none, (.op (.mov (.k (.d .nils))))⟩])
  (.seq (.seq (.reg 0 [⟨(some 6), 0, none, (.op (.load true 3 (.t 1)))⟩,
    ⟨(some 7), 0, none, (.call (.k (.fn (.func 11) [] [])) [(.t 6)])⟩,
    ⟨(some 8), 0, none, (.op (.un .not (.t 7)))⟩])
  (.cond (.t 8)
    (.seq (.reg 0 [⟨(some 2), 0, none, (.op (.mov (.k (.d .nils))))⟩])
    (.ret))
    (.skip)))
  (.seq (.reg 0 [⟨(some 3), 0, none, (.op (.mov (.k (.d .nils))))⟩])
  (.seq (.seq (.reg 0 [⟨(some 9), 0, none, (.op (.fldA 0 (.t 1)))⟩,
    ⟨(some 10), 0, none, (.op (.load false 1 (.t 9)))⟩,
    ⟨(some 11), 0, none, (.op (.fldA 1 (.t 1)))⟩,
    ⟨(some 12), 0, none, (.op (.load false 1 (.t 11)))⟩,
    ⟨(some 13), 0, none, (.op (.slice 4 (.t 10) none (some (.t 12))))⟩,
    ⟨(some 14), 0, none, (.op (.len false (.t 13)))⟩,
    ⟨(some 15), 0, none, (.op (.mov (.k (.d (.int .i64 0)))))⟩])
  (.block 0
   (.loop
    (.seq (.reg 0 [⟨(some 16), 0, none, (.op (.bin .lss (.t 15) (.t 14)))⟩])
    (.seq (.cond (.t 16)
      (.skip)
      (.exit 0))
    (.seq (.block 1
     (.seq (.reg 1 [⟨(some 17), 0, none, (.op (.idxA 4 none (.t 13) (.t 15)))⟩,
       ⟨(some 18), 0, none, (.op (.load true 4 (.t 17)))⟩,
       ⟨(some 5), 0, none, (.op (.alloc [(.bool false), .nils, .nils, (.str [])]))⟩,
       ⟨none, 1, none, (.op (.store 4 (.t 5) (.t 18)))⟩])
     (.seq (.reg 0 [⟨(some 19), 0, none, (.op (.fldA 0 (.t 5)))⟩,
       ⟨(some 20), 0, none, (.op (.load false 1 (.t 19)))⟩,
       ⟨(some 21), 0, none, (.op (.un .not (.t 20)))⟩])
     (.cond (.t 21)
       (.reg 2 [⟨(some 22), 0, none, (.op (.mov (.t 3)))⟩,
         ⟨(some 23), 0, none, (.op (.fldA 1 (.t 5)))⟩,
         ⟨(some 24), 0, none, (.op (.load true 2 (.t 23)))⟩,
         ⟨(some 25), 0, none, (.call (.k (.fn (.func 32) [] [])) [(.t 24)])⟩,
         ⟨(some 26), 0, none, (.op (.buildSl 2 1 [.nils, .nils] [(0, (.t 25))]))⟩,
         ⟨(some 27), 1, none, (.op (.append 2 48 (.t 22) (.t 26)))⟩,
         ⟨(some 3), 2, none, (.op (.mov (.t 27)))⟩])
       (.skip)))))
    (.reg 0 [⟨(some 28), 0, none, (.op (.bin .add (.t 15) (.k (.d (.int .i64 1)))))⟩,
      ⟨(some 15), 0, none, (.op (.mov (.t 28)))⟩])))))))
  (.seq (.reg 0 [⟨(some 29), 0, none, (.op (.mov (.t 3)))⟩,
    ⟨(some 2), 0, none, (.op (.mov (.t 29)))⟩])
  (.ret)))))
theorem cc16 : Tryd.f16.body.bind (compC Tryd.prog) = some ac16 := by kernel_rfl
theorem go16 {vals : List V} {v : V} (ac : AC) (he : ac.erase = ac16) (hw : wpC Tryd.prog 0 ac (retQ [.tmp 2] v) ⟨vals ++ List.replicate (30 - vals.length) (.tup []), []⟩) : CallP Tryd.prog 16 vals v :=
  call_of Tryd.func16 rfl rfl rfl (cc16.trans (congrArg some he.symm)) hw
theorem gi16 {vals : List V} {rows : Go.Vx.Rows} {K : V → Go.Vx.Rows → Prop} (ac : AC) (he : ac.erase = ac16) (hw : wpC Tryd.prog rows.length ac (retI [.tmp 2] K) ⟨vals ++ List.replicate (30 - vals.length) (.tup []), rows⟩) : InlP Tryd.prog 16 vals rows K :=
  inl_of' Tryd.func16 rfl rfl rfl (cc16.trans (congrArg some he.symm)) hw
theorem gm16 {vals : List V} {v : V} {sz : Nat} {es es' : List (List V)} (ac : AC) (he : ac.erase = ac16) (hw : wpC Tryd.prog 1 ac (retM [.tmp 2] v sz es') ⟨vals ++ List.replicate (30 - vals.length) (.tup []), [.live sz es]⟩) : CallM Tryd.prog 16 vals sz es v es' :=
  callM_of' Tryd.func16 rfl rfl rfl (cc16.trans (congrArg some he.symm)) hw

/-- testbench/testbenchref36.Sent -/
def ac17 : AC :=
  .seq (.reg 1 [⟨(some 1), 0, none, (.op (.box 3 (.t 0)))⟩,
    ⟨(some 2), 1, none, (.op (.mov (.k (.d .nils))))⟩])
  (.seq (.seq (.reg 0 [⟨(some 5), 0, none, (.op (.load true 3 (.t 1)))⟩,
    ⟨(some 6), 0, none, (.call (.k (.fn (.func 12) [] [])) [(.t 5)])⟩,
    ⟨(some 7), 0, none, (.op (.un .not (.t 6)))⟩])
  (.cond (.t 7)
    (.seq (.reg 0 [⟨(some 2), 0, none, (.op (.mov (.k (.d .nils))))⟩])
    (.ret))
    (.skip)))
  (.seq (.reg 0 [⟨(some 3), 0, none, (.op (.mov (.k (.d .nils))))⟩])
  (.seq (.seq (.reg 0 [⟨(some 4), 0, none, (.op (.mov (.k (.d (.int .i64 0)))))⟩])
  (.block 0
   (.loop
    (.seq (.seq (.reg 0 [⟨(some 8), 0, none, (.op (.mov (.t 4)))⟩,
      ⟨(some 9), 0, none, (.op (.fldA 1 (.t 1)))⟩,
      ⟨(some 10), 0, none, (.op (.load false 1 (.t 9)))⟩,
      ⟨(some 11), 0, none, (.op (.bin .lss (.t 8) (.t 10)))⟩])
    (.cond (.t 11)
      (.skip)
      (.exit 0)))
    (.seq (.block 1
     (.seq (.reg 0 [⟨(some 14), 0, none, (.op (.fldA 0 (.t 1)))⟩,
       ⟨(some 15), 0, none, (.op (.load false 1 (.t 14)))⟩,
       ⟨(some 16), 0, none, (.op (.mov (.t 4)))⟩,
       ⟨(some 17), 0, none, (.op (.idxA 4 none (.t 15) (.t 16)))⟩,
       ⟨(some 18), 0, none, (.op (.fldA 0 (.t 17)))⟩,
       ⟨(some 19), 0, none, (.op (.load false 1 (.t 18)))⟩,
       ⟨(some 20), 0, none, (.op (.un .not (.t 19)))⟩])
     (.cond (.t 20)
       (.reg 2 [⟨(some 21), 0, none, (.op (.mov (.t 3)))⟩,
         ⟨(some 22), 0, none, (.op (.fldA 0 (.t 1)))⟩,
         ⟨(some 23), 0, none, (.op (.load false 1 (.t 22)))⟩,
         ⟨(some 24), 0, none, (.op (.mov (.t 4)))⟩,
         ⟨(some 25), 0, none, (.op (.idxA 4 none (.t 23) (.t 24)))⟩,
         ⟨(some 26), 0, none, (.op (.fldA 1 (.t 25)))⟩,
         ⟨(some 27), 0, none, (.op (.load true 2 (.t 26)))⟩,
         ⟨(some 28), 0, none, (.op (.buildSl 2 1 [.nils, .nils] [(0, (.t 27))]))⟩,
         ⟨(some 29), 1, none, (.op (.append 2 48 (.t 21) (.t 28)))⟩,
         ⟨(some 3), 2, none, (.op (.mov (.t 29)))⟩])
       (.skip))))
    (.reg 0 [⟨(some 12), 0, none, (.op (.mov (.t 4)))⟩,
      ⟨(some 13), 0, none, (.op (.bin .add (.t 12) (.k (.d (.int .i64 1)))))⟩,
      ⟨(some 4), 0, none, (.op (.mov (.t 13)))⟩]))))))
  (.seq (.reg 0 [⟨(some 30), 0, none, (.op (.mov (.t 3)))⟩,
    ⟨(some 2), 0, none, (.op (.mov (.t 30)))⟩])
  (.ret)))))
theorem cc17 : Tryd.f17.body.bind (compC Tryd.prog) = some ac17 := by kernel_rfl
theorem go17 {vals : List V} {v : V} (ac : AC) (he : ac.erase = ac17) (hw : wpC Tryd.prog 0 ac (retQ [.tmp 2] v) ⟨vals ++ List.replicate (31 - vals.length) (.tup []), []⟩) : CallP Tryd.prog 17 vals v :=
  call_of Tryd.func17 rfl rfl rfl (cc17.trans (congrArg some he.symm)) hw
theorem gi17 {vals : List V} {rows : Go.Vx.Rows} {K : V → Go.Vx.Rows → Prop} (ac : AC) (he : ac.erase = ac17) (hw : wpC Tryd.prog rows.length ac (retI [.tmp 2] K) ⟨vals ++ List.replicate (31 - vals.length) (.tup []), rows⟩) : InlP Tryd.prog 17 vals rows K :=
  inl_of' Tryd.func17 rfl rfl rfl (cc17.trans (congrArg some he.symm)) hw
theorem gm17 {vals : List V} {v : V} {sz : Nat} {es es' : List (List V)} (ac : AC) (he : ac.erase = ac17) (hw : wpC Tryd.prog 1 ac (retM [.tmp 2] v sz es') ⟨vals ++ List.replicate (31 - vals.length) (.tup []), [.live sz es]⟩) : CallM Tryd.prog 17 vals sz es v es' :=
  callM_of' Tryd.func17 rfl rfl rfl (cc17.trans (congrArg some he.symm)) hw

/-- testbench/testbenchlaw36.awake -/
def ac18 : AC :=
  .seq (.reg 0 [⟨(some 0), 0, none, (.op (.mov (.k (.d (.bool false)))))⟩])
  (.seq (.reg 4 [⟨(some 11), 0, none, (.op (.build [(.bool false), .nils, .nils, (.str [])] [(0, 1, (.k (.d (.bool true))))]))⟩,
    ⟨(some 12), 0, none, (.op (.buildSl 1 1 [(.str [])] [(0, (.k (.d (.str [97]))))]))⟩,
    ⟨(some 13), 1, none, (.op (.buildSl 1 1 [(.int .i64 0)] [(0, (.k (.d (.int .i64 3))))]))⟩,
    ⟨(some 14), 2, none, (.op (.build [.nils, .nils] [(0, 1, (.t 12)), (1, 1, (.t 13))]))⟩,
    ⟨(some 15), 2, none, (.op (.build [(.bool false), .nils, .nils, (.str [])] [(1, 2, (.t 14))]))⟩,
    ⟨(some 16), 2, none, (.op (.buildSl 4 2 [(.bool false), .nils, .nils, (.str [])] [(0, (.t 11)), (1, (.t 15))]))⟩,
    ⟨(some 17), 3, none, (.call (.k (.fn (.func 8) [] [])) [(.t 16)])⟩,
    ⟨(some 1), 3, none, (.op (.alloc [.nils, (.int .i64 0), (.int .i64 0)]))⟩,
    ⟨none, 4, none, (.op (.store 3 (.t 1) (.t 17)))⟩])
  (.seq (.reg 2 [⟨(some 18), 0, none, (.op (.buildSl 1 1 [(.str [])] [(0, (.k (.d (.str [97]))))]))⟩,
    ⟨(some 19), 1, none, (.op (.build [(.str []), (.str []), .nils] [(0, 1, (.k (.d (.str [118])))), (1, 1, (.k (.d (.str [114])))), (2, 1, (.t 18))]))⟩,
    ⟨(some 2), 1, none, (.op (.alloc [(.str []), (.str []), .nils]))⟩,
    ⟨none, 2, none, (.op (.store 3 (.t 2) (.t 19)))⟩])
  (.seq (.reg 0 [⟨(some 20), 0, none, (.op (.load true 3 (.t 1)))⟩,
    ⟨(some 21), 0, none, (.op (.load true 3 (.t 2)))⟩,
    ⟨(some 22), 0, none, (.call (.k (.fn (.func 20) [] [])) [(.t 20), (.t 21)])⟩,
    ⟨(some 3), 0, none, (.op (.mov (.t 22)))⟩])
  (.seq (.reg 1 [⟨(some 24), 0, none, (.op (.load true 3 (.t 1)))⟩,
    ⟨(some 25), 0, none, (.call (.k (.fn (.func 22) [] [])) [(.t 24), (.k (.d (.bool true)))])⟩,
    ⟨(some 23), 0, none, (.op (.mov (.t 25)))⟩,
    ⟨(some 26), 0, none, (.op (.ext (.t 23) 0))⟩,
    ⟨(some 27), 0, none, (.op (.ext (.t 23) 1))⟩,
    ⟨(some 4), 0, none, (.op (.alloc [.nils, (.int .i64 0), (.int .i64 0)]))⟩,
    ⟨none, 1, none, (.op (.store 3 (.t 4) (.t 26)))⟩,
    ⟨(some 5), 1, none, (.op (.mov (.t 27)))⟩])
  (.seq (.reg 0 [⟨(some 28), 0, none, (.op (.load true 3 (.t 4)))⟩,
    ⟨(some 29), 0, none, (.op (.load true 3 (.t 2)))⟩,
    ⟨(some 30), 0, none, (.call (.k (.fn (.func 20) [] [])) [(.t 28), (.t 29)])⟩,
    ⟨(some 6), 0, none, (.op (.mov (.t 30)))⟩])
  (.seq (.reg 1 [⟨(some 32), 0, none, (.op (.load true 3 (.t 4)))⟩,
    ⟨(some 33), 0, none, (.call (.k (.fn (.func 22) [] [])) [(.t 32), (.k (.d (.bool false)))])⟩,
    ⟨(some 31), 0, none, (.op (.mov (.t 33)))⟩,
    ⟨(some 34), 0, none, (.op (.ext (.t 31) 0))⟩,
    ⟨(some 35), 0, none, (.op (.ext (.t 31) 1))⟩,
    ⟨(some 7), 0, none, (.op (.alloc [.nils, (.int .i64 0), (.int .i64 0)]))⟩,
    ⟨none, 1, none, (.op (.store 3 (.t 7) (.t 34)))⟩,
    ⟨(some 8), 1, none, (.op (.mov (.t 35)))⟩])
  (.seq (.reg 1 [⟨(some 37), 0, none, (.op (.load true 3 (.t 7)))⟩,
    ⟨(some 38), 0, none, (.call (.k (.fn (.func 22) [] [])) [(.t 37), (.k (.d (.bool true)))])⟩,
    ⟨(some 36), 0, none, (.op (.mov (.t 38)))⟩,
    ⟨(some 39), 0, none, (.op (.ext (.t 36) 0))⟩,
    ⟨(some 40), 0, none, (.op (.ext (.t 36) 1))⟩,
    ⟨(some 9), 0, none, (.op (.alloc [.nils, (.int .i64 0), (.int .i64 0)]))⟩,
    ⟨none, 1, none, (.op (.store 3 (.t 9) (.t 39)))⟩,
    ⟨(some 10), 1, none, (.op (.mov (.t 40)))⟩])
  (.seq (.reg 2 [⟨(some 41), 0, none, (.op (.mov (.t 3)))⟩,
    ⟨(some 42), 0, none, (.op (.build [(.str []), (.int .i64 0)] [(0, 1, (.k (.d (.str [118]))))]))⟩,
    ⟨(some 43), 0, none, (.op (.build [(.str []), (.int .i64 0)] [(0, 1, (.k (.d (.str [97]))))]))⟩,
    ⟨(some 44), 0, none, (.op (.buildSl 2 2 [(.str []), (.int .i64 0)] [(0, (.t 42)), (1, (.t 43))]))⟩,
    ⟨(some 45), 1, none, (.call (.k (.fn (.func 19) [] [])) [(.t 41), (.t 44)])⟩,
    ⟨(some 46), 1, none, (.op (.mov (.t 45)))⟩,
    ⟨(some 47), 1, (some (46, true)), (.op (.mov (.t 5)))⟩,
    ⟨(some 48), 1, (some (46, true)), (.op (.un .not (.t 47)))⟩,
    ⟨(some 49), 1, none, (.op (.pick (.t 46) (.t 48) (.k (.d (.bool false)))))⟩,
    ⟨(some 50), 1, none, (.op (.mov (.t 49)))⟩,
    ⟨(some 51), 1, (some (50, true)), (.op (.mov (.t 6)))⟩,
    ⟨(some 52), 1, (some (50, true)), (.op (.build [(.str []), (.int .i64 0)] [(0, 1, (.k (.d (.str [118])))), (1, 1, (.k (.d (.int .i64 1))))]))⟩,
    ⟨(some 53), 1, (some (50, true)), (.op (.build [(.str []), (.int .i64 0)] [(0, 1, (.k (.d (.str [97])))), (1, 1, (.k (.d (.int .i64 3))))]))⟩,
    ⟨(some 54), 1, (some (50, true)), (.op (.buildSl 2 2 [(.str []), (.int .i64 0)] [(0, (.t 52)), (1, (.t 53))]))⟩,
    ⟨(some 55), 2, (some (50, true)), (.call (.k (.fn (.func 19) [] [])) [(.t 51), (.t 54)])⟩,
    ⟨(some 56), 2, none, (.op (.pick (.t 50) (.t 55) (.k (.d (.bool false)))))⟩,
    ⟨(some 57), 2, none, (.op (.mov (.t 56)))⟩,
    ⟨(some 58), 2, (some (57, true)), (.op (.mov (.t 8)))⟩,
    ⟨(some 59), 2, (some (57, true)), (.op (.un .not (.t 58)))⟩,
    ⟨(some 60), 2, none, (.op (.pick (.t 57) (.t 59) (.k (.d (.bool false)))))⟩,
    ⟨(some 61), 2, none, (.op (.mov (.t 60)))⟩,
    ⟨(some 62), 2, (some (61, true)), (.op (.fldA 1 (.t 7)))⟩,
    ⟨(some 63), 2, (some (61, true)), (.op (.load false 1 (.t 62)))⟩,
    ⟨(some 64), 2, (some (61, true)), (.op (.bin .eql (.t 63) (.k (.d (.int .i64 1)))))⟩,
    ⟨(some 65), 2, none, (.op (.pick (.t 61) (.t 64) (.k (.d (.bool false)))))⟩,
    ⟨(some 66), 2, none, (.op (.mov (.t 65)))⟩,
    ⟨(some 67), 2, (some (66, true)), (.op (.fldA 2 (.t 7)))⟩,
    ⟨(some 68), 2, (some (66, true)), (.op (.load false 1 (.t 67)))⟩,
    ⟨(some 69), 2, (some (66, true)), (.op (.bin .eql (.t 68) (.k (.d (.int .i64 1)))))⟩,
    ⟨(some 70), 2, none, (.op (.pick (.t 66) (.t 69) (.k (.d (.bool false)))))⟩,
    ⟨(some 71), 2, none, (.op (.mov (.t 70)))⟩,
    ⟨(some 72), 2, (some (71, true)), (.op (.mov (.t 10)))⟩,
    ⟨(some 73), 2, none, (.op (.pick (.t 71) (.t 72) (.k (.d (.bool false)))))⟩,
    ⟨(some 74), 2, none, (.op (.mov (.t 73)))⟩,
    ⟨(some 75), 2, (some (74, true)), (.op (.load true 3 (.t 9)))⟩,
    ⟨(some 76), 2, (some (74, true)), (.call (.k (.fn (.func 13) [] [])) [(.t 75)])⟩,
    ⟨(some 77), 2, none, (.op (.pick (.t 74) (.t 76) (.k (.d (.bool false)))))⟩,
    ⟨(some 78), 2, none, (.op (.mov (.t 77)))⟩,
    ⟨(some 79), 2, (some (78, true)), (.op (.load true 3 (.t 9)))⟩,
    ⟨(some 80), 2, (some (78, true)), (.call (.k (.fn (.func 16) [] [])) [(.t 79)])⟩,
    ⟨(some 81), 2, (some (78, true)), (.op (.len false (.t 80)))⟩,
    ⟨(some 82), 2, (some (78, true)), (.op (.bin .eql (.t 81) (.k (.d (.int .i64 1)))))⟩,
    ⟨(some 83), 2, none, (.op (.pick (.t 78) (.t 82) (.k (.d (.bool false)))))⟩,
    ⟨(some 0), 2, none, (.op (.mov (.t 83)))⟩])
  (.ret)))))))))
theorem cc18 : Tryd.f18.body.bind (compC Tryd.prog) = some ac18 := by kernel_rfl
theorem go18 {vals : List V} {v : V} (ac : AC) (he : ac.erase = ac18) (hw : wpC Tryd.prog 0 ac (retQ [.tmp 0] v) ⟨vals ++ List.replicate (84 - vals.length) (.tup []), []⟩) : CallP Tryd.prog 18 vals v :=
  call_of Tryd.func18 rfl rfl rfl (cc18.trans (congrArg some he.symm)) hw
theorem gi18 {vals : List V} {rows : Go.Vx.Rows} {K : V → Go.Vx.Rows → Prop} (ac : AC) (he : ac.erase = ac18) (hw : wpC Tryd.prog rows.length ac (retI [.tmp 0] K) ⟨vals ++ List.replicate (84 - vals.length) (.tup []), rows⟩) : InlP Tryd.prog 18 vals rows K :=
  inl_of' Tryd.func18 rfl rfl rfl (cc18.trans (congrArg some he.symm)) hw
theorem gm18 {vals : List V} {v : V} {sz : Nat} {es es' : List (List V)} (ac : AC) (he : ac.erase = ac18) (hw : wpC Tryd.prog 1 ac (retM [.tmp 0] v sz es') ⟨vals ++ List.replicate (84 - vals.length) (.tup []), [.live sz es]⟩) : CallM Tryd.prog 18 vals sz es v es' :=
  callM_of' Tryd.func18 rfl rfl rfl (cc18.trans (congrArg some he.symm)) hw

/-- testbench/testbenchref36.SameSignals -/
def ac19 : AC :=
  .seq (.reg 0 [⟨(some 4), 0, none, (.op (.mov (.k (.d (.bool false)))))⟩])
  (.seq (.seq (.reg 0 [⟨(some 6), 0, none, (.op (.mov (.t 0)))⟩,
    ⟨(some 7), 0, none, (.op (.len false (.t 6)))⟩,
    ⟨(some 8), 0, none, (.op (.mov (.t 1)))⟩,
    ⟨(some 9), 0, none, (.op (.len false (.t 8)))⟩,
    ⟨(some 10), 0, none, (.op (.bin .neq (.t 7) (.t 9)))⟩])
  (.cond (.t 10)
    (.seq (.reg 0 [⟨(some 4), 0, none, (.op (.mov (.k (.d (.bool false)))))⟩])
    (.ret))
    (.skip)))
  (.seq (.seq (.reg 0 [⟨(some 5), 0, none, (.op (.mov (.k (.d (.int .i64 0)))))⟩])
  (.block 0
   (.loop
    (.seq (.seq (.reg 0 [⟨(some 11), 0, none, (.op (.mov (.t 5)))⟩,
      ⟨(some 12), 0, none, (.op (.mov (.t 0)))⟩,
      ⟨(some 13), 0, none, (.op (.len false (.t 12)))⟩,
      ⟨(some 14), 0, none, (.op (.bin .lss (.t 11) (.t 13)))⟩])
    (.cond (.t 14)
      (.skip)
      (.exit 0)))
    (.seq (.block 1
     (.seq (.regD 0 [(⟨(some 17), 0, none, (.op (.mov (.t 0)))⟩, []),
       (⟨(some 18), 0, none, (.op (.mov (.t 5)))⟩, []),
       (⟨(some 19), 0, none, (.op (.idxA 2 none (.t 17) (.t 18)))⟩, [0, 1]),
       (⟨(some 20), 0, none, (.op (.load true 2 (.t 19)))⟩, [2, 0, 1]),
       (⟨(some 21), 0, none, (.op (.mov (.t 1)))⟩, []),
       (⟨(some 22), 0, none, (.op (.mov (.t 5)))⟩, []),
       (⟨(some 23), 0, none, (.op (.idxA 2 none (.t 21) (.t 22)))⟩, [4, 5]),
       (⟨(some 24), 0, none, (.op (.load true 2 (.t 23)))⟩, [6, 4, 5]),
       (⟨(some 25), 0, none, (.op (.eqS true [2, 0] (.t 20) (.t 24)))⟩, [3, 2, 0, 1, 7, 6, 4, 5])])
     (.cond (.t 25)
       (.seq (.reg 0 [⟨(some 4), 0, none, (.op (.mov (.k (.d (.bool false)))))⟩])
       (.ret))
       (.skip))))
    (.reg 0 [⟨(some 15), 0, none, (.op (.mov (.t 5)))⟩,
      ⟨(some 16), 0, none, (.op (.bin .add (.t 15) (.k (.d (.int .i64 1)))))⟩,
      ⟨(some 5), 0, none, (.op (.mov (.t 16)))⟩]))))))
  (.seq (.reg 0 [⟨(some 4), 0, none, (.op (.mov (.k (.d (.bool true)))))⟩])
  (.ret))))
theorem cc19 : Tryd.f19.body.bind (compC Tryd.prog) = some ac19 := by kernel_rfl
theorem go19 {vals : List V} {v : V} (ac : AC) (he : ac.erase = ac19) (hw : wpC Tryd.prog 0 ac (retQ [.tmp 4] v) ⟨vals ++ List.replicate (26 - vals.length) (.tup []), []⟩) : CallP Tryd.prog 19 vals v :=
  call_of Tryd.func19 rfl rfl rfl (cc19.trans (congrArg some he.symm)) hw
theorem gi19 {vals : List V} {rows : Go.Vx.Rows} {K : V → Go.Vx.Rows → Prop} (ac : AC) (he : ac.erase = ac19) (hw : wpC Tryd.prog rows.length ac (retI [.tmp 4] K) ⟨vals ++ List.replicate (26 - vals.length) (.tup []), rows⟩) : InlP Tryd.prog 19 vals rows K :=
  inl_of' Tryd.func19 rfl rfl rfl (cc19.trans (congrArg some he.symm)) hw
theorem gm19 {vals : List V} {v : V} {sz : Nat} {es es' : List (List V)} (ac : AC) (he : ac.erase = ac19) (hw : wpC Tryd.prog 1 ac (retM [.tmp 4] v sz es') ⟨vals ++ List.replicate (26 - vals.length) (.tup []), [.live sz es]⟩) : CallM Tryd.prog 19 vals sz es v es' :=
  callM_of' Tryd.func19 rfl rfl rfl (cc19.trans (congrArg some he.symm)) hw

/-- testbench/driver.Drive -/
def ac20 : AC :=
  .seq (.reg 2 [⟨(some 2), 0, none, (.op (.box 3 (.t 0)))⟩,
    ⟨(some 3), 1, none, (.op (.box 3 (.t 1)))⟩,
    ⟨(some 4), 2, none, (.op (.mov (.k (.d .nils))))⟩])
  (.seq (.reg 1 [⟨(some 5), 0, none, (.op (.alloc [.nils]))⟩])
  (.seq (.reg 0 [⟨(some 11), 0, none, (.op (.mkfn (.func 33) [] [(.t 5)]))⟩,
    ⟨(some 6), 0, none, (.op (.mov (.t 11)))⟩])
  (.seq (.reg 0 [⟨(some 12), 0, none, (.op (.load true 3 (.t 2)))⟩,
    ⟨(some 13), 0, none, (.call (.k (.fn (.func 11) [] [])) [(.t 12)])⟩,
    ⟨(some 14), 0, none, (.op (.mov (.t 13)))⟩,
    ⟨(some 15), 0, (some (14, true)), (.op (.load true 3 (.t 2)))⟩,
    ⟨(some 16), 0, (some (14, true)), (.call (.k (.fn (.func 27) [] [])) [(.t 15)])⟩,
    ⟨(some 17), 0, none, (.op (.pick (.t 14) (.t 16) (.k (.d (.bool false)))))⟩,
    ⟨(some 7), 0, none, (.op (.mov (.t 17)))⟩])
  (.seq (.seq (.reg 0 [⟨(some 18), 0, none, (.op (.mov (.t 7)))⟩])
  (.cond (.t 18)
    (.reg 0 [⟨(some 19), 0, none, (.op (.mov (.t 6)))⟩,
      ⟨(some 20), 0, none, (.op (.fldA 0 (.t 3)))⟩,
      ⟨(some 21), 0, none, (.op (.load false 1 (.t 20)))⟩,
      ⟨(some 22), 0, none, (.call (.t 19) [(.t 21), (.k (.d (.int .i64 1)))])⟩])
    (.reg 0 [⟨(some 23), 0, none, (.op (.mov (.t 6)))⟩,
      ⟨(some 24), 0, none, (.op (.fldA 0 (.t 3)))⟩,
      ⟨(some 25), 0, none, (.op (.load false 1 (.t 24)))⟩,
      ⟨(some 26), 0, none, (.call (.t 23) [(.t 25), (.k (.d (.int .i64 0)))])⟩])))
  (.seq (.seq (.reg 0 [⟨(some 27), 0, none, (.op (.fldA 2 (.t 3)))⟩,
    ⟨(some 28), 0, none, (.op (.load false 1 (.t 27)))⟩,
    ⟨(some 29), 0, none, (.op (.len false (.t 28)))⟩,
    ⟨(some 30), 0, none, (.op (.mov (.k (.d (.int .i64 0)))))⟩])
  (.block 0
   (.loop
    (.seq (.reg 0 [⟨(some 31), 0, none, (.op (.bin .lss (.t 30) (.t 29)))⟩])
    (.seq (.cond (.t 31)
      (.skip)
      (.exit 0))
    (.seq (.block 1
     (.seq (.reg 0 [⟨(some 32), 0, none, (.op (.idxA 1 none (.t 28) (.t 30)))⟩,
       ⟨(some 33), 0, none, (.op (.load false 1 (.t 32)))⟩,
       ⟨(some 9), 0, none, (.op (.mov (.t 33)))⟩])
     (.seq (.reg 0 [⟨(some 10), 0, none, (.op (.mov (.k (.d (.int .i64 0)))))⟩])
     (.seq (.seq (.reg 0 [⟨(some 34), 0, none, (.op (.mov (.t 7)))⟩])
     (.cond (.t 34)
       (.reg 0 [⟨(some 36), 0, none, (.op (.fldA 0 (.t 2)))⟩,
         ⟨(some 37), 0, none, (.op (.load false 1 (.t 36)))⟩,
         ⟨(some 38), 0, none, (.op (.fldA 1 (.t 2)))⟩,
         ⟨(some 39), 0, none, (.op (.load false 1 (.t 38)))⟩,
         ⟨(some 40), 0, none, (.op (.idxA 4 none (.t 37) (.t 39)))⟩,
         ⟨(some 41), 0, none, (.op (.fldA 1 (.t 40)))⟩,
         ⟨(some 42), 0, none, (.op (.load true 2 (.t 41)))⟩,
         ⟨(some 43), 0, none, (.op (.mov (.t 9)))⟩,
         ⟨(some 44), 0, none, (.call (.k (.fn (.func 36) [] [])) [(.t 42), (.t 43)])⟩,
         ⟨(some 35), 0, none, (.op (.mov (.t 44)))⟩,
         ⟨(some 45), 0, none, (.op (.ext (.t 35) 0))⟩,
         ⟨(some 46), 0, none, (.op (.ext (.t 35) 1))⟩,
         ⟨(some 10), 0, none, (.op (.mov (.t 45)))⟩])
       (.skip)))
     (.reg 0 [⟨(some 47), 0, none, (.op (.mov (.t 6)))⟩,
       ⟨(some 48), 0, none, (.op (.mov (.t 9)))⟩,
       ⟨(some 49), 0, none, (.op (.mov (.t 10)))⟩,
       ⟨(some 50), 0, none, (.call (.t 47) [(.t 48), (.t 49)])⟩])))))
    (.reg 0 [⟨(some 51), 0, none, (.op (.bin .add (.t 30) (.k (.d (.int .i64 1)))))⟩,
      ⟨(some 30), 0, none, (.op (.mov (.t 51)))⟩])))))))
  (.seq (.reg 0 [⟨(some 52), 0, none, (.op (.load false 1 (.t 5)))⟩,
    ⟨(some 4), 0, none, (.op (.mov (.t 52)))⟩])
  (.ret)))))))
theorem cc20 : Tryd.f20.body.bind (compC Tryd.prog) = some ac20 := by kernel_rfl
theorem go20 {vals : List V} {v : V} (ac : AC) (he : ac.erase = ac20) (hw : wpC Tryd.prog 0 ac (retQ [.tmp 4] v) ⟨vals ++ List.replicate (53 - vals.length) (.tup []), []⟩) : CallP Tryd.prog 20 vals v :=
  call_of Tryd.func20 rfl rfl rfl (cc20.trans (congrArg some he.symm)) hw
theorem gi20 {vals : List V} {rows : Go.Vx.Rows} {K : V → Go.Vx.Rows → Prop} (ac : AC) (he : ac.erase = ac20) (hw : wpC Tryd.prog rows.length ac (retI [.tmp 4] K) ⟨vals ++ List.replicate (53 - vals.length) (.tup []), rows⟩) : InlP Tryd.prog 20 vals rows K :=
  inl_of' Tryd.func20 rfl rfl rfl (cc20.trans (congrArg some he.symm)) hw
theorem gm20 {vals : List V} {v : V} {sz : Nat} {es es' : List (List V)} (ac : AC) (he : ac.erase = ac20) (hw : wpC Tryd.prog 1 ac (retM [.tmp 4] v sz es') ⟨vals ++ List.replicate (53 - vals.length) (.tup []), [.live sz es]⟩) : CallM Tryd.prog 20 vals sz es v es' :=
  callM_of' Tryd.func20 rfl rfl rfl (cc20.trans (congrArg some he.symm)) hw

/-- testbench/testbenchref36.Drive -/
def ac21 : AC :=
  .seq (.reg 2 [⟨(some 2), 0, none, (.op (.box 3 (.t 0)))⟩,
    ⟨(some 3), 1, none, (.op (.box 3 (.t 1)))⟩,
    ⟨(some 4), 2, none, (.op (.mov (.k (.d .nils))))⟩])
  (.seq (.reg 1 [⟨(some 10), 0, none, (.op (.fldA 0 (.t 3)))⟩,
    ⟨(some 11), 0, none, (.op (.load false 1 (.t 10)))⟩,
    ⟨(some 12), 0, none, (.op (.build [(.str []), (.int .i64 0)] [(0, 1, (.t 11))]))⟩,
    ⟨(some 13), 0, none, (.op (.buildSl 2 1 [(.str []), (.int .i64 0)] [(0, (.t 12))]))⟩,
    ⟨(some 5), 1, none, (.op (.mov (.t 13)))⟩])
  (.seq (.reg 0 [⟨(some 14), 0, none, (.op (.load true 3 (.t 2)))⟩,
    ⟨(some 15), 0, none, (.call (.k (.fn (.func 12) [] [])) [(.t 14)])⟩,
    ⟨(some 16), 0, none, (.op (.mov (.t 15)))⟩,
    ⟨(some 17), 0, (some (16, true)), (.op (.load true 3 (.t 2)))⟩,
    ⟨(some 18), 0, (some (16, true)), (.call (.k (.fn (.func 31) [] [])) [(.t 17)])⟩,
    ⟨(some 19), 0, none, (.op (.pick (.t 16) (.t 18) (.k (.d (.bool false)))))⟩,
    ⟨(some 6), 0, none, (.op (.mov (.t 19)))⟩])
  (.seq (.seq (.reg 0 [⟨(some 20), 0, none, (.op (.mov (.t 6)))⟩])
  (.cond (.t 20)
    (.reg 0 [⟨(some 21), 0, none, (.op (.mov (.t 5)))⟩,
      ⟨(some 22), 0, none, (.op (.idxA 2 none (.t 21) (.k (.d (.int .i64 0)))))⟩,
      ⟨(some 23), 0, none, (.op (.fldA 1 (.t 22)))⟩,
      ⟨none, 0, none, (.op (.store 1 (.t 23) (.k (.d (.int .i64 1)))))⟩])
    (.skip)))
  (.seq (.seq (.reg 0 [⟨(some 7), 0, none, (.op (.mov (.k (.d (.int .i64 0)))))⟩])
  (.block 0
   (.loop
    (.seq (.seq (.reg 0 [⟨(some 24), 0, none, (.op (.mov (.t 7)))⟩,
      ⟨(some 25), 0, none, (.op (.fldA 2 (.t 3)))⟩,
      ⟨(some 26), 0, none, (.op (.load false 1 (.t 25)))⟩,
      ⟨(some 27), 0, none, (.op (.len false (.t 26)))⟩,
      ⟨(some 28), 0, none, (.op (.bin .lss (.t 24) (.t 27)))⟩])
    (.cond (.t 28)
      (.skip)
      (.exit 0)))
    (.seq (.block 1
     (.seq (.reg 0 [⟨(some 31), 0, none, (.op (.fldA 2 (.t 3)))⟩,
       ⟨(some 32), 0, none, (.op (.load false 1 (.t 31)))⟩,
       ⟨(some 33), 0, none, (.op (.mov (.t 7)))⟩,
       ⟨(some 34), 0, none, (.op (.idxA 1 none (.t 32) (.t 33)))⟩,
       ⟨(some 35), 0, none, (.op (.load false 1 (.t 34)))⟩,
       ⟨(some 8), 0, none, (.op (.mov (.t 35)))⟩])
     (.seq (.seq (.reg 0 [⟨(some 36), 0, none, (.op (.mov (.t 5)))⟩,
       ⟨(some 37), 0, none, (.op (.mov (.t 8)))⟩,
       ⟨(some 38), 0, none, (.call (.k (.fn (.func 37) [] [])) [(.t 36), (.t 37)])⟩])
     (.cond (.t 38)
       (.exit 1)
       (.skip)))
     (.seq (.reg 0 [⟨(some 9), 0, none, (.op (.mov (.k (.d (.int .i64 0)))))⟩])
     (.seq (.seq (.reg 0 [⟨(some 39), 0, none, (.op (.mov (.t 6)))⟩])
     (.cond (.t 39)
       (.reg 0 [⟨(some 41), 0, none, (.op (.fldA 0 (.t 2)))⟩,
         ⟨(some 42), 0, none, (.op (.load false 1 (.t 41)))⟩,
         ⟨(some 43), 0, none, (.op (.fldA 1 (.t 2)))⟩,
         ⟨(some 44), 0, none, (.op (.load false 1 (.t 43)))⟩,
         ⟨(some 45), 0, none, (.op (.idxA 4 none (.t 42) (.t 44)))⟩,
         ⟨(some 46), 0, none, (.op (.fldA 1 (.t 45)))⟩,
         ⟨(some 47), 0, none, (.op (.load true 2 (.t 46)))⟩,
         ⟨(some 48), 0, none, (.op (.mov (.t 8)))⟩,
         ⟨(some 49), 0, none, (.call (.k (.fn (.func 38) [] [])) [(.t 47), (.t 48)])⟩,
         ⟨(some 40), 0, none, (.op (.mov (.t 49)))⟩,
         ⟨(some 50), 0, none, (.op (.ext (.t 40) 0))⟩,
         ⟨(some 51), 0, none, (.op (.ext (.t 40) 1))⟩,
         ⟨(some 9), 0, none, (.op (.mov (.t 50)))⟩])
       (.skip)))
     (.reg 2 [⟨(some 52), 0, none, (.op (.mov (.t 5)))⟩,
       ⟨(some 53), 0, none, (.op (.mov (.t 8)))⟩,
       ⟨(some 54), 0, none, (.op (.mov (.t 9)))⟩,
       ⟨(some 55), 0, none, (.op (.build [(.str []), (.int .i64 0)] [(0, 1, (.t 53)), (1, 1, (.t 54))]))⟩,
       ⟨(some 56), 0, none, (.op (.buildSl 2 1 [(.str []), (.int .i64 0)] [(0, (.t 55))]))⟩,
       ⟨(some 57), 1, none, (.op (.append 2 24 (.t 52) (.t 56)))⟩,
       ⟨(some 5), 2, none, (.op (.mov (.t 57)))⟩]))))))
    (.reg 0 [⟨(some 29), 0, none, (.op (.mov (.t 7)))⟩,
      ⟨(some 30), 0, none, (.op (.bin .add (.t 29) (.k (.d (.int .i64 1)))))⟩,
      ⟨(some 7), 0, none, (.op (.mov (.t 30)))⟩]))))))
  (.seq (.reg 0 [⟨(some 58), 0, none, (.op (.mov (.t 5)))⟩,
    ⟨(some 4), 0, none, (.op (.mov (.t 58)))⟩])
  (.ret))))))
theorem cc21 : Tryd.f21.body.bind (compC Tryd.prog) = some ac21 := by kernel_rfl
theorem go21 {vals : List V} {v : V} (ac : AC) (he : ac.erase = ac21) (hw : wpC Tryd.prog 0 ac (retQ [.tmp 4] v) ⟨vals ++ List.replicate (59 - vals.length) (.tup []), []⟩) : CallP Tryd.prog 21 vals v :=
  call_of Tryd.func21 rfl rfl rfl (cc21.trans (congrArg some he.symm)) hw
theorem gi21 {vals : List V} {rows : Go.Vx.Rows} {K : V → Go.Vx.Rows → Prop} (ac : AC) (he : ac.erase = ac21) (hw : wpC Tryd.prog rows.length ac (retI [.tmp 4] K) ⟨vals ++ List.replicate (59 - vals.length) (.tup []), rows⟩) : InlP Tryd.prog 21 vals rows K :=
  inl_of' Tryd.func21 rfl rfl rfl (cc21.trans (congrArg some he.symm)) hw
theorem gm21 {vals : List V} {v : V} {sz : Nat} {es es' : List (List V)} (ac : AC) (he : ac.erase = ac21) (hw : wpC Tryd.prog 1 ac (retM [.tmp 4] v sz es') ⟨vals ++ List.replicate (59 - vals.length) (.tup []), [.live sz es]⟩) : CallM Tryd.prog 21 vals sz es v es' :=
  callM_of' Tryd.func21 rfl rfl rfl (cc21.trans (congrArg some he.symm)) hw

/-- testbench/driver.Step -/
def ac22 : AC :=
  .seq (.reg 2 [⟨(some 2), 0, none, (.op (.box 3 (.t 0)))⟩,
    ⟨(some 4), 1, none, (.op (.alloc [.nils, (.int .i64 0), (.int .i64 0)]))⟩,
    ⟨(some 5), 2, none, (.op (.mov (.k (.d (.bool false)))))⟩])
  (.seq (.reg 0 [⟨(some 9), 0, none, (.op (.fldA 0 (.t 2)))⟩,
    ⟨(some 10), 0, none, (.op (.load false 1 (.t 9)))⟩,
    ⟨(some 11), 0, none, (.call (.k (.fn (.func 25) [] [])) [(.t 10)])⟩,
    ⟨(some 12), 0, none, (.op (.fldA 0 (.t 2)))⟩,
    ⟨none, 0, none, (.op (.store 1 (.t 12) (.t 11)))⟩])
  (.seq (.reg 1 [⟨(some 14), 0, none, (.op (.load true 3 (.t 2)))⟩,
    ⟨(some 15), 0, none, (.call (.k (.fn (.func 39) [] [])) [(.t 14)])⟩,
    ⟨(some 13), 0, none, (.op (.mov (.t 15)))⟩,
    ⟨(some 16), 0, none, (.op (.ext (.t 13) 0))⟩,
    ⟨(some 17), 0, none, (.op (.ext (.t 13) 1))⟩,
    ⟨(some 6), 0, none, (.op (.alloc [(.bool false), .nils, .nils, (.str [])]))⟩,
    ⟨none, 1, none, (.op (.store 4 (.t 6) (.t 16)))⟩,
    ⟨(some 7), 1, none, (.op (.mov (.t 17)))⟩])
  (.seq (.block 0
   (.seq (.reg 0 [⟨(some 19), 0, none, (.op (.mov (.t 7)))⟩,
     ⟨(some 20), 0, none, (.op (.un .not (.t 19)))⟩,
     ⟨(some 21), 0, none, (.op (.mov (.t 20)))⟩,
     ⟨(some 22), 0, (some (21, false)), (.op (.load true 3 (.t 2)))⟩,
     ⟨(some 23), 0, (some (21, false)), (.call (.k (.fn (.func 11) [] [])) [(.t 22)])⟩,
     ⟨(some 24), 0, (some (21, false)), (.op (.un .not (.t 23)))⟩,
     ⟨(some 25), 0, none, (.op (.pick (.t 21) (.k (.d (.bool true))) (.t 24)))⟩,
     ⟨(some 18), 0, none, (.op (.mov (.t 25)))⟩])
   (.cond (.t 18)
     (.seq (.reg 0 [⟨(some 26), 0, none, (.op (.load true 3 (.t 2)))⟩,
       ⟨none, 0, none, (.op (.store 3 (.t 4) (.t 26)))⟩,
       ⟨(some 5), 0, none, (.op (.mov (.k (.d (.bool false)))))⟩])
     (.ret))
     (.seq (.reg 0 [⟨(some 28), 0, none, (.op (.load true 3 (.t 2)))⟩,
       ⟨(some 29), 0, none, (.call (.k (.fn (.func 27) [] [])) [(.t 28)])⟩,
       ⟨(some 30), 0, none, (.op (.un .not (.t 29)))⟩,
       ⟨(some 27), 0, none, (.op (.mov (.t 30)))⟩])
     (.cond (.t 27)
       (.seq (.reg 0 [⟨(some 31), 0, none, (.op (.load true 3 (.t 2)))⟩,
         ⟨(some 32), 0, none, (.op (.build [.nils, (.int .i64 0), (.int .i64 0)] [(0, 3, (.t 31))]))⟩,
         ⟨(some 33), 0, none, (.call (.k (.fn (.func 40) [] [])) [(.t 32)])⟩,
         ⟨(some 34), 0, none, (.op (.ext (.t 33) 0))⟩,
         ⟨(some 35), 0, none, (.op (.ext (.t 33) 1))⟩,
         ⟨none, 0, none, (.op (.store 3 (.t 4) (.t 34)))⟩,
         ⟨(some 5), 0, none, (.op (.mov (.t 35)))⟩])
       (.ret))
       (.skip))))))
  (.seq (.reg 0 [⟨(some 8), 0, none, (.op (.mov (.k (.fn (.func 41) [] []))))⟩])
  (.seq (.seq (.reg 0 [⟨(some 36), 0, none, (.op (.mov (.t 1)))⟩])
  (.cond (.t 36)
    (.reg 0 [⟨(some 8), 0, none, (.op (.mov (.k (.fn (.func 42) [] []))))⟩])
    (.skip)))
  (.seq (.reg 0 [⟨(some 37), 0, none, (.op (.mov (.t 8)))⟩,
    ⟨(some 38), 0, none, (.op (.load true 3 (.t 2)))⟩,
    ⟨(some 39), 0, none, (.op (.build [.nils, (.int .i64 0), (.int .i64 0)] [(0, 3, (.t 38))]))⟩,
    ⟨(some 40), 0, none, (.call (.t 37) [(.t 39)])⟩,
    ⟨(some 41), 0, none, (.op (.ext (.t 40) 0))⟩,
    ⟨(some 42), 0, none, (.op (.ext (.t 40) 1))⟩,
    ⟨none, 0, none, (.op (.store 3 (.t 4) (.t 41)))⟩,
    ⟨(some 5), 0, none, (.op (.mov (.t 42)))⟩])
  (.ret)))))))
theorem cc22 : Tryd.f22.body.bind (compC Tryd.prog) = some ac22 := by kernel_rfl
theorem go22 {vals : List V} {v : V} (ac : AC) (he : ac.erase = ac22) (hw : wpC Tryd.prog 0 ac (retQ [.cell 4 true 3, .tmp 5] v) ⟨vals ++ List.replicate (43 - vals.length) (.tup []), []⟩) : CallP Tryd.prog 22 vals v :=
  call_of Tryd.func22 rfl rfl rfl (cc22.trans (congrArg some he.symm)) hw
theorem gi22 {vals : List V} {rows : Go.Vx.Rows} {K : V → Go.Vx.Rows → Prop} (ac : AC) (he : ac.erase = ac22) (hw : wpC Tryd.prog rows.length ac (retI [.cell 4 true 3, .tmp 5] K) ⟨vals ++ List.replicate (43 - vals.length) (.tup []), rows⟩) : InlP Tryd.prog 22 vals rows K :=
  inl_of' Tryd.func22 rfl rfl rfl (cc22.trans (congrArg some he.symm)) hw
theorem gm22 {vals : List V} {v : V} {sz : Nat} {es es' : List (List V)} (ac : AC) (he : ac.erase = ac22) (hw : wpC Tryd.prog 1 ac (retM [.cell 4 true 3, .tmp 5] v sz es') ⟨vals ++ List.replicate (43 - vals.length) (.tup []), [.live sz es]⟩) : CallM Tryd.prog 22 vals sz es v es' :=
  callM_of' Tryd.func22 rfl rfl rfl (cc22.trans (congrArg some he.symm)) hw

/-- testbench/testbenchref36.Step -/
def ac23 : AC :=
  .seq (.reg 2 [⟨(some 2), 0, none, (.op (.box 3 (.t 0)))⟩,
    ⟨(some 4), 1, none, (.op (.alloc [.nils, (.int .i64 0), (.int .i64 0)]))⟩,
    ⟨(some 5), 2, none, (.op (.mov (.k (.d (.bool false)))))⟩])
  (.seq (.regD 3 [(⟨(some 7), 0, none, (.op (.buildSl 4 0 [(.bool false), .nils, .nils, (.str [])] []))⟩, []),
    (⟨(some 8), 1, none, (.op (.fldA 0 (.t 2)))⟩, []),
    (⟨(some 9), 1, none, (.op (.load false 1 (.t 8)))⟩, [1]),
    (⟨(some 10), 1, none, (.op (.append 4 72 (.t 7) (.t 9)))⟩, [0, 2, 1]),
    (⟨(some 11), 2, none, (.op (.fldA 1 (.t 2)))⟩, []),
    (⟨(some 12), 2, none, (.op (.load false 1 (.t 11)))⟩, [4]),
    (⟨(some 13), 2, none, (.op (.fldA 2 (.t 2)))⟩, []),
    (⟨(some 14), 2, none, (.op (.load false 1 (.t 13)))⟩, [6]),
    (⟨(some 15), 2, none, (.op (.build [.nils, (.int .i64 0), (.int .i64 0)] [(0, 1, (.t 10)), (1, 1, (.t 12)), (2, 1, (.t 14))]))⟩, [3, 0, 2, 1, 5, 4, 7, 6]),
    (⟨(some 6), 2, none, (.op (.alloc [.nils, (.int .i64 0), (.int .i64 0)]))⟩, []),
    (⟨none, 3, none, (.op (.store 3 (.t 6) (.t 15)))⟩, [9, 8, 3, 0, 2, 1, 5, 4, 7, 6])])
  (.seq (.seq (.reg 0 [⟨(some 16), 0, none, (.op (.load true 3 (.t 2)))⟩,
    ⟨(some 17), 0, none, (.call (.k (.fn (.func 12) [] [])) [(.t 16)])⟩,
    ⟨(some 18), 0, none, (.op (.un .not (.t 17)))⟩,
    ⟨(some 19), 0, none, (.op (.mov (.t 18)))⟩,
    ⟨(some 20), 0, (some (19, false)), (.op (.fldA 1 (.t 2)))⟩,
    ⟨(some 21), 0, (some (19, false)), (.op (.load false 1 (.t 20)))⟩,
    ⟨(some 22), 0, (some (19, false)), (.op (.fldA 0 (.t 2)))⟩,
    ⟨(some 23), 0, (some (19, false)), (.op (.load false 1 (.t 22)))⟩,
    ⟨(some 24), 0, (some (19, false)), (.op (.len false (.t 23)))⟩,
    ⟨(some 25), 0, (some (19, false)), (.op (.bin .eql (.t 21) (.t 24)))⟩,
    ⟨(some 26), 0, none, (.op (.pick (.t 19) (.k (.d (.bool true))) (.t 25)))⟩])
  (.cond (.t 26)
    (.seq (.reg 0 [⟨(some 27), 0, none, (.op (.load true 3 (.t 6)))⟩,
      ⟨none, 0, none, (.op (.store 3 (.t 4) (.t 27)))⟩,
      ⟨(some 5), 0, none, (.op (.mov (.k (.d (.bool false)))))⟩])
    (.ret))
    (.skip)))
  (.seq (.seq (.reg 0 [⟨(some 28), 0, none, (.op (.load true 3 (.t 2)))⟩,
    ⟨(some 29), 0, none, (.call (.k (.fn (.func 31) [] [])) [(.t 28)])⟩,
    ⟨(some 30), 0, none, (.op (.un .not (.t 29)))⟩])
  (.cond (.t 30)
    (.seq (.reg 0 [⟨(some 31), 0, none, (.op (.fldA 1 (.t 2)))⟩,
      ⟨(some 32), 0, none, (.op (.load false 1 (.t 31)))⟩,
      ⟨(some 33), 0, none, (.op (.bin .add (.t 32) (.k (.d (.int .i64 1)))))⟩,
      ⟨(some 34), 0, none, (.op (.fldA 1 (.t 6)))⟩,
      ⟨none, 0, none, (.op (.store 1 (.t 34) (.t 33)))⟩])
    (.seq (.reg 0 [⟨(some 35), 0, none, (.op (.load true 3 (.t 6)))⟩,
      ⟨none, 0, none, (.op (.store 3 (.t 4) (.t 35)))⟩,
      ⟨(some 5), 0, none, (.op (.mov (.k (.d (.bool false)))))⟩])
    (.ret)))
    (.skip)))
  (.seq (.seq (.reg 0 [⟨(some 36), 0, none, (.op (.mov (.t 1)))⟩])
  (.cond (.t 36)
    (.seq (.reg 0 [⟨(some 37), 0, none, (.op (.fldA 1 (.t 2)))⟩,
      ⟨(some 38), 0, none, (.op (.load false 1 (.t 37)))⟩,
      ⟨(some 39), 0, none, (.op (.bin .add (.t 38) (.k (.d (.int .i64 1)))))⟩,
      ⟨(some 40), 0, none, (.op (.fldA 1 (.t 6)))⟩,
      ⟨none, 0, none, (.op (.store 1 (.t 40) (.t 39)))⟩])
    (.seq (.reg 0 [⟨(some 41), 0, none, (.op (.fldA 2 (.t 6)))⟩,
      ⟨none, 0, none, (.op (.store 1 (.t 41) (.k (.d (.int .i64 0)))))⟩])
    (.seq (.reg 0 [⟨(some 42), 0, none, (.op (.load true 3 (.t 6)))⟩,
      ⟨none, 0, none, (.op (.store 3 (.t 4) (.t 42)))⟩,
      ⟨(some 5), 0, none, (.op (.mov (.k (.d (.bool true)))))⟩])
    (.ret))))
    (.skip)))
  (.seq (.reg 0 [⟨(some 43), 0, none, (.op (.fldA 2 (.t 2)))⟩,
    ⟨(some 44), 0, none, (.op (.load false 1 (.t 43)))⟩,
    ⟨(some 45), 0, none, (.op (.bin .add (.t 44) (.k (.d (.int .i64 1)))))⟩,
    ⟨(some 46), 0, none, (.op (.mn (.t 45) (.k (.d (.int .i64 1099511627776)))))⟩,
    ⟨(some 47), 0, none, (.op (.fldA 2 (.t 6)))⟩,
    ⟨none, 0, none, (.op (.store 1 (.t 47) (.t 46)))⟩])
  (.seq (.reg 0 [⟨(some 48), 0, none, (.op (.load true 3 (.t 6)))⟩,
    ⟨none, 0, none, (.op (.store 3 (.t 4) (.t 48)))⟩,
    ⟨(some 5), 0, none, (.op (.mov (.k (.d (.bool false)))))⟩])
  (.ret)))))))
theorem cc23 : Tryd.f23.body.bind (compC Tryd.prog) = some ac23 := by kernel_rfl
theorem go23 {vals : List V} {v : V} (ac : AC) (he : ac.erase = ac23) (hw : wpC Tryd.prog 0 ac (retQ [.cell 4 true 3, .tmp 5] v) ⟨vals ++ List.replicate (49 - vals.length) (.tup []), []⟩) : CallP Tryd.prog 23 vals v :=
  call_of Tryd.func23 rfl rfl rfl (cc23.trans (congrArg some he.symm)) hw
theorem gi23 {vals : List V} {rows : Go.Vx.Rows} {K : V → Go.Vx.Rows → Prop} (ac : AC) (he : ac.erase = ac23) (hw : wpC Tryd.prog rows.length ac (retI [.cell 4 true 3, .tmp 5] K) ⟨vals ++ List.replicate (49 - vals.length) (.tup []), rows⟩) : InlP Tryd.prog 23 vals rows K :=
  inl_of' Tryd.func23 rfl rfl rfl (cc23.trans (congrArg some he.symm)) hw
theorem gm23 {vals : List V} {v : V} {sz : Nat} {es es' : List (List V)} (ac : AC) (he : ac.erase = ac23) (hw : wpC Tryd.prog 1 ac (retM [.cell 4 true 3, .tmp 5] v sz es') ⟨vals ++ List.replicate (49 - vals.length) (.tup []), [.live sz es]⟩) : CallM Tryd.prog 23 vals sz es v es' :=
  callM_of' Tryd.func23 rfl rfl rfl (cc23.trans (congrArg some he.symm)) hw

/-- testbench/testbenchref26.Valid -/
def ac24 : AC :=
  .seq (.reg 1 [⟨(some 1), 0, none, (.op (.box 2 (.t 0)))⟩,
    ⟨(some 2), 1, none, (.op (.mov (.k (.d (.bool false)))))⟩])
  (.seq (.seq (.regD 0 [(⟨(some 4), 0, none, (.op (.fldA 0 (.t 1)))⟩, []),
    (⟨(some 5), 0, none, (.op (.load false 1 (.t 4)))⟩, [0]),
    (⟨(some 6), 0, none, (.op (.len false (.t 5)))⟩, [1, 0]),
    (⟨(some 7), 0, none, (.op (.fldA 1 (.t 1)))⟩, []),
    (⟨(some 8), 0, none, (.op (.load false 1 (.t 7)))⟩, [3]),
    (⟨(some 9), 0, none, (.op (.len false (.t 8)))⟩, [4, 3]),
    (⟨(some 10), 0, none, (.op (.bin .neq (.t 6) (.t 9)))⟩, [2, 1, 0, 5, 4, 3]),
    (⟨(some 11), 0, none, (.op (.mov (.t 10)))⟩, [6, 2, 1, 0, 5, 4, 3]),
    (⟨(some 12), 0, (some (11, false)), (.op (.fldA 0 (.t 1)))⟩, [7, 6, 2, 1, 0, 5, 4, 3]),
    (⟨(some 13), 0, (some (11, false)), (.op (.load false 1 (.t 12)))⟩, [8, 7, 6, 2, 1, 0, 5, 4, 3]),
    (⟨(some 14), 0, (some (11, false)), (.op (.len false (.t 13)))⟩, [9, 8, 7, 6, 2, 1, 0, 5, 4, 3]),
    (⟨(some 15), 0, (some (11, false)), (.call (.k (.fn (.func 43) [] [])) [])⟩, [7, 6, 2, 1, 0, 5, 4, 3]),
    (⟨(some 16), 0, (some (11, false)), (.op (.bin .gtr (.t 14) (.t 15)))⟩, [10, 9, 8, 7, 6, 2, 1, 0, 5, 4, 3, 11]),
    (⟨(some 17), 0, none, (.op (.pick (.t 11) (.k (.d (.bool true))) (.t 16)))⟩, [7, 6, 2, 1, 0, 5, 4, 3, 12, 10, 9, 8, 11]),
    (⟨(some 18), 0, none, (.op (.mov (.t 17)))⟩, [13, 7, 6, 2, 1, 0, 5, 4, 3, 12, 10, 9, 8, 11]),
    (⟨(some 19), 0, (some (18, false)), (.op (.fldA 0 (.t 1)))⟩, [14, 13, 7, 6, 2, 1, 0, 5, 4, 3, 12, 10, 9, 8, 11]),
    (⟨(some 20), 0, (some (18, false)), (.op (.load false 1 (.t 19)))⟩, [15, 14, 13, 7, 6, 2, 1, 0, 5, 4, 3, 12, 10, 9, 8, 11]),
    (⟨(some 21), 0, (some (18, false)), (.call (.k (.fn (.func 44) [] [])) [(.t 20)])⟩, [16, 15, 14, 13, 7, 6, 2, 1, 0, 5, 4, 3, 12, 10, 9, 8, 11]),
    (⟨(some 22), 0, (some (18, false)), (.op (.un .not (.t 21)))⟩, [17, 16, 15, 14, 13, 7, 6, 2, 1, 0, 5, 4, 3, 12, 10, 9, 8, 11]),
    (⟨(some 23), 0, none, (.op (.pick (.t 18) (.k (.d (.bool true))) (.t 22)))⟩, [14, 13, 7, 6, 2, 1, 0, 5, 4, 3, 12, 10, 9, 8, 11, 18, 17, 16, 15])])
  (.cond (.t 23)
    (.seq (.reg 0 [⟨(some 2), 0, none, (.op (.mov (.k (.d (.bool false)))))⟩])
    (.ret))
    (.skip)))
  (.seq (.seq (.reg 0 [⟨(some 3), 0, none, (.op (.mov (.k (.d (.int .i64 0)))))⟩])
  (.block 0
   (.loop
    (.seq (.seq (.reg 0 [⟨(some 24), 0, none, (.op (.mov (.t 3)))⟩,
      ⟨(some 25), 0, none, (.op (.fldA 1 (.t 1)))⟩,
      ⟨(some 26), 0, none, (.op (.load false 1 (.t 25)))⟩,
      ⟨(some 27), 0, none, (.op (.len false (.t 26)))⟩,
      ⟨(some 28), 0, none, (.op (.bin .lss (.t 24) (.t 27)))⟩])
    (.cond (.t 28)
      (.skip)
      (.exit 0)))
    (.seq (.block 1
     (.seq (.reg 0 [⟨(some 31), 0, none, (.op (.fldA 1 (.t 1)))⟩,
       ⟨(some 32), 0, none, (.op (.load false 1 (.t 31)))⟩,
       ⟨(some 33), 0, none, (.op (.mov (.t 3)))⟩,
       ⟨(some 34), 0, none, (.op (.idxA 1 none (.t 32) (.t 33)))⟩,
       ⟨(some 35), 0, none, (.op (.load false 1 (.t 34)))⟩,
       ⟨(some 36), 0, none, (.op (.bin .lss (.t 35) (.k (.d (.int .i64 0)))))⟩,
       ⟨(some 37), 0, none, (.op (.mov (.t 36)))⟩,
       ⟨(some 38), 0, (some (37, false)), (.op (.fldA 1 (.t 1)))⟩,
       ⟨(some 39), 0, (some (37, false)), (.op (.load false 1 (.t 38)))⟩,
       ⟨(some 40), 0, (some (37, false)), (.op (.mov (.t 3)))⟩,
       ⟨(some 41), 0, (some (37, false)), (.op (.idxA 1 none (.t 39) (.t 40)))⟩,
       ⟨(some 42), 0, (some (37, false)), (.op (.load false 1 (.t 41)))⟩,
       ⟨(some 43), 0, (some (37, false)), (.op (.bin .gtr (.t 42) (.k (.d (.int .i64 65535)))))⟩,
       ⟨(some 44), 0, none, (.op (.pick (.t 37) (.k (.d (.bool true))) (.t 43)))⟩])
     (.cond (.t 44)
       (.seq (.reg 0 [⟨(some 2), 0, none, (.op (.mov (.k (.d (.bool false)))))⟩])
       (.ret))
       (.skip))))
    (.reg 0 [⟨(some 29), 0, none, (.op (.mov (.t 3)))⟩,
      ⟨(some 30), 0, none, (.op (.bin .add (.t 29) (.k (.d (.int .i64 1)))))⟩,
      ⟨(some 3), 0, none, (.op (.mov (.t 30)))⟩]))))))
  (.seq (.reg 0 [⟨(some 2), 0, none, (.op (.mov (.k (.d (.bool true)))))⟩])
  (.ret))))
theorem cc24 : Tryd.f24.body.bind (compC Tryd.prog) = some ac24 := by kernel_rfl
theorem go24 {vals : List V} {v : V} (ac : AC) (he : ac.erase = ac24) (hw : wpC Tryd.prog 0 ac (retQ [.tmp 2] v) ⟨vals ++ List.replicate (45 - vals.length) (.tup []), []⟩) : CallP Tryd.prog 24 vals v :=
  call_of Tryd.func24 rfl rfl rfl (cc24.trans (congrArg some he.symm)) hw
theorem gi24 {vals : List V} {rows : Go.Vx.Rows} {K : V → Go.Vx.Rows → Prop} (ac : AC) (he : ac.erase = ac24) (hw : wpC Tryd.prog rows.length ac (retI [.tmp 2] K) ⟨vals ++ List.replicate (45 - vals.length) (.tup []), rows⟩) : InlP Tryd.prog 24 vals rows K :=
  inl_of' Tryd.func24 rfl rfl rfl (cc24.trans (congrArg some he.symm)) hw
theorem gm24 {vals : List V} {v : V} {sz : Nat} {es es' : List (List V)} (ac : AC) (he : ac.erase = ac24) (hw : wpC Tryd.prog 1 ac (retM [.tmp 2] v sz es') ⟨vals ++ List.replicate (45 - vals.length) (.tup []), [.live sz es]⟩) : CallM Tryd.prog 24 vals sz es v es' :=
  callM_of' Tryd.func24 rfl rfl rfl (cc24.trans (congrArg some he.symm)) hw

/-- testbench/driver.slots -/
def ac25 : AC :=
  .seq (.reg 0 [⟨(some 2), 0, none, (.op (.mov (.k (.d .nils))))⟩])
  (.seq (.reg 0 [⟨(some 3), 0, none, (.op (.mov (.k (.d .nils))))⟩])
  (.seq (.seq (.reg 0 [⟨(some 6), 0, none, (.op (.mov (.t 0)))⟩,
    ⟨(some 7), 0, none, (.op (.len false (.t 6)))⟩,
    ⟨(some 8), 0, none, (.op (.mov (.k (.d (.int .i64 0)))))⟩])
  (.block 0
   (.loop
    (.seq (.reg 0 [⟨(some 9), 0, none, (.op (.bin .lss (.t 8) (.t 7)))⟩])
    (.seq (.cond (.t 9)
      (.skip)
      (.exit 0))
    (.seq (.block 1
     (.seq (.reg 1 [⟨(some 10), 0, none, (.op (.idxA 4 none (.t 6) (.t 8)))⟩,
       ⟨(some 11), 0, none, (.op (.load true 4 (.t 10)))⟩,
       ⟨(some 5), 0, none, (.op (.alloc [(.bool false), .nils, .nils, (.str [])]))⟩,
       ⟨none, 1, none, (.op (.store 4 (.t 5) (.t 11)))⟩])
     (.seq (.reg 0 [⟨(some 12), 0, none, (.op (.fldA 1 (.t 5)))⟩,
       ⟨(some 13), 0, none, (.op (.load true 2 (.t 12)))⟩,
       ⟨(some 14), 0, none, (.call (.k (.fn (.func 32) [] [])) [(.t 13)])⟩,
       ⟨(some 15), 0, none, (.op (.fldA 1 (.t 5)))⟩,
       ⟨none, 0, none, (.op (.store 2 (.t 15) (.t 14)))⟩])
     (.reg 2 [⟨(some 16), 0, none, (.op (.mov (.t 3)))⟩,
       ⟨(some 17), 0, none, (.op (.load true 4 (.t 5)))⟩,
       ⟨(some 18), 0, none, (.op (.buildSl 4 1 [(.bool false), .nils, .nils, (.str [])] [(0, (.t 17))]))⟩,
       ⟨(some 19), 1, none, (.op (.append 4 72 (.t 16) (.t 18)))⟩,
       ⟨(some 3), 2, none, (.op (.mov (.t 19)))⟩]))))
    (.reg 0 [⟨(some 20), 0, none, (.op (.bin .add (.t 8) (.k (.d (.int .i64 1)))))⟩,
      ⟨(some 8), 0, none, (.op (.mov (.t 20)))⟩])))))))
  (.seq (.reg 0 [⟨(some 21), 0, none, (.op (.mov (.t 3)))⟩,
    ⟨(some 2), 0, none, (.op (.mov (.t 21)))⟩])
  (.ret))))
theorem cc25 : Tryd.f25.body.bind (compC Tryd.prog) = some ac25 := by kernel_rfl
theorem go25 {vals : List V} {v : V} (ac : AC) (he : ac.erase = ac25) (hw : wpC Tryd.prog 0 ac (retQ [.tmp 2] v) ⟨vals ++ List.replicate (22 - vals.length) (.tup []), []⟩) : CallP Tryd.prog 25 vals v :=
  call_of Tryd.func25 rfl rfl rfl (cc25.trans (congrArg some he.symm)) hw
theorem gi25 {vals : List V} {rows : Go.Vx.Rows} {K : V → Go.Vx.Rows → Prop} (ac : AC) (he : ac.erase = ac25) (hw : wpC Tryd.prog rows.length ac (retI [.tmp 2] K) ⟨vals ++ List.replicate (22 - vals.length) (.tup []), rows⟩) : InlP Tryd.prog 25 vals rows K :=
  inl_of' Tryd.func25 rfl rfl rfl (cc25.trans (congrArg some he.symm)) hw
theorem gm25 {vals : List V} {v : V} {sz : Nat} {es es' : List (List V)} (ac : AC) (he : ac.erase = ac25) (hw : wpC Tryd.prog 1 ac (retM [.tmp 2] v sz es') ⟨vals ++ List.replicate (22 - vals.length) (.tup []), [.live sz es]⟩) : CallM Tryd.prog 25 vals sz es v es' :=
  callM_of' Tryd.func25 rfl rfl rfl (cc25.trans (congrArg some he.symm)) hw

/-- testbench/testbenchref26.Same -/
def ac26 : AC :=
  .seq (.reg 2 [⟨(some 2), 0, none, (.op (.box 2 (.t 0)))⟩,
    ⟨(some 3), 1, none, (.op (.box 2 (.t 1)))⟩,
    ⟨(some 4), 2, none, (.op (.mov (.k (.d (.bool false)))))⟩])
  (.seq (.seq (.reg 0 [⟨(some 7), 0, none, (.op (.fldA 0 (.t 2)))⟩,
    ⟨(some 8), 0, none, (.op (.load false 1 (.t 7)))⟩,
    ⟨(some 9), 0, none, (.op (.len false (.t 8)))⟩,
    ⟨(some 10), 0, none, (.op (.fldA 0 (.t 3)))⟩,
    ⟨(some 11), 0, none, (.op (.load false 1 (.t 10)))⟩,
    ⟨(some 12), 0, none, (.op (.len false (.t 11)))⟩,
    ⟨(some 13), 0, none, (.op (.bin .neq (.t 9) (.t 12)))⟩,
    ⟨(some 14), 0, none, (.op (.mov (.t 13)))⟩,
    ⟨(some 15), 0, (some (14, false)), (.op (.fldA 1 (.t 2)))⟩,
    ⟨(some 16), 0, (some (14, false)), (.op (.load false 1 (.t 15)))⟩,
    ⟨(some 17), 0, (some (14, false)), (.op (.len false (.t 16)))⟩,
    ⟨(some 18), 0, (some (14, false)), (.op (.fldA 1 (.t 3)))⟩,
    ⟨(some 19), 0, (some (14, false)), (.op (.load false 1 (.t 18)))⟩,
    ⟨(some 20), 0, (some (14, false)), (.op (.len false (.t 19)))⟩,
    ⟨(some 21), 0, (some (14, false)), (.op (.bin .neq (.t 17) (.t 20)))⟩,
    ⟨(some 22), 0, none, (.op (.pick (.t 14) (.k (.d (.bool true))) (.t 21)))⟩])
  (.cond (.t 22)
    (.seq (.reg 0 [⟨(some 4), 0, none, (.op (.mov (.k (.d (.bool false)))))⟩])
    (.ret))
    (.skip)))
  (.seq (.seq (.reg 0 [⟨(some 5), 0, none, (.op (.mov (.k (.d (.int .i64 0)))))⟩])
  (.block 0
   (.loop
    (.seq (.seq (.reg 0 [⟨(some 23), 0, none, (.op (.mov (.t 5)))⟩,
      ⟨(some 24), 0, none, (.op (.fldA 0 (.t 2)))⟩,
      ⟨(some 25), 0, none, (.op (.load false 1 (.t 24)))⟩,
      ⟨(some 26), 0, none, (.op (.len false (.t 25)))⟩,
      ⟨(some 27), 0, none, (.op (.bin .lss (.t 23) (.t 26)))⟩])
    (.cond (.t 27)
      (.skip)
      (.exit 0)))
    (.seq (.block 1
     (.seq (.regD 0 [(⟨(some 30), 0, none, (.op (.fldA 0 (.t 2)))⟩, []),
       (⟨(some 31), 0, none, (.op (.load false 1 (.t 30)))⟩, [0]),
       (⟨(some 32), 0, none, (.op (.mov (.t 5)))⟩, []),
       (⟨(some 33), 0, none, (.op (.idxA 1 none (.t 31) (.t 32)))⟩, [1, 0, 2]),
       (⟨(some 34), 0, none, (.op (.load false 1 (.t 33)))⟩, [3, 1, 0, 2]),
       (⟨(some 35), 0, none, (.op (.fldA 0 (.t 3)))⟩, []),
       (⟨(some 36), 0, none, (.op (.load false 1 (.t 35)))⟩, [5]),
       (⟨(some 37), 0, none, (.op (.mov (.t 5)))⟩, []),
       (⟨(some 38), 0, none, (.op (.idxA 1 none (.t 36) (.t 37)))⟩, [6, 5, 7]),
       (⟨(some 39), 0, none, (.op (.load false 1 (.t 38)))⟩, [8, 6, 5, 7]),
       (⟨(some 40), 0, none, (.op (.bin .neq (.t 34) (.t 39)))⟩, [4, 3, 1, 0, 2, 9, 8, 6, 5, 7])])
     (.cond (.t 40)
       (.seq (.reg 0 [⟨(some 4), 0, none, (.op (.mov (.k (.d (.bool false)))))⟩])
       (.ret))
       (.skip))))
    (.reg 0 [⟨(some 28), 0, none, (.op (.mov (.t 5)))⟩,
      ⟨(some 29), 0, none, (.op (.bin .add (.t 28) (.k (.d (.int .i64 1)))))⟩,
      ⟨(some 5), 0, none, (.op (.mov (.t 29)))⟩]))))))
  (.seq (.seq (.reg 0 [⟨(some 6), 0, none, (.op (.mov (.k (.d (.int .i64 0)))))⟩])
  (.block 2
   (.loop
    (.seq (.seq (.reg 0 [⟨(some 41), 0, none, (.op (.mov (.t 6)))⟩,
      ⟨(some 42), 0, none, (.op (.fldA 1 (.t 2)))⟩,
      ⟨(some 43), 0, none, (.op (.load false 1 (.t 42)))⟩,
      ⟨(some 44), 0, none, (.op (.len false (.t 43)))⟩,
      ⟨(some 45), 0, none, (.op (.bin .lss (.t 41) (.t 44)))⟩])
    (.cond (.t 45)
      (.skip)
      (.exit 2)))
    (.seq (.block 3
     (.seq (.regD 0 [(⟨(some 48), 0, none, (.op (.fldA 1 (.t 2)))⟩, []),
       (⟨(some 49), 0, none, (.op (.load false 1 (.t 48)))⟩, [0]),
       (⟨(some 50), 0, none, (.op (.mov (.t 6)))⟩, []),
       (⟨(some 51), 0, none, (.op (.idxA 1 none (.t 49) (.t 50)))⟩, [1, 0, 2]),
       (⟨(some 52), 0, none, (.op (.load false 1 (.t 51)))⟩, [3, 1, 0, 2]),
       (⟨(some 53), 0, none, (.op (.fldA 1 (.t 3)))⟩, []),
       (⟨(some 54), 0, none, (.op (.load false 1 (.t 53)))⟩, [5]),
       (⟨(some 55), 0, none, (.op (.mov (.t 6)))⟩, []),
       (⟨(some 56), 0, none, (.op (.idxA 1 none (.t 54) (.t 55)))⟩, [6, 5, 7]),
       (⟨(some 57), 0, none, (.op (.load false 1 (.t 56)))⟩, [8, 6, 5, 7]),
       (⟨(some 58), 0, none, (.op (.bin .neq (.t 52) (.t 57)))⟩, [4, 3, 1, 0, 2, 9, 8, 6, 5, 7])])
     (.cond (.t 58)
       (.seq (.reg 0 [⟨(some 4), 0, none, (.op (.mov (.k (.d (.bool false)))))⟩])
       (.ret))
       (.skip))))
    (.reg 0 [⟨(some 46), 0, none, (.op (.mov (.t 6)))⟩,
      ⟨(some 47), 0, none, (.op (.bin .add (.t 46) (.k (.d (.int .i64 1)))))⟩,
      ⟨(some 6), 0, none, (.op (.mov (.t 47)))⟩]))))))
  (.seq (.reg 0 [⟨(some 4), 0, none, (.op (.mov (.k (.d (.bool true)))))⟩])
  (.ret)))))
theorem cc26 : Tryd.f26.body.bind (compC Tryd.prog) = some ac26 := by kernel_rfl
theorem go26 {vals : List V} {v : V} (ac : AC) (he : ac.erase = ac26) (hw : wpC Tryd.prog 0 ac (retQ [.tmp 4] v) ⟨vals ++ List.replicate (59 - vals.length) (.tup []), []⟩) : CallP Tryd.prog 26 vals v :=
  call_of Tryd.func26 rfl rfl rfl (cc26.trans (congrArg some he.symm)) hw
theorem gi26 {vals : List V} {rows : Go.Vx.Rows} {K : V → Go.Vx.Rows → Prop} (ac : AC) (he : ac.erase = ac26) (hw : wpC Tryd.prog rows.length ac (retI [.tmp 4] K) ⟨vals ++ List.replicate (59 - vals.length) (.tup []), rows⟩) : InlP Tryd.prog 26 vals rows K :=
  inl_of' Tryd.func26 rfl rfl rfl (cc26.trans (congrArg some he.symm)) hw
theorem gm26 {vals : List V} {v : V} {sz : Nat} {es es' : List (List V)} (ac : AC) (he : ac.erase = ac26) (hw : wpC Tryd.prog 1 ac (retM [.tmp 4] v sz es') ⟨vals ++ List.replicate (59 - vals.length) (.tup []), [.live sz es]⟩) : CallM Tryd.prog 26 vals sz es v es' :=
  callM_of' Tryd.func26 rfl rfl rfl (cc26.trans (congrArg some he.symm)) hw

/-- testbench/driver.busy -/
def ac27 : AC :=
  .seq (.reg 1 [⟨(some 1), 0, none, (.op (.box 3 (.t 0)))⟩,
    ⟨(some 2), 1, none, (.op (.mov (.k (.d (.bool false)))))⟩])
  (.seq (.reg 1 [⟨(some 6), 0, none, (.op (.load true 3 (.t 1)))⟩,
    ⟨(some 7), 0, none, (.call (.k (.fn (.func 39) [] [])) [(.t 6)])⟩,
    ⟨(some 5), 0, none, (.op (.mov (.t 7)))⟩,
    ⟨(some 8), 0, none, (.op (.ext (.t 5) 0))⟩,
    ⟨(some 9), 0, none, (.op (.ext (.t 5) 1))⟩,
    ⟨(some 3), 0, none, (.op (.alloc [(.bool false), .nils, .nils, (.str [])]))⟩,
    ⟨none, 1, none, (.op (.store 4 (.t 3) (.t 8)))⟩,
    ⟨(some 4), 1, none, (.op (.mov (.t 9)))⟩])
  (.seq (.reg 0 [⟨(some 10), 0, none, (.op (.mov (.t 4)))⟩,
    ⟨(some 11), 0, none, (.op (.mov (.t 10)))⟩,
    ⟨(some 12), 0, (some (11, true)), (.op (.fldA 0 (.t 3)))⟩,
    ⟨(some 13), 0, (some (11, true)), (.op (.load false 1 (.t 12)))⟩,
    ⟨(some 14), 0, (some (11, true)), (.op (.un .not (.t 13)))⟩,
    ⟨(some 15), 0, none, (.op (.pick (.t 11) (.t 14) (.k (.d (.bool false)))))⟩,
    ⟨(some 2), 0, none, (.op (.mov (.t 15)))⟩])
  (.ret)))
theorem cc27 : Tryd.f27.body.bind (compC Tryd.prog) = some ac27 := by kernel_rfl
theorem go27 {vals : List V} {v : V} (ac : AC) (he : ac.erase = ac27) (hw : wpC Tryd.prog 0 ac (retQ [.tmp 2] v) ⟨vals ++ List.replicate (16 - vals.length) (.tup []), []⟩) : CallP Tryd.prog 27 vals v :=
  call_of Tryd.func27 rfl rfl rfl (cc27.trans (congrArg some he.symm)) hw
theorem gi27 {vals : List V} {rows : Go.Vx.Rows} {K : V → Go.Vx.Rows → Prop} (ac : AC) (he : ac.erase = ac27) (hw : wpC Tryd.prog rows.length ac (retI [.tmp 2] K) ⟨vals ++ List.replicate (16 - vals.length) (.tup []), rows⟩) : InlP Tryd.prog 27 vals rows K :=
  inl_of' Tryd.func27 rfl rfl rfl (cc27.trans (congrArg some he.symm)) hw
theorem gm27 {vals : List V} {v : V} {sz : Nat} {es es' : List (List V)} (ac : AC) (he : ac.erase = ac27) (hw : wpC Tryd.prog 1 ac (retM [.tmp 2] v sz es') ⟨vals ++ List.replicate (16 - vals.length) (.tup []), [.live sz es]⟩) : CallM Tryd.prog 27 vals sz es v es' :=
  callM_of' Tryd.func27 rfl rfl rfl (cc27.trans (congrArg some he.symm)) hw

/-- slices.ContainsFunc[[]testbench/api.Slot,testbench/api.Slot] -/
def ac28 : AC :=
  .seq (.reg 0 [⟨(some 4), 0, none, (.op (.mov (.k (.d (.bool false)))))⟩])
  (.seq (.reg 0 [⟨(some 5), 0, none, (.op (.mov (.t 0)))⟩,
    ⟨(some 6), 0, none, (.op (.mov (.t 1)))⟩,
    ⟨(some 7), 0, none, (.call (.k (.fn (.func 45) [] [])) [(.t 5), (.t 6)])⟩,
    ⟨(some 8), 0, none, (.op (.bin .geq (.t 7) (.k (.d (.int .i64 0)))))⟩,
    ⟨(some 4), 0, none, (.op (.mov (.t 8)))⟩])
  (.ret))
theorem cc28 : Tryd.f28.body.bind (compC Tryd.prog) = some ac28 := by kernel_rfl
theorem go28 {vals : List V} {v : V} (ac : AC) (he : ac.erase = ac28) (hw : wpC Tryd.prog 0 ac (retQ [.tmp 4] v) ⟨vals ++ List.replicate (9 - vals.length) (.tup []), []⟩) : CallP Tryd.prog 28 vals v :=
  call_of Tryd.func28 rfl rfl rfl (cc28.trans (congrArg some he.symm)) hw
theorem gi28 {vals : List V} {rows : Go.Vx.Rows} {K : V → Go.Vx.Rows → Prop} (ac : AC) (he : ac.erase = ac28) (hw : wpC Tryd.prog rows.length ac (retI [.tmp 4] K) ⟨vals ++ List.replicate (9 - vals.length) (.tup []), rows⟩) : InlP Tryd.prog 28 vals rows K :=
  inl_of' Tryd.func28 rfl rfl rfl (cc28.trans (congrArg some he.symm)) hw
theorem gm28 {vals : List V} {v : V} {sz : Nat} {es es' : List (List V)} (ac : AC) (he : ac.erase = ac28) (hw : wpC Tryd.prog 1 ac (retM [.tmp 4] v sz es') ⟨vals ++ List.replicate (9 - vals.length) (.tup []), [.live sz es]⟩) : CallM Tryd.prog 28 vals sz es v es' :=
  callM_of' Tryd.func28 rfl rfl rfl (cc28.trans (congrArg some he.symm)) hw

/-- testbench/driver.Valid$1 -/
def ac29 : AC :=
  .seq (.reg 1 [⟨(some 1), 0, none, (.op (.box 4 (.t 0)))⟩,
    ⟨(some 2), 1, none, (.op (.mov (.k (.d (.bool false)))))⟩])
  (.seq (.reg 0 [⟨(some 3), 0, none, (.op (.fldA 0 (.t 1)))⟩,
    ⟨(some 4), 0, none, (.op (.load false 1 (.t 3)))⟩,
    ⟨(some 5), 0, none, (.op (.un .not (.t 4)))⟩,
    ⟨(some 6), 0, none, (.op (.mov (.t 5)))⟩,
    ⟨(some 7), 0, (some (6, true)), (.op (.fldA 1 (.t 1)))⟩,
    ⟨(some 8), 0, (some (6, true)), (.op (.load true 2 (.t 7)))⟩,
    ⟨(some 9), 0, (some (6, true)), (.call (.k (.fn (.func 30) [] [])) [(.t 8)])⟩,
    ⟨(some 10), 0, (some (6, true)), (.op (.un .not (.t 9)))⟩,
    ⟨(some 11), 0, none, (.op (.pick (.t 6) (.t 10) (.k (.d (.bool false)))))⟩,
    ⟨(some 2), 0, none, (.op (.mov (.t 11)))⟩])
  (.ret))
theorem cc29 : Tryd.f29.body.bind (compC Tryd.prog) = some ac29 := by kernel_rfl
theorem go29 {vals : List V} {v : V} (ac : AC) (he : ac.erase = ac29) (hw : wpC Tryd.prog 0 ac (retQ [.tmp 2] v) ⟨vals ++ List.replicate (12 - vals.length) (.tup []), []⟩) : CallP Tryd.prog 29 vals v :=
  call_of Tryd.func29 rfl rfl rfl (cc29.trans (congrArg some he.symm)) hw
theorem gi29 {vals : List V} {rows : Go.Vx.Rows} {K : V → Go.Vx.Rows → Prop} (ac : AC) (he : ac.erase = ac29) (hw : wpC Tryd.prog rows.length ac (retI [.tmp 2] K) ⟨vals ++ List.replicate (12 - vals.length) (.tup []), rows⟩) : InlP Tryd.prog 29 vals rows K :=
  inl_of' Tryd.func29 rfl rfl rfl (cc29.trans (congrArg some he.symm)) hw
theorem gm29 {vals : List V} {v : V} {sz : Nat} {es es' : List (List V)} (ac : AC) (he : ac.erase = ac29) (hw : wpC Tryd.prog 1 ac (retM [.tmp 2] v sz es') ⟨vals ++ List.replicate (12 - vals.length) (.tup []), [.live sz es]⟩) : CallM Tryd.prog 29 vals sz es v es' :=
  callM_of' Tryd.func29 rfl rfl rfl (cc29.trans (congrArg some he.symm)) hw

/-- testbench/txn.Valid -/
def ac30 : AC :=
  .seq (.reg 1 [⟨(some 1), 0, none, (.op (.box 2 (.t 0)))⟩,
    ⟨(some 2), 1, none, (.op (.mov (.k (.d (.bool false)))))⟩])
  (.seq (.seq (.reg 0 [⟨(some 6), 0, none, (.op (.fldA 0 (.t 1)))⟩,
    ⟨(some 7), 0, none, (.op (.load false 1 (.t 6)))⟩,
    ⟨(some 8), 0, none, (.op (.len false (.t 7)))⟩,
    ⟨(some 9), 0, none, (.op (.fldA 1 (.t 1)))⟩,
    ⟨(some 10), 0, none, (.op (.load false 1 (.t 9)))⟩,
    ⟨(some 11), 0, none, (.op (.len false (.t 10)))⟩,
    ⟨(some 12), 0, none, (.op (.bin .neq (.t 8) (.t 11)))⟩,
    ⟨(some 13), 0, none, (.op (.mov (.t 12)))⟩,
    ⟨(some 14), 0, (some (13, false)), (.op (.fldA 0 (.t 1)))⟩,
    ⟨(some 15), 0, (some (13, false)), (.op (.load false 1 (.t 14)))⟩,
    ⟨(some 16), 0, (some (13, false)), (.op (.len false (.t 15)))⟩,
    ⟨(some 17), 0, (some (13, false)), (.op (.bin .gtr (.t 16) (.k (.d (.int .i64 128)))))⟩,
    ⟨(some 18), 0, none, (.op (.pick (.t 13) (.k (.d (.bool true))) (.t 17)))⟩])
  (.cond (.t 18)
    (.seq (.reg 0 [⟨(some 2), 0, none, (.op (.mov (.k (.d (.bool false)))))⟩])
    (.ret))
    (.skip)))
  (.seq (.reg 1 [⟨(some 19), 0, none, (.op (.mkmap))⟩,
    ⟨(some 3), 1, none, (.op (.mov (.t 19)))⟩])
  (.seq (.seq (.reg 0 [⟨(some 20), 0, none, (.op (.fldA 0 (.t 1)))⟩,
    ⟨(some 21), 0, none, (.op (.load false 1 (.t 20)))⟩,
    ⟨(some 22), 0, none, (.op (.len false (.t 21)))⟩,
    ⟨(some 23), 0, none, (.op (.mov (.k (.d (.int .i64 0)))))⟩])
  (.block 0
   (.loop
    (.seq (.reg 0 [⟨(some 24), 0, none, (.op (.bin .lss (.t 23) (.t 22)))⟩])
    (.seq (.cond (.t 24)
      (.skip)
      (.exit 0))
    (.seq (.block 1
     (.seq (.reg 0 [⟨(some 25), 0, none, (.op (.mov (.t 23)))⟩,
       ⟨(some 26), 0, none, (.op (.idxA 1 none (.t 21) (.t 23)))⟩,
       ⟨(some 27), 0, none, (.op (.load false 1 (.t 26)))⟩,
       ⟨(some 4), 0, none, (.op (.mov (.t 25)))⟩,
       ⟨(some 5), 0, none, (.op (.mov (.t 27)))⟩])
     (.seq (.seq (.reg 0 [⟨(some 28), 0, none, (.op (.mov (.t 3)))⟩,
       ⟨(some 29), 0, none, (.op (.mov (.t 5)))⟩,
       ⟨(some 30), 0, none, (.op (.lkp false (.bool false) (.t 28) (.t 29)))⟩,
       ⟨(some 31), 0, none, (.op (.mov (.t 30)))⟩,
       ⟨(some 32), 0, (some (31, false)), (.op (.mov (.t 5)))⟩,
       ⟨(some 33), 0, (some (31, false)), (.call (.k (.fn (.func 46) [] [])) [(.t 32)])⟩,
       ⟨(some 34), 0, (some (31, false)), (.op (.un .not (.t 33)))⟩,
       ⟨(some 35), 0, none, (.op (.pick (.t 31) (.k (.d (.bool true))) (.t 34)))⟩,
       ⟨(some 36), 0, none, (.op (.mov (.t 35)))⟩,
       ⟨(some 37), 0, (some (36, false)), (.op (.fldA 1 (.t 1)))⟩,
       ⟨(some 38), 0, (some (36, false)), (.op (.load false 1 (.t 37)))⟩,
       ⟨(some 39), 0, (some (36, false)), (.op (.mov (.t 4)))⟩,
       ⟨(some 40), 0, (some (36, false)), (.op (.idxA 1 none (.t 38) (.t 39)))⟩,
       ⟨(some 41), 0, (some (36, false)), (.op (.load false 1 (.t 40)))⟩,
       ⟨(some 42), 0, (some (36, false)), (.call (.k (.fn (.func 47) [] [])) [(.t 41)])⟩,
       ⟨(some 43), 0, (some (36, false)), (.op (.un .not (.t 42)))⟩,
       ⟨(some 44), 0, none, (.op (.pick (.t 36) (.k (.d (.bool true))) (.t 43)))⟩])
     (.cond (.t 44)
       (.seq (.reg 0 [⟨(some 2), 0, none, (.op (.mov (.k (.d (.bool false)))))⟩])
       (.ret))
       (.skip)))
     (.reg 0 [⟨(some 45), 0, none, (.op (.mov (.t 3)))⟩,
       ⟨(some 46), 0, none, (.op (.mov (.t 5)))⟩,
       ⟨none, 0, none, (.op (.upd (.t 45) (.t 46) (.k (.d (.bool true)))))⟩]))))
    (.reg 0 [⟨(some 47), 0, none, (.op (.bin .add (.t 23) (.k (.d (.int .i64 1)))))⟩,
      ⟨(some 23), 0, none, (.op (.mov (.t 47)))⟩])))))))
  (.seq (.reg 0 [⟨(some 2), 0, none, (.op (.mov (.k (.d (.bool true)))))⟩])
  (.ret)))))
theorem cc30 : Tryd.f30.body.bind (compC Tryd.prog) = some ac30 := by kernel_rfl
theorem go30 {vals : List V} {v : V} (ac : AC) (he : ac.erase = ac30) (hw : wpC Tryd.prog 0 ac (retQ [.tmp 2] v) ⟨vals ++ List.replicate (48 - vals.length) (.tup []), []⟩) : CallP Tryd.prog 30 vals v :=
  call_of Tryd.func30 rfl rfl rfl (cc30.trans (congrArg some he.symm)) hw
theorem gi30 {vals : List V} {rows : Go.Vx.Rows} {K : V → Go.Vx.Rows → Prop} (ac : AC) (he : ac.erase = ac30) (hw : wpC Tryd.prog rows.length ac (retI [.tmp 2] K) ⟨vals ++ List.replicate (48 - vals.length) (.tup []), rows⟩) : InlP Tryd.prog 30 vals rows K :=
  inl_of' Tryd.func30 rfl rfl rfl (cc30.trans (congrArg some he.symm)) hw
theorem gm30 {vals : List V} {v : V} {sz : Nat} {es es' : List (List V)} (ac : AC) (he : ac.erase = ac30) (hw : wpC Tryd.prog 1 ac (retM [.tmp 2] v sz es') ⟨vals ++ List.replicate (48 - vals.length) (.tup []), [.live sz es]⟩) : CallM Tryd.prog 30 vals sz es v es' :=
  callM_of' Tryd.func30 rfl rfl rfl (cc30.trans (congrArg some he.symm)) hw

/-- testbench/testbenchref36.busy -/
def ac31 : AC :=
  .seq (.reg 1 [⟨(some 1), 0, none, (.op (.box 3 (.t 0)))⟩,
    ⟨(some 2), 1, none, (.op (.mov (.k (.d (.bool false)))))⟩])
  (.seq (.reg 0 [⟨(some 3), 0, none, (.op (.fldA 1 (.t 1)))⟩,
    ⟨(some 4), 0, none, (.op (.load false 1 (.t 3)))⟩,
    ⟨(some 5), 0, none, (.op (.bin .geq (.t 4) (.k (.d (.int .i64 0)))))⟩,
    ⟨(some 6), 0, none, (.op (.mov (.t 5)))⟩,
    ⟨(some 7), 0, (some (6, true)), (.op (.fldA 1 (.t 1)))⟩,
    ⟨(some 8), 0, (some (6, true)), (.op (.load false 1 (.t 7)))⟩,
    ⟨(some 9), 0, (some (6, true)), (.op (.fldA 0 (.t 1)))⟩,
    ⟨(some 10), 0, (some (6, true)), (.op (.load false 1 (.t 9)))⟩,
    ⟨(some 11), 0, (some (6, true)), (.op (.len false (.t 10)))⟩,
    ⟨(some 12), 0, (some (6, true)), (.op (.bin .lss (.t 8) (.t 11)))⟩,
    ⟨(some 13), 0, none, (.op (.pick (.t 6) (.t 12) (.k (.d (.bool false)))))⟩,
    ⟨(some 14), 0, none, (.op (.mov (.t 13)))⟩,
    ⟨(some 15), 0, (some (14, true)), (.op (.fldA 0 (.t 1)))⟩,
    ⟨(some 16), 0, (some (14, true)), (.op (.load false 1 (.t 15)))⟩,
    ⟨(some 17), 0, (some (14, true)), (.op (.fldA 1 (.t 1)))⟩,
    ⟨(some 18), 0, (some (14, true)), (.op (.load false 1 (.t 17)))⟩,
    ⟨(some 19), 0, (some (14, true)), (.op (.idxA 4 none (.t 16) (.t 18)))⟩,
    ⟨(some 20), 0, (some (14, true)), (.op (.fldA 0 (.t 19)))⟩,
    ⟨(some 21), 0, (some (14, true)), (.op (.load false 1 (.t 20)))⟩,
    ⟨(some 22), 0, (some (14, true)), (.op (.un .not (.t 21)))⟩,
    ⟨(some 23), 0, none, (.op (.pick (.t 14) (.t 22) (.k (.d (.bool false)))))⟩,
    ⟨(some 2), 0, none, (.op (.mov (.t 23)))⟩])
  (.ret))
theorem cc31 : Tryd.f31.body.bind (compC Tryd.prog) = some ac31 := by kernel_rfl
theorem go31 {vals : List V} {v : V} (ac : AC) (he : ac.erase = ac31) (hw : wpC Tryd.prog 0 ac (retQ [.tmp 2] v) ⟨vals ++ List.replicate (24 - vals.length) (.tup []), []⟩) : CallP Tryd.prog 31 vals v :=
  call_of Tryd.func31 rfl rfl rfl (cc31.trans (congrArg some he.symm)) hw
theorem gi31 {vals : List V} {rows : Go.Vx.Rows} {K : V → Go.Vx.Rows → Prop} (ac : AC) (he : ac.erase = ac31) (hw : wpC Tryd.prog rows.length ac (retI [.tmp 2] K) ⟨vals ++ List.replicate (24 - vals.length) (.tup []), rows⟩) : InlP Tryd.prog 31 vals rows K :=
  inl_of' Tryd.func31 rfl rfl rfl (cc31.trans (congrArg some he.symm)) hw
theorem gm31 {vals : List V} {v : V} {sz : Nat} {es es' : List (List V)} (ac : AC) (he : ac.erase = ac31) (hw : wpC Tryd.prog 1 ac (retM [.tmp 2] v sz es') ⟨vals ++ List.replicate (24 - vals.length) (.tup []), [.live sz es]⟩) : CallM Tryd.prog 31 vals sz es v es' :=
  callM_of' Tryd.func31 rfl rfl rfl (cc31.trans (congrArg some he.symm)) hw

/-- testbench/driver.txnCopy -/
def ac32 : AC :=
  .seq (.reg 2 [⟨(some 1), 0, none, (.op (.box 2 (.t 0)))⟩,
    ⟨(some 2), 1, none, (.op (.alloc [.nils, .nils]))⟩])
  (.seq (.regD 0 [(⟨(some 3), 0, none, (.op (.fldA 0 (.t 1)))⟩, []),
    (⟨(some 4), 0, none, (.op (.load false 1 (.t 3)))⟩, [0]),
    (⟨(some 5), 0, none, (.call (.k (.fn (.func 48) [] [])) [(.t 4)])⟩, [1, 0]),
    (⟨(some 6), 0, none, (.op (.fldA 1 (.t 1)))⟩, []),
    (⟨(some 7), 0, none, (.op (.load false 1 (.t 6)))⟩, [3]),
    (⟨(some 8), 0, none, (.call (.k (.fn (.func 49) [] [])) [(.t 7)])⟩, [4, 3, 2, 1, 0]),
    (⟨(some 9), 0, none, (.op (.build [.nils, .nils] [(0, 1, (.t 5)), (1, 1, (.t 8))]))⟩, [2, 1, 0, 5, 4, 3]),
    (⟨none, 0, none, (.op (.store 2 (.t 2) (.t 9)))⟩, [6, 2, 1, 0, 5, 4, 3])])
  (.ret))
theorem cc32 : Tryd.f32.body.bind (compC Tryd.prog) = some ac32 := by kernel_rfl
theorem go32 {vals : List V} {v : V} (ac : AC) (he : ac.erase = ac32) (hw : wpC Tryd.prog 0 ac (retQ [.cell 2 true 2] v) ⟨vals ++ List.replicate (10 - vals.length) (.tup []), []⟩) : CallP Tryd.prog 32 vals v :=
  call_of Tryd.func32 rfl rfl rfl (cc32.trans (congrArg some he.symm)) hw
theorem gi32 {vals : List V} {rows : Go.Vx.Rows} {K : V → Go.Vx.Rows → Prop} (ac : AC) (he : ac.erase = ac32) (hw : wpC Tryd.prog rows.length ac (retI [.cell 2 true 2] K) ⟨vals ++ List.replicate (10 - vals.length) (.tup []), rows⟩) : InlP Tryd.prog 32 vals rows K :=
  inl_of' Tryd.func32 rfl rfl rfl (cc32.trans (congrArg some he.symm)) hw
theorem gm32 {vals : List V} {v : V} {sz : Nat} {es es' : List (List V)} (ac : AC) (he : ac.erase = ac32) (hw : wpC Tryd.prog 1 ac (retM [.cell 2 true 2] v sz es') ⟨vals ++ List.replicate (10 - vals.length) (.tup []), [.live sz es]⟩) : CallM Tryd.prog 32 vals sz es v es' :=
  callM_of' Tryd.func32 rfl rfl rfl (cc32.trans (congrArg some he.symm)) hw

/-- testbench/driver.Drive$1 -/
def ac33 : AC :=
  .seq (.reg 1 [⟨(some 3), 0, none, (.op (.box 1 (.t 0)))⟩])
  (.seq (.reg 0 [⟨(some 5), 0, none, (.op (.load false 1 (.t 2)))⟩,
    ⟨(some 6), 0, none, (.op (.mkfn (.func 35) [] [(.t 3)]))⟩,
    ⟨(some 7), 0, none, (.call (.k (.fn (.func 34) [] [])) [(.t 5), (.t 6)])⟩,
    ⟨(some 8), 0, none, (.op (.un .not (.t 7)))⟩])
  (.cond (.t 8)
    (.reg 2 [⟨(some 9), 0, none, (.op (.load false 1 (.t 2)))⟩,
      ⟨(some 10), 0, none, (.op (.load false 1 (.t 3)))⟩,
      ⟨(some 11), 0, none, (.op (.mov (.t 1)))⟩,
      ⟨(some 12), 0, none, (.op (.build [(.str []), (.int .i64 0)] [(0, 1, (.t 10)), (1, 1, (.t 11))]))⟩,
      ⟨(some 13), 0, none, (.op (.buildSl 2 1 [(.str []), (.int .i64 0)] [(0, (.t 12))]))⟩,
      ⟨(some 14), 1, none, (.op (.append 2 24 (.t 9) (.t 13)))⟩,
      ⟨none, 2, none, (.op (.store 1 (.t 2) (.t 14)))⟩])
    (.skip)))
theorem cc33 : Tryd.f33.body.bind (compC Tryd.prog) = some ac33 := by kernel_rfl
theorem go33 {vals : List V} {v : V} (ac : AC) (he : ac.erase = ac33) (hw : wpC Tryd.prog 0 ac (retQ [] v) ⟨vals ++ List.replicate (15 - vals.length) (.tup []), []⟩) : CallP Tryd.prog 33 vals v :=
  call_of Tryd.func33 rfl rfl rfl (cc33.trans (congrArg some he.symm)) hw
theorem gi33 {vals : List V} {rows : Go.Vx.Rows} {K : V → Go.Vx.Rows → Prop} (ac : AC) (he : ac.erase = ac33) (hw : wpC Tryd.prog rows.length ac (retI [] K) ⟨vals ++ List.replicate (15 - vals.length) (.tup []), rows⟩) : InlP Tryd.prog 33 vals rows K :=
  inl_of' Tryd.func33 rfl rfl rfl (cc33.trans (congrArg some he.symm)) hw
theorem gm33 {vals : List V} {v : V} {sz : Nat} {es es' : List (List V)} (ac : AC) (he : ac.erase = ac33) (hw : wpC Tryd.prog 1 ac (retM [] v sz es') ⟨vals ++ List.replicate (15 - vals.length) (.tup []), [.live sz es]⟩) : CallM Tryd.prog 33 vals sz es v es' :=
  callM_of' Tryd.func33 rfl rfl rfl (cc33.trans (congrArg some he.symm)) hw

/-- slices.ContainsFunc[[]testbench/api.Signal,testbench/api.Signal] -/
def ac34 : AC :=
  .seq (.reg 0 [⟨(some 4), 0, none, (.op (.mov (.k (.d (.bool false)))))⟩])
  (.seq (.reg 0 [⟨(some 5), 0, none, (.op (.mov (.t 0)))⟩,
    ⟨(some 6), 0, none, (.op (.mov (.t 1)))⟩,
    ⟨(some 7), 0, none, (.call (.k (.fn (.func 50) [] [])) [(.t 5), (.t 6)])⟩,
    ⟨(some 8), 0, none, (.op (.bin .geq (.t 7) (.k (.d (.int .i64 0)))))⟩,
    ⟨(some 4), 0, none, (.op (.mov (.t 8)))⟩])
  (.ret))
theorem cc34 : Tryd.f34.body.bind (compC Tryd.prog) = some ac34 := by kernel_rfl
theorem go34 {vals : List V} {v : V} (ac : AC) (he : ac.erase = ac34) (hw : wpC Tryd.prog 0 ac (retQ [.tmp 4] v) ⟨vals ++ List.replicate (9 - vals.length) (.tup []), []⟩) : CallP Tryd.prog 34 vals v :=
  call_of Tryd.func34 rfl rfl rfl (cc34.trans (congrArg some he.symm)) hw
theorem gi34 {vals : List V} {rows : Go.Vx.Rows} {K : V → Go.Vx.Rows → Prop} (ac : AC) (he : ac.erase = ac34) (hw : wpC Tryd.prog rows.length ac (retI [.tmp 4] K) ⟨vals ++ List.replicate (9 - vals.length) (.tup []), rows⟩) : InlP Tryd.prog 34 vals rows K :=
  inl_of' Tryd.func34 rfl rfl rfl (cc34.trans (congrArg some he.symm)) hw
theorem gm34 {vals : List V} {v : V} {sz : Nat} {es es' : List (List V)} (ac : AC) (he : ac.erase = ac34) (hw : wpC Tryd.prog 1 ac (retM [.tmp 4] v sz es') ⟨vals ++ List.replicate (9 - vals.length) (.tup []), [.live sz es]⟩) : CallM Tryd.prog 34 vals sz es v es' :=
  callM_of' Tryd.func34 rfl rfl rfl (cc34.trans (congrArg some he.symm)) hw

/-- testbench/driver.Drive$1$1 -/
def ac35 : AC :=
  .seq (.reg 1 [⟨(some 2), 0, none, (.op (.box 2 (.t 0)))⟩,
    ⟨(some 3), 1, none, (.op (.mov (.k (.d (.bool false)))))⟩])
  (.seq (.reg 0 [⟨(some 4), 0, none, (.op (.fldA 0 (.t 2)))⟩,
    ⟨(some 5), 0, none, (.op (.load false 1 (.t 4)))⟩,
    ⟨(some 6), 0, none, (.op (.load false 1 (.t 1)))⟩,
    ⟨(some 7), 0, none, (.op (.bin .eql (.t 5) (.t 6)))⟩,
    ⟨(some 3), 0, none, (.op (.mov (.t 7)))⟩])
  (.ret))
theorem cc35 : Tryd.f35.body.bind (compC Tryd.prog) = some ac35 := by kernel_rfl
theorem go35 {vals : List V} {v : V} (ac : AC) (he : ac.erase = ac35) (hw : wpC Tryd.prog 0 ac (retQ [.tmp 3] v) ⟨vals ++ List.replicate (8 - vals.length) (.tup []), []⟩) : CallP Tryd.prog 35 vals v :=
  call_of Tryd.func35 rfl rfl rfl (cc35.trans (congrArg some he.symm)) hw
theorem gi35 {vals : List V} {rows : Go.Vx.Rows} {K : V → Go.Vx.Rows → Prop} (ac : AC) (he : ac.erase = ac35) (hw : wpC Tryd.prog rows.length ac (retI [.tmp 3] K) ⟨vals ++ List.replicate (8 - vals.length) (.tup []), rows⟩) : InlP Tryd.prog 35 vals rows K :=
  inl_of' Tryd.func35 rfl rfl rfl (cc35.trans (congrArg some he.symm)) hw
theorem gm35 {vals : List V} {v : V} {sz : Nat} {es es' : List (List V)} (ac : AC) (he : ac.erase = ac35) (hw : wpC Tryd.prog 1 ac (retM [.tmp 3] v sz es') ⟨vals ++ List.replicate (8 - vals.length) (.tup []), [.live sz es]⟩) : CallM Tryd.prog 35 vals sz es v es' :=
  callM_of' Tryd.func35 rfl rfl rfl (cc35.trans (congrArg some he.symm)) hw

/-- testbench/txn.Get -/
def ac36 : AC :=
  .seq (.reg 1 [⟨(some 2), 0, none, (.op (.box 2 (.t 0)))⟩,
    ⟨(some 4), 1, none, (.op (.mov (.k (.d (.int .i64 0)))))⟩,
    ⟨(some 5), 1, none, (.op (.mov (.k (.d (.bool false)))))⟩])
  (.seq (.reg 0 [⟨(some 7), 0, none, (.op (.fldA 0 (.t 2)))⟩,
    ⟨(some 8), 0, none, (.op (.load false 1 (.t 7)))⟩,
    ⟨(some 9), 0, none, (.op (.mov (.t 1)))⟩,
    ⟨(some 10), 0, none, (.call (.k (.fn (.func 51) [] [])) [(.t 8), (.t 9)])⟩,
    ⟨(some 6), 0, none, (.op (.mov (.t 10)))⟩])
  (.seq (.seq (.reg 0 [⟨(some 11), 0, none, (.op (.mov (.t 6)))⟩,
    ⟨(some 12), 0, none, (.op (.bin .lss (.t 11) (.k (.d (.int .i64 0)))))⟩,
    ⟨(some 13), 0, none, (.op (.mov (.t 12)))⟩,
    ⟨(some 14), 0, (some (13, false)), (.op (.mov (.t 6)))⟩,
    ⟨(some 15), 0, (some (13, false)), (.op (.fldA 1 (.t 2)))⟩,
    ⟨(some 16), 0, (some (13, false)), (.op (.load false 1 (.t 15)))⟩,
    ⟨(some 17), 0, (some (13, false)), (.op (.len false (.t 16)))⟩,
    ⟨(some 18), 0, (some (13, false)), (.op (.bin .geq (.t 14) (.t 17)))⟩,
    ⟨(some 19), 0, none, (.op (.pick (.t 13) (.k (.d (.bool true))) (.t 18)))⟩])
  (.cond (.t 19)
    (.seq (.reg 0 [⟨(some 4), 0, none, (.op (.mov (.k (.d (.int .i64 0)))))⟩,
      ⟨(some 5), 0, none, (.op (.mov (.k (.d (.bool false)))))⟩])
    (.ret))
    (.skip)))
  (.seq (.reg 0 [⟨(some 20), 0, none, (.op (.fldA 1 (.t 2)))⟩,
    ⟨(some 21), 0, none, (.op (.load false 1 (.t 20)))⟩,
    ⟨(some 22), 0, none, (.op (.mov (.t 6)))⟩,
    ⟨(some 23), 0, none, (.op (.idxA 1 none (.t 21) (.t 22)))⟩,
    ⟨(some 24), 0, none, (.op (.load false 1 (.t 23)))⟩,
    ⟨(some 4), 0, none, (.op (.mov (.t 24)))⟩,
    ⟨(some 5), 0, none, (.op (.mov (.k (.d (.bool true)))))⟩])
  (.ret))))
theorem cc36 : Tryd.f36.body.bind (compC Tryd.prog) = some ac36 := by kernel_rfl
theorem go36 {vals : List V} {v : V} (ac : AC) (he : ac.erase = ac36) (hw : wpC Tryd.prog 0 ac (retQ [.tmp 4, .tmp 5] v) ⟨vals ++ List.replicate (25 - vals.length) (.tup []), []⟩) : CallP Tryd.prog 36 vals v :=
  call_of Tryd.func36 rfl rfl rfl (cc36.trans (congrArg some he.symm)) hw
theorem gi36 {vals : List V} {rows : Go.Vx.Rows} {K : V → Go.Vx.Rows → Prop} (ac : AC) (he : ac.erase = ac36) (hw : wpC Tryd.prog rows.length ac (retI [.tmp 4, .tmp 5] K) ⟨vals ++ List.replicate (25 - vals.length) (.tup []), rows⟩) : InlP Tryd.prog 36 vals rows K :=
  inl_of' Tryd.func36 rfl rfl rfl (cc36.trans (congrArg some he.symm)) hw
theorem gm36 {vals : List V} {v : V} {sz : Nat} {es es' : List (List V)} (ac : AC) (he : ac.erase = ac36) (hw : wpC Tryd.prog 1 ac (retM [.tmp 4, .tmp 5] v sz es') ⟨vals ++ List.replicate (25 - vals.length) (.tup []), [.live sz es]⟩) : CallM Tryd.prog 36 vals sz es v es' :=
  callM_of' Tryd.func36 rfl rfl rfl (cc36.trans (congrArg some he.symm)) hw

/-- testbench/testbenchref36.has -/
def ac37 : AC :=
  .seq (.reg 0 [⟨(some 4), 0, none, (.op (.mov (.k (.d (.bool false)))))⟩])
  (.seq (.seq (.reg 0 [⟨(some 5), 0, none, (.op (.mov (.k (.d (.int .i64 0)))))⟩])
  (.block 0
   (.loop
    (.seq (.seq (.reg 0 [⟨(some 6), 0, none, (.op (.mov (.t 5)))⟩,
      ⟨(some 7), 0, none, (.op (.mov (.t 0)))⟩,
      ⟨(some 8), 0, none, (.op (.len false (.t 7)))⟩,
      ⟨(some 9), 0, none, (.op (.bin .lss (.t 6) (.t 8)))⟩])
    (.cond (.t 9)
      (.skip)
      (.exit 0)))
    (.seq (.block 1
     (.seq (.reg 0 [⟨(some 12), 0, none, (.op (.mov (.t 0)))⟩,
       ⟨(some 13), 0, none, (.op (.mov (.t 5)))⟩,
       ⟨(some 14), 0, none, (.op (.idxA 2 none (.t 12) (.t 13)))⟩,
       ⟨(some 15), 0, none, (.op (.fldA 0 (.t 14)))⟩,
       ⟨(some 16), 0, none, (.op (.load false 1 (.t 15)))⟩,
       ⟨(some 17), 0, none, (.op (.mov (.t 1)))⟩,
       ⟨(some 18), 0, none, (.op (.bin .eql (.t 16) (.t 17)))⟩])
     (.cond (.t 18)
       (.seq (.reg 0 [⟨(some 4), 0, none, (.op (.mov (.k (.d (.bool true)))))⟩])
       (.ret))
       (.skip))))
    (.reg 0 [⟨(some 10), 0, none, (.op (.mov (.t 5)))⟩,
      ⟨(some 11), 0, none, (.op (.bin .add (.t 10) (.k (.d (.int .i64 1)))))⟩,
      ⟨(some 5), 0, none, (.op (.mov (.t 11)))⟩]))))))
  (.seq (.reg 0 [⟨(some 4), 0, none, (.op (.mov (.k (.d (.bool false)))))⟩])
  (.ret)))
theorem cc37 : Tryd.f37.body.bind (compC Tryd.prog) = some ac37 := by kernel_rfl
theorem go37 {vals : List V} {v : V} (ac : AC) (he : ac.erase = ac37) (hw : wpC Tryd.prog 0 ac (retQ [.tmp 4] v) ⟨vals ++ List.replicate (19 - vals.length) (.tup []), []⟩) : CallP Tryd.prog 37 vals v :=
  call_of Tryd.func37 rfl rfl rfl (cc37.trans (congrArg some he.symm)) hw
theorem gi37 {vals : List V} {rows : Go.Vx.Rows} {K : V → Go.Vx.Rows → Prop} (ac : AC) (he : ac.erase = ac37) (hw : wpC Tryd.prog rows.length ac (retI [.tmp 4] K) ⟨vals ++ List.replicate (19 - vals.length) (.tup []), rows⟩) : InlP Tryd.prog 37 vals rows K :=
  inl_of' Tryd.func37 rfl rfl rfl (cc37.trans (congrArg some he.symm)) hw
theorem gm37 {vals : List V} {v : V} {sz : Nat} {es es' : List (List V)} (ac : AC) (he : ac.erase = ac37) (hw : wpC Tryd.prog 1 ac (retM [.tmp 4] v sz es') ⟨vals ++ List.replicate (19 - vals.length) (.tup []), [.live sz es]⟩) : CallM Tryd.prog 37 vals sz es v es' :=
  callM_of' Tryd.func37 rfl rfl rfl (cc37.trans (congrArg some he.symm)) hw

/-- testbench/testbenchref26.Get -/
def ac38 : AC :=
  .seq (.reg 1 [⟨(some 2), 0, none, (.op (.box 2 (.t 0)))⟩,
    ⟨(some 4), 1, none, (.op (.mov (.k (.d (.int .i64 0)))))⟩,
    ⟨(some 5), 1, none, (.op (.mov (.k (.d (.bool false)))))⟩])
  (.seq (.reg 0 [⟨(some 7), 0, none, (.op (.fldA 0 (.t 2)))⟩,
    ⟨(some 8), 0, none, (.op (.load false 1 (.t 7)))⟩,
    ⟨(some 9), 0, none, (.op (.mov (.t 1)))⟩,
    ⟨(some 10), 0, none, (.call (.k (.fn (.func 52) [] [])) [(.t 8), (.t 9)])⟩,
    ⟨(some 6), 0, none, (.op (.mov (.t 10)))⟩])
  (.seq (.seq (.reg 0 [⟨(some 11), 0, none, (.op (.mov (.t 6)))⟩,
    ⟨(some 12), 0, none, (.op (.bin .lss (.t 11) (.k (.d (.int .i64 0)))))⟩,
    ⟨(some 13), 0, none, (.op (.mov (.t 12)))⟩,
    ⟨(some 14), 0, (some (13, false)), (.op (.mov (.t 6)))⟩,
    ⟨(some 15), 0, (some (13, false)), (.op (.fldA 1 (.t 2)))⟩,
    ⟨(some 16), 0, (some (13, false)), (.op (.load false 1 (.t 15)))⟩,
    ⟨(some 17), 0, (some (13, false)), (.op (.len false (.t 16)))⟩,
    ⟨(some 18), 0, (some (13, false)), (.op (.bin .geq (.t 14) (.t 17)))⟩,
    ⟨(some 19), 0, none, (.op (.pick (.t 13) (.k (.d (.bool true))) (.t 18)))⟩])
  (.cond (.t 19)
    (.seq (.reg 0 [⟨(some 4), 0, none, (.op (.mov (.k (.d (.int .i64 0)))))⟩,
      ⟨(some 5), 0, none, (.op (.mov (.k (.d (.bool false)))))⟩])
    (.ret))
    (.skip)))
  (.seq (.reg 0 [⟨(some 20), 0, none, (.op (.fldA 1 (.t 2)))⟩,
    ⟨(some 21), 0, none, (.op (.load false 1 (.t 20)))⟩,
    ⟨(some 22), 0, none, (.op (.mov (.t 6)))⟩,
    ⟨(some 23), 0, none, (.op (.idxA 1 none (.t 21) (.t 22)))⟩,
    ⟨(some 24), 0, none, (.op (.load false 1 (.t 23)))⟩,
    ⟨(some 4), 0, none, (.op (.mov (.t 24)))⟩,
    ⟨(some 5), 0, none, (.op (.mov (.k (.d (.bool true)))))⟩])
  (.ret))))
theorem cc38 : Tryd.f38.body.bind (compC Tryd.prog) = some ac38 := by kernel_rfl
theorem go38 {vals : List V} {v : V} (ac : AC) (he : ac.erase = ac38) (hw : wpC Tryd.prog 0 ac (retQ [.tmp 4, .tmp 5] v) ⟨vals ++ List.replicate (25 - vals.length) (.tup []), []⟩) : CallP Tryd.prog 38 vals v :=
  call_of Tryd.func38 rfl rfl rfl (cc38.trans (congrArg some he.symm)) hw
theorem gi38 {vals : List V} {rows : Go.Vx.Rows} {K : V → Go.Vx.Rows → Prop} (ac : AC) (he : ac.erase = ac38) (hw : wpC Tryd.prog rows.length ac (retI [.tmp 4, .tmp 5] K) ⟨vals ++ List.replicate (25 - vals.length) (.tup []), rows⟩) : InlP Tryd.prog 38 vals rows K :=
  inl_of' Tryd.func38 rfl rfl rfl (cc38.trans (congrArg some he.symm)) hw
theorem gm38 {vals : List V} {v : V} {sz : Nat} {es es' : List (List V)} (ac : AC) (he : ac.erase = ac38) (hw : wpC Tryd.prog 1 ac (retM [.tmp 4, .tmp 5] v sz es') ⟨vals ++ List.replicate (25 - vals.length) (.tup []), [.live sz es]⟩) : CallM Tryd.prog 38 vals sz es v es' :=
  callM_of' Tryd.func38 rfl rfl rfl (cc38.trans (congrArg some he.symm)) hw

/-- testbench/driver.now -/
def ac39 : AC :=
  .seq (.reg 2 [⟨(some 1), 0, none, (.op (.box 3 (.t 0)))⟩,
    ⟨(some 2), 1, none, (.op (.alloc [(.bool false), .nils, .nils, (.str [])]))⟩,
    ⟨(some 3), 2, none, (.op (.mov (.k (.d (.bool false)))))⟩])
  (.seq (.seq (.reg 0 [⟨(some 4), 0, none, (.op (.fldA 1 (.t 1)))⟩,
    ⟨(some 5), 0, none, (.op (.load false 1 (.t 4)))⟩,
    ⟨(some 6), 0, none, (.op (.bin .lss (.t 5) (.k (.d (.int .i64 0)))))⟩,
    ⟨(some 7), 0, none, (.op (.mov (.t 6)))⟩,
    ⟨(some 8), 0, (some (7, false)), (.op (.fldA 1 (.t 1)))⟩,
    ⟨(some 9), 0, (some (7, false)), (.op (.load false 1 (.t 8)))⟩,
    ⟨(some 10), 0, (some (7, false)), (.op (.fldA 0 (.t 1)))⟩,
    ⟨(some 11), 0, (some (7, false)), (.op (.load false 1 (.t 10)))⟩,
    ⟨(some 12), 0, (some (7, false)), (.op (.len false (.t 11)))⟩,
    ⟨(some 13), 0, (some (7, false)), (.op (.bin .geq (.t 9) (.t 12)))⟩,
    ⟨(some 14), 0, none, (.op (.pick (.t 7) (.k (.d (.bool true))) (.t 13)))⟩])
  (.cond (.t 14)
    (.seq (.reg 0 [⟨(some 15), 0, none, (.op (.build [(.bool false), .nils, .nils, (.str [])] []))⟩,
      ⟨none, 0, none, (.op (.store 4 (.t 2) (.t 15)))⟩,
      ⟨(some 3), 0, none, (.op (.mov (.k (.d (.bool false)))))⟩])
    (.ret))
    (.skip)))
  (.seq (.reg 0 [⟨(some 16), 0, none, (.op (.fldA 0 (.t 1)))⟩,
    ⟨(some 17), 0, none, (.op (.load false 1 (.t 16)))⟩,
    ⟨(some 18), 0, none, (.op (.fldA 1 (.t 1)))⟩,
    ⟨(some 19), 0, none, (.op (.load false 1 (.t 18)))⟩,
    ⟨(some 20), 0, none, (.op (.idxA 4 none (.t 17) (.t 19)))⟩,
    ⟨(some 21), 0, none, (.op (.load true 4 (.t 20)))⟩,
    ⟨none, 0, none, (.op (.store 4 (.t 2) (.t 21)))⟩,
    ⟨(some 3), 0, none, (.op (.mov (.k (.d (.bool true)))))⟩])
  (.ret)))
theorem cc39 : Tryd.f39.body.bind (compC Tryd.prog) = some ac39 := by kernel_rfl
theorem go39 {vals : List V} {v : V} (ac : AC) (he : ac.erase = ac39) (hw : wpC Tryd.prog 0 ac (retQ [.cell 2 true 4, .tmp 3] v) ⟨vals ++ List.replicate (22 - vals.length) (.tup []), []⟩) : CallP Tryd.prog 39 vals v :=
  call_of Tryd.func39 rfl rfl rfl (cc39.trans (congrArg some he.symm)) hw
theorem gi39 {vals : List V} {rows : Go.Vx.Rows} {K : V → Go.Vx.Rows → Prop} (ac : AC) (he : ac.erase = ac39) (hw : wpC Tryd.prog rows.length ac (retI [.cell 2 true 4, .tmp 3] K) ⟨vals ++ List.replicate (22 - vals.length) (.tup []), rows⟩) : InlP Tryd.prog 39 vals rows K :=
  inl_of' Tryd.func39 rfl rfl rfl (cc39.trans (congrArg some he.symm)) hw
theorem gm39 {vals : List V} {v : V} {sz : Nat} {es es' : List (List V)} (ac : AC) (he : ac.erase = ac39) (hw : wpC Tryd.prog 1 ac (retM [.cell 2 true 4, .tmp 3] v sz es') ⟨vals ++ List.replicate (22 - vals.length) (.tup []), [.live sz es]⟩) : CallM Tryd.prog 39 vals sz es v es' :=
  callM_of' Tryd.func39 rfl rfl rfl (cc39.trans (congrArg some he.symm)) hw

/-- (testbench/driver.idle).pass -/
def ac40 : AC :=
  .seq (.reg 2 [⟨(some 1), 0, none, (.op (.box 3 (.t 0)))⟩,
    ⟨(some 2), 1, none, (.op (.alloc [.nils, (.int .i64 0), (.int .i64 0)]))⟩,
    ⟨(some 3), 2, none, (.op (.mov (.k (.d (.bool false)))))⟩])
  (.seq (.reg 0 [⟨(some 4), 0, none, (.op (.fldA 0 (.t 1)))⟩,
    ⟨(some 5), 0, none, (.op (.fldA 0 (.t 4)))⟩,
    ⟨(some 6), 0, none, (.op (.load false 1 (.t 5)))⟩,
    ⟨(some 7), 0, none, (.op (.fldA 0 (.t 1)))⟩,
    ⟨(some 8), 0, none, (.op (.fldA 1 (.t 7)))⟩,
    ⟨(some 9), 0, none, (.op (.load false 1 (.t 8)))⟩,
    ⟨(some 10), 0, none, (.op (.bin .add (.t 9) (.k (.d (.int .i64 1)))))⟩,
    ⟨(some 11), 0, none, (.op (.build [.nils, (.int .i64 0), (.int .i64 0)] [(0, 1, (.t 6)), (1, 1, (.t 10))]))⟩,
    ⟨none, 0, none, (.op (.store 3 (.t 2) (.t 11)))⟩,
    ⟨(some 3), 0, none, (.op (.mov (.k (.d (.bool false)))))⟩])
  (.ret))
theorem cc40 : Tryd.f40.body.bind (compC Tryd.prog) = some ac40 := by kernel_rfl
theorem go40 {vals : List V} {v : V} (ac : AC) (he : ac.erase = ac40) (hw : wpC Tryd.prog 0 ac (retQ [.cell 2 true 3, .tmp 3] v) ⟨vals ++ List.replicate (12 - vals.length) (.tup []), []⟩) : CallP Tryd.prog 40 vals v :=
  call_of Tryd.func40 rfl rfl rfl (cc40.trans (congrArg some he.symm)) hw
theorem gi40 {vals : List V} {rows : Go.Vx.Rows} {K : V → Go.Vx.Rows → Prop} (ac : AC) (he : ac.erase = ac40) (hw : wpC Tryd.prog rows.length ac (retI [.cell 2 true 3, .tmp 3] K) ⟨vals ++ List.replicate (12 - vals.length) (.tup []), rows⟩) : InlP Tryd.prog 40 vals rows K :=
  inl_of' Tryd.func40 rfl rfl rfl (cc40.trans (congrArg some he.symm)) hw
theorem gm40 {vals : List V} {v : V} {sz : Nat} {es es' : List (List V)} (ac : AC) (he : ac.erase = ac40) (hw : wpC Tryd.prog 1 ac (retM [.cell 2 true 3, .tmp 3] v sz es') ⟨vals ++ List.replicate (12 - vals.length) (.tup []), [.live sz es]⟩) : CallM Tryd.prog 40 vals sz es v es' :=
  callM_of' Tryd.func40 rfl rfl rfl (cc40.trans (congrArg some he.symm)) hw

/-- (testbench/driver.sending).wait -/
def ac41 : AC :=
  .seq (.reg 2 [⟨(some 1), 0, none, (.op (.box 3 (.t 0)))⟩,
    ⟨(some 2), 1, none, (.op (.alloc [.nils, (.int .i64 0), (.int .i64 0)]))⟩,
    ⟨(some 3), 2, none, (.op (.mov (.k (.d (.bool false)))))⟩])
  (.seq (.reg 1 [⟨(some 5), 0, none, (.op (.fldA 0 (.t 1)))⟩,
    ⟨(some 6), 0, none, (.op (.load true 3 (.t 5)))⟩,
    ⟨(some 4), 0, none, (.op (.alloc [.nils, (.int .i64 0), (.int .i64 0)]))⟩,
    ⟨none, 1, none, (.op (.store 3 (.t 4) (.t 6)))⟩])
  (.seq (.reg 0 [⟨(some 7), 0, none, (.op (.fldA 2 (.t 4)))⟩,
    ⟨(some 8), 0, none, (.op (.load false 1 (.t 7)))⟩,
    ⟨(some 9), 0, none, (.op (.bin .add (.t 8) (.k (.d (.int .i64 1)))))⟩,
    ⟨(some 10), 0, none, (.op (.mn (.t 9) (.k (.d (.int .i64 1099511627776)))))⟩,
    ⟨(some 11), 0, none, (.op (.fldA 2 (.t 4)))⟩,
    ⟨none, 0, none, (.op (.store 1 (.t 11) (.t 10)))⟩])
  (.seq (.reg 0 [⟨(some 12), 0, none, (.op (.load true 3 (.t 4)))⟩,
    ⟨none, 0, none, (.op (.store 3 (.t 2) (.t 12)))⟩,
    ⟨(some 3), 0, none, (.op (.mov (.k (.d (.bool false)))))⟩])
  (.ret))))
theorem cc41 : Tryd.f41.body.bind (compC Tryd.prog) = some ac41 := by kernel_rfl
theorem go41 {vals : List V} {v : V} (ac : AC) (he : ac.erase = ac41) (hw : wpC Tryd.prog 0 ac (retQ [.cell 2 true 3, .tmp 3] v) ⟨vals ++ List.replicate (13 - vals.length) (.tup []), []⟩) : CallP Tryd.prog 41 vals v :=
  call_of Tryd.func41 rfl rfl rfl (cc41.trans (congrArg some he.symm)) hw
theorem gi41 {vals : List V} {rows : Go.Vx.Rows} {K : V → Go.Vx.Rows → Prop} (ac : AC) (he : ac.erase = ac41) (hw : wpC Tryd.prog rows.length ac (retI [.cell 2 true 3, .tmp 3] K) ⟨vals ++ List.replicate (13 - vals.length) (.tup []), rows⟩) : InlP Tryd.prog 41 vals rows K :=
  inl_of' Tryd.func41 rfl rfl rfl (cc41.trans (congrArg some he.symm)) hw
theorem gm41 {vals : List V} {v : V} {sz : Nat} {es es' : List (List V)} (ac : AC) (he : ac.erase = ac41) (hw : wpC Tryd.prog 1 ac (retM [.cell 2 true 3, .tmp 3] v sz es') ⟨vals ++ List.replicate (13 - vals.length) (.tup []), [.live sz es]⟩) : CallM Tryd.prog 41 vals sz es v es' :=
  callM_of' Tryd.func41 rfl rfl rfl (cc41.trans (congrArg some he.symm)) hw

/-- (testbench/driver.sending).pass -/
def ac42 : AC :=
  .seq (.reg 2 [⟨(some 1), 0, none, (.op (.box 3 (.t 0)))⟩,
    ⟨(some 2), 1, none, (.op (.alloc [.nils, (.int .i64 0), (.int .i64 0)]))⟩,
    ⟨(some 3), 2, none, (.op (.mov (.k (.d (.bool false)))))⟩])
  (.seq (.reg 0 [⟨(some 4), 0, none, (.op (.fldA 0 (.t 1)))⟩,
    ⟨(some 5), 0, none, (.op (.fldA 0 (.t 4)))⟩,
    ⟨(some 6), 0, none, (.op (.load false 1 (.t 5)))⟩,
    ⟨(some 7), 0, none, (.op (.fldA 0 (.t 1)))⟩,
    ⟨(some 8), 0, none, (.op (.fldA 1 (.t 7)))⟩,
    ⟨(some 9), 0, none, (.op (.load false 1 (.t 8)))⟩,
    ⟨(some 10), 0, none, (.op (.bin .add (.t 9) (.k (.d (.int .i64 1)))))⟩,
    ⟨(some 11), 0, none, (.op (.build [.nils, (.int .i64 0), (.int .i64 0)] [(0, 1, (.t 6)), (1, 1, (.t 10))]))⟩,
    ⟨none, 0, none, (.op (.store 3 (.t 2) (.t 11)))⟩,
    ⟨(some 3), 0, none, (.op (.mov (.k (.d (.bool true)))))⟩])
  (.ret))
theorem cc42 : Tryd.f42.body.bind (compC Tryd.prog) = some ac42 := by kernel_rfl
theorem go42 {vals : List V} {v : V} (ac : AC) (he : ac.erase = ac42) (hw : wpC Tryd.prog 0 ac (retQ [.cell 2 true 3, .tmp 3] v) ⟨vals ++ List.replicate (12 - vals.length) (.tup []), []⟩) : CallP Tryd.prog 42 vals v :=
  call_of Tryd.func42 rfl rfl rfl (cc42.trans (congrArg some he.symm)) hw
theorem gi42 {vals : List V} {rows : Go.Vx.Rows} {K : V → Go.Vx.Rows → Prop} (ac : AC) (he : ac.erase = ac42) (hw : wpC Tryd.prog rows.length ac (retI [.cell 2 true 3, .tmp 3] K) ⟨vals ++ List.replicate (12 - vals.length) (.tup []), rows⟩) : InlP Tryd.prog 42 vals rows K :=
  inl_of' Tryd.func42 rfl rfl rfl (cc42.trans (congrArg some he.symm)) hw
theorem gm42 {vals : List V} {v : V} {sz : Nat} {es es' : List (List V)} (ac : AC) (he : ac.erase = ac42) (hw : wpC Tryd.prog 1 ac (retM [.cell 2 true 3, .tmp 3] v sz es') ⟨vals ++ List.replicate (12 - vals.length) (.tup []), [.live sz es]⟩) : CallM Tryd.prog 42 vals sz es v es' :=
  callM_of' Tryd.func42 rfl rfl rfl (cc42.trans (congrArg some he.symm)) hw

/-- testbench/testbenchref26.most -/
def ac43 : AC :=
  .seq (.reg 0 [⟨(some 0), 0, none, (.op (.mov (.k (.d (.int .i64 0)))))⟩])
  (.seq (.reg 0 [⟨(some 0), 0, none, (.op (.mov (.k (.d (.int .i64 128)))))⟩])
  (.ret))
theorem cc43 : Tryd.f43.body.bind (compC Tryd.prog) = some ac43 := by kernel_rfl
theorem go43 {vals : List V} {v : V} (ac : AC) (he : ac.erase = ac43) (hw : wpC Tryd.prog 0 ac (retQ [.tmp 0] v) ⟨vals ++ List.replicate (1 - vals.length) (.tup []), []⟩) : CallP Tryd.prog 43 vals v :=
  call_of Tryd.func43 rfl rfl rfl (cc43.trans (congrArg some he.symm)) hw
theorem gi43 {vals : List V} {rows : Go.Vx.Rows} {K : V → Go.Vx.Rows → Prop} (ac : AC) (he : ac.erase = ac43) (hw : wpC Tryd.prog rows.length ac (retI [.tmp 0] K) ⟨vals ++ List.replicate (1 - vals.length) (.tup []), rows⟩) : InlP Tryd.prog 43 vals rows K :=
  inl_of' Tryd.func43 rfl rfl rfl (cc43.trans (congrArg some he.symm)) hw
theorem gm43 {vals : List V} {v : V} {sz : Nat} {es es' : List (List V)} (ac : AC) (he : ac.erase = ac43) (hw : wpC Tryd.prog 1 ac (retM [.tmp 0] v sz es') ⟨vals ++ List.replicate (1 - vals.length) (.tup []), [.live sz es]⟩) : CallM Tryd.prog 43 vals sz es v es' :=
  callM_of' Tryd.func43 rfl rfl rfl (cc43.trans (congrArg some he.symm)) hw

/-- testbench/testbenchref26.Different -/
def ac44 : AC :=
  .seq (.reg 0 [⟨(some 2), 0, none, (.op (.mov (.k (.d (.bool false)))))⟩])
  (.seq (.seq (.reg 0 [⟨(some 3), 0, none, (.op (.mov (.k (.d (.int .i64 0)))))⟩])
  (.block 0
   (.loop
    (.seq (.seq (.reg 0 [⟨(some 4), 0, none, (.op (.mov (.t 3)))⟩,
      ⟨(some 5), 0, none, (.op (.mov (.t 0)))⟩,
      ⟨(some 6), 0, none, (.op (.len false (.t 5)))⟩,
      ⟨(some 7), 0, none, (.op (.bin .lss (.t 4) (.t 6)))⟩])
    (.cond (.t 7)
      (.skip)
      (.exit 0)))
    (.seq (.block 1
     (.seq (.reg 0 [⟨(some 10), 0, none, (.op (.mov (.t 0)))⟩,
       ⟨(some 11), 0, none, (.op (.mov (.t 3)))⟩,
       ⟨(some 12), 0, none, (.op (.idxA 1 none (.t 10) (.t 11)))⟩,
       ⟨(some 13), 0, none, (.op (.load false 1 (.t 12)))⟩,
       ⟨(some 14), 0, none, (.call (.k (.fn (.func 53) [] [])) [(.t 13)])⟩,
       ⟨(some 15), 0, none, (.op (.un .not (.t 14)))⟩,
       ⟨(some 16), 0, none, (.op (.mov (.t 15)))⟩,
       ⟨(some 17), 0, (some (16, false)), (.op (.mov (.t 0)))⟩,
       ⟨(some 18), 0, (some (16, false)), (.op (.mov (.t 0)))⟩,
       ⟨(some 19), 0, (some (16, false)), (.op (.mov (.t 3)))⟩,
       ⟨(some 20), 0, (some (16, false)), (.op (.idxA 1 none (.t 18) (.t 19)))⟩,
       ⟨(some 21), 0, (some (16, false)), (.op (.load false 1 (.t 20)))⟩,
       ⟨(some 22), 0, (some (16, false)), (.call (.k (.fn (.func 52) [] [])) [(.t 17), (.t 21)])⟩,
       ⟨(some 23), 0, (some (16, false)), (.op (.mov (.t 3)))⟩,
       ⟨(some 24), 0, (some (16, false)), (.op (.bin .neq (.t 22) (.t 23)))⟩,
       ⟨(some 25), 0, none, (.op (.pick (.t 16) (.k (.d (.bool true))) (.t 24)))⟩])
     (.cond (.t 25)
       (.seq (.reg 0 [⟨(some 2), 0, none, (.op (.mov (.k (.d (.bool false)))))⟩])
       (.ret))
       (.skip))))
    (.reg 0 [⟨(some 8), 0, none, (.op (.mov (.t 3)))⟩,
      ⟨(some 9), 0, none, (.op (.bin .add (.t 8) (.k (.d (.int .i64 1)))))⟩,
      ⟨(some 3), 0, none, (.op (.mov (.t 9)))⟩]))))))
  (.seq (.reg 0 [⟨(some 2), 0, none, (.op (.mov (.k (.d (.bool true)))))⟩])
  (.ret)))
theorem cc44 : Tryd.f44.body.bind (compC Tryd.prog) = some ac44 := by kernel_rfl
theorem go44 {vals : List V} {v : V} (ac : AC) (he : ac.erase = ac44) (hw : wpC Tryd.prog 0 ac (retQ [.tmp 2] v) ⟨vals ++ List.replicate (26 - vals.length) (.tup []), []⟩) : CallP Tryd.prog 44 vals v :=
  call_of Tryd.func44 rfl rfl rfl (cc44.trans (congrArg some he.symm)) hw
theorem gi44 {vals : List V} {rows : Go.Vx.Rows} {K : V → Go.Vx.Rows → Prop} (ac : AC) (he : ac.erase = ac44) (hw : wpC Tryd.prog rows.length ac (retI [.tmp 2] K) ⟨vals ++ List.replicate (26 - vals.length) (.tup []), rows⟩) : InlP Tryd.prog 44 vals rows K :=
  inl_of' Tryd.func44 rfl rfl rfl (cc44.trans (congrArg some he.symm)) hw
theorem gm44 {vals : List V} {v : V} {sz : Nat} {es es' : List (List V)} (ac : AC) (he : ac.erase = ac44) (hw : wpC Tryd.prog 1 ac (retM [.tmp 2] v sz es') ⟨vals ++ List.replicate (26 - vals.length) (.tup []), [.live sz es]⟩) : CallM Tryd.prog 44 vals sz es v es' :=
  callM_of' Tryd.func44 rfl rfl rfl (cc44.trans (congrArg some he.symm)) hw

/-- slices.IndexFunc[[]testbench/api.Slot,testbench/api.Slot] -/
def ac45 : AC :=
  .seq (.reg 0 [⟨(some 4), 0, none, (.op (.mov (.k (.d (.int .i64 0)))))⟩])
  (.seq (.seq (.reg 0 [⟨(some 6), 0, none, (.op (.mov (.t 0)))⟩,
    ⟨(some 7), 0, none, (.op (.len false (.t 6)))⟩,
    ⟨(some 8), 0, none, (.op (.mov (.k (.d (.int .i64 0)))))⟩])
  (.block 0
   (.loop
    (.seq (.reg 0 [⟨(some 9), 0, none, (.op (.bin .lss (.t 8) (.t 7)))⟩])
    (.seq (.cond (.t 9)
      (.skip)
      (.exit 0))
    (.seq (.block 1
     (.seq (.reg 0 [⟨(some 10), 0, none, (.op (.mov (.t 8)))⟩,
       ⟨(some 5), 0, none, (.op (.mov (.t 10)))⟩])
     (.seq (.reg 0 [⟨(some 11), 0, none, (.op (.mov (.t 1)))⟩,
       ⟨(some 12), 0, none, (.op (.mov (.t 0)))⟩,
       ⟨(some 13), 0, none, (.op (.mov (.t 5)))⟩,
       ⟨(some 14), 0, none, (.op (.idxA 4 none (.t 12) (.t 13)))⟩,
       ⟨(some 15), 0, none, (.op (.load true 4 (.t 14)))⟩,
       ⟨(some 16), 0, none, (.call (.t 11) [(.t 15)])⟩])
     (.cond (.t 16)
       (.seq (.reg 0 [⟨(some 17), 0, none, (.op (.mov (.t 5)))⟩,
         ⟨(some 4), 0, none, (.op (.mov (.t 17)))⟩])
       (.ret))
       (.skip)))))
    (.reg 0 [⟨(some 18), 0, none, (.op (.bin .add (.t 8) (.k (.d (.int .i64 1)))))⟩,
      ⟨(some 8), 0, none, (.op (.mov (.t 18)))⟩])))))))
  (.seq (.reg 0 [⟨(some 4), 0, none, (.op (.mov (.k (.d (.int .i64 (-1))))))⟩])
  (.ret)))
theorem cc45 : Tryd.f45.body.bind (compC Tryd.prog) = some ac45 := by kernel_rfl
theorem go45 {vals : List V} {v : V} (ac : AC) (he : ac.erase = ac45) (hw : wpC Tryd.prog 0 ac (retQ [.tmp 4] v) ⟨vals ++ List.replicate (19 - vals.length) (.tup []), []⟩) : CallP Tryd.prog 45 vals v :=
  call_of Tryd.func45 rfl rfl rfl (cc45.trans (congrArg some he.symm)) hw
theorem gi45 {vals : List V} {rows : Go.Vx.Rows} {K : V → Go.Vx.Rows → Prop} (ac : AC) (he : ac.erase = ac45) (hw : wpC Tryd.prog rows.length ac (retI [.tmp 4] K) ⟨vals ++ List.replicate (19 - vals.length) (.tup []), rows⟩) : InlP Tryd.prog 45 vals rows K :=
  inl_of' Tryd.func45 rfl rfl rfl (cc45.trans (congrArg some he.symm)) hw
theorem gm45 {vals : List V} {v : V} {sz : Nat} {es es' : List (List V)} (ac : AC) (he : ac.erase = ac45) (hw : wpC Tryd.prog 1 ac (retM [.tmp 4] v sz es') ⟨vals ++ List.replicate (19 - vals.length) (.tup []), [.live sz es]⟩) : CallM Tryd.prog 45 vals sz es v es' :=
  callM_of' Tryd.func45 rfl rfl rfl (cc45.trans (congrArg some he.symm)) hw

/-- testbench/txn.isVar -/
def ac46 : AC :=
  .seq (.reg 0 [⟨(some 2), 0, none, (.op (.mov (.k (.d (.bool false)))))⟩])
  (.seq (.reg 0 [⟨(some 7), 0, none, (.op (.mov (.t 0)))⟩,
    ⟨(some 8), 0, none, (.call (.k (.fn (.func 54) [] [])) [(.t 7), (.k (.d (.str [91])))])⟩,
    ⟨(some 6), 0, none, (.op (.mov (.t 8)))⟩,
    ⟨(some 9), 0, none, (.op (.ext (.t 6) 0))⟩,
    ⟨(some 10), 0, none, (.op (.ext (.t 6) 1))⟩,
    ⟨(some 11), 0, none, (.op (.ext (.t 6) 2))⟩,
    ⟨(some 3), 0, none, (.op (.mov (.t 9)))⟩,
    ⟨(some 4), 0, none, (.op (.mov (.t 10)))⟩,
    ⟨(some 5), 0, none, (.op (.mov (.t 11)))⟩])
  (.seq (.seq (.reg 0 [⟨(some 12), 0, none, (.op (.mov (.t 5)))⟩,
    ⟨(some 13), 0, none, (.op (.un .not (.t 12)))⟩])
  (.cond (.t 13)
    (.seq (.reg 0 [⟨(some 14), 0, none, (.op (.mov (.t 0)))⟩,
      ⟨(some 15), 0, none, (.call (.k (.fn (.func 55) [] [])) [(.t 14)])⟩,
      ⟨(some 2), 0, none, (.op (.mov (.t 15)))⟩])
    (.ret))
    (.skip)))
  (.seq (.reg 0 [⟨(some 16), 0, none, (.op (.mov (.t 3)))⟩,
    ⟨(some 17), 0, none, (.call (.k (.fn (.func 55) [] [])) [(.t 16)])⟩,
    ⟨(some 18), 0, none, (.op (.mov (.t 17)))⟩,
    ⟨(some 19), 0, (some (18, true)), (.op (.mov (.t 4)))⟩,
    ⟨(some 20), 0, (some (18, true)), (.op (.len true (.t 19)))⟩,
    ⟨(some 21), 0, (some (18, true)), (.op (.bin .eql (.t 20) (.k (.d (.int .i64 2)))))⟩,
    ⟨(some 22), 0, none, (.op (.pick (.t 18) (.t 21) (.k (.d (.bool false)))))⟩,
    ⟨(some 23), 0, none, (.op (.mov (.t 22)))⟩,
    ⟨(some 24), 0, (some (23, true)), (.op (.mov (.t 4)))⟩,
    ⟨(some 25), 0, (some (23, true)), (.op (.idxS (.t 24) (.k (.d (.int .i64 0)))))⟩,
    ⟨(some 26), 0, (some (23, true)), (.op (.bin .geq (.t 25) (.k (.d (.int .u8 48)))))⟩,
    ⟨(some 27), 0, none, (.op (.pick (.t 23) (.t 26) (.k (.d (.bool false)))))⟩,
    ⟨(some 28), 0, none, (.op (.mov (.t 27)))⟩,
    ⟨(some 29), 0, (some (28, true)), (.op (.mov (.t 4)))⟩,
    ⟨(some 30), 0, (some (28, true)), (.op (.idxS (.t 29) (.k (.d (.int .i64 0)))))⟩,
    ⟨(some 31), 0, (some (28, true)), (.op (.bin .lss (.t 30) (.k (.d (.int .u8 56)))))⟩,
    ⟨(some 32), 0, none, (.op (.pick (.t 28) (.t 31) (.k (.d (.bool false)))))⟩,
    ⟨(some 33), 0, none, (.op (.mov (.t 32)))⟩,
    ⟨(some 34), 0, (some (33, true)), (.op (.mov (.t 4)))⟩,
    ⟨(some 35), 0, (some (33, true)), (.op (.idxS (.t 34) (.k (.d (.int .i64 1)))))⟩,
    ⟨(some 36), 0, (some (33, true)), (.op (.bin .eql (.t 35) (.k (.d (.int .u8 93)))))⟩,
    ⟨(some 37), 0, none, (.op (.pick (.t 33) (.t 36) (.k (.d (.bool false)))))⟩,
    ⟨(some 2), 0, none, (.op (.mov (.t 37)))⟩])
  (.ret))))
theorem cc46 : Tryd.f46.body.bind (compC Tryd.prog) = some ac46 := by kernel_rfl
theorem go46 {vals : List V} {v : V} (ac : AC) (he : ac.erase = ac46) (hw : wpC Tryd.prog 0 ac (retQ [.tmp 2] v) ⟨vals ++ List.replicate (38 - vals.length) (.tup []), []⟩) : CallP Tryd.prog 46 vals v :=
  call_of Tryd.func46 rfl rfl rfl (cc46.trans (congrArg some he.symm)) hw
theorem gi46 {vals : List V} {rows : Go.Vx.Rows} {K : V → Go.Vx.Rows → Prop} (ac : AC) (he : ac.erase = ac46) (hw : wpC Tryd.prog rows.length ac (retI [.tmp 2] K) ⟨vals ++ List.replicate (38 - vals.length) (.tup []), rows⟩) : InlP Tryd.prog 46 vals rows K :=
  inl_of' Tryd.func46 rfl rfl rfl (cc46.trans (congrArg some he.symm)) hw
theorem gm46 {vals : List V} {v : V} {sz : Nat} {es es' : List (List V)} (ac : AC) (he : ac.erase = ac46) (hw : wpC Tryd.prog 1 ac (retM [.tmp 2] v sz es') ⟨vals ++ List.replicate (38 - vals.length) (.tup []), [.live sz es]⟩) : CallM Tryd.prog 46 vals sz es v es' :=
  callM_of' Tryd.func46 rfl rfl rfl (cc46.trans (congrArg some he.symm)) hw

/-- testbench/txn.isWord -/
def ac47 : AC :=
  .seq (.reg 0 [⟨(some 2), 0, none, (.op (.mov (.k (.d (.bool false)))))⟩])
  (.seq (.reg 0 [⟨(some 3), 0, none, (.op (.mov (.t 0)))⟩,
    ⟨(some 4), 0, none, (.op (.bin .geq (.t 3) (.k (.d (.int .i64 0)))))⟩,
    ⟨(some 5), 0, none, (.op (.mov (.t 4)))⟩,
    ⟨(some 6), 0, (some (5, true)), (.op (.mov (.t 0)))⟩,
    ⟨(some 7), 0, (some (5, true)), (.op (.bin .leq (.t 6) (.k (.d (.int .i64 65535)))))⟩,
    ⟨(some 8), 0, none, (.op (.pick (.t 5) (.t 7) (.k (.d (.bool false)))))⟩,
    ⟨(some 2), 0, none, (.op (.mov (.t 8)))⟩])
  (.ret))
theorem cc47 : Tryd.f47.body.bind (compC Tryd.prog) = some ac47 := by kernel_rfl
theorem go47 {vals : List V} {v : V} (ac : AC) (he : ac.erase = ac47) (hw : wpC Tryd.prog 0 ac (retQ [.tmp 2] v) ⟨vals ++ List.replicate (9 - vals.length) (.tup []), []⟩) : CallP Tryd.prog 47 vals v :=
  call_of Tryd.func47 rfl rfl rfl (cc47.trans (congrArg some he.symm)) hw
theorem gi47 {vals : List V} {rows : Go.Vx.Rows} {K : V → Go.Vx.Rows → Prop} (ac : AC) (he : ac.erase = ac47) (hw : wpC Tryd.prog rows.length ac (retI [.tmp 2] K) ⟨vals ++ List.replicate (9 - vals.length) (.tup []), rows⟩) : InlP Tryd.prog 47 vals rows K :=
  inl_of' Tryd.func47 rfl rfl rfl (cc47.trans (congrArg some he.symm)) hw
theorem gm47 {vals : List V} {v : V} {sz : Nat} {es es' : List (List V)} (ac : AC) (he : ac.erase = ac47) (hw : wpC Tryd.prog 1 ac (retM [.tmp 2] v sz es') ⟨vals ++ List.replicate (9 - vals.length) (.tup []), [.live sz es]⟩) : CallM Tryd.prog 47 vals sz es v es' :=
  callM_of' Tryd.func47 rfl rfl rfl (cc47.trans (congrArg some he.symm)) hw

/-- slices.Clone[[]string,string] -/
def ac48 : AC :=
  .seq (.reg 0 [⟨(some 2), 0, none, (.op (.mov (.k (.d .nils))))⟩])
  (.seq (.seq (.reg 0 [⟨(some 3), 0, none, (.op (.mov (.t 0)))⟩,
    ⟨(some 4), 0, none, (.op (.isNil false (.t 3) (.k (.d .nils))))⟩])
  (.cond (.t 4)
    (.seq (.reg 0 [⟨(some 2), 0, none, (.op (.mov (.k (.d .nils))))⟩])
    (.ret))
    (.skip)))
  (.seq (.reg 2 [⟨(some 5), 0, none, (.op (.buildSl 1 0 [(.str [])] []))⟩,
    ⟨(some 6), 1, none, (.op (.mov (.t 0)))⟩,
    ⟨(some 7), 1, none, (.op (.append 1 16 (.t 5) (.t 6)))⟩,
    ⟨(some 2), 2, none, (.op (.mov (.t 7)))⟩])
  (.ret)))
theorem cc48 : Tryd.f48.body.bind (compC Tryd.prog) = some ac48 := by kernel_rfl
theorem go48 {vals : List V} {v : V} (ac : AC) (he : ac.erase = ac48) (hw : wpC Tryd.prog 0 ac (retQ [.tmp 2] v) ⟨vals ++ List.replicate (8 - vals.length) (.tup []), []⟩) : CallP Tryd.prog 48 vals v :=
  call_of Tryd.func48 rfl rfl rfl (cc48.trans (congrArg some he.symm)) hw
theorem gi48 {vals : List V} {rows : Go.Vx.Rows} {K : V → Go.Vx.Rows → Prop} (ac : AC) (he : ac.erase = ac48) (hw : wpC Tryd.prog rows.length ac (retI [.tmp 2] K) ⟨vals ++ List.replicate (8 - vals.length) (.tup []), rows⟩) : InlP Tryd.prog 48 vals rows K :=
  inl_of' Tryd.func48 rfl rfl rfl (cc48.trans (congrArg some he.symm)) hw
theorem gm48 {vals : List V} {v : V} {sz : Nat} {es es' : List (List V)} (ac : AC) (he : ac.erase = ac48) (hw : wpC Tryd.prog 1 ac (retM [.tmp 2] v sz es') ⟨vals ++ List.replicate (8 - vals.length) (.tup []), [.live sz es]⟩) : CallM Tryd.prog 48 vals sz es v es' :=
  callM_of' Tryd.func48 rfl rfl rfl (cc48.trans (congrArg some he.symm)) hw

/-- slices.Clone[[]int,int] -/
def ac49 : AC :=
  .seq (.reg 0 [⟨(some 2), 0, none, (.op (.mov (.k (.d .nils))))⟩])
  (.seq (.seq (.reg 0 [⟨(some 3), 0, none, (.op (.mov (.t 0)))⟩,
    ⟨(some 4), 0, none, (.op (.isNil false (.t 3) (.k (.d .nils))))⟩])
  (.cond (.t 4)
    (.seq (.reg 0 [⟨(some 2), 0, none, (.op (.mov (.k (.d .nils))))⟩])
    (.ret))
    (.skip)))
  (.seq (.reg 2 [⟨(some 5), 0, none, (.op (.buildSl 1 0 [(.int .i64 0)] []))⟩,
    ⟨(some 6), 1, none, (.op (.mov (.t 0)))⟩,
    ⟨(some 7), 1, none, (.op (.append 1 8 (.t 5) (.t 6)))⟩,
    ⟨(some 2), 2, none, (.op (.mov (.t 7)))⟩])
  (.ret)))
theorem cc49 : Tryd.f49.body.bind (compC Tryd.prog) = some ac49 := by kernel_rfl
theorem go49 {vals : List V} {v : V} (ac : AC) (he : ac.erase = ac49) (hw : wpC Tryd.prog 0 ac (retQ [.tmp 2] v) ⟨vals ++ List.replicate (8 - vals.length) (.tup []), []⟩) : CallP Tryd.prog 49 vals v :=
  call_of Tryd.func49 rfl rfl rfl (cc49.trans (congrArg some he.symm)) hw
theorem gi49 {vals : List V} {rows : Go.Vx.Rows} {K : V → Go.Vx.Rows → Prop} (ac : AC) (he : ac.erase = ac49) (hw : wpC Tryd.prog rows.length ac (retI [.tmp 2] K) ⟨vals ++ List.replicate (8 - vals.length) (.tup []), rows⟩) : InlP Tryd.prog 49 vals rows K :=
  inl_of' Tryd.func49 rfl rfl rfl (cc49.trans (congrArg some he.symm)) hw
theorem gm49 {vals : List V} {v : V} {sz : Nat} {es es' : List (List V)} (ac : AC) (he : ac.erase = ac49) (hw : wpC Tryd.prog 1 ac (retM [.tmp 2] v sz es') ⟨vals ++ List.replicate (8 - vals.length) (.tup []), [.live sz es]⟩) : CallM Tryd.prog 49 vals sz es v es' :=
  callM_of' Tryd.func49 rfl rfl rfl (cc49.trans (congrArg some he.symm)) hw

/-- slices.IndexFunc[[]testbench/api.Signal,testbench/api.Signal] -/
def ac50 : AC :=
  .seq (.reg 0 [⟨(some 4), 0, none, (.op (.mov (.k (.d (.int .i64 0)))))⟩])
  (.seq (.seq (.reg 0 [⟨(some 6), 0, none, (.op (.mov (.t 0)))⟩,
    ⟨(some 7), 0, none, (.op (.len false (.t 6)))⟩,
    ⟨(some 8), 0, none, (.op (.mov (.k (.d (.int .i64 0)))))⟩])
  (.block 0
   (.loop
    (.seq (.reg 0 [⟨(some 9), 0, none, (.op (.bin .lss (.t 8) (.t 7)))⟩])
    (.seq (.cond (.t 9)
      (.skip)
      (.exit 0))
    (.seq (.block 1
     (.seq (.reg 0 [⟨(some 10), 0, none, (.op (.mov (.t 8)))⟩,
       ⟨(some 5), 0, none, (.op (.mov (.t 10)))⟩])
     (.seq (.reg 0 [⟨(some 11), 0, none, (.op (.mov (.t 1)))⟩,
       ⟨(some 12), 0, none, (.op (.mov (.t 0)))⟩,
       ⟨(some 13), 0, none, (.op (.mov (.t 5)))⟩,
       ⟨(some 14), 0, none, (.op (.idxA 2 none (.t 12) (.t 13)))⟩,
       ⟨(some 15), 0, none, (.op (.load true 2 (.t 14)))⟩,
       ⟨(some 16), 0, none, (.call (.t 11) [(.t 15)])⟩])
     (.cond (.t 16)
       (.seq (.reg 0 [⟨(some 17), 0, none, (.op (.mov (.t 5)))⟩,
         ⟨(some 4), 0, none, (.op (.mov (.t 17)))⟩])
       (.ret))
       (.skip)))))
    (.reg 0 [⟨(some 18), 0, none, (.op (.bin .add (.t 8) (.k (.d (.int .i64 1)))))⟩,
      ⟨(some 8), 0, none, (.op (.mov (.t 18)))⟩])))))))
  (.seq (.reg 0 [⟨(some 4), 0, none, (.op (.mov (.k (.d (.int .i64 (-1))))))⟩])
  (.ret)))
theorem cc50 : Tryd.f50.body.bind (compC Tryd.prog) = some ac50 := by kernel_rfl
theorem go50 {vals : List V} {v : V} (ac : AC) (he : ac.erase = ac50) (hw : wpC Tryd.prog 0 ac (retQ [.tmp 4] v) ⟨vals ++ List.replicate (19 - vals.length) (.tup []), []⟩) : CallP Tryd.prog 50 vals v :=
  call_of Tryd.func50 rfl rfl rfl (cc50.trans (congrArg some he.symm)) hw
theorem gi50 {vals : List V} {rows : Go.Vx.Rows} {K : V → Go.Vx.Rows → Prop} (ac : AC) (he : ac.erase = ac50) (hw : wpC Tryd.prog rows.length ac (retI [.tmp 4] K) ⟨vals ++ List.replicate (19 - vals.length) (.tup []), rows⟩) : InlP Tryd.prog 50 vals rows K :=
  inl_of' Tryd.func50 rfl rfl rfl (cc50.trans (congrArg some he.symm)) hw
theorem gm50 {vals : List V} {v : V} {sz : Nat} {es es' : List (List V)} (ac : AC) (he : ac.erase = ac50) (hw : wpC Tryd.prog 1 ac (retM [.tmp 4] v sz es') ⟨vals ++ List.replicate (19 - vals.length) (.tup []), [.live sz es]⟩) : CallM Tryd.prog 50 vals sz es v es' :=
  callM_of' Tryd.func50 rfl rfl rfl (cc50.trans (congrArg some he.symm)) hw

/-- slices.Index[[]string,string] -/
def ac51 : AC :=
  .seq (.reg 0 [⟨(some 4), 0, none, (.op (.mov (.k (.d (.int .i64 0)))))⟩])
  (.seq (.seq (.reg 0 [⟨(some 6), 0, none, (.op (.mov (.t 0)))⟩,
    ⟨(some 7), 0, none, (.op (.len false (.t 6)))⟩,
    ⟨(some 8), 0, none, (.op (.mov (.k (.d (.int .i64 0)))))⟩])
  (.block 0
   (.loop
    (.seq (.reg 0 [⟨(some 9), 0, none, (.op (.bin .lss (.t 8) (.t 7)))⟩])
    (.seq (.cond (.t 9)
      (.skip)
      (.exit 0))
    (.seq (.block 1
     (.seq (.reg 0 [⟨(some 10), 0, none, (.op (.mov (.t 8)))⟩,
       ⟨(some 5), 0, none, (.op (.mov (.t 10)))⟩])
     (.seq (.reg 0 [⟨(some 11), 0, none, (.op (.mov (.t 1)))⟩,
       ⟨(some 12), 0, none, (.op (.mov (.t 0)))⟩,
       ⟨(some 13), 0, none, (.op (.mov (.t 5)))⟩,
       ⟨(some 14), 0, none, (.op (.idxA 1 none (.t 12) (.t 13)))⟩,
       ⟨(some 15), 0, none, (.op (.load false 1 (.t 14)))⟩,
       ⟨(some 16), 0, none, (.op (.bin .eql (.t 11) (.t 15)))⟩])
     (.cond (.t 16)
       (.seq (.reg 0 [⟨(some 17), 0, none, (.op (.mov (.t 5)))⟩,
         ⟨(some 4), 0, none, (.op (.mov (.t 17)))⟩])
       (.ret))
       (.skip)))))
    (.reg 0 [⟨(some 18), 0, none, (.op (.bin .add (.t 8) (.k (.d (.int .i64 1)))))⟩,
      ⟨(some 8), 0, none, (.op (.mov (.t 18)))⟩])))))))
  (.seq (.reg 0 [⟨(some 4), 0, none, (.op (.mov (.k (.d (.int .i64 (-1))))))⟩])
  (.ret)))
theorem cc51 : Tryd.f51.body.bind (compC Tryd.prog) = some ac51 := by kernel_rfl
theorem go51 {vals : List V} {v : V} (ac : AC) (he : ac.erase = ac51) (hw : wpC Tryd.prog 0 ac (retQ [.tmp 4] v) ⟨vals ++ List.replicate (19 - vals.length) (.tup []), []⟩) : CallP Tryd.prog 51 vals v :=
  call_of Tryd.func51 rfl rfl rfl (cc51.trans (congrArg some he.symm)) hw
theorem gi51 {vals : List V} {rows : Go.Vx.Rows} {K : V → Go.Vx.Rows → Prop} (ac : AC) (he : ac.erase = ac51) (hw : wpC Tryd.prog rows.length ac (retI [.tmp 4] K) ⟨vals ++ List.replicate (19 - vals.length) (.tup []), rows⟩) : InlP Tryd.prog 51 vals rows K :=
  inl_of' Tryd.func51 rfl rfl rfl (cc51.trans (congrArg some he.symm)) hw
theorem gm51 {vals : List V} {v : V} {sz : Nat} {es es' : List (List V)} (ac : AC) (he : ac.erase = ac51) (hw : wpC Tryd.prog 1 ac (retM [.tmp 4] v sz es') ⟨vals ++ List.replicate (19 - vals.length) (.tup []), [.live sz es]⟩) : CallM Tryd.prog 51 vals sz es v es' :=
  callM_of' Tryd.func51 rfl rfl rfl (cc51.trans (congrArg some he.symm)) hw

/-- testbench/testbenchref26.Place -/
def ac52 : AC :=
  .seq (.reg 0 [⟨(some 4), 0, none, (.op (.mov (.k (.d (.int .i64 0)))))⟩])
  (.seq (.seq (.reg 0 [⟨(some 5), 0, none, (.op (.mov (.k (.d (.int .i64 0)))))⟩])
  (.block 0
   (.loop
    (.seq (.seq (.reg 0 [⟨(some 6), 0, none, (.op (.mov (.t 5)))⟩,
      ⟨(some 7), 0, none, (.op (.mov (.t 0)))⟩,
      ⟨(some 8), 0, none, (.op (.len false (.t 7)))⟩,
      ⟨(some 9), 0, none, (.op (.bin .lss (.t 6) (.t 8)))⟩])
    (.cond (.t 9)
      (.skip)
      (.exit 0)))
    (.seq (.block 1
     (.seq (.reg 0 [⟨(some 12), 0, none, (.op (.mov (.t 0)))⟩,
       ⟨(some 13), 0, none, (.op (.mov (.t 5)))⟩,
       ⟨(some 14), 0, none, (.op (.idxA 1 none (.t 12) (.t 13)))⟩,
       ⟨(some 15), 0, none, (.op (.load false 1 (.t 14)))⟩,
       ⟨(some 16), 0, none, (.op (.mov (.t 1)))⟩,
       ⟨(some 17), 0, none, (.op (.bin .eql (.t 15) (.t 16)))⟩])
     (.cond (.t 17)
       (.seq (.reg 0 [⟨(some 18), 0, none, (.op (.mov (.t 5)))⟩,
         ⟨(some 4), 0, none, (.op (.mov (.t 18)))⟩])
       (.ret))
       (.skip))))
    (.reg 0 [⟨(some 10), 0, none, (.op (.mov (.t 5)))⟩,
      ⟨(some 11), 0, none, (.op (.bin .add (.t 10) (.k (.d (.int .i64 1)))))⟩,
      ⟨(some 5), 0, none, (.op (.mov (.t 11)))⟩]))))))
  (.seq (.reg 0 [⟨(some 4), 0, none, (.op (.mov (.k (.d (.int .i64 (-1))))))⟩])
  (.ret)))
theorem cc52 : Tryd.f52.body.bind (compC Tryd.prog) = some ac52 := by kernel_rfl
theorem go52 {vals : List V} {v : V} (ac : AC) (he : ac.erase = ac52) (hw : wpC Tryd.prog 0 ac (retQ [.tmp 4] v) ⟨vals ++ List.replicate (19 - vals.length) (.tup []), []⟩) : CallP Tryd.prog 52 vals v :=
  call_of Tryd.func52 rfl rfl rfl (cc52.trans (congrArg some he.symm)) hw
theorem gi52 {vals : List V} {rows : Go.Vx.Rows} {K : V → Go.Vx.Rows → Prop} (ac : AC) (he : ac.erase = ac52) (hw : wpC Tryd.prog rows.length ac (retI [.tmp 4] K) ⟨vals ++ List.replicate (19 - vals.length) (.tup []), rows⟩) : InlP Tryd.prog 52 vals rows K :=
  inl_of' Tryd.func52 rfl rfl rfl (cc52.trans (congrArg some he.symm)) hw
theorem gm52 {vals : List V} {v : V} {sz : Nat} {es es' : List (List V)} (ac : AC) (he : ac.erase = ac52) (hw : wpC Tryd.prog 1 ac (retM [.tmp 4] v sz es') ⟨vals ++ List.replicate (19 - vals.length) (.tup []), [.live sz es]⟩) : CallM Tryd.prog 52 vals sz es v es' :=
  callM_of' Tryd.func52 rfl rfl rfl (cc52.trans (congrArg some he.symm)) hw

/-- testbench/testbenchref08.IsVar -/
def ac53 : AC :=
  .seq (.reg 0 [⟨(some 2), 0, none, (.op (.mov (.k (.d (.bool false)))))⟩])
  (.seq (.reg 0 [⟨(some 7), 0, none, (.op (.mov (.t 0)))⟩,
    ⟨(some 8), 0, none, (.call (.k (.fn (.func 56) [] [])) [(.t 7)])⟩,
    ⟨(some 6), 0, none, (.op (.mov (.t 8)))⟩,
    ⟨(some 9), 0, none, (.op (.ext (.t 6) 0))⟩,
    ⟨(some 10), 0, none, (.op (.ext (.t 6) 1))⟩,
    ⟨(some 11), 0, none, (.op (.ext (.t 6) 2))⟩,
    ⟨(some 3), 0, none, (.op (.mov (.t 9)))⟩,
    ⟨(some 4), 0, none, (.op (.mov (.t 10)))⟩,
    ⟨(some 5), 0, none, (.op (.mov (.t 11)))⟩])
  (.seq (.reg 0 [⟨(some 12), 0, none, (.op (.mov (.t 5)))⟩,
    ⟨(some 13), 0, none, (.op (.mov (.t 12)))⟩,
    ⟨(some 14), 0, (some (13, false)), (.op (.mov (.t 0)))⟩,
    ⟨(some 15), 0, (some (13, false)), (.call (.k (.fn (.func 57) [] [])) [(.t 14)])⟩,
    ⟨(some 16), 0, none, (.op (.pick (.t 13) (.k (.d (.bool true))) (.t 15)))⟩,
    ⟨(some 2), 0, none, (.op (.mov (.t 16)))⟩])
  (.ret)))
theorem cc53 : Tryd.f53.body.bind (compC Tryd.prog) = some ac53 := by kernel_rfl
theorem go53 {vals : List V} {v : V} (ac : AC) (he : ac.erase = ac53) (hw : wpC Tryd.prog 0 ac (retQ [.tmp 2] v) ⟨vals ++ List.replicate (17 - vals.length) (.tup []), []⟩) : CallP Tryd.prog 53 vals v :=
  call_of Tryd.func53 rfl rfl rfl (cc53.trans (congrArg some he.symm)) hw
theorem gi53 {vals : List V} {rows : Go.Vx.Rows} {K : V → Go.Vx.Rows → Prop} (ac : AC) (he : ac.erase = ac53) (hw : wpC Tryd.prog rows.length ac (retI [.tmp 2] K) ⟨vals ++ List.replicate (17 - vals.length) (.tup []), rows⟩) : InlP Tryd.prog 53 vals rows K :=
  inl_of' Tryd.func53 rfl rfl rfl (cc53.trans (congrArg some he.symm)) hw
theorem gm53 {vals : List V} {v : V} {sz : Nat} {es es' : List (List V)} (ac : AC) (he : ac.erase = ac53) (hw : wpC Tryd.prog 1 ac (retM [.tmp 2] v sz es') ⟨vals ++ List.replicate (17 - vals.length) (.tup []), [.live sz es]⟩) : CallM Tryd.prog 53 vals sz es v es' :=
  callM_of' Tryd.func53 rfl rfl rfl (cc53.trans (congrArg some he.symm)) hw

/-- strings.Cut -/
def ac54 : AC :=
  .seq (.reg 0 [⟨(some 4), 0, none, (.op (.mov (.k (.d (.str [])))))⟩,
    ⟨(some 5), 0, none, (.op (.mov (.k (.d (.str [])))))⟩,
    ⟨(some 6), 0, none, (.op (.mov (.k (.d (.bool false)))))⟩])
  (.seq (.reg 0 [⟨(some 7), 0, none, (.op (.mov (.t 0)))⟩,
    ⟨(some 8), 0, none, (.op (.mov (.t 1)))⟩,
    ⟨(some 9), 0, none, (.call (.k (.fn (.func 58) [] [])) [(.t 7), (.t 8)])⟩,
    ⟨(some 10), 0, none, (.op (.ext (.t 9) 0))⟩,
    ⟨(some 11), 0, none, (.op (.ext (.t 9) 1))⟩,
    ⟨(some 12), 0, none, (.op (.ext (.t 9) 2))⟩,
    ⟨(some 4), 0, none, (.op (.mov (.t 10)))⟩,
    ⟨(some 5), 0, none, (.op (.mov (.t 11)))⟩,
    ⟨(some 6), 0, none, (.op (.mov (.t 12)))⟩])
  (.ret))
theorem cc54 : Tryd.f54.body.bind (compC Tryd.prog) = some ac54 := by kernel_rfl
theorem go54 {vals : List V} {v : V} (ac : AC) (he : ac.erase = ac54) (hw : wpC Tryd.prog 0 ac (retQ [.tmp 4, .tmp 5, .tmp 6] v) ⟨vals ++ List.replicate (13 - vals.length) (.tup []), []⟩) : CallP Tryd.prog 54 vals v :=
  call_of Tryd.func54 rfl rfl rfl (cc54.trans (congrArg some he.symm)) hw
theorem gi54 {vals : List V} {rows : Go.Vx.Rows} {K : V → Go.Vx.Rows → Prop} (ac : AC) (he : ac.erase = ac54) (hw : wpC Tryd.prog rows.length ac (retI [.tmp 4, .tmp 5, .tmp 6] K) ⟨vals ++ List.replicate (13 - vals.length) (.tup []), rows⟩) : InlP Tryd.prog 54 vals rows K :=
  inl_of' Tryd.func54 rfl rfl rfl (cc54.trans (congrArg some he.symm)) hw
theorem gm54 {vals : List V} {v : V} {sz : Nat} {es es' : List (List V)} (ac : AC) (he : ac.erase = ac54) (hw : wpC Tryd.prog 1 ac (retM [.tmp 4, .tmp 5, .tmp 6] v sz es') ⟨vals ++ List.replicate (13 - vals.length) (.tup []), [.live sz es]⟩) : CallM Tryd.prog 54 vals sz es v es' :=
  callM_of' Tryd.func54 rfl rfl rfl (cc54.trans (congrArg some he.symm)) hw

/-- testbench/lexer.IsName -/
def ac55 : AC :=
  .seq (.reg 0 [⟨(some 2), 0, none, (.op (.mov (.k (.d (.bool false)))))⟩])
  (.seq (.reg 0 [⟨(some 3), 0, none, (.op (.mov (.t 0)))⟩,
    ⟨(some 4), 0, none, (.call (.k (.fn (.func 59) [] [])) [(.t 3)])⟩,
    ⟨(some 5), 0, none, (.op (.mov (.t 4)))⟩,
    ⟨(some 6), 0, (some (5, true)), (.op (.mov (.t 0)))⟩,
    ⟨(some 7), 0, (some (5, true)), (.op (.len true (.t 6)))⟩,
    ⟨(some 8), 0, (some (5, true)), (.op (.bin .leq (.t 7) (.k (.d (.int .i64 16)))))⟩,
    ⟨(some 9), 0, none, (.op (.pick (.t 5) (.t 8) (.k (.d (.bool false)))))⟩,
    ⟨(some 10), 0, none, (.op (.mov (.t 9)))⟩,
    ⟨(some 11), 0, (some (10, true)), (.op (.mov (.t 0)))⟩,
    ⟨(some 12), 0, (some (10, true)), (.call (.k (.fn (.func 60) [] [])) [(.t 11)])⟩,
    ⟨(some 13), 0, (some (10, true)), (.op (.un .not (.t 12)))⟩,
    ⟨(some 14), 0, none, (.op (.pick (.t 10) (.t 13) (.k (.d (.bool false)))))⟩,
    ⟨(some 2), 0, none, (.op (.mov (.t 14)))⟩])
  (.ret))
theorem cc55 : Tryd.f55.body.bind (compC Tryd.prog) = some ac55 := by kernel_rfl
theorem go55 {vals : List V} {v : V} (ac : AC) (he : ac.erase = ac55) (hw : wpC Tryd.prog 0 ac (retQ [.tmp 2] v) ⟨vals ++ List.replicate (15 - vals.length) (.tup []), []⟩) : CallP Tryd.prog 55 vals v :=
  call_of Tryd.func55 rfl rfl rfl (cc55.trans (congrArg some he.symm)) hw
theorem gi55 {vals : List V} {rows : Go.Vx.Rows} {K : V → Go.Vx.Rows → Prop} (ac : AC) (he : ac.erase = ac55) (hw : wpC Tryd.prog rows.length ac (retI [.tmp 2] K) ⟨vals ++ List.replicate (15 - vals.length) (.tup []), rows⟩) : InlP Tryd.prog 55 vals rows K :=
  inl_of' Tryd.func55 rfl rfl rfl (cc55.trans (congrArg some he.symm)) hw
theorem gm55 {vals : List V} {v : V} {sz : Nat} {es es' : List (List V)} (ac : AC) (he : ac.erase = ac55) (hw : wpC Tryd.prog 1 ac (retM [.tmp 2] v sz es') ⟨vals ++ List.replicate (15 - vals.length) (.tup []), [.live sz es]⟩) : CallM Tryd.prog 55 vals sz es v es' :=
  callM_of' Tryd.func55 rfl rfl rfl (cc55.trans (congrArg some he.symm)) hw

/-- testbench/testbenchref08.Split -/
def ac56 : AC :=
  .seq (.reg 0 [⟨(some 2), 0, none, (.op (.mov (.k (.d (.str [])))))⟩,
    ⟨(some 3), 0, none, (.op (.mov (.k (.d (.int .i64 0)))))⟩,
    ⟨(some 4), 0, none, (.op (.mov (.k (.d (.bool false)))))⟩])
  (.seq (.seq (.reg 0 [⟨(some 7), 0, none, (.op (.mov (.t 0)))⟩,
    ⟨(some 8), 0, none, (.op (.len true (.t 7)))⟩,
    ⟨(some 9), 0, none, (.op (.bin .lss (.t 8) (.k (.d (.int .i64 4)))))⟩,
    ⟨(some 10), 0, none, (.op (.mov (.t 9)))⟩,
    ⟨(some 11), 0, (some (10, false)), (.op (.mov (.t 0)))⟩,
    ⟨(some 12), 0, (some (10, false)), (.op (.mov (.t 0)))⟩,
    ⟨(some 13), 0, (some (10, false)), (.op (.len true (.t 12)))⟩,
    ⟨(some 14), 0, (some (10, false)), (.op (.bin .sub (.t 13) (.k (.d (.int .i64 1)))))⟩,
    ⟨(some 15), 0, (some (10, false)), (.op (.idxS (.t 11) (.t 14)))⟩,
    ⟨(some 16), 0, (some (10, false)), (.op (.bin .neq (.t 15) (.k (.d (.int .u8 93)))))⟩,
    ⟨(some 17), 0, none, (.op (.pick (.t 10) (.k (.d (.bool true))) (.t 16)))⟩,
    ⟨(some 18), 0, none, (.op (.mov (.t 17)))⟩,
    ⟨(some 19), 0, (some (18, false)), (.op (.mov (.t 0)))⟩,
    ⟨(some 20), 0, (some (18, false)), (.op (.mov (.t 0)))⟩,
    ⟨(some 21), 0, (some (18, false)), (.op (.len true (.t 20)))⟩,
    ⟨(some 22), 0, (some (18, false)), (.op (.bin .sub (.t 21) (.k (.d (.int .i64 3)))))⟩,
    ⟨(some 23), 0, (some (18, false)), (.op (.idxS (.t 19) (.t 22)))⟩,
    ⟨(some 24), 0, (some (18, false)), (.op (.bin .neq (.t 23) (.k (.d (.int .u8 91)))))⟩,
    ⟨(some 25), 0, none, (.op (.pick (.t 18) (.k (.d (.bool true))) (.t 24)))⟩])
  (.cond (.t 25)
    (.seq (.reg 0 [⟨(some 2), 0, none, (.op (.mov (.k (.d (.str [])))))⟩,
      ⟨(some 3), 0, none, (.op (.mov (.k (.d (.int .i64 0)))))⟩,
      ⟨(some 4), 0, none, (.op (.mov (.k (.d (.bool false)))))⟩])
    (.ret))
    (.skip)))
  (.seq (.reg 0 [⟨(some 26), 0, none, (.op (.mov (.t 0)))⟩,
    ⟨(some 27), 0, none, (.op (.mov (.t 0)))⟩,
    ⟨(some 28), 0, none, (.op (.len true (.t 27)))⟩,
    ⟨(some 29), 0, none, (.op (.bin .sub (.t 28) (.k (.d (.int .i64 2)))))⟩,
    ⟨(some 30), 0, none, (.op (.idxS (.t 26) (.t 29)))⟩,
    ⟨(some 31), 0, none, (.op (.conv .i64 (.t 30)))⟩,
    ⟨(some 32), 0, none, (.op (.bin .sub (.t 31) (.k (.d (.int .i64 48)))))⟩,
    ⟨(some 5), 0, none, (.op (.mov (.t 32)))⟩])
  (.seq (.reg 0 [⟨(some 33), 0, none, (.op (.mov (.t 0)))⟩,
    ⟨(some 34), 0, none, (.op (.mov (.t 0)))⟩,
    ⟨(some 35), 0, none, (.op (.len true (.t 34)))⟩,
    ⟨(some 36), 0, none, (.op (.bin .sub (.t 35) (.k (.d (.int .i64 3)))))⟩,
    ⟨(some 37), 0, none, (.op (.slice 0 (.t 33) none (some (.t 36))))⟩,
    ⟨(some 6), 0, none, (.op (.mov (.t 37)))⟩])
  (.seq (.seq (.reg 0 [⟨(some 38), 0, none, (.op (.mov (.t 5)))⟩,
    ⟨(some 39), 0, none, (.op (.bin .lss (.t 38) (.k (.d (.int .i64 0)))))⟩,
    ⟨(some 40), 0, none, (.op (.mov (.t 39)))⟩,
    ⟨(some 41), 0, (some (40, false)), (.op (.mov (.t 5)))⟩,
    ⟨(some 42), 0, (some (40, false)), (.op (.bin .geq (.t 41) (.k (.d (.int .i64 8)))))⟩,
    ⟨(some 43), 0, none, (.op (.pick (.t 40) (.k (.d (.bool true))) (.t 42)))⟩,
    ⟨(some 44), 0, none, (.op (.mov (.t 43)))⟩,
    ⟨(some 45), 0, (some (44, false)), (.op (.mov (.t 6)))⟩,
    ⟨(some 46), 0, (some (44, false)), (.call (.k (.fn (.func 57) [] [])) [(.t 45)])⟩,
    ⟨(some 47), 0, (some (44, false)), (.op (.un .not (.t 46)))⟩,
    ⟨(some 48), 0, none, (.op (.pick (.t 44) (.k (.d (.bool true))) (.t 47)))⟩])
  (.cond (.t 48)
    (.seq (.reg 0 [⟨(some 2), 0, none, (.op (.mov (.k (.d (.str [])))))⟩,
      ⟨(some 3), 0, none, (.op (.mov (.k (.d (.int .i64 0)))))⟩,
      ⟨(some 4), 0, none, (.op (.mov (.k (.d (.bool false)))))⟩])
    (.ret))
    (.skip)))
  (.seq (.reg 0 [⟨(some 49), 0, none, (.op (.mov (.t 6)))⟩,
    ⟨(some 50), 0, none, (.op (.mov (.t 5)))⟩,
    ⟨(some 2), 0, none, (.op (.mov (.t 49)))⟩,
    ⟨(some 3), 0, none, (.op (.mov (.t 50)))⟩,
    ⟨(some 4), 0, none, (.op (.mov (.k (.d (.bool true)))))⟩])
  (.ret))))))
theorem cc56 : Tryd.f56.body.bind (compC Tryd.prog) = some ac56 := by kernel_rfl
theorem go56 {vals : List V} {v : V} (ac : AC) (he : ac.erase = ac56) (hw : wpC Tryd.prog 0 ac (retQ [.tmp 2, .tmp 3, .tmp 4] v) ⟨vals ++ List.replicate (51 - vals.length) (.tup []), []⟩) : CallP Tryd.prog 56 vals v :=
  call_of Tryd.func56 rfl rfl rfl (cc56.trans (congrArg some he.symm)) hw
theorem gi56 {vals : List V} {rows : Go.Vx.Rows} {K : V → Go.Vx.Rows → Prop} (ac : AC) (he : ac.erase = ac56) (hw : wpC Tryd.prog rows.length ac (retI [.tmp 2, .tmp 3, .tmp 4] K) ⟨vals ++ List.replicate (51 - vals.length) (.tup []), rows⟩) : InlP Tryd.prog 56 vals rows K :=
  inl_of' Tryd.func56 rfl rfl rfl (cc56.trans (congrArg some he.symm)) hw
theorem gm56 {vals : List V} {v : V} {sz : Nat} {es es' : List (List V)} (ac : AC) (he : ac.erase = ac56) (hw : wpC Tryd.prog 1 ac (retM [.tmp 2, .tmp 3, .tmp 4] v sz es') ⟨vals ++ List.replicate (51 - vals.length) (.tup []), [.live sz es]⟩) : CallM Tryd.prog 56 vals sz es v es' :=
  callM_of' Tryd.func56 rfl rfl rfl (cc56.trans (congrArg some he.symm)) hw

/-- testbench/testbenchref07.IsName -/
def ac57 : AC :=
  .seq (.reg 0 [⟨(some 2), 0, none, (.op (.mov (.k (.d (.bool false)))))⟩])
  (.seq (.seq (.reg 0 [⟨(some 4), 0, none, (.op (.mov (.t 0)))⟩,
    ⟨(some 5), 0, none, (.op (.bin .eql (.t 4) (.k (.d (.str [])))))⟩,
    ⟨(some 6), 0, none, (.op (.mov (.t 5)))⟩,
    ⟨(some 7), 0, (some (6, false)), (.op (.mov (.t 0)))⟩,
    ⟨(some 8), 0, (some (6, false)), (.op (.len true (.t 7)))⟩,
    ⟨(some 9), 0, (some (6, false)), (.op (.bin .gtr (.t 8) (.k (.d (.int .i64 16)))))⟩,
    ⟨(some 10), 0, none, (.op (.pick (.t 6) (.k (.d (.bool true))) (.t 9)))⟩,
    ⟨(some 11), 0, none, (.op (.mov (.t 10)))⟩,
    ⟨(some 12), 0, (some (11, false)), (.op (.mov (.t 0)))⟩,
    ⟨(some 13), 0, (some (11, false)), (.op (.idxS (.t 12) (.k (.d (.int .i64 0)))))⟩,
    ⟨(some 14), 0, (some (11, false)), (.call (.k (.fn (.func 61) [] [])) [(.t 13)])⟩,
    ⟨(some 15), 0, (some (11, false)), (.op (.un .not (.t 14)))⟩,
    ⟨(some 16), 0, none, (.op (.pick (.t 11) (.k (.d (.bool true))) (.t 15)))⟩,
    ⟨(some 17), 0, none, (.op (.mov (.t 16)))⟩,
    ⟨(some 18), 0, (some (17, false)), (.op (.mov (.t 0)))⟩,
    ⟨(some 19), 0, (some (17, false)), (.call (.k (.fn (.func 62) [] [])) [(.t 18)])⟩,
    ⟨(some 20), 0, none, (.op (.pick (.t 17) (.k (.d (.bool true))) (.t 19)))⟩])
  (.cond (.t 20)
    (.seq (.reg 0 [⟨(some 2), 0, none, (.op (.mov (.k (.d (.bool false)))))⟩])
    (.ret))
    (.skip)))
  (.seq (.seq (.reg 0 [⟨(some 3), 0, none, (.op (.mov (.k (.d (.int .i64 0)))))⟩])
  (.block 0
   (.loop
    (.seq (.seq (.reg 0 [⟨(some 21), 0, none, (.op (.mov (.t 3)))⟩,
      ⟨(some 22), 0, none, (.op (.mov (.t 0)))⟩,
      ⟨(some 23), 0, none, (.op (.len true (.t 22)))⟩,
      ⟨(some 24), 0, none, (.op (.bin .lss (.t 21) (.t 23)))⟩])
    (.cond (.t 24)
      (.skip)
      (.exit 0)))
    (.seq (.block 1
     (.seq (.reg 0 [⟨(some 27), 0, none, (.op (.mov (.t 0)))⟩,
       ⟨(some 28), 0, none, (.op (.mov (.t 3)))⟩,
       ⟨(some 29), 0, none, (.op (.idxS (.t 27) (.t 28)))⟩,
       ⟨(some 30), 0, none, (.call (.k (.fn (.func 63) [] [])) [(.t 29)])⟩,
       ⟨(some 31), 0, none, (.op (.un .not (.t 30)))⟩])
     (.cond (.t 31)
       (.seq (.reg 0 [⟨(some 2), 0, none, (.op (.mov (.k (.d (.bool false)))))⟩])
       (.ret))
       (.skip))))
    (.reg 0 [⟨(some 25), 0, none, (.op (.mov (.t 3)))⟩,
      ⟨(some 26), 0, none, (.op (.bin .add (.t 25) (.k (.d (.int .i64 1)))))⟩,
      ⟨(some 3), 0, none, (.op (.mov (.t 26)))⟩]))))))
  (.seq (.reg 0 [⟨(some 2), 0, none, (.op (.mov (.k (.d (.bool true)))))⟩])
  (.ret))))
theorem cc57 : Tryd.f57.body.bind (compC Tryd.prog) = some ac57 := by kernel_rfl
theorem go57 {vals : List V} {v : V} (ac : AC) (he : ac.erase = ac57) (hw : wpC Tryd.prog 0 ac (retQ [.tmp 2] v) ⟨vals ++ List.replicate (32 - vals.length) (.tup []), []⟩) : CallP Tryd.prog 57 vals v :=
  call_of Tryd.func57 rfl rfl rfl (cc57.trans (congrArg some he.symm)) hw
theorem gi57 {vals : List V} {rows : Go.Vx.Rows} {K : V → Go.Vx.Rows → Prop} (ac : AC) (he : ac.erase = ac57) (hw : wpC Tryd.prog rows.length ac (retI [.tmp 2] K) ⟨vals ++ List.replicate (32 - vals.length) (.tup []), rows⟩) : InlP Tryd.prog 57 vals rows K :=
  inl_of' Tryd.func57 rfl rfl rfl (cc57.trans (congrArg some he.symm)) hw
theorem gm57 {vals : List V} {v : V} {sz : Nat} {es es' : List (List V)} (ac : AC) (he : ac.erase = ac57) (hw : wpC Tryd.prog 1 ac (retM [.tmp 2] v sz es') ⟨vals ++ List.replicate (32 - vals.length) (.tup []), [.live sz es]⟩) : CallM Tryd.prog 57 vals sz es v es' :=
  callM_of' Tryd.func57 rfl rfl rfl (cc57.trans (congrArg some he.symm)) hw

/-- internal/stringslite.Cut -/
def ac58 : AC :=
  .seq (.reg 0 [⟨(some 4), 0, none, (.op (.mov (.k (.d (.str [])))))⟩,
    ⟨(some 5), 0, none, (.op (.mov (.k (.d (.str [])))))⟩,
    ⟨(some 6), 0, none, (.op (.mov (.k (.d (.bool false)))))⟩])
  (.seq (.seq (.reg 0 [⟨(some 8), 0, none, (.op (.mov (.t 0)))⟩,
    ⟨(some 9), 0, none, (.op (.mov (.t 1)))⟩,
    ⟨(some 10), 0, none, (.call (.k (.fn (.func 64) [] [])) [(.t 8), (.t 9)])⟩,
    ⟨(some 7), 0, none, (.op (.mov (.t 10)))⟩])
  (.seq (.reg 0 [⟨(some 11), 0, none, (.op (.mov (.t 7)))⟩,
    ⟨(some 12), 0, none, (.op (.bin .geq (.t 11) (.k (.d (.int .i64 0)))))⟩])
  (.cond (.t 12)
    (.seq (.regD 0 [(⟨(some 13), 0, none, (.op (.mov (.t 0)))⟩, []),
      (⟨(some 14), 0, none, (.op (.mov (.t 7)))⟩, []),
      (⟨(some 15), 0, none, (.op (.slice 0 (.t 13) none (some (.t 14))))⟩, [0, 1]),
      (⟨(some 16), 0, none, (.op (.mov (.t 0)))⟩, []),
      (⟨(some 17), 0, none, (.op (.mov (.t 7)))⟩, []),
      (⟨(some 18), 0, none, (.op (.mov (.t 1)))⟩, []),
      (⟨(some 19), 0, none, (.op (.len true (.t 18)))⟩, [5]),
      (⟨(some 20), 0, none, (.op (.bin .add (.t 17) (.t 19)))⟩, [4, 6, 5]),
      (⟨(some 21), 0, none, (.op (.slice 0 (.t 16) (some (.t 20)) none))⟩, [3, 7, 4, 6, 5]),
      (⟨(some 4), 0, none, (.op (.mov (.t 15)))⟩, [2, 0, 1]),
      (⟨(some 5), 0, none, (.op (.mov (.t 21)))⟩, [8, 3, 7, 4, 6, 5, 9, 2, 0, 1]),
      (⟨(some 6), 0, none, (.op (.mov (.k (.d (.bool true)))))⟩, [10, 8, 3, 7, 4, 6, 5, 9, 2, 0, 1])])
    (.ret))
    (.skip))))
  (.seq (.reg 0 [⟨(some 22), 0, none, (.op (.mov (.t 0)))⟩,
    ⟨(some 4), 0, none, (.op (.mov (.t 22)))⟩,
    ⟨(some 5), 0, none, (.op (.mov (.k (.d (.str [])))))⟩,
    ⟨(some 6), 0, none, (.op (.mov (.k (.d (.bool false)))))⟩])
  (.ret)))
theorem cc58 : Tryd.f58.body.bind (compC Tryd.prog) = some ac58 := by kernel_rfl
theorem go58 {vals : List V} {v : V} (ac : AC) (he : ac.erase = ac58) (hw : wpC Tryd.prog 0 ac (retQ [.tmp 4, .tmp 5, .tmp 6] v) ⟨vals ++ List.replicate (23 - vals.length) (.tup []), []⟩) : CallP Tryd.prog 58 vals v :=
  call_of Tryd.func58 rfl rfl rfl (cc58.trans (congrArg some he.symm)) hw
theorem gi58 {vals : List V} {rows : Go.Vx.Rows} {K : V → Go.Vx.Rows → Prop} (ac : AC) (he : ac.erase = ac58) (hw : wpC Tryd.prog rows.length ac (retI [.tmp 4, .tmp 5, .tmp 6] K) ⟨vals ++ List.replicate (23 - vals.length) (.tup []), rows⟩) : InlP Tryd.prog 58 vals rows K :=
  inl_of' Tryd.func58 rfl rfl rfl (cc58.trans (congrArg some he.symm)) hw
theorem gm58 {vals : List V} {v : V} {sz : Nat} {es es' : List (List V)} (ac : AC) (he : ac.erase = ac58) (hw : wpC Tryd.prog 1 ac (retM [.tmp 4, .tmp 5, .tmp 6] v sz es') ⟨vals ++ List.replicate (23 - vals.length) (.tup []), [.live sz es]⟩) : CallM Tryd.prog 58 vals sz es v es' :=
  callM_of' Tryd.func58 rfl rfl rfl (cc58.trans (congrArg some he.symm)) hw

/-- testbench/lexer.word -/
def ac59 : AC :=
  .seq (.reg 0 [⟨(some 2), 0, none, (.op (.mov (.k (.d (.bool false)))))⟩])
  (.seq (.seq (.reg 1 [⟨(some 5), 0, none, (.op (.mov (.t 0)))⟩,
    ⟨(some 6), 0, none, (.op (.rng (.t 5)))⟩])
  (.block 0
   (.loop
    (.seq (.reg 0 [⟨(some 7), 0, none, (.op (.nxt (.t 6)))⟩,
      ⟨(some 8), 0, none, (.op (.ext (.t 7) 0))⟩])
    (.seq (.cond (.t 8)
      (.skip)
      (.exit 0))
    (.block 1
     (.seq (.reg 0 [⟨(some 9), 0, none, (.op (.ext (.t 7) 1))⟩,
       ⟨(some 10), 0, none, (.op (.ext (.t 7) 2))⟩,
       ⟨(some 3), 0, none, (.op (.mov (.t 9)))⟩,
       ⟨(some 4), 0, none, (.op (.mov (.t 10)))⟩])
     (.seq (.reg 0 [⟨(some 11), 0, none, (.op (.mov (.t 3)))⟩,
       ⟨(some 12), 0, none, (.op (.bin .eql (.t 11) (.k (.d (.int .i64 0)))))⟩,
       ⟨(some 13), 0, none, (.op (.mov (.t 12)))⟩,
       ⟨(some 14), 0, (some (13, true)), (.op (.mov (.t 4)))⟩,
       ⟨(some 15), 0, (some (13, true)), (.call (.k (.fn (.func 65) [] [])) [(.t 14)])⟩,
       ⟨(some 16), 0, (some (13, true)), (.op (.un .not (.t 15)))⟩,
       ⟨(some 17), 0, none, (.op (.pick (.t 13) (.t 16) (.k (.d (.bool false)))))⟩,
       ⟨(some 18), 0, none, (.op (.mov (.t 17)))⟩,
       ⟨(some 19), 0, (some (18, false)), (.op (.mov (.t 4)))⟩,
       ⟨(some 20), 0, (some (18, false)), (.call (.k (.fn (.func 66) [] [])) [(.t 19)])⟩,
       ⟨(some 21), 0, (some (18, false)), (.op (.un .not (.t 20)))⟩,
       ⟨(some 22), 0, none, (.op (.pick (.t 18) (.k (.d (.bool true))) (.t 21)))⟩])
     (.cond (.t 22)
       (.seq (.reg 0 [⟨(some 2), 0, none, (.op (.mov (.k (.d (.bool false)))))⟩])
       (.ret))
       (.skip))))))))))
  (.seq (.reg 0 [⟨(some 23), 0, none, (.op (.mov (.t 0)))⟩,
    ⟨(some 24), 0, none, (.op (.bin .neq (.t 23) (.k (.d (.str [])))))⟩,
    ⟨(some 2), 0, none, (.op (.mov (.t 24)))⟩])
  (.ret)))
theorem cc59 : Tryd.f59.body.bind (compC Tryd.prog) = some ac59 := by kernel_rfl
theorem go59 {vals : List V} {v : V} (ac : AC) (he : ac.erase = ac59) (hw : wpC Tryd.prog 0 ac (retQ [.tmp 2] v) ⟨vals ++ List.replicate (25 - vals.length) (.tup []), []⟩) : CallP Tryd.prog 59 vals v :=
  call_of Tryd.func59 rfl rfl rfl (cc59.trans (congrArg some he.symm)) hw
theorem gi59 {vals : List V} {rows : Go.Vx.Rows} {K : V → Go.Vx.Rows → Prop} (ac : AC) (he : ac.erase = ac59) (hw : wpC Tryd.prog rows.length ac (retI [.tmp 2] K) ⟨vals ++ List.replicate (25 - vals.length) (.tup []), rows⟩) : InlP Tryd.prog 59 vals rows K :=
  inl_of' Tryd.func59 rfl rfl rfl (cc59.trans (congrArg some he.symm)) hw
theorem gm59 {vals : List V} {v : V} {sz : Nat} {es es' : List (List V)} (ac : AC) (he : ac.erase = ac59) (hw : wpC Tryd.prog 1 ac (retM [.tmp 2] v sz es') ⟨vals ++ List.replicate (25 - vals.length) (.tup []), [.live sz es]⟩) : CallM Tryd.prog 59 vals sz es v es' :=
  callM_of' Tryd.func59 rfl rfl rfl (cc59.trans (congrArg some he.symm)) hw

/-- testbench/lexer.IsKeyword -/
def ac60 : AC :=
  .seq (.reg 0 [⟨(some 2), 0, none, (.op (.mov (.k (.d (.bool false)))))⟩])
  (.seq (.reg 0 [⟨(some 3), 0, none, (.op (.load false 1 (.k (.d (.ptr [kwD])))))⟩,
    ⟨(some 4), 0, none, (.op (.mov (.t 0)))⟩,
    ⟨(some 5), 0, none, (.call (.k (.fn (.func 67) [] [])) [(.t 3), (.t 4)])⟩,
    ⟨(some 2), 0, none, (.op (.mov (.t 5)))⟩])
  (.ret))
theorem cc60 : Tryd.f60.body.bind (compC Tryd.prog) = some ac60 := by kernel_rfl
theorem go60 {vals : List V} {v : V} (ac : AC) (he : ac.erase = ac60) (hw : wpC Tryd.prog 0 ac (retQ [.tmp 2] v) ⟨vals ++ List.replicate (6 - vals.length) (.tup []), []⟩) : CallP Tryd.prog 60 vals v :=
  call_of Tryd.func60 rfl rfl rfl (cc60.trans (congrArg some he.symm)) hw
theorem gi60 {vals : List V} {rows : Go.Vx.Rows} {K : V → Go.Vx.Rows → Prop} (ac : AC) (he : ac.erase = ac60) (hw : wpC Tryd.prog rows.length ac (retI [.tmp 2] K) ⟨vals ++ List.replicate (6 - vals.length) (.tup []), rows⟩) : InlP Tryd.prog 60 vals rows K :=
  inl_of' Tryd.func60 rfl rfl rfl (cc60.trans (congrArg some he.symm)) hw
theorem gm60 {vals : List V} {v : V} {sz : Nat} {es es' : List (List V)} (ac : AC) (he : ac.erase = ac60) (hw : wpC Tryd.prog 1 ac (retM [.tmp 2] v sz es') ⟨vals ++ List.replicate (6 - vals.length) (.tup []), [.live sz es]⟩) : CallM Tryd.prog 60 vals sz es v es' :=
  callM_of' Tryd.func60 rfl rfl rfl (cc60.trans (congrArg some he.symm)) hw

/-- testbench/testbenchref07.small -/
def ac61 : AC :=
  .seq (.reg 0 [⟨(some 2), 0, none, (.op (.mov (.k (.d (.bool false)))))⟩])
  (.seq (.reg 0 [⟨(some 3), 0, none, (.op (.mov (.t 0)))⟩,
    ⟨(some 4), 0, none, (.op (.bin .geq (.t 3) (.k (.d (.int .u8 97)))))⟩,
    ⟨(some 5), 0, none, (.op (.mov (.t 4)))⟩,
    ⟨(some 6), 0, (some (5, true)), (.op (.mov (.t 0)))⟩,
    ⟨(some 7), 0, (some (5, true)), (.op (.bin .leq (.t 6) (.k (.d (.int .u8 122)))))⟩,
    ⟨(some 8), 0, none, (.op (.pick (.t 5) (.t 7) (.k (.d (.bool false)))))⟩,
    ⟨(some 2), 0, none, (.op (.mov (.t 8)))⟩])
  (.ret))
theorem cc61 : Tryd.f61.body.bind (compC Tryd.prog) = some ac61 := by kernel_rfl
theorem go61 {vals : List V} {v : V} (ac : AC) (he : ac.erase = ac61) (hw : wpC Tryd.prog 0 ac (retQ [.tmp 2] v) ⟨vals ++ List.replicate (9 - vals.length) (.tup []), []⟩) : CallP Tryd.prog 61 vals v :=
  call_of Tryd.func61 rfl rfl rfl (cc61.trans (congrArg some he.symm)) hw
theorem gi61 {vals : List V} {rows : Go.Vx.Rows} {K : V → Go.Vx.Rows → Prop} (ac : AC) (he : ac.erase = ac61) (hw : wpC Tryd.prog rows.length ac (retI [.tmp 2] K) ⟨vals ++ List.replicate (9 - vals.length) (.tup []), rows⟩) : InlP Tryd.prog 61 vals rows K :=
  inl_of' Tryd.func61 rfl rfl rfl (cc61.trans (congrArg some he.symm)) hw
theorem gm61 {vals : List V} {v : V} {sz : Nat} {es es' : List (List V)} (ac : AC) (he : ac.erase = ac61) (hw : wpC Tryd.prog 1 ac (retM [.tmp 2] v sz es') ⟨vals ++ List.replicate (9 - vals.length) (.tup []), [.live sz es]⟩) : CallM Tryd.prog 61 vals sz es v es' :=
  callM_of' Tryd.func61 rfl rfl rfl (cc61.trans (congrArg some he.symm)) hw

/-- testbench/testbenchref07.IsKeyword -/
def ac62 : AC :=
  .seq (.reg 0 [⟨(some 2), 0, none, (.op (.mov (.k (.d (.bool false)))))⟩])
  (.seq (.reg 0 [⟨(some 3), 0, none, (.call (.k (.fn (.func 69) [] [])) [])⟩,
    ⟨(some 4), 0, none, (.op (.mov (.t 0)))⟩,
    ⟨(some 5), 0, none, (.call (.k (.fn (.func 68) [] [])) [(.t 3), (.t 4)])⟩,
    ⟨(some 2), 0, none, (.op (.mov (.t 5)))⟩])
  (.ret))
theorem cc62 : Tryd.f62.body.bind (compC Tryd.prog) = some ac62 := by kernel_rfl
theorem go62 {vals : List V} {v : V} (ac : AC) (he : ac.erase = ac62) (hw : wpC Tryd.prog 0 ac (retQ [.tmp 2] v) ⟨vals ++ List.replicate (6 - vals.length) (.tup []), []⟩) : CallP Tryd.prog 62 vals v :=
  call_of Tryd.func62 rfl rfl rfl (cc62.trans (congrArg some he.symm)) hw
theorem gi62 {vals : List V} {rows : Go.Vx.Rows} {K : V → Go.Vx.Rows → Prop} (ac : AC) (he : ac.erase = ac62) (hw : wpC Tryd.prog rows.length ac (retI [.tmp 2] K) ⟨vals ++ List.replicate (6 - vals.length) (.tup []), rows⟩) : InlP Tryd.prog 62 vals rows K :=
  inl_of' Tryd.func62 rfl rfl rfl (cc62.trans (congrArg some he.symm)) hw
theorem gm62 {vals : List V} {v : V} {sz : Nat} {es es' : List (List V)} (ac : AC) (he : ac.erase = ac62) (hw : wpC Tryd.prog 1 ac (retM [.tmp 2] v sz es') ⟨vals ++ List.replicate (6 - vals.length) (.tup []), [.live sz es]⟩) : CallM Tryd.prog 62 vals sz es v es' :=
  callM_of' Tryd.func62 rfl rfl rfl (cc62.trans (congrArg some he.symm)) hw

/-- testbench/testbenchref07.inner -/
def ac63 : AC :=
  .seq (.reg 0 [⟨(some 2), 0, none, (.op (.mov (.k (.d (.bool false)))))⟩])
  (.seq (.reg 0 [⟨(some 3), 0, none, (.op (.mov (.t 0)))⟩,
    ⟨(some 4), 0, none, (.call (.k (.fn (.func 61) [] [])) [(.t 3)])⟩,
    ⟨(some 5), 0, none, (.op (.mov (.t 4)))⟩,
    ⟨(some 6), 0, (some (5, false)), (.op (.mov (.t 0)))⟩,
    ⟨(some 7), 0, (some (5, false)), (.call (.k (.fn (.func 70) [] [])) [(.t 6)])⟩,
    ⟨(some 8), 0, none, (.op (.pick (.t 5) (.k (.d (.bool true))) (.t 7)))⟩,
    ⟨(some 9), 0, none, (.op (.mov (.t 8)))⟩,
    ⟨(some 10), 0, (some (9, false)), (.op (.mov (.t 0)))⟩,
    ⟨(some 11), 0, (some (9, false)), (.op (.bin .geq (.t 10) (.k (.d (.int .u8 65)))))⟩,
    ⟨(some 12), 0, (some (9, false)), (.op (.mov (.t 11)))⟩,
    ⟨(some 13), 0, (some (12, true)), (.op (.mov (.t 0)))⟩,
    ⟨(some 14), 0, (some (12, true)), (.op (.bin .leq (.t 13) (.k (.d (.int .u8 90)))))⟩,
    ⟨(some 15), 0, (some (9, false)), (.op (.pick (.t 12) (.t 14) (.k (.d (.bool false)))))⟩,
    ⟨(some 16), 0, none, (.op (.pick (.t 9) (.k (.d (.bool true))) (.t 15)))⟩,
    ⟨(some 17), 0, none, (.op (.mov (.t 16)))⟩,
    ⟨(some 18), 0, (some (17, false)), (.op (.mov (.t 0)))⟩,
    ⟨(some 19), 0, (some (17, false)), (.op (.bin .eql (.t 18) (.k (.d (.int .u8 95)))))⟩,
    ⟨(some 20), 0, none, (.op (.pick (.t 17) (.k (.d (.bool true))) (.t 19)))⟩,
    ⟨(some 2), 0, none, (.op (.mov (.t 20)))⟩])
  (.ret))
theorem cc63 : Tryd.f63.body.bind (compC Tryd.prog) = some ac63 := by kernel_rfl
theorem go63 {vals : List V} {v : V} (ac : AC) (he : ac.erase = ac63) (hw : wpC Tryd.prog 0 ac (retQ [.tmp 2] v) ⟨vals ++ List.replicate (21 - vals.length) (.tup []), []⟩) : CallP Tryd.prog 63 vals v :=
  call_of Tryd.func63 rfl rfl rfl (cc63.trans (congrArg some he.symm)) hw
theorem gi63 {vals : List V} {rows : Go.Vx.Rows} {K : V → Go.Vx.Rows → Prop} (ac : AC) (he : ac.erase = ac63) (hw : wpC Tryd.prog rows.length ac (retI [.tmp 2] K) ⟨vals ++ List.replicate (21 - vals.length) (.tup []), rows⟩) : InlP Tryd.prog 63 vals rows K :=
  inl_of' Tryd.func63 rfl rfl rfl (cc63.trans (congrArg some he.symm)) hw
theorem gm63 {vals : List V} {v : V} {sz : Nat} {es es' : List (List V)} (ac : AC) (he : ac.erase = ac63) (hw : wpC Tryd.prog 1 ac (retM [.tmp 2] v sz es') ⟨vals ++ List.replicate (21 - vals.length) (.tup []), [.live sz es]⟩) : CallM Tryd.prog 63 vals sz es v es' :=
  callM_of' Tryd.func63 rfl rfl rfl (cc63.trans (congrArg some he.symm)) hw

/-- internal/stringslite.Index -/
def ac64 : AC :=
  .seq (.reg 0 [⟨(some 4), 0, none, (.op (.mov (.k (.d (.int .i64 0)))))⟩])
  (.seq (.reg 0 [⟨(some 14), 0, none, (.op (.mov (.t 1)))⟩,
    ⟨(some 15), 0, none, (.op (.len true (.t 14)))⟩,
    ⟨(some 5), 0, none, (.op (.mov (.t 15)))⟩])
  (.seq (.block 0
   (.seq (.reg 0 [⟨(some 17), 0, none, (.op (.mov (.t 5)))⟩,
     ⟨(some 18), 0, none, (.op (.bin .eql (.t 17) (.k (.d (.int .i64 0)))))⟩,
     ⟨(some 19), 0, none, (.op (.mov (.t 18)))⟩,
     ⟨(some 20), 0, (some (19, false)), (.op (.mov (.t 1)))⟩,
     ⟨(some 21), 0, (some (19, false)), (.op (.mov (.t 0)))⟩,
     ⟨(some 22), 0, (some (19, false)), (.op (.bin .eql (.t 20) (.t 21)))⟩,
     ⟨(some 23), 0, none, (.op (.pick (.t 19) (.k (.d (.bool true))) (.t 22)))⟩,
     ⟨(some 16), 0, none, (.op (.mov (.t 23)))⟩])
   (.cond (.t 16)
     (.seq (.reg 0 [⟨(some 4), 0, none, (.op (.mov (.k (.d (.int .i64 0)))))⟩])
     (.ret))
     (.seq (.reg 0 [⟨(some 25), 0, none, (.op (.mov (.t 5)))⟩,
       ⟨(some 26), 0, none, (.op (.bin .eql (.t 25) (.k (.d (.int .i64 1)))))⟩,
       ⟨(some 24), 0, none, (.op (.mov (.t 26)))⟩])
     (.cond (.t 24)
       (.seq (.reg 0 [⟨(some 27), 0, none, (.op (.mov (.t 0)))⟩,
         ⟨(some 28), 0, none, (.op (.mov (.t 1)))⟩,
         ⟨(some 29), 0, none, (.op (.idxS (.t 28) (.k (.d (.int .i64 0)))))⟩,
         ⟨(some 30), 0, none, (.call (.k (.fn (.func 71) [] [])) [(.t 27), (.t 29)])⟩,
         ⟨(some 4), 0, none, (.op (.mov (.t 30)))⟩])
       (.ret))
       (.seq (.reg 0 [⟨(some 32), 0, none, (.op (.mov (.t 5)))⟩,
         ⟨(some 33), 0, none, (.op (.mov (.t 0)))⟩,
         ⟨(some 34), 0, none, (.op (.len true (.t 33)))⟩,
         ⟨(some 35), 0, none, (.op (.bin .geq (.t 32) (.t 34)))⟩,
         ⟨(some 31), 0, none, (.op (.mov (.t 35)))⟩])
       (.cond (.t 31)
         (.seq (.reg 0 [⟨(some 4), 0, none, (.op (.mov (.k (.d (.int .i64 (-1))))))⟩])
         (.ret))
         (.seq (.reg 0 [⟨(some 37), 0, none, (.op (.mov (.t 5)))⟩,
           ⟨(some 38), 0, none, (.op (.bad))⟩,
           ⟨(some 39), 0, none, (.op (.bin .leq (.t 37) (.t 38)))⟩,
           ⟨(some 40), 0, none, (.op (.mov (.t 39)))⟩,
           ⟨(some 41), 0, (some (40, true)), (.op (.mov (.t 0)))⟩,
           ⟨(some 42), 0, (some (40, true)), (.op (.len true (.t 41)))⟩,
           ⟨(some 43), 0, (some (40, true)), (.op (.bin .leq (.t 42) (.k (.d (.int .i64 64)))))⟩,
           ⟨(some 44), 0, none, (.op (.pick (.t 40) (.t 43) (.k (.d (.bool false)))))⟩,
           ⟨(some 36), 0, none, (.op (.mov (.t 44)))⟩])
         (.cond (.t 36)
           (.seq (.reg 0 [⟨(some 45), 0, none, (.op (.mov (.t 0)))⟩,
             ⟨(some 46), 0, none, (.op (.mov (.t 1)))⟩,
             ⟨(some 47), 0, none, (.call (.k (.fn (.func 72) [] [])) [(.t 45), (.t 46)])⟩,
             ⟨(some 4), 0, none, (.op (.mov (.t 47)))⟩])
           (.ret))
           (.skip))))))))))
  (.seq (.reg 0 [⟨(some 48), 0, none, (.op (.mov (.t 1)))⟩,
    ⟨(some 49), 0, none, (.op (.idxS (.t 48) (.k (.d (.int .i64 0)))))⟩,
    ⟨(some 6), 0, none, (.op (.mov (.t 49)))⟩])
  (.seq (.reg 0 [⟨(some 50), 0, none, (.op (.mov (.t 1)))⟩,
    ⟨(some 51), 0, none, (.op (.idxS (.t 50) (.k (.d (.int .i64 1)))))⟩,
    ⟨(some 7), 0, none, (.op (.mov (.t 51)))⟩])
  (.seq (.reg 0 [⟨(some 8), 0, none, (.op (.mov (.k (.d (.int .i64 0)))))⟩])
  (.seq (.reg 0 [⟨(some 52), 0, none, (.op (.mov (.t 0)))⟩,
    ⟨(some 53), 0, none, (.op (.len true (.t 52)))⟩,
    ⟨(some 54), 0, none, (.op (.mov (.t 5)))⟩,
    ⟨(some 55), 0, none, (.op (.bin .sub (.t 53) (.t 54)))⟩,
    ⟨(some 56), 0, none, (.op (.bin .add (.t 55) (.k (.d (.int .i64 1)))))⟩,
    ⟨(some 9), 0, none, (.op (.mov (.t 56)))⟩])
  (.seq (.reg 0 [⟨(some 10), 0, none, (.op (.mov (.k (.d (.int .i64 0)))))⟩])
  (.seq (.block 1
   (.loop
    (.seq (.seq (.reg 0 [⟨(some 57), 0, none, (.op (.mov (.t 8)))⟩,
      ⟨(some 58), 0, none, (.op (.mov (.t 9)))⟩,
      ⟨(some 59), 0, none, (.op (.bin .lss (.t 57) (.t 58)))⟩])
    (.cond (.t 59)
      (.skip)
      (.exit 1)))
    (.block 2
     (.seq (.seq (.reg 0 [⟨(some 60), 0, none, (.op (.mov (.t 0)))⟩,
       ⟨(some 61), 0, none, (.op (.mov (.t 8)))⟩,
       ⟨(some 62), 0, none, (.op (.idxS (.t 60) (.t 61)))⟩,
       ⟨(some 63), 0, none, (.op (.mov (.t 6)))⟩,
       ⟨(some 64), 0, none, (.op (.bin .neq (.t 62) (.t 63)))⟩])
     (.cond (.t 64)
       (.seq (.reg 0 [⟨(some 65), 0, none, (.op (.mov (.t 0)))⟩,
         ⟨(some 66), 0, none, (.op (.mov (.t 8)))⟩,
         ⟨(some 67), 0, none, (.op (.bin .add (.t 66) (.k (.d (.int .i64 1)))))⟩,
         ⟨(some 68), 0, none, (.op (.mov (.t 9)))⟩,
         ⟨(some 69), 0, none, (.op (.slice 0 (.t 65) (some (.t 67)) (some (.t 68))))⟩,
         ⟨(some 70), 0, none, (.op (.mov (.t 6)))⟩,
         ⟨(some 71), 0, none, (.call (.k (.fn (.func 71) [] [])) [(.t 69), (.t 70)])⟩,
         ⟨(some 11), 0, none, (.op (.mov (.t 71)))⟩])
       (.seq (.seq (.reg 0 [⟨(some 72), 0, none, (.op (.mov (.t 11)))⟩,
         ⟨(some 73), 0, none, (.op (.bin .lss (.t 72) (.k (.d (.int .i64 0)))))⟩])
       (.cond (.t 73)
         (.seq (.reg 0 [⟨(some 4), 0, none, (.op (.mov (.k (.d (.int .i64 (-1))))))⟩])
         (.ret))
         (.skip)))
       (.reg 0 [⟨(some 74), 0, none, (.op (.mov (.t 8)))⟩,
         ⟨(some 75), 0, none, (.op (.mov (.t 11)))⟩,
         ⟨(some 76), 0, none, (.op (.bin .add (.t 75) (.k (.d (.int .i64 1)))))⟩,
         ⟨(some 77), 0, none, (.op (.bin .add (.t 74) (.t 76)))⟩,
         ⟨(some 8), 0, none, (.op (.mov (.t 77)))⟩])))
       (.skip)))
     (.seq (.seq (.reg 0 [⟨(some 78), 0, none, (.op (.mov (.t 0)))⟩,
       ⟨(some 79), 0, none, (.op (.mov (.t 8)))⟩,
       ⟨(some 80), 0, none, (.op (.bin .add (.t 79) (.k (.d (.int .i64 1)))))⟩,
       ⟨(some 81), 0, none, (.op (.idxS (.t 78) (.t 80)))⟩,
       ⟨(some 82), 0, none, (.op (.mov (.t 7)))⟩,
       ⟨(some 83), 0, none, (.op (.bin .eql (.t 81) (.t 82)))⟩,
       ⟨(some 84), 0, none, (.op (.mov (.t 83)))⟩,
       ⟨(some 85), 0, (some (84, true)), (.op (.mov (.t 0)))⟩,
       ⟨(some 86), 0, (some (84, true)), (.op (.mov (.t 8)))⟩,
       ⟨(some 87), 0, (some (84, true)), (.op (.mov (.t 8)))⟩,
       ⟨(some 88), 0, (some (84, true)), (.op (.mov (.t 5)))⟩,
       ⟨(some 89), 0, (some (84, true)), (.op (.bin .add (.t 87) (.t 88)))⟩,
       ⟨(some 90), 0, (some (84, true)), (.op (.slice 0 (.t 85) (some (.t 86)) (some (.t 89))))⟩,
       ⟨(some 91), 0, (some (84, true)), (.op (.mov (.t 1)))⟩,
       ⟨(some 92), 0, (some (84, true)), (.op (.bin .eql (.t 90) (.t 91)))⟩,
       ⟨(some 93), 0, none, (.op (.pick (.t 84) (.t 92) (.k (.d (.bool false)))))⟩])
     (.cond (.t 93)
       (.seq (.reg 0 [⟨(some 94), 0, none, (.op (.mov (.t 8)))⟩,
         ⟨(some 4), 0, none, (.op (.mov (.t 94)))⟩])
       (.ret))
       (.skip)))
     (.seq (.reg 0 [⟨(some 95), 0, none, (.op (.mov (.t 8)))⟩,
       ⟨(some 96), 0, none, (.op (.bin .add (.t 95) (.k (.d (.int .i64 1)))))⟩,
       ⟨(some 8), 0, none, (.op (.mov (.t 96)))⟩])
     (.seq (.reg 0 [⟨(some 97), 0, none, (.op (.mov (.t 10)))⟩,
       ⟨(some 98), 0, none, (.op (.bin .add (.t 97) (.k (.d (.int .i64 1)))))⟩,
       ⟨(some 10), 0, none, (.op (.mov (.t 98)))⟩])
     (.seq (.reg 0 [⟨(some 99), 0, none, (.op (.mov (.t 5)))⟩,
       ⟨(some 100), 0, none, (.op (.bad))⟩,
       ⟨(some 101), 0, none, (.op (.bin .leq (.t 99) (.t 100)))⟩,
       ⟨(some 102), 0, none, (.op (.mov (.t 101)))⟩,
       ⟨(some 103), 0, (some (102, true)), (.op (.mov (.t 10)))⟩,
       ⟨(some 104), 0, (some (102, true)), (.op (.mov (.t 8)))⟩,
       ⟨(some 105), 0, (some (102, true)), (.call (.k (.fn (.func 73) [] [])) [(.t 104)])⟩,
       ⟨(some 106), 0, (some (102, true)), (.op (.bin .gtr (.t 103) (.t 105)))⟩,
       ⟨(some 107), 0, none, (.op (.pick (.t 102) (.t 106) (.k (.d (.bool false)))))⟩])
     (.cond (.t 107)
       (.seq (.reg 0 [⟨(some 108), 0, none, (.op (.mov (.t 0)))⟩,
         ⟨(some 109), 0, none, (.op (.mov (.t 8)))⟩,
         ⟨(some 110), 0, none, (.op (.slice 0 (.t 108) (some (.t 109)) none))⟩,
         ⟨(some 111), 0, none, (.op (.mov (.t 1)))⟩,
         ⟨(some 112), 0, none, (.call (.k (.fn (.func 72) [] [])) [(.t 110), (.t 111)])⟩,
         ⟨(some 12), 0, none, (.op (.mov (.t 112)))⟩])
       (.seq (.seq (.reg 0 [⟨(some 113), 0, none, (.op (.mov (.t 12)))⟩,
         ⟨(some 114), 0, none, (.op (.bin .geq (.t 113) (.k (.d (.int .i64 0)))))⟩])
       (.cond (.t 114)
         (.seq (.reg 0 [⟨(some 115), 0, none, (.op (.mov (.t 12)))⟩,
           ⟨(some 116), 0, none, (.op (.mov (.t 8)))⟩,
           ⟨(some 117), 0, none, (.op (.bin .add (.t 115) (.t 116)))⟩,
           ⟨(some 4), 0, none, (.op (.mov (.t 117)))⟩])
         (.ret))
         (.skip)))
       (.seq (.reg 0 [⟨(some 4), 0, none, (.op (.mov (.k (.d (.int .i64 (-1))))))⟩])
       (.ret))))
       (.seq (.reg 0 [⟨(some 118), 0, none, (.op (.mov (.t 5)))⟩,
         ⟨(some 119), 0, none, (.op (.bad))⟩,
         ⟨(some 120), 0, none, (.op (.bin .gtr (.t 118) (.t 119)))⟩,
         ⟨(some 121), 0, none, (.op (.mov (.t 120)))⟩,
         ⟨(some 122), 0, (some (121, true)), (.op (.mov (.t 10)))⟩,
         ⟨(some 123), 0, (some (121, true)), (.op (.mov (.t 8)))⟩,
         ⟨(some 124), 0, (some (121, true)), (.op (.bin .shr (.t 123) (.k (.d (.int .u64 4)))))⟩,
         ⟨(some 125), 0, (some (121, true)), (.op (.bin .add (.k (.d (.int .i64 4))) (.t 124)))⟩,
         ⟨(some 126), 0, (some (121, true)), (.op (.bin .geq (.t 122) (.t 125)))⟩,
         ⟨(some 127), 0, none, (.op (.pick (.t 121) (.t 126) (.k (.d (.bool false)))))⟩,
         ⟨(some 128), 0, none, (.op (.mov (.t 127)))⟩,
         ⟨(some 129), 0, (some (128, true)), (.op (.mov (.t 8)))⟩,
         ⟨(some 130), 0, (some (128, true)), (.op (.mov (.t 9)))⟩,
         ⟨(some 131), 0, (some (128, true)), (.op (.bin .lss (.t 129) (.t 130)))⟩,
         ⟨(some 132), 0, none, (.op (.pick (.t 128) (.t 131) (.k (.d (.bool false)))))⟩])
       (.cond (.t 132)
         (.seq (.reg 0 [⟨(some 133), 0, none, (.op (.mov (.t 0)))⟩,
           ⟨(some 134), 0, none, (.op (.mov (.t 8)))⟩,
           ⟨(some 135), 0, none, (.op (.slice 0 (.t 133) (some (.t 134)) none))⟩,
           ⟨(some 136), 0, none, (.op (.mov (.t 1)))⟩,
           ⟨(some 137), 0, none, (.call (.k (.fn (.func 74) [] [])) [(.t 135), (.t 136)])⟩,
           ⟨(some 13), 0, none, (.op (.mov (.t 137)))⟩])
         (.seq (.seq (.reg 0 [⟨(some 138), 0, none, (.op (.mov (.t 13)))⟩,
           ⟨(some 139), 0, none, (.op (.bin .lss (.t 138) (.k (.d (.int .i64 0)))))⟩])
         (.cond (.t 139)
           (.seq (.reg 0 [⟨(some 4), 0, none, (.op (.mov (.k (.d (.int .i64 (-1))))))⟩])
           (.ret))
           (.skip)))
         (.seq (.reg 0 [⟨(some 140), 0, none, (.op (.mov (.t 8)))⟩,
           ⟨(some 141), 0, none, (.op (.mov (.t 13)))⟩,
           ⟨(some 142), 0, none, (.op (.bin .add (.t 140) (.t 141)))⟩,
           ⟨(some 4), 0, none, (.op (.mov (.t 142)))⟩])
         (.ret))))
         (.skip)))))))))))))
  (.seq (.reg 0 [⟨(some 4), 0, none, (.op (.mov (.k (.d (.int .i64 (-1))))))⟩])
  (.ret))))))))))
theorem cc64 : Tryd.f64.body.bind (compC Tryd.prog) = some ac64 := by kernel_rfl
theorem go64 {vals : List V} {v : V} (ac : AC) (he : ac.erase = ac64) (hw : wpC Tryd.prog 0 ac (retQ [.tmp 4] v) ⟨vals ++ List.replicate (143 - vals.length) (.tup []), []⟩) : CallP Tryd.prog 64 vals v :=
  call_of Tryd.func64 rfl rfl rfl (cc64.trans (congrArg some he.symm)) hw
theorem gi64 {vals : List V} {rows : Go.Vx.Rows} {K : V → Go.Vx.Rows → Prop} (ac : AC) (he : ac.erase = ac64) (hw : wpC Tryd.prog rows.length ac (retI [.tmp 4] K) ⟨vals ++ List.replicate (143 - vals.length) (.tup []), rows⟩) : InlP Tryd.prog 64 vals rows K :=
  inl_of' Tryd.func64 rfl rfl rfl (cc64.trans (congrArg some he.symm)) hw
theorem gm64 {vals : List V} {v : V} {sz : Nat} {es es' : List (List V)} (ac : AC) (he : ac.erase = ac64) (hw : wpC Tryd.prog 1 ac (retM [.tmp 4] v sz es') ⟨vals ++ List.replicate (143 - vals.length) (.tup []), [.live sz es]⟩) : CallM Tryd.prog 64 vals sz es v es' :=
  callM_of' Tryd.func64 rfl rfl rfl (cc64.trans (congrArg some he.symm)) hw

/-- testbench/lexer.lower -/
def ac65 : AC :=
  .seq (.reg 0 [⟨(some 2), 0, none, (.op (.mov (.k (.d (.bool false)))))⟩])
  (.seq (.reg 0 [⟨(some 3), 0, none, (.op (.mov (.t 0)))⟩,
    ⟨(some 4), 0, none, (.op (.bin .geq (.t 3) (.k (.d (.int .i32 97)))))⟩,
    ⟨(some 5), 0, none, (.op (.mov (.t 4)))⟩,
    ⟨(some 6), 0, (some (5, true)), (.op (.mov (.t 0)))⟩,
    ⟨(some 7), 0, (some (5, true)), (.op (.bin .leq (.t 6) (.k (.d (.int .i32 122)))))⟩,
    ⟨(some 8), 0, none, (.op (.pick (.t 5) (.t 7) (.k (.d (.bool false)))))⟩,
    ⟨(some 2), 0, none, (.op (.mov (.t 8)))⟩])
  (.ret))
theorem cc65 : Tryd.f65.body.bind (compC Tryd.prog) = some ac65 := by kernel_rfl
theorem go65 {vals : List V} {v : V} (ac : AC) (he : ac.erase = ac65) (hw : wpC Tryd.prog 0 ac (retQ [.tmp 2] v) ⟨vals ++ List.replicate (9 - vals.length) (.tup []), []⟩) : CallP Tryd.prog 65 vals v :=
  call_of Tryd.func65 rfl rfl rfl (cc65.trans (congrArg some he.symm)) hw
theorem gi65 {vals : List V} {rows : Go.Vx.Rows} {K : V → Go.Vx.Rows → Prop} (ac : AC) (he : ac.erase = ac65) (hw : wpC Tryd.prog rows.length ac (retI [.tmp 2] K) ⟨vals ++ List.replicate (9 - vals.length) (.tup []), rows⟩) : InlP Tryd.prog 65 vals rows K :=
  inl_of' Tryd.func65 rfl rfl rfl (cc65.trans (congrArg some he.symm)) hw
theorem gm65 {vals : List V} {v : V} {sz : Nat} {es es' : List (List V)} (ac : AC) (he : ac.erase = ac65) (hw : wpC Tryd.prog 1 ac (retM [.tmp 2] v sz es') ⟨vals ++ List.replicate (9 - vals.length) (.tup []), [.live sz es]⟩) : CallM Tryd.prog 65 vals sz es v es' :=
  callM_of' Tryd.func65 rfl rfl rfl (cc65.trans (congrArg some he.symm)) hw

/-- testbench/lexer.follows -/
def ac66 : AC :=
  .seq (.reg 0 [⟨(some 2), 0, none, (.op (.mov (.k (.d (.bool false)))))⟩])
  (.seq (.reg 0 [⟨(some 3), 0, none, (.op (.mov (.t 0)))⟩,
    ⟨(some 4), 0, none, (.call (.k (.fn (.func 65) [] [])) [(.t 3)])⟩,
    ⟨(some 5), 0, none, (.op (.mov (.t 4)))⟩,
    ⟨(some 6), 0, (some (5, false)), (.op (.mov (.t 0)))⟩,
    ⟨(some 7), 0, (some (5, false)), (.call (.k (.fn (.func 75) [] [])) [(.t 6)])⟩,
    ⟨(some 8), 0, none, (.op (.pick (.t 5) (.k (.d (.bool true))) (.t 7)))⟩,
    ⟨(some 9), 0, none, (.op (.mov (.t 8)))⟩,
    ⟨(some 10), 0, (some (9, false)), (.op (.mov (.t 0)))⟩,
    ⟨(some 11), 0, (some (9, false)), (.op (.bin .geq (.t 10) (.k (.d (.int .i32 65)))))⟩,
    ⟨(some 12), 0, (some (9, false)), (.op (.mov (.t 11)))⟩,
    ⟨(some 13), 0, (some (12, true)), (.op (.mov (.t 0)))⟩,
    ⟨(some 14), 0, (some (12, true)), (.op (.bin .leq (.t 13) (.k (.d (.int .i32 90)))))⟩,
    ⟨(some 15), 0, (some (9, false)), (.op (.pick (.t 12) (.t 14) (.k (.d (.bool false)))))⟩,
    ⟨(some 16), 0, none, (.op (.pick (.t 9) (.k (.d (.bool true))) (.t 15)))⟩,
    ⟨(some 17), 0, none, (.op (.mov (.t 16)))⟩,
    ⟨(some 18), 0, (some (17, false)), (.op (.mov (.t 0)))⟩,
    ⟨(some 19), 0, (some (17, false)), (.op (.bin .eql (.t 18) (.k (.d (.int .i32 95)))))⟩,
    ⟨(some 20), 0, none, (.op (.pick (.t 17) (.k (.d (.bool true))) (.t 19)))⟩,
    ⟨(some 2), 0, none, (.op (.mov (.t 20)))⟩])
  (.ret))
theorem cc66 : Tryd.f66.body.bind (compC Tryd.prog) = some ac66 := by kernel_rfl
theorem go66 {vals : List V} {v : V} (ac : AC) (he : ac.erase = ac66) (hw : wpC Tryd.prog 0 ac (retQ [.tmp 2] v) ⟨vals ++ List.replicate (21 - vals.length) (.tup []), []⟩) : CallP Tryd.prog 66 vals v :=
  call_of Tryd.func66 rfl rfl rfl (cc66.trans (congrArg some he.symm)) hw
theorem gi66 {vals : List V} {rows : Go.Vx.Rows} {K : V → Go.Vx.Rows → Prop} (ac : AC) (he : ac.erase = ac66) (hw : wpC Tryd.prog rows.length ac (retI [.tmp 2] K) ⟨vals ++ List.replicate (21 - vals.length) (.tup []), rows⟩) : InlP Tryd.prog 66 vals rows K :=
  inl_of' Tryd.func66 rfl rfl rfl (cc66.trans (congrArg some he.symm)) hw
theorem gm66 {vals : List V} {v : V} {sz : Nat} {es es' : List (List V)} (ac : AC) (he : ac.erase = ac66) (hw : wpC Tryd.prog 1 ac (retM [.tmp 2] v sz es') ⟨vals ++ List.replicate (21 - vals.length) (.tup []), [.live sz es]⟩) : CallM Tryd.prog 66 vals sz es v es' :=
  callM_of' Tryd.func66 rfl rfl rfl (cc66.trans (congrArg some he.symm)) hw

/-- slices.Contains[[]string,string] -/
def ac67 : AC :=
  .seq (.reg 0 [⟨(some 4), 0, none, (.op (.mov (.k (.d (.bool false)))))⟩])
  (.seq (.reg 0 [⟨(some 5), 0, none, (.op (.mov (.t 0)))⟩,
    ⟨(some 6), 0, none, (.op (.mov (.t 1)))⟩,
    ⟨(some 7), 0, none, (.call (.k (.fn (.func 51) [] [])) [(.t 5), (.t 6)])⟩,
    ⟨(some 8), 0, none, (.op (.bin .geq (.t 7) (.k (.d (.int .i64 0)))))⟩,
    ⟨(some 4), 0, none, (.op (.mov (.t 8)))⟩])
  (.ret))
theorem cc67 : Tryd.f67.body.bind (compC Tryd.prog) = some ac67 := by kernel_rfl
theorem go67 {vals : List V} {v : V} (ac : AC) (he : ac.erase = ac67) (hw : wpC Tryd.prog 0 ac (retQ [.tmp 4] v) ⟨vals ++ List.replicate (9 - vals.length) (.tup []), []⟩) : CallP Tryd.prog 67 vals v :=
  call_of Tryd.func67 rfl rfl rfl (cc67.trans (congrArg some he.symm)) hw
theorem gi67 {vals : List V} {rows : Go.Vx.Rows} {K : V → Go.Vx.Rows → Prop} (ac : AC) (he : ac.erase = ac67) (hw : wpC Tryd.prog rows.length ac (retI [.tmp 4] K) ⟨vals ++ List.replicate (9 - vals.length) (.tup []), rows⟩) : InlP Tryd.prog 67 vals rows K :=
  inl_of' Tryd.func67 rfl rfl rfl (cc67.trans (congrArg some he.symm)) hw
theorem gm67 {vals : List V} {v : V} {sz : Nat} {es es' : List (List V)} (ac : AC) (he : ac.erase = ac67) (hw : wpC Tryd.prog 1 ac (retM [.tmp 4] v sz es') ⟨vals ++ List.replicate (9 - vals.length) (.tup []), [.live sz es]⟩) : CallM Tryd.prog 67 vals sz es v es' :=
  callM_of' Tryd.func67 rfl rfl rfl (cc67.trans (congrArg some he.symm)) hw

/-- testbench/testbenchref07.has -/
def ac68 : AC :=
  .seq (.reg 0 [⟨(some 4), 0, none, (.op (.mov (.k (.d (.bool false)))))⟩])
  (.seq (.seq (.reg 0 [⟨(some 5), 0, none, (.op (.mov (.k (.d (.int .i64 0)))))⟩])
  (.block 0
   (.loop
    (.seq (.seq (.reg 0 [⟨(some 6), 0, none, (.op (.mov (.t 5)))⟩,
      ⟨(some 7), 0, none, (.op (.mov (.t 0)))⟩,
      ⟨(some 8), 0, none, (.op (.len false (.t 7)))⟩,
      ⟨(some 9), 0, none, (.op (.bin .lss (.t 6) (.t 8)))⟩])
    (.cond (.t 9)
      (.skip)
      (.exit 0)))
    (.seq (.block 1
     (.seq (.reg 0 [⟨(some 12), 0, none, (.op (.mov (.t 0)))⟩,
       ⟨(some 13), 0, none, (.op (.mov (.t 5)))⟩,
       ⟨(some 14), 0, none, (.op (.idxA 1 none (.t 12) (.t 13)))⟩,
       ⟨(some 15), 0, none, (.op (.load false 1 (.t 14)))⟩,
       ⟨(some 16), 0, none, (.op (.mov (.t 1)))⟩,
       ⟨(some 17), 0, none, (.op (.bin .eql (.t 15) (.t 16)))⟩])
     (.cond (.t 17)
       (.seq (.reg 0 [⟨(some 4), 0, none, (.op (.mov (.k (.d (.bool true)))))⟩])
       (.ret))
       (.skip))))
    (.reg 0 [⟨(some 10), 0, none, (.op (.mov (.t 5)))⟩,
      ⟨(some 11), 0, none, (.op (.bin .add (.t 10) (.k (.d (.int .i64 1)))))⟩,
      ⟨(some 5), 0, none, (.op (.mov (.t 11)))⟩]))))))
  (.seq (.reg 0 [⟨(some 4), 0, none, (.op (.mov (.k (.d (.bool false)))))⟩])
  (.ret)))
theorem cc68 : Tryd.f68.body.bind (compC Tryd.prog) = some ac68 := by kernel_rfl
theorem go68 {vals : List V} {v : V} (ac : AC) (he : ac.erase = ac68) (hw : wpC Tryd.prog 0 ac (retQ [.tmp 4] v) ⟨vals ++ List.replicate (18 - vals.length) (.tup []), []⟩) : CallP Tryd.prog 68 vals v :=
  call_of Tryd.func68 rfl rfl rfl (cc68.trans (congrArg some he.symm)) hw
theorem gi68 {vals : List V} {rows : Go.Vx.Rows} {K : V → Go.Vx.Rows → Prop} (ac : AC) (he : ac.erase = ac68) (hw : wpC Tryd.prog rows.length ac (retI [.tmp 4] K) ⟨vals ++ List.replicate (18 - vals.length) (.tup []), rows⟩) : InlP Tryd.prog 68 vals rows K :=
  inl_of' Tryd.func68 rfl rfl rfl (cc68.trans (congrArg some he.symm)) hw
theorem gm68 {vals : List V} {v : V} {sz : Nat} {es es' : List (List V)} (ac : AC) (he : ac.erase = ac68) (hw : wpC Tryd.prog 1 ac (retM [.tmp 4] v sz es') ⟨vals ++ List.replicate (18 - vals.length) (.tup []), [.live sz es]⟩) : CallM Tryd.prog 68 vals sz es v es' :=
  callM_of' Tryd.func68 rfl rfl rfl (cc68.trans (congrArg some he.symm)) hw

/-- testbench/testbenchref07.keywords -/
def ac69 : AC :=
  .seq (.reg 0 [⟨(some 0), 0, none, (.op (.mov (.k (.d .nils))))⟩])
  (.seq (.reg 1 [⟨(some 1), 0, none, (.op (.buildSl 1 24 [(.str [])] [(0, (.k (.d (.str [99, 108, 97, 115, 115])))), (1, (.k (.d (.str [101, 120, 116, 101, 110, 100, 115])))), (2, (.k (.d (.str [114, 97, 110, 100])))), (3, (.k (.d (.str [114, 97, 110, 100, 99])))), (4, (.k (.d (.str [115, 116, 97, 116, 101])))), (5, (.k (.d (.str [99, 111, 110, 115, 116, 114, 97, 105, 110, 116])))), (6, (.k (.d (.str [115, 111, 102, 116])))), (7, (.k (.d (.str [100, 105, 115, 116])))), (8, (.k (.d (.str [105, 102])))), (9, (.k (.d (.str [101, 108, 115, 101])))), (10, (.k (.d (.str [101, 97, 99, 104])))), (11, (.k (.d (.str [105, 110])))), (12, (.k (.d (.str [115, 111, 108, 118, 101])))), (13, (.k (.d (.str [98, 101, 102, 111, 114, 101])))), (14, (.k (.d (.str [105, 110, 115, 105, 100, 101])))), (15, (.k (.d (.str [112, 114, 111, 112, 101, 114, 116, 121])))), (16, (.k (.d (.str [115, 101, 113])))), (17, (.k (.d (.str [97, 110, 100])))), (18, (.k (.d (.str [111, 114])))), (19, (.k (.d (.str [110, 111, 116])))), (20, (.k (.d (.str [115, 101, 116])))), (21, (.k (.d (.str [104, 111, 108, 100])))), (22, (.k (.d (.str [112, 108, 97, 105, 110])))), (23, (.k (.d (.str [114, 101, 112, 101, 97, 116]))))]))⟩,
    ⟨(some 0), 1, none, (.op (.mov (.t 1)))⟩])
  (.ret))
theorem cc69 : Tryd.f69.body.bind (compC Tryd.prog) = some ac69 := by kernel_rfl
theorem go69 {vals : List V} {v : V} (ac : AC) (he : ac.erase = ac69) (hw : wpC Tryd.prog 0 ac (retQ [.tmp 0] v) ⟨vals ++ List.replicate (2 - vals.length) (.tup []), []⟩) : CallP Tryd.prog 69 vals v :=
  call_of Tryd.func69 rfl rfl rfl (cc69.trans (congrArg some he.symm)) hw
theorem gi69 {vals : List V} {rows : Go.Vx.Rows} {K : V → Go.Vx.Rows → Prop} (ac : AC) (he : ac.erase = ac69) (hw : wpC Tryd.prog rows.length ac (retI [.tmp 0] K) ⟨vals ++ List.replicate (2 - vals.length) (.tup []), rows⟩) : InlP Tryd.prog 69 vals rows K :=
  inl_of' Tryd.func69 rfl rfl rfl (cc69.trans (congrArg some he.symm)) hw
theorem gm69 {vals : List V} {v : V} {sz : Nat} {es es' : List (List V)} (ac : AC) (he : ac.erase = ac69) (hw : wpC Tryd.prog 1 ac (retM [.tmp 0] v sz es') ⟨vals ++ List.replicate (2 - vals.length) (.tup []), [.live sz es]⟩) : CallM Tryd.prog 69 vals sz es v es' :=
  callM_of' Tryd.func69 rfl rfl rfl (cc69.trans (congrArg some he.symm)) hw

/-- testbench/testbenchref07.digit -/
def ac70 : AC :=
  .seq (.reg 0 [⟨(some 2), 0, none, (.op (.mov (.k (.d (.bool false)))))⟩])
  (.seq (.reg 0 [⟨(some 3), 0, none, (.op (.mov (.t 0)))⟩,
    ⟨(some 4), 0, none, (.op (.bin .geq (.t 3) (.k (.d (.int .u8 48)))))⟩,
    ⟨(some 5), 0, none, (.op (.mov (.t 4)))⟩,
    ⟨(some 6), 0, (some (5, true)), (.op (.mov (.t 0)))⟩,
    ⟨(some 7), 0, (some (5, true)), (.op (.bin .leq (.t 6) (.k (.d (.int .u8 57)))))⟩,
    ⟨(some 8), 0, none, (.op (.pick (.t 5) (.t 7) (.k (.d (.bool false)))))⟩,
    ⟨(some 2), 0, none, (.op (.mov (.t 8)))⟩])
  (.ret))
theorem cc70 : Tryd.f70.body.bind (compC Tryd.prog) = some ac70 := by kernel_rfl
theorem go70 {vals : List V} {v : V} (ac : AC) (he : ac.erase = ac70) (hw : wpC Tryd.prog 0 ac (retQ [.tmp 2] v) ⟨vals ++ List.replicate (9 - vals.length) (.tup []), []⟩) : CallP Tryd.prog 70 vals v :=
  call_of Tryd.func70 rfl rfl rfl (cc70.trans (congrArg some he.symm)) hw
theorem gi70 {vals : List V} {rows : Go.Vx.Rows} {K : V → Go.Vx.Rows → Prop} (ac : AC) (he : ac.erase = ac70) (hw : wpC Tryd.prog rows.length ac (retI [.tmp 2] K) ⟨vals ++ List.replicate (9 - vals.length) (.tup []), rows⟩) : InlP Tryd.prog 70 vals rows K :=
  inl_of' Tryd.func70 rfl rfl rfl (cc70.trans (congrArg some he.symm)) hw
theorem gm70 {vals : List V} {v : V} {sz : Nat} {es es' : List (List V)} (ac : AC) (he : ac.erase = ac70) (hw : wpC Tryd.prog 1 ac (retM [.tmp 2] v sz es') ⟨vals ++ List.replicate (9 - vals.length) (.tup []), [.live sz es]⟩) : CallM Tryd.prog 70 vals sz es v es' :=
  callM_of' Tryd.func70 rfl rfl rfl (cc70.trans (congrArg some he.symm)) hw

/-- internal/stringslite.IndexByte -/
def ac71 : AC :=
  .seq (.reg 0 [⟨(some 4), 0, none, (.op (.mov (.k (.d (.int .i64 0)))))⟩])
  (.seq (.reg 0 [⟨(some 5), 0, none, (.op (.mov (.t 0)))⟩,
    ⟨(some 6), 0, none, (.op (.mov (.t 1)))⟩,
    ⟨(some 7), 0, none, (.op (.idxB (.t 5) (.t 6)))⟩,
    ⟨(some 4), 0, none, (.op (.mov (.t 7)))⟩])
  (.ret))
theorem cc71 : Tryd.f71.body.bind (compC Tryd.prog) = some ac71 := by kernel_rfl
theorem go71 {vals : List V} {v : V} (ac : AC) (he : ac.erase = ac71) (hw : wpC Tryd.prog 0 ac (retQ [.tmp 4] v) ⟨vals ++ List.replicate (8 - vals.length) (.tup []), []⟩) : CallP Tryd.prog 71 vals v :=
  call_of Tryd.func71 rfl rfl rfl (cc71.trans (congrArg some he.symm)) hw
theorem gi71 {vals : List V} {rows : Go.Vx.Rows} {K : V → Go.Vx.Rows → Prop} (ac : AC) (he : ac.erase = ac71) (hw : wpC Tryd.prog rows.length ac (retI [.tmp 4] K) ⟨vals ++ List.replicate (8 - vals.length) (.tup []), rows⟩) : InlP Tryd.prog 71 vals rows K :=
  inl_of' Tryd.func71 rfl rfl rfl (cc71.trans (congrArg some he.symm)) hw
theorem gm71 {vals : List V} {v : V} {sz : Nat} {es es' : List (List V)} (ac : AC) (he : ac.erase = ac71) (hw : wpC Tryd.prog 1 ac (retM [.tmp 4] v sz es') ⟨vals ++ List.replicate (8 - vals.length) (.tup []), [.live sz es]⟩) : CallM Tryd.prog 71 vals sz es v es' :=
  callM_of' Tryd.func71 rfl rfl rfl (cc71.trans (congrArg some he.symm)) hw

/-- testbench/lexer.digit -/
def ac75 : AC :=
  .seq (.reg 0 [⟨(some 2), 0, none, (.op (.mov (.k (.d (.bool false)))))⟩])
  (.seq (.reg 0 [⟨(some 3), 0, none, (.op (.mov (.t 0)))⟩,
    ⟨(some 4), 0, none, (.op (.bin .geq (.t 3) (.k (.d (.int .i32 48)))))⟩,
    ⟨(some 5), 0, none, (.op (.mov (.t 4)))⟩,
    ⟨(some 6), 0, (some (5, true)), (.op (.mov (.t 0)))⟩,
    ⟨(some 7), 0, (some (5, true)), (.op (.bin .leq (.t 6) (.k (.d (.int .i32 57)))))⟩,
    ⟨(some 8), 0, none, (.op (.pick (.t 5) (.t 7) (.k (.d (.bool false)))))⟩,
    ⟨(some 2), 0, none, (.op (.mov (.t 8)))⟩])
  (.ret))
theorem cc75 : Tryd.f75.body.bind (compC Tryd.prog) = some ac75 := by kernel_rfl
theorem go75 {vals : List V} {v : V} (ac : AC) (he : ac.erase = ac75) (hw : wpC Tryd.prog 0 ac (retQ [.tmp 2] v) ⟨vals ++ List.replicate (9 - vals.length) (.tup []), []⟩) : CallP Tryd.prog 75 vals v :=
  call_of Tryd.func75 rfl rfl rfl (cc75.trans (congrArg some he.symm)) hw
theorem gi75 {vals : List V} {rows : Go.Vx.Rows} {K : V → Go.Vx.Rows → Prop} (ac : AC) (he : ac.erase = ac75) (hw : wpC Tryd.prog rows.length ac (retI [.tmp 2] K) ⟨vals ++ List.replicate (9 - vals.length) (.tup []), rows⟩) : InlP Tryd.prog 75 vals rows K :=
  inl_of' Tryd.func75 rfl rfl rfl (cc75.trans (congrArg some he.symm)) hw
theorem gm75 {vals : List V} {v : V} {sz : Nat} {es es' : List (List V)} (ac : AC) (he : ac.erase = ac75) (hw : wpC Tryd.prog 1 ac (retM [.tmp 2] v sz es') ⟨vals ++ List.replicate (9 - vals.length) (.tup []), [.live sz es]⟩) : CallM Tryd.prog 75 vals sz es v es' :=
  callM_of' Tryd.func75 rfl rfl rfl (cc75.trans (congrArg some he.symm)) hw

/-- the functions -/
def tab : Tab := tabOf [(3, ac3, 43, [.tmp 4]), (4, ac4, 15, [.tmp 4]), (5, ac5, 32, [.tmp 4]), (6, ac6, 177, [.tmp 6]), (7, ac7, 65, [.tmp 4]), (8, ac8, 6, [.cell 2 true 3]), (9, ac9, 66, [.tmp 4]), (10, ac10, 7, [.cell 2 true 3]), (11, ac11, 38, [.tmp 2]), (12, ac12, 56, [.tmp 2]), (13, ac13, 14, [.tmp 2]), (14, ac14, 14, [.tmp 2]), (15, ac15, 27, [.tmp 4]), (16, ac16, 30, [.tmp 2]), (17, ac17, 31, [.tmp 2]), (18, ac18, 84, [.tmp 0]), (19, ac19, 26, [.tmp 4]), (20, ac20, 53, [.tmp 4]), (21, ac21, 59, [.tmp 4]), (22, ac22, 43, [.cell 4 true 3, .tmp 5]), (23, ac23, 49, [.cell 4 true 3, .tmp 5]), (24, ac24, 45, [.tmp 2]), (25, ac25, 22, [.tmp 2]), (26, ac26, 59, [.tmp 4]), (27, ac27, 16, [.tmp 2]), (28, ac28, 9, [.tmp 4]), (29, ac29, 12, [.tmp 2]), (30, ac30, 48, [.tmp 2]), (31, ac31, 24, [.tmp 2]), (32, ac32, 10, [.cell 2 true 2]), (33, ac33, 15, []), (34, ac34, 9, [.tmp 4]), (35, ac35, 8, [.tmp 3]), (36, ac36, 25, [.tmp 4, .tmp 5]), (37, ac37, 19, [.tmp 4]), (38, ac38, 25, [.tmp 4, .tmp 5]), (39, ac39, 22, [.cell 2 true 4, .tmp 3]), (40, ac40, 12, [.cell 2 true 3, .tmp 3]), (41, ac41, 13, [.cell 2 true 3, .tmp 3]), (42, ac42, 12, [.cell 2 true 3, .tmp 3]), (43, ac43, 1, [.tmp 0]), (44, ac44, 26, [.tmp 2]), (45, ac45, 19, [.tmp 4]), (46, ac46, 38, [.tmp 2]), (47, ac47, 9, [.tmp 2]), (48, ac48, 8, [.tmp 2]), (49, ac49, 8, [.tmp 2]), (50, ac50, 19, [.tmp 4]), (51, ac51, 19, [.tmp 4]), (52, ac52, 19, [.tmp 4]), (53, ac53, 17, [.tmp 2]), (54, ac54, 13, [.tmp 4, .tmp 5, .tmp 6]), (55, ac55, 15, [.tmp 2]), (56, ac56, 51, [.tmp 2, .tmp 3, .tmp 4]), (57, ac57, 32, [.tmp 2]), (58, ac58, 23, [.tmp 4, .tmp 5, .tmp 6]), (59, ac59, 25, [.tmp 2]), (60, ac60, 6, [.tmp 2]), (61, ac61, 9, [.tmp 2]), (62, ac62, 6, [.tmp 2]), (63, ac63, 21, [.tmp 2]), (64, ac64, 143, [.tmp 4]), (65, ac65, 9, [.tmp 2]), (66, ac66, 21, [.tmp 2]), (67, ac67, 9, [.tmp 4]), (68, ac68, 18, [.tmp 4]), (69, ac69, 2, [.tmp 0]), (70, ac70, 9, [.tmp 2]), (71, ac71, 8, [.tmp 4]), (75, ac75, 9, [.tmp 2])]
theorem tab_ok : TabOk Tryd.prog tab :=
  tabOf_cons (fun _ _ h => go3 ac3 rfl h) (tabOf_cons (fun _ _ h => go4 ac4 rfl h) (tabOf_cons (fun _ _ h => go5 ac5 rfl h) (tabOf_cons (fun _ _ h => go6 ac6 rfl h) (tabOf_cons (fun _ _ h => go7 ac7 rfl h) (tabOf_cons (fun _ _ h => go8 ac8 rfl h) (tabOf_cons (fun _ _ h => go9 ac9 rfl h) (tabOf_cons (fun _ _ h => go10 ac10 rfl h) (tabOf_cons (fun _ _ h => go11 ac11 rfl h) (tabOf_cons (fun _ _ h => go12 ac12 rfl h) (tabOf_cons (fun _ _ h => go13 ac13 rfl h) (tabOf_cons (fun _ _ h => go14 ac14 rfl h) (tabOf_cons (fun _ _ h => go15 ac15 rfl h) (tabOf_cons (fun _ _ h => go16 ac16 rfl h) (tabOf_cons (fun _ _ h => go17 ac17 rfl h) (tabOf_cons (fun _ _ h => go18 ac18 rfl h) (tabOf_cons (fun _ _ h => go19 ac19 rfl h) (tabOf_cons (fun _ _ h => go20 ac20 rfl h) (tabOf_cons (fun _ _ h => go21 ac21 rfl h) (tabOf_cons (fun _ _ h => go22 ac22 rfl h) (tabOf_cons (fun _ _ h => go23 ac23 rfl h) (tabOf_cons (fun _ _ h => go24 ac24 rfl h) (tabOf_cons (fun _ _ h => go25 ac25 rfl h) (tabOf_cons (fun _ _ h => go26 ac26 rfl h) (tabOf_cons (fun _ _ h => go27 ac27 rfl h) (tabOf_cons (fun _ _ h => go28 ac28 rfl h) (tabOf_cons (fun _ _ h => go29 ac29 rfl h) (tabOf_cons (fun _ _ h => go30 ac30 rfl h) (tabOf_cons (fun _ _ h => go31 ac31 rfl h) (tabOf_cons (fun _ _ h => go32 ac32 rfl h) (tabOf_cons (fun _ _ h => go33 ac33 rfl h) (tabOf_cons (fun _ _ h => go34 ac34 rfl h) (tabOf_cons (fun _ _ h => go35 ac35 rfl h) (tabOf_cons (fun _ _ h => go36 ac36 rfl h) (tabOf_cons (fun _ _ h => go37 ac37 rfl h) (tabOf_cons (fun _ _ h => go38 ac38 rfl h) (tabOf_cons (fun _ _ h => go39 ac39 rfl h) (tabOf_cons (fun _ _ h => go40 ac40 rfl h) (tabOf_cons (fun _ _ h => go41 ac41 rfl h) (tabOf_cons (fun _ _ h => go42 ac42 rfl h) (tabOf_cons (fun _ _ h => go43 ac43 rfl h) (tabOf_cons (fun _ _ h => go44 ac44 rfl h) (tabOf_cons (fun _ _ h => go45 ac45 rfl h) (tabOf_cons (fun _ _ h => go46 ac46 rfl h) (tabOf_cons (fun _ _ h => go47 ac47 rfl h) (tabOf_cons (fun _ _ h => go48 ac48 rfl h) (tabOf_cons (fun _ _ h => go49 ac49 rfl h) (tabOf_cons (fun _ _ h => go50 ac50 rfl h) (tabOf_cons (fun _ _ h => go51 ac51 rfl h) (tabOf_cons (fun _ _ h => go52 ac52 rfl h) (tabOf_cons (fun _ _ h => go53 ac53 rfl h) (tabOf_cons (fun _ _ h => go54 ac54 rfl h) (tabOf_cons (fun _ _ h => go55 ac55 rfl h) (tabOf_cons (fun _ _ h => go56 ac56 rfl h) (tabOf_cons (fun _ _ h => go57 ac57 rfl h) (tabOf_cons (fun _ _ h => go58 ac58 rfl h) (tabOf_cons (fun _ _ h => go59 ac59 rfl h) (tabOf_cons (fun _ _ h => go60 ac60 rfl h) (tabOf_cons (fun _ _ h => go61 ac61 rfl h) (tabOf_cons (fun _ _ h => go62 ac62 rfl h) (tabOf_cons (fun _ _ h => go63 ac63 rfl h) (tabOf_cons (fun _ _ h => go64 ac64 rfl h) (tabOf_cons (fun _ _ h => go65 ac65 rfl h) (tabOf_cons (fun _ _ h => go66 ac66 rfl h) (tabOf_cons (fun _ _ h => go67 ac67 rfl h) (tabOf_cons (fun _ _ h => go68 ac68 rfl h) (tabOf_cons (fun _ _ h => go69 ac69 rfl h) (tabOf_cons (fun _ _ h => go70 ac70 rfl h) (tabOf_cons (fun _ _ h => go71 ac71 rfl h) (tabOf_cons (fun _ _ h => go75 ac75 rfl h) (tabOf_nil))))))))))))))))))))))))))))))))))))))))))))))))))))))))))))))))))))))
end Go.Proofs.Dr
