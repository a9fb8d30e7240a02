import Derived.Test.YtapgahonfifgnaaDoorC54
import Derived.Test.YtapgahonfifgnaaDoorVxZ
set_option linter.unusedSimpArgs false
set_option linter.unusedVariables false
namespace Go.Proofs.Sg
open Go.Vx
/-- a result with a signature -/
def rs (s : B) : List D := [.str [116], .int .u64 0, .str [100], .str s, .int .i64 0, .int .i64 0, .int .i64 0, .nils, .nils, .int .i64 0, .int .i64 0]
theorem t25 (s : B) : CallP Tryd.prog 25 [.d (.str s)] (.agg ((rs s).map .d)) := by
  refine go25 ac25 rfl ?_
  simp only [vx, vz, Nat.reduceAdd, Nat.reduceSub, Nat.reduceMul, Nat.reduceLeDiff, Nat.reduceLT, Nat.reduceEqDiff, Nat.reduceBEq, Int.reduceToNat, Int.reduceNeg, Int.reduceEq, Int.reduceNe, Int.reduceLE, Int.reduceLT, reduceCtorEq, ↓reduceIte, ac25, rs]
  exact ⟨.d _, .d _⟩
def L5 : List (List D) := [rs [108, 111, 115, 116, 32, 51], rs [], rs [97, 115, 115, 101, 114, 116, 32, 97], rs [108, 111, 115, 116, 32, 53], rs [97, 115, 115, 101, 114, 116, 32, 98]]
theorem a23 : CallP Tryd.prog 23 [.d (.sl 11 L5)] (.d (.sl 1 [[.sl 1 [[.int .i64 0], [.int .i64 3]]], [.sl 1 [[.int .i64 2]]], [.sl 1 [[.int .i64 4]]]])) := fnX_ok tab_ok noPre_ok 200 60 23 _ _ (by kernel_rfl)
theorem a19 : CallP Tryd.prog 19 [.d (.sl 11 L5), .d (.str [108, 111, 115, 116, 32, 57])] (.tup [.d (.int .i64 0), .d (.bool true)]) := fnX_ok tab_ok noPre_ok 200 60 19 _ _ (by kernel_rfl)
theorem a11 : CallP Tryd.prog 11 [.d (.str [109, 105, 115, 109, 97, 116, 99, 104, 32, 49, 50])] (.d (.str [109, 105, 115, 109, 97, 116, 99, 104])) := fnX_ok tab_ok noPre_ok 200 60 11 _ _ (by kernel_rfl)
theorem a11b : CallP Tryd.prog 11 [.d (.str [108, 111, 115, 116, 32, 48, 55])] (.d (.str [])) := fnX_ok tab_ok noPre_ok 200 60 11 _ _ (by kernel_rfl)
theorem a13 : CallP Tryd.prog 13 [.agg ((rs [108, 111, 115, 116, 32, 51]).map .d)] (.d (.bool true)) := fnX_ok tab_ok noPre_ok 200 60 13 _ _ (by kernel_rfl)
theorem a15 : CallP Tryd.prog 15 [.agg ((rs []).map .d)] (.d (.bool true)) := fnX_ok tab_ok noPre_ok 200 60 15 _ _ (by kernel_rfl)
theorem a21 : CallP Tryd.prog 21 [.agg ((rs [108, 111, 115, 116, 32, 51]).map .d), .agg ((rs [108, 111, 115, 116, 32, 53]).map .d)] (.d (.bool true)) := fnX_ok tab_ok noPre_ok 200 60 21 _ _ (by kernel_rfl)
theorem a17 : CallP Tryd.prog 17 [.agg ((rs [108, 111, 115, 116, 32, 51]).map .d)] (.d (.str [55, 49, 50, 54, 49, 57, 51, 98])) := fnX_ok tab_ok noPre_ok 200 60 17 _ _ (by kernel_rfl)
end Go.Proofs.Sg

namespace Go.Proofs.Sg
open Go.Vx
theorem rs_len (s : B) : (rs s).length = 11 := rfl
theorem rs_one (s : B) : ((rs s).map V.d).all oneV = true := rfl
theorem t10 : CallP Tryd.prog 10 [] (.d (.bool true)) := by
  refine go10 (wkAt 2 ac10) rfl ?_
  simp only [vx, vz, Nat.reduceAdd, Nat.reduceSub, Nat.reduceMul, Nat.reduceLeDiff, Nat.reduceLT, Nat.reduceEqDiff, Nat.reduceBEq, Int.reduceToNat, Int.reduceNeg, Int.reduceEq, Int.reduceNe, Int.reduceLE, Int.reduceLT, reduceCtorEq, ↓reduceIte, ac10, wkAt]
  refine call_p rfl (t25 _) ?_
  simp only [vx, vz, Nat.reduceAdd, Nat.reduceSub, Nat.reduceMul, Nat.reduceLeDiff, Nat.reduceLT, Nat.reduceEqDiff, Nat.reduceBEq, Int.reduceToNat, Int.reduceNeg, Int.reduceEq, Int.reduceNe, Int.reduceLE, Int.reduceLT, reduceCtorEq, ↓reduceIte]
  refine call_p rfl (t25 _) ?_
  simp only [vx, vz, Nat.reduceAdd, Nat.reduceSub, Nat.reduceMul, Nat.reduceLeDiff, Nat.reduceLT, Nat.reduceEqDiff, Nat.reduceBEq, Int.reduceToNat, Int.reduceNeg, Int.reduceEq, Int.reduceNe, Int.reduceLE, Int.reduceLT, reduceCtorEq, ↓reduceIte]
  refine call_p rfl (t25 _) ?_
  simp only [vx, vz, Nat.reduceAdd, Nat.reduceSub, Nat.reduceMul, Nat.reduceLeDiff, Nat.reduceLT, Nat.reduceEqDiff, Nat.reduceBEq, Int.reduceToNat, Int.reduceNeg, Int.reduceEq, Int.reduceNe, Int.reduceLE, Int.reduceLT, reduceCtorEq, ↓reduceIte]
  refine call_p rfl (t25 _) ?_
  simp only [vx, vz, Nat.reduceAdd, Nat.reduceSub, Nat.reduceMul, Nat.reduceLeDiff, Nat.reduceLT, Nat.reduceEqDiff, Nat.reduceBEq, Int.reduceToNat, Int.reduceNeg, Int.reduceEq, Int.reduceNe, Int.reduceLE, Int.reduceLT, reduceCtorEq, ↓reduceIte]
  refine call_p rfl (t25 _) ?_
  simp only [vx, vz, Nat.reduceAdd, Nat.reduceSub, Nat.reduceMul, Nat.reduceLeDiff, Nat.reduceLT, Nat.reduceEqDiff, Nat.reduceBEq, Int.reduceToNat, Int.reduceNeg, Int.reduceEq, Int.reduceNe, Int.reduceLE, Int.reduceLT, reduceCtorEq, ↓reduceIte]
  refine ⟨rfl, rfl, rfl, rfl, rfl, rfl, rfl, rfl, rfl, rfl, ?_⟩
  refine wk_in ⟨mkF 88 [(1, .d (.sl 11 L5))], []⟩ (Weak.trans (B := ⟨mkF 88 [(1, .osl 11 0 5 0 5)], _⟩) (weak_any (by simp only [vx, vz, Nat.reduceAdd, Nat.reduceSub, Nat.reduceMul, Nat.reduceLeDiff, Nat.reduceLT, Nat.reduceEqDiff, Nat.reduceBEq, Int.reduceToNat, Int.reduceNeg, Int.reduceEq, Int.reduceNe, Int.reduceLE, Int.reduceLT, reduceCtorEq, ↓reduceIte]; try trivial)) (weak_frz2 0 (by omega) trivial (kpL_set (i := 1) rfl (sn_all (es := L5) rfl rfl (by decide)) rfl))) ?_
  simp only [vx, vz, Nat.reduceAdd, Nat.reduceSub, Nat.reduceMul, Nat.reduceLeDiff, Nat.reduceLT, Nat.reduceEqDiff, Nat.reduceBEq, Int.reduceToNat, Int.reduceNeg, Int.reduceEq, Int.reduceNe, Int.reduceLE, Int.reduceLT, reduceCtorEq, ↓reduceIte]
  refine call_p rfl (a23) ?_
  simp only [vx, vz, Nat.reduceAdd, Nat.reduceSub, Nat.reduceMul, Nat.reduceLeDiff, Nat.reduceLT, Nat.reduceEqDiff, Nat.reduceBEq, Int.reduceToNat, Int.reduceNeg, Int.reduceEq, Int.reduceNe, Int.reduceLE, Int.reduceLT, reduceCtorEq, ↓reduceIte]
  refine call_p rfl (a19) ?_
  simp only [vx, vz, Nat.reduceAdd, Nat.reduceSub, Nat.reduceMul, Nat.reduceLeDiff, Nat.reduceLT, Nat.reduceEqDiff, Nat.reduceBEq, Int.reduceToNat, Int.reduceNeg, Int.reduceEq, Int.reduceNe, Int.reduceLE, Int.reduceLT, reduceCtorEq, ↓reduceIte]
  refine c_quiet rfl ?_
  simp only [vx, vz, Nat.reduceAdd, Nat.reduceSub, Nat.reduceMul, Nat.reduceLeDiff, Nat.reduceLT, Nat.reduceEqDiff, Nat.reduceBEq, Int.reduceToNat, Int.reduceNeg, Int.reduceEq, Int.reduceNe, Int.reduceLE, Int.reduceLT, reduceCtorEq, ↓reduceIte]
  refine call_p rfl (a11) ?_
  simp only [vx, vz, Nat.reduceAdd, Nat.reduceSub, Nat.reduceMul, Nat.reduceLeDiff, Nat.reduceLT, Nat.reduceEqDiff, Nat.reduceBEq, Int.reduceToNat, Int.reduceNeg, Int.reduceEq, Int.reduceNe, Int.reduceLE, Int.reduceLT, reduceCtorEq, ↓reduceIte]
  refine call_p rfl (a11b) ?_
  simp only [vx, vz, Nat.reduceAdd, Nat.reduceSub, Nat.reduceMul, Nat.reduceLeDiff, Nat.reduceLT, Nat.reduceEqDiff, Nat.reduceBEq, Int.reduceToNat, Int.reduceNeg, Int.reduceEq, Int.reduceNe, Int.reduceLE, Int.reduceLT, reduceCtorEq, ↓reduceIte, L5, rs]
  refine call_p rfl (a13) ?_
  simp only [vx, vz, Nat.reduceAdd, Nat.reduceSub, Nat.reduceMul, Nat.reduceLeDiff, Nat.reduceLT, Nat.reduceEqDiff, Nat.reduceBEq, Int.reduceToNat, Int.reduceNeg, Int.reduceEq, Int.reduceNe, Int.reduceLE, Int.reduceLT, reduceCtorEq, ↓reduceIte, L5, rs]
  refine call_p rfl (a15) ?_
  simp only [vx, vz, Nat.reduceAdd, Nat.reduceSub, Nat.reduceMul, Nat.reduceLeDiff, Nat.reduceLT, Nat.reduceEqDiff, Nat.reduceBEq, Int.reduceToNat, Int.reduceNeg, Int.reduceEq, Int.reduceNe, Int.reduceLE, Int.reduceLT, reduceCtorEq, ↓reduceIte, L5, rs]
  refine call_p rfl (a17) ?_
  simp only [vx, vz, Nat.reduceAdd, Nat.reduceSub, Nat.reduceMul, Nat.reduceLeDiff, Nat.reduceLT, Nat.reduceEqDiff, Nat.reduceBEq, Int.reduceToNat, Int.reduceNeg, Int.reduceEq, Int.reduceNe, Int.reduceLE, Int.reduceLT, reduceCtorEq, ↓reduceIte, L5, rs]
  refine call_p rfl (a21) ?_
  simp only [vx, vz, Nat.reduceAdd, Nat.reduceSub, Nat.reduceMul, Nat.reduceLeDiff, Nat.reduceLT, Nat.reduceEqDiff, Nat.reduceBEq, Int.reduceToNat, Int.reduceNeg, Int.reduceEq, Int.reduceNe, Int.reduceLE, Int.reduceLT, reduceCtorEq, ↓reduceIte, L5, rs]
end Go.Proofs.Sg
