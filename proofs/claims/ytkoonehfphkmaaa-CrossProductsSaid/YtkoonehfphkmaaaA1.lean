import Derived.Test.YtkoonehfphkmaaaR7
set_option linter.unusedSimpArgs false
set_option linter.unusedVariables false
namespace Go.Proofs.Cr
open Go.Vx
def bn0 : List D := [.str [], .int .i64 0, .nils, .nils]
def pt0 (c : UInt8) (n : Nat) : List D := [.str [c], .int .i64 0, .int .i64 0, .str [], .nils, .sl 4 (List.replicate n bn0)]
def mdA : D := .sl 6 [pt0 112 2, pt0 113 3]
def mdB : D := .sl 3 [[.str [120], .sl 1 [iD 0, iD 1], .nils]]
def l10 : D := .sl 1 [iD 1, iD 0]
def l12 : D := .sl 1 [iD 1, iD 2]
def l35 : D := .sl 1 [iD 3, iD 5]
def hit0 : D := .sl 1 [[.sl 1 [iD 1]], [.sl 1 [iD 0, iD 2]]]
theorem a25 : CallP Try.prog 25 [] (.agg [.d mdA, .d mdB]) := fnX_ok tab_ok noPre_ok 200 60 25 _ _ (by kernel_rfl)
theorem a16 : CallP Try.prog 16 [.agg [.d mdA, .d mdB], .d (.int .i64 0), .d l10] (.tup [.d (.int .i64 3), .d (.bool true)]) := fnX_ok tab_ok noPre_ok 200 60 16 _ _ (by kernel_rfl)
theorem a11 : CallP Try.prog 11 [.agg [.d mdA, .d mdB], .d (.int .i64 0), .d (.int .i64 5)] (.tup [.d l12, .d (.bool true)]) := fnX_ok tab_ok noPre_ok 200 60 11 _ _ (by kernel_rfl)
theorem a13 : CallP Try.prog 13 [.agg [.d mdA, .d mdB], .d (.int .i64 0)] (.d (.int .i64 6)) := fnX_ok tab_ok noPre_ok 200 60 13 _ _ (by kernel_rfl)
theorem a21 : CallP Try.prog 21 [.agg [.d mdA, .d mdB], .d (.int .i64 0), .d hit0] (.d l35) := fnX_ok tab_ok noPre_ok 200 60 21 _ _ (by kernel_rfl)
theorem t10 : CallP Try.prog 10 [] (.d (.bool true)) := by
  refine go10 (AC.at (AC.look [false, false, false, false, false, false, false, false, false, false, false, false, false, false, false, false, false, false, false, false, false, false, false, true]) [1, 1, 1, 0] ac10) rfl ?_
  simp only [vx, vz, Nat.reduceAdd, Nat.reduceSub, Nat.reduceMul, Nat.reduceLeDiff, Nat.reduceLT, Nat.reduceEqDiff, Nat.reduceBEq, Int.reduceToNat, Int.reduceNeg, Int.reduceEq, Int.reduceNe, Int.reduceLE, Int.reduceLT, reduceCtorEq, ↓reduceIte, ac10, AC.at, AC.look]
  refine call_p rfl (a25) ?_
  simp only [vx, vz, Nat.reduceAdd, Nat.reduceSub, Nat.reduceMul, Nat.reduceLeDiff, Nat.reduceLT, Nat.reduceEqDiff, Nat.reduceBEq, Int.reduceToNat, Int.reduceNeg, Int.reduceEq, Int.reduceNe, Int.reduceLE, Int.reduceLT, reduceCtorEq, ↓reduceIte]
  refine call_k (v := _) (fun v hv => ?_) a16 ?_
  · simp only [List.nil_append, List.append_nil, List.mem_cons, List.not_mem_nil, or_false] at hv
    rcases hv with rfl | rfl | rfl
    · simp [snapOk, snapCOk, noH, noH1]
    · rfl
    · exact ⟨by decide, _, rfl, by simp [isD]⟩
  have hk1 : kills [V.agg [.d mdA, .d mdB], .d (.int .i64 0), V.osl 1 0 2 0 2] = [(0, .dead)] := rfl
  simp only [vx, vz, Nat.reduceAdd, Nat.reduceSub, Nat.reduceMul, Nat.reduceLeDiff, Nat.reduceLT, Nat.reduceEqDiff, Nat.reduceBEq, Int.reduceToNat, Int.reduceNeg, Int.reduceEq, Int.reduceNe, Int.reduceLE, Int.reduceLT, reduceCtorEq, ↓reduceIte, hk1]
  refine call_p rfl (a25) ?_
  simp only [vx, vz, Nat.reduceAdd, Nat.reduceSub, Nat.reduceMul, Nat.reduceLeDiff, Nat.reduceLT, Nat.reduceEqDiff, Nat.reduceBEq, Int.reduceToNat, Int.reduceNeg, Int.reduceEq, Int.reduceNe, Int.reduceLE, Int.reduceLT, reduceCtorEq, ↓reduceIte]
  refine call_p rfl (a11) ?_
  simp only [vx, vz, Nat.reduceAdd, Nat.reduceSub, Nat.reduceMul, Nat.reduceLeDiff, Nat.reduceLT, Nat.reduceEqDiff, Nat.reduceBEq, Int.reduceToNat, Int.reduceNeg, Int.reduceEq, Int.reduceNe, Int.reduceLE, Int.reduceLT, reduceCtorEq, ↓reduceIte]
  refine call_s (v := .d (.bool true)) ?_ rfl (t15 [1, 2] (by decide)) ?_
  · intro x hx
    simp only [List.nil_append, List.append_nil, List.mem_cons, List.not_mem_nil, or_false] at hx
    rcases hx with rfl | rfl
    · rfl
    · exact ⟨by decide, _, rfl, by simp [isD]⟩
  simp only [vx, vz, Nat.reduceAdd, Nat.reduceSub, Nat.reduceMul, Nat.reduceLeDiff, Nat.reduceLT, Nat.reduceEqDiff, Nat.reduceBEq, Int.reduceToNat, Int.reduceNeg, Int.reduceEq, Int.reduceNe, Int.reduceLE, Int.reduceLT, reduceCtorEq, ↓reduceIte]
  refine call_p rfl (a25) ?_
  simp only [vx, vz, Nat.reduceAdd, Nat.reduceSub, Nat.reduceMul, Nat.reduceLeDiff, Nat.reduceLT, Nat.reduceEqDiff, Nat.reduceBEq, Int.reduceToNat, Int.reduceNeg, Int.reduceEq, Int.reduceNe, Int.reduceLE, Int.reduceLT, reduceCtorEq, ↓reduceIte]
  refine call_p rfl (a13) ?_
  simp only [vx, vz, Nat.reduceAdd, Nat.reduceSub, Nat.reduceMul, Nat.reduceLeDiff, Nat.reduceLT, Nat.reduceEqDiff, Nat.reduceBEq, Int.reduceToNat, Int.reduceNeg, Int.reduceEq, Int.reduceNe, Int.reduceLE, Int.reduceLT, reduceCtorEq, ↓reduceIte]
  refine call_p rfl (a25) ?_
  simp only [vx, vz, Nat.reduceAdd, Nat.reduceSub, Nat.reduceMul, Nat.reduceLeDiff, Nat.reduceLT, Nat.reduceEqDiff, Nat.reduceBEq, Int.reduceToNat, Int.reduceNeg, Int.reduceEq, Int.reduceNe, Int.reduceLE, Int.reduceLT, reduceCtorEq, ↓reduceIte]
  refine call_i (inl_kill (vals' := [.agg [.d mdA, .d mdB], .d (.int .i64 0), .d hit0]) rfl (fun j x x' h1 h2 => ?_) a21 ?_)
  · match j, h1, h2 with
    | 0, h1, h2 =>
      cases h1; cases h2
      refine .agg _ _ rfl fun j v v' h1 h2 => ?_
      match j, h1, h2 with
      | 0, h1, h2 => cases h1; cases h2; exact .d _
      | 1, h1, h2 => cases h1; cases h2; exact .d _
    | 1, h1, h2 => cases h1; cases h2; exact .d _
    | 2, h1, h2 =>
      cases h1; cases h2
      exact sn_oslZ rfl rfl (by decide) ⟨rfl, ⟨sn_oslZ rfl rfl (by decide) ⟨rfl, ⟨.d _, trivial⟩, trivial⟩, trivial⟩, rfl, ⟨sn_oslZ rfl rfl (by decide) ⟨rfl, ⟨.d _, trivial⟩, rfl, ⟨.d _, trivial⟩, trivial⟩, trivial⟩, trivial⟩
  have hk2 : setRows
      [RowS.dead, RowS.live 1 [[V.d (D.int IntKind.i64 1)], [V.d (D.int IntKind.i64 2)]],
        RowS.live 1 [[V.d (D.int IntKind.i64 1)]],
        RowS.live 1 [[V.d (D.int IntKind.i64 0)], [V.d (D.int IntKind.i64 2)]],
        RowS.live 1 [[V.osl 1 2 1 0 1], [V.osl 1 3 2 0 2]], RowS.un]
      (List.map (fun h => (h, RowS.dead))
        (lives
          [RowS.dead, RowS.live 1 [[V.d (D.int IntKind.i64 1)], [V.d (D.int IntKind.i64 2)]],
            RowS.live 1 [[V.d (D.int IntKind.i64 1)]],
            RowS.live 1 [[V.d (D.int IntKind.i64 0)], [V.d (D.int IntKind.i64 2)]],
            RowS.live 1 [[V.osl 1 2 1 0 1], [V.osl 1 3 2 0 2]], RowS.un])) = [.dead, .dead, .dead, .dead, .dead, .un] := rfl
  simp only [vx, vz, Nat.reduceAdd, Nat.reduceSub, Nat.reduceMul, Nat.reduceLeDiff, Nat.reduceLT, Nat.reduceEqDiff, Nat.reduceBEq, Int.reduceToNat, Int.reduceNeg, Int.reduceEq, Int.reduceNe, Int.reduceLE, Int.reduceLT, reduceCtorEq, ↓reduceIte, hk2]
  refine call_s (v := .d (.bool true)) ?_ rfl (t15 [3, 5] (by decide)) ?_
  · intro x hx
    simp only [List.nil_append, List.append_nil, List.mem_cons, List.not_mem_nil, or_false] at hx
    rcases hx with rfl | rfl
    · rfl
    · exact ⟨by decide, _, rfl, by simp [isD]⟩
  simp only [vx, vz, Nat.reduceAdd, Nat.reduceSub, Nat.reduceMul, Nat.reduceLeDiff, Nat.reduceLT, Nat.reduceEqDiff, Nat.reduceBEq, Int.reduceToNat, Int.reduceNeg, Int.reduceEq, Int.reduceNe, Int.reduceLE, Int.reduceLT, reduceCtorEq, ↓reduceIte]
end Go.Proofs.Cr
