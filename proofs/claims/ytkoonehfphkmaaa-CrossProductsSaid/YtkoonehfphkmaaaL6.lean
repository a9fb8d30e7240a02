import Derived.Test.YtkoonehfphkmaaaL2
set_option linter.unusedSimpArgs false
set_option linter.unusedVariables false
namespace Go.Proofs.Cr
open Go.Vx
def ksI (m : Md) (i : Int) : List Nat := match crOf m i with
  | none => []
  | some c => ks m c
def lastV (l : List Nat) : Nat → V
  | 0 => .d .nils
  | k + 1 => isV (tupS l k)
theorem szS_nat (m : Md) (i : Int) : ∃ n : Nat, szS m i = n := by
  rcases usb_cases m i with ⟨_, h2⟩ | ⟨j, c, rfl, hc, hu, h1, h2, h3⟩
  · exact ⟨0, h2⟩
  · exact ⟨_, h3⟩
theorem szS_few {m : Md} (h : fewS m = true) (i : Int) : szS m i ≤ 500 := by
  rcases usb_cases m i with ⟨_, h2⟩ | ⟨j, c, rfl, hc, hu, h1, h2, h3⟩
  · omega
  · have := pr_few h h2 hu
    omega
theorem l6 (m : Md) (i : Int) (ok : okM m) : CallP Try.prog 6 [mdV m, .d (.int .i64 i)] (.d (.bool true)) := by
  have hm := hm
  have hm4 := mL4
  refine go6 ac6 rfl ?_
  simp only [vx, vz, Nat.reduceAdd, Nat.reduceSub, Nat.reduceMul, Nat.reduceLeDiff, Nat.reduceLT, Nat.reduceEqDiff, Nat.reduceBEq, Int.reduceToNat, Int.reduceNeg, Int.reduceEq, Int.reduceNe, Int.reduceLE, Int.reduceLT, reduceCtorEq, ↓reduceIte, ac6]
  refine call_p rfl (t9 m ok) ?_
  simp only [vx, vz, Nat.reduceAdd, Nat.reduceSub, Nat.reduceMul, Nat.reduceLeDiff, Nat.reduceLT, Nat.reduceEqDiff, Nat.reduceBEq, Int.reduceToNat, Int.reduceNeg, Int.reduceEq, Int.reduceNe, Int.reduceLE, Int.reduceLT, reduceCtorEq, ↓reduceIte]
  cases hf : fewS m with
  | false =>
    simp only [vx, vz, Nat.reduceAdd, Nat.reduceSub, Nat.reduceMul, Nat.reduceLeDiff, Nat.reduceLT, Nat.reduceEqDiff, Nat.reduceBEq, Int.reduceToNat, Int.reduceNeg, Int.reduceEq, Int.reduceNe, Int.reduceLE, Int.reduceLT, reduceCtorEq, ↓reduceIte]
    refine call_p rfl (t10) ?_
    simp only [vx, vz, Nat.reduceAdd, Nat.reduceSub, Nat.reduceMul, Nat.reduceLeDiff, Nat.reduceLT, Nat.reduceEqDiff, Nat.reduceBEq, Int.reduceToNat, Int.reduceNeg, Int.reduceEq, Int.reduceNe, Int.reduceLE, Int.reduceLT, reduceCtorEq, ↓reduceIte]
  | true =>
    have h := few_sm hf ok i
    obtain ⟨n, hn⟩ := szS_nat m i
    have hn5 := szS_few hf i
    have h13 := t13 m i h
    rw [hn] at h13 hn5
    simp only [vx, vz, Nat.reduceAdd, Nat.reduceSub, Nat.reduceMul, Nat.reduceLeDiff, Nat.reduceLT, Nat.reduceEqDiff, Nat.reduceBEq, Int.reduceToNat, Int.reduceNeg, Int.reduceEq, Int.reduceNe, Int.reduceLE, Int.reduceLT, reduceCtorEq, ↓reduceIte]
    refine call_p rfl (h13) ?_
    simp only [vx, vz, Nat.reduceAdd, Nat.reduceSub, Nat.reduceMul, Nat.reduceLeDiff, Nat.reduceLT, Nat.reduceEqDiff, Nat.reduceBEq, Int.reduceToNat, Int.reduceNeg, Int.reduceEq, Int.reduceNe, Int.reduceLE, Int.reduceLT, reduceCtorEq, ↓reduceIte]
    refine loop_st (fun k : Nat => ⟨mkF 74 [(1, .d (.int .i64 i)), (2, .optr 2 0 1 0 0), (5, .d (.int .i64 n)), (6, lastV (ksI m i) k), (7, .d (.int .i64 k))], [.live 2 [[.d (.sl 6 (m.1.map ptD)), .d (.sl 3 (m.2.map crD))]]]⟩) (fun k => k ≤ n) (fun k => n - k) 0 (weak_any (by simp only [vx, vz, Nat.reduceAdd, Nat.reduceSub, Nat.reduceMul, Nat.reduceLeDiff, Nat.reduceLT, Nat.reduceEqDiff, Nat.reduceBEq, Int.reduceToNat, Int.reduceNeg, Int.reduceEq, Int.reduceNe, Int.reduceLE, Int.reduceLT, reduceCtorEq, ↓reduceIte, lastV]; try trivial)) (by omega) (fun k hk => ?_)
    simp only [vx, vz, Nat.reduceAdd, Nat.reduceSub, Nat.reduceMul, Nat.reduceLeDiff, Nat.reduceLT, Nat.reduceEqDiff, Nat.reduceBEq, Int.reduceToNat, Int.reduceNeg, Int.reduceEq, Int.reduceNe, Int.reduceLE, Int.reduceLT, reduceCtorEq, ↓reduceIte]
    refine cond_split (fun hc => ?_) (fun hc => ?_)
    · simp only [decide_eq_true_eq] at hc
      obtain ⟨j, c, q, rfl, hq, hc, hu, h1, h2, h3, h4⟩ := szS_some (m := m) (i := i) (k := k) (by omega)
      obtain rfl : k = q := by omega
      have h11 := t11 m j k h
      rw [h4] at h11
      have hl := h.pts c h2
      have hlen : (tupS (ks m c) k).length ≤ maxLen := by rw [tupS_len, ks, List.length_map]; omega
      have h16 := t16 m j (tupS (ks m c) k) h hlen
      rw [ixo_at h2 hu, idx_tup (by omega), Nat.zero_mul, Nat.zero_add, Nat.mod_eq_of_lt h3, ixV] at h16
      have hks : ksI m j = ks m c := by rw [ksI, h2]
      rw [hks]
      simp only [vx, vz, Nat.reduceAdd, Nat.reduceSub, Nat.reduceMul, Nat.reduceLeDiff, Nat.reduceLT, Nat.reduceEqDiff, Nat.reduceBEq, Int.reduceToNat, Int.reduceNeg, Int.reduceEq, Int.reduceNe, Int.reduceLE, Int.reduceLT, reduceCtorEq, ↓reduceIte]
      refine call_p rfl (h11) ?_
      simp only [vx, vz, Nat.reduceAdd, Nat.reduceSub, Nat.reduceMul, Nat.reduceLeDiff, Nat.reduceLT, Nat.reduceEqDiff, Nat.reduceBEq, Int.reduceToNat, Int.reduceNeg, Int.reduceEq, Int.reduceNe, Int.reduceLE, Int.reduceLT, reduceCtorEq, ↓reduceIte]
      refine call_p rfl (h16) ?_
      simp only [vx, vz, Nat.reduceAdd, Nat.reduceSub, Nat.reduceMul, Nat.reduceLeDiff, Nat.reduceLT, Nat.reduceEqDiff, Nat.reduceBEq, Int.reduceToNat, Int.reduceNeg, Int.reduceEq, Int.reduceNe, Int.reduceLE, Int.reduceLT, reduceCtorEq, ↓reduceIte]
      cases k with
      | zero =>
        simp only [vx, vz, Nat.reduceAdd, Nat.reduceSub, Nat.reduceMul, Nat.reduceLeDiff, Nat.reduceLT, Nat.reduceEqDiff, Nat.reduceBEq, Int.reduceToNat, Int.reduceNeg, Int.reduceEq, Int.reduceNe, Int.reduceLE, Int.reduceLT, reduceCtorEq, ↓reduceIte, lastV, Int.lt_irrefl]
        refine ls_n 1 (by omega) (weak_any ?_) (by omega)
        simp only [vx, vz, Nat.reduceAdd, Nat.reduceSub, Nat.reduceMul, Nat.reduceLeDiff, Nat.reduceLT, Nat.reduceEqDiff, Nat.reduceBEq, Int.reduceToNat, Int.reduceNeg, Int.reduceEq, Int.reduceNe, Int.reduceLE, Int.reduceLT, reduceCtorEq, ↓reduceIte, lastV]
        rw [wr_i64 (by omega) (by omega)]
        trivial
      | succ k =>
        simp only [vx, vz, Nat.reduceAdd, Nat.reduceSub, Nat.reduceMul, Nat.reduceLeDiff, Nat.reduceLT, Nat.reduceEqDiff, Nat.reduceBEq, Int.reduceToNat, Int.reduceNeg, Int.reduceEq, Int.reduceNe, Int.reduceLE, Int.reduceLT, reduceCtorEq, ↓reduceIte, lastV, dt (show (0 : Int) < ((k + 1 : Nat) : Int) by omega)]
        have hlen2 : (tupS (ks m c) k).length ≤ maxLen := by rw [tupS_len, ks, List.length_map]; omega
        refine call_p rfl (t23 (tupS (ks m c) k) (tupS (ks m c) (k + 1)) hlen2 hlen) ?_
        simp only [vx, vz, Nat.reduceAdd, Nat.reduceSub, Nat.reduceMul, Nat.reduceLeDiff, Nat.reduceLT, Nat.reduceEqDiff, Nat.reduceBEq, Int.reduceToNat, Int.reduceNeg, Int.reduceEq, Int.reduceNe, Int.reduceLE, Int.reduceLT, reduceCtorEq, ↓reduceIte]
        rw [less_tup (by omega) (by rw [Nat.mod_eq_of_lt h3, Nat.mod_eq_of_lt (by omega)]; omega)]
        simp only [vx, vz, Nat.reduceAdd, Nat.reduceSub, Nat.reduceMul, Nat.reduceLeDiff, Nat.reduceLT, Nat.reduceEqDiff, Nat.reduceBEq, Int.reduceToNat, Int.reduceNeg, Int.reduceEq, Int.reduceNe, Int.reduceLE, Int.reduceLT, reduceCtorEq, ↓reduceIte]
        refine ls_n (k + 2) (by omega) (weak_any ?_) (by omega)
        simp only [vx, vz, Nat.reduceAdd, Nat.reduceSub, Nat.reduceMul, Nat.reduceLeDiff, Nat.reduceLT, Nat.reduceEqDiff, Nat.reduceBEq, Int.reduceToNat, Int.reduceNeg, Int.reduceEq, Int.reduceNe, Int.reduceLE, Int.reduceLT, reduceCtorEq, ↓reduceIte, lastV]
        rw [wr_i64 (by omega) (by omega)]
        trivial
    · simp only [decide_eq_false_iff_not] at hc
      have h11 := t11 m i n h
      rw [tupV_no (by omega)] at h11
      simp only [vx, vz, Nat.reduceAdd, Nat.reduceSub, Nat.reduceMul, Nat.reduceLeDiff, Nat.reduceLT, Nat.reduceEqDiff, Nat.reduceBEq, Int.reduceToNat, Int.reduceNeg, Int.reduceEq, Int.reduceNe, Int.reduceLE, Int.reduceLT, reduceCtorEq, ↓reduceIte]
      refine call_p rfl (h11) ?_
      simp only [vx, vz, Nat.reduceAdd, Nat.reduceSub, Nat.reduceMul, Nat.reduceLeDiff, Nat.reduceLT, Nat.reduceEqDiff, Nat.reduceBEq, Int.reduceToNat, Int.reduceNeg, Int.reduceEq, Int.reduceNe, Int.reduceLE, Int.reduceLT, reduceCtorEq, ↓reduceIte]
      refine call_p rfl (t10) ?_
      simp only [vx, vz, Nat.reduceAdd, Nat.reduceSub, Nat.reduceMul, Nat.reduceLeDiff, Nat.reduceLT, Nat.reduceEqDiff, Nat.reduceBEq, Int.reduceToNat, Int.reduceNeg, Int.reduceEq, Int.reduceNe, Int.reduceLE, Int.reduceLT, reduceCtorEq, ↓reduceIte]
end Go.Proofs.Cr
