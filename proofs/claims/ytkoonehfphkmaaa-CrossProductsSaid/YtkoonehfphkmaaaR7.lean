import Derived.Test.YtkoonehfphkmaaaR6
set_option linter.unusedSimpArgs false
set_option linter.unusedVariables false
namespace Go.Proofs.Cr
open Go.Vx
def szC (m : Md) (c : Cs) : Nat := if c.2.1.any (miss m) then 0 else pr (ks m c)
theorem szS_c {m : Md} {i : Nat} {c : Cs} (h : m.2[i]? = some c) : szS m i = (szC m c : Int) := by
  rw [szS, crOf_at, h]; simp only [szC]
  split <;> rfl
def crOkS (m : Md) (c : Cs) : Bool := decide (c.2.1.length ≤ 4) && decide (c.2.2.length ≤ 40) && decide (szC m c ≤ 500)
def fewS (m : Md) : Bool := decide (m.1.length ≤ 12) && decide (m.2.length ≤ 8) && (m.1.all fun p => decide (p.2.length ≤ 40)) && m.2.all (crOkS m)
theorem few_sm {m : Md} (h : fewS m = true) (ok : okM m) (i : Int) : Sm m i := by
  simp only [fewS, Bool.and_eq_true, decide_eq_true_eq, List.all_eq_true] at h
  refine ⟨ok, h.1.2, fun c hc => ?_⟩
  rw [crOf] at hc
  split at hc
  · cases hc
  · have := h.2 c (List.mem_of_getElem? hc)
    simp only [crOkS, Bool.and_eq_true, decide_eq_true_eq] at this
    exact this.1.1
theorem t9 (m : Md) (ok : okM m) : CallP Try.prog 9 [mdV m] (.d (.bool (fewS m))) := by
  have hm := hm
  have hl1 := ok.1
  have hl2 := ok.2.1
  refine go9 ac9 rfl ?_
  by_cases h1 : 12 < (m.1.length : Int)
  · have : fewS m = false := by rw [fewS, df (by omega)]; rfl
    simp only [vx, vz, Nat.reduceAdd, Nat.reduceSub, Nat.reduceMul, Nat.reduceLeDiff, Nat.reduceLT, Nat.reduceEqDiff, Nat.reduceBEq, Int.reduceToNat, Int.reduceNeg, Int.reduceEq, Int.reduceNe, Int.reduceLE, Int.reduceLT, reduceCtorEq, ↓reduceIte, ac9, dt h1, this]
  · by_cases h2 : 8 < (m.2.length : Int)
    · have : fewS m = false := by rw [fewS, df (show ¬ m.2.length ≤ 8 by omega), Bool.and_false]; rfl
      simp only [vx, vz, Nat.reduceAdd, Nat.reduceSub, Nat.reduceMul, Nat.reduceLeDiff, Nat.reduceLT, Nat.reduceEqDiff, Nat.reduceBEq, Int.reduceToNat, Int.reduceNeg, Int.reduceEq, Int.reduceNe, Int.reduceLE, Int.reduceLT, reduceCtorEq, ↓reduceIte, ac9, df h1, dt h2, this]
    · have hf : fewS m = ((m.1.all fun p => decide (p.2.length ≤ 40)) && m.2.all (crOkS m)) := by
        rw [fewS, dt (show m.1.length ≤ 12 by omega), dt (show m.2.length ≤ 8 by omega)]; rfl
      simp only [vx, vz, Nat.reduceAdd, Nat.reduceSub, Nat.reduceMul, Nat.reduceLeDiff, Nat.reduceLT, Nat.reduceEqDiff, Nat.reduceBEq, Int.reduceToNat, Int.reduceNeg, Int.reduceEq, Int.reduceNe, Int.reduceLE, Int.reduceLT, reduceCtorEq, ↓reduceIte, ac9, df h1, df h2]
      refine loop_st (fun j : Nat => ⟨mkF 59 [(1, .optr 2 0 1 0 0), (3, .d (.int .i64 j))], [.live 2 [[.d (.sl 6 (m.1.map ptD)), .d (.sl 3 (m.2.map crD))]]]⟩) (fun j => j ≤ m.1.length ∧ (m.1.all fun p => decide (p.2.length ≤ 40)) = (m.1.drop j).all fun p => decide (p.2.length ≤ 40)) (fun j => m.1.length - j) 0 (weak_any (by simp only [vx, vz, Nat.reduceAdd, Nat.reduceSub, Nat.reduceMul, Nat.reduceLeDiff, Nat.reduceLT, Nat.reduceEqDiff, Nat.reduceBEq, Int.reduceToNat, Int.reduceNeg, Int.reduceEq, Int.reduceNe, Int.reduceLE, Int.reduceLT, reduceCtorEq, ↓reduceIte]; try trivial)) ⟨by omega, by simp⟩ (fun j hj => ?_)
      obtain ⟨h3, h4⟩ := hj
      simp only [vx, vz, Nat.reduceAdd, Nat.reduceSub, Nat.reduceMul, Nat.reduceLeDiff, Nat.reduceLT, Nat.reduceEqDiff, Nat.reduceBEq, Int.reduceToNat, Int.reduceNeg, Int.reduceEq, Int.reduceNe, Int.reduceLE, Int.reduceLT, reduceCtorEq, ↓reduceIte]
      refine cond_split (fun hc => ?_) (fun hc => ?_)
      · simp only [decide_eq_true_eq] at hc
        obtain ⟨x, hx⟩ := get_ex (l := m.1) (i := j) (by omega)
        rw [drop_at hx, List.all_cons] at h4
        simp only [vx, vz, Nat.reduceAdd, Nat.reduceSub, Nat.reduceMul, Nat.reduceLeDiff, Nat.reduceLT, Nat.reduceEqDiff, Nat.reduceBEq, Int.reduceToNat, Int.reduceNeg, Int.reduceEq, Int.reduceNe, Int.reduceLE, Int.reduceLT, reduceCtorEq, ↓reduceIte]
        refine ⟨by omega, by omega, getM_at hx ?_⟩
        simp only [vx, vz, Nat.reduceAdd, Nat.reduceSub, Nat.reduceMul, Nat.reduceLeDiff, Nat.reduceLT, Nat.reduceEqDiff, Nat.reduceBEq, Int.reduceToNat, Int.reduceNeg, Int.reduceEq, Int.reduceNe, Int.reduceLE, Int.reduceLT, reduceCtorEq, ↓reduceIte]
        simp only [vx, vz, Nat.reduceAdd, Nat.reduceSub, Nat.reduceMul, Nat.reduceLeDiff, Nat.reduceLT, Nat.reduceEqDiff, Nat.reduceBEq, Int.reduceToNat, Int.reduceNeg, Int.reduceEq, Int.reduceNe, Int.reduceLE, Int.reduceLT, reduceCtorEq, ↓reduceIte, ptD]
        refine cond_split (fun hc2 => ?_) (fun hc2 => ?_)
        · simp only [decide_eq_true_eq] at hc2
          rw [df (show ¬ x.2.length ≤ 40 by omega), Bool.false_and] at h4
          simp only [vx, vz, Nat.reduceAdd, Nat.reduceSub, Nat.reduceMul, Nat.reduceLeDiff, Nat.reduceLT, Nat.reduceEqDiff, Nat.reduceBEq, Int.reduceToNat, Int.reduceNeg, Int.reduceEq, Int.reduceNe, Int.reduceLE, Int.reduceLT, reduceCtorEq, ↓reduceIte, hf, h4, Bool.false_and]
        · simp only [decide_eq_false_iff_not] at hc2
          rw [dt (show x.2.length ≤ 40 by omega), Bool.true_and] at h4
          simp only [vx, vz, Nat.reduceAdd, Nat.reduceSub, Nat.reduceMul, Nat.reduceLeDiff, Nat.reduceLT, Nat.reduceEqDiff, Nat.reduceBEq, Int.reduceToNat, Int.reduceNeg, Int.reduceEq, Int.reduceNe, Int.reduceLE, Int.reduceLT, reduceCtorEq, ↓reduceIte]
          refine ls_n (j + 1) (by omega) (weak_any ?_) ⟨by omega, h4⟩
          simp only [vx, vz, Nat.reduceAdd, Nat.reduceSub, Nat.reduceMul, Nat.reduceLeDiff, Nat.reduceLT, Nat.reduceEqDiff, Nat.reduceBEq, Int.reduceToNat, Int.reduceNeg, Int.reduceEq, Int.reduceNe, Int.reduceLE, Int.reduceLT, reduceCtorEq, ↓reduceIte]
          rw [wr_i64 (by omega) (by omega)]
          trivial
      · simp only [decide_eq_false_iff_not] at hc
        rw [drop_end (by omega), List.all_nil] at h4
        have hb : ∀ p ∈ m.1, p.2.length ≤ 40 := fun p hp => by
          have := List.all_eq_true.1 h4 p hp
          simpa using this
        rw [h4, Bool.true_and] at hf
        simp only [vx, vz, Nat.reduceAdd, Nat.reduceSub, Nat.reduceMul, Nat.reduceLeDiff, Nat.reduceLT, Nat.reduceEqDiff, Nat.reduceBEq, Int.reduceToNat, Int.reduceNeg, Int.reduceEq, Int.reduceNe, Int.reduceLE, Int.reduceLT, reduceCtorEq, ↓reduceIte]
        refine loop_st (fun j : Nat => ⟨mkF 59 [(1, .optr 2 0 1 0 0), (4, .d (.int .i64 j))], [.live 2 [[.d (.sl 6 (m.1.map ptD)), .d (.sl 3 (m.2.map crD))]]]⟩) (fun j => j ≤ m.2.length ∧ m.2.all (crOkS m) = (m.2.drop j).all (crOkS m)) (fun j => m.2.length - j) 0 (weak_any (by simp only [vx, vz, Nat.reduceAdd, Nat.reduceSub, Nat.reduceMul, Nat.reduceLeDiff, Nat.reduceLT, Nat.reduceEqDiff, Nat.reduceBEq, Int.reduceToNat, Int.reduceNeg, Int.reduceEq, Int.reduceNe, Int.reduceLE, Int.reduceLT, reduceCtorEq, ↓reduceIte]; try trivial)) ⟨by omega, by simp⟩ (fun j hj => ?_)
        obtain ⟨h5, h6⟩ := hj
        simp only [vx, vz, Nat.reduceAdd, Nat.reduceSub, Nat.reduceMul, Nat.reduceLeDiff, Nat.reduceLT, Nat.reduceEqDiff, Nat.reduceBEq, Int.reduceToNat, Int.reduceNeg, Int.reduceEq, Int.reduceNe, Int.reduceLE, Int.reduceLT, reduceCtorEq, ↓reduceIte]
        refine cond_split (fun hc => ?_) (fun hc => ?_)
        · simp only [decide_eq_true_eq] at hc
          obtain ⟨c, hc⟩ := get_ex (l := m.2) (i := j) (by omega)
          rw [drop_at hc, List.all_cons] at h6
          simp only [vx, vz, Nat.reduceAdd, Nat.reduceSub, Nat.reduceMul, Nat.reduceLeDiff, Nat.reduceLT, Nat.reduceEqDiff, Nat.reduceBEq, Int.reduceToNat, Int.reduceNeg, Int.reduceEq, Int.reduceNe, Int.reduceLE, Int.reduceLT, reduceCtorEq, ↓reduceIte]
          refine ⟨by omega, by omega, getM_at hc ?_⟩
          simp only [vx, vz, Nat.reduceAdd, Nat.reduceSub, Nat.reduceMul, Nat.reduceLeDiff, Nat.reduceLT, Nat.reduceEqDiff, Nat.reduceBEq, Int.reduceToNat, Int.reduceNeg, Int.reduceEq, Int.reduceNe, Int.reduceLE, Int.reduceLT, reduceCtorEq, ↓reduceIte]
          simp only [vx, vz, Nat.reduceAdd, Nat.reduceSub, Nat.reduceMul, Nat.reduceLeDiff, Nat.reduceLT, Nat.reduceEqDiff, Nat.reduceBEq, Int.reduceToNat, Int.reduceNeg, Int.reduceEq, Int.reduceNe, Int.reduceLE, Int.reduceLT, reduceCtorEq, ↓reduceIte, crD]
          by_cases h7 : 4 < (c.2.1.length : Int)
          · have : crOkS m c = false := by rw [crOkS, df (by omega)]; rfl
            rw [this, Bool.false_and] at h6
            simp only [vx, vz, Nat.reduceAdd, Nat.reduceSub, Nat.reduceMul, Nat.reduceLeDiff, Nat.reduceLT, Nat.reduceEqDiff, Nat.reduceBEq, Int.reduceToNat, Int.reduceNeg, Int.reduceEq, Int.reduceNe, Int.reduceLE, Int.reduceLT, reduceCtorEq, ↓reduceIte, dt h7, hf, h6]
          · by_cases h8 : 40 < (c.2.2.length : Int)
            · have : crOkS m c = false := by rw [crOkS, df (show ¬ c.2.2.length ≤ 40 by omega), Bool.and_false]; rfl
              rw [this, Bool.false_and] at h6
              simp only [vx, vz, Nat.reduceAdd, Nat.reduceSub, Nat.reduceMul, Nat.reduceLeDiff, Nat.reduceLT, Nat.reduceEqDiff, Nat.reduceBEq, Int.reduceToNat, Int.reduceNeg, Int.reduceEq, Int.reduceNe, Int.reduceLE, Int.reduceLT, reduceCtorEq, ↓reduceIte, df h7, dt h8, hf, h6]
            · simp only [vx, vz, Nat.reduceAdd, Nat.reduceSub, Nat.reduceMul, Nat.reduceLeDiff, Nat.reduceLT, Nat.reduceEqDiff, Nat.reduceBEq, Int.reduceToNat, Int.reduceNeg, Int.reduceEq, Int.reduceNe, Int.reduceLE, Int.reduceLT, reduceCtorEq, ↓reduceIte, df h7, df h8]
              have hsm : Sm m j := ⟨ok, hb, fun c' hc' => by rw [crOf_at, hc] at hc'; cases hc'; omega⟩
              have h14 := t14 m j hsm
              rw [szS_c hc] at h14
              refine call_p rfl (h14) ?_
              simp only [vx, vz, Nat.reduceAdd, Nat.reduceSub, Nat.reduceMul, Nat.reduceLeDiff, Nat.reduceLT, Nat.reduceEqDiff, Nat.reduceBEq, Int.reduceToNat, Int.reduceNeg, Int.reduceEq, Int.reduceNe, Int.reduceLE, Int.reduceLT, reduceCtorEq, ↓reduceIte]
              refine cond_split (fun hc2 => ?_) (fun hc2 => ?_)
              · simp only [decide_eq_true_eq] at hc2
                have : crOkS m c = false := by rw [crOkS, df (show ¬ szC m c ≤ 500 by omega), Bool.and_false]
                rw [this, Bool.false_and] at h6
                simp only [vx, vz, Nat.reduceAdd, Nat.reduceSub, Nat.reduceMul, Nat.reduceLeDiff, Nat.reduceLT, Nat.reduceEqDiff, Nat.reduceBEq, Int.reduceToNat, Int.reduceNeg, Int.reduceEq, Int.reduceNe, Int.reduceLE, Int.reduceLT, reduceCtorEq, ↓reduceIte, hf, h6]
              · simp only [decide_eq_false_iff_not] at hc2
                have : crOkS m c = true := by rw [crOkS, dt (show c.2.1.length ≤ 4 by omega), dt (show c.2.2.length ≤ 40 by omega), dt (show szC m c ≤ 500 by omega)]; rfl
                rw [this, Bool.true_and] at h6
                simp only [vx, vz, Nat.reduceAdd, Nat.reduceSub, Nat.reduceMul, Nat.reduceLeDiff, Nat.reduceLT, Nat.reduceEqDiff, Nat.reduceBEq, Int.reduceToNat, Int.reduceNeg, Int.reduceEq, Int.reduceNe, Int.reduceLE, Int.reduceLT, reduceCtorEq, ↓reduceIte]
                refine ls_n (j + 1) (by omega) (Weak.trans (weak_any ?_) (weak_frz2 1 (by omega) ⟨.same _ (by simp [rowB, hB]), trivial⟩ (kpL_refl rfl))) ⟨by omega, h6⟩
                simp only [vx, vz, Nat.reduceAdd, Nat.reduceSub, Nat.reduceMul, Nat.reduceLeDiff, Nat.reduceLT, Nat.reduceEqDiff, Nat.reduceBEq, Int.reduceToNat, Int.reduceNeg, Int.reduceEq, Int.reduceNe, Int.reduceLE, Int.reduceLT, reduceCtorEq, ↓reduceIte]
                rw [wr_i64 (by omega) (by omega)]
                trivial
        · simp only [decide_eq_false_iff_not] at hc
          rw [drop_end (by omega), List.all_nil] at h6
          simp only [vx, vz, Nat.reduceAdd, Nat.reduceSub, Nat.reduceMul, Nat.reduceLeDiff, Nat.reduceLT, Nat.reduceEqDiff, Nat.reduceBEq, Int.reduceToNat, Int.reduceNeg, Int.reduceEq, Int.reduceNe, Int.reduceLE, Int.reduceLT, reduceCtorEq, ↓reduceIte, hf, h6]
end Go.Proofs.Cr
