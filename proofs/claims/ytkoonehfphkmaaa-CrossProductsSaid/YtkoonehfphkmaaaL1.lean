import Derived.Test.YtkoonehfphkmaaaA1
import Derived.Test.YtkoonehfphkmaaaVxArg2
set_option linter.unusedSimpArgs false
set_option linter.unusedVariables false
namespace Go.Proofs.Cr
open Go.Vx
theorem pr_few {m : Md} (h : fewS m = true) {i : Int} {c : Cs} (hc : crOf m i = some c) (hu : c.2.1.any (miss m) = false) : pr (ks m c) ≤ 500 := by
  simp only [fewS, Bool.and_eq_true, decide_eq_true_eq, List.all_eq_true] at h
  rw [crOf] at hc
  split at hc
  · cases hc
  · have := h.2 c (List.mem_of_getElem? hc)
    simp only [crOkS, Bool.and_eq_true, decide_eq_true_eq, szC, hu, Bool.false_eq_true, if_false] at this
    exact this.2
theorem mL4 : 4 ≤ maxLen := by decide
theorem tup_cases (m : Md) (i k : Int) (h : Sm m i) : ∃ (l : List Int) (b : Bool), tupV m i k = .tup [isV l, .d (.bool b)] ∧ l.length ≤ maxLen := by
  rw [tupV]
  split
  · exact ⟨[], false, rfl, by simp⟩
  · next c hc =>
    split
    · exact ⟨_, _, rfl, by
        have := h.pts c hc
        have := mL4
        rw [tupS_len, ks, List.length_map]; omega⟩
    · exact ⟨[], false, rfl, by simp⟩
theorem l3 (m : Md) (i k : Int) (ok : okM m) : CallP Try.prog 3 [mdV m, .d (.int .i64 i), .d (.int .i64 k)] (.d (.bool true)) := by
  refine go3 ac3 rfl ?_
  simp only [vx, vz, Nat.reduceAdd, Nat.reduceSub, Nat.reduceMul, Nat.reduceLeDiff, Nat.reduceLT, Nat.reduceEqDiff, Nat.reduceBEq, Int.reduceToNat, Int.reduceNeg, Int.reduceEq, Int.reduceNe, Int.reduceLE, Int.reduceLT, reduceCtorEq, ↓reduceIte, ac3]
  refine call_p rfl (t9 m ok) ?_
  simp only [vx, vz, Nat.reduceAdd, Nat.reduceSub, Nat.reduceMul, Nat.reduceLeDiff, Nat.reduceLT, Nat.reduceEqDiff, Nat.reduceBEq, Int.reduceToNat, Int.reduceNeg, Int.reduceEq, Int.reduceNe, Int.reduceLE, Int.reduceLT, reduceCtorEq, ↓reduceIte]
  cases hf : fewS m with
  | false =>
    simp only [vx, vz, Nat.reduceAdd, Nat.reduceSub, Nat.reduceMul, Nat.reduceLeDiff, Nat.reduceLT, Nat.reduceEqDiff, Nat.reduceBEq, Int.reduceToNat, Int.reduceNeg, Int.reduceEq, Int.reduceNe, Int.reduceLE, Int.reduceLT, reduceCtorEq, ↓reduceIte]
    refine call_p rfl (t10) ?_
    simp only [vx, vz, Nat.reduceAdd, Nat.reduceSub, Nat.reduceMul, Nat.reduceLeDiff, Nat.reduceLT, Nat.reduceEqDiff, Nat.reduceBEq, Int.reduceToNat, Int.reduceNeg, Int.reduceEq, Int.reduceNe, Int.reduceLE, Int.reduceLT, reduceCtorEq, ↓reduceIte]
  | true =>
    have h := few_sm hf ok i
    have h11 := t11 m i k h
    have h12 := t12 m i k h
    obtain ⟨l, b, e, hl⟩ := tup_cases m i k h
    rw [e] at h11 h12
    simp only [vx, vz, Nat.reduceAdd, Nat.reduceSub, Nat.reduceMul, Nat.reduceLeDiff, Nat.reduceLT, Nat.reduceEqDiff, Nat.reduceBEq, Int.reduceToNat, Int.reduceNeg, Int.reduceEq, Int.reduceNe, Int.reduceLE, Int.reduceLT, reduceCtorEq, ↓reduceIte]
    refine call_p rfl (h11) ?_
    simp only [vx, vz, Nat.reduceAdd, Nat.reduceSub, Nat.reduceMul, Nat.reduceLeDiff, Nat.reduceLT, Nat.reduceEqDiff, Nat.reduceBEq, Int.reduceToNat, Int.reduceNeg, Int.reduceEq, Int.reduceNe, Int.reduceLE, Int.reduceLT, reduceCtorEq, ↓reduceIte]
    refine call_p rfl (h12) ?_
    simp only [vx, vz, Nat.reduceAdd, Nat.reduceSub, Nat.reduceMul, Nat.reduceLeDiff, Nat.reduceLT, Nat.reduceEqDiff, Nat.reduceBEq, Int.reduceToNat, Int.reduceNeg, Int.reduceEq, Int.reduceNe, Int.reduceLE, Int.reduceLT, reduceCtorEq, ↓reduceIte]
    refine c_quiet rfl ?_
    simp only [vx, vz, Nat.reduceAdd, Nat.reduceSub, Nat.reduceMul, Nat.reduceLeDiff, Nat.reduceLT, Nat.reduceEqDiff, Nat.reduceBEq, Int.reduceToNat, Int.reduceNeg, Int.reduceEq, Int.reduceNe, Int.reduceLE, Int.reduceLT, reduceCtorEq, ↓reduceIte]
    refine call_p rfl (t13 m i h) ?_
    simp only [vx, vz, Nat.reduceAdd, Nat.reduceSub, Nat.reduceMul, Nat.reduceLeDiff, Nat.reduceLT, Nat.reduceEqDiff, Nat.reduceBEq, Int.reduceToNat, Int.reduceNeg, Int.reduceEq, Int.reduceNe, Int.reduceLE, Int.reduceLT, reduceCtorEq, ↓reduceIte]
    refine call_p rfl (t14 m i h) ?_
    simp only [vx, vz, Nat.reduceAdd, Nat.reduceSub, Nat.reduceMul, Nat.reduceLeDiff, Nat.reduceLT, Nat.reduceEqDiff, Nat.reduceBEq, Int.reduceToNat, Int.reduceNeg, Int.reduceEq, Int.reduceNe, Int.reduceLE, Int.reduceLT, reduceCtorEq, ↓reduceIte]
    refine call_p rfl (t15 l hl) ?_
    simp only [vx, vz, Nat.reduceAdd, Nat.reduceSub, Nat.reduceMul, Nat.reduceLeDiff, Nat.reduceLT, Nat.reduceEqDiff, Nat.reduceBEq, Int.reduceToNat, Int.reduceNeg, Int.reduceEq, Int.reduceNe, Int.reduceLE, Int.reduceLT, reduceCtorEq, ↓reduceIte]
    refine call_p rfl (t10) ?_
    simp only [vx, vz, Nat.reduceAdd, Nat.reduceSub, Nat.reduceMul, Nat.reduceLeDiff, Nat.reduceLT, Nat.reduceEqDiff, Nat.reduceBEq, Int.reduceToNat, Int.reduceNeg, Int.reduceEq, Int.reduceNe, Int.reduceLE, Int.reduceLT, reduceCtorEq, ↓reduceIte]
theorem l4 (m : Md) (i : Int) (l : List Int) (ok : okM m) (hl : l.length ≤ maxLen) : CallP Try.prog 4 [mdV m, .d (.int .i64 i), isV l] (.d (.bool true)) := by
  refine go4 ac4 rfl ?_
  simp only [vx, vz, Nat.reduceAdd, Nat.reduceSub, Nat.reduceMul, Nat.reduceLeDiff, Nat.reduceLT, Nat.reduceEqDiff, Nat.reduceBEq, Int.reduceToNat, Int.reduceNeg, Int.reduceEq, Int.reduceNe, Int.reduceLE, Int.reduceLT, reduceCtorEq, ↓reduceIte, ac4]
  refine call_p rfl (t9 m ok) ?_
  simp only [vx, vz, Nat.reduceAdd, Nat.reduceSub, Nat.reduceMul, Nat.reduceLeDiff, Nat.reduceLT, Nat.reduceEqDiff, Nat.reduceBEq, Int.reduceToNat, Int.reduceNeg, Int.reduceEq, Int.reduceNe, Int.reduceLE, Int.reduceLT, reduceCtorEq, ↓reduceIte]
  cases hf : fewS m with
  | false =>
    simp only [vx, vz, Nat.reduceAdd, Nat.reduceSub, Nat.reduceMul, Nat.reduceLeDiff, Nat.reduceLT, Nat.reduceEqDiff, Nat.reduceBEq, Int.reduceToNat, Int.reduceNeg, Int.reduceEq, Int.reduceNe, Int.reduceLE, Int.reduceLT, reduceCtorEq, ↓reduceIte]
    refine call_p rfl (t10) ?_
    simp only [vx, vz, Nat.reduceAdd, Nat.reduceSub, Nat.reduceMul, Nat.reduceLeDiff, Nat.reduceLT, Nat.reduceEqDiff, Nat.reduceBEq, Int.reduceToNat, Int.reduceNeg, Int.reduceEq, Int.reduceNe, Int.reduceLE, Int.reduceLT, reduceCtorEq, ↓reduceIte]
  | true =>
    have h := few_sm hf ok i
    have h16 := t16 m i l h hl
    have h17 := t17 m i l h hl
    obtain ⟨a, b, e⟩ : ∃ a b, ixV (ixo m i l) = .tup [.d (.int .i64 a), .d (.bool b)] := by
      cases ixo m i l with
      | none => exact ⟨_, _, rfl⟩
      | some k => exact ⟨_, _, rfl⟩
    rw [e] at h16 h17
    simp only [vx, vz, Nat.reduceAdd, Nat.reduceSub, Nat.reduceMul, Nat.reduceLeDiff, Nat.reduceLT, Nat.reduceEqDiff, Nat.reduceBEq, Int.reduceToNat, Int.reduceNeg, Int.reduceEq, Int.reduceNe, Int.reduceLE, Int.reduceLT, reduceCtorEq, ↓reduceIte]
    refine cond_split (fun hc => ?_) (fun hc => ?_)
    · simp only [vx, vz, Nat.reduceAdd, Nat.reduceSub, Nat.reduceMul, Nat.reduceLeDiff, Nat.reduceLT, Nat.reduceEqDiff, Nat.reduceBEq, Int.reduceToNat, Int.reduceNeg, Int.reduceEq, Int.reduceNe, Int.reduceLE, Int.reduceLT, reduceCtorEq, ↓reduceIte]
      refine call_p rfl (t10) ?_
      simp only [vx, vz, Nat.reduceAdd, Nat.reduceSub, Nat.reduceMul, Nat.reduceLeDiff, Nat.reduceLT, Nat.reduceEqDiff, Nat.reduceBEq, Int.reduceToNat, Int.reduceNeg, Int.reduceEq, Int.reduceNe, Int.reduceLE, Int.reduceLT, reduceCtorEq, ↓reduceIte]
    · simp only [vx, vz, Nat.reduceAdd, Nat.reduceSub, Nat.reduceMul, Nat.reduceLeDiff, Nat.reduceLT, Nat.reduceEqDiff, Nat.reduceBEq, Int.reduceToNat, Int.reduceNeg, Int.reduceEq, Int.reduceNe, Int.reduceLE, Int.reduceLT, reduceCtorEq, ↓reduceIte]
      refine call_p rfl (h16) ?_
      simp only [vx, vz, Nat.reduceAdd, Nat.reduceSub, Nat.reduceMul, Nat.reduceLeDiff, Nat.reduceLT, Nat.reduceEqDiff, Nat.reduceBEq, Int.reduceToNat, Int.reduceNeg, Int.reduceEq, Int.reduceNe, Int.reduceLE, Int.reduceLT, reduceCtorEq, ↓reduceIte]
      refine call_p rfl (h17) ?_
      simp only [vx, vz, Nat.reduceAdd, Nat.reduceSub, Nat.reduceMul, Nat.reduceLeDiff, Nat.reduceLT, Nat.reduceEqDiff, Nat.reduceBEq, Int.reduceToNat, Int.reduceNeg, Int.reduceEq, Int.reduceNe, Int.reduceLE, Int.reduceLT, reduceCtorEq, ↓reduceIte]
      refine c_quiet rfl ?_
      simp only [vx, vz, Nat.reduceAdd, Nat.reduceSub, Nat.reduceMul, Nat.reduceLeDiff, Nat.reduceLT, Nat.reduceEqDiff, Nat.reduceBEq, Int.reduceToNat, Int.reduceNeg, Int.reduceEq, Int.reduceNe, Int.reduceLE, Int.reduceLT, reduceCtorEq, ↓reduceIte]
      refine call_p rfl (t18 m i l h hl) ?_
      simp only [vx, vz, Nat.reduceAdd, Nat.reduceSub, Nat.reduceMul, Nat.reduceLeDiff, Nat.reduceLT, Nat.reduceEqDiff, Nat.reduceBEq, Int.reduceToNat, Int.reduceNeg, Int.reduceEq, Int.reduceNe, Int.reduceLE, Int.reduceLT, reduceCtorEq, ↓reduceIte]
      refine call_p rfl (t19 m i l h hl) ?_
      simp only [vx, vz, Nat.reduceAdd, Nat.reduceSub, Nat.reduceMul, Nat.reduceLeDiff, Nat.reduceLT, Nat.reduceEqDiff, Nat.reduceBEq, Int.reduceToNat, Int.reduceNeg, Int.reduceEq, Int.reduceNe, Int.reduceLE, Int.reduceLT, reduceCtorEq, ↓reduceIte]
      refine call_p rfl (t10) ?_
      simp only [vx, vz, Nat.reduceAdd, Nat.reduceSub, Nat.reduceMul, Nat.reduceLeDiff, Nat.reduceLT, Nat.reduceEqDiff, Nat.reduceBEq, Int.reduceToNat, Int.reduceNeg, Int.reduceEq, Int.reduceNe, Int.reduceLE, Int.reduceLT, reduceCtorEq, ↓reduceIte]
theorem te_bn {n : Nat} {ys : List D} (h : TyE Try.prog n 55 ys) : ∃ b : Bn, ys = bnD b ∧ True := by
  obtain ⟨m, a, b, c, d, rfl, h1, h2, h3, h4⟩ := te_struct4 Try.underlying55 h
  obtain ⟨s, rfl, _⟩ := te_str Try.underlying9 h1
  obtain ⟨k, rfl, _⟩ := te_int Try.underlying3 h2
  obtain ⟨r, rfl⟩ := te_one Try.underlying52 h3
  obtain ⟨t, rfl⟩ := te_one Try.underlying53 h4
  exact ⟨(s, k, r, t), rfl, trivial⟩
theorem te_pt {n : Nat} {ys : List D} (h : TyE Try.prog n 51 ys) : ∃ p : Pt, ys = ptD p ∧ p.2.length ≤ maxLen := by
  obtain ⟨m, a, b, c, rfl, h1, h2, h3⟩ := te_struct3 Try.underlying51 h
  obtain ⟨s, rfl, _⟩ := te_str Try.underlying9 h1
  obtain ⟨m2, e, f, g, x, rfl, h4, h5, h6, h7⟩ := te_struct4 Try.underlying48 h2
  obtain ⟨o, rfl, _⟩ := te_int Try.underlying3 h4
  obtain ⟨k, rfl, _⟩ := te_int Try.underlying3 h5
  obtain ⟨u, rfl, _⟩ := te_str Try.underlying9 h6
  obtain ⟨d, rfl⟩ := te_one Try.underlying46 h7
  obtain ⟨l, rfl, hl, _⟩ := te_sl (f := bnD) (ok := fun _ => True) Try.underlying49 (fun n ys h => te_bn h) h3
  exact ⟨((s, o, k, u, d), l), rfl, hl⟩
theorem te_is {n : Nat} {ys : List D} (h : TyE Try.prog n 28 ys) : ∃ l : List Int, ys = [.sl 1 (l.map iD)] ∧ l.length ≤ maxLen := by
  obtain ⟨l, rfl, hl, _⟩ := te_sl (f := iD) (ok := fun _ => True) Try.underlying28 (fun n ys h => let ⟨s, e, _⟩ := te_int Try.underlying3 h; ⟨s, e, trivial⟩) h
  exact ⟨l, rfl, hl⟩
theorem te_ll {n : Nat} {ys : List D} (h : TyE Try.prog n 37 ys) : ∃ l : List (List Int), ys = [.sl 1 (l.map lD)] ∧ l.length ≤ maxLen ∧ ∀ x ∈ l, x.length ≤ maxLen := by
  exact te_sl (f := lD) (ok := fun l => l.length ≤ maxLen) Try.underlying37 (fun n ys h => te_is h) h
theorem te_cr {n : Nat} {ys : List D} (h : TyE Try.prog n 45 ys) : ∃ c : Cs, ys = crD c ∧ c.2.1.length ≤ maxLen ∧ c.2.2.length ≤ maxLen ∧ ∀ l ∈ c.2.2, l.length ≤ maxLen := by
  obtain ⟨m, a, b, c, rfl, h1, h2, h3⟩ := te_struct3 Try.underlying45 h
  obtain ⟨s, rfl, _⟩ := te_str Try.underlying9 h1
  obtain ⟨l, rfl, hl⟩ := te_is h2
  obtain ⟨k, rfl, hk, hkk⟩ := te_ll h3
  exact ⟨(s, l, k), rfl, hl, hk, hkk⟩
theorem te_md {n : Nat} {ys : List D} (h : TyE Try.prog n 25 ys) : ∃ m : Md, ys = [.sl 6 (m.1.map ptD), .sl 3 (m.2.map crD)] ∧ okM m := by
  obtain ⟨m, a, b, rfl, h1, h2⟩ := te_struct2 Try.underlying25 h
  obtain ⟨l, rfl, hl, hll⟩ := te_sl (f := ptD) (ok := fun p => p.2.length ≤ maxLen) Try.underlying22 (fun n ys h => te_pt h) h1
  obtain ⟨k, rfl, hk, hkk⟩ := te_sl (f := crD) (ok := fun c => c.2.1.length ≤ maxLen ∧ c.2.2.length ≤ maxLen ∧ ∀ l ∈ c.2.2, l.length ≤ maxLen) Try.underlying23 (fun n ys h => te_cr h) h2
  exact ⟨(l, k), rfl, hl, hk, hll, hkk⟩
end Go.Proofs.Cr
