import Derived.Test.YtkoonehfphkmaaaL1
set_option linter.unusedSimpArgs false
set_option linter.unusedVariables false
namespace Go.Proofs.Cr
open Go.Vx
def lessS : List Int → List Int → Bool
  | x :: a, y :: b => if x = y then lessS a b else decide (x < y)
  | _, _ => false
theorem lessS_nil {a b : List Int} (h : a = [] ∨ b = []) : lessS a b = false := by
  rcases h with rfl | rfl
  · cases b <;> rfl
  · cases a <;> rfl
theorem t23 (a b : List Int) (ha : a.length ≤ maxLen) (hb : b.length ≤ maxLen) : CallP Try.prog 23 [isV a, isV b] (.d (.bool (lessS a b))) := by
  have hm := hm
  refine go23 ac23 rfl ?_
  simp only [vx, vz, Nat.reduceAdd, Nat.reduceSub, Nat.reduceMul, Nat.reduceLeDiff, Nat.reduceLT, Nat.reduceEqDiff, Nat.reduceBEq, Int.reduceToNat, Int.reduceNeg, Int.reduceEq, Int.reduceNe, Int.reduceLE, Int.reduceLT, reduceCtorEq, ↓reduceIte, ac23]
  refine loop_st (fun i : Nat => ⟨mkF 36 [(0, isV a), (1, isV b), (5, .d (.int .i64 i))], []⟩) (fun i => i ≤ a.length ∧ i ≤ b.length ∧ lessS a b = lessS (a.drop i) (b.drop i)) (fun i => a.length - i) 0 (weak_any (by simp only [vx, vz, Nat.reduceAdd, Nat.reduceSub, Nat.reduceMul, Nat.reduceLeDiff, Nat.reduceLT, Nat.reduceEqDiff, Nat.reduceBEq, Int.reduceToNat, Int.reduceNeg, Int.reduceEq, Int.reduceNe, Int.reduceLE, Int.reduceLT, reduceCtorEq, ↓reduceIte]; try trivial)) ⟨by simp, by simp, by simp⟩ (fun i hi => ?_)
  obtain ⟨h1, h2, h3⟩ := hi
  by_cases hc : i < a.length
  · by_cases hd : i < b.length
    · obtain ⟨x, hx⟩ := get_ex (l := a) (i := i) (by omega)
      obtain ⟨y, hy⟩ := get_ex (l := b) (i := i) (by omega)
      rw [drop_at hx, drop_at hy, lessS] at h3
      simp only [vx, vz, Nat.reduceAdd, Nat.reduceSub, Nat.reduceMul, Nat.reduceLeDiff, Nat.reduceLT, Nat.reduceEqDiff, Nat.reduceBEq, Int.reduceToNat, Int.reduceNeg, Int.reduceEq, Int.reduceNe, Int.reduceLE, Int.reduceLT, reduceCtorEq, ↓reduceIte, dt (show (i : Int) < a.length by omega), dt (show (i : Int) < b.length by omega)]
      refine c_quiet rfl ?_
      simp only [vx, vz, Nat.reduceAdd, Nat.reduceSub, Nat.reduceMul, Nat.reduceLeDiff, Nat.reduceLT, Nat.reduceEqDiff, Nat.reduceBEq, Int.reduceToNat, Int.reduceNeg, Int.reduceEq, Int.reduceNe, Int.reduceLE, Int.reduceLT, reduceCtorEq, ↓reduceIte]
      refine ⟨by omega, by omega, getM_at hx ?_⟩
      simp only [vx, vz, Nat.reduceAdd, Nat.reduceSub, Nat.reduceMul, Nat.reduceLeDiff, Nat.reduceLT, Nat.reduceEqDiff, Nat.reduceBEq, Int.reduceToNat, Int.reduceNeg, Int.reduceEq, Int.reduceNe, Int.reduceLE, Int.reduceLT, reduceCtorEq, ↓reduceIte]
      simp only [vx, vz, Nat.reduceAdd, Nat.reduceSub, Nat.reduceMul, Nat.reduceLeDiff, Nat.reduceLT, Nat.reduceEqDiff, Nat.reduceBEq, Int.reduceToNat, Int.reduceNeg, Int.reduceEq, Int.reduceNe, Int.reduceLE, Int.reduceLT, reduceCtorEq, ↓reduceIte, iD]
      refine ⟨by omega, by omega, getM_at hy ?_⟩
      simp only [vx, vz, Nat.reduceAdd, Nat.reduceSub, Nat.reduceMul, Nat.reduceLeDiff, Nat.reduceLT, Nat.reduceEqDiff, Nat.reduceBEq, Int.reduceToNat, Int.reduceNeg, Int.reduceEq, Int.reduceNe, Int.reduceLE, Int.reduceLT, reduceCtorEq, ↓reduceIte]
      simp only [vx, vz, Nat.reduceAdd, Nat.reduceSub, Nat.reduceMul, Nat.reduceLeDiff, Nat.reduceLT, Nat.reduceEqDiff, Nat.reduceBEq, Int.reduceToNat, Int.reduceNeg, Int.reduceEq, Int.reduceNe, Int.reduceLE, Int.reduceLT, reduceCtorEq, ↓reduceIte, iD]
      refine cond_split (fun he => ?_) (fun he => ?_)
      · have he : x ≠ y := by simpa using he
        rw [if_neg he] at h3
        simp only [vx, vz, Nat.reduceAdd, Nat.reduceSub, Nat.reduceMul, Nat.reduceLeDiff, Nat.reduceLT, Nat.reduceEqDiff, Nat.reduceBEq, Int.reduceToNat, Int.reduceNeg, Int.reduceEq, Int.reduceNe, Int.reduceLE, Int.reduceLT, reduceCtorEq, ↓reduceIte]
        refine c_quiet rfl ?_
        simp only [vx, vz, Nat.reduceAdd, Nat.reduceSub, Nat.reduceMul, Nat.reduceLeDiff, Nat.reduceLT, Nat.reduceEqDiff, Nat.reduceBEq, Int.reduceToNat, Int.reduceNeg, Int.reduceEq, Int.reduceNe, Int.reduceLE, Int.reduceLT, reduceCtorEq, ↓reduceIte]
        refine ⟨by omega, by omega, getM_at hx ?_⟩
        simp only [vx, vz, Nat.reduceAdd, Nat.reduceSub, Nat.reduceMul, Nat.reduceLeDiff, Nat.reduceLT, Nat.reduceEqDiff, Nat.reduceBEq, Int.reduceToNat, Int.reduceNeg, Int.reduceEq, Int.reduceNe, Int.reduceLE, Int.reduceLT, reduceCtorEq, ↓reduceIte]
        simp only [vx, vz, Nat.reduceAdd, Nat.reduceSub, Nat.reduceMul, Nat.reduceLeDiff, Nat.reduceLT, Nat.reduceEqDiff, Nat.reduceBEq, Int.reduceToNat, Int.reduceNeg, Int.reduceEq, Int.reduceNe, Int.reduceLE, Int.reduceLT, reduceCtorEq, ↓reduceIte, iD]
        refine ⟨by omega, by omega, getM_at hy ?_⟩
        simp only [vx, vz, Nat.reduceAdd, Nat.reduceSub, Nat.reduceMul, Nat.reduceLeDiff, Nat.reduceLT, Nat.reduceEqDiff, Nat.reduceBEq, Int.reduceToNat, Int.reduceNeg, Int.reduceEq, Int.reduceNe, Int.reduceLE, Int.reduceLT, reduceCtorEq, ↓reduceIte]
        simp only [vx, vz, Nat.reduceAdd, Nat.reduceSub, Nat.reduceMul, Nat.reduceLeDiff, Nat.reduceLT, Nat.reduceEqDiff, Nat.reduceBEq, Int.reduceToNat, Int.reduceNeg, Int.reduceEq, Int.reduceNe, Int.reduceLE, Int.reduceLT, reduceCtorEq, ↓reduceIte, iD, h3]
      · have he : x = y := by simpa using he
        rw [if_pos he] at h3
        simp only [vx, vz, Nat.reduceAdd, Nat.reduceSub, Nat.reduceMul, Nat.reduceLeDiff, Nat.reduceLT, Nat.reduceEqDiff, Nat.reduceBEq, Int.reduceToNat, Int.reduceNeg, Int.reduceEq, Int.reduceNe, Int.reduceLE, Int.reduceLT, reduceCtorEq, ↓reduceIte]
        refine ls_n (i + 1) (by omega) (weak_any ?_) ⟨by omega, by omega, h3⟩
        simp only [vx, vz, Nat.reduceAdd, Nat.reduceSub, Nat.reduceMul, Nat.reduceLeDiff, Nat.reduceLT, Nat.reduceEqDiff, Nat.reduceBEq, Int.reduceToNat, Int.reduceNeg, Int.reduceEq, Int.reduceNe, Int.reduceLE, Int.reduceLT, reduceCtorEq, ↓reduceIte]
        rw [wr_i64 (by omega) (by omega)]
        trivial
    · rw [lessS_nil (.inr (drop_end (by omega)))] at h3
      simp only [vx, vz, Nat.reduceAdd, Nat.reduceSub, Nat.reduceMul, Nat.reduceLeDiff, Nat.reduceLT, Nat.reduceEqDiff, Nat.reduceBEq, Int.reduceToNat, Int.reduceNeg, Int.reduceEq, Int.reduceNe, Int.reduceLE, Int.reduceLT, reduceCtorEq, ↓reduceIte, dt (show (i : Int) < a.length by omega), df (show ¬ (i : Int) < b.length by omega), h3]
  · rw [lessS_nil (.inl (drop_end (by omega)))] at h3
    simp only [vx, vz, Nat.reduceAdd, Nat.reduceSub, Nat.reduceMul, Nat.reduceLeDiff, Nat.reduceLT, Nat.reduceEqDiff, Nat.reduceBEq, Int.reduceToNat, Int.reduceNeg, Int.reduceEq, Int.reduceNe, Int.reduceLE, Int.reduceLT, reduceCtorEq, ↓reduceIte, df (show ¬ (i : Int) < a.length by omega), h3]
theorem pr_split {k P n : Nat} : k % (n * P) = k % P + P * (k / P % n) := by rw [Nat.mul_comm n P, Nat.mod_mul]
theorem idx_tup {l : List Nat} (h : 0 < pr l) (k a : Nat) : idxG l (tupS l k) a = some (a * pr l + k % pr l) := by
  induction l generalizing a with
  | nil => simp [tupS, tupN, idxG, pr, Nat.mod_one]
  | cons n l ih =>
    have h1 : 0 < n := pr_pos h (j := 0) rfl
    have h2 : 0 < pr l := Nat.pos_of_ne_zero (fun e => by simp [pr, e] at h)
    have h3 := Nat.mod_lt (k / pr l) h1
    show idxG (n :: l) (((k / pr l % n : Nat) : Int) :: tupS l k) a = _
    rw [idxG, if_pos (by omega), Int.toNat_natCast, ih h2, pr, pr_split, Nat.add_mul, Nat.mul_assoc, Nat.mul_comm (k / pr l % n) (pr l)]
    congr 1; omega
theorem less_tup {l : List Nat} (h0 : 0 < pr l) {j k : Nat} (h : j % pr l < k % pr l) : lessS (tupS l j) (tupS l k) = true := by
  induction l with
  | nil => simp [pr, Nat.mod_one] at h
  | cons n l ih =>
    show lessS (((j / pr l % n : Nat) : Int) :: tupS l j) (((k / pr l % n : Nat) : Int) :: tupS l k) = true
    have hP : 0 < pr l := Nat.pos_of_ne_zero (fun e => by simp [pr, e] at h0)
    rw [pr, pr_split, pr_split] at h
    generalize j / pr l % n = a at h ⊢
    generalize k / pr l % n = b at h ⊢
    rw [lessS]
    split
    · next e =>
      have : a = b := by omega
      subst this
      exact ih hP (by omega)
    · next e =>
      have hne : a ≠ b := fun e' => e (by rw [e'])
      refine dt ?_
      rcases Nat.lt_or_ge a b with h1 | h1
      · omega
      · exfalso
        have h2 : b + 1 ≤ a := by omega
        have h3 := Nat.mul_le_mul_left (pr l) h2
        rw [Nat.mul_add, Nat.mul_one] at h3
        have h5 := Nat.mod_lt k hP
        omega
end Go.Proofs.Cr
