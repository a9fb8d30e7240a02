import Derived.Test.YtkoonehfphkmaaaR2
set_option linter.unusedSimpArgs false
set_option linter.unusedVariables false
namespace Go.Proofs.Cr
open Go.Vx
def pr : List Nat → Nat
  | [] => 1
  | n :: l => n * pr l
def szS (m : Md) (i : Int) : Int := match crOf m i with
  | none => 0
  | some c => if c.2.1.any (miss m) then 0 else (pr (ks m c) : Int)
theorem usb_cases (m : Md) (i : Int) : (usb m i = false ∧ szS m i = 0) ∨ ∃ (j : Nat) (c : Cs), i = j ∧ m.2[j]? = some c ∧ c.2.1.any (miss m) = false ∧ usb m i = true ∧ crOf m i = some c ∧ szS m i = (pr (ks m c) : Int) := by
  cases h : crOf m i with
  | none => exact .inl ⟨by rw [usb, h], by rw [szS, h]⟩
  | some c =>
    have h0 : 0 ≤ i := by
      rcases Int.lt_or_le i 0 with h1 | h1
      · rw [crOf_neg (.inl h1)] at h; cases h
      · exact h1
    obtain ⟨j, rfl⟩ : ∃ j : Nat, i = j := ⟨i.toNat, by omega⟩
    rw [crOf_at] at h
    cases hu : c.2.1.any (miss m) with
    | true => exact .inl ⟨by rw [usb, crOf_at, h]; simp only [hu]; rfl, by rw [szS, crOf_at, h]; simp only [hu, if_true]⟩
    | false => exact .inr ⟨j, c, rfl, h, hu, by rw [usb, crOf_at, h]; simp only [hu]; rfl, rfl, by rw [szS, crOf_at, h]; simp only [hu, Bool.false_eq_true, if_false]⟩
structure Sm (m : Md) (i : Int) : Prop where
  ok : okM m
  bins : ∀ p ∈ m.1, p.2.length ≤ 40
  pts : ∀ c, crOf m i = some c → c.2.1.length ≤ 4
theorem nb_le {m : Md} (hb : ∀ p ∈ m.1, p.2.length ≤ 40) (p : Int) : nb m p ≤ 40 := by
  rw [nb]
  cases h : m.1[p.toNat]? with
  | none => simp
  | some x => exact hb x (List.mem_of_getElem? h)
theorem ks_at {m : Md} {c : Cs} {j : Nat} {p : Int} (h : c.2.1[j]? = some p) : (ks m c)[j]? = some (nb m p) := by simp [ks, h]
theorem kI_at {m : Md} {c : Cs} {j : Nat} {p : Int} (h : c.2.1[j]? = some p) : (kI m c.2.1)[j]? = some (nb m p : Int) := by simp [kI, h]
theorem pow_le4 {j : Nat} (h : j ≤ 4) : 40 ^ j ≤ 2560000 := by
  match j, h with
  | 0, _ => decide
  | 1, _ => decide
  | 2, _ => decide
  | 3, _ => decide
  | 4, _ => decide
theorem t13 (m : Md) (i : Int) (h : Sm m i) : CallP Try.prog 13 [mdV m, .d (.int .i64 i)] (.d (.int .i64 (szS m i))) := by
  have hm := hm
  have ok := h.ok
  refine go13 ac13 rfl ?_
  simp only [vx, vz, Nat.reduceAdd, Nat.reduceSub, Nat.reduceMul, Nat.reduceLeDiff, Nat.reduceLT, Nat.reduceEqDiff, Nat.reduceBEq, Int.reduceToNat, Int.reduceNeg, Int.reduceEq, Int.reduceNe, Int.reduceLE, Int.reduceLT, reduceCtorEq, ↓reduceIte, ac13]
  refine call_p rfl (t28 m i ok) ?_
  simp only [vx, vz, Nat.reduceAdd, Nat.reduceSub, Nat.reduceMul, Nat.reduceLeDiff, Nat.reduceLT, Nat.reduceEqDiff, Nat.reduceBEq, Int.reduceToNat, Int.reduceNeg, Int.reduceEq, Int.reduceNe, Int.reduceLE, Int.reduceLT, reduceCtorEq, ↓reduceIte]
  rcases usb_cases m i with ⟨h1, h2⟩ | ⟨i, c, rfl, hc, hu, h1, h2, h3⟩
  · simp only [vx, vz, Nat.reduceAdd, Nat.reduceSub, Nat.reduceMul, Nat.reduceLeDiff, Nat.reduceLT, Nat.reduceEqDiff, Nat.reduceBEq, Int.reduceToNat, Int.reduceNeg, Int.reduceEq, Int.reduceNe, Int.reduceLE, Int.reduceLT, reduceCtorEq, ↓reduceIte, h1, h2]
  · have h4 := h.pts c h2
    have hkl : (kI m c.2.1).length = c.2.1.length := by simp [kI]
    rw [h3]
    simp only [vx, vz, Nat.reduceAdd, Nat.reduceSub, Nat.reduceMul, Nat.reduceLeDiff, Nat.reduceLT, Nat.reduceEqDiff, Nat.reduceBEq, Int.reduceToNat, Int.reduceNeg, Int.reduceEq, Int.reduceNe, Int.reduceLE, Int.reduceLT, reduceCtorEq, ↓reduceIte, h1]
    refine call_p rfl (t26 m i c hc hu ok (by omega)) ?_
    simp only [vx, vz, Nat.reduceAdd, Nat.reduceSub, Nat.reduceMul, Nat.reduceLeDiff, Nat.reduceLT, Nat.reduceEqDiff, Nat.reduceBEq, Int.reduceToNat, Int.reduceNeg, Int.reduceEq, Int.reduceNe, Int.reduceLE, Int.reduceLT, reduceCtorEq, ↓reduceIte]
    simp only [vx, vz, Nat.reduceAdd, Nat.reduceSub, Nat.reduceMul, Nat.reduceLeDiff, Nat.reduceLT, Nat.reduceEqDiff, Nat.reduceBEq, Int.reduceToNat, Int.reduceNeg, Int.reduceEq, Int.reduceNe, Int.reduceLE, Int.reduceLT, reduceCtorEq, ↓reduceIte, hkl]
    refine loop_st (fun p : Nat × Nat => ⟨mkF 25 [(2, .optr 2 0 1 0 0), (5, .d (.int .i64 p.2)), (14, isV (kI m c.2.1)), (15, .d (.int .i64 c.2.1.length)), (16, .d (.int .i64 p.1))], [.live 2 [[.d (.sl 6 (m.1.map ptD)), .d (.sl 3 (m.2.map crD))]]]⟩) (fun p => p.1 ≤ c.2.1.length ∧ p.2 ≤ 40 ^ p.1 ∧ p.2 * pr ((ks m c).drop p.1) = pr (ks m c)) (fun p => c.2.1.length - p.1) (0, 1) (weak_any (by simp only [vx, vz, Nat.reduceAdd, Nat.reduceSub, Nat.reduceMul, Nat.reduceLeDiff, Nat.reduceLT, Nat.reduceEqDiff, Nat.reduceBEq, Int.reduceToNat, Int.reduceNeg, Int.reduceEq, Int.reduceNe, Int.reduceLE, Int.reduceLT, reduceCtorEq, ↓reduceIte]; try trivial)) ⟨by simp, by simp, by simp⟩ (fun p hp => ?_)
    obtain ⟨j, n⟩ := p
    obtain ⟨h5, h6, h7⟩ := hp
    simp only at h5 h6 h7
    simp only [vx, vz, Nat.reduceAdd, Nat.reduceSub, Nat.reduceMul, Nat.reduceLeDiff, Nat.reduceLT, Nat.reduceEqDiff, Nat.reduceBEq, Int.reduceToNat, Int.reduceNeg, Int.reduceEq, Int.reduceNe, Int.reduceLE, Int.reduceLT, reduceCtorEq, ↓reduceIte]
    refine cond_split (fun hc2 => ?_) (fun hc2 => ?_)
    · simp only [decide_eq_true_eq] at hc2
      obtain ⟨p, hp⟩ := get_ex (l := c.2.1) (i := j) (by omega)
      rw [drop_at (ks_at hp), pr, ← Nat.mul_assoc] at h7
      have h8 := nb_le h.bins p
      have h9 := pow_le4 (j := j) (by omega)
      have h10 : n * nb m p ≤ 40 ^ j * 40 := Nat.mul_le_mul h6 h8
      simp only [vx, vz, Nat.reduceAdd, Nat.reduceSub, Nat.reduceMul, Nat.reduceLeDiff, Nat.reduceLT, Nat.reduceEqDiff, Nat.reduceBEq, Int.reduceToNat, Int.reduceNeg, Int.reduceEq, Int.reduceNe, Int.reduceLE, Int.reduceLT, reduceCtorEq, ↓reduceIte, hkl]
      refine ⟨by omega, by omega, getM_at (kI_at (m := m) hp) ?_⟩
      simp only [vx, vz, Nat.reduceAdd, Nat.reduceSub, Nat.reduceMul, Nat.reduceLeDiff, Nat.reduceLT, Nat.reduceEqDiff, Nat.reduceBEq, Int.reduceToNat, Int.reduceNeg, Int.reduceEq, Int.reduceNe, Int.reduceLE, Int.reduceLT, reduceCtorEq, ↓reduceIte]
      simp only [vx, vz, Nat.reduceAdd, Nat.reduceSub, Nat.reduceMul, Nat.reduceLeDiff, Nat.reduceLT, Nat.reduceEqDiff, Nat.reduceBEq, Int.reduceToNat, Int.reduceNeg, Int.reduceEq, Int.reduceNe, Int.reduceLE, Int.reduceLT, reduceCtorEq, ↓reduceIte, iD]
      refine ls_n (j + 1, n * nb m p) (by simp only; omega) (weak_any ?_) ⟨by simp only; omega, by simp only; rw [Nat.pow_succ]; exact h10, h7⟩
      simp only [vx, vz, Nat.reduceAdd, Nat.reduceSub, Nat.reduceMul, Nat.reduceLeDiff, Nat.reduceLT, Nat.reduceEqDiff, Nat.reduceBEq, Int.reduceToNat, Int.reduceNeg, Int.reduceEq, Int.reduceNe, Int.reduceLE, Int.reduceLT, reduceCtorEq, ↓reduceIte]
      rw [wr_i64 (by rw [← Int.natCast_mul]; omega) (by rw [← Int.natCast_mul]; omega), wr_i64 (by omega) (by omega), ← Int.natCast_mul]
      trivial
    · simp only [decide_eq_false_iff_not] at hc2
      rw [drop_end (by simp [ks]; omega), pr, Nat.mul_one] at h7
      simp only [vx, vz, Nat.reduceAdd, Nat.reduceSub, Nat.reduceMul, Nat.reduceLeDiff, Nat.reduceLT, Nat.reduceEqDiff, Nat.reduceBEq, Int.reduceToNat, Int.reduceNeg, Int.reduceEq, Int.reduceNe, Int.reduceLE, Int.reduceLT, reduceCtorEq, ↓reduceIte, h7]
theorem t14 (m : Md) (i : Int) (h : Sm m i) : CallP Try.prog 14 [mdV m, .d (.int .i64 i)] (.d (.int .i64 (szS m i))) := by
  have hm := hm
  have ok := h.ok
  refine go14 ac14 rfl ?_
  simp only [vx, vz, Nat.reduceAdd, Nat.reduceSub, Nat.reduceMul, Nat.reduceLeDiff, Nat.reduceLT, Nat.reduceEqDiff, Nat.reduceBEq, Int.reduceToNat, Int.reduceNeg, Int.reduceEq, Int.reduceNe, Int.reduceLE, Int.reduceLT, reduceCtorEq, ↓reduceIte, ac14]
  refine call_p rfl (t29 m i ok) ?_
  simp only [vx, vz, Nat.reduceAdd, Nat.reduceSub, Nat.reduceMul, Nat.reduceLeDiff, Nat.reduceLT, Nat.reduceEqDiff, Nat.reduceBEq, Int.reduceToNat, Int.reduceNeg, Int.reduceEq, Int.reduceNe, Int.reduceLE, Int.reduceLT, reduceCtorEq, ↓reduceIte]
  rcases usb_cases m i with ⟨h1, h2⟩ | ⟨i, c, rfl, hc, hu, h1, h2, h3⟩
  · simp only [vx, vz, Nat.reduceAdd, Nat.reduceSub, Nat.reduceMul, Nat.reduceLeDiff, Nat.reduceLT, Nat.reduceEqDiff, Nat.reduceBEq, Int.reduceToNat, Int.reduceNeg, Int.reduceEq, Int.reduceNe, Int.reduceLE, Int.reduceLT, reduceCtorEq, ↓reduceIte, h1, h2]
  · have h4 := h.pts c h2
    have hil := (List.getElem?_eq_some_iff.1 hc).1
    rw [h3]
    simp only [vx, vz, Nat.reduceAdd, Nat.reduceSub, Nat.reduceMul, Nat.reduceLeDiff, Nat.reduceLT, Nat.reduceEqDiff, Nat.reduceBEq, Int.reduceToNat, Int.reduceNeg, Int.reduceEq, Int.reduceNe, Int.reduceLE, Int.reduceLT, reduceCtorEq, ↓reduceIte, h1]
    refine loop_st (fun p : Nat × Nat => ⟨mkF 29 [(1, .d (.int .i64 i)), (2, .optr 2 0 1 0 0), (5, .d (.int .i64 p.2)), (6, .d (.int .i64 p.1))], [.live 2 [[.d (.sl 6 (m.1.map ptD)), .d (.sl 3 (m.2.map crD))]]]⟩) (fun p => p.1 ≤ c.2.1.length ∧ p.2 ≤ 40 ^ p.1 ∧ p.2 * pr ((ks m c).drop p.1) = pr (ks m c)) (fun p => c.2.1.length - p.1) (0, 1) (weak_any (by simp only [vx, vz, Nat.reduceAdd, Nat.reduceSub, Nat.reduceMul, Nat.reduceLeDiff, Nat.reduceLT, Nat.reduceEqDiff, Nat.reduceBEq, Int.reduceToNat, Int.reduceNeg, Int.reduceEq, Int.reduceNe, Int.reduceLE, Int.reduceLT, reduceCtorEq, ↓reduceIte]; try trivial)) ⟨by simp, by simp, by simp⟩ (fun p hp => ?_)
    obtain ⟨j, n⟩ := p
    obtain ⟨h5, h6, h7⟩ := hp
    simp only at h5 h6 h7
    simp only [vx, vz, Nat.reduceAdd, Nat.reduceSub, Nat.reduceMul, Nat.reduceLeDiff, Nat.reduceLT, Nat.reduceEqDiff, Nat.reduceBEq, Int.reduceToNat, Int.reduceNeg, Int.reduceEq, Int.reduceNe, Int.reduceLE, Int.reduceLT, reduceCtorEq, ↓reduceIte]
    refine ⟨by omega, by omega, getM_at hc ?_⟩
    simp only [vx, vz, Nat.reduceAdd, Nat.reduceSub, Nat.reduceMul, Nat.reduceLeDiff, Nat.reduceLT, Nat.reduceEqDiff, Nat.reduceBEq, Int.reduceToNat, Int.reduceNeg, Int.reduceEq, Int.reduceNe, Int.reduceLE, Int.reduceLT, reduceCtorEq, ↓reduceIte]
    simp only [vx, vz, Nat.reduceAdd, Nat.reduceSub, Nat.reduceMul, Nat.reduceLeDiff, Nat.reduceLT, Nat.reduceEqDiff, Nat.reduceBEq, Int.reduceToNat, Int.reduceNeg, Int.reduceEq, Int.reduceNe, Int.reduceLE, Int.reduceLT, reduceCtorEq, ↓reduceIte, crD]
    refine cond_split (fun hc2 => ?_) (fun hc2 => ?_)
    · simp only [decide_eq_true_eq] at hc2
      obtain ⟨p, hp⟩ := get_ex (l := c.2.1) (i := j) (by omega)
      rw [drop_at (ks_at hp), pr, ← Nat.mul_assoc] at h7
      have h8 := nb_le h.bins p
      have h9 := pow_le4 (j := j) (by omega)
      have h10 : n * nb m p ≤ 40 ^ j * 40 := Nat.mul_le_mul h6 h8
      simp only [vx, vz, Nat.reduceAdd, Nat.reduceSub, Nat.reduceMul, Nat.reduceLeDiff, Nat.reduceLT, Nat.reduceEqDiff, Nat.reduceBEq, Int.reduceToNat, Int.reduceNeg, Int.reduceEq, Int.reduceNe, Int.reduceLE, Int.reduceLT, reduceCtorEq, ↓reduceIte]
      refine call_p rfl (t27 m i j c hc p hp hu ok) ?_
      simp only [vx, vz, Nat.reduceAdd, Nat.reduceSub, Nat.reduceMul, Nat.reduceLeDiff, Nat.reduceLT, Nat.reduceEqDiff, Nat.reduceBEq, Int.reduceToNat, Int.reduceNeg, Int.reduceEq, Int.reduceNe, Int.reduceLE, Int.reduceLT, reduceCtorEq, ↓reduceIte]
      refine ls_n (j + 1, n * nb m p) (by simp only; omega) (weak_any ?_) ⟨by simp only; omega, by simp only; rw [Nat.pow_succ]; exact h10, h7⟩
      simp only [vx, vz, Nat.reduceAdd, Nat.reduceSub, Nat.reduceMul, Nat.reduceLeDiff, Nat.reduceLT, Nat.reduceEqDiff, Nat.reduceBEq, Int.reduceToNat, Int.reduceNeg, Int.reduceEq, Int.reduceNe, Int.reduceLE, Int.reduceLT, reduceCtorEq, ↓reduceIte]
      rw [wr_i64 (by rw [← Int.natCast_mul]; omega) (by rw [← Int.natCast_mul]; omega), wr_i64 (by omega) (by omega), ← Int.natCast_mul]
      trivial
    · simp only [decide_eq_false_iff_not] at hc2
      rw [drop_end (by simp [ks]; omega), pr, Nat.mul_one] at h7
      simp only [vx, vz, Nat.reduceAdd, Nat.reduceSub, Nat.reduceMul, Nat.reduceLeDiff, Nat.reduceLT, Nat.reduceEqDiff, Nat.reduceBEq, Int.reduceToNat, Int.reduceNeg, Int.reduceEq, Int.reduceNe, Int.reduceLE, Int.reduceLT, reduceCtorEq, ↓reduceIte, h7]
end Go.Proofs.Cr
