import Derived.Test.YtfoncpamepepmaaE1
set_option linter.unusedSimpArgs false
set_option linter.unusedVariables false
namespace Go.Proofs.Ar
open Go.Vx
theorem out_ok {l : List (List Sl)} (hl : okL l) {k : Nat} : ∀ x ∈ outT l k, okS x := by
  intro x hx
  rw [outT, List.mem_flatMap] at hx
  obtain ⟨j, _, hx⟩ := hx
  rw [roundS, List.mem_filterMap] at hx
  obtain ⟨s, hs, hx⟩ := hx
  exact (hl.2 s hs).2 x (List.mem_of_getElem? hx)
theorem fr_ok {l : List (List Sl)} (hl : okL l) {n : Nat} {ls : List (List Sl × Nat)} (h : okI l ls) : ∀ x ∈ frS n ls, okS x := by
  induction n generalizing ls with
  | zero => simp [frS]
  | succ n ih =>
    intro x hx
    rw [frS] at hx
    split at hx
    · split at hx
      · next p hp =>
        split at hx
        · next y hy =>
          rcases List.mem_cons.1 hx with rfl | hx
          · exact (hl.2 p.1 (List.mem_of_getElem? (okI_mem h hp))).2 _ (List.mem_of_getElem? hy)
          · exact ih (okI_set h hp) x hx
        · cases hx
      · cases hx
    · split at hx
      · rcases List.mem_cons.1 hx with rfl | hx
        · exact ⟨Nat.zero_le _, Nat.zero_le _⟩
        · exact ih (okI_inc h) x hx
      · cases hx
theorem okI_0 {l : List (List Sl)} : okI l (l.map ln0) := by simp [okI, ln0, List.map_map, Function.comp_def]
theorem fr_len {n : Nat} {ls : List (List Sl × Nat)} : (frS n ls).length ≤ n := by
  induction n generalizing ls with
  | zero => simp [frS]
  | succ n ih =>
    rw [frS]
    split
    · split
      · split
        · simp only [List.length_cons]; exact Nat.succ_le_succ ih
        · simp
      · simp
    · split
      · simp only [List.length_cons]; exact Nat.succ_le_succ ih
      · simp
def tot : List (List Sl) → Nat
  | [] => 0
  | s :: l => s.length + tot l
theorem tot_rem {l : List (List Sl)} : rem (l.map ln0) = tot l := by
  induction l with
  | nil => rfl
  | cons s l ih => simp only [List.map_cons, rem, tot, ih, ln0]; omega
theorem tot_snoc {l : List (List Sl)} {i : Nat} {s : List Sl} (h : l[i]? = some s) : tot (l.take (i + 1)) = tot (l.take i) + s.length := by
  have : ∀ (l : List (List Sl)), tot (l ++ [s]) = tot l + s.length := by
    intro l
    induction l with
    | nil => simp [tot]
    | cons x l ih => rw [List.cons_append, tot, ih, tot]; omega
  rw [take_at h, this]
def sumK (k : Nat) : List (List Sl) → Nat
  | [] => 0
  | s :: l => min k s.length + sumK k l
theorem sumK_succ {l : List (List Sl)} {k : Nat} : sumK (k + 1) l = sumK k l + (roundS l k).length := by
  induction l with
  | nil => simp [sumK, roundS]
  | cons s l ih =>
    rw [sumK, sumK, ih]
    have : roundS (s :: l) k = (match s[k]? with | some x => [x] | none => []) ++ roundS l k := by
      rw [roundS, roundS, List.filterMap_cons]
      cases s[k]? <;> rfl
    rw [this, List.length_append]
    rcases Nat.lt_or_ge k s.length with h | h
    · obtain ⟨x, hx⟩ := get_ex h
      rw [hx]
      simp only [List.length_cons, List.length_nil]
      omega
    · rw [List.getElem?_eq_none h]
      simp only [List.length_nil]
      omega
theorem out_sum {l : List (List Sl)} {k : Nat} : (outT l k).length = sumK k l := by
  induction k with
  | zero =>
    have : ∀ l : List (List Sl), sumK 0 l = 0 := by
      intro l
      induction l with
      | nil => rfl
      | cons s l ih => rw [sumK, ih]; simp
    rw [this]; simp [outT]
  | succ k ih => rw [outT_succ, List.length_append, ih, sumK_succ]
theorem sumK_tot {l : List (List Sl)} {k : Nat} (h : ∀ s ∈ l, s.length ≤ k) : sumK k l = tot l := by
  induction l with
  | nil => rfl
  | cons s l ih =>
    have := h s (by simp)
    rw [sumK, tot, ih (fun x hx => h x (by simp [hx])), Nat.min_eq_right this]
theorem out_tot {l : List (List Sl)} : (outT l (longS l)).length = tot l := by
  rw [out_sum]
  exact sumK_tot fun s hs => (long_mem (n := 0) hs).1
theorem tot_le {l : List (List Sl)} (hl : okL l) : ∀ i, i ≤ l.length → tot (l.take i) ≤ 20 * i := by
  intro i
  induction i with
  | zero => simp [tot]
  | succ i ih =>
    intro hi
    obtain ⟨s, hs⟩ := get_ex (l := l) (i := i) (by omega)
    have := (hl.2 s (List.mem_of_getElem? hs)).1
    have := ih (by omega)
    rw [tot_snoc hs]; omega
theorem l3 (l : List (List Sl)) (ok : okA l) : CallP Try.prog 3 [llV l] (.d (.bool true)) := by
  have hm := hm
  refine go3 ac3 rfl ?_
  simp only [vx, vz, Nat.reduceAdd, Nat.reduceSub, Nat.reduceMul, Nat.reduceLeDiff, Nat.reduceLT, Nat.reduceEqDiff, Nat.reduceBEq, Int.reduceToNat, Int.reduceNeg, Int.reduceEq, Int.reduceNe, Int.reduceLE, Int.reduceLT, reduceCtorEq, ↓reduceIte, ac3]
  refine call_p rfl (t9 l ok) ?_
  simp only [vx, vz, Nat.reduceAdd, Nat.reduceSub, Nat.reduceMul, Nat.reduceLeDiff, Nat.reduceLT, Nat.reduceEqDiff, Nat.reduceBEq, Int.reduceToNat, Int.reduceNeg, Int.reduceEq, Int.reduceNe, Int.reduceLE, Int.reduceLT, reduceCtorEq, ↓reduceIte]
  cases hf : fewS l with
  | false =>
    simp only [vx, vz, Nat.reduceAdd, Nat.reduceSub, Nat.reduceMul, Nat.reduceLeDiff, Nat.reduceLT, Nat.reduceEqDiff, Nat.reduceBEq, Int.reduceToNat, Int.reduceNeg, Int.reduceEq, Int.reduceNe, Int.reduceLE, Int.reduceLT, reduceCtorEq, ↓reduceIte]
    refine call_p rfl (t10) ?_
    simp only [vx, vz, Nat.reduceAdd, Nat.reduceSub, Nat.reduceMul, Nat.reduceLeDiff, Nat.reduceLT, Nat.reduceEqDiff, Nat.reduceBEq, Int.reduceToNat, Int.reduceNeg, Int.reduceEq, Int.reduceNe, Int.reduceLE, Int.reduceLT, reduceCtorEq, ↓reduceIte]
  | true =>
    obtain ⟨hl, hl8⟩ := few_ok hf
    simp only [vx, vz, Nat.reduceAdd, Nat.reduceSub, Nat.reduceMul, Nat.reduceLeDiff, Nat.reduceLT, Nat.reduceEqDiff, Nat.reduceBEq, Int.reduceToNat, Int.reduceNeg, Int.reduceEq, Int.reduceNe, Int.reduceLE, Int.reduceLT, reduceCtorEq, ↓reduceIte]
    refine loop_st (fun i : Nat => ⟨mkF 38 [(0, llV l), (3, .d (.int .i64 (tot (l.take i)))), (4, .d (.int .i64 i))], []⟩) (fun i => i ≤ l.length) (fun i => l.length - i) 0 (weak_any (by simp only [vx, vz, Nat.reduceAdd, Nat.reduceSub, Nat.reduceMul, Nat.reduceLeDiff, Nat.reduceLT, Nat.reduceEqDiff, Nat.reduceBEq, Int.reduceToNat, Int.reduceNeg, Int.reduceEq, Int.reduceNe, Int.reduceLE, Int.reduceLT, reduceCtorEq, ↓reduceIte, List.take_zero, tot]; try trivial)) (by omega) (fun i hi => ?_)
    have htl := tot_le hl i hi
    simp only [vx, vz, Nat.reduceAdd, Nat.reduceSub, Nat.reduceMul, Nat.reduceLeDiff, Nat.reduceLT, Nat.reduceEqDiff, Nat.reduceBEq, Int.reduceToNat, Int.reduceNeg, Int.reduceEq, Int.reduceNe, Int.reduceLE, Int.reduceLT, reduceCtorEq, ↓reduceIte]
    refine cond_split (fun hc => ?_) (fun hc => ?_)
    · simp only [decide_eq_true_eq] at hc
      obtain ⟨s, hs⟩ := get_ex (l := l) (i := i) (by omega)
      have hsl := (hl.2 s (List.mem_of_getElem? hs)).1
      have es := tot_snoc hs
      simp only [vx, vz, Nat.reduceAdd, Nat.reduceSub, Nat.reduceMul, Nat.reduceLeDiff, Nat.reduceLT, Nat.reduceEqDiff, Nat.reduceBEq, Int.reduceToNat, Int.reduceNeg, Int.reduceEq, Int.reduceNe, Int.reduceLE, Int.reduceLT, reduceCtorEq, ↓reduceIte]
      refine ⟨by omega, by omega, getM_at hs ?_⟩
      simp only [vx, vz, Nat.reduceAdd, Nat.reduceSub, Nat.reduceMul, Nat.reduceLeDiff, Nat.reduceLT, Nat.reduceEqDiff, Nat.reduceBEq, Int.reduceToNat, Int.reduceNeg, Int.reduceEq, Int.reduceNe, Int.reduceLE, Int.reduceLT, reduceCtorEq, ↓reduceIte]
      simp only [vx, vz, Nat.reduceAdd, Nat.reduceSub, Nat.reduceMul, Nat.reduceLeDiff, Nat.reduceLT, Nat.reduceEqDiff, Nat.reduceBEq, Int.reduceToNat, Int.reduceNeg, Int.reduceEq, Int.reduceNe, Int.reduceLE, Int.reduceLT, reduceCtorEq, ↓reduceIte, stD]
      refine ls_n (i + 1) (by omega) (weak_any ?_) (by omega)
      simp only [vx, vz, Nat.reduceAdd, Nat.reduceSub, Nat.reduceMul, Nat.reduceLeDiff, Nat.reduceLT, Nat.reduceEqDiff, Nat.reduceBEq, Int.reduceToNat, Int.reduceNeg, Int.reduceEq, Int.reduceNe, Int.reduceLE, Int.reduceLT, reduceCtorEq, ↓reduceIte]
      rw [wr_i64 (by omega) (by omega), wr_i64 (by omega) (by omega), es]
      exact ⟨rfl, rfl⟩
    · simp only [decide_eq_false_iff_not] at hc
      rw [take_end (by omega)]
      rw [take_end (by omega)] at htl
      have hol := out_tot (l := l)
      simp only [vx, vz, Nat.reduceAdd, Nat.reduceSub, Nat.reduceMul, Nat.reduceLeDiff, Nat.reduceLT, Nat.reduceEqDiff, Nat.reduceBEq, Int.reduceToNat, Int.reduceNeg, Int.reduceEq, Int.reduceNe, Int.reduceLE, Int.reduceLT, reduceCtorEq, ↓reduceIte]
      refine call_p rfl (t11 l hl) ?_
      simp only [vx, vz, Nat.reduceAdd, Nat.reduceSub, Nat.reduceMul, Nat.reduceLeDiff, Nat.reduceLT, Nat.reduceEqDiff, Nat.reduceBEq, Int.reduceToNat, Int.reduceNeg, Int.reduceEq, Int.reduceNe, Int.reduceLE, Int.reduceLT, reduceCtorEq, ↓reduceIte]
      refine call_p rfl (t13 l hl) ?_
      simp only [vx, vz, Nat.reduceAdd, Nat.reduceSub, Nat.reduceMul, Nat.reduceLeDiff, Nat.reduceLT, Nat.reduceEqDiff, Nat.reduceBEq, Int.reduceToNat, Int.reduceNeg, Int.reduceEq, Int.reduceNe, Int.reduceLE, Int.reduceLT, reduceCtorEq, ↓reduceIte]
      refine call_p rfl (t12 _ (by omega) (out_ok hl)) ?_
      simp only [vx, vz, Nat.reduceAdd, Nat.reduceSub, Nat.reduceMul, Nat.reduceLeDiff, Nat.reduceLT, Nat.reduceEqDiff, Nat.reduceBEq, Int.reduceToNat, Int.reduceNeg, Int.reduceEq, Int.reduceNe, Int.reduceLE, Int.reduceLT, reduceCtorEq, ↓reduceIte]
      rw [hol]
      simp only [vx, vz, Nat.reduceAdd, Nat.reduceSub, Nat.reduceMul, Nat.reduceLeDiff, Nat.reduceLT, Nat.reduceEqDiff, Nat.reduceBEq, Int.reduceToNat, Int.reduceNeg, Int.reduceEq, Int.reduceNe, Int.reduceLE, Int.reduceLT, reduceCtorEq, ↓reduceIte]
      refine call_p rfl (t10) ?_
      simp only [vx, vz, Nat.reduceAdd, Nat.reduceSub, Nat.reduceMul, Nat.reduceLeDiff, Nat.reduceLT, Nat.reduceEqDiff, Nat.reduceBEq, Int.reduceToNat, Int.reduceNeg, Int.reduceEq, Int.reduceNe, Int.reduceLE, Int.reduceLT, reduceCtorEq, ↓reduceIte]
theorem l4 (l : List (List Sl)) (ok : okA l) : CallP Try.prog 4 [llV l] (.d (.bool true)) := by
  refine go4 ac4 rfl ?_
  simp only [vx, vz, Nat.reduceAdd, Nat.reduceSub, Nat.reduceMul, Nat.reduceLeDiff, Nat.reduceLT, Nat.reduceEqDiff, Nat.reduceBEq, Int.reduceToNat, Int.reduceNeg, Int.reduceEq, Int.reduceNe, Int.reduceLE, Int.reduceLT, reduceCtorEq, ↓reduceIte, ac4]
  refine call_p rfl (t9 l ok) ?_
  simp only [vx, vz, Nat.reduceAdd, Nat.reduceSub, Nat.reduceMul, Nat.reduceLeDiff, Nat.reduceLT, Nat.reduceEqDiff, Nat.reduceBEq, Int.reduceToNat, Int.reduceNeg, Int.reduceEq, Int.reduceNe, Int.reduceLE, Int.reduceLT, reduceCtorEq, ↓reduceIte]
  cases hf : fewS l with
  | false =>
    simp only [vx, vz, Nat.reduceAdd, Nat.reduceSub, Nat.reduceMul, Nat.reduceLeDiff, Nat.reduceLT, Nat.reduceEqDiff, Nat.reduceBEq, Int.reduceToNat, Int.reduceNeg, Int.reduceEq, Int.reduceNe, Int.reduceLE, Int.reduceLT, reduceCtorEq, ↓reduceIte]
    refine call_p rfl (t10) ?_
    simp only [vx, vz, Nat.reduceAdd, Nat.reduceSub, Nat.reduceMul, Nat.reduceLeDiff, Nat.reduceLT, Nat.reduceEqDiff, Nat.reduceBEq, Int.reduceToNat, Int.reduceNeg, Int.reduceEq, Int.reduceNe, Int.reduceLE, Int.reduceLT, reduceCtorEq, ↓reduceIte]
  | true =>
    obtain ⟨hl, hl8⟩ := few_ok hf
    have hr := rem_le hl
    have hfl : (firS l).length ≤ 400 := Nat.le_trans fr_len hr
    simp only [vx, vz, Nat.reduceAdd, Nat.reduceSub, Nat.reduceMul, Nat.reduceLeDiff, Nat.reduceLT, Nat.reduceEqDiff, Nat.reduceBEq, Int.reduceToNat, Int.reduceNeg, Int.reduceEq, Int.reduceNe, Int.reduceLE, Int.reduceLT, reduceCtorEq, ↓reduceIte]
    refine call_p rfl (t14 l hl) ?_
    simp only [vx, vz, Nat.reduceAdd, Nat.reduceSub, Nat.reduceMul, Nat.reduceLeDiff, Nat.reduceLT, Nat.reduceEqDiff, Nat.reduceBEq, Int.reduceToNat, Int.reduceNeg, Int.reduceEq, Int.reduceNe, Int.reduceLE, Int.reduceLT, reduceCtorEq, ↓reduceIte]
    refine call_p rfl (t15 l hl) ?_
    simp only [vx, vz, Nat.reduceAdd, Nat.reduceSub, Nat.reduceMul, Nat.reduceLeDiff, Nat.reduceLT, Nat.reduceEqDiff, Nat.reduceBEq, Int.reduceToNat, Int.reduceNeg, Int.reduceEq, Int.reduceNe, Int.reduceLE, Int.reduceLT, reduceCtorEq, ↓reduceIte]
    refine call_p rfl (t12 (firS l) (by omega) (fr_ok hl okI_0)) ?_
    simp only [vx, vz, Nat.reduceAdd, Nat.reduceSub, Nat.reduceMul, Nat.reduceLeDiff, Nat.reduceLT, Nat.reduceEqDiff, Nat.reduceBEq, Int.reduceToNat, Int.reduceNeg, Int.reduceEq, Int.reduceNe, Int.reduceLE, Int.reduceLT, reduceCtorEq, ↓reduceIte]
    refine call_p rfl (t10) ?_
    simp only [vx, vz, Nat.reduceAdd, Nat.reduceSub, Nat.reduceMul, Nat.reduceLeDiff, Nat.reduceLT, Nat.reduceEqDiff, Nat.reduceBEq, Int.reduceToNat, Int.reduceNeg, Int.reduceEq, Int.reduceNe, Int.reduceLE, Int.reduceLT, reduceCtorEq, ↓reduceIte]
end Go.Proofs.Ar
