import Derived.Test.YtfoncpamepepmaaS5
set_option linter.unusedSimpArgs false
set_option linter.unusedVariables false
namespace Go.Proofs.Ar
open Go.Vx
theorem round_nil {l : List (List Sl)} {k : Nat} : roundS l k = [] ↔ ∀ s ∈ l, s.length ≤ k := by
  rw [roundS, List.filterMap_eq_nil_iff]
  exact ⟨fun h s hs => List.getElem?_eq_none_iff.1 (h s hs), fun h s hs => List.getElem?_eq_none_iff.2 (h s hs)⟩
theorem long_of {l : List (List Sl)} {k n : Nat} (hn : n ≤ k) (h : ∀ s ∈ l, s.length ≤ k) : l.foldl (fun n s => max n s.length) n ≤ k := by
  induction l generalizing n with
  | nil => exact hn
  | cons x l ih =>
    rw [List.foldl_cons]
    have := h x (by simp)
    exact ih (by omega) (fun s hs => h s (by simp [hs]))
theorem round_long {l : List (List Sl)} {k : Nat} : (roundS l k = [] → longS l ≤ k) ∧ (roundS l k ≠ [] → k < longS l) := by
  refine ⟨fun h => long_of (Nat.zero_le _) (round_nil.1 h), fun h => ?_⟩
  rcases Nat.lt_or_ge k (longS l) with h1 | h1
  · exact h1
  · exact absurd (round_nil.2 fun s hs => by have := (long_mem (n := 0) hs).1; rw [longS] at h1; omega) h
def anyB (l : List Sl) : Bool := !l.isEmpty
theorem anyB_snoc {l : List Sl} {x : Sl} : anyB (l ++ [x]) = true := by cases l <;> rfl
theorem anyB_f {l : List Sl} (h : anyB l = false) : l = [] := by cases l <;> simp_all [anyB]
theorem anyB_t {l : List Sl} (h : anyB l = true) : l ≠ [] := by cases l <;> simp_all [anyB]
theorem t13 (l : List (List Sl)) (hl : okL l) : CallP Try.prog 13 [llV l] (stV (outT l (longS l))) := by
  have hm := hm
  have hl1 := hl.1
  have hlg := long_le hl
  refine go13 ac13 rfl ?_
  simp only [vx, vz, Nat.reduceAdd, Nat.reduceSub, Nat.reduceMul, Nat.reduceLeDiff, Nat.reduceLT, Nat.reduceEqDiff, Nat.reduceBEq, Int.reduceToNat, Int.reduceNeg, Int.reduceEq, Int.reduceNe, Int.reduceLE, Int.reduceLT, reduceCtorEq, ↓reduceIte, ac13]
  refine loop_st (fun s : Nat × Bool => ⟨mkF 34 [(0, llV l), (3, .osl 4 0 (outT l s.1).length 0 (outT l s.1).length), (4, .d (.int .i64 s.1)), (5, .d (.bool s.2))], [.live 4 (((outT l s.1).map slD).map (·.map .d))]⟩) (fun s => (s.2 = true → s.1 ≤ longS l) ∧ (s.2 = false → outT l s.1 = outT l (longS l))) (fun s => longS l + 2 - s.1) (0, true) (Weak.trans (weak_nils 3 4 rfl) (weak_any (by simp only [vx, vz, Nat.reduceAdd, Nat.reduceSub, Nat.reduceMul, Nat.reduceLeDiff, Nat.reduceLT, Nat.reduceEqDiff, Nat.reduceBEq, Int.reduceToNat, Int.reduceNeg, Int.reduceEq, Int.reduceNe, Int.reduceLE, Int.reduceLT, reduceCtorEq, ↓reduceIte]; try trivial))) ⟨fun _ => Nat.zero_le _, fun h => by cases h⟩ (fun s hs => ?_)
  obtain ⟨k, more⟩ := s
  obtain ⟨h1, h2⟩ := hs
  simp only at h1 h2
  have hok := outT_len hl k
  cases more with
  | false =>
    rw [h2 rfl]
    simp only [vx, vz, Nat.reduceAdd, Nat.reduceSub, Nat.reduceMul, Nat.reduceLeDiff, Nat.reduceLT, Nat.reduceEqDiff, Nat.reduceBEq, Int.reduceToNat, Int.reduceNeg, Int.reduceEq, Int.reduceNe, Int.reduceLE, Int.reduceLT, reduceCtorEq, ↓reduceIte]
    exact sn_all (es := (outT l (longS l)).map slD) rfl (by simp) szl
  | true =>
    have hk := h1 rfl
    simp only [vx, vz, Nat.reduceAdd, Nat.reduceSub, Nat.reduceMul, Nat.reduceLeDiff, Nat.reduceLT, Nat.reduceEqDiff, Nat.reduceBEq, Int.reduceToNat, Int.reduceNeg, Int.reduceEq, Int.reduceNe, Int.reduceLE, Int.reduceLT, reduceCtorEq, ↓reduceIte]
    refine loop_st (fun i : Nat => ⟨mkF 34 [(0, llV l), (3, .osl 4 0 (outT l k ++ roundS (l.take i) k).length 0 (outT l k ++ roundS (l.take i) k).length), (4, .d (.int .i64 k)), (5, .d (.bool (anyB (roundS (l.take i) k)))), (6, .d (.int .i64 i))], [.live 4 (((outT l k ++ roundS (l.take i) k).map slD).map (·.map .d))]⟩) (fun i => i ≤ l.length) (fun i => l.length - i) 0 (by
      have e : outT l k ++ roundS (l.take 0) k = outT l k := by simp [roundS]
      have e2 : anyB (roundS (l.take 0) k) = false := by simp [roundS, anyB]
      simp only [e, e2]
      exact weak_any (by simp only [vx, vz, Nat.reduceAdd, Nat.reduceSub, Nat.reduceMul, Nat.reduceLeDiff, Nat.reduceLT, Nat.reduceEqDiff, Nat.reduceBEq, Int.reduceToNat, Int.reduceNeg, Int.reduceEq, Int.reduceNe, Int.reduceLE, Int.reduceLT, reduceCtorEq, ↓reduceIte]; try trivial)) (by omega) (fun i hi => ?_)
    have hrl := round_len (l := l) (k := k) (i := i)
    simp only [vx, vz, Nat.reduceAdd, Nat.reduceSub, Nat.reduceMul, Nat.reduceLeDiff, Nat.reduceLT, Nat.reduceEqDiff, Nat.reduceBEq, Int.reduceToNat, Int.reduceNeg, Int.reduceEq, Int.reduceNe, Int.reduceLE, Int.reduceLT, reduceCtorEq, ↓reduceIte]
    refine cond_split (fun hc2 => ?_) (fun hc2 => ?_)
    · simp only [decide_eq_true_eq] at hc2
      obtain ⟨s, hs⟩ := get_ex (l := l) (i := i) (by omega)
      simp only [vx, vz, Nat.reduceAdd, Nat.reduceSub, Nat.reduceMul, Nat.reduceLeDiff, Nat.reduceLT, Nat.reduceEqDiff, Nat.reduceBEq, Int.reduceToNat, Int.reduceNeg, Int.reduceEq, Int.reduceNe, Int.reduceLE, Int.reduceLT, reduceCtorEq, ↓reduceIte]
      refine ⟨by omega, by omega, getM_at hs ?_⟩
      simp only [vx, vz, Nat.reduceAdd, Nat.reduceSub, Nat.reduceMul, Nat.reduceLeDiff, Nat.reduceLT, Nat.reduceEqDiff, Nat.reduceBEq, Int.reduceToNat, Int.reduceNeg, Int.reduceEq, Int.reduceNe, Int.reduceLE, Int.reduceLT, reduceCtorEq, ↓reduceIte]
      simp only [vx, vz, Nat.reduceAdd, Nat.reduceSub, Nat.reduceMul, Nat.reduceLeDiff, Nat.reduceLT, Nat.reduceEqDiff, Nat.reduceBEq, Int.reduceToNat, Int.reduceNeg, Int.reduceEq, Int.reduceNe, Int.reduceLE, Int.reduceLT, reduceCtorEq, ↓reduceIte, stD]
      refine cond_split (fun hc3 => ?_) (fun hc3 => ?_)
      · simp only [decide_eq_true_eq] at hc3
        obtain ⟨x, hx⟩ := get_ex (l := s) (i := k) (by omega)
        have er : roundS (l.take (i + 1)) k = roundS (l.take i) k ++ [x] := by rw [round_snoc hs, hx]
        simp only [vx, vz, Nat.reduceAdd, Nat.reduceSub, Nat.reduceMul, Nat.reduceLeDiff, Nat.reduceLT, Nat.reduceEqDiff, Nat.reduceBEq, Int.reduceToNat, Int.reduceNeg, Int.reduceEq, Int.reduceNe, Int.reduceLE, Int.reduceLT, reduceCtorEq, ↓reduceIte]
        refine ⟨by omega, by omega, getM_at hs ?_⟩
        simp only [vx, vz, Nat.reduceAdd, Nat.reduceSub, Nat.reduceMul, Nat.reduceLeDiff, Nat.reduceLT, Nat.reduceEqDiff, Nat.reduceBEq, Int.reduceToNat, Int.reduceNeg, Int.reduceEq, Int.reduceNe, Int.reduceLE, Int.reduceLT, reduceCtorEq, ↓reduceIte]
        simp only [vx, vz, Nat.reduceAdd, Nat.reduceSub, Nat.reduceMul, Nat.reduceLeDiff, Nat.reduceLT, Nat.reduceEqDiff, Nat.reduceBEq, Int.reduceToNat, Int.reduceNeg, Int.reduceEq, Int.reduceNe, Int.reduceLE, Int.reduceLT, reduceCtorEq, ↓reduceIte, stD]
        refine ⟨by omega, by omega, getM_at hx ?_⟩
        simp only [vx, vz, Nat.reduceAdd, Nat.reduceSub, Nat.reduceMul, Nat.reduceLeDiff, Nat.reduceLT, Nat.reduceEqDiff, Nat.reduceBEq, Int.reduceToNat, Int.reduceNeg, Int.reduceEq, Int.reduceNe, Int.reduceLE, Int.reduceLT, reduceCtorEq, ↓reduceIte]
        simp only [vx, vz, Nat.reduceAdd, Nat.reduceSub, Nat.reduceMul, Nat.reduceLeDiff, Nat.reduceLT, Nat.reduceEqDiff, Nat.reduceBEq, Int.reduceToNat, Int.reduceNeg, Int.reduceEq, Int.reduceNe, Int.reduceLE, Int.reduceLT, reduceCtorEq, ↓reduceIte, slD]
        refine ⟨by unfold maxBytes; omega, ?_⟩
        refine ls_n (i + 1) (by omega) (Weak.trans (weak_any ?_) (weak_frz2 1 (by omega) ⟨?_, trivial⟩ (kpL_refl ?_))) (by omega)
        · simp only [vx, vz, Nat.reduceAdd, Nat.reduceSub, Nat.reduceMul, Nat.reduceLeDiff, Nat.reduceLT, Nat.reduceEqDiff, Nat.reduceBEq, Int.reduceToNat, Int.reduceNeg, Int.reduceEq, Int.reduceNe, Int.reduceLE, Int.reduceLT, reduceCtorEq, ↓reduceIte]
          rw [wr_i64 (by omega) (by omega), er, anyB_snoc, List.length_append, Nat.add_assoc]
          exact ⟨rfl, rfl, rfl⟩
        · show RowK _ _ _ (.live 4 (((outT l k ++ roundS (l.take (i + 1)) k).map slD).map (·.map .d)))
          have e3 : (outT l k ++ roundS (l.take (i + 1)) k).map slD = (outT l k ++ roundS (l.take i) k).map slD ++ [slD x] := by
            rw [er, ← List.append_assoc, List.map_append]; rfl
          rw [e3]
          exact rowK_snoc (x := slD x) ⟨.same _ rfl, .same _ rfl, .same _ rfl, .same _ rfl, trivial⟩
        · rfl
      · simp only [decide_eq_false_iff_not] at hc3
        have er : roundS (l.take (i + 1)) k = roundS (l.take i) k := by rw [round_snoc hs, List.getElem?_eq_none (by omega)]; simp
        simp only [vx, vz, Nat.reduceAdd, Nat.reduceSub, Nat.reduceMul, Nat.reduceLeDiff, Nat.reduceLT, Nat.reduceEqDiff, Nat.reduceBEq, Int.reduceToNat, Int.reduceNeg, Int.reduceEq, Int.reduceNe, Int.reduceLE, Int.reduceLT, reduceCtorEq, ↓reduceIte]
        refine ls_n (i + 1) (by omega) ?_ (by omega)
        simp only [er]
        refine weak_any ?_
        simp only [vx, vz, Nat.reduceAdd, Nat.reduceSub, Nat.reduceMul, Nat.reduceLeDiff, Nat.reduceLT, Nat.reduceEqDiff, Nat.reduceBEq, Int.reduceToNat, Int.reduceNeg, Int.reduceEq, Int.reduceNe, Int.reduceLE, Int.reduceLT, reduceCtorEq, ↓reduceIte]
        rw [wr_i64 (by omega) (by omega)]
        trivial
    · simp only [decide_eq_false_iff_not] at hc2
      have e1 : outT l k ++ roundS (l.take i) k = outT l (k + 1) := by rw [take_end (by omega), outT_succ]
      rw [take_end (by omega)] at e1 ⊢
      simp only [vx, vz, Nat.reduceAdd, Nat.reduceSub, Nat.reduceMul, Nat.reduceLeDiff, Nat.reduceLT, Nat.reduceEqDiff, Nat.reduceBEq, Int.reduceToNat, Int.reduceNeg, Int.reduceEq, Int.reduceNe, Int.reduceLE, Int.reduceLT, reduceCtorEq, ↓reduceIte]
      refine ls_n (k + 1, anyB (roundS l k)) (show longS l + 2 - (k + 1) < longS l + 2 - k by omega) ?_ ⟨fun h => (round_long.2 (anyB_t h)), fun h => ?_⟩
      · rw [e1]
        refine weak_any ?_
        simp only [vx, vz, Nat.reduceAdd, Nat.reduceSub, Nat.reduceMul, Nat.reduceLeDiff, Nat.reduceLT, Nat.reduceEqDiff, Nat.reduceBEq, Int.reduceToNat, Int.reduceNeg, Int.reduceEq, Int.reduceNe, Int.reduceLE, Int.reduceLT, reduceCtorEq, ↓reduceIte]
        rw [wr_i64 (by omega) (by omega), ← e1, List.length_append]
        exact ⟨rfl, rfl⟩
      · have h3 := anyB_f h
        have h4 := round_long.1 h3
        have h5 : k = longS l := by omega
        simp only
        rw [outT_succ, h3, List.append_nil, h5]
end Go.Proofs.Ar
