import Derived.Test.YtfoncpamepepmaaL1
set_option linter.unusedSimpArgs false
set_option linter.unusedVariables false
namespace Go.Proofs.Ar
open Go.Vx
def trimN (l : List Sl) : Nat → Nat
  | 0 => 0
  | n + 1 => match l[n]? with
    | some x => if x.1 then trimN l n else n + 1
    | none => n + 1
def trimS (l : List Sl) : List Sl := l.take (trimN l l.length)
theorem trim_le {l : List Sl} : ∀ n, trimN l n ≤ n := by
  intro n
  induction n with
  | zero => exact Nat.le_refl _
  | succ n ih =>
    rw [trimN]
    split
    · split
      · omega
      · omega
    · omega
theorem t18 (l : List Sl) (hl : l.length ≤ 20) (ok : ∀ x ∈ l, okS x) : CallP Try.prog 18 [stV l] (stV (trimS l)) := by
  have hm := hm
  refine go18 ac18 rfl ?_
  simp only [vx, vz, Nat.reduceAdd, Nat.reduceSub, Nat.reduceMul, Nat.reduceLeDiff, Nat.reduceLT, Nat.reduceEqDiff, Nat.reduceBEq, Int.reduceToNat, Int.reduceNeg, Int.reduceEq, Int.reduceNe, Int.reduceLE, Int.reduceLT, reduceCtorEq, ↓reduceIte, ac18]
  refine loop_st (fun n : Nat => ⟨mkF 36 [(0, stV l), (3, .d (.int .i64 n))], []⟩) (fun n => n ≤ l.length ∧ trimN l l.length = trimN l n) (fun n => n) l.length (weak_any (by simp only [vx, vz, Nat.reduceAdd, Nat.reduceSub, Nat.reduceMul, Nat.reduceLeDiff, Nat.reduceLT, Nat.reduceEqDiff, Nat.reduceBEq, Int.reduceToNat, Int.reduceNeg, Int.reduceEq, Int.reduceNe, Int.reduceLE, Int.reduceLT, reduceCtorEq, ↓reduceIte]; try trivial)) ⟨Nat.le_refl _, rfl⟩ (fun n hn => ?_)
  obtain ⟨h1, h2⟩ := hn
  have hc0 : n = 0 ∨ ∃ k, n = k + 1 := by cases n with | zero => exact .inl rfl | succ k => exact .inr ⟨k, rfl⟩
  rcases hc0 with h0 | ⟨k, hk⟩
  · have h2 : trimN l l.length = n := by rw [h2, h0]; rfl
    simp only [vx, vz, Nat.reduceAdd, Nat.reduceSub, Nat.reduceMul, Nat.reduceLeDiff, Nat.reduceLT, Nat.reduceEqDiff, Nat.reduceBEq, Int.reduceToNat, Int.reduceNeg, Int.reduceEq, Int.reduceNe, Int.reduceLE, Int.reduceLT, reduceCtorEq, ↓reduceIte, df (show ¬ (0 : Int) < n by omega)]
    have hle : n ≤ l.length := by omega
    refine ⟨by omega, by omega, ?_⟩
    have htl : (l.take n).length = n := by rw [List.length_take]; omega
    have hml : (List.take n (List.map slD l)).length = n := by simp; omega
    refine loop_st (fun i : Nat => ⟨mkF 36 [(4, .osl 4 0 i 0 i), (23, stV (l.take (n))), (24, .d (.int .i64 (n : Nat))), (25, .d (.int .i64 i))], [.live 4 (((l.take i).map slD).map (·.map .d))]⟩) (fun i => i ≤ n) (fun i => n - i) 0 (Weak.trans (weak_nils 4 4 rfl) (weak_any (by
      simp only [vx, vz, Nat.reduceAdd, Nat.reduceSub, Nat.reduceMul, Nat.reduceLeDiff, Nat.reduceLT, Nat.reduceEqDiff, Nat.reduceBEq, Int.reduceToNat, Int.reduceNeg, Int.reduceEq, Int.reduceNe, Int.reduceLE, Int.reduceLT, reduceCtorEq, ↓reduceIte, hml, List.map_take]
      try trivial))) (by omega) (fun i hi => ?_)
    simp only [vx, vz, Nat.reduceAdd, Nat.reduceSub, Nat.reduceMul, Nat.reduceLeDiff, Nat.reduceLT, Nat.reduceEqDiff, Nat.reduceBEq, Int.reduceToNat, Int.reduceNeg, Int.reduceEq, Int.reduceNe, Int.reduceLE, Int.reduceLT, reduceCtorEq, ↓reduceIte]
    refine cond_split (fun hc => ?_) (fun hc => ?_)
    · simp only [decide_eq_true_eq] at hc
      obtain ⟨x, hx⟩ := get_ex (l := l) (i := i) (by omega)
      have hx2 : (l.take (n))[i]? = some x := by rw [List.getElem?_take, if_pos (by omega)]; exact hx
      have htx : (l.take i).length = i := by rw [List.length_take]; omega
      simp only [vx, vz, Nat.reduceAdd, Nat.reduceSub, Nat.reduceMul, Nat.reduceLeDiff, Nat.reduceLT, Nat.reduceEqDiff, Nat.reduceBEq, Int.reduceToNat, Int.reduceNeg, Int.reduceEq, Int.reduceNe, Int.reduceLE, Int.reduceLT, reduceCtorEq, ↓reduceIte, htl]
      refine ⟨by omega, by omega, getM_at hx2 ?_⟩
      simp only [vx, vz, Nat.reduceAdd, Nat.reduceSub, Nat.reduceMul, Nat.reduceLeDiff, Nat.reduceLT, Nat.reduceEqDiff, Nat.reduceBEq, Int.reduceToNat, Int.reduceNeg, Int.reduceEq, Int.reduceNe, Int.reduceLE, Int.reduceLT, reduceCtorEq, ↓reduceIte]
      simp only [vx, vz, Nat.reduceAdd, Nat.reduceSub, Nat.reduceMul, Nat.reduceLeDiff, Nat.reduceLT, Nat.reduceEqDiff, Nat.reduceBEq, Int.reduceToNat, Int.reduceNeg, Int.reduceEq, Int.reduceNe, Int.reduceLE, Int.reduceLT, reduceCtorEq, ↓reduceIte, slD]
      refine call_p rfl (t34 x (ok x (List.mem_of_getElem? hx))) ?_
      simp only [vx, vz, Nat.reduceAdd, Nat.reduceSub, Nat.reduceMul, Nat.reduceLeDiff, Nat.reduceLT, Nat.reduceEqDiff, Nat.reduceBEq, Int.reduceToNat, Int.reduceNeg, Int.reduceEq, Int.reduceNe, Int.reduceLE, Int.reduceLT, reduceCtorEq, ↓reduceIte]
      simp only [vx, vz, Nat.reduceAdd, Nat.reduceSub, Nat.reduceMul, Nat.reduceLeDiff, Nat.reduceLT, Nat.reduceEqDiff, Nat.reduceBEq, Int.reduceToNat, Int.reduceNeg, Int.reduceEq, Int.reduceNe, Int.reduceLE, Int.reduceLT, reduceCtorEq, ↓reduceIte, htx]
      refine ⟨by unfold maxBytes; omega, ?_⟩
      refine ls_n (i + 1) (by omega) (Weak.trans (weak_any ?_) (weak_frz2 1 (by omega) ⟨?_, trivial⟩ (kpL_refl ?_))) (by omega)
      · simp only [vx, vz, Nat.reduceAdd, Nat.reduceSub, Nat.reduceMul, Nat.reduceLeDiff, Nat.reduceLT, Nat.reduceEqDiff, Nat.reduceBEq, Int.reduceToNat, Int.reduceNeg, Int.reduceEq, Int.reduceNe, Int.reduceLE, Int.reduceLT, reduceCtorEq, ↓reduceIte]
        rw [wr_i64 (by omega) (by omega)]
        try trivial
      · show RowK _ _ _ (.live 4 (((l.take (i + 1)).map slD).map (·.map .d)))
        rw [take_at hx]
        exact rowK_sl
      · rfl
    · simp only [decide_eq_false_iff_not] at hc
      obtain rfl : i = n := by omega
      simp only [vx, vz, Nat.reduceAdd, Nat.reduceSub, Nat.reduceMul, Nat.reduceLeDiff, Nat.reduceLT, Nat.reduceEqDiff, Nat.reduceBEq, Int.reduceToNat, Int.reduceNeg, Int.reduceEq, Int.reduceNe, Int.reduceLE, Int.reduceLT, reduceCtorEq, ↓reduceIte]
      rw [trimS, h2]
      exact sn_all (es := (l.take i).map slD) rfl (by simp; omega) szl
  · obtain ⟨x, hx⟩ := get_ex (l := l) (i := k) (by omega)
    rw [hk, trimN, hx] at h2
    simp only at h2
    simp only [vx, vz, Nat.reduceAdd, Nat.reduceSub, Nat.reduceMul, Nat.reduceLeDiff, Nat.reduceLT, Nat.reduceEqDiff, Nat.reduceBEq, Int.reduceToNat, Int.reduceNeg, Int.reduceEq, Int.reduceNe, Int.reduceLE, Int.reduceLT, reduceCtorEq, ↓reduceIte, dt (show (0 : Int) < n by omega)]
    have e1 : IntKind.i64.wrap ((n : Int) - 1) = (k : Nat) := by rw [wr_i64 (by omega) (by omega)]; omega
    rw [e1]
    refine ⟨by omega, by omega, getM_at hx ?_⟩
    simp only [vx, vz, Nat.reduceAdd, Nat.reduceSub, Nat.reduceMul, Nat.reduceLeDiff, Nat.reduceLT, Nat.reduceEqDiff, Nat.reduceBEq, Int.reduceToNat, Int.reduceNeg, Int.reduceEq, Int.reduceNe, Int.reduceLE, Int.reduceLT, reduceCtorEq, ↓reduceIte]
    simp only [vx, vz, Nat.reduceAdd, Nat.reduceSub, Nat.reduceMul, Nat.reduceLeDiff, Nat.reduceLT, Nat.reduceEqDiff, Nat.reduceBEq, Int.reduceToNat, Int.reduceNeg, Int.reduceEq, Int.reduceNe, Int.reduceLE, Int.reduceLT, reduceCtorEq, ↓reduceIte, slD]
    cases hxi : x.1 with
    | true =>
      rw [hxi, if_pos rfl] at h2
      simp only [vx, vz, Nat.reduceAdd, Nat.reduceSub, Nat.reduceMul, Nat.reduceLeDiff, Nat.reduceLT, Nat.reduceEqDiff, Nat.reduceBEq, Int.reduceToNat, Int.reduceNeg, Int.reduceEq, Int.reduceNe, Int.reduceLE, Int.reduceLT, reduceCtorEq, ↓reduceIte]
      refine ls_n k (by omega) (weak_any ?_) ⟨by omega, h2⟩
      simp only [vx, vz, Nat.reduceAdd, Nat.reduceSub, Nat.reduceMul, Nat.reduceLeDiff, Nat.reduceLT, Nat.reduceEqDiff, Nat.reduceBEq, Int.reduceToNat, Int.reduceNeg, Int.reduceEq, Int.reduceNe, Int.reduceLE, Int.reduceLT, reduceCtorEq, ↓reduceIte]
      rw [e1]
      try trivial
    | false =>
      rw [hxi, if_neg (by decide)] at h2
      have h2 : trimN l l.length = n := by rw [h2, hk]
      simp only [vx, vz, Nat.reduceAdd, Nat.reduceSub, Nat.reduceMul, Nat.reduceLeDiff, Nat.reduceLT, Nat.reduceEqDiff, Nat.reduceBEq, Int.reduceToNat, Int.reduceNeg, Int.reduceEq, Int.reduceNe, Int.reduceLE, Int.reduceLT, reduceCtorEq, ↓reduceIte]
      have hle : n ≤ l.length := by omega
      refine ⟨by omega, by omega, ?_⟩
      have htl : (l.take n).length = n := by rw [List.length_take]; omega
      have hml : (List.take n (List.map slD l)).length = n := by simp; omega
      refine loop_st (fun i : Nat => ⟨mkF 36 [(4, .osl 4 0 i 0 i), (23, stV (l.take (n))), (24, .d (.int .i64 (n : Nat))), (25, .d (.int .i64 i))], [.live 4 (((l.take i).map slD).map (·.map .d))]⟩) (fun i => i ≤ n) (fun i => n - i) 0 (Weak.trans (weak_nils 4 4 rfl) (weak_any (by
        simp only [vx, vz, Nat.reduceAdd, Nat.reduceSub, Nat.reduceMul, Nat.reduceLeDiff, Nat.reduceLT, Nat.reduceEqDiff, Nat.reduceBEq, Int.reduceToNat, Int.reduceNeg, Int.reduceEq, Int.reduceNe, Int.reduceLE, Int.reduceLT, reduceCtorEq, ↓reduceIte, hml, List.map_take]
        try trivial))) (by omega) (fun i hi => ?_)
      simp only [vx, vz, Nat.reduceAdd, Nat.reduceSub, Nat.reduceMul, Nat.reduceLeDiff, Nat.reduceLT, Nat.reduceEqDiff, Nat.reduceBEq, Int.reduceToNat, Int.reduceNeg, Int.reduceEq, Int.reduceNe, Int.reduceLE, Int.reduceLT, reduceCtorEq, ↓reduceIte]
      refine cond_split (fun hc => ?_) (fun hc => ?_)
      · simp only [decide_eq_true_eq] at hc
        obtain ⟨x, hx⟩ := get_ex (l := l) (i := i) (by omega)
        have hx2 : (l.take (n))[i]? = some x := by rw [List.getElem?_take, if_pos (by omega)]; exact hx
        have htx : (l.take i).length = i := by rw [List.length_take]; omega
        simp only [vx, vz, Nat.reduceAdd, Nat.reduceSub, Nat.reduceMul, Nat.reduceLeDiff, Nat.reduceLT, Nat.reduceEqDiff, Nat.reduceBEq, Int.reduceToNat, Int.reduceNeg, Int.reduceEq, Int.reduceNe, Int.reduceLE, Int.reduceLT, reduceCtorEq, ↓reduceIte, htl]
        refine ⟨by omega, by omega, getM_at hx2 ?_⟩
        simp only [vx, vz, Nat.reduceAdd, Nat.reduceSub, Nat.reduceMul, Nat.reduceLeDiff, Nat.reduceLT, Nat.reduceEqDiff, Nat.reduceBEq, Int.reduceToNat, Int.reduceNeg, Int.reduceEq, Int.reduceNe, Int.reduceLE, Int.reduceLT, reduceCtorEq, ↓reduceIte]
        simp only [vx, vz, Nat.reduceAdd, Nat.reduceSub, Nat.reduceMul, Nat.reduceLeDiff, Nat.reduceLT, Nat.reduceEqDiff, Nat.reduceBEq, Int.reduceToNat, Int.reduceNeg, Int.reduceEq, Int.reduceNe, Int.reduceLE, Int.reduceLT, reduceCtorEq, ↓reduceIte, slD]
        refine call_p rfl (t34 x (ok x (List.mem_of_getElem? hx))) ?_
        simp only [vx, vz, Nat.reduceAdd, Nat.reduceSub, Nat.reduceMul, Nat.reduceLeDiff, Nat.reduceLT, Nat.reduceEqDiff, Nat.reduceBEq, Int.reduceToNat, Int.reduceNeg, Int.reduceEq, Int.reduceNe, Int.reduceLE, Int.reduceLT, reduceCtorEq, ↓reduceIte]
        simp only [vx, vz, Nat.reduceAdd, Nat.reduceSub, Nat.reduceMul, Nat.reduceLeDiff, Nat.reduceLT, Nat.reduceEqDiff, Nat.reduceBEq, Int.reduceToNat, Int.reduceNeg, Int.reduceEq, Int.reduceNe, Int.reduceLE, Int.reduceLT, reduceCtorEq, ↓reduceIte, htx]
        refine ⟨by unfold maxBytes; omega, ?_⟩
        refine ls_n (i + 1) (by omega) (Weak.trans (weak_any ?_) (weak_frz2 1 (by omega) ⟨?_, trivial⟩ (kpL_refl ?_))) (by omega)
        · simp only [vx, vz, Nat.reduceAdd, Nat.reduceSub, Nat.reduceMul, Nat.reduceLeDiff, Nat.reduceLT, Nat.reduceEqDiff, Nat.reduceBEq, Int.reduceToNat, Int.reduceNeg, Int.reduceEq, Int.reduceNe, Int.reduceLE, Int.reduceLT, reduceCtorEq, ↓reduceIte]
          rw [wr_i64 (by omega) (by omega)]
          try trivial
        · show RowK _ _ _ (.live 4 (((l.take (i + 1)).map slD).map (·.map .d)))
          rw [take_at hx]
          exact rowK_sl
        · rfl
      · simp only [decide_eq_false_iff_not] at hc
        obtain rfl : i = n := by omega
        simp only [vx, vz, Nat.reduceAdd, Nat.reduceSub, Nat.reduceMul, Nat.reduceLeDiff, Nat.reduceLT, Nat.reduceEqDiff, Nat.reduceBEq, Int.reduceToNat, Int.reduceNeg, Int.reduceEq, Int.reduceNe, Int.reduceLE, Int.reduceLT, reduceCtorEq, ↓reduceIte]
        rw [trimS, h2]
        exact sn_all (es := (l.take i).map slD) rfl (by simp; omega) szl
end Go.Proofs.Ar
