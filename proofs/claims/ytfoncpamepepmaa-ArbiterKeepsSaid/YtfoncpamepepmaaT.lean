import Derived.Test.YtfoncpamepepmaaL1
set_option linter.unusedSimpArgs false
set_option linter.unusedVariables false
namespace Go.Proofs.Ar
open Go.Vx
def trimN (l : List Sl) : Nat → Nat
  | 0 => 0
  | n + 1 => match l[n]? with
    | some x => if x.1 then trimN l n else n + 1
    | none => n + 1
def trimS (l : List Sl) : List Sl := l.take (trimN l l.length)
theorem trim_le {l : List Sl} : ∀ n, trimN l n ≤ n := by
  intro n
  induction n with
  | zero => exact Nat.le_refl _
  | succ n ih =>
    rw [trimN]
    split
    · split
      · omega
      · omega
    · omega
theorem t18 (l : List Sl) (hl : l.length ≤ 20) (ok : ∀ x ∈ l, okS x) : CallP Try.prog 18 [stV l] (stV (trimS l)) := by
  have hm := hm
  refine go18 ac18 rfl ?_
  simp only [vx, vz, Nat.reduceAdd, Nat.reduceSub, Nat.reduceMul, Nat.reduceLeDiff, Nat.reduceLT, Nat.reduceEqDiff, Nat.reduceBEq, Int.reduceToNat, Int.reduceNeg, Int.reduceEq, Int.reduceNe, Int.reduceLE, Int.reduceLT, reduceCtorEq, ↓reduceIte, ac18]
  refine loop_st (fun n : Nat => ⟨mkF 36 [(0, stV l), (3, .d (.int .i64 n))], []⟩) (fun n => n ≤ l.length ∧ trimN l l.length = trimN l n) (fun n => n) l.length (weak_any (by simp only [vx, vz, Nat.reduceAdd, Nat.reduceSub, Nat.reduceMul, Nat.reduceLeDiff, Nat.reduceLT, Nat.reduceEqDiff, Nat.reduceBEq, Int.reduceToNat, Int.reduceNeg, Int.reduceEq, Int.reduceNe, Int.reduceLE, Int.reduceLT, reduceCtorEq, ↓reduceIte]; try trivial)) ⟨Nat.le_refl _, rfl⟩ (fun n hn => ?_)
  obtain ⟨h1, h2⟩ := hn
  have hc0 : n = 0 ∨ ∃ k, n = k + 1 := by cases n with | zero => exact .inl rfl | succ k => exact .inr ⟨k, rfl⟩
  rcases hc0 with h0 | ⟨k, hk⟩
  · have h2 : trimN l l.length = n := by rw [h2, h0]; rfl
    simp only [vx, vz, Nat.reduceAdd, Nat.reduceSub, Nat.reduceMul, Nat.reduceLeDiff, Nat.reduceLT, Nat.reduceEqDiff, Nat.reduceBEq, Int.reduceToNat, Int.reduceNeg, Int.reduceEq, Int.reduceNe, Int.reduceLE, Int.reduceLT, reduceCtorEq, ↓reduceIte, df (show ¬ (0 : Int) < n by omega)]
    have hle : n ≤ l.length := by omega
    refine ⟨by omega, by omega, ?_⟩
    have htl : (l.take n).length = n := by rw [List.length_take]; omega
    have hml : (List.take n (List.map slD l)).length = n := by simp; omega
    refine loop_st (fun i : Nat => ⟨mkF 36 [(4, .osl 4 0 i 0 i), (23, stV (l.take (n))), (24, .d (.int .i64 (n : Nat))), (25, .d (.int .i64 i))], [.live 4 (((l.take i).map slD).map (·.map .d))]⟩) (fun i => i ≤ n) (fun i => n - i) 0 (Weak.trans (weak_nils 4 4 rfl) (weak_any (by
      simp only [vx, vz, Nat.reduceAdd, Nat.reduceSub, Nat.reduceMul, Nat.reduceLeDiff, Nat.reduceLT, Nat.reduceEqDiff, Nat.reduceBEq, Int.reduceToNat, Int.reduceNeg, Int.reduceEq, Int.reduceNe, Int.reduceLE, Int.reduceLT, reduceCtorEq, ↓reduceIte, hml, List.map_take]
      try trivial))) (by omega) (fun i hi => ?_)
    simp only [vx, vz, Nat.reduceAdd, Nat.reduceSub, Nat.reduceMul, Nat.reduceLeDiff, Nat.reduceLT, Nat.reduceEqDiff, Nat.reduceBEq, Int.reduceToNat, Int.reduceNeg, Int.reduceEq, Int.reduceNe, Int.reduceLE, Int.reduceLT, reduceCtorEq, ↓reduceIte]
    refine cond_split (fun hc => ?_) (fun hc => ?_)
    · simp only [decide_eq_true_eq] at hc
      obtain ⟨x, hx⟩ := get_ex (l := l) (i := i) (by omega)
      have hx2 : (l.take (n))[i]? = some x := by rw [List.getElem?_take, if_pos (by omega)]; exact hx
      have htx : (l.take i).length = i := by rw [List.length_take]; omega
      simp only [vx, vz, Nat.reduceAdd, Nat.reduceSub, Nat.reduceMul, Nat.reduceLeDiff, Nat.reduceLT, Nat.reduceEqDiff, Nat.reduceBEq, Int.reduceToNat, Int.reduceNeg, Int.reduceEq, Int.reduceNe, Int.reduceLE, Int.reduceLT, reduceCtorEq, ↓reduceIte, htl]
      refine ⟨by omega, by omega, getM_at hx2 ?_⟩
      simp only [vx, vz, Nat.reduceAdd, Nat.reduceSub, Nat.reduceMul, Nat.reduceLeDiff, Nat.reduceLT, Nat.reduceEqDiff, Nat.reduceBEq, Int.reduceToNat, Int.reduceNeg, Int.reduceEq, Int.reduceNe, Int.reduceLE, Int.reduceLT, reduceCtorEq, ↓reduceIte]
      simp only [vx, vz, Nat.reduceAdd, Nat.reduceSub, Nat.reduceMul, Nat.reduceLeDiff, Nat.reduceLT, Nat.reduceEqDiff, Nat.reduceBEq, Int.reduceToNat, Int.reduceNeg, Int.reduceEq, Int.reduceNe, Int.reduceLE, Int.reduceLT, reduceCtorEq, ↓reduceIte, slD]
      refine call_p rfl (t34 x (ok x (List.mem_of_getElem? hx))) ?_
      simp only [vx, vz, Nat.reduceAdd, Nat.reduceSub, Nat.reduceMul, Nat.reduceLeDiff, Nat.reduceLT, Nat.reduceEqDiff, Nat.reduceBEq, Int.reduceToNat, Int.reduceNeg, Int.reduceEq, Int.reduceNe, Int.reduceLE, Int.reduceLT, reduceCtorEq, ↓reduceIte]
      simp only [vx, vz, Nat.reduceAdd, Nat.reduceSub, Nat.reduceMul, Nat.reduceLeDiff, Nat.reduceLT, Nat.reduceEqDiff, Nat.reduceBEq, Int.reduceToNat, Int.reduceNeg, Int.reduceEq, Int.reduceNe, Int.reduceLE, Int.reduceLT, reduceCtorEq, ↓reduceIte, htx]
      refine ⟨by unfold maxBytes; omega, ?_⟩
      refine ls_n (i + 1) (by omega) (Weak.trans (weak_any ?_) (weak_frz2 1 (by omega) ⟨?_, trivial⟩ (kpL_refl ?_))) (by omega)
      · simp only [vx, vz, Nat.reduceAdd, Nat.reduceSub, Nat.reduceMul, Nat.reduceLeDiff, Nat.reduceLT, Nat.reduceEqDiff, Nat.reduceBEq, Int.reduceToNat, Int.reduceNeg, Int.reduceEq, Int.reduceNe, Int.reduceLE, Int.reduceLT, reduceCtorEq, ↓reduceIte]
        rw [wr_i64 (by omega) (by omega)]
        try trivial
      · show RowK _ _ _ (.live 4 (((l.take (i + 1)).map slD).map (·.map .d)))
        rw [take_at hx]
        exact rowK_sl
      · rfl
    · simp only [decide_eq_false_iff_not] at hc
      obtain rfl : i = n := by omega
      simp only [vx, vz, Nat.reduceAdd, Nat.reduceSub, Nat.reduceMul, Nat.reduceLeDiff, Nat.reduceLT, Nat.reduceEqDiff, Nat.reduceBEq, Int.reduceToNat, Int.reduceNeg, Int.reduceEq, Int.reduceNe, Int.reduceLE, Int.reduceLT, reduceCtorEq, ↓reduceIte]
      rw [trimS, h2]
      exact sn_all (es := (l.take i).map slD) rfl (by simp; omega) szl
  · obtain ⟨x, hx⟩ := get_ex (l := l) (i := k) (by omega)
    rw [hk, trimN, hx] at h2
    simp only at h2
    simp only [vx, vz, Nat.reduceAdd, Nat.reduceSub, Nat.reduceMul, Nat.reduceLeDiff, Nat.reduceLT, Nat.reduceEqDiff, Nat.reduceBEq, Int.reduceToNat, Int.reduceNeg, Int.reduceEq, Int.reduceNe, Int.reduceLE, Int.reduceLT, reduceCtorEq, ↓reduceIte, dt (show (0 : Int) < n by omega)]
    have e1 : IntKind.i64.wrap ((n : Int) - 1) = (k : Nat) := by rw [wr_i64 (by omega) (by omega)]; omega
    rw [e1]
    refine ⟨by omega, by omega, getM_at hx ?_⟩
    simp only [vx, vz, Nat.reduceAdd, Nat.reduceSub, Nat.reduceMul, Nat.reduceLeDiff, Nat.reduceLT, Nat.reduceEqDiff, Nat.reduceBEq, Int.reduceToNat, Int.reduceNeg, Int.reduceEq, Int.reduceNe, Int.reduceLE, Int.reduceLT, reduceCtorEq, ↓reduceIte]
    simp only [vx, vz, Nat.reduceAdd, Nat.reduceSub, Nat.reduceMul, Nat.reduceLeDiff, Nat.reduceLT, Nat.reduceEqDiff, Nat.reduceBEq, Int.reduceToNat, Int.reduceNeg, Int.reduceEq, Int.reduceNe, Int.reduceLE, Int.reduceLT, reduceCtorEq, ↓reduceIte, slD]
    cases hxi : x.1 with
    | true =>
      rw [hxi, if_pos rfl] at h2
      simp only [vx, vz, Nat.reduceAdd, Nat.reduceSub, Nat.reduceMul, Nat.reduceLeDiff, Nat.reduceLT, Nat.reduceEqDiff, Nat.reduceBEq, Int.reduceToNat, Int.reduceNeg, Int.reduceEq, Int.reduceNe, Int.reduceLE, Int.reduceLT, reduceCtorEq, ↓reduceIte]
      refine ls_n k (by omega) (weak_any ?_) ⟨by omega, h2⟩
      simp only [vx, vz, Nat.reduceAdd, Nat.reduceSub, Nat.reduceMul, Nat.reduceLeDiff, Nat.reduceLT, Nat.reduceEqDiff, Nat.reduceBEq, Int.reduceToNat, Int.reduceNeg, Int.reduceEq, Int.reduceNe, Int.reduceLE, Int.reduceLT, reduceCtorEq, ↓reduceIte]
      rw [e1]
      try trivial
    | false =>
      rw [hxi, if_neg (by decide)] at h2
      have h2 : trimN l l.length = n := by rw [h2, hk]
      simp only [vx, vz, Nat.reduceAdd, Nat.reduceSub, Nat.reduceMul, Nat.reduceLeDiff, Nat.reduceLT, Nat.reduceEqDiff, Nat.reduceBEq, Int.reduceToNat, Int.reduceNeg, Int.reduceEq, Int.reduceNe, Int.reduceLE, Int.reduceLT, reduceCtorEq, ↓reduceIte]
      have hle : n ≤ l.length := by omega
      refine ⟨by omega, by omega, ?_⟩
      have htl : (l.take n).length = n := by rw [List.length_take]; omega
      have hml : (List.take n (List.map slD l)).length = n := by simp; omega
      refine loop_st (fun i : Nat => ⟨mkF 36 [(4, .osl 4 0 i 0 i), (23, stV (l.take (n))), (24, .d (.int .i64 (n : Nat))), (25, .d (.int .i64 i))], [.live 4 (((l.take i).map slD).map (·.map .d))]⟩) (fun i => i ≤ n) (fun i => n - i) 0 (Weak.trans (weak_nils 4 4 rfl) (weak_any (by
        simp only [vx, vz, Nat.reduceAdd, Nat.reduceSub, Nat.reduceMul, Nat.reduceLeDiff, Nat.reduceLT, Nat.reduceEqDiff, Nat.reduceBEq, Int.reduceToNat, Int.reduceNeg, Int.reduceEq, Int.reduceNe, Int.reduceLE, Int.reduceLT, reduceCtorEq, ↓reduceIte, hml, List.map_take]
        try trivial))) (by omega) (fun i hi => ?_)
      simp only [vx, vz, Nat.reduceAdd, Nat.reduceSub, Nat.reduceMul, Nat.reduceLeDiff, Nat.reduceLT, Nat.reduceEqDiff, Nat.reduceBEq, Int.reduceToNat, Int.reduceNeg, Int.reduceEq, Int.reduceNe, Int.reduceLE, Int.reduceLT, reduceCtorEq, ↓reduceIte]
      refine cond_split (fun hc => ?_) (fun hc => ?_)
      · simp only [decide_eq_true_eq] at hc
        obtain ⟨x, hx⟩ := get_ex (l := l) (i := i) (by omega)
        have hx2 : (l.take (n))[i]? = some x := by rw [List.getElem?_take, if_pos (by omega)]; exact hx
        have htx : (l.take i).length = i := by rw [List.length_take]; omega
        simp only [vx, vz, Nat.reduceAdd, Nat.reduceSub, Nat.reduceMul, Nat.reduceLeDiff, Nat.reduceLT, Nat.reduceEqDiff, Nat.reduceBEq, Int.reduceToNat, Int.reduceNeg, Int.reduceEq, Int.reduceNe, Int.reduceLE, Int.reduceLT, reduceCtorEq, ↓reduceIte, htl]
        refine ⟨by omega, by omega, getM_at hx2 ?_⟩
        simp only [vx, vz, Nat.reduceAdd, Nat.reduceSub, Nat.reduceMul, Nat.reduceLeDiff, Nat.reduceLT, Nat.reduceEqDiff, Nat.reduceBEq, Int.reduceToNat, Int.reduceNeg, Int.reduceEq, Int.reduceNe, Int.reduceLE, Int.reduceLT, reduceCtorEq, ↓reduceIte]
        simp only [vx, vz, Nat.reduceAdd, Nat.reduceSub, Nat.reduceMul, Nat.reduceLeDiff, Nat.reduceLT, Nat.reduceEqDiff, Nat.reduceBEq, Int.reduceToNat, Int.reduceNeg, Int.reduceEq, Int.reduceNe, Int.reduceLE, Int.reduceLT, reduceCtorEq, ↓reduceIte, slD]
        refine call_p rfl (t34 x (ok x (List.mem_of_getElem? hx))) ?_
        simp only [vx, vz, Nat.reduceAdd, Nat.reduceSub, Nat.reduceMul, Nat.reduceLeDiff, Nat.reduceLT, Nat.reduceEqDiff, Nat.reduceBEq, Int.reduceToNat, Int.reduceNeg, Int.reduceEq, Int.reduceNe, Int.reduceLE, Int.reduceLT, reduceCtorEq, ↓reduceIte]
        simp only [vx, vz, Nat.reduceAdd, Nat.reduceSub, Nat.reduceMul, Nat.reduceLeDiff, Nat.reduceLT, Nat.reduceEqDiff, Nat.reduceBEq, Int.reduceToNat, Int.reduceNeg, Int.reduceEq, Int.reduceNe, Int.reduceLE, Int.reduceLT, reduceCtorEq, ↓reduceIte, htx]
        refine ⟨by unfold maxBytes; omega, ?_⟩
        refine ls_n (i + 1) (by omega) (Weak.trans (weak_any ?_) (weak_frz2 1 (by omega) ⟨?_, trivial⟩ (kpL_refl ?_))) (by omega)
        · simp only [vx, vz, Nat.reduceAdd, Nat.reduceSub, Nat.reduceMul, Nat.reduceLeDiff, Nat.reduceLT, Nat.reduceEqDiff, Nat.reduceBEq, Int.reduceToNat, Int.reduceNeg, Int.reduceEq, Int.reduceNe, Int.reduceLE, Int.reduceLT, reduceCtorEq, ↓reduceIte]
          rw [wr_i64 (by omega) (by omega)]
          try trivial
        · show RowK _ _ _ (.live 4 (((l.take (i + 1)).map slD).map (·.map .d)))
          rw [take_at hx]
          exact rowK_sl
        · rfl
      · simp only [decide_eq_false_iff_not] at hc
        obtain rfl : i = n := by omega
        simp only [vx, vz, Nat.reduceAdd, Nat.reduceSub, Nat.reduceMul, Nat.reduceLeDiff, Nat.reduceLT, Nat.reduceEqDiff, Nat.reduceBEq, Int.reduceToNat, Int.reduceNeg, Int.reduceEq, Int.reduceNe, Int.reduceLE, Int.reduceLT, reduceCtorEq, ↓reduceIte]
        rw [trimS, h2]
        exact sn_all (es := (l.take i).map slD) rfl (by simp; omega) szl
end Go.Proofs.Ar

namespace Go.Proofs.Ar
open Go.Vx
theorem weak_dead {b0 : Nat} {fr : List V} {rows rows' : Go.Vx.Rows} (hs : List Nat) (he : setRows rows (hs.map fun h => (h, RowS.dead)) = rows') : Weak b0 ⟨fr, rows⟩ ⟨fr, rows'⟩ := by
  subst he
  rintro c0 a w - ⟨ρ, I, ok, hx, hd, hl, hf⟩
  obtain ⟨h1, h2⟩ := kill_ok ok hs
  exact ⟨_, _, h1, hx.trans h2, hd, hl, fun i => (hf i).mono h2 ok⟩
theorem t22 (l : List Sl) (hl : l.length ≤ 20) : CallP Try.prog 22 [stV l] (stV (trimS l)) := by
  have hm := hm
  refine go22 ac22 rfl ?_
  simp only [vx, vz, Nat.reduceAdd, Nat.reduceSub, Nat.reduceMul, Nat.reduceLeDiff, Nat.reduceLT, Nat.reduceEqDiff, Nat.reduceBEq, Int.reduceToNat, Int.reduceNeg, Int.reduceEq, Int.reduceNe, Int.reduceLE, Int.reduceLT, reduceCtorEq, ↓reduceIte, ac22]
  refine loop_st (fun n : Nat => ⟨mkF 23 [(0, stV l), (3, .d (.int .i64 n))], []⟩) (fun n => n ≤ l.length ∧ trimN l l.length = trimN l n) (fun n => n) l.length (weak_any (by simp only [vx, vz, Nat.reduceAdd, Nat.reduceSub, Nat.reduceMul, Nat.reduceLeDiff, Nat.reduceLT, Nat.reduceEqDiff, Nat.reduceBEq, Int.reduceToNat, Int.reduceNeg, Int.reduceEq, Int.reduceNe, Int.reduceLE, Int.reduceLT, reduceCtorEq, ↓reduceIte]; try trivial)) ⟨Nat.le_refl _, rfl⟩ (fun n hn => ?_)
  obtain ⟨h1, h2⟩ := hn
  have hc0 : n = 0 ∨ ∃ k, n = k + 1 := by cases n with | zero => exact .inl rfl | succ k => exact .inr ⟨k, rfl⟩
  rcases hc0 with h0 | ⟨k, hk⟩
  · have h2 : trimN l l.length = n := by rw [h2, h0]; rfl
    simp only [vx, vz, Nat.reduceAdd, Nat.reduceSub, Nat.reduceMul, Nat.reduceLeDiff, Nat.reduceLT, Nat.reduceEqDiff, Nat.reduceBEq, Int.reduceToNat, Int.reduceNeg, Int.reduceEq, Int.reduceNe, Int.reduceLE, Int.reduceLT, reduceCtorEq, ↓reduceIte, df (show ¬ (0 : Int) < n by omega)]
    have hml : (List.take n (List.map slD l)).length = n := by simp; omega
    rw [hml]
    refine ⟨by omega, by omega, by unfold maxBytes; omega, ?_⟩
    rw [trimS, h2]
    exact sn_all (es := (l.take n).map slD) (by simp only [Go.Vx.rowAt, List.map_take]) (by simp; omega) szl
  · obtain ⟨x, hx⟩ := get_ex (l := l) (i := k) (by omega)
    rw [hk, trimN, hx] at h2
    simp only at h2
    simp only [vx, vz, Nat.reduceAdd, Nat.reduceSub, Nat.reduceMul, Nat.reduceLeDiff, Nat.reduceLT, Nat.reduceEqDiff, Nat.reduceBEq, Int.reduceToNat, Int.reduceNeg, Int.reduceEq, Int.reduceNe, Int.reduceLE, Int.reduceLT, reduceCtorEq, ↓reduceIte, dt (show (0 : Int) < n by omega)]
    have e1 : IntKind.i64.wrap ((n : Int) - 1) = (k : Nat) := by rw [wr_i64 (by omega) (by omega)]; omega
    rw [e1]
    refine ⟨by omega, by omega, getM_at hx ?_⟩
    simp only [vx, vz, Nat.reduceAdd, Nat.reduceSub, Nat.reduceMul, Nat.reduceLeDiff, Nat.reduceLT, Nat.reduceEqDiff, Nat.reduceBEq, Int.reduceToNat, Int.reduceNeg, Int.reduceEq, Int.reduceNe, Int.reduceLE, Int.reduceLT, reduceCtorEq, ↓reduceIte]
    simp only [vx, vz, Nat.reduceAdd, Nat.reduceSub, Nat.reduceMul, Nat.reduceLeDiff, Nat.reduceLT, Nat.reduceEqDiff, Nat.reduceBEq, Int.reduceToNat, Int.reduceNeg, Int.reduceEq, Int.reduceNe, Int.reduceLE, Int.reduceLT, reduceCtorEq, ↓reduceIte, slD]
    cases hxi : x.1 with
    | true =>
      rw [hxi, if_pos rfl] at h2
      simp only [vx, vz, Nat.reduceAdd, Nat.reduceSub, Nat.reduceMul, Nat.reduceLeDiff, Nat.reduceLT, Nat.reduceEqDiff, Nat.reduceBEq, Int.reduceToNat, Int.reduceNeg, Int.reduceEq, Int.reduceNe, Int.reduceLE, Int.reduceLT, reduceCtorEq, ↓reduceIte]
      refine ls_n k (by omega) (weak_any ?_) ⟨by omega, h2⟩
      simp only [vx, vz, Nat.reduceAdd, Nat.reduceSub, Nat.reduceMul, Nat.reduceLeDiff, Nat.reduceLT, Nat.reduceEqDiff, Nat.reduceBEq, Int.reduceToNat, Int.reduceNeg, Int.reduceEq, Int.reduceNe, Int.reduceLE, Int.reduceLT, reduceCtorEq, ↓reduceIte]
      rw [e1]
      try trivial
    | false =>
      rw [hxi, if_neg (by decide)] at h2
      have h2 : trimN l l.length = n := by rw [h2, hk]
      simp only [vx, vz, Nat.reduceAdd, Nat.reduceSub, Nat.reduceMul, Nat.reduceLeDiff, Nat.reduceLT, Nat.reduceEqDiff, Nat.reduceBEq, Int.reduceToNat, Int.reduceNeg, Int.reduceEq, Int.reduceNe, Int.reduceLE, Int.reduceLT, reduceCtorEq, ↓reduceIte]
      have hml : (List.take n (List.map slD l)).length = n := by simp; omega
      rw [hml]
      refine ⟨by omega, by omega, by unfold maxBytes; omega, ?_⟩
      rw [trimS, h2]
      exact sn_all (es := (l.take n).map slD) (by simp only [Go.Vx.rowAt, List.map_take]) (by simp; omega) szl
def ptsS (l : List Sl) (p : B) : List Sl := l.filter fun s => decide (s.2.2.2 = p)
theorem pts_snoc {l : List Sl} {p : B} {i : Nat} {x : Sl} (h : l[i]? = some x) : ptsS (l.take (i + 1)) p = if x.2.2.2 = p then ptsS (l.take i) p ++ [x] else ptsS (l.take i) p := by
  rw [take_at h, ptsS, List.filter_append]
  by_cases hx : x.2.2.2 = p <;> simp [ptsS, hx]
theorem pts_len {l : List Sl} {p : B} {i : Nat} : (ptsS (l.take i) p).length ≤ l.length := by
  refine Nat.le_trans (List.length_filter_le _ _) ?_
  rw [List.length_take]; omega
def splS (l : List Sl) (ps : List B) : List (List Sl) := ps.map (ptsS l)
theorem t20 (l : List Sl) (ps : List B) (hl : l.length ≤ 400) (hp : ps.length ≤ 20) : CallP Try.prog 20 [stV l, .d (.sl 1 (ps.map sD))] (llV (splS l ps)) := by
  have hm := hm
  refine go20 ac20 rfl ?_
  simp only [vx, vz, Nat.reduceAdd, Nat.reduceSub, Nat.reduceMul, Nat.reduceLeDiff, Nat.reduceLT, Nat.reduceEqDiff, Nat.reduceBEq, Int.reduceToNat, Int.reduceNeg, Int.reduceEq, Int.reduceNe, Int.reduceLE, Int.reduceLT, reduceCtorEq, ↓reduceIte, ac20]
  refine loop_st (fun i : Nat => ⟨mkF 43 [(0, stV l), (1, .d (.sl 1 (ps.map sD))), (5, .osl 1 0 i 0 i), (6, .d (.int .i64 i))], [.live 1 (((splS l (ps.take i)).map stD).map (·.map .d))]⟩) (fun i => i ≤ ps.length) (fun i => ps.length - i) 0 (Weak.trans (weak_nils 5 1 rfl) (weak_any (by simp only [vx, vz, Nat.reduceAdd, Nat.reduceSub, Nat.reduceMul, Nat.reduceLeDiff, Nat.reduceLT, Nat.reduceEqDiff, Nat.reduceBEq, Int.reduceToNat, Int.reduceNeg, Int.reduceEq, Int.reduceNe, Int.reduceLE, Int.reduceLT, reduceCtorEq, ↓reduceIte]; try trivial))) (by omega) (fun i hi => ?_)
  have hsl : (splS l (ps.take i)).length = i := by simp [splS]; omega
  simp only [vx, vz, Nat.reduceAdd, Nat.reduceSub, Nat.reduceMul, Nat.reduceLeDiff, Nat.reduceLT, Nat.reduceEqDiff, Nat.reduceBEq, Int.reduceToNat, Int.reduceNeg, Int.reduceEq, Int.reduceNe, Int.reduceLE, Int.reduceLT, reduceCtorEq, ↓reduceIte]
  refine cond_split (fun hc => ?_) (fun hc => ?_)
  · simp only [decide_eq_true_eq] at hc
    obtain ⟨p, hpp⟩ := get_ex (l := ps) (i := i) (by omega)
    have esp : splS l (ps.take (i + 1)) = splS l (ps.take i) ++ [ptsS l p] := by rw [take_at hpp, splS, List.map_append]; rfl
    simp only [vx, vz, Nat.reduceAdd, Nat.reduceSub, Nat.reduceMul, Nat.reduceLeDiff, Nat.reduceLT, Nat.reduceEqDiff, Nat.reduceBEq, Int.reduceToNat, Int.reduceNeg, Int.reduceEq, Int.reduceNe, Int.reduceLE, Int.reduceLT, reduceCtorEq, ↓reduceIte]
    refine loop_st (fun k : Nat => ⟨mkF 43 [(0, stV l), (1, .d (.sl 1 (ps.map sD))), (5, .osl 1 0 i 0 i), (6, .d (.int .i64 i)), (7, .osl 4 1 (ptsS (l.take k) p).length 0 (ptsS (l.take k) p).length), (8, .d (.int .i64 k))], [.live 1 (((splS l (ps.take i)).map stD).map (·.map .d)), .live 4 (((ptsS (l.take k) p).map slD).map (·.map .d))]⟩) (fun k => k ≤ l.length) (fun k => l.length - k) 0 (Weak.trans (weak_nils 7 4 rfl) (weak_any (by simp only [vx, vz, Nat.reduceAdd, Nat.reduceSub, Nat.reduceMul, Nat.reduceLeDiff, Nat.reduceLT, Nat.reduceEqDiff, Nat.reduceBEq, Int.reduceToNat, Int.reduceNeg, Int.reduceEq, Int.reduceNe, Int.reduceLE, Int.reduceLT, reduceCtorEq, ↓reduceIte]; try trivial))) (by omega) (fun k hk => ?_)
    have hpl := pts_len (l := l) (p := p) (i := k)
    simp only [vx, vz, Nat.reduceAdd, Nat.reduceSub, Nat.reduceMul, Nat.reduceLeDiff, Nat.reduceLT, Nat.reduceEqDiff, Nat.reduceBEq, Int.reduceToNat, Int.reduceNeg, Int.reduceEq, Int.reduceNe, Int.reduceLE, Int.reduceLT, reduceCtorEq, ↓reduceIte]
    refine cond_split (fun hc2 => ?_) (fun hc2 => ?_)
    · simp only [decide_eq_true_eq] at hc2
      obtain ⟨x, hx⟩ := get_ex (l := l) (i := k) (by omega)
      have es := pts_snoc (p := p) hx
      simp only [vx, vz, Nat.reduceAdd, Nat.reduceSub, Nat.reduceMul, Nat.reduceLeDiff, Nat.reduceLT, Nat.reduceEqDiff, Nat.reduceBEq, Int.reduceToNat, Int.reduceNeg, Int.reduceEq, Int.reduceNe, Int.reduceLE, Int.reduceLT, reduceCtorEq, ↓reduceIte]
      refine c_quiet rfl ?_
      simp only [vx, vz, Nat.reduceAdd, Nat.reduceSub, Nat.reduceMul, Nat.reduceLeDiff, Nat.reduceLT, Nat.reduceEqDiff, Nat.reduceBEq, Int.reduceToNat, Int.reduceNeg, Int.reduceEq, Int.reduceNe, Int.reduceLE, Int.reduceLT, reduceCtorEq, ↓reduceIte]
      refine ⟨by omega, by omega, getM_at hx ?_⟩
      simp only [vx, vz, Nat.reduceAdd, Nat.reduceSub, Nat.reduceMul, Nat.reduceLeDiff, Nat.reduceLT, Nat.reduceEqDiff, Nat.reduceBEq, Int.reduceToNat, Int.reduceNeg, Int.reduceEq, Int.reduceNe, Int.reduceLE, Int.reduceLT, reduceCtorEq, ↓reduceIte]
      simp only [vx, vz, Nat.reduceAdd, Nat.reduceSub, Nat.reduceMul, Nat.reduceLeDiff, Nat.reduceLT, Nat.reduceEqDiff, Nat.reduceBEq, Int.reduceToNat, Int.reduceNeg, Int.reduceEq, Int.reduceNe, Int.reduceLE, Int.reduceLT, reduceCtorEq, ↓reduceIte, slD]
      refine ⟨by omega, by omega, getM_at hpp ?_⟩
      simp only [vx, vz, Nat.reduceAdd, Nat.reduceSub, Nat.reduceMul, Nat.reduceLeDiff, Nat.reduceLT, Nat.reduceEqDiff, Nat.reduceBEq, Int.reduceToNat, Int.reduceNeg, Int.reduceEq, Int.reduceNe, Int.reduceLE, Int.reduceLT, reduceCtorEq, ↓reduceIte]
      simp only [vx, vz, Nat.reduceAdd, Nat.reduceSub, Nat.reduceMul, Nat.reduceLeDiff, Nat.reduceLT, Nat.reduceEqDiff, Nat.reduceBEq, Int.reduceToNat, Int.reduceNeg, Int.reduceEq, Int.reduceNe, Int.reduceLE, Int.reduceLT, reduceCtorEq, ↓reduceIte, sD]
      refine cond_split (fun hc3 => ?_) (fun hc3 => ?_)
      · simp only [decide_eq_true_eq] at hc3
        rw [if_pos hc3] at es
        simp only [vx, vz, Nat.reduceAdd, Nat.reduceSub, Nat.reduceMul, Nat.reduceLeDiff, Nat.reduceLT, Nat.reduceEqDiff, Nat.reduceBEq, Int.reduceToNat, Int.reduceNeg, Int.reduceEq, Int.reduceNe, Int.reduceLE, Int.reduceLT, reduceCtorEq, ↓reduceIte]
        refine ⟨by omega, by omega, getM_at hx ?_⟩
        simp only [vx, vz, Nat.reduceAdd, Nat.reduceSub, Nat.reduceMul, Nat.reduceLeDiff, Nat.reduceLT, Nat.reduceEqDiff, Nat.reduceBEq, Int.reduceToNat, Int.reduceNeg, Int.reduceEq, Int.reduceNe, Int.reduceLE, Int.reduceLT, reduceCtorEq, ↓reduceIte]
        simp only [vx, vz, Nat.reduceAdd, Nat.reduceSub, Nat.reduceMul, Nat.reduceLeDiff, Nat.reduceLT, Nat.reduceEqDiff, Nat.reduceBEq, Int.reduceToNat, Int.reduceNeg, Int.reduceEq, Int.reduceNe, Int.reduceLE, Int.reduceLT, reduceCtorEq, ↓reduceIte, slD]
        refine ⟨by unfold maxBytes; omega, ?_⟩
        refine ls_n (k + 1) (by omega) (Weak.trans (weak_any ?_) (weak_frz2 2 (by omega) ⟨.same _ rowB_data, ?_, trivial⟩ (kpL_refl ?_))) (by omega)
        · simp only [vx, vz, Nat.reduceAdd, Nat.reduceSub, Nat.reduceMul, Nat.reduceLeDiff, Nat.reduceLT, Nat.reduceEqDiff, Nat.reduceBEq, Int.reduceToNat, Int.reduceNeg, Int.reduceEq, Int.reduceNe, Int.reduceLE, Int.reduceLT, reduceCtorEq, ↓reduceIte]
          rw [wr_i64 (by omega) (by omega), es, List.length_append]
          exact ⟨rfl, rfl⟩
        · show RowK _ _ _ (.live 4 (((ptsS (l.take (k + 1)) p).map slD).map (·.map .d)))
          rw [es]
          exact rowK_sl
        · rfl
      · simp only [decide_eq_false_iff_not] at hc3
        rw [if_neg hc3] at es
        simp only [vx, vz, Nat.reduceAdd, Nat.reduceSub, Nat.reduceMul, Nat.reduceLeDiff, Nat.reduceLT, Nat.reduceEqDiff, Nat.reduceBEq, Int.reduceToNat, Int.reduceNeg, Int.reduceEq, Int.reduceNe, Int.reduceLE, Int.reduceLT, reduceCtorEq, ↓reduceIte]
        refine ls_n (k + 1) (by omega) ?_ (by omega)
        simp only [es]
        refine weak_any ?_
        simp only [vx, vz, Nat.reduceAdd, Nat.reduceSub, Nat.reduceMul, Nat.reduceLeDiff, Nat.reduceLT, Nat.reduceEqDiff, Nat.reduceBEq, Int.reduceToNat, Int.reduceNeg, Int.reduceEq, Int.reduceNe, Int.reduceLE, Int.reduceLT, reduceCtorEq, ↓reduceIte]
        rw [wr_i64 (by omega) (by omega)]
        try trivial
    · simp only [decide_eq_false_iff_not] at hc2
      rw [take_end (l := l) (by omega)]
      rw [take_end (l := l) (by omega)] at hpl
      simp only [vx, vz, Nat.reduceAdd, Nat.reduceSub, Nat.reduceMul, Nat.reduceLeDiff, Nat.reduceLT, Nat.reduceEqDiff, Nat.reduceBEq, Int.reduceToNat, Int.reduceNeg, Int.reduceEq, Int.reduceNe, Int.reduceLE, Int.reduceLT, reduceCtorEq, ↓reduceIte, hsl]
      refine ⟨by unfold maxBytes; omega, ?_⟩
      refine ls_n (i + 1) (by omega) (Weak.trans (weak_any ?_) (weak_frz2 1 (by omega) ⟨?_, trivial⟩ (kpL_refl ?_))) (by omega)
      · simp only [vx, vz, Nat.reduceAdd, Nat.reduceSub, Nat.reduceMul, Nat.reduceLeDiff, Nat.reduceLT, Nat.reduceEqDiff, Nat.reduceBEq, Int.reduceToNat, Int.reduceNeg, Int.reduceEq, Int.reduceNe, Int.reduceLE, Int.reduceLT, reduceCtorEq, ↓reduceIte]
        rw [wr_i64 (by omega) (by omega)]
        try trivial
      · show RowK _ _ _ (.live 1 (((splS l (ps.take (i + 1))).map stD).map (·.map .d)))
        rw [show (splS l (ps.take (i + 1))).map stD = (splS l (ps.take i)).map stD ++ [stD (ptsS l p)] by rw [esp, List.map_append]; rfl]
        exact rowK_snoc (e := [.osl 4 1 (ptsS l p).length 0 (ptsS l p).length]) (x := stD (ptsS l p)) ⟨.snap _ _ (sn_all (es := (ptsS l p).map slD) rfl (by simp) szl), trivial⟩
      · rfl
  · simp only [decide_eq_false_iff_not] at hc
    obtain rfl : i = ps.length := by omega
    rw [take_end (Nat.le_refl _)]
    simp only [vx, vz, Nat.reduceAdd, Nat.reduceSub, Nat.reduceMul, Nat.reduceLeDiff, Nat.reduceLT, Nat.reduceEqDiff, Nat.reduceBEq, Int.reduceToNat, Int.reduceNeg, Int.reduceEq, Int.reduceNe, Int.reduceLE, Int.reduceLT, reduceCtorEq, ↓reduceIte]
    exact sn_all (es := (splS l ps).map stD) rfl (by simp [splS]) szt
end Go.Proofs.Ar

namespace Go.Proofs.Ar
open Go.Vx
theorem rowK_mid {m : Nat} {rows : Go.Vx.Rows} {sz : Nat} {A R : List (List D)} {c : List V} {x : List D} (hk : kpL m rows c (x.map .d)) : RowK m rows (.live sz (A.map (·.map .d) ++ c :: R.map (·.map .d))) (.live sz ((A ++ x :: R).map (·.map .d))) := by
  obtain ⟨hl, hkk⟩ := kpL_nth hk
  have hsame : ∀ (B : List (List D)) (e : List V), e ∈ B.map (·.map V.d) → ∀ v ∈ e, hB m v = true ∧ oneV v = true := fun B e he v hv => by
    obtain ⟨d, _, rfl⟩ := List.mem_map.1 he
    obtain ⟨y, _, rfl⟩ := List.mem_map.1 hv
    exact ⟨rfl, rfl⟩
  refine .cells sz _ _ (by simp) fun i e e' he he' => ?_
  rw [List.map_append, List.map_cons] at he'
  rcases Nat.lt_trichotomy i A.length with h | h | h
  · rw [List.getElem?_append_left (by simpa using h)] at he he'
    rw [he] at he'; injection he' with he'; subst he'
    refine ⟨rfl, fun j v v' hv hv' => ?_⟩
    rw [hv] at hv'; injection hv' with hv'; subst hv'
    have := hsame A e (List.mem_of_getElem? he) v (List.mem_of_getElem? hv)
    exact ⟨.same _ this.1, this.2⟩
  · subst h
    rw [List.getElem?_append_right (by simp)] at he he'
    simp at he he'
    subst he he'
    refine ⟨by rw [hl], fun j v v' hv hv' => ?_⟩
    have hj : j < c.length := (List.getElem?_eq_some_iff.1 hv).1
    have h1 := hkk j hj
    rw [nth_eq, nth_eq, hv, hv'] at h1
    simp only [Option.getD_some] at h1
    obtain ⟨y, _, rfl⟩ := List.mem_map.1 (List.mem_of_getElem? hv')
    exact ⟨h1, rfl⟩
  · rw [List.getElem?_append_right (by simp; omega)] at he he'
    have e1 : i - (A.map (·.map V.d)).length = (i - A.length - 1) + 1 := by simp; omega
    rw [e1, List.getElem?_cons_succ] at he he'
    rw [he] at he'; injection he' with he'; subst he'
    refine ⟨rfl, fun j v v' hv hv' => ?_⟩
    rw [hv] at hv'; injection hv' with hv'; subst hv'
    have := hsame R e (List.mem_of_getElem? he) v (List.mem_of_getElem? hv)
    exact ⟨.same _ this.1, this.2⟩
theorem getA_mid {α : Type} {A R : List α} {c : α} {i : Nat} {g : α → Prop} (h : i = A.length) (hg : g c) : getA (A ++ c :: R) i g :=
  getA_iff.2 ⟨c, by subst h; simp, hg⟩
theorem set_mid {α : Type} {A R : List α} {c c' : α} {i : Nat} (h : i = A.length) : (A ++ c :: R).set i c' = A ++ c' :: R := by subst h; simp
theorem rowB_mid {m : Nat} {l : List Sl} {ps : List B} {n i sz : Nat} {c : List V} (h : c.all (hB m) = true) : rowB m (.live sz ((((splS l (ps.take i)).map stD).map (·.map .d)) ++ c :: (List.replicate n [D.nils]).map (·.map .d))) := by
  intro e he v hv
  rcases List.mem_append.1 he with he | he
  · obtain ⟨d, _, rfl⟩ := List.mem_map.1 he
    obtain ⟨y, _, rfl⟩ := List.mem_map.1 hv
    rfl
  · rcases List.mem_cons.1 he with rfl | he
    · exact List.all_eq_true.1 h v hv
    · obtain ⟨d, _, rfl⟩ := List.mem_map.1 he
      obtain ⟨y, _, rfl⟩ := List.mem_map.1 hv
      rfl
def preS (l : List Sl) (ps : List B) (i : Nat) : List (List V) := ((splS l (ps.take i)).map stD).map (·.map .d)
def sufS (n i : Nat) : List (List V) := (List.replicate (n - i - 1) [D.nils]).map (·.map .d)
def celS (M : List Sl) : List V := if M = [] then [.d .nils] else [.osl 4 3 M.length 0 M.length]
def tailS (M : List Sl) : Go.Vx.Rows := if M = [] then [] else [.dead, .dead, .live 4 ((M.map slD).map (·.map .d))]
theorem kp_cel {r0 : RowS} {M : List Sl} : kpL 1 (r0 :: tailS M) (celS M) ((stD M).map .d) := by
  by_cases hM : M = []
  · subst hM
    exact ⟨.snap _ _ (.nils 4), trivial⟩
  · rw [celS, tailS, if_neg hM, if_neg hM]
    exact ⟨.snap _ _ (sn_all (es := M.map slD) rfl (by simp) szl), trivial⟩
theorem t19 (l : List Sl) (ps : List B) (hl : l.length ≤ 400) (ok : ∀ x ∈ l, okS x) (hp : ps.length ≤ 20) : CallP Try.prog 19 [stV l, .d (.sl 1 (ps.map sD))] (llV (splS l ps)) := by
  have hm := hm
  refine go19 ac19 rfl ?_
  simp only [vx, vz, Nat.reduceAdd, Nat.reduceSub, Nat.reduceMul, Nat.reduceLeDiff, Nat.reduceLT, Nat.reduceEqDiff, Nat.reduceBEq, Int.reduceToNat, Int.reduceNeg, Int.reduceEq, Int.reduceNe, Int.reduceLE, Int.reduceLT, reduceCtorEq, ↓reduceIte, ac19]
  refine ⟨by omega, by omega, by omega, by omega, ?_⟩
  refine loop_st (fun i : Nat => ⟨mkF 44 [(0, stV l), (5, .osl 1 0 ps.length 0 ps.length), (13, .d (.sl 1 (ps.map sD))), (14, .d (.int .i64 ps.length)), (15, .d (.int .i64 i))], [.live 1 (((splS l (ps.take i)).map stD ++ List.replicate (ps.length - i) [D.nils]).map (·.map .d))]⟩) (fun i => i ≤ ps.length) (fun i => ps.length - i) 0 (by
    have e : ((splS l (ps.take 0)).map stD ++ List.replicate (ps.length - 0) [D.nils]).map (·.map V.d) = List.replicate ps.length [V.d .nils] := by simp [splS]
    simp only [e]
    exact weak_any (by simp only [vx, vz, Nat.reduceAdd, Nat.reduceSub, Nat.reduceMul, Nat.reduceLeDiff, Nat.reduceLT, Nat.reduceEqDiff, Nat.reduceBEq, Int.reduceToNat, Int.reduceNeg, Int.reduceEq, Int.reduceNe, Int.reduceLE, Int.reduceLT, reduceCtorEq, ↓reduceIte]; try trivial)) (by omega) (fun i hi => ?_)
  have hsl : (splS l (ps.take i)).length = i := by simp [splS]; omega
  simp only [vx, vz, Nat.reduceAdd, Nat.reduceSub, Nat.reduceMul, Nat.reduceLeDiff, Nat.reduceLT, Nat.reduceEqDiff, Nat.reduceBEq, Int.reduceToNat, Int.reduceNeg, Int.reduceEq, Int.reduceNe, Int.reduceLE, Int.reduceLT, reduceCtorEq, ↓reduceIte]
  refine cond_split (fun hc => ?_) (fun hc => ?_)
  · simp only [decide_eq_true_eq] at hc
    obtain ⟨p, hpp⟩ := get_ex (l := ps) (i := i) (by omega)
    have esp : splS l (ps.take (i + 1)) = splS l (ps.take i) ++ [ptsS l p] := by rw [take_at hpp, splS, List.map_append]; rfl
    have hpr : (preS l ps i).length = i := by simp [preS, hsl]
    have hr0 : ((splS l (ps.take i)).map stD ++ List.replicate (ps.length - i) [D.nils]).map (·.map V.d) = preS l ps i ++ [V.d .nils] :: sufS ps.length i := by
      have : ps.length - i = (ps.length - i - 1) + 1 := by omega
      rw [List.map_append, this, List.replicate_succ]; rfl
    have hrl : (preS l ps i ++ [V.d .nils] :: sufS ps.length i).length = ps.length := by simp [hpr, sufS]; omega
    have hsf : (sufS ps.length i).length = ps.length - i - 1 := by simp [sufS]
    rw [hr0]
    simp only [vx, vz, Nat.reduceAdd, Nat.reduceSub, Nat.reduceMul, Nat.reduceLeDiff, Nat.reduceLT, Nat.reduceEqDiff, Nat.reduceBEq, Int.reduceToNat, Int.reduceNeg, Int.reduceEq, Int.reduceNe, Int.reduceLE, Int.reduceLT, reduceCtorEq, ↓reduceIte]
    refine ⟨by omega, by omega, getM_at hpp ?_⟩
    simp only [vx, vz, Nat.reduceAdd, Nat.reduceSub, Nat.reduceMul, Nat.reduceLeDiff, Nat.reduceLT, Nat.reduceEqDiff, Nat.reduceBEq, Int.reduceToNat, Int.reduceNeg, Int.reduceEq, Int.reduceNe, Int.reduceLE, Int.reduceLT, reduceCtorEq, ↓reduceIte]
    simp only [vx, vz, Nat.reduceAdd, Nat.reduceSub, Nat.reduceMul, Nat.reduceLeDiff, Nat.reduceLT, Nat.reduceEqDiff, Nat.reduceBEq, Int.reduceToNat, Int.reduceNeg, Int.reduceEq, Int.reduceNe, Int.reduceLE, Int.reduceLT, reduceCtorEq, ↓reduceIte, sD]
    refine loop_st (fun k : Nat => ⟨mkF 44 [(0, stV l), (5, .osl 1 0 ps.length 0 ps.length), (6, .d (.int .i64 i)), (7, .d (.str p)), (13, .d (.sl 1 (ps.map sD))), (14, .d (.int .i64 ps.length)), (15, .d (.int .i64 i)), (20, stV l), (21, .d (.int .i64 l.length)), (22, .d (.int .i64 k))], .live 1 (preS l ps i ++ celS (ptsS (l.take k) p) :: sufS ps.length i) :: tailS (ptsS (l.take k) p)⟩) (fun k => k ≤ l.length) (fun k => l.length - k) 0 (by
      have e : ptsS (l.take 0) p = [] := by simp [ptsS]
      have e2 : celS [] = [V.d .nils] := rfl
      have e3 : tailS [] = [] := rfl
      simp only [e, e2, e3]
      exact weak_any (by simp only [vx, vz, Nat.reduceAdd, Nat.reduceSub, Nat.reduceMul, Nat.reduceLeDiff, Nat.reduceLT, Nat.reduceEqDiff, Nat.reduceBEq, Int.reduceToNat, Int.reduceNeg, Int.reduceEq, Int.reduceNe, Int.reduceLE, Int.reduceLT, reduceCtorEq, ↓reduceIte]; try trivial)) (by omega) (fun k hk => ?_)
    have hpl := pts_len (l := l) (p := p) (i := k)
    simp only [vx, vz, Nat.reduceAdd, Nat.reduceSub, Nat.reduceMul, Nat.reduceLeDiff, Nat.reduceLT, Nat.reduceEqDiff, Nat.reduceBEq, Int.reduceToNat, Int.reduceNeg, Int.reduceEq, Int.reduceNe, Int.reduceLE, Int.reduceLT, reduceCtorEq, ↓reduceIte]
    refine cond_split (fun hc2 => ?_) (fun hc2 => ?_)
    · simp only [decide_eq_true_eq] at hc2
      obtain ⟨x, hx⟩ := get_ex (l := l) (i := k) (by omega)
      have es := pts_snoc (p := p) hx
      have hxo := ok x (List.mem_of_getElem? hx)
      by_cases hM : ptsS (l.take k) p = []
      · rw [hM] at es ⊢
        rw [show celS [] = [V.d .nils] from rfl, show tailS [] = [] from rfl]
        simp only [vx, vz, Nat.reduceAdd, Nat.reduceSub, Nat.reduceMul, Nat.reduceLeDiff, Nat.reduceLT, Nat.reduceEqDiff, Nat.reduceBEq, Int.reduceToNat, Int.reduceNeg, Int.reduceEq, Int.reduceNe, Int.reduceLE, Int.reduceLT, reduceCtorEq, ↓reduceIte]
        refine ⟨by omega, by omega, getM_at hx ?_⟩
        simp only [vx, vz, Nat.reduceAdd, Nat.reduceSub, Nat.reduceMul, Nat.reduceLeDiff, Nat.reduceLT, Nat.reduceEqDiff, Nat.reduceBEq, Int.reduceToNat, Int.reduceNeg, Int.reduceEq, Int.reduceNe, Int.reduceLE, Int.reduceLT, reduceCtorEq, ↓reduceIte]
        simp only [vx, vz, Nat.reduceAdd, Nat.reduceSub, Nat.reduceMul, Nat.reduceLeDiff, Nat.reduceLT, Nat.reduceEqDiff, Nat.reduceBEq, Int.reduceToNat, Int.reduceNeg, Int.reduceEq, Int.reduceNe, Int.reduceLE, Int.reduceLT, reduceCtorEq, ↓reduceIte, slD]
        refine cond_split (fun hc3 => ?_) (fun hc3 => ?_)
        · simp only [decide_eq_true_eq] at hc3
          rw [if_pos hc3, List.nil_append] at es
          refine c_draw ?_
          simp only [vx, vz, Nat.reduceAdd, Nat.reduceSub, Nat.reduceMul, Nat.reduceLeDiff, Nat.reduceLT, Nat.reduceEqDiff, Nat.reduceBEq, Int.reduceToNat, Int.reduceNeg, Int.reduceEq, Int.reduceNe, Int.reduceLE, Int.reduceLT, reduceCtorEq, ↓reduceIte]
          repeat (refine d_k rfl rfl ?_; simp only [vx, vz, Nat.reduceAdd, Nat.reduceSub, Nat.reduceMul, Nat.reduceLeDiff, Nat.reduceLT, Nat.reduceEqDiff, Nat.reduceBEq, Int.reduceToNat, Int.reduceNeg, Int.reduceEq, Int.reduceNe, Int.reduceLE, Int.reduceLT, reduceCtorEq, ↓reduceIte])
          refine ⟨by omega, by omega, by omega, ?_⟩
          repeat (refine d_k rfl rfl ?_; simp only [vx, vz, Nat.reduceAdd, Nat.reduceSub, Nat.reduceMul, Nat.reduceLeDiff, Nat.reduceLT, Nat.reduceEqDiff, Nat.reduceBEq, Int.reduceToNat, Int.reduceNeg, Int.reduceEq, Int.reduceNe, Int.reduceLE, Int.reduceLT, reduceCtorEq, ↓reduceIte])
          refine ⟨by omega, getA_mid (by omega) ?_⟩
          simp only [vx, vz, Nat.reduceAdd, Nat.reduceSub, Nat.reduceMul, Nat.reduceLeDiff, Nat.reduceLT, Nat.reduceEqDiff, Nat.reduceBEq, Int.reduceToNat, Int.reduceNeg, Int.reduceEq, Int.reduceNe, Int.reduceLE, Int.reduceLT, reduceCtorEq, ↓reduceIte]
          repeat (refine d_k rfl rfl ?_; simp only [vx, vz, Nat.reduceAdd, Nat.reduceSub, Nat.reduceMul, Nat.reduceLeDiff, Nat.reduceLT, Nat.reduceEqDiff, Nat.reduceBEq, Int.reduceToNat, Int.reduceNeg, Int.reduceEq, Int.reduceNe, Int.reduceLE, Int.reduceLT, reduceCtorEq, ↓reduceIte])
          refine call_p rfl (t34 x hxo) ?_
          repeat (refine d_k rfl rfl ?_; simp only [vx, vz, Nat.reduceAdd, Nat.reduceSub, Nat.reduceMul, Nat.reduceLeDiff, Nat.reduceLT, Nat.reduceEqDiff, Nat.reduceBEq, Int.reduceToNat, Int.reduceNeg, Int.reduceEq, Int.reduceNe, Int.reduceLE, Int.reduceLT, reduceCtorEq, ↓reduceIte])
          refine ⟨by unfold maxBytes; omega, ?_⟩
          repeat (refine d_k rfl rfl ?_; simp only [vx, vz, Nat.reduceAdd, Nat.reduceSub, Nat.reduceMul, Nat.reduceLeDiff, Nat.reduceLT, Nat.reduceEqDiff, Nat.reduceBEq, Int.reduceToNat, Int.reduceNeg, Int.reduceEq, Int.reduceNe, Int.reduceLE, Int.reduceLT, reduceCtorEq, ↓reduceIte])
          refine ⟨by omega, by omega, by omega, ?_⟩
          repeat (refine d_k rfl rfl ?_; simp only [vx, vz, Nat.reduceAdd, Nat.reduceSub, Nat.reduceMul, Nat.reduceLeDiff, Nat.reduceLT, Nat.reduceEqDiff, Nat.reduceBEq, Int.reduceToNat, Int.reduceNeg, Int.reduceEq, Int.reduceNe, Int.reduceLE, Int.reduceLT, reduceCtorEq, ↓reduceIte])
          refine ⟨by omega, getA_mid (by omega) ?_⟩
          simp only [vx, vz, Nat.reduceAdd, Nat.reduceSub, Nat.reduceMul, Nat.reduceLeDiff, Nat.reduceLT, Nat.reduceEqDiff, Nat.reduceBEq, Int.reduceToNat, Int.reduceNeg, Int.reduceEq, Int.reduceNe, Int.reduceLE, Int.reduceLT, reduceCtorEq, ↓reduceIte]
          rw [set_mid (by omega)]
          repeat (refine d_k rfl rfl ?_; simp only [vx, vz, Nat.reduceAdd, Nat.reduceSub, Nat.reduceMul, Nat.reduceLeDiff, Nat.reduceLT, Nat.reduceEqDiff, Nat.reduceBEq, Int.reduceToNat, Int.reduceNeg, Int.reduceEq, Int.reduceNe, Int.reduceLE, Int.reduceLT, reduceCtorEq, ↓reduceIte])
          refine ls_n (k + 1) (by omega) ?_ (by omega)
          have e2 : celS [x] = [V.osl 4 3 1 0 1] := rfl
          have e3 : tailS [x] = [.dead, .dead, .live 4 (([x].map slD).map (·.map .d))] := rfl
          simp only [es, e2, e3]
          refine Weak.trans (weak_any ?_) (weak_dead [1, 2] rfl)
          simp only [vx, vz, Nat.reduceAdd, Nat.reduceSub, Nat.reduceMul, Nat.reduceLeDiff, Nat.reduceLT, Nat.reduceEqDiff, Nat.reduceBEq, Int.reduceToNat, Int.reduceNeg, Int.reduceEq, Int.reduceNe, Int.reduceLE, Int.reduceLT, reduceCtorEq, ↓reduceIte]
          rw [wr_i64 (by omega) (by omega)]
          try trivial
        · simp only [decide_eq_false_iff_not] at hc3
          rw [if_neg hc3] at es
          simp only [vx, vz, Nat.reduceAdd, Nat.reduceSub, Nat.reduceMul, Nat.reduceLeDiff, Nat.reduceLT, Nat.reduceEqDiff, Nat.reduceBEq, Int.reduceToNat, Int.reduceNeg, Int.reduceEq, Int.reduceNe, Int.reduceLE, Int.reduceLT, reduceCtorEq, ↓reduceIte]
          refine ls_n (k + 1) (by omega) ?_ (by omega)
          simp only [es, show celS [] = [V.d .nils] from rfl, show tailS [] = [] from rfl]
          refine Weak.trans (weak_any ?_) (weak_frzA (A := [_]) (Nat.zero_le _) ⟨.same _ ?_, trivial⟩ (kpL_refl ?_))
          · simp only [vx, vz, Nat.reduceAdd, Nat.reduceSub, Nat.reduceMul, Nat.reduceLeDiff, Nat.reduceLT, Nat.reduceEqDiff, Nat.reduceBEq, Int.reduceToNat, Int.reduceNeg, Int.reduceEq, Int.reduceNe, Int.reduceLE, Int.reduceLT, reduceCtorEq, ↓reduceIte]
            rw [wr_i64 (by omega) (by omega)]
            try trivial
          · exact rowB_mid rfl
          · rfl
      · obtain ⟨M, hMM⟩ : ∃ M, ptsS (l.take k) p = M := ⟨_, rfl⟩
        rw [hMM] at es hM hpl ⊢
        have e2 : celS M = [V.osl 4 3 M.length 0 M.length] := if_neg hM
        have e3 : tailS M = [.dead, .dead, .live 4 ((M.map slD).map (·.map .d))] := if_neg hM
        rw [e2, e3]
        simp only [vx, vz, Nat.reduceAdd, Nat.reduceSub, Nat.reduceMul, Nat.reduceLeDiff, Nat.reduceLT, Nat.reduceEqDiff, Nat.reduceBEq, Int.reduceToNat, Int.reduceNeg, Int.reduceEq, Int.reduceNe, Int.reduceLE, Int.reduceLT, reduceCtorEq, ↓reduceIte]
        refine ⟨by omega, by omega, getM_at hx ?_⟩
        simp only [vx, vz, Nat.reduceAdd, Nat.reduceSub, Nat.reduceMul, Nat.reduceLeDiff, Nat.reduceLT, Nat.reduceEqDiff, Nat.reduceBEq, Int.reduceToNat, Int.reduceNeg, Int.reduceEq, Int.reduceNe, Int.reduceLE, Int.reduceLT, reduceCtorEq, ↓reduceIte]
        simp only [vx, vz, Nat.reduceAdd, Nat.reduceSub, Nat.reduceMul, Nat.reduceLeDiff, Nat.reduceLT, Nat.reduceEqDiff, Nat.reduceBEq, Int.reduceToNat, Int.reduceNeg, Int.reduceEq, Int.reduceNe, Int.reduceLE, Int.reduceLT, reduceCtorEq, ↓reduceIte, slD]
        refine cond_split (fun hc3 => ?_) (fun hc3 => ?_)
        · simp only [decide_eq_true_eq] at hc3
          rw [if_pos hc3] at es
          refine c_draw ?_
          simp only [vx, vz, Nat.reduceAdd, Nat.reduceSub, Nat.reduceMul, Nat.reduceLeDiff, Nat.reduceLT, Nat.reduceEqDiff, Nat.reduceBEq, Int.reduceToNat, Int.reduceNeg, Int.reduceEq, Int.reduceNe, Int.reduceLE, Int.reduceLT, reduceCtorEq, ↓reduceIte]
          repeat (refine d_k rfl rfl ?_; simp only [vx, vz, Nat.reduceAdd, Nat.reduceSub, Nat.reduceMul, Nat.reduceLeDiff, Nat.reduceLT, Nat.reduceEqDiff, Nat.reduceBEq, Int.reduceToNat, Int.reduceNeg, Int.reduceEq, Int.reduceNe, Int.reduceLE, Int.reduceLT, reduceCtorEq, ↓reduceIte])
          refine ⟨by omega, by omega, by omega, ?_⟩
          repeat (refine d_k rfl rfl ?_; simp only [vx, vz, Nat.reduceAdd, Nat.reduceSub, Nat.reduceMul, Nat.reduceLeDiff, Nat.reduceLT, Nat.reduceEqDiff, Nat.reduceBEq, Int.reduceToNat, Int.reduceNeg, Int.reduceEq, Int.reduceNe, Int.reduceLE, Int.reduceLT, reduceCtorEq, ↓reduceIte])
          refine ⟨by omega, getA_mid (by omega) ?_⟩
          simp only [vx, vz, Nat.reduceAdd, Nat.reduceSub, Nat.reduceMul, Nat.reduceLeDiff, Nat.reduceLT, Nat.reduceEqDiff, Nat.reduceBEq, Int.reduceToNat, Int.reduceNeg, Int.reduceEq, Int.reduceNe, Int.reduceLE, Int.reduceLT, reduceCtorEq, ↓reduceIte]
          repeat (refine d_k rfl rfl ?_; simp only [vx, vz, Nat.reduceAdd, Nat.reduceSub, Nat.reduceMul, Nat.reduceLeDiff, Nat.reduceLT, Nat.reduceEqDiff, Nat.reduceBEq, Int.reduceToNat, Int.reduceNeg, Int.reduceEq, Int.reduceNe, Int.reduceLE, Int.reduceLT, reduceCtorEq, ↓reduceIte])
          refine call_p rfl (t34 x hxo) ?_
          repeat (refine d_k rfl rfl ?_; simp only [vx, vz, Nat.reduceAdd, Nat.reduceSub, Nat.reduceMul, Nat.reduceLeDiff, Nat.reduceLT, Nat.reduceEqDiff, Nat.reduceBEq, Int.reduceToNat, Int.reduceNeg, Int.reduceEq, Int.reduceNe, Int.reduceLE, Int.reduceLT, reduceCtorEq, ↓reduceIte])
          refine ⟨by unfold maxBytes; omega, ?_⟩
          repeat (refine d_k rfl rfl ?_; simp only [vx, vz, Nat.reduceAdd, Nat.reduceSub, Nat.reduceMul, Nat.reduceLeDiff, Nat.reduceLT, Nat.reduceEqDiff, Nat.reduceBEq, Int.reduceToNat, Int.reduceNeg, Int.reduceEq, Int.reduceNe, Int.reduceLE, Int.reduceLT, reduceCtorEq, ↓reduceIte])
          refine ⟨by omega, by omega, by omega, ?_⟩
          repeat (refine d_k rfl rfl ?_; simp only [vx, vz, Nat.reduceAdd, Nat.reduceSub, Nat.reduceMul, Nat.reduceLeDiff, Nat.reduceLT, Nat.reduceEqDiff, Nat.reduceBEq, Int.reduceToNat, Int.reduceNeg, Int.reduceEq, Int.reduceNe, Int.reduceLE, Int.reduceLT, reduceCtorEq, ↓reduceIte])
          refine ⟨by omega, getA_mid (by omega) ?_⟩
          simp only [vx, vz, Nat.reduceAdd, Nat.reduceSub, Nat.reduceMul, Nat.reduceLeDiff, Nat.reduceLT, Nat.reduceEqDiff, Nat.reduceBEq, Int.reduceToNat, Int.reduceNeg, Int.reduceEq, Int.reduceNe, Int.reduceLE, Int.reduceLT, reduceCtorEq, ↓reduceIte]
          rw [set_mid (by omega)]
          repeat (refine d_k rfl rfl ?_; simp only [vx, vz, Nat.reduceAdd, Nat.reduceSub, Nat.reduceMul, Nat.reduceLeDiff, Nat.reduceLT, Nat.reduceEqDiff, Nat.reduceBEq, Int.reduceToNat, Int.reduceNeg, Int.reduceEq, Int.reduceNe, Int.reduceLE, Int.reduceLT, reduceCtorEq, ↓reduceIte])
          refine ls_n (k + 1) (by omega) ?_ (by omega)
          have hne : M ++ [x] ≠ [] := by simp
          have e4 : celS (M ++ [x]) = [V.osl 4 3 (M.length + 1) 0 (M.length + 1)] := by rw [celS, if_neg hne, List.length_append]; rfl
          have e5 : tailS (M ++ [x]) = [.dead, .dead, .live 4 (((M ++ [x]).map slD).map (·.map .d))] := if_neg hne
          simp only [es, e4, e5]
          refine Weak.trans (weak_any ?_) (weak_frz2 4 (by omega) ⟨.same _ (rowB_mid rfl), .same _ trivial, .same _ trivial, rowK_sl, trivial⟩ (kpL_refl ?_))
          · simp only [vx, vz, Nat.reduceAdd, Nat.reduceSub, Nat.reduceMul, Nat.reduceLeDiff, Nat.reduceLT, Nat.reduceEqDiff, Nat.reduceBEq, Int.reduceToNat, Int.reduceNeg, Int.reduceEq, Int.reduceNe, Int.reduceLE, Int.reduceLT, reduceCtorEq, ↓reduceIte]
            rw [wr_i64 (by omega) (by omega)]
            try trivial
          · rfl
        · simp only [decide_eq_false_iff_not] at hc3
          rw [if_neg hc3] at es
          simp only [vx, vz, Nat.reduceAdd, Nat.reduceSub, Nat.reduceMul, Nat.reduceLeDiff, Nat.reduceLT, Nat.reduceEqDiff, Nat.reduceBEq, Int.reduceToNat, Int.reduceNeg, Int.reduceEq, Int.reduceNe, Int.reduceLE, Int.reduceLT, reduceCtorEq, ↓reduceIte]
          refine ls_n (k + 1) (by omega) ?_ (by omega)
          simp only [es, e2, e3]
          refine Weak.trans (weak_any ?_) (weak_frz2 4 (by omega) ⟨.same _ (rowB_mid rfl), .same _ trivial, .same _ trivial, .same _ rowB_data, trivial⟩ (kpL_refl ?_))
          · simp only [vx, vz, Nat.reduceAdd, Nat.reduceSub, Nat.reduceMul, Nat.reduceLeDiff, Nat.reduceLT, Nat.reduceEqDiff, Nat.reduceBEq, Int.reduceToNat, Int.reduceNeg, Int.reduceEq, Int.reduceNe, Int.reduceLE, Int.reduceLT, reduceCtorEq, ↓reduceIte]
            rw [wr_i64 (by omega) (by omega)]
            try trivial
          · rfl
    · simp only [decide_eq_false_iff_not] at hc2
      rw [take_end (l := l) (by omega)]
      rw [take_end (l := l) (by omega)] at hpl
      have hr1 : ((splS l (ps.take (i + 1))).map stD ++ List.replicate (ps.length - (i + 1)) [D.nils]).map (·.map V.d) = (((splS l (ps.take i)).map stD) ++ stD (ptsS l p) :: List.replicate (ps.length - i - 1) [D.nils]).map (·.map V.d) := by
        rw [esp, show ps.length - (i + 1) = ps.length - i - 1 by omega, List.map_append (l₁ := splS l (ps.take i)), List.append_assoc]; rfl
      simp only [vx, vz, Nat.reduceAdd, Nat.reduceSub, Nat.reduceMul, Nat.reduceLeDiff, Nat.reduceLT, Nat.reduceEqDiff, Nat.reduceBEq, Int.reduceToNat, Int.reduceNeg, Int.reduceEq, Int.reduceNe, Int.reduceLE, Int.reduceLT, reduceCtorEq, ↓reduceIte]
      refine ls_n (i + 1) (by omega) ?_ (by omega)
      rw [hr1]
      refine Weak.trans (weak_any ?_) (weak_frz2 1 (by omega) ⟨rowK_mid (x := stD (ptsS l p)) kp_cel, trivial⟩ (kpL_refl ?_))
      · simp only [vx, vz, Nat.reduceAdd, Nat.reduceSub, Nat.reduceMul, Nat.reduceLeDiff, Nat.reduceLT, Nat.reduceEqDiff, Nat.reduceBEq, Int.reduceToNat, Int.reduceNeg, Int.reduceEq, Int.reduceNe, Int.reduceLE, Int.reduceLT, reduceCtorEq, ↓reduceIte]
        rw [wr_i64 (by omega) (by omega)]
        try trivial
      · rfl
  · simp only [decide_eq_false_iff_not] at hc
    obtain rfl : i = ps.length := by omega
    have e : ((splS l (ps.take ps.length)).map stD ++ List.replicate (ps.length - ps.length) [D.nils]) = (splS l ps).map stD := by rw [take_end (Nat.le_refl _), Nat.sub_self]; simp
    rw [e]
    simp only [vx, vz, Nat.reduceAdd, Nat.reduceSub, Nat.reduceMul, Nat.reduceLeDiff, Nat.reduceLT, Nat.reduceEqDiff, Nat.reduceBEq, Int.reduceToNat, Int.reduceNeg, Int.reduceEq, Int.reduceNe, Int.reduceLE, Int.reduceLT, reduceCtorEq, ↓reduceIte]
    exact sn_all (es := (splS l ps).map stD) rfl (by simp [splS]) szt
end Go.Proofs.Ar
