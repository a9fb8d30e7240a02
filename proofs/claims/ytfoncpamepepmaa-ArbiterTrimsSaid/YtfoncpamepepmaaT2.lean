import Derived.Test.YtfoncpamepepmaaT1
set_option linter.unusedSimpArgs false
set_option linter.unusedVariables false
namespace Go.Proofs.Ar
open Go.Vx
theorem weak_dead {b0 : Nat} {fr : List V} {rows rows' : Go.Vx.Rows} (hs : List Nat) (he : setRows rows (hs.map fun h => (h, RowS.dead)) = rows') : Weak b0 ⟨fr, rows⟩ ⟨fr, rows'⟩ := by
  subst he
  rintro c0 a w - ⟨ρ, I, ok, hx, hd, hl, hf⟩
  obtain ⟨h1, h2⟩ := kill_ok ok hs
  exact ⟨_, _, h1, hx.trans h2, hd, hl, fun i => (hf i).mono h2 ok⟩
theorem t22 (l : List Sl) (hl : l.length ≤ 20) : CallP Try.prog 22 [stV l] (stV (trimS l)) := by
  have hm := hm
  refine go22 ac22 rfl ?_
  simp only [vx, vz, Nat.reduceAdd, Nat.reduceSub, Nat.reduceMul, Nat.reduceLeDiff, Nat.reduceLT, Nat.reduceEqDiff, Nat.reduceBEq, Int.reduceToNat, Int.reduceNeg, Int.reduceEq, Int.reduceNe, Int.reduceLE, Int.reduceLT, reduceCtorEq, ↓reduceIte, ac22]
  refine loop_st (fun n : Nat => ⟨mkF 23 [(0, stV l), (3, .d (.int .i64 n))], []⟩) (fun n => n ≤ l.length ∧ trimN l l.length = trimN l n) (fun n => n) l.length (weak_any (by simp only [vx, vz, Nat.reduceAdd, Nat.reduceSub, Nat.reduceMul, Nat.reduceLeDiff, Nat.reduceLT, Nat.reduceEqDiff, Nat.reduceBEq, Int.reduceToNat, Int.reduceNeg, Int.reduceEq, Int.reduceNe, Int.reduceLE, Int.reduceLT, reduceCtorEq, ↓reduceIte]; try trivial)) ⟨Nat.le_refl _, rfl⟩ (fun n hn => ?_)
  obtain ⟨h1, h2⟩ := hn
  have hc0 : n = 0 ∨ ∃ k, n = k + 1 := by cases n with | zero => exact .inl rfl | succ k => exact .inr ⟨k, rfl⟩
  rcases hc0 with h0 | ⟨k, hk⟩
  · have h2 : trimN l l.length = n := by rw [h2, h0]; rfl
    simp only [vx, vz, Nat.reduceAdd, Nat.reduceSub, Nat.reduceMul, Nat.reduceLeDiff, Nat.reduceLT, Nat.reduceEqDiff, Nat.reduceBEq, Int.reduceToNat, Int.reduceNeg, Int.reduceEq, Int.reduceNe, Int.reduceLE, Int.reduceLT, reduceCtorEq, ↓reduceIte, df (show ¬ (0 : Int) < n by omega)]
    have hml : (List.take n (List.map slD l)).length = n := by simp; omega
    rw [hml]
    refine ⟨by omega, by omega, by unfold maxBytes; omega, ?_⟩
    rw [trimS, h2]
    exact sn_all (es := (l.take n).map slD) (by simp only [Go.Vx.rowAt, List.map_take]) (by simp; omega) szl
  · obtain ⟨x, hx⟩ := get_ex (l := l) (i := k) (by omega)
    rw [hk, trimN, hx] at h2
    simp only at h2
    simp only [vx, vz, Nat.reduceAdd, Nat.reduceSub, Nat.reduceMul, Nat.reduceLeDiff, Nat.reduceLT, Nat.reduceEqDiff, Nat.reduceBEq, Int.reduceToNat, Int.reduceNeg, Int.reduceEq, Int.reduceNe, Int.reduceLE, Int.reduceLT, reduceCtorEq, ↓reduceIte, dt (show (0 : Int) < n by omega)]
    have e1 : IntKind.i64.wrap ((n : Int) - 1) = (k : Nat) := by rw [wr_i64 (by omega) (by omega)]; omega
    rw [e1]
    refine ⟨by omega, by omega, getM_at hx ?_⟩
    simp only [vx, vz, Nat.reduceAdd, Nat.reduceSub, Nat.reduceMul, Nat.reduceLeDiff, Nat.reduceLT, Nat.reduceEqDiff, Nat.reduceBEq, Int.reduceToNat, Int.reduceNeg, Int.reduceEq, Int.reduceNe, Int.reduceLE, Int.reduceLT, reduceCtorEq, ↓reduceIte]
    simp only [vx, vz, Nat.reduceAdd, Nat.reduceSub, Nat.reduceMul, Nat.reduceLeDiff, Nat.reduceLT, Nat.reduceEqDiff, Nat.reduceBEq, Int.reduceToNat, Int.reduceNeg, Int.reduceEq, Int.reduceNe, Int.reduceLE, Int.reduceLT, reduceCtorEq, ↓reduceIte, slD]
    cases hxi : x.1 with
    | true =>
      rw [hxi, if_pos rfl] at h2
      simp only [vx, vz, Nat.reduceAdd, Nat.reduceSub, Nat.reduceMul, Nat.reduceLeDiff, Nat.reduceLT, Nat.reduceEqDiff, Nat.reduceBEq, Int.reduceToNat, Int.reduceNeg, Int.reduceEq, Int.reduceNe, Int.reduceLE, Int.reduceLT, reduceCtorEq, ↓reduceIte]
      refine ls_n k (by omega) (weak_any ?_) ⟨by omega, h2⟩
      simp only [vx, vz, Nat.reduceAdd, Nat.reduceSub, Nat.reduceMul, Nat.reduceLeDiff, Nat.reduceLT, Nat.reduceEqDiff, Nat.reduceBEq, Int.reduceToNat, Int.reduceNeg, Int.reduceEq, Int.reduceNe, Int.reduceLE, Int.reduceLT, reduceCtorEq, ↓reduceIte]
      rw [e1]
      try trivial
    | false =>
      rw [hxi, if_neg (by decide)] at h2
      have h2 : trimN l l.length = n := by rw [h2, hk]
      simp only [vx, vz, Nat.reduceAdd, Nat.reduceSub, Nat.reduceMul, Nat.reduceLeDiff, Nat.reduceLT, Nat.reduceEqDiff, Nat.reduceBEq, Int.reduceToNat, Int.reduceNeg, Int.reduceEq, Int.reduceNe, Int.reduceLE, Int.reduceLT, reduceCtorEq, ↓reduceIte]
      have hml : (List.take n (List.map slD l)).length = n := by simp; omega
      rw [hml]
      refine ⟨by omega, by omega, by unfold maxBytes; omega, ?_⟩
      rw [trimS, h2]
      exact sn_all (es := (l.take n).map slD) (by simp only [Go.Vx.rowAt, List.map_take]) (by simp; omega) szl
def ptsS (l : List Sl) (p : B) : List Sl := l.filter fun s => decide (s.2.2.2 = p)
theorem pts_snoc {l : List Sl} {p : B} {i : Nat} {x : Sl} (h : l[i]? = some x) : ptsS (l.take (i + 1)) p = if x.2.2.2 = p then ptsS (l.take i) p ++ [x] else ptsS (l.take i) p := by
  rw [take_at h, ptsS, List.filter_append]
  by_cases hx : x.2.2.2 = p <;> simp [ptsS, hx]
theorem pts_len {l : List Sl} {p : B} {i : Nat} : (ptsS (l.take i) p).length ≤ l.length := by
  refine Nat.le_trans (List.length_filter_le _ _) ?_
  rw [List.length_take]; omega
def splS (l : List Sl) (ps : List B) : List (List Sl) := ps.map (ptsS l)
theorem t20 (l : List Sl) (ps : List B) (hl : l.length ≤ 400) (hp : ps.length ≤ 20) : CallP Try.prog 20 [stV l, .d (.sl 1 (ps.map sD))] (llV (splS l ps)) := by
  have hm := hm
  refine go20 ac20 rfl ?_
  simp only [vx, vz, Nat.reduceAdd, Nat.reduceSub, Nat.reduceMul, Nat.reduceLeDiff, Nat.reduceLT, Nat.reduceEqDiff, Nat.reduceBEq, Int.reduceToNat, Int.reduceNeg, Int.reduceEq, Int.reduceNe, Int.reduceLE, Int.reduceLT, reduceCtorEq, ↓reduceIte, ac20]
  refine loop_st (fun i : Nat => ⟨mkF 43 [(0, stV l), (1, .d (.sl 1 (ps.map sD))), (5, .osl 1 0 i 0 i), (6, .d (.int .i64 i))], [.live 1 (((splS l (ps.take i)).map stD).map (·.map .d))]⟩) (fun i => i ≤ ps.length) (fun i => ps.length - i) 0 (Weak.trans (weak_nils 5 1 rfl) (weak_any (by simp only [vx, vz, Nat.reduceAdd, Nat.reduceSub, Nat.reduceMul, Nat.reduceLeDiff, Nat.reduceLT, Nat.reduceEqDiff, Nat.reduceBEq, Int.reduceToNat, Int.reduceNeg, Int.reduceEq, Int.reduceNe, Int.reduceLE, Int.reduceLT, reduceCtorEq, ↓reduceIte]; try trivial))) (by omega) (fun i hi => ?_)
  have hsl : (splS l (ps.take i)).length = i := by simp [splS]; omega
  simp only [vx, vz, Nat.reduceAdd, Nat.reduceSub, Nat.reduceMul, Nat.reduceLeDiff, Nat.reduceLT, Nat.reduceEqDiff, Nat.reduceBEq, Int.reduceToNat, Int.reduceNeg, Int.reduceEq, Int.reduceNe, Int.reduceLE, Int.reduceLT, reduceCtorEq, ↓reduceIte]
  refine cond_split (fun hc => ?_) (fun hc => ?_)
  · simp only [decide_eq_true_eq] at hc
    obtain ⟨p, hpp⟩ := get_ex (l := ps) (i := i) (by omega)
    have esp : splS l (ps.take (i + 1)) = splS l (ps.take i) ++ [ptsS l p] := by rw [take_at hpp, splS, List.map_append]; rfl
    simp only [vx, vz, Nat.reduceAdd, Nat.reduceSub, Nat.reduceMul, Nat.reduceLeDiff, Nat.reduceLT, Nat.reduceEqDiff, Nat.reduceBEq, Int.reduceToNat, Int.reduceNeg, Int.reduceEq, Int.reduceNe, Int.reduceLE, Int.reduceLT, reduceCtorEq, ↓reduceIte]
    refine loop_st (fun k : Nat => ⟨mkF 43 [(0, stV l), (1, .d (.sl 1 (ps.map sD))), (5, .osl 1 0 i 0 i), (6, .d (.int .i64 i)), (7, .osl 4 1 (ptsS (l.take k) p).length 0 (ptsS (l.take k) p).length), (8, .d (.int .i64 k))], [.live 1 (((splS l (ps.take i)).map stD).map (·.map .d)), .live 4 (((ptsS (l.take k) p).map slD).map (·.map .d))]⟩) (fun k => k ≤ l.length) (fun k => l.length - k) 0 (Weak.trans (weak_nils 7 4 rfl) (weak_any (by simp only [vx, vz, Nat.reduceAdd, Nat.reduceSub, Nat.reduceMul, Nat.reduceLeDiff, Nat.reduceLT, Nat.reduceEqDiff, Nat.reduceBEq, Int.reduceToNat, Int.reduceNeg, Int.reduceEq, Int.reduceNe, Int.reduceLE, Int.reduceLT, reduceCtorEq, ↓reduceIte]; try trivial))) (by omega) (fun k hk => ?_)
    have hpl := pts_len (l := l) (p := p) (i := k)
    simp only [vx, vz, Nat.reduceAdd, Nat.reduceSub, Nat.reduceMul, Nat.reduceLeDiff, Nat.reduceLT, Nat.reduceEqDiff, Nat.reduceBEq, Int.reduceToNat, Int.reduceNeg, Int.reduceEq, Int.reduceNe, Int.reduceLE, Int.reduceLT, reduceCtorEq, ↓reduceIte]
    refine cond_split (fun hc2 => ?_) (fun hc2 => ?_)
    · simp only [decide_eq_true_eq] at hc2
      obtain ⟨x, hx⟩ := get_ex (l := l) (i := k) (by omega)
      have es := pts_snoc (p := p) hx
      simp only [vx, vz, Nat.reduceAdd, Nat.reduceSub, Nat.reduceMul, Nat.reduceLeDiff, Nat.reduceLT, Nat.reduceEqDiff, Nat.reduceBEq, Int.reduceToNat, Int.reduceNeg, Int.reduceEq, Int.reduceNe, Int.reduceLE, Int.reduceLT, reduceCtorEq, ↓reduceIte]
      refine c_quiet rfl ?_
      simp only [vx, vz, Nat.reduceAdd, Nat.reduceSub, Nat.reduceMul, Nat.reduceLeDiff, Nat.reduceLT, Nat.reduceEqDiff, Nat.reduceBEq, Int.reduceToNat, Int.reduceNeg, Int.reduceEq, Int.reduceNe, Int.reduceLE, Int.reduceLT, reduceCtorEq, ↓reduceIte]
      refine ⟨by omega, by omega, getM_at hx ?_⟩
      simp only [vx, vz, Nat.reduceAdd, Nat.reduceSub, Nat.reduceMul, Nat.reduceLeDiff, Nat.reduceLT, Nat.reduceEqDiff, Nat.reduceBEq, Int.reduceToNat, Int.reduceNeg, Int.reduceEq, Int.reduceNe, Int.reduceLE, Int.reduceLT, reduceCtorEq, ↓reduceIte]
      simp only [vx, vz, Nat.reduceAdd, Nat.reduceSub, Nat.reduceMul, Nat.reduceLeDiff, Nat.reduceLT, Nat.reduceEqDiff, Nat.reduceBEq, Int.reduceToNat, Int.reduceNeg, Int.reduceEq, Int.reduceNe, Int.reduceLE, Int.reduceLT, reduceCtorEq, ↓reduceIte, slD]
      refine ⟨by omega, by omega, getM_at hpp ?_⟩
      simp only [vx, vz, Nat.reduceAdd, Nat.reduceSub, Nat.reduceMul, Nat.reduceLeDiff, Nat.reduceLT, Nat.reduceEqDiff, Nat.reduceBEq, Int.reduceToNat, Int.reduceNeg, Int.reduceEq, Int.reduceNe, Int.reduceLE, Int.reduceLT, reduceCtorEq, ↓reduceIte]
      simp only [vx, vz, Nat.reduceAdd, Nat.reduceSub, Nat.reduceMul, Nat.reduceLeDiff, Nat.reduceLT, Nat.reduceEqDiff, Nat.reduceBEq, Int.reduceToNat, Int.reduceNeg, Int.reduceEq, Int.reduceNe, Int.reduceLE, Int.reduceLT, reduceCtorEq, ↓reduceIte, sD]
      refine cond_split (fun hc3 => ?_) (fun hc3 => ?_)
      · simp only [decide_eq_true_eq] at hc3
        rw [if_pos hc3] at es
        simp only [vx, vz, Nat.reduceAdd, Nat.reduceSub, Nat.reduceMul, Nat.reduceLeDiff, Nat.reduceLT, Nat.reduceEqDiff, Nat.reduceBEq, Int.reduceToNat, Int.reduceNeg, Int.reduceEq, Int.reduceNe, Int.reduceLE, Int.reduceLT, reduceCtorEq, ↓reduceIte]
        refine ⟨by omega, by omega, getM_at hx ?_⟩
        simp only [vx, vz, Nat.reduceAdd, Nat.reduceSub, Nat.reduceMul, Nat.reduceLeDiff, Nat.reduceLT, Nat.reduceEqDiff, Nat.reduceBEq, Int.reduceToNat, Int.reduceNeg, Int.reduceEq, Int.reduceNe, Int.reduceLE, Int.reduceLT, reduceCtorEq, ↓reduceIte]
        simp only [vx, vz, Nat.reduceAdd, Nat.reduceSub, Nat.reduceMul, Nat.reduceLeDiff, Nat.reduceLT, Nat.reduceEqDiff, Nat.reduceBEq, Int.reduceToNat, Int.reduceNeg, Int.reduceEq, Int.reduceNe, Int.reduceLE, Int.reduceLT, reduceCtorEq, ↓reduceIte, slD]
        refine ⟨by unfold maxBytes; omega, ?_⟩
        refine ls_n (k + 1) (by omega) (Weak.trans (weak_any ?_) (weak_frz2 2 (by omega) ⟨.same _ rowB_data, ?_, trivial⟩ (kpL_refl ?_))) (by omega)
        · simp only [vx, vz, Nat.reduceAdd, Nat.reduceSub, Nat.reduceMul, Nat.reduceLeDiff, Nat.reduceLT, Nat.reduceEqDiff, Nat.reduceBEq, Int.reduceToNat, Int.reduceNeg, Int.reduceEq, Int.reduceNe, Int.reduceLE, Int.reduceLT, reduceCtorEq, ↓reduceIte]
          rw [wr_i64 (by omega) (by omega), es, List.length_append]
          exact ⟨rfl, rfl⟩
        · show RowK _ _ _ (.live 4 (((ptsS (l.take (k + 1)) p).map slD).map (·.map .d)))
          rw [es]
          exact rowK_sl
        · rfl
      · simp only [decide_eq_false_iff_not] at hc3
        rw [if_neg hc3] at es
        simp only [vx, vz, Nat.reduceAdd, Nat.reduceSub, Nat.reduceMul, Nat.reduceLeDiff, Nat.reduceLT, Nat.reduceEqDiff, Nat.reduceBEq, Int.reduceToNat, Int.reduceNeg, Int.reduceEq, Int.reduceNe, Int.reduceLE, Int.reduceLT, reduceCtorEq, ↓reduceIte]
        refine ls_n (k + 1) (by omega) ?_ (by omega)
        simp only [es]
        refine weak_any ?_
        simp only [vx, vz, Nat.reduceAdd, Nat.reduceSub, Nat.reduceMul, Nat.reduceLeDiff, Nat.reduceLT, Nat.reduceEqDiff, Nat.reduceBEq, Int.reduceToNat, Int.reduceNeg, Int.reduceEq, Int.reduceNe, Int.reduceLE, Int.reduceLT, reduceCtorEq, ↓reduceIte]
        rw [wr_i64 (by omega) (by omega)]
        try trivial
    · simp only [decide_eq_false_iff_not] at hc2
      rw [take_end (l := l) (by omega)]
      rw [take_end (l := l) (by omega)] at hpl
      simp only [vx, vz, Nat.reduceAdd, Nat.reduceSub, Nat.reduceMul, Nat.reduceLeDiff, Nat.reduceLT, Nat.reduceEqDiff, Nat.reduceBEq, Int.reduceToNat, Int.reduceNeg, Int.reduceEq, Int.reduceNe, Int.reduceLE, Int.reduceLT, reduceCtorEq, ↓reduceIte, hsl]
      refine ⟨by unfold maxBytes; omega, ?_⟩
      refine ls_n (i + 1) (by omega) (Weak.trans (weak_any ?_) (weak_frz2 1 (by omega) ⟨?_, trivial⟩ (kpL_refl ?_))) (by omega)
      · simp only [vx, vz, Nat.reduceAdd, Nat.reduceSub, Nat.reduceMul, Nat.reduceLeDiff, Nat.reduceLT, Nat.reduceEqDiff, Nat.reduceBEq, Int.reduceToNat, Int.reduceNeg, Int.reduceEq, Int.reduceNe, Int.reduceLE, Int.reduceLT, reduceCtorEq, ↓reduceIte]
        rw [wr_i64 (by omega) (by omega)]
        try trivial
      · show RowK _ _ _ (.live 1 (((splS l (ps.take (i + 1))).map stD).map (·.map .d)))
        rw [show (splS l (ps.take (i + 1))).map stD = (splS l (ps.take i)).map stD ++ [stD (ptsS l p)] by rw [esp, List.map_append]; rfl]
        exact rowK_snoc (e := [.osl 4 1 (ptsS l p).length 0 (ptsS l p).length]) (x := stD (ptsS l p)) ⟨.snap _ _ (sn_all (es := (ptsS l p).map slD) rfl (by simp) szl), trivial⟩
      · rfl
  · simp only [decide_eq_false_iff_not] at hc
    obtain rfl : i = ps.length := by omega
    rw [take_end (Nat.le_refl _)]
    simp only [vx, vz, Nat.reduceAdd, Nat.reduceSub, Nat.reduceMul, Nat.reduceLeDiff, Nat.reduceLT, Nat.reduceEqDiff, Nat.reduceBEq, Int.reduceToNat, Int.reduceNeg, Int.reduceEq, Int.reduceNe, Int.reduceLE, Int.reduceLT, reduceCtorEq, ↓reduceIte]
    exact sn_all (es := (splS l ps).map stD) rfl (by simp [splS]) szt
end Go.Proofs.Ar
