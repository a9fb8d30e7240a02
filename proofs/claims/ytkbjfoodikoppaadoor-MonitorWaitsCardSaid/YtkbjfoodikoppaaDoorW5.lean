import Derived.Test.YtkbjfoodikoppaaDoorW4
import Derived.Test.YtkbjfoodikoppaaDoorVxRng
set_option linter.unusedSectionVars false
set_option linter.unusedSimpArgs false
set_option linter.unusedVariables false
namespace Go.Proofs.Mn
open Go.Vx
theorem has_at {l : List B} {s x : B} {i : Nat} (h : l[i]? = some x) : (l.take (i + 1)).contains s = ((l.take i).contains s || decide (x = s)) := by
  rw [take_at h, List.contains_append]
  congr 1
  by_cases e : x = s
  · subst e; simp
  · simp [e, Ne.symm e]
theorem t52 (w : Wv) (c : Chn) (okw : okW w) (okc : okC c) : CallP Tryd.prog 52 [wvV w, chV c] (.d (.bool (knwS w c))) := by
  have hb := mxB; have hm := hm; have hL := mL; have hl := okc.fl; have hnl := okw.nl
  have hsl := sgn_len c
  refine go52 ac52 rfl ?_
  simp only [vx, vz, Nat.reduceAdd, Nat.reduceSub, Nat.reduceMul, Nat.reduceLeDiff, Nat.reduceLT, Nat.reduceEqDiff, Nat.reduceBEq, Int.reduceToNat, Int.reduceNeg, Int.reduceEq, Int.reduceNe, Int.reduceLE, Int.reduceLT, reduceCtorEq, ↓reduceIte, ac52]
  refine call_p rfl (t36 c okc) ?_
  simp only [vx, vz, Nat.reduceAdd, Nat.reduceSub, Nat.reduceMul, Nat.reduceLeDiff, Nat.reduceLT, Nat.reduceEqDiff, Nat.reduceBEq, Int.reduceToNat, Int.reduceNeg, Int.reduceEq, Int.reduceNe, Int.reduceLE, Int.reduceLT, reduceCtorEq, ↓reduceIte]
  obtain ⟨l, hl2⟩ : ∃ l, l = sgn c := ⟨_, rfl⟩
  have hkn : knwS w c = l.all (fun s => w.ns.contains s) := by rw [hl2]; rfl
  rw [hkn]
  rw [← hl2] at hsl ⊢
  refine loop_st (fun i : Nat => ⟨mkF 39 [(2, .optr 2 0 1 0 0), (5, .d (.sl 1 (strs l))), (6, .d (.int .i64 i))], [rW w, rC c]⟩) (fun i => i ≤ l.length ∧ l.all (fun s => w.ns.contains s) = (l.drop i).all (fun s => w.ns.contains s)) (fun i => l.length - i) 0 (weak_any (by simp only [vx, vz, Nat.reduceAdd, Nat.reduceSub, Nat.reduceMul, Nat.reduceLeDiff, Nat.reduceLT, Nat.reduceEqDiff, Nat.reduceBEq, Int.reduceToNat, Int.reduceNeg, Int.reduceEq, Int.reduceNe, Int.reduceLE, Int.reduceLT, reduceCtorEq, ↓reduceIte]; try trivial)) ⟨by omega, rfl⟩ (fun i hi => ?_)
  obtain ⟨g1, g2⟩ := hi
  simp only [vx, vz, Nat.reduceAdd, Nat.reduceSub, Nat.reduceMul, Nat.reduceLeDiff, Nat.reduceLT, Nat.reduceEqDiff, Nat.reduceBEq, Int.reduceToNat, Int.reduceNeg, Int.reduceEq, Int.reduceNe, Int.reduceLE, Int.reduceLT, reduceCtorEq, ↓reduceIte]
  refine cond_split (fun hc => ?_) (fun hc => ?_)
  · simp only [decide_eq_true_eq] at hc
    obtain ⟨x, hx⟩ := get_ex (l := l) (i := i) (by omega)
    rw [all_take_at hx] at g2
    simp only [vx, vz, Nat.reduceAdd, Nat.reduceSub, Nat.reduceMul, Nat.reduceLeDiff, Nat.reduceLT, Nat.reduceEqDiff, Nat.reduceBEq, Int.reduceToNat, Int.reduceNeg, Int.reduceEq, Int.reduceNe, Int.reduceLE, Int.reduceLT, reduceCtorEq, ↓reduceIte]
    refine loop_st (fun j : Nat => ⟨mkF 39 [(2, .optr 2 0 1 0 0), (5, .d (.sl 1 (strs l))), (6, .d (.int .i64 i)), (7, .d (.bool ((w.ns.take j).contains x))), (8, .d (.int .i64 j))], [rW w, rC c]⟩) (fun j => j ≤ w.ns.length) (fun j => w.ns.length - j) 0 (weak_any (by simp only [vx, vz, Nat.reduceAdd, Nat.reduceSub, Nat.reduceMul, Nat.reduceLeDiff, Nat.reduceLT, Nat.reduceEqDiff, Nat.reduceBEq, Int.reduceToNat, Int.reduceNeg, Int.reduceEq, Int.reduceNe, Int.reduceLE, Int.reduceLT, reduceCtorEq, ↓reduceIte]; try trivial)) (by omega) (fun j hj => ?_)
    simp only [vx, vz, Nat.reduceAdd, Nat.reduceSub, Nat.reduceMul, Nat.reduceLeDiff, Nat.reduceLT, Nat.reduceEqDiff, Nat.reduceBEq, Int.reduceToNat, Int.reduceNeg, Int.reduceEq, Int.reduceNe, Int.reduceLE, Int.reduceLT, reduceCtorEq, ↓reduceIte]
    refine cond_split (fun hc2 => ?_) (fun hc2 => ?_)
    · simp only [decide_eq_true_eq] at hc2
      obtain ⟨y, hy⟩ := get_ex (l := w.ns) (i := j) (by omega)
      have hh := has_at (s := x) hy
      simp only [vx, vz, Nat.reduceAdd, Nat.reduceSub, Nat.reduceMul, Nat.reduceLeDiff, Nat.reduceLT, Nat.reduceEqDiff, Nat.reduceBEq, Int.reduceToNat, Int.reduceNeg, Int.reduceEq, Int.reduceNe, Int.reduceLE, Int.reduceLT, reduceCtorEq, ↓reduceIte]
      refine c_quiet rfl ?_
      simp only [vx, vz, Nat.reduceAdd, Nat.reduceSub, Nat.reduceMul, Nat.reduceLeDiff, Nat.reduceLT, Nat.reduceEqDiff, Nat.reduceBEq, Int.reduceToNat, Int.reduceNeg, Int.reduceEq, Int.reduceNe, Int.reduceLE, Int.reduceLT, reduceCtorEq, ↓reduceIte]
      cases hcn : (w.ns.take j).contains x with
      | true =>
        rw [hcn, Bool.true_or] at hh
        simp only [vx, vz, Nat.reduceAdd, Nat.reduceSub, Nat.reduceMul, Nat.reduceLeDiff, Nat.reduceLT, Nat.reduceEqDiff, Nat.reduceBEq, Int.reduceToNat, Int.reduceNeg, Int.reduceEq, Int.reduceNe, Int.reduceLE, Int.reduceLT, reduceCtorEq, ↓reduceIte]
        refine ls_n (j + 1) (by omega) (weak_any ?_) (by omega)
        simp only [vx, vz, Nat.reduceAdd, Nat.reduceSub, Nat.reduceMul, Nat.reduceLeDiff, Nat.reduceLT, Nat.reduceEqDiff, Nat.reduceBEq, Int.reduceToNat, Int.reduceNeg, Int.reduceEq, Int.reduceNe, Int.reduceLE, Int.reduceLT, reduceCtorEq, ↓reduceIte, hh]
        rw [wr_i64 (by omega) (by omega)]
        first | trivial | exact ⟨rfl, rfl⟩
      | false =>
        rw [hcn, Bool.false_or] at hh
        simp only [vx, vz, Nat.reduceAdd, Nat.reduceSub, Nat.reduceMul, Nat.reduceLeDiff, Nat.reduceLT, Nat.reduceEqDiff, Nat.reduceBEq, Int.reduceToNat, Int.reduceNeg, Int.reduceEq, Int.reduceNe, Int.reduceLE, Int.reduceLT, reduceCtorEq, ↓reduceIte]
        refine ⟨by omega, by omega, getM_at hy ?_⟩
        simp only [vx, vz, Nat.reduceAdd, Nat.reduceSub, Nat.reduceMul, Nat.reduceLeDiff, Nat.reduceLT, Nat.reduceEqDiff, Nat.reduceBEq, Int.reduceToNat, Int.reduceNeg, Int.reduceEq, Int.reduceNe, Int.reduceLE, Int.reduceLT, reduceCtorEq, ↓reduceIte]
        simp only [vx, vz, Nat.reduceAdd, Nat.reduceSub, Nat.reduceMul, Nat.reduceLeDiff, Nat.reduceLT, Nat.reduceEqDiff, Nat.reduceBEq, Int.reduceToNat, Int.reduceNeg, Int.reduceEq, Int.reduceNe, Int.reduceLE, Int.reduceLT, reduceCtorEq, ↓reduceIte, sD]
        refine ⟨by omega, by omega, getM_at hx ?_⟩
        simp only [vx, vz, Nat.reduceAdd, Nat.reduceSub, Nat.reduceMul, Nat.reduceLeDiff, Nat.reduceLT, Nat.reduceEqDiff, Nat.reduceBEq, Int.reduceToNat, Int.reduceNeg, Int.reduceEq, Int.reduceNe, Int.reduceLE, Int.reduceLT, reduceCtorEq, ↓reduceIte]
        simp only [vx, vz, Nat.reduceAdd, Nat.reduceSub, Nat.reduceMul, Nat.reduceLeDiff, Nat.reduceLT, Nat.reduceEqDiff, Nat.reduceBEq, Int.reduceToNat, Int.reduceNeg, Int.reduceEq, Int.reduceNe, Int.reduceLE, Int.reduceLT, reduceCtorEq, ↓reduceIte, sD]
        refine ls_n (j + 1) (by omega) (weak_any ?_) (by omega)
        simp only [vx, vz, Nat.reduceAdd, Nat.reduceSub, Nat.reduceMul, Nat.reduceLeDiff, Nat.reduceLT, Nat.reduceEqDiff, Nat.reduceBEq, Int.reduceToNat, Int.reduceNeg, Int.reduceEq, Int.reduceNe, Int.reduceLE, Int.reduceLT, reduceCtorEq, ↓reduceIte, hh]
        rw [wr_i64 (by omega) (by omega)]
        first | trivial | exact ⟨rfl, rfl⟩
    · simp only [decide_eq_false_iff_not] at hc2
      rw [take_end (by omega)]
      simp only [vx, vz, Nat.reduceAdd, Nat.reduceSub, Nat.reduceMul, Nat.reduceLeDiff, Nat.reduceLT, Nat.reduceEqDiff, Nat.reduceBEq, Int.reduceToNat, Int.reduceNeg, Int.reduceEq, Int.reduceNe, Int.reduceLE, Int.reduceLT, reduceCtorEq, ↓reduceIte]
      cases hk : w.ns.contains x with
      | false =>
        rw [hk, Bool.false_and] at g2
        simp only [vx, vz, Nat.reduceAdd, Nat.reduceSub, Nat.reduceMul, Nat.reduceLeDiff, Nat.reduceLT, Nat.reduceEqDiff, Nat.reduceBEq, Int.reduceToNat, Int.reduceNeg, Int.reduceEq, Int.reduceNe, Int.reduceLE, Int.reduceLT, reduceCtorEq, ↓reduceIte, g2]
      | true =>
        rw [hk, Bool.true_and] at g2
        simp only [vx, vz, Nat.reduceAdd, Nat.reduceSub, Nat.reduceMul, Nat.reduceLeDiff, Nat.reduceLT, Nat.reduceEqDiff, Nat.reduceBEq, Int.reduceToNat, Int.reduceNeg, Int.reduceEq, Int.reduceNe, Int.reduceLE, Int.reduceLT, reduceCtorEq, ↓reduceIte]
        refine ls_n (i + 1) (by omega) (weak_any ?_) ⟨by omega, g2⟩
        simp only [vx, vz, Nat.reduceAdd, Nat.reduceSub, Nat.reduceMul, Nat.reduceLeDiff, Nat.reduceLT, Nat.reduceEqDiff, Nat.reduceBEq, Int.reduceToNat, Int.reduceNeg, Int.reduceEq, Int.reduceNe, Int.reduceLE, Int.reduceLT, reduceCtorEq, ↓reduceIte]
        rw [wr_i64 (by omega) (by omega)]
        first | trivial | exact ⟨rfl, rfl⟩
  · simp only [decide_eq_false_iff_not] at hc
    rw [drop_end (by omega)] at g2
    simp only [vx, vz, Nat.reduceAdd, Nat.reduceSub, Nat.reduceMul, Nat.reduceLeDiff, Nat.reduceLT, Nat.reduceEqDiff, Nat.reduceBEq, Int.reduceToNat, Int.reduceNeg, Int.reduceEq, Int.reduceNe, Int.reduceLE, Int.reduceLT, reduceCtorEq, ↓reduceIte, g2]
    first | done | rfl
theorem any_at {α : Type} {g : α → Bool} {l : List α} {i : Nat} {x : α} (h : l[i]? = some x) : (l.drop i).any g = (g x || (l.drop (i + 1)).any g) := by
  rw [drop_at h, List.any_cons]
theorem t31 (w : Wv) (l : List Chn) (okw : okW w) (hl : l.length ≤ 1000) (okc : ∀ c ∈ l, okC c) : CallP Tryd.prog 31 [wvV w, .d (.sl 3 (l.map Chn.d))] (.d (.int .i64 (errS w l))) := by
  have hb := mxB; have hm := hm; have hL := mL
  refine go31 ac31 rfl ?_
  simp only [vx, vz, Nat.reduceAdd, Nat.reduceSub, Nat.reduceMul, Nat.reduceLeDiff, Nat.reduceLT, Nat.reduceEqDiff, Nat.reduceBEq, Int.reduceToNat, Int.reduceNeg, Int.reduceEq, Int.reduceNe, Int.reduceLE, Int.reduceLT, reduceCtorEq, ↓reduceIte, ac31]
  unfold errS
  refine loop_st (fun i : Nat => ⟨mkF 35 [(1, .d (.sl 3 (l.map Chn.d))), (2, .optr 2 0 1 0 0), (5, .d (.int .i64 i))], [rW w]⟩) (fun i => i ≤ l.length ∧ (l.any fun c => !vldC c) = ((l.drop i).any fun c => !vldC c)) (fun i => l.length - i) 0 (weak_any (by simp only [vx, vz, Nat.reduceAdd, Nat.reduceSub, Nat.reduceMul, Nat.reduceLeDiff, Nat.reduceLT, Nat.reduceEqDiff, Nat.reduceBEq, Int.reduceToNat, Int.reduceNeg, Int.reduceEq, Int.reduceNe, Int.reduceLE, Int.reduceLT, reduceCtorEq, ↓reduceIte]; try trivial)) ⟨by omega, rfl⟩ (fun i hi => ?_)
  obtain ⟨g1, g2⟩ := hi
  simp only [vx, vz, Nat.reduceAdd, Nat.reduceSub, Nat.reduceMul, Nat.reduceLeDiff, Nat.reduceLT, Nat.reduceEqDiff, Nat.reduceBEq, Int.reduceToNat, Int.reduceNeg, Int.reduceEq, Int.reduceNe, Int.reduceLE, Int.reduceLT, reduceCtorEq, ↓reduceIte]
  refine cond_split (fun hc => ?_) (fun hc => ?_)
  · simp only [decide_eq_true_eq] at hc
    obtain ⟨x, hx⟩ := get_ex (l := l) (i := i) (by omega)
    rw [any_at hx] at g2
    simp only [vx, vz, Nat.reduceAdd, Nat.reduceSub, Nat.reduceMul, Nat.reduceLeDiff, Nat.reduceLT, Nat.reduceEqDiff, Nat.reduceBEq, Int.reduceToNat, Int.reduceNeg, Int.reduceEq, Int.reduceNe, Int.reduceLE, Int.reduceLT, reduceCtorEq, ↓reduceIte]
    refine ⟨by omega, by omega, getM_at hx ?_⟩
    simp only [vx, vz, Nat.reduceAdd, Nat.reduceSub, Nat.reduceMul, Nat.reduceLeDiff, Nat.reduceLT, Nat.reduceEqDiff, Nat.reduceBEq, Int.reduceToNat, Int.reduceNeg, Int.reduceEq, Int.reduceNe, Int.reduceLE, Int.reduceLT, reduceCtorEq, ↓reduceIte]
    simp only [vx, vz, Nat.reduceAdd, Nat.reduceSub, Nat.reduceMul, Nat.reduceLeDiff, Nat.reduceLT, Nat.reduceEqDiff, Nat.reduceBEq, Int.reduceToNat, Int.reduceNeg, Int.reduceEq, Int.reduceNe, Int.reduceLE, Int.reduceLT, reduceCtorEq, ↓reduceIte, Chn.d]
    refine call_p rfl (t16 x (okc x (List.mem_of_getElem? hx))) ?_
    simp only [vx, vz, Nat.reduceAdd, Nat.reduceSub, Nat.reduceMul, Nat.reduceLeDiff, Nat.reduceLT, Nat.reduceEqDiff, Nat.reduceBEq, Int.reduceToNat, Int.reduceNeg, Int.reduceEq, Int.reduceNe, Int.reduceLE, Int.reduceLT, reduceCtorEq, ↓reduceIte]
    cases hk : vldC x with
    | false =>
      rw [hk, Bool.not_false, Bool.true_or] at g2
      rw [g2, Bool.true_or, if_pos rfl]
      simp only [vx, vz, Nat.reduceAdd, Nat.reduceSub, Nat.reduceMul, Nat.reduceLeDiff, Nat.reduceLT, Nat.reduceEqDiff, Nat.reduceBEq, Int.reduceToNat, Int.reduceNeg, Int.reduceEq, Int.reduceNe, Int.reduceLE, Int.reduceLT, reduceCtorEq, ↓reduceIte]
    | true =>
      rw [hk, Bool.not_true, Bool.false_or] at g2
      simp only [vx, vz, Nat.reduceAdd, Nat.reduceSub, Nat.reduceMul, Nat.reduceLeDiff, Nat.reduceLT, Nat.reduceEqDiff, Nat.reduceBEq, Int.reduceToNat, Int.reduceNeg, Int.reduceEq, Int.reduceNe, Int.reduceLE, Int.reduceLT, reduceCtorEq, ↓reduceIte]
      refine ls_n (i + 1) (by omega) (weak_any ?_) ⟨by omega, g2⟩
      simp only [vx, vz, Nat.reduceAdd, Nat.reduceSub, Nat.reduceMul, Nat.reduceLeDiff, Nat.reduceLT, Nat.reduceEqDiff, Nat.reduceBEq, Int.reduceToNat, Int.reduceNeg, Int.reduceEq, Int.reduceNe, Int.reduceLE, Int.reduceLT, reduceCtorEq, ↓reduceIte]
      rw [wr_i64 (by omega) (by omega)]
      first | trivial | exact ⟨rfl, rfl⟩
  · simp only [decide_eq_false_iff_not] at hc
    rw [drop_end (by omega), List.any_nil] at g2
    rw [g2, Bool.false_or]
    simp only [vx, vz, Nat.reduceAdd, Nat.reduceSub, Nat.reduceMul, Nat.reduceLeDiff, Nat.reduceLT, Nat.reduceEqDiff, Nat.reduceBEq, Int.reduceToNat, Int.reduceNeg, Int.reduceEq, Int.reduceNe, Int.reduceLE, Int.reduceLT, reduceCtorEq, ↓reduceIte]
    refine call_p rfl (t51 w okw) ?_
    simp only [vx, vz, Nat.reduceAdd, Nat.reduceSub, Nat.reduceMul, Nat.reduceLeDiff, Nat.reduceLT, Nat.reduceEqDiff, Nat.reduceBEq, Int.reduceToNat, Int.reduceNeg, Int.reduceEq, Int.reduceNe, Int.reduceLE, Int.reduceLT, reduceCtorEq, ↓reduceIte]
    cases hv : vldW w with
    | false =>
      rw [Bool.not_false, if_pos rfl]
      simp only [vx, vz, Nat.reduceAdd, Nat.reduceSub, Nat.reduceMul, Nat.reduceLeDiff, Nat.reduceLT, Nat.reduceEqDiff, Nat.reduceBEq, Int.reduceToNat, Int.reduceNeg, Int.reduceEq, Int.reduceNe, Int.reduceLE, Int.reduceLT, reduceCtorEq, ↓reduceIte]
    | true =>
      rw [Bool.not_true, if_neg (by decide)]
      simp only [vx, vz, Nat.reduceAdd, Nat.reduceSub, Nat.reduceMul, Nat.reduceLeDiff, Nat.reduceLT, Nat.reduceEqDiff, Nat.reduceBEq, Int.reduceToNat, Int.reduceNeg, Int.reduceEq, Int.reduceNe, Int.reduceLE, Int.reduceLT, reduceCtorEq, ↓reduceIte]
      refine loop_st (fun i : Nat => ⟨mkF 35 [(1, .d (.sl 3 (l.map Chn.d))), (2, .optr 2 0 1 0 0), (6, .d (.int .i64 i))], [rW w]⟩) (fun i => i ≤ l.length ∧ l.all (knwS w) = (l.drop i).all (knwS w)) (fun i => l.length - i) 0 (weak_any (by simp only [vx, vz, Nat.reduceAdd, Nat.reduceSub, Nat.reduceMul, Nat.reduceLeDiff, Nat.reduceLT, Nat.reduceEqDiff, Nat.reduceBEq, Int.reduceToNat, Int.reduceNeg, Int.reduceEq, Int.reduceNe, Int.reduceLE, Int.reduceLT, reduceCtorEq, ↓reduceIte]; try trivial)) ⟨by omega, rfl⟩ (fun i hi => ?_)
      obtain ⟨f1, f2⟩ := hi
      simp only [vx, vz, Nat.reduceAdd, Nat.reduceSub, Nat.reduceMul, Nat.reduceLeDiff, Nat.reduceLT, Nat.reduceEqDiff, Nat.reduceBEq, Int.reduceToNat, Int.reduceNeg, Int.reduceEq, Int.reduceNe, Int.reduceLE, Int.reduceLT, reduceCtorEq, ↓reduceIte]
      refine cond_split (fun hc2 => ?_) (fun hc2 => ?_)
      · simp only [decide_eq_true_eq] at hc2
        obtain ⟨x, hx⟩ := get_ex (l := l) (i := i) (by omega)
        rw [all_take_at hx] at f2
        simp only [vx, vz, Nat.reduceAdd, Nat.reduceSub, Nat.reduceMul, Nat.reduceLeDiff, Nat.reduceLT, Nat.reduceEqDiff, Nat.reduceBEq, Int.reduceToNat, Int.reduceNeg, Int.reduceEq, Int.reduceNe, Int.reduceLE, Int.reduceLT, reduceCtorEq, ↓reduceIte]
        refine c_draw ?_
        simp only [vx, vz, Nat.reduceAdd, Nat.reduceSub, Nat.reduceMul, Nat.reduceLeDiff, Nat.reduceLT, Nat.reduceEqDiff, Nat.reduceBEq, Int.reduceToNat, Int.reduceNeg, Int.reduceEq, Int.reduceNe, Int.reduceLE, Int.reduceLT, reduceCtorEq, ↓reduceIte]
        repeat (refine d_k rfl rfl ?_; simp only [vx, vz, Nat.reduceAdd, Nat.reduceSub, Nat.reduceMul, Nat.reduceLeDiff, Nat.reduceLT, Nat.reduceEqDiff, Nat.reduceBEq, Int.reduceToNat, Int.reduceNeg, Int.reduceEq, Int.reduceNe, Int.reduceLE, Int.reduceLT, reduceCtorEq, ↓reduceIte])
        refine ⟨by omega, by omega, getM_at hx ?_⟩
        simp only [vx, vz, Nat.reduceAdd, Nat.reduceSub, Nat.reduceMul, Nat.reduceLeDiff, Nat.reduceLT, Nat.reduceEqDiff, Nat.reduceBEq, Int.reduceToNat, Int.reduceNeg, Int.reduceEq, Int.reduceNe, Int.reduceLE, Int.reduceLT, reduceCtorEq, ↓reduceIte]
        simp only [vx, vz, Nat.reduceAdd, Nat.reduceSub, Nat.reduceMul, Nat.reduceLeDiff, Nat.reduceLT, Nat.reduceEqDiff, Nat.reduceBEq, Int.reduceToNat, Int.reduceNeg, Int.reduceEq, Int.reduceNe, Int.reduceLE, Int.reduceLT, reduceCtorEq, ↓reduceIte, Chn.d]
        repeat (refine d_k rfl rfl ?_; simp only [vx, vz, Nat.reduceAdd, Nat.reduceSub, Nat.reduceMul, Nat.reduceLeDiff, Nat.reduceLT, Nat.reduceEqDiff, Nat.reduceBEq, Int.reduceToNat, Int.reduceNeg, Int.reduceEq, Int.reduceNe, Int.reduceLE, Int.reduceLT, reduceCtorEq, ↓reduceIte])
        refine call_p rfl (t52 w x okw (okc x (List.mem_of_getElem? hx))) ?_
        repeat (refine d_k rfl rfl ?_; simp only [vx, vz, Nat.reduceAdd, Nat.reduceSub, Nat.reduceMul, Nat.reduceLeDiff, Nat.reduceLT, Nat.reduceEqDiff, Nat.reduceBEq, Int.reduceToNat, Int.reduceNeg, Int.reduceEq, Int.reduceNe, Int.reduceLE, Int.reduceLT, reduceCtorEq, ↓reduceIte])
        cases hk : knwS w x with
        | false =>
          rw [hk, Bool.false_and] at f2
          rw [f2, if_neg (by decide)]
          simp only [vx, vz, Nat.reduceAdd, Nat.reduceSub, Nat.reduceMul, Nat.reduceLeDiff, Nat.reduceLT, Nat.reduceEqDiff, Nat.reduceBEq, Int.reduceToNat, Int.reduceNeg, Int.reduceEq, Int.reduceNe, Int.reduceLE, Int.reduceLT, reduceCtorEq, ↓reduceIte]
        | true =>
          rw [hk, Bool.true_and] at f2
          simp only [vx, vz, Nat.reduceAdd, Nat.reduceSub, Nat.reduceMul, Nat.reduceLeDiff, Nat.reduceLT, Nat.reduceEqDiff, Nat.reduceBEq, Int.reduceToNat, Int.reduceNeg, Int.reduceEq, Int.reduceNe, Int.reduceLE, Int.reduceLT, reduceCtorEq, ↓reduceIte]
          refine ls_n (i + 1) (by omega) (weak_any ?_) ⟨by omega, f2⟩
          simp only [vx, vz, Nat.reduceAdd, Nat.reduceSub, Nat.reduceMul, Nat.reduceLeDiff, Nat.reduceLT, Nat.reduceEqDiff, Nat.reduceBEq, Int.reduceToNat, Int.reduceNeg, Int.reduceEq, Int.reduceNe, Int.reduceLE, Int.reduceLT, reduceCtorEq, ↓reduceIte]
          rw [wr_i64 (by omega) (by omega)]
          first | trivial | exact ⟨rfl, rfl⟩
      · simp only [decide_eq_false_iff_not] at hc2
        rw [drop_end (by omega), List.all_nil] at f2
        rw [f2, if_pos rfl]
        simp only [vx, vz, Nat.reduceAdd, Nat.reduceSub, Nat.reduceMul, Nat.reduceLeDiff, Nat.reduceLT, Nat.reduceEqDiff, Nat.reduceBEq, Int.reduceToNat, Int.reduceNeg, Int.reduceEq, Int.reduceNe, Int.reduceLE, Int.reduceLT, reduceCtorEq, ↓reduceIte]
theorem t14 (w : Wv) (c : Chn) (okw : okW w) (okc : okC c) : CallP Tryd.prog 14 [wvV w, chV c] (cycV w c) := by
  have hb := mxB; have hm := hm; have hL := mL; have hrl := okw.rl
  refine go14 ac14 rfl ?_
  simp only [vx, vz, Nat.reduceAdd, Nat.reduceSub, Nat.reduceMul, Nat.reduceLeDiff, Nat.reduceLT, Nat.reduceEqDiff, Nat.reduceBEq, Int.reduceToNat, Int.reduceNeg, Int.reduceEq, Int.reduceNe, Int.reduceLE, Int.reduceLT, reduceCtorEq, ↓reduceIte, ac14]
  refine call_s (v := .d (.int .i64 (errS w [c]))) (by simp [snapOk, snapCOk, Go.Vx.rowAt, isD, noH, noH1, noH2]) rfl (by simpa [snapV, snapC, toD, Chn.d] using t31 w [c] okw (by simp) (by simpa using okc)) ?_
  by_cases he : errS w [c] = 0
  · obtain ⟨h1, hv, h3⟩ := opn_ok he
    obtain ⟨k1, k2, k3, k4⟩ := vldW_in hv
    rw [show cycV w c = .tup [.d (.sl 1 (ints (cycS w c))), .d (.int .i64 0)] by unfold cycV; rw [if_pos he, he]]
    simp only [vx, vz, Nat.reduceAdd, Nat.reduceSub, Nat.reduceMul, Nat.reduceLeDiff, Nat.reduceLT, Nat.reduceEqDiff, Nat.reduceBEq, Int.reduceToNat, Int.reduceNeg, Int.reduceEq, Int.reduceNe, Int.reduceLE, Int.reduceLT, reduceCtorEq, ↓reduceIte, he]
    refine loop_st (fun i : Nat => ⟨mkF 32 [(2, .optr 2 0 1 0 0), (3, .optr 3 1 1 0 0), (7, .osl 1 3 (trsN w c i).length 0 (trsN w c i).length), (8, .d (.int .i64 i))], [rW w, rC c, .dead, rowInts (zs (trsN w c i))]⟩) (fun i => i ≤ w.rs.length) (fun i => w.rs.length - i) 0 (Weak.trans (weak_dead [2] rfl) (Weak.trans (weak_nils 7 1 rfl) (weak_any (by simp only [vx, vz, Nat.reduceAdd, Nat.reduceSub, Nat.reduceMul, Nat.reduceLeDiff, Nat.reduceLT, Nat.reduceEqDiff, Nat.reduceBEq, Int.reduceToNat, Int.reduceNeg, Int.reduceEq, Int.reduceNe, Int.reduceLE, Int.reduceLT, reduceCtorEq, ↓reduceIte]; try trivial)))) (by omega) (fun i hi => ?_)
    have hlt := trs_len w c i
    simp only [vx, vz, Nat.reduceAdd, Nat.reduceSub, Nat.reduceMul, Nat.reduceLeDiff, Nat.reduceLT, Nat.reduceEqDiff, Nat.reduceBEq, Int.reduceToNat, Int.reduceNeg, Int.reduceEq, Int.reduceNe, Int.reduceLE, Int.reduceLT, reduceCtorEq, ↓reduceIte]
    refine cond_split (fun hc => ?_) (fun hc => ?_)
    · simp only [decide_eq_true_eq] at hc
      simp only [vx, vz, Nat.reduceAdd, Nat.reduceSub, Nat.reduceMul, Nat.reduceLeDiff, Nat.reduceLT, Nat.reduceEqDiff, Nat.reduceBEq, Int.reduceToNat, Int.reduceNeg, Int.reduceEq, Int.reduceNe, Int.reduceLE, Int.reduceLT, reduceCtorEq, ↓reduceIte]
      refine call_p rfl (t32 w c i okw) ?_
      simp only [vx, vz, Nat.reduceAdd, Nat.reduceSub, Nat.reduceMul, Nat.reduceLeDiff, Nat.reduceLT, Nat.reduceEqDiff, Nat.reduceBEq, Int.reduceToNat, Int.reduceNeg, Int.reduceEq, Int.reduceNe, Int.reduceLE, Int.reduceLT, reduceCtorEq, ↓reduceIte]
      cases hmv : movS w c i with
      | false =>
        simp only [vx, vz, Nat.reduceAdd, Nat.reduceSub, Nat.reduceMul, Nat.reduceLeDiff, Nat.reduceLT, Nat.reduceEqDiff, Nat.reduceBEq, Int.reduceToNat, Int.reduceNeg, Int.reduceEq, Int.reduceNe, Int.reduceLE, Int.reduceLT, reduceCtorEq, ↓reduceIte]
        refine ls_n (i + 1) (by omega) ?_ (by omega)
        rw [trs_f hmv]
        refine weak_any ?_
        simp only [vx, vz, Nat.reduceAdd, Nat.reduceSub, Nat.reduceMul, Nat.reduceLeDiff, Nat.reduceLT, Nat.reduceEqDiff, Nat.reduceBEq, Int.reduceToNat, Int.reduceNeg, Int.reduceEq, Int.reduceNe, Int.reduceLE, Int.reduceLT, reduceCtorEq, ↓reduceIte]
        rw [wr_i64 (by omega) (by omega)]
        first | trivial | exact ⟨rfl, rfl⟩
      | true =>
        simp only [vx, vz, Nat.reduceAdd, Nat.reduceSub, Nat.reduceMul, Nat.reduceLeDiff, Nat.reduceLT, Nat.reduceEqDiff, Nat.reduceBEq, Int.reduceToNat, Int.reduceNeg, Int.reduceEq, Int.reduceNe, Int.reduceLE, Int.reduceLT, reduceCtorEq, ↓reduceIte]
        refine ⟨zs_len _, by omega, ?_⟩
        refine ls_n (i + 1) (by omega) (Weak.trans (weak_any ?_) (weak_frz2 4 (by omega) ⟨.same _ (rowB_rW w), .same _ (rowB_rC c), .same _ trivial, ?_, trivial⟩ (kpL_refl rfl))) (by omega)
        · rw [trs_t hmv]
          simp only [vx, vz, Nat.reduceAdd, Nat.reduceSub, Nat.reduceMul, Nat.reduceLeDiff, Nat.reduceLT, Nat.reduceEqDiff, Nat.reduceBEq, Int.reduceToNat, Int.reduceNeg, Int.reduceEq, Int.reduceNe, Int.reduceLE, Int.reduceLT, reduceCtorEq, ↓reduceIte, List.length_append]
          rw [wr_i64 (by omega) (by omega)]
          first | trivial | exact ⟨rfl, rfl⟩
        · rw [trs_t hmv, zs_snoc]
          exact rowK_int
    · simp only [decide_eq_false_iff_not] at hc
      obtain rfl : i = w.rs.length := by omega
      simp only [vx, vz, Nat.reduceAdd, Nat.reduceSub, Nat.reduceMul, Nat.reduceLeDiff, Nat.reduceLT, Nat.reduceEqDiff, Nat.reduceBEq, Int.reduceToNat, Int.reduceNeg, Int.reduceEq, Int.reduceNe, Int.reduceLE, Int.reduceLT, reduceCtorEq, ↓reduceIte]
      exact sn_all (es := ints (cycS w c)) rfl (by rw [List.length_map, cycS, zs_len]) szi
  · rw [show cycV w c = .tup [.d (.sl 1 []), .d (.int .i64 (errS w [c]))] by unfold cycV; rw [if_neg he]; rfl]
    simp only [vx, vz, Nat.reduceAdd, Nat.reduceSub, Nat.reduceMul, Nat.reduceLeDiff, Nat.reduceLT, Nat.reduceEqDiff, Nat.reduceBEq, Int.reduceToNat, Int.reduceNeg, Int.reduceEq, Int.reduceNe, Int.reduceLE, Int.reduceLT, reduceCtorEq, ↓reduceIte, dt he]
theorem err2 {w : Wv} {a b : Chn} (h : errS w [a, b] = 0) : errS w [a] = 0 ∧ errS w [b] = 0 := by
  obtain ⟨_, h2, h3⟩ := opn_ok h
  have ha := h3 a (by simp)
  have hb := h3 b (by simp)
  unfold errS at h ⊢
  split at h
  · cases h
  · rename_i hn
    simp only [List.any_cons, List.any_nil, Bool.or_false, h2, Bool.not_true, Bool.or_eq_true, not_or] at hn
    simp only [List.any_cons, List.any_nil, Bool.or_false, h2, Bool.not_true, List.all_cons, List.all_nil, ha, hb, Bool.and_true]
    rw [if_neg hn.1, if_neg hn.2]
    simp
theorem t22 (w : Wv) (a b : Chn) (okw : okW w) (oka : okC a) (okb : okC b) : CallP Tryd.prog 22 [wvV w, chV a, chV b] (latV w a b) := by
  have hb := mxB; have hm := hm; have hL := mL; have hrl := okw.rl
  refine go22 ac22 rfl ?_
  simp only [vx, vz, Nat.reduceAdd, Nat.reduceSub, Nat.reduceMul, Nat.reduceLeDiff, Nat.reduceLT, Nat.reduceEqDiff, Nat.reduceBEq, Int.reduceToNat, Int.reduceNeg, Int.reduceEq, Int.reduceNe, Int.reduceLE, Int.reduceLT, reduceCtorEq, ↓reduceIte, ac22]
  refine call_s (v := .d (.int .i64 (errS w [a, b]))) (by simp [snapOk, snapCOk, Go.Vx.rowAt, isD, noH, noH1, noH2]) rfl (by simpa [snapV, snapC, toD, Chn.d] using t31 w [a, b] okw (by simp) (by simpa using ⟨oka, okb⟩)) ?_
  by_cases he : errS w [a, b] = 0
  · obtain ⟨h1, hv, h3⟩ := opn_ok he
    obtain ⟨k1, k2, k3, k4⟩ := vldW_in hv
    obtain ⟨e1, e2⟩ := err2 he
    rw [show latV w a b = .tup [.d (.sl 1 (ints (latS w a b))), .d (.int .i64 0)] by unfold latV; rw [if_pos he, he]]
    simp only [vx, vz, Nat.reduceAdd, Nat.reduceSub, Nat.reduceMul, Nat.reduceLeDiff, Nat.reduceLT, Nat.reduceEqDiff, Nat.reduceBEq, Int.reduceToNat, Int.reduceNeg, Int.reduceEq, Int.reduceNe, Int.reduceLE, Int.reduceLT, reduceCtorEq, ↓reduceIte, he]
    have c1 := t14 w a okw oka
    have c2 := t14 w b okw okb
    unfold cycV at c1 c2
    rw [if_pos e1] at c1
    rw [if_pos e2] at c2
    refine call_p rfl (c1) ?_
    simp only [vx, vz, Nat.reduceAdd, Nat.reduceSub, Nat.reduceMul, Nat.reduceLeDiff, Nat.reduceLT, Nat.reduceEqDiff, Nat.reduceBEq, Int.reduceToNat, Int.reduceNeg, Int.reduceEq, Int.reduceNe, Int.reduceLE, Int.reduceLT, reduceCtorEq, ↓reduceIte]
    refine call_p rfl (c2) ?_
    simp only [vx, vz, Nat.reduceAdd, Nat.reduceSub, Nat.reduceMul, Nat.reduceLeDiff, Nat.reduceLT, Nat.reduceEqDiff, Nat.reduceBEq, Int.reduceToNat, Int.reduceNeg, Int.reduceEq, Int.reduceNe, Int.reduceLE, Int.reduceLT, reduceCtorEq, ↓reduceIte]
    have l1 := cyc_len w a
    have l2 := cyc_len w b
    obtain ⟨x, hx⟩ : ∃ x, x = cycS w a := ⟨_, rfl⟩
    obtain ⟨y, hy⟩ : ∃ y, y = cycS w b := ⟨_, rfl⟩
    unfold latS
    have hxa : ∀ (i : Nat) (z : Int), x[i]? = some z → 0 ≤ z ∧ z ≤ 4096 := fun i z h => by rw [hx] at h; obtain ⟨t, h1, h2, _⟩ := cyc_at h; omega
    have hyb : ∀ (i : Nat) (z : Int), y[i]? = some z → 0 ≤ z ∧ z ≤ 4096 := fun i z h => by rw [hy] at h; obtain ⟨t, h1, h2, _⟩ := cyc_at h; omega
    rw [← hx] at l1
    rw [← hy] at l2
    rw [← hx, ← hy]
    have hdl := difZ_len x y
    refine loop_st (fun i : Nat => ⟨mkF 60 [(9, .d (.sl 1 (ints x))), (11, .d (.sl 1 (ints y))), (13, .osl 1 4 i 0 i), (14, .d (.int .i64 i))], [rW w, rC a, rC b, .dead, rowInts ((difZ x y).take i)]⟩) (fun i => i ≤ (difZ x y).length) (fun i => (difZ x y).length - i) 0 (Weak.trans (weak_dead [3] rfl) (Weak.trans (weak_nils 13 1 rfl) (weak_any (by simp only [vx, vz, Nat.reduceAdd, Nat.reduceSub, Nat.reduceMul, Nat.reduceLeDiff, Nat.reduceLT, Nat.reduceEqDiff, Nat.reduceBEq, Int.reduceToNat, Int.reduceNeg, Int.reduceEq, Int.reduceNe, Int.reduceLE, Int.reduceLT, reduceCtorEq, ↓reduceIte]; try trivial)))) (by omega) (fun i hi => ?_)
    have hci : ((difZ x y).take i).length = i := by rw [List.length_take]; omega
    have fin : i = (difZ x y).length → Snap [rW w, rC a, rC b, .dead, rowInts ((difZ x y).take i)] (.osl 1 4 i 0 i) (.d (.sl 1 (ints (difZ x y)))) := fun h => by
      subst h
      rw [List.take_of_length_le (by omega)]
      exact sn_all (es := ints (difZ x y)) rfl (by simp) szi
    simp only [vx, vz, Nat.reduceAdd, Nat.reduceSub, Nat.reduceMul, Nat.reduceLeDiff, Nat.reduceLT, Nat.reduceEqDiff, Nat.reduceBEq, Int.reduceToNat, Int.reduceNeg, Int.reduceEq, Int.reduceNe, Int.reduceLE, Int.reduceLT, reduceCtorEq, ↓reduceIte]
    by_cases hi1 : (i : Int) < x.length
    · simp only [vx, vz, Nat.reduceAdd, Nat.reduceSub, Nat.reduceMul, Nat.reduceLeDiff, Nat.reduceLT, Nat.reduceEqDiff, Nat.reduceBEq, Int.reduceToNat, Int.reduceNeg, Int.reduceEq, Int.reduceNe, Int.reduceLE, Int.reduceLT, reduceCtorEq, ↓reduceIte, dt hi1]
      by_cases hi2 : (i : Int) < y.length
      · simp only [vx, vz, Nat.reduceAdd, Nat.reduceSub, Nat.reduceMul, Nat.reduceLeDiff, Nat.reduceLT, Nat.reduceEqDiff, Nat.reduceBEq, Int.reduceToNat, Int.reduceNeg, Int.reduceEq, Int.reduceNe, Int.reduceLE, Int.reduceLT, reduceCtorEq, ↓reduceIte, dt hi2]
        obtain ⟨p, hp⟩ := get_ex (l := x) (i := i) (by omega)
        obtain ⟨q, hq⟩ := get_ex (l := y) (i := i) (by omega)
        have b1 := hxa i p hp
        have b2 := hyb i q hq
        refine c_draw ?_
        simp only [vx, vz, Nat.reduceAdd, Nat.reduceSub, Nat.reduceMul, Nat.reduceLeDiff, Nat.reduceLT, Nat.reduceEqDiff, Nat.reduceBEq, Int.reduceToNat, Int.reduceNeg, Int.reduceEq, Int.reduceNe, Int.reduceLE, Int.reduceLT, reduceCtorEq, ↓reduceIte]
        repeat (refine d_k rfl rfl ?_; simp only [vx, vz, Nat.reduceAdd, Nat.reduceSub, Nat.reduceMul, Nat.reduceLeDiff, Nat.reduceLT, Nat.reduceEqDiff, Nat.reduceBEq, Int.reduceToNat, Int.reduceNeg, Int.reduceEq, Int.reduceNe, Int.reduceLE, Int.reduceLT, reduceCtorEq, ↓reduceIte])
        refine ⟨by omega, by omega, getM_at hq ?_⟩
        simp only [vx, vz, Nat.reduceAdd, Nat.reduceSub, Nat.reduceMul, Nat.reduceLeDiff, Nat.reduceLT, Nat.reduceEqDiff, Nat.reduceBEq, Int.reduceToNat, Int.reduceNeg, Int.reduceEq, Int.reduceNe, Int.reduceLE, Int.reduceLT, reduceCtorEq, ↓reduceIte]
        simp only [vx, vz, Nat.reduceAdd, Nat.reduceSub, Nat.reduceMul, Nat.reduceLeDiff, Nat.reduceLT, Nat.reduceEqDiff, Nat.reduceBEq, Int.reduceToNat, Int.reduceNeg, Int.reduceEq, Int.reduceNe, Int.reduceLE, Int.reduceLT, reduceCtorEq, ↓reduceIte, iD]
        repeat (refine d_k rfl rfl ?_; simp only [vx, vz, Nat.reduceAdd, Nat.reduceSub, Nat.reduceMul, Nat.reduceLeDiff, Nat.reduceLT, Nat.reduceEqDiff, Nat.reduceBEq, Int.reduceToNat, Int.reduceNeg, Int.reduceEq, Int.reduceNe, Int.reduceLE, Int.reduceLT, reduceCtorEq, ↓reduceIte])
        refine ⟨by omega, by omega, getM_at hp ?_⟩
        simp only [vx, vz, Nat.reduceAdd, Nat.reduceSub, Nat.reduceMul, Nat.reduceLeDiff, Nat.reduceLT, Nat.reduceEqDiff, Nat.reduceBEq, Int.reduceToNat, Int.reduceNeg, Int.reduceEq, Int.reduceNe, Int.reduceLE, Int.reduceLT, reduceCtorEq, ↓reduceIte]
        simp only [vx, vz, Nat.reduceAdd, Nat.reduceSub, Nat.reduceMul, Nat.reduceLeDiff, Nat.reduceLT, Nat.reduceEqDiff, Nat.reduceBEq, Int.reduceToNat, Int.reduceNeg, Int.reduceEq, Int.reduceNe, Int.reduceLE, Int.reduceLT, reduceCtorEq, ↓reduceIte, iD]
        repeat (refine d_k rfl rfl ?_; simp only [vx, vz, Nat.reduceAdd, Nat.reduceSub, Nat.reduceMul, Nat.reduceLeDiff, Nat.reduceLT, Nat.reduceEqDiff, Nat.reduceBEq, Int.reduceToNat, Int.reduceNeg, Int.reduceEq, Int.reduceNe, Int.reduceLE, Int.reduceLT, reduceCtorEq, ↓reduceIte])
        refine ⟨by omega, by omega, ?_⟩
        repeat (refine d_k rfl rfl ?_; simp only [vx, vz, Nat.reduceAdd, Nat.reduceSub, Nat.reduceMul, Nat.reduceLeDiff, Nat.reduceLT, Nat.reduceEqDiff, Nat.reduceBEq, Int.reduceToNat, Int.reduceNeg, Int.reduceEq, Int.reduceNe, Int.reduceLE, Int.reduceLT, reduceCtorEq, ↓reduceIte])
        refine ls_n (i + 1) (by omega) (Weak.trans (weak_any ?_) (weak_frz2 5 (by omega) ⟨.same _ (rowB_rW w), .same _ (rowB_rC a), .same _ (rowB_rC b), .same _ trivial, ?_, trivial⟩ (kpL_refl rfl))) (by omega)
        · simp only [vx, vz, Nat.reduceAdd, Nat.reduceSub, Nat.reduceMul, Nat.reduceLeDiff, Nat.reduceLT, Nat.reduceEqDiff, Nat.reduceBEq, Int.reduceToNat, Int.reduceNeg, Int.reduceEq, Int.reduceNe, Int.reduceLE, Int.reduceLT, reduceCtorEq, ↓reduceIte]
          rw [wr_i64 (by omega) (by omega)]
          first | trivial | exact ⟨rfl, rfl⟩
        · rw [take_at (difZ_at hp hq), wr_i64 (by omega) (by omega)]
          exact rowK_int
      · simp only [vx, vz, Nat.reduceAdd, Nat.reduceSub, Nat.reduceMul, Nat.reduceLeDiff, Nat.reduceLT, Nat.reduceEqDiff, Nat.reduceBEq, Int.reduceToNat, Int.reduceNeg, Int.reduceEq, Int.reduceNe, Int.reduceLE, Int.reduceLT, reduceCtorEq, ↓reduceIte, df hi2]
        exact fin (by omega)
    · simp only [vx, vz, Nat.reduceAdd, Nat.reduceSub, Nat.reduceMul, Nat.reduceLeDiff, Nat.reduceLT, Nat.reduceEqDiff, Nat.reduceBEq, Int.reduceToNat, Int.reduceNeg, Int.reduceEq, Int.reduceNe, Int.reduceLE, Int.reduceLT, reduceCtorEq, ↓reduceIte, df hi1]
      exact fin (by omega)
  · rw [show latV w a b = .tup [.d (.sl 1 []), .d (.int .i64 (errS w [a, b]))] by unfold latV; rw [if_neg he]; rfl]
    simp only [vx, vz, Nat.reduceAdd, Nat.reduceSub, Nat.reduceMul, Nat.reduceLeDiff, Nat.reduceLT, Nat.reduceEqDiff, Nat.reduceBEq, Int.reduceToNat, Int.reduceNeg, Int.reduceEq, Int.reduceNe, Int.reduceLE, Int.reduceLT, reduceCtorEq, ↓reduceIte, dt he]
end Go.Proofs.Mn

namespace Go.Proofs.Mn
open Go.Vx
theorem trf_z (w : Wv) (c : Chn) (n : Nat) : trfS w c n = (zs (trsN w c n)).map fun t => (c.fs, flds w c t) := by
  rw [trfS, zs, List.map_map]; rfl
theorem rowB_osl2 {m sz h n k h' n' k' : Nat} (hh : h < m) (hh' : h' < m) : rowB m (.live 2 [[.osl sz h n 0 k, .osl sz h' n' 0 k']]) := by
  intro e he v hv; simp at he; subst he; simp at hv; rcases hv with rfl | rfl <;> simp [hB, hh, hh']
theorem rowK_txo {m : Nat} {rows : Go.Vx.Rows} {l : List Tx} {x : Tx} {a b : V} (h1 : Snap (hiRows m rows) a (.d (.sl 1 (strs x.1)))) (h2 : Snap (hiRows m rows) b (.d (.sl 1 (ints x.2)))) : RowK m rows (.live 2 ((txs l).map (·.map .d) ++ [[a, b]])) (rowTx (l ++ [x])) := by
  rw [show rowTx (l ++ [x]) = .live 2 ((txs l ++ [txD x]).map (·.map .d)) by simp [txs]]
  exact rowK_snoc (x := txD x) ⟨.snap _ _ h1, .snap _ _ h2, trivial⟩
theorem t12 (w : Wv) (c : Chn) (okw : okW w) (okc : okC c) : CallP Tryd.prog 12 [wvV w, chV c] (trfV w c) := by
  have hb := mxB; have hm := hm; have hL := mL; have hrl := okw.rl; have hfl := okc.fl
  refine go12 ac12 rfl ?_
  simp only [vx, vz, Nat.reduceAdd, Nat.reduceSub, Nat.reduceMul, Nat.reduceLeDiff, Nat.reduceLT, Nat.reduceEqDiff, Nat.reduceBEq, Int.reduceToNat, Int.reduceNeg, Int.reduceEq, Int.reduceNe, Int.reduceLE, Int.reduceLT, reduceCtorEq, ↓reduceIte, ac12]
  refine call_p rfl (t14 w c okw okc) ?_
  simp only [vx, vz, Nat.reduceAdd, Nat.reduceSub, Nat.reduceMul, Nat.reduceLeDiff, Nat.reduceLT, Nat.reduceEqDiff, Nat.reduceBEq, Int.reduceToNat, Int.reduceNeg, Int.reduceEq, Int.reduceNe, Int.reduceLE, Int.reduceLT, reduceCtorEq, ↓reduceIte]
  by_cases he : errS w [c] = 0
  · obtain ⟨h1, hv, h3⟩ := opn_ok he
    obtain ⟨k1, k2, k3, k4⟩ := vldW_in hv
    rw [if_pos he, show trfV w c = .tup [.d (.sl 2 (txs ((cycS w c).map fun t => (c.fs, flds w c t)))), .d (.int .i64 0)] by unfold trfV; rw [if_pos he, he, trf_z]; rfl]
    have hll := cyc_len w c
    obtain ⟨l, hl⟩ : ∃ l, l = cycS w c := ⟨_, rfl⟩
    rw [← hl] at hll ⊢
    simp only [vx, vz, Nat.reduceAdd, Nat.reduceSub, Nat.reduceMul, Nat.reduceLeDiff, Nat.reduceLT, Nat.reduceEqDiff, Nat.reduceBEq, Int.reduceToNat, Int.reduceNeg, Int.reduceEq, Int.reduceNe, Int.reduceLE, Int.reduceLT, reduceCtorEq, ↓reduceIte, he]
    refine loop_st (fun i : Nat => ⟨mkF 66 [(2, .optr 2 0 1 0 0), (3, .optr 3 1 1 0 0), (6, .d (.sl 1 (ints l))), (8, .osl 2 2 i 0 i), (9, .d (.int .i64 i))], [rW w, rC c, rowTx ((l.take i).map fun t => (c.fs, flds w c t))]⟩) (fun i => i ≤ l.length) (fun i => l.length - i) 0 (Weak.trans (weak_nils 8 2 rfl) (weak_any (by simp only [vx, vz, Nat.reduceAdd, Nat.reduceSub, Nat.reduceMul, Nat.reduceLeDiff, Nat.reduceLT, Nat.reduceEqDiff, Nat.reduceBEq, Int.reduceToNat, Int.reduceNeg, Int.reduceEq, Int.reduceNe, Int.reduceLE, Int.reduceLT, reduceCtorEq, ↓reduceIte]; try trivial))) (by omega) (fun i hi => ?_)
    have hlt : (l.take i).length = i := by rw [List.length_take]; omega
    simp only [vx, vz, Nat.reduceAdd, Nat.reduceSub, Nat.reduceMul, Nat.reduceLeDiff, Nat.reduceLT, Nat.reduceEqDiff, Nat.reduceBEq, Int.reduceToNat, Int.reduceNeg, Int.reduceEq, Int.reduceNe, Int.reduceLE, Int.reduceLT, reduceCtorEq, ↓reduceIte]
    refine cond_split (fun hc => ?_) (fun hc => ?_)
    · simp only [decide_eq_true_eq] at hc
      obtain ⟨x, hx⟩ := get_ex (l := l) (i := i) (by omega)
      simp only [vx, vz, Nat.reduceAdd, Nat.reduceSub, Nat.reduceMul, Nat.reduceLeDiff, Nat.reduceLT, Nat.reduceEqDiff, Nat.reduceBEq, Int.reduceToNat, Int.reduceNeg, Int.reduceEq, Int.reduceNe, Int.reduceLE, Int.reduceLT, reduceCtorEq, ↓reduceIte]
      refine loop_st (fun k : Nat => ⟨mkF 66 [(2, .optr 2 0 1 0 0), (3, .optr 3 1 1 0 0), (6, .d (.sl 1 (ints l))), (8, .osl 2 2 i 0 i), (9, .d (.int .i64 i)), (10, .optr 2 3 1 0 0), (11, .d (.int .i64 k))], [rW w, rC c, rowTx ((l.take i).map fun t => (c.fs, flds w c t)), .live 2 [[.osl 1 4 k 0 k, .osl 1 5 k 0 k]], rowStrs (c.fs.take k), rowInts ((flds w c x).take k)]⟩) (fun k => k ≤ c.fs.length) (fun k => c.fs.length - k) 0 (Weak.trans (weak_nilsC 3 2 1 0 [.d .nils, .d .nils] rfl rfl) (Weak.trans (weak_nilsC 3 2 1 1 [.osl 1 4 0 0 0, .d .nils] rfl rfl) (weak_any (by simp only [vx, vz, Nat.reduceAdd, Nat.reduceSub, Nat.reduceMul, Nat.reduceLeDiff, Nat.reduceLT, Nat.reduceEqDiff, Nat.reduceBEq, Int.reduceToNat, Int.reduceNeg, Int.reduceEq, Int.reduceNe, Int.reduceLE, Int.reduceLT, reduceCtorEq, ↓reduceIte]; try trivial)))) (by omega) (fun k hk => ?_)
      simp only [vx, vz, Nat.reduceAdd, Nat.reduceSub, Nat.reduceMul, Nat.reduceLeDiff, Nat.reduceLT, Nat.reduceEqDiff, Nat.reduceBEq, Int.reduceToNat, Int.reduceNeg, Int.reduceEq, Int.reduceNe, Int.reduceLE, Int.reduceLT, reduceCtorEq, ↓reduceIte]
      refine cond_split (fun hc2 => ?_) (fun hc2 => ?_)
      · simp only [decide_eq_true_eq] at hc2
        obtain ⟨s, hs⟩ := get_ex (l := c.fs) (i := k) (by omega)
        simp only [vx, vz, Nat.reduceAdd, Nat.reduceSub, Nat.reduceMul, Nat.reduceLeDiff, Nat.reduceLT, Nat.reduceEqDiff, Nat.reduceBEq, Int.reduceToNat, Int.reduceNeg, Int.reduceEq, Int.reduceNe, Int.reduceLE, Int.reduceLT, reduceCtorEq, ↓reduceIte]
        have hkl : (c.fs.take k).length = k := by rw [List.length_take]; omega
        have hfl2 : (flds w c x).length = c.fs.length := by rw [flds, List.length_map]
        have hvl : ((flds w c x).take k).length = k := by rw [List.length_take]; omega
        refine c_draw ?_
        simp only [vx, vz, Nat.reduceAdd, Nat.reduceSub, Nat.reduceMul, Nat.reduceLeDiff, Nat.reduceLT, Nat.reduceEqDiff, Nat.reduceBEq, Int.reduceToNat, Int.reduceNeg, Int.reduceEq, Int.reduceNe, Int.reduceLE, Int.reduceLT, reduceCtorEq, ↓reduceIte]
        repeat (refine d_k rfl rfl ?_; simp only [vx, vz, Nat.reduceAdd, Nat.reduceSub, Nat.reduceMul, Nat.reduceLeDiff, Nat.reduceLT, Nat.reduceEqDiff, Nat.reduceBEq, Int.reduceToNat, Int.reduceNeg, Int.reduceEq, Int.reduceNe, Int.reduceLE, Int.reduceLT, reduceCtorEq, ↓reduceIte])
        refine ⟨by omega, by omega, getM_at hs ?_⟩
        simp only [vx, vz, Nat.reduceAdd, Nat.reduceSub, Nat.reduceMul, Nat.reduceLeDiff, Nat.reduceLT, Nat.reduceEqDiff, Nat.reduceBEq, Int.reduceToNat, Int.reduceNeg, Int.reduceEq, Int.reduceNe, Int.reduceLE, Int.reduceLT, reduceCtorEq, ↓reduceIte]
        simp only [vx, vz, Nat.reduceAdd, Nat.reduceSub, Nat.reduceMul, Nat.reduceLeDiff, Nat.reduceLT, Nat.reduceEqDiff, Nat.reduceBEq, Int.reduceToNat, Int.reduceNeg, Int.reduceEq, Int.reduceNe, Int.reduceLE, Int.reduceLT, reduceCtorEq, ↓reduceIte, sD]
        repeat (refine d_k rfl rfl ?_; simp only [vx, vz, Nat.reduceAdd, Nat.reduceSub, Nat.reduceMul, Nat.reduceLeDiff, Nat.reduceLT, Nat.reduceEqDiff, Nat.reduceBEq, Int.reduceToNat, Int.reduceNeg, Int.reduceEq, Int.reduceNe, Int.reduceLE, Int.reduceLT, reduceCtorEq, ↓reduceIte])
        refine ⟨by omega, by omega, ?_⟩
        repeat (refine d_k rfl rfl ?_; simp only [vx, vz, Nat.reduceAdd, Nat.reduceSub, Nat.reduceMul, Nat.reduceLeDiff, Nat.reduceLT, Nat.reduceEqDiff, Nat.reduceBEq, Int.reduceToNat, Int.reduceNeg, Int.reduceEq, Int.reduceNe, Int.reduceLE, Int.reduceLT, reduceCtorEq, ↓reduceIte])
        refine c_draw ?_
        simp only [vx, vz, Nat.reduceAdd, Nat.reduceSub, Nat.reduceMul, Nat.reduceLeDiff, Nat.reduceLT, Nat.reduceEqDiff, Nat.reduceBEq, Int.reduceToNat, Int.reduceNeg, Int.reduceEq, Int.reduceNe, Int.reduceLE, Int.reduceLT, reduceCtorEq, ↓reduceIte]
        repeat (refine d_k rfl rfl ?_; simp only [vx, vz, Nat.reduceAdd, Nat.reduceSub, Nat.reduceMul, Nat.reduceLeDiff, Nat.reduceLT, Nat.reduceEqDiff, Nat.reduceBEq, Int.reduceToNat, Int.reduceNeg, Int.reduceEq, Int.reduceNe, Int.reduceLE, Int.reduceLT, reduceCtorEq, ↓reduceIte])
        refine ⟨by omega, by omega, getM_at hs ?_⟩
        simp only [vx, vz, Nat.reduceAdd, Nat.reduceSub, Nat.reduceMul, Nat.reduceLeDiff, Nat.reduceLT, Nat.reduceEqDiff, Nat.reduceBEq, Int.reduceToNat, Int.reduceNeg, Int.reduceEq, Int.reduceNe, Int.reduceLE, Int.reduceLT, reduceCtorEq, ↓reduceIte]
        simp only [vx, vz, Nat.reduceAdd, Nat.reduceSub, Nat.reduceMul, Nat.reduceLeDiff, Nat.reduceLT, Nat.reduceEqDiff, Nat.reduceBEq, Int.reduceToNat, Int.reduceNeg, Int.reduceEq, Int.reduceNe, Int.reduceLE, Int.reduceLT, reduceCtorEq, ↓reduceIte, sD]
        repeat (refine d_k rfl rfl ?_; simp only [vx, vz, Nat.reduceAdd, Nat.reduceSub, Nat.reduceMul, Nat.reduceLeDiff, Nat.reduceLT, Nat.reduceEqDiff, Nat.reduceBEq, Int.reduceToNat, Int.reduceNeg, Int.reduceEq, Int.reduceNe, Int.reduceLE, Int.reduceLT, reduceCtorEq, ↓reduceIte])
        refine ⟨by omega, by omega, getM_at hx ?_⟩
        simp only [vx, vz, Nat.reduceAdd, Nat.reduceSub, Nat.reduceMul, Nat.reduceLeDiff, Nat.reduceLT, Nat.reduceEqDiff, Nat.reduceBEq, Int.reduceToNat, Int.reduceNeg, Int.reduceEq, Int.reduceNe, Int.reduceLE, Int.reduceLT, reduceCtorEq, ↓reduceIte]
        simp only [vx, vz, Nat.reduceAdd, Nat.reduceSub, Nat.reduceMul, Nat.reduceLeDiff, Nat.reduceLT, Nat.reduceEqDiff, Nat.reduceBEq, Int.reduceToNat, Int.reduceNeg, Int.reduceEq, Int.reduceNe, Int.reduceLE, Int.reduceLT, reduceCtorEq, ↓reduceIte, iD]
        repeat (refine d_k rfl rfl ?_; simp only [vx, vz, Nat.reduceAdd, Nat.reduceSub, Nat.reduceMul, Nat.reduceLeDiff, Nat.reduceLT, Nat.reduceEqDiff, Nat.reduceBEq, Int.reduceToNat, Int.reduceNeg, Int.reduceEq, Int.reduceNe, Int.reduceLE, Int.reduceLT, reduceCtorEq, ↓reduceIte])
        refine call_p rfl (t29 w s x okw) ?_
        repeat (refine d_k rfl rfl ?_; simp only [vx, vz, Nat.reduceAdd, Nat.reduceSub, Nat.reduceMul, Nat.reduceLeDiff, Nat.reduceLT, Nat.reduceEqDiff, Nat.reduceBEq, Int.reduceToNat, Int.reduceNeg, Int.reduceEq, Int.reduceNe, Int.reduceLE, Int.reduceLT, reduceCtorEq, ↓reduceIte])
        refine ⟨by omega, by omega, ?_⟩
        repeat (refine d_k rfl rfl ?_; simp only [vx, vz, Nat.reduceAdd, Nat.reduceSub, Nat.reduceMul, Nat.reduceLeDiff, Nat.reduceLT, Nat.reduceEqDiff, Nat.reduceBEq, Int.reduceToNat, Int.reduceNeg, Int.reduceEq, Int.reduceNe, Int.reduceLE, Int.reduceLT, reduceCtorEq, ↓reduceIte])
        refine ls_n (k + 1) (by omega) (Weak.trans (weak_any ?_) (weak_frz2 6 (by omega) ⟨.same _ (rowB_rW w), .same _ (rowB_rC c), .same _ (rowB_data (es := txs ((l.take i).map fun t => (c.fs, flds w c t)))), .same _ (rowB_osl2 (by decide) (by decide)), ?_, ?_, trivial⟩ (kpL_refl rfl))) (by omega)
        · simp only [vx, vz, Nat.reduceAdd, Nat.reduceSub, Nat.reduceMul, Nat.reduceLeDiff, Nat.reduceLT, Nat.reduceEqDiff, Nat.reduceBEq, Int.reduceToNat, Int.reduceNeg, Int.reduceEq, Int.reduceNe, Int.reduceLE, Int.reduceLT, reduceCtorEq, ↓reduceIte]
          rw [wr_i64 (by omega) (by omega)]
          first | trivial | exact ⟨rfl, rfl⟩
        · rw [take_at hs]
          exact rowK_str
        · rw [show (flds w c x).take (k + 1) = (flds w c x).take k ++ [valS w s x] from take_at (l := flds w c x) (i := k) (by rw [flds, List.getElem?_map, hs]; rfl)]
          exact rowK_int
      · simp only [decide_eq_false_iff_not] at hc2
        obtain rfl : k = c.fs.length := by omega
        have hfl2 : (flds w c x).length = c.fs.length := by rw [flds, List.length_map]
        rw [List.take_of_length_le (Nat.le_refl _), List.take_of_length_le (Nat.le_of_eq hfl2)]
        simp only [vx, vz, Nat.reduceAdd, Nat.reduceSub, Nat.reduceMul, Nat.reduceLeDiff, Nat.reduceLT, Nat.reduceEqDiff, Nat.reduceBEq, Int.reduceToNat, Int.reduceNeg, Int.reduceEq, Int.reduceNe, Int.reduceLE, Int.reduceLT, reduceCtorEq, ↓reduceIte]
        refine ⟨by omega, by omega, ?_⟩
        refine ls_n (i + 1) (by omega) (Weak.trans (weak_any ?_) (weak_frz2 3 (by omega) ⟨.same _ (rowB_rW w), .same _ (rowB_rC c), ?_, trivial⟩ (kpL_refl rfl))) (by omega)
        · simp only [vx, vz, Nat.reduceAdd, Nat.reduceSub, Nat.reduceMul, Nat.reduceLeDiff, Nat.reduceLT, Nat.reduceEqDiff, Nat.reduceBEq, Int.reduceToNat, Int.reduceNeg, Int.reduceEq, Int.reduceNe, Int.reduceLE, Int.reduceLT, reduceCtorEq, ↓reduceIte]
          rw [wr_i64 (by omega) (by omega)]
          first | trivial | exact ⟨rfl, rfl⟩
        · rw [take_at hx, List.map_append]
          exact rowK_txo (sn_all (es := strs c.fs) rfl (by simp) szs) (sn_all (es := ints (flds w c x)) rfl (by simp [hfl2]) szi)
    · simp only [decide_eq_false_iff_not] at hc
      obtain rfl : i = l.length := by omega
      simp only [vx, vz, Nat.reduceAdd, Nat.reduceSub, Nat.reduceMul, Nat.reduceLeDiff, Nat.reduceLT, Nat.reduceEqDiff, Nat.reduceBEq, Int.reduceToNat, Int.reduceNeg, Int.reduceEq, Int.reduceNe, Int.reduceLE, Int.reduceLT, reduceCtorEq, ↓reduceIte]
      rw [List.take_of_length_le (by omega)]
      exact sn_all (es := txs (l.map fun t => (c.fs, flds w c t))) rfl (by simp) szt
  · rw [if_neg he, show trfV w c = .tup [.d (.sl 2 []), .d (.int .i64 (errS w [c]))] by unfold trfV; rw [if_neg he]; rfl]
    simp only [vx, vz, Nat.reduceAdd, Nat.reduceSub, Nat.reduceMul, Nat.reduceLeDiff, Nat.reduceLT, Nat.reduceEqDiff, Nat.reduceBEq, Int.reduceToNat, Int.reduceNeg, Int.reduceEq, Int.reduceNe, Int.reduceLE, Int.reduceLT, reduceCtorEq, ↓reduceIte, dt he]
end Go.Proofs.Mn

namespace Go.Proofs.Mn
open Go.Vx
theorem t20 (w : Wv) (c : Chn) (okw : okW w) (okc : okC c) : CallP Tryd.prog 20 [wvV w, chV c] (stbV w c) := by
  have hb := mxB; have hm := hm; have hL := mL; have hrl := okw.rl; have hfl := okc.fl
  refine go20 ac20 rfl ?_
  simp only [vx, vz, Nat.reduceAdd, Nat.reduceSub, Nat.reduceMul, Nat.reduceLeDiff, Nat.reduceLT, Nat.reduceEqDiff, Nat.reduceBEq, Int.reduceToNat, Int.reduceNeg, Int.reduceEq, Int.reduceNe, Int.reduceLE, Int.reduceLT, reduceCtorEq, ↓reduceIte, ac20]
  refine call_s (v := .d (.int .i64 (errS w [c]))) (by simp [snapOk, snapCOk, Go.Vx.rowAt, isD, noH, noH1, noH2]) rfl (by simpa [snapV, snapC, toD, Chn.d] using t31 w [c] okw (by simp) (by simpa using okc)) ?_
  by_cases he : errS w [c] = 0
  · obtain ⟨h1, hv, h3⟩ := opn_ok he
    obtain ⟨k1, k2, k3, k4⟩ := vldW_in hv
    rw [show stbV w c = .tup [.d (.int .i64 (stbS w c)), .d (.int .i64 0)] by unfold stbV; rw [if_pos he, he]]
    simp only [vx, vz, Nat.reduceAdd, Nat.reduceSub, Nat.reduceMul, Nat.reduceLeDiff, Nat.reduceLT, Nat.reduceEqDiff, Nat.reduceBEq, Int.reduceToNat, Int.reduceNeg, Int.reduceEq, Int.reduceNe, Int.reduceLE, Int.reduceLT, reduceCtorEq, ↓reduceIte, he]
    refine loop_st (fun u : Nat => ⟨mkF 72 [(2, .optr 2 0 1 0 0), (3, .optr 3 1 1 0 0), (7, .d (.int .i64 (u + 1 : Nat)))], [rW w, rC c, .dead]⟩) (fun u => stbS w c = stbG w c (w.rs.length - 1 - u) u) (fun u => w.rs.length - u) 0 (Weak.trans (weak_dead [2] rfl) (weak_any (by simp only [vx, vz, Nat.reduceAdd, Nat.reduceSub, Nat.reduceMul, Nat.reduceLeDiff, Nat.reduceLT, Nat.reduceEqDiff, Nat.reduceBEq, Int.reduceToNat, Int.reduceNeg, Int.reduceEq, Int.reduceNe, Int.reduceLE, Int.reduceLT, reduceCtorEq, ↓reduceIte]; try trivial))) rfl (fun u hi => ?_)
    simp only [vx, vz, Nat.reduceAdd, Nat.reduceSub, Nat.reduceMul, Nat.reduceLeDiff, Nat.reduceLT, Nat.reduceEqDiff, Nat.reduceBEq, Int.reduceToNat, Int.reduceNeg, Int.reduceEq, Int.reduceNe, Int.reduceLE, Int.reduceLT, reduceCtorEq, ↓reduceIte]
    refine cond_split (fun hc => ?_) (fun hc => ?_)
    · simp only [decide_eq_true_eq] at hc
      have e1 : IntKind.i64.wrap (((u + 1 : Nat) : Int) - 1) = u := by rw [wr_i64 (by omega) (by omega)]; omega
      rw [stb_at (by omega)] at hi
      have skip : brkS w c u = false → ∀ fr, wkA fr (mkF 72 [(2, .optr 2 0 1 0 0), (3, .optr 3 1 1 0 0), (7, .d (.int .i64 (u + 1 + 1 : Nat)))]) → loopS 0 (blockQ 0 (seqQ Tryd.prog 0 (.seq (.reg 0 [⟨some 4, 0, none, .op (.mov (.k (.d (.int .i64 (-1)))))⟩, ⟨some 5, 0, none, .op (.mov (.k (.d (.int .i64 0))))⟩]) .ret) (retQ [.tmp 4, .tmp 5] (.tup [.d (.int .i64 (stbS w c)), .d (.int .i64 0)])))) (fun u : Nat => ⟨mkF 72 [(2, .optr 2 0 1 0 0), (3, .optr 3 1 1 0 0), (7, .d (.int .i64 (u + 1 : Nat)))], [rW w, rC c, .dead]⟩) (fun u => stbS w c = stbG w c (w.rs.length - 1 - u) u) (fun u => w.rs.length - u) u .normal ⟨fr, [rW w, rC c, .dead]⟩ := fun hbk fr hfr => by
        rw [if_neg (by rw [hbk]; decide)] at hi
        exact ls_n (u + 1) (by omega) (weak_any hfr) hi
      have fin : brkS w c u = true → stbS w c = ((u + 1 : Nat) : Int) := fun hbk => by rw [hi, if_pos hbk]
      unfold brkS at skip fin
      simp only [vx, vz, Nat.reduceAdd, Nat.reduceSub, Nat.reduceMul, Nat.reduceLeDiff, Nat.reduceLT, Nat.reduceEqDiff, Nat.reduceBEq, Int.reduceToNat, Int.reduceNeg, Int.reduceEq, Int.reduceNe, Int.reduceLE, Int.reduceLT, reduceCtorEq, ↓reduceIte, e1]
      refine call_p rfl (t29 w c.va u okw) ?_
      simp only [vx, vz, Nat.reduceAdd, Nat.reduceSub, Nat.reduceMul, Nat.reduceLeDiff, Nat.reduceLT, Nat.reduceEqDiff, Nat.reduceBEq, Int.reduceToNat, Int.reduceNeg, Int.reduceEq, Int.reduceNe, Int.reduceLE, Int.reduceLT, reduceCtorEq, ↓reduceIte]
      cases h1 : decide (valS w c.va u = 0) with
      | true =>
        simp only [vx, vz, Nat.reduceAdd, Nat.reduceSub, Nat.reduceMul, Nat.reduceLeDiff, Nat.reduceLT, Nat.reduceEqDiff, Nat.reduceBEq, Int.reduceToNat, Int.reduceNeg, Int.reduceEq, Int.reduceNe, Int.reduceLE, Int.reduceLT, reduceCtorEq, ↓reduceIte]
        refine skip (by rw [h1]; rfl) _ ?_
        simp only [vx, vz, Nat.reduceAdd, Nat.reduceSub, Nat.reduceMul, Nat.reduceLeDiff, Nat.reduceLT, Nat.reduceEqDiff, Nat.reduceBEq, Int.reduceToNat, Int.reduceNeg, Int.reduceEq, Int.reduceNe, Int.reduceLE, Int.reduceLT, reduceCtorEq, ↓reduceIte]
        rw [wr_i64 (by omega) (by omega)]
        rfl
      | false =>
        simp only [vx, vz, Nat.reduceAdd, Nat.reduceSub, Nat.reduceMul, Nat.reduceLeDiff, Nat.reduceLT, Nat.reduceEqDiff, Nat.reduceBEq, Int.reduceToNat, Int.reduceNeg, Int.reduceEq, Int.reduceNe, Int.reduceLE, Int.reduceLT, reduceCtorEq, ↓reduceIte, e1]
        refine call_p rfl (t29 w c.rd u okw) ?_
        simp only [vx, vz, Nat.reduceAdd, Nat.reduceSub, Nat.reduceMul, Nat.reduceLeDiff, Nat.reduceLT, Nat.reduceEqDiff, Nat.reduceBEq, Int.reduceToNat, Int.reduceNeg, Int.reduceEq, Int.reduceNe, Int.reduceLE, Int.reduceLT, reduceCtorEq, ↓reduceIte]
        cases h2 : decide (valS w c.rd u = 0) with
        | false =>
          simp only [vx, vz, Nat.reduceAdd, Nat.reduceSub, Nat.reduceMul, Nat.reduceLeDiff, Nat.reduceLT, Nat.reduceEqDiff, Nat.reduceBEq, Int.reduceToNat, Int.reduceNeg, Int.reduceEq, Int.reduceNe, Int.reduceLE, Int.reduceLT, reduceCtorEq, ↓reduceIte, decide_not, h2, Bool.not_false]
          refine skip (by rw [h1, h2]; rfl) _ ?_
          simp only [vx, vz, Nat.reduceAdd, Nat.reduceSub, Nat.reduceMul, Nat.reduceLeDiff, Nat.reduceLT, Nat.reduceEqDiff, Nat.reduceBEq, Int.reduceToNat, Int.reduceNeg, Int.reduceEq, Int.reduceNe, Int.reduceLE, Int.reduceLT, reduceCtorEq, ↓reduceIte]
          rw [wr_i64 (by omega) (by omega)]
          rfl
        | true =>
          simp only [vx, vz, Nat.reduceAdd, Nat.reduceSub, Nat.reduceMul, Nat.reduceLeDiff, Nat.reduceLT, Nat.reduceEqDiff, Nat.reduceBEq, Int.reduceToNat, Int.reduceNeg, Int.reduceEq, Int.reduceNe, Int.reduceLE, Int.reduceLT, reduceCtorEq, ↓reduceIte, decide_not, h2, Bool.not_true]
          refine call_p rfl (t29 w c.va (u + 1 : Nat) okw) ?_
          simp only [vx, vz, Nat.reduceAdd, Nat.reduceSub, Nat.reduceMul, Nat.reduceLeDiff, Nat.reduceLT, Nat.reduceEqDiff, Nat.reduceBEq, Int.reduceToNat, Int.reduceNeg, Int.reduceEq, Int.reduceNe, Int.reduceLE, Int.reduceLT, reduceCtorEq, ↓reduceIte]
          cases h3 : decide (valS w c.va (u + 1 : Nat) = 0) with
          | true =>
            simp only [vx, vz, Nat.reduceAdd, Nat.reduceSub, Nat.reduceMul, Nat.reduceLeDiff, Nat.reduceLT, Nat.reduceEqDiff, Nat.reduceBEq, Int.reduceToNat, Int.reduceNeg, Int.reduceEq, Int.reduceNe, Int.reduceLE, Int.reduceLT, reduceCtorEq, ↓reduceIte, fin (by rw [h1, h2, h3]; rfl)]
          | false =>
            simp only [vx, vz, Nat.reduceAdd, Nat.reduceSub, Nat.reduceMul, Nat.reduceLeDiff, Nat.reduceLT, Nat.reduceEqDiff, Nat.reduceBEq, Int.reduceToNat, Int.reduceNeg, Int.reduceEq, Int.reduceNe, Int.reduceLE, Int.reduceLT, reduceCtorEq, ↓reduceIte]
            have f1 : (flds w c u).length = c.fs.length := by rw [flds, List.length_map]
            have f2 : (flds w c (u + 1 : Nat)).length = c.fs.length := by rw [flds, List.length_map]
            refine loop_st (fun k : Nat => ⟨mkF 72 [(2, .optr 2 0 1 0 0), (3, .optr 3 1 1 0 0), (7, .d (.int .i64 (u + 1 : Nat))), (8, .d (.int .i64 k))], [rW w, rC c, .dead]⟩) (fun k => k ≤ c.fs.length ∧ (flds w c u).take k = (flds w c (u + 1 : Nat)).take k) (fun k => c.fs.length - k) 0 (weak_any (by simp only [vx, vz, Nat.reduceAdd, Nat.reduceSub, Nat.reduceMul, Nat.reduceLeDiff, Nat.reduceLT, Nat.reduceEqDiff, Nat.reduceBEq, Int.reduceToNat, Int.reduceNeg, Int.reduceEq, Int.reduceNe, Int.reduceLE, Int.reduceLT, reduceCtorEq, ↓reduceIte]; try trivial)) ⟨by omega, by simp⟩ (fun k hk => ?_)
            obtain ⟨j1, j2⟩ := hk
            simp only [vx, vz, Nat.reduceAdd, Nat.reduceSub, Nat.reduceMul, Nat.reduceLeDiff, Nat.reduceLT, Nat.reduceEqDiff, Nat.reduceBEq, Int.reduceToNat, Int.reduceNeg, Int.reduceEq, Int.reduceNe, Int.reduceLE, Int.reduceLT, reduceCtorEq, ↓reduceIte]
            refine cond_split (fun hc2 => ?_) (fun hc2 => ?_)
            · simp only [decide_eq_true_eq] at hc2
              obtain ⟨s, hs⟩ := get_ex (l := c.fs) (i := k) (by omega)
              have p1 : (flds w c u)[k]? = some (valS w s u) := by rw [flds, List.getElem?_map, hs]; rfl
              have p2 : (flds w c (u + 1 : Nat))[k]? = some (valS w s (u + 1 : Nat)) := by rw [flds, List.getElem?_map, hs]; rfl
              simp only [vx, vz, Nat.reduceAdd, Nat.reduceSub, Nat.reduceMul, Nat.reduceLeDiff, Nat.reduceLT, Nat.reduceEqDiff, Nat.reduceBEq, Int.reduceToNat, Int.reduceNeg, Int.reduceEq, Int.reduceNe, Int.reduceLE, Int.reduceLT, reduceCtorEq, ↓reduceIte]
              refine c_draw ?_
              simp only [vx, vz, Nat.reduceAdd, Nat.reduceSub, Nat.reduceMul, Nat.reduceLeDiff, Nat.reduceLT, Nat.reduceEqDiff, Nat.reduceBEq, Int.reduceToNat, Int.reduceNeg, Int.reduceEq, Int.reduceNe, Int.reduceLE, Int.reduceLT, reduceCtorEq, ↓reduceIte]
              repeat (refine d_k rfl rfl ?_; simp only [vx, vz, Nat.reduceAdd, Nat.reduceSub, Nat.reduceMul, Nat.reduceLeDiff, Nat.reduceLT, Nat.reduceEqDiff, Nat.reduceBEq, Int.reduceToNat, Int.reduceNeg, Int.reduceEq, Int.reduceNe, Int.reduceLE, Int.reduceLT, reduceCtorEq, ↓reduceIte])
              refine ⟨by omega, by omega, getM_at hs ?_⟩
              simp only [vx, vz, Nat.reduceAdd, Nat.reduceSub, Nat.reduceMul, Nat.reduceLeDiff, Nat.reduceLT, Nat.reduceEqDiff, Nat.reduceBEq, Int.reduceToNat, Int.reduceNeg, Int.reduceEq, Int.reduceNe, Int.reduceLE, Int.reduceLT, reduceCtorEq, ↓reduceIte]
              simp only [vx, vz, Nat.reduceAdd, Nat.reduceSub, Nat.reduceMul, Nat.reduceLeDiff, Nat.reduceLT, Nat.reduceEqDiff, Nat.reduceBEq, Int.reduceToNat, Int.reduceNeg, Int.reduceEq, Int.reduceNe, Int.reduceLE, Int.reduceLT, reduceCtorEq, ↓reduceIte, sD]
              repeat (refine d_k rfl rfl ?_; simp only [vx, vz, Nat.reduceAdd, Nat.reduceSub, Nat.reduceMul, Nat.reduceLeDiff, Nat.reduceLT, Nat.reduceEqDiff, Nat.reduceBEq, Int.reduceToNat, Int.reduceNeg, Int.reduceEq, Int.reduceNe, Int.reduceLE, Int.reduceLT, reduceCtorEq, ↓reduceIte])
              refine call_p rfl (t29 w s (u + 1 : Nat) okw) ?_
              repeat (refine d_k rfl rfl ?_; simp only [vx, vz, Nat.reduceAdd, Nat.reduceSub, Nat.reduceMul, Nat.reduceLeDiff, Nat.reduceLT, Nat.reduceEqDiff, Nat.reduceBEq, Int.reduceToNat, Int.reduceNeg, Int.reduceEq, Int.reduceNe, Int.reduceLE, Int.reduceLT, reduceCtorEq, ↓reduceIte])
              refine ⟨by omega, by omega, getM_at hs ?_⟩
              simp only [vx, vz, Nat.reduceAdd, Nat.reduceSub, Nat.reduceMul, Nat.reduceLeDiff, Nat.reduceLT, Nat.reduceEqDiff, Nat.reduceBEq, Int.reduceToNat, Int.reduceNeg, Int.reduceEq, Int.reduceNe, Int.reduceLE, Int.reduceLT, reduceCtorEq, ↓reduceIte]
              simp only [vx, vz, Nat.reduceAdd, Nat.reduceSub, Nat.reduceMul, Nat.reduceLeDiff, Nat.reduceLT, Nat.reduceEqDiff, Nat.reduceBEq, Int.reduceToNat, Int.reduceNeg, Int.reduceEq, Int.reduceNe, Int.reduceLE, Int.reduceLT, reduceCtorEq, ↓reduceIte, sD]
              repeat (refine d_k rfl rfl ?_; simp only [vx, vz, Nat.reduceAdd, Nat.reduceSub, Nat.reduceMul, Nat.reduceLeDiff, Nat.reduceLT, Nat.reduceEqDiff, Nat.reduceBEq, Int.reduceToNat, Int.reduceNeg, Int.reduceEq, Int.reduceNe, Int.reduceLE, Int.reduceLT, reduceCtorEq, ↓reduceIte])
              rw [e1]
              refine call_p rfl (t29 w s u okw) ?_
              repeat (refine d_k rfl rfl ?_; simp only [vx, vz, Nat.reduceAdd, Nat.reduceSub, Nat.reduceMul, Nat.reduceLeDiff, Nat.reduceLT, Nat.reduceEqDiff, Nat.reduceBEq, Int.reduceToNat, Int.reduceNeg, Int.reduceEq, Int.reduceNe, Int.reduceLE, Int.reduceLT, reduceCtorEq, ↓reduceIte])
              by_cases hne : valS w s (u + 1 : Nat) = valS w s u
              · simp only [vx, vz, Nat.reduceAdd, Nat.reduceSub, Nat.reduceMul, Nat.reduceLeDiff, Nat.reduceLT, Nat.reduceEqDiff, Nat.reduceBEq, Int.reduceToNat, Int.reduceNeg, Int.reduceEq, Int.reduceNe, Int.reduceLE, Int.reduceLT, reduceCtorEq, ↓reduceIte, decide_not, dt hne, Bool.not_true]
                refine ls_n (k + 1) (by omega) (weak_any ?_) ⟨by omega, by rw [take_at p1, take_at p2, j2, hne]⟩
                simp only [vx, vz, Nat.reduceAdd, Nat.reduceSub, Nat.reduceMul, Nat.reduceLeDiff, Nat.reduceLT, Nat.reduceEqDiff, Nat.reduceBEq, Int.reduceToNat, Int.reduceNeg, Int.reduceEq, Int.reduceNe, Int.reduceLE, Int.reduceLT, reduceCtorEq, ↓reduceIte]
                rw [wr_i64 (by omega) (by omega)]
                first | trivial | exact ⟨rfl, rfl⟩
              · have hd : ¬ flds w c u = flds w c (u + 1 : Nat) := fun e => hne (by rw [e, p2] at p1; injection p1)
                simp only [vx, vz, Nat.reduceAdd, Nat.reduceSub, Nat.reduceMul, Nat.reduceLeDiff, Nat.reduceLT, Nat.reduceEqDiff, Nat.reduceBEq, Int.reduceToNat, Int.reduceNeg, Int.reduceEq, Int.reduceNe, Int.reduceLE, Int.reduceLT, reduceCtorEq, ↓reduceIte, decide_not, df hne, Bool.not_false, fin (by rw [h1, h2, h3, df hd]; rfl)]
            · simp only [decide_eq_false_iff_not] at hc2
              rw [take_end (by omega), take_end (by omega)] at j2
              simp only [vx, vz, Nat.reduceAdd, Nat.reduceSub, Nat.reduceMul, Nat.reduceLeDiff, Nat.reduceLT, Nat.reduceEqDiff, Nat.reduceBEq, Int.reduceToNat, Int.reduceNeg, Int.reduceEq, Int.reduceNe, Int.reduceLE, Int.reduceLT, reduceCtorEq, ↓reduceIte]
              refine skip (by rw [h1, h2, h3, dt j2]; rfl) _ ?_
              simp only [vx, vz, Nat.reduceAdd, Nat.reduceSub, Nat.reduceMul, Nat.reduceLeDiff, Nat.reduceLT, Nat.reduceEqDiff, Nat.reduceBEq, Int.reduceToNat, Int.reduceNeg, Int.reduceEq, Int.reduceNe, Int.reduceLE, Int.reduceLT, reduceCtorEq, ↓reduceIte]
              rw [wr_i64 (by omega) (by omega)]
              rfl
    · simp only [decide_eq_false_iff_not] at hc
      rw [stb_end (by omega)] at hi
      simp only [vx, vz, Nat.reduceAdd, Nat.reduceSub, Nat.reduceMul, Nat.reduceLeDiff, Nat.reduceLT, Nat.reduceEqDiff, Nat.reduceBEq, Int.reduceToNat, Int.reduceNeg, Int.reduceEq, Int.reduceNe, Int.reduceLE, Int.reduceLT, reduceCtorEq, ↓reduceIte, hi]
  · rw [show stbV w c = .tup [.d (.int .i64 0), .d (.int .i64 (errS w [c]))] by unfold stbV; rw [if_neg he]]
    simp only [vx, vz, Nat.reduceAdd, Nat.reduceSub, Nat.reduceMul, Nat.reduceLeDiff, Nat.reduceLT, Nat.reduceEqDiff, Nat.reduceBEq, Int.reduceToNat, Int.reduceNeg, Int.reduceEq, Int.reduceNe, Int.reduceLE, Int.reduceLT, reduceCtorEq, ↓reduceIte, dt he]
end Go.Proofs.Mn
