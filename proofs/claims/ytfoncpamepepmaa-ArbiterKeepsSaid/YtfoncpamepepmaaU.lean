import Derived.Test.YtfoncpamepepmaaK
import Derived.Test.YtfoncpamepepmaaS
import Derived.Test.YtfoncpamepepmaaT
set_option linter.unusedSimpArgs false
set_option linter.unusedVariables false
namespace Go.Proofs.Ar
open Go.Vx
theorem t39 (x : Sl) : CallP Try.prog 39 [slV x] (.d (.bool x.1)) := by
  refine go39 ac39 rfl ?_
  simp only [vx, vz, Nat.reduceAdd, Nat.reduceSub, Nat.reduceMul, Nat.reduceLeDiff, Nat.reduceLT, Nat.reduceEqDiff, Nat.reduceBEq, Int.reduceToNat, Int.reduceNeg, Int.reduceEq, Int.reduceNe, Int.reduceLE, Int.reduceLT, reduceCtorEq, ↓reduceIte, ac39]
def idx (l : List Sl) : Int := fidx (fun s : Sl => s.1) l 0
theorem t45 (l : List Sl) (hl : l.length ≤ 1000) : CallP Try.prog 45 [stV l, .fn (.func 39) [] []] (.d (.int .i64 (idx l))) := by
  refine go45 ac45 rfl ?_
  simp only [vx, vz, Nat.reduceAdd, Nat.reduceSub, Nat.reduceMul, Nat.reduceLeDiff, Nat.reduceLT, Nat.reduceEqDiff, Nat.reduceBEq, Int.reduceToNat, Int.reduceNeg, Int.reduceEq, Int.reduceNe, Int.reduceLE, Int.reduceLT, reduceCtorEq, ↓reduceIte, ac45]
  refine loop_st (fun i : Nat => ⟨mkF 19 [(0, stV l), (1, .fn (.func 39) [] []), (7, .d (.int .i64 l.length)), (8, .d (.int .i64 i))], []⟩) (fun i => i ≤ l.length ∧ idx l = fidx (fun s : Sl => s.1) (l.drop i) i) (fun i => l.length - i) 0 (weak_any (by simp only [vx, vz, Nat.reduceAdd, Nat.reduceSub, Nat.reduceMul, Nat.reduceLeDiff, Nat.reduceLT, Nat.reduceEqDiff, Nat.reduceBEq, Int.reduceToNat, Int.reduceNeg, Int.reduceEq, Int.reduceNe, Int.reduceLE, Int.reduceLT, reduceCtorEq, ↓reduceIte]; try trivial)) ⟨by omega, by rw [List.drop_zero]; rfl⟩ (fun i hi => ?_)
  obtain ⟨h1, h2⟩ := hi
  simp only [vx, vz, Nat.reduceAdd, Nat.reduceSub, Nat.reduceMul, Nat.reduceLeDiff, Nat.reduceLT, Nat.reduceEqDiff, Nat.reduceBEq, Int.reduceToNat, Int.reduceNeg, Int.reduceEq, Int.reduceNe, Int.reduceLE, Int.reduceLT, reduceCtorEq, ↓reduceIte]
  refine cond_split (fun hc => ?_) (fun hc => ?_)
  · simp only [decide_eq_true_eq] at hc
    obtain ⟨x, hx⟩ := get_ex (l := l) (i := i) (by omega)
    rw [drop_at hx, fidx] at h2
    simp only [vx, vz, Nat.reduceAdd, Nat.reduceSub, Nat.reduceMul, Nat.reduceLeDiff, Nat.reduceLT, Nat.reduceEqDiff, Nat.reduceBEq, Int.reduceToNat, Int.reduceNeg, Int.reduceEq, Int.reduceNe, Int.reduceLE, Int.reduceLT, reduceCtorEq, ↓reduceIte]
    refine ⟨by omega, by omega, getM_at hx ?_⟩
    simp only [vx, vz, Nat.reduceAdd, Nat.reduceSub, Nat.reduceMul, Nat.reduceLeDiff, Nat.reduceLT, Nat.reduceEqDiff, Nat.reduceBEq, Int.reduceToNat, Int.reduceNeg, Int.reduceEq, Int.reduceNe, Int.reduceLE, Int.reduceLT, reduceCtorEq, ↓reduceIte]
    simp only [vx, vz, Nat.reduceAdd, Nat.reduceSub, Nat.reduceMul, Nat.reduceLeDiff, Nat.reduceLT, Nat.reduceEqDiff, Nat.reduceBEq, Int.reduceToNat, Int.reduceNeg, Int.reduceEq, Int.reduceNe, Int.reduceLE, Int.reduceLT, reduceCtorEq, ↓reduceIte, slD]
    refine call_p rfl (t39 x) ?_
    simp only [vx, vz, Nat.reduceAdd, Nat.reduceSub, Nat.reduceMul, Nat.reduceLeDiff, Nat.reduceLT, Nat.reduceEqDiff, Nat.reduceBEq, Int.reduceToNat, Int.reduceNeg, Int.reduceEq, Int.reduceNe, Int.reduceLE, Int.reduceLT, reduceCtorEq, ↓reduceIte]
    refine cond_split (fun hc2 => ?_) (fun hc2 => ?_)
    · rw [if_pos hc2] at h2
      simp only [vx, vz, Nat.reduceAdd, Nat.reduceSub, Nat.reduceMul, Nat.reduceLeDiff, Nat.reduceLT, Nat.reduceEqDiff, Nat.reduceBEq, Int.reduceToNat, Int.reduceNeg, Int.reduceEq, Int.reduceNe, Int.reduceLE, Int.reduceLT, reduceCtorEq, ↓reduceIte, h2]
    · rw [if_neg (by rw [hc2]; decide)] at h2
      simp only [vx, vz, Nat.reduceAdd, Nat.reduceSub, Nat.reduceMul, Nat.reduceLeDiff, Nat.reduceLT, Nat.reduceEqDiff, Nat.reduceBEq, Int.reduceToNat, Int.reduceNeg, Int.reduceEq, Int.reduceNe, Int.reduceLE, Int.reduceLT, reduceCtorEq, ↓reduceIte]
      refine ls_n (i + 1) (by omega) (weak_any ?_) ⟨by omega, h2⟩
      simp only [vx, vz, Nat.reduceAdd, Nat.reduceSub, Nat.reduceMul, Nat.reduceLeDiff, Nat.reduceLT, Nat.reduceEqDiff, Nat.reduceBEq, Int.reduceToNat, Int.reduceNeg, Int.reduceEq, Int.reduceNe, Int.reduceLE, Int.reduceLT, reduceCtorEq, ↓reduceIte]
      rw [wr_i64 (by omega) (by omega)]
      trivial
  · simp only [decide_eq_false_iff_not] at hc
    rw [drop_end (by omega), fidx] at h2
    simp only [vx, vz, Nat.reduceAdd, Nat.reduceSub, Nat.reduceMul, Nat.reduceLeDiff, Nat.reduceLT, Nat.reduceEqDiff, Nat.reduceBEq, Int.reduceToNat, Int.reduceNeg, Int.reduceEq, Int.reduceNe, Int.reduceLE, Int.reduceLT, reduceCtorEq, ↓reduceIte, h2]
theorem t45n : CallP Try.prog 45 [.d .nils, .fn (.func 39) [] []] (.d (.int .i64 (-1))) := by
  refine go45 ac45 rfl ?_
  simp only [vx, vz, Nat.reduceAdd, Nat.reduceSub, Nat.reduceMul, Nat.reduceLeDiff, Nat.reduceLT, Nat.reduceEqDiff, Nat.reduceBEq, Int.reduceToNat, Int.reduceNeg, Int.reduceEq, Int.reduceNe, Int.reduceLE, Int.reduceLT, reduceCtorEq, ↓reduceIte, ac45]
  refine loop_st (fun i : Nat => ⟨mkF 19 [(7, .d (.int .i64 0)), (8, .d (.int .i64 0))], []⟩) (fun _ => True) (fun i => i) 0 (weak_any (by simp only [vx, vz, Nat.reduceAdd, Nat.reduceSub, Nat.reduceMul, Nat.reduceLeDiff, Nat.reduceLT, Nat.reduceEqDiff, Nat.reduceBEq, Int.reduceToNat, Int.reduceNeg, Int.reduceEq, Int.reduceNe, Int.reduceLE, Int.reduceLT, reduceCtorEq, ↓reduceIte]; try trivial)) trivial (fun i _ => ?_)
  simp only [vx, vz, Nat.reduceAdd, Nat.reduceSub, Nat.reduceMul, Nat.reduceLeDiff, Nat.reduceLT, Nat.reduceEqDiff, Nat.reduceBEq, Int.reduceToNat, Int.reduceNeg, Int.reduceEq, Int.reduceNe, Int.reduceLE, Int.reduceLT, reduceCtorEq, ↓reduceIte, Int.lt_irrefl]
theorem t37n : CallP Try.prog 37 [.d .nils, .fn (.func 39) [] []] (.d .nils) := by
  refine go37 ac37 rfl ?_
  simp only [vx, vz, Nat.reduceAdd, Nat.reduceSub, Nat.reduceMul, Nat.reduceLeDiff, Nat.reduceLT, Nat.reduceEqDiff, Nat.reduceBEq, Int.reduceToNat, Int.reduceNeg, Int.reduceEq, Int.reduceNe, Int.reduceLE, Int.reduceLT, reduceCtorEq, ↓reduceIte, ac37]
  refine call_p rfl (t45n) ?_
  simp only [vx, vz, Nat.reduceAdd, Nat.reduceSub, Nat.reduceMul, Nat.reduceLeDiff, Nat.reduceLT, Nat.reduceEqDiff, Nat.reduceBEq, Int.reduceToNat, Int.reduceNeg, Int.reduceEq, Int.reduceNe, Int.reduceLE, Int.reduceLT, reduceCtorEq, ↓reduceIte]
  exact .d _
theorem t36 (ws : List Int) (n : Nat) (hw : ws.length ≤ maxLen) : CallP Try.prog 36 [.d (.sl 1 (ws.map iD)), .d (.int .i64 n)] (.d (.bool (decide (ws.length = n) && ws.all fun w => decide (1 ≤ w) && decide (w ≤ 1000)))) := by
  have hm := hm
  refine go36 ac36 rfl ?_
  simp only [vx, vz, Nat.reduceAdd, Nat.reduceSub, Nat.reduceMul, Nat.reduceLeDiff, Nat.reduceLT, Nat.reduceEqDiff, Nat.reduceBEq, Int.reduceToNat, Int.reduceNeg, Int.reduceEq, Int.reduceNe, Int.reduceLE, Int.reduceLT, reduceCtorEq, ↓reduceIte, ac36]
  refine cond_split (fun hc => ?_) (fun hc => ?_)
  · have hc : ¬ ws.length = n := by simp at hc; omega
    simp only [vx, vz, Nat.reduceAdd, Nat.reduceSub, Nat.reduceMul, Nat.reduceLeDiff, Nat.reduceLT, Nat.reduceEqDiff, Nat.reduceBEq, Int.reduceToNat, Int.reduceNeg, Int.reduceEq, Int.reduceNe, Int.reduceLE, Int.reduceLT, reduceCtorEq, ↓reduceIte, df hc, Bool.false_and]
  · have hc : ws.length = n := by simp at hc; omega
    simp only [vx, vz, Nat.reduceAdd, Nat.reduceSub, Nat.reduceMul, Nat.reduceLeDiff, Nat.reduceLT, Nat.reduceEqDiff, Nat.reduceBEq, Int.reduceToNat, Int.reduceNeg, Int.reduceEq, Int.reduceNe, Int.reduceLE, Int.reduceLT, reduceCtorEq, ↓reduceIte, dt hc, Bool.true_and]
    refine loop_st (fun i : Nat => ⟨mkF 24 [(11, .d (.sl 1 (ws.map iD))), (12, .d (.int .i64 ws.length)), (13, .d (.int .i64 i))], []⟩) (fun i => i ≤ ws.length ∧ (ws.all fun w => decide (1 ≤ w) && decide (w ≤ 1000)) = (ws.drop i).all fun w => decide (1 ≤ w) && decide (w ≤ 1000)) (fun i => ws.length - i) 0 (weak_any (by simp only [vx, vz, Nat.reduceAdd, Nat.reduceSub, Nat.reduceMul, Nat.reduceLeDiff, Nat.reduceLT, Nat.reduceEqDiff, Nat.reduceBEq, Int.reduceToNat, Int.reduceNeg, Int.reduceEq, Int.reduceNe, Int.reduceLE, Int.reduceLT, reduceCtorEq, ↓reduceIte]; try trivial)) ⟨by omega, by rw [List.drop_zero]⟩ (fun i hi => ?_)
    obtain ⟨h1, h2⟩ := hi
    simp only [vx, vz, Nat.reduceAdd, Nat.reduceSub, Nat.reduceMul, Nat.reduceLeDiff, Nat.reduceLT, Nat.reduceEqDiff, Nat.reduceBEq, Int.reduceToNat, Int.reduceNeg, Int.reduceEq, Int.reduceNe, Int.reduceLE, Int.reduceLT, reduceCtorEq, ↓reduceIte]
    refine cond_split (fun hc => ?_) (fun hc => ?_)
    · simp only [decide_eq_true_eq] at hc
      obtain ⟨w, hw2⟩ := get_ex (l := ws) (i := i) (by omega)
      rw [drop_at hw2, List.all_cons] at h2
      simp only [vx, vz, Nat.reduceAdd, Nat.reduceSub, Nat.reduceMul, Nat.reduceLeDiff, Nat.reduceLT, Nat.reduceEqDiff, Nat.reduceBEq, Int.reduceToNat, Int.reduceNeg, Int.reduceEq, Int.reduceNe, Int.reduceLE, Int.reduceLT, reduceCtorEq, ↓reduceIte]
      refine ⟨by omega, by omega, getM_at hw2 ?_⟩
      simp only [vx, vz, Nat.reduceAdd, Nat.reduceSub, Nat.reduceMul, Nat.reduceLeDiff, Nat.reduceLT, Nat.reduceEqDiff, Nat.reduceBEq, Int.reduceToNat, Int.reduceNeg, Int.reduceEq, Int.reduceNe, Int.reduceLE, Int.reduceLT, reduceCtorEq, ↓reduceIte]
      simp only [vx, vz, Nat.reduceAdd, Nat.reduceSub, Nat.reduceMul, Nat.reduceLeDiff, Nat.reduceLT, Nat.reduceEqDiff, Nat.reduceBEq, Int.reduceToNat, Int.reduceNeg, Int.reduceEq, Int.reduceNe, Int.reduceLE, Int.reduceLT, reduceCtorEq, ↓reduceIte, iD]
      by_cases hq : w < 1
      · rw [df (show ¬ 1 ≤ w by omega), Bool.false_and, Bool.false_and] at h2
        simp only [vx, vz, Nat.reduceAdd, Nat.reduceSub, Nat.reduceMul, Nat.reduceLeDiff, Nat.reduceLT, Nat.reduceEqDiff, Nat.reduceBEq, Int.reduceToNat, Int.reduceNeg, Int.reduceEq, Int.reduceNe, Int.reduceLE, Int.reduceLT, reduceCtorEq, ↓reduceIte, dt hq, h2]
      · rw [dt (show 1 ≤ w by omega), Bool.true_and] at h2
        simp only [vx, vz, Nat.reduceAdd, Nat.reduceSub, Nat.reduceMul, Nat.reduceLeDiff, Nat.reduceLT, Nat.reduceEqDiff, Nat.reduceBEq, Int.reduceToNat, Int.reduceNeg, Int.reduceEq, Int.reduceNe, Int.reduceLE, Int.reduceLT, reduceCtorEq, ↓reduceIte, df hq]
        refine cond_split (fun hc2 => ?_) (fun hc2 => ?_)
        · simp only [decide_eq_true_eq] at hc2
          rw [df (show ¬ w ≤ 1000 by omega), Bool.false_and] at h2
          simp only [vx, vz, Nat.reduceAdd, Nat.reduceSub, Nat.reduceMul, Nat.reduceLeDiff, Nat.reduceLT, Nat.reduceEqDiff, Nat.reduceBEq, Int.reduceToNat, Int.reduceNeg, Int.reduceEq, Int.reduceNe, Int.reduceLE, Int.reduceLT, reduceCtorEq, ↓reduceIte, h2]
        · simp only [decide_eq_false_iff_not] at hc2
          rw [dt (show w ≤ 1000 by omega), Bool.true_and] at h2
          simp only [vx, vz, Nat.reduceAdd, Nat.reduceSub, Nat.reduceMul, Nat.reduceLeDiff, Nat.reduceLT, Nat.reduceEqDiff, Nat.reduceBEq, Int.reduceToNat, Int.reduceNeg, Int.reduceEq, Int.reduceNe, Int.reduceLE, Int.reduceLT, reduceCtorEq, ↓reduceIte]
          refine ls_n (i + 1) (by omega) (weak_any ?_) ⟨by omega, h2⟩
          simp only [vx, vz, Nat.reduceAdd, Nat.reduceSub, Nat.reduceMul, Nat.reduceLeDiff, Nat.reduceLT, Nat.reduceEqDiff, Nat.reduceBEq, Int.reduceToNat, Int.reduceNeg, Int.reduceEq, Int.reduceNe, Int.reduceLE, Int.reduceLT, reduceCtorEq, ↓reduceIte]
          rw [wr_i64 (by omega) (by omega)]
          trivial
    · simp only [decide_eq_false_iff_not] at hc
      rw [drop_end (by omega), List.all_nil] at h2
      simp only [vx, vz, Nat.reduceAdd, Nat.reduceSub, Nat.reduceMul, Nat.reduceLeDiff, Nat.reduceLT, Nat.reduceEqDiff, Nat.reduceBEq, Int.reduceToNat, Int.reduceNeg, Int.reduceEq, Int.reduceNe, Int.reduceLE, Int.reduceLT, reduceCtorEq, ↓reduceIte, h2]
def zC : List V := [.d (.bool false), .d .nils, .d .nils, .d (.str [])]
def clC (l : List Sl) : List (List V) := (l.map slD).map (·.map .d)
theorem clC_len {l : List Sl} : (clC l).length = l.length := by simp [clC]
theorem idx_spec {l : List Sl} {k : Nat} : (fidx (fun s : Sl => s.1) l k = -1 ∧ onlyS l = l) ∨ ∃ i x, fidx (fun s : Sl => s.1) l k = ((k + i : Nat) : Int) ∧ l[i]? = some x ∧ x.1 = true ∧ onlyS (l.take i) = l.take i := by
  induction l generalizing k with
  | nil => exact .inl ⟨rfl, rfl⟩
  | cons x l ih =>
    rw [fidx]
    split
    · next h => exact .inr ⟨0, x, rfl, rfl, h, rfl⟩
    · next h =>
      have hx : x.1 = false := by simpa using h
      have e : ∀ m : List Sl, onlyS m = m → onlyS (x :: m) = x :: m := fun m hm => by
        rw [onlyS, List.filter_cons, if_pos (by simp [hx])]
        exact congrArg (x :: ·) hm
      rcases ih (k := k + 1) with ⟨h1, h2⟩ | ⟨i, y, h1, h2, h3, h4⟩
      · exact .inl ⟨h1, e _ h2⟩
      · exact .inr ⟨i + 1, y, by rw [h1]; congr 1; omega, by simpa using h2, h3, by rw [List.take_succ_cons]; exact e _ h4⟩
theorem cl_set {w : List Sl} {i : Nat} {x : Sl} : (clC w).set i [.d (.bool x.1), .d (.sl 1 (x.2.1.map sD)), .d (.sl 1 (x.2.2.1.map iD)), .d (.str x.2.2.2)] = clC (w.set i x) := by
  rw [clC, clC, List.map_set, List.map_set]; rfl
theorem cl_setF {w : List Sl} {i : Nat} {x : Sl} (h : x.1 = false) : (clC w).set i [.d (.bool false), .d (.sl 1 (x.2.1.map sD)), .d (.sl 1 (x.2.2.1.map iD)), .d (.str x.2.2.2)] = clC (w.set i x) := by rw [← h]; exact cl_set
theorem cl_at {w : List Sl} {i : Nat} {x : Sl} {g : List V → Prop} (h : w[i]? = some x) (hk : g ((slD x).map .d)) : getA (clC w) i g := getA_iff.2 ⟨_, by simp [clC, h], hk⟩
theorem t37 (l : List Sl) (hl : l.length ≤ 100) : CallM Try.prog 37 [.osl 4 0 l.length 0 l.length, .fn (.func 39) [] []] 4 (clC l) (.osl 4 0 l.length 0 (onlyS l).length) (clC (onlyS l) ++ List.replicate (l.length - (onlyS l).length) zC) := by
  have hm := hm
  refine gm37 ac37 rfl ?_
  simp only [vx, vz, Nat.reduceAdd, Nat.reduceSub, Nat.reduceMul, Nat.reduceLeDiff, Nat.reduceLT, Nat.reduceEqDiff, Nat.reduceBEq, Int.reduceToNat, Int.reduceNeg, Int.reduceEq, Int.reduceNe, Int.reduceLE, Int.reduceLT, reduceCtorEq, ↓reduceIte, ac37]
  refine call_s (v := .d (.int .i64 (idx l))) ?_ rfl ?_ ?_
  · intro x hx
    simp only [List.nil_append, List.append_nil, List.mem_cons, List.not_mem_nil, or_false] at hx
    rcases hx with rfl | rfl
    · exact (sl_ok (l := l) rfl rfl).1
    · exact ⟨by simp, by simp⟩
  · simp only [List.nil_append, List.append_nil, List.map_cons, List.map_nil, (sl_ok (l := l) (h := 0) (n := l.length) (rows := [RowS.live 4 (clC l)]) rfl rfl).2]
    exact t45 l (by omega)
  simp only [vx, vz, Nat.reduceAdd, Nat.reduceSub, Nat.reduceMul, Nat.reduceLeDiff, Nat.reduceLT, Nat.reduceEqDiff, Nat.reduceBEq, Int.reduceToNat, Int.reduceNeg, Int.reduceEq, Int.reduceNe, Int.reduceLE, Int.reduceLT, reduceCtorEq, ↓reduceIte]
  rcases idx_spec (l := l) (k := 0) with ⟨h1, h2⟩ | ⟨i0, x0, h1, h2, h3, h4⟩
  · rw [show idx l = -1 from h1, h2, Nat.sub_self]
    simp only [vx, vz, Nat.reduceAdd, Nat.reduceSub, Nat.reduceMul, Nat.reduceLeDiff, Nat.reduceLT, Nat.reduceEqDiff, Nat.reduceBEq, Int.reduceToNat, Int.reduceNeg, Int.reduceEq, Int.reduceNe, Int.reduceLE, Int.reduceLT, reduceCtorEq, ↓reduceIte]
    refine retM_r ⟨mkF 42 [(4, .osl 4 0 l.length 0 l.length)], [.live 4 (clC l)]⟩ (weak_any ?_) (by simp) rfl
    simp only [vx, vz, Nat.reduceAdd, Nat.reduceSub, Nat.reduceMul, Nat.reduceLeDiff, Nat.reduceLT, Nat.reduceEqDiff, Nat.reduceBEq, Int.reduceToNat, Int.reduceNeg, Int.reduceEq, Int.reduceNe, Int.reduceLE, Int.reduceLT, reduceCtorEq, ↓reduceIte]
    try trivial
  · rw [Nat.zero_add] at h1
    rw [show idx l = (i0 : Nat) from h1]
    have hi0 := (List.getElem?_eq_some_iff.1 h2).1
    simp only [vx, vz, Nat.reduceAdd, Nat.reduceSub, Nat.reduceMul, Nat.reduceLeDiff, Nat.reduceLT, Nat.reduceEqDiff, Nat.reduceBEq, Int.reduceToNat, Int.reduceNeg, Int.reduceEq, Int.reduceNe, Int.reduceLE, Int.reduceLT, reduceCtorEq, ↓reduceIte, df (show ¬ (i0 : Int) = -1 by omega), clC_len]
    refine loop_st (fun s : Nat × Nat × List Sl => ⟨mkF 42 [(0, .osl 4 0 l.length 0 l.length), (1, .fn (.func 39) [] []), (5, .d (.int .i64 s.1)), (6, .d (.int .i64 s.2.1))], [.live 4 (clC s.2.2)]⟩) (fun s => s.2.1 ≤ l.length ∧ s.2.2.length = l.length ∧ s.1 = (onlyS (l.take s.2.1)).length ∧ s.2.2.take s.1 = onlyS (l.take s.2.1) ∧ s.2.2.drop s.2.1 = l.drop s.2.1 ∧ s.1 < s.2.1) (fun s => l.length - s.2.1) (i0, i0 + 1, l) (weak_any (by
      simp only [vx, vz, Nat.reduceAdd, Nat.reduceSub, Nat.reduceMul, Nat.reduceLeDiff, Nat.reduceLT, Nat.reduceEqDiff, Nat.reduceBEq, Int.reduceToNat, Int.reduceNeg, Int.reduceEq, Int.reduceNe, Int.reduceLE, Int.reduceLT, reduceCtorEq, ↓reduceIte]
      rw [wr_i64 (by omega) (by omega)]
      try trivial)) ⟨by simp only; omega, rfl, ?_, ?_, rfl, by simp only; omega⟩ (fun s hs => ?_)
    · simp only; rw [only_snoc h2, if_pos h3, h4, List.length_take]; omega
    · simp only; rw [only_snoc h2, if_pos h3, h4]
    obtain ⟨i, j, w⟩ := s
    obtain ⟨g1, g2, g3, g4, g5, g6⟩ := hs
    simp only at g1 g2 g3 g4 g5 g6
    simp only [vx, vz, Nat.reduceAdd, Nat.reduceSub, Nat.reduceMul, Nat.reduceLeDiff, Nat.reduceLT, Nat.reduceEqDiff, Nat.reduceBEq, Int.reduceToNat, Int.reduceNeg, Int.reduceEq, Int.reduceNe, Int.reduceLE, Int.reduceLT, reduceCtorEq, ↓reduceIte, clC_len]
    refine ⟨g2, ?_⟩
    refine cond_split (fun hc => ?_) (fun hc => ?_)
    · simp only [decide_eq_true_eq] at hc
      obtain ⟨x, hx⟩ := get_ex (l := l) (i := j) (by omega)
      have hwx : w[j]? = some x := by
        have := congrArg (fun m : List Sl => m[0]?) g5
        simpa [List.getElem?_drop, hx] using this
      have es := only_snoc hx
      simp only [vx, vz, Nat.reduceAdd, Nat.reduceSub, Nat.reduceMul, Nat.reduceLeDiff, Nat.reduceLT, Nat.reduceEqDiff, Nat.reduceBEq, Int.reduceToNat, Int.reduceNeg, Int.reduceEq, Int.reduceNe, Int.reduceLE, Int.reduceLT, reduceCtorEq, ↓reduceIte, clC_len]
      refine ⟨by omega, by omega, by omega, by omega, cl_at hwx ?_⟩
      simp only [vx, vz, Nat.reduceAdd, Nat.reduceSub, Nat.reduceMul, Nat.reduceLeDiff, Nat.reduceLT, Nat.reduceEqDiff, Nat.reduceBEq, Int.reduceToNat, Int.reduceNeg, Int.reduceEq, Int.reduceNe, Int.reduceLE, Int.reduceLT, reduceCtorEq, ↓reduceIte, slD]
      refine call_p rfl (t39 x) ?_
      simp only [vx, vz, Nat.reduceAdd, Nat.reduceSub, Nat.reduceMul, Nat.reduceLeDiff, Nat.reduceLT, Nat.reduceEqDiff, Nat.reduceBEq, Int.reduceToNat, Int.reduceNeg, Int.reduceEq, Int.reduceNe, Int.reduceLE, Int.reduceLT, reduceCtorEq, ↓reduceIte]
      cases hxi : x.1 with
      | true =>
        rw [hxi, if_pos rfl] at es
        simp only [vx, vz, Nat.reduceAdd, Nat.reduceSub, Nat.reduceMul, Nat.reduceLeDiff, Nat.reduceLT, Nat.reduceEqDiff, Nat.reduceBEq, Int.reduceToNat, Int.reduceNeg, Int.reduceEq, Int.reduceNe, Int.reduceLE, Int.reduceLT, reduceCtorEq, ↓reduceIte]
        refine ls_n (i, j + 1, w) (by simp only; omega) (Weak.trans (weak_any ?_) (weak_frz2 1 (by omega) ⟨.same _ rowB_data, trivial⟩ (kpL_refl ?_))) ⟨by simp only; omega, g2, by simp only; rw [es]; exact g3, by simp only; rw [es]; exact g4, ?_, by simp only; omega⟩
        · simp only [vx, vz, Nat.reduceAdd, Nat.reduceSub, Nat.reduceMul, Nat.reduceLeDiff, Nat.reduceLT, Nat.reduceEqDiff, Nat.reduceBEq, Int.reduceToNat, Int.reduceNeg, Int.reduceEq, Int.reduceNe, Int.reduceLE, Int.reduceLT, reduceCtorEq, ↓reduceIte]
          rw [wr_i64 (by omega) (by omega)]
          try trivial
        · rfl
        · simp only
          rw [← List.drop_drop, ← List.drop_drop, g5]
      | false =>
        rw [hxi, if_neg (by decide)] at es
        simp only [vx, vz, Nat.reduceAdd, Nat.reduceSub, Nat.reduceMul, Nat.reduceLeDiff, Nat.reduceLT, Nat.reduceEqDiff, Nat.reduceBEq, Int.reduceToNat, Int.reduceNeg, Int.reduceEq, Int.reduceNe, Int.reduceLE, Int.reduceLT, reduceCtorEq, ↓reduceIte, clC_len]
        obtain ⟨y, hy⟩ := get_ex (l := w) (i := i) (by omega)
        refine ⟨by omega, by omega, by omega, by omega, cl_at hy ?_⟩
        simp only [vx, vz, Nat.reduceAdd, Nat.reduceSub, Nat.reduceMul, Nat.reduceLeDiff, Nat.reduceLT, Nat.reduceEqDiff, Nat.reduceBEq, Int.reduceToNat, Int.reduceNeg, Int.reduceEq, Int.reduceNe, Int.reduceLE, Int.reduceLT, reduceCtorEq, ↓reduceIte, slD]
        rw [cl_setF hxi]
        have hdj : w.drop (j + 1) = l.drop (j + 1) := by rw [← List.drop_drop, ← List.drop_drop, g5]
        refine ls_n (i + 1, j + 1, w.set i x) (by simp only; omega) (Weak.trans (weak_any ?_) (weak_frz2 1 (by omega) ⟨.same _ rowB_data, trivial⟩ (kpL_refl ?_))) ⟨by simp only; omega, by simp only [List.length_set]; exact g2, by simp only; rw [es, List.length_append, ← g3]; rfl, ?_, ?_, by simp only; omega⟩
        · simp only [vx, vz, Nat.reduceAdd, Nat.reduceSub, Nat.reduceMul, Nat.reduceLeDiff, Nat.reduceLT, Nat.reduceEqDiff, Nat.reduceBEq, Int.reduceToNat, Int.reduceNeg, Int.reduceEq, Int.reduceNe, Int.reduceLE, Int.reduceLT, reduceCtorEq, ↓reduceIte]
          rw [wr_i64 (by omega) (by omega), wr_i64 (by omega) (by omega)]
          exact ⟨rfl, rfl⟩
        · rfl
        · simp only
          rw [es, ← g4, take_at (x := x) (by rw [List.getElem?_set_self (by omega)]), List.take_set_of_le (by omega)]
        · simp only
          rw [List.drop_set, if_pos (by omega), hdj]
    · simp only [decide_eq_false_iff_not] at hc
      obtain rfl : j = l.length := by omega
      rw [take_end (Nat.le_refl _)] at g3 g4
      simp only [vx, vz, Nat.reduceAdd, Nat.reduceSub, Nat.reduceMul, Nat.reduceLeDiff, Nat.reduceLT, Nat.reduceEqDiff, Nat.reduceBEq, Int.reduceToNat, Int.reduceNeg, Int.reduceEq, Int.reduceNe, Int.reduceLE, Int.reduceLT, reduceCtorEq, ↓reduceIte, clC_len]
      refine ⟨g2, by omega, by omega, by omega, by omega, g2, by simp [clC_len]; omega, by omega, by omega, ?_⟩
      have e1 : List.take i (clC w) ++ List.replicate (l.length - i) [V.d (.bool false), V.d .nils, V.d .nils, V.d (.str [])] ++ List.drop (i + (l.length - i)) (clC w) = clC (onlyS l) ++ List.replicate (l.length - (onlyS l).length) zC := by
        rw [drop_end (l := clC w) (by rw [clC_len]; omega), List.append_nil, ← g3]
        congr 1
        rw [clC, ← List.map_take, ← List.map_take, g4]; rfl
      rw [e1, ← g3, Nat.sub_zero]
      refine retM_r ⟨mkF 42 [(4, .osl 4 0 l.length 0 i)], _⟩ (weak_any ?_) rfl rfl
      simp only [vx, vz, Nat.reduceAdd, Nat.reduceSub, Nat.reduceMul, Nat.reduceLeDiff, Nat.reduceLT, Nat.reduceEqDiff, Nat.reduceBEq, Int.reduceToNat, Int.reduceNeg, Int.reduceEq, Int.reduceNe, Int.reduceLE, Int.reduceLT, reduceCtorEq, ↓reduceIte]
      try trivial
end Go.Proofs.Ar

namespace Go.Proofs.Ar
open Go.Vx
abbrev W := BitVec 64
theorem t38 {r0 r1 : RowS} {K : V → Go.Vx.Rows → Prop} (s : List Sl) (hl : s.length ≤ 20) (h1 : s = [] → K (.d .nils) [r0, r1]) (h2 : K (.osl 4 2 s.length 0 s.length) [r0, r1, .live 4 (clC s), .un]) : InlP Try.prog 38 [.d (.sl 4 (s.map slD))] [r0, r1] K := by
  refine gi38 ac38 rfl ?_
  cases s with
  | nil =>
    simp only [vx, vz, Nat.reduceAdd, Nat.reduceSub, Nat.reduceMul, Nat.reduceLeDiff, Nat.reduceLT, Nat.reduceEqDiff, Nat.reduceBEq, Int.reduceToNat, Int.reduceNeg, Int.reduceEq, Int.reduceNe, Int.reduceLE, Int.reduceLT, reduceCtorEq, ↓reduceIte, ac38]
    exact ⟨h1 rfl, by unfold maxBytes; omega, h2⟩
  | cons x s =>
    simp only [vx, vz, Nat.reduceAdd, Nat.reduceSub, Nat.reduceMul, Nat.reduceLeDiff, Nat.reduceLT, Nat.reduceEqDiff, Nat.reduceBEq, Int.reduceToNat, Int.reduceNeg, Int.reduceEq, Int.reduceNe, Int.reduceLE, Int.reduceLT, reduceCtorEq, ↓reduceIte, ac38]
    simp only [List.length_cons] at hl
    exact ⟨by unfold maxBytes; omega, h2⟩
theorem pck_at {l : List Int} {x : Int} (h0 : 0 ≤ x) (h1 : x < l.sum) (hw : ∀ w ∈ l, 0 ≤ w) : ∃ w, l[Rg.pck l x]? = some w ∧ 0 < w := by
  induction l generalizing x with
  | nil => simp at h1; omega
  | cons w l ih =>
    rw [List.sum_cons] at h1
    rw [Rg.pck]
    split
    · next h => exact ⟨w, rfl, by omega⟩
    · next h =>
      obtain ⟨v, h2, h3⟩ := ih (x := x - w) (by omega) (by omega) (fun w hw' => hw w (by simp [hw']))
      exact ⟨v, by simpa using h2, h3⟩
theorem totG_ok {l : List Int} {s : Int} (h0 : 0 ≤ s) (h : ∀ w ∈ l, 0 ≤ w ∧ w ≤ 1000) (hs : s + 1000 * l.length ≤ 1000000) : Rg.totG l s = some (s + l.sum) ∧ 0 ≤ l.sum := by
  induction l generalizing s with
  | nil => simp [Rg.totG]
  | cons w l ih =>
    have hw := h w (by simp)
    simp only [List.length_cons] at hs
    obtain ⟨h1, h2⟩ := ih (s := s + w) (by omega) (fun x hx => h x (by simp [hx])) (by omega)
    rw [Rg.totG, if_neg (by omega), h1, List.sum_cons]
    exact ⟨by congr 1; omega, by omega⟩
def nowS (ls : List (List Sl)) (ws : List Int) : List Int := List.zipWith (fun s w => if s.length = 0 then 0 else w) ls ws
def okW (ws : List Int) : Prop := ws.length ≤ 20 ∧ ∀ w ∈ ws, 1 ≤ w ∧ w ≤ 1000
theorem now_at {ls : List (List Sl)} {ws : List Int} {i : Nat} {s : List Sl} {w : Int} (h1 : ls[i]? = some s) (h2 : ws[i]? = some w) : (nowS ls ws)[i]? = some (if s.length = 0 then 0 else w) := by
  simp [nowS, List.getElem?_zipWith, h1, h2]
theorem now_len {ls : List (List Sl)} {ws : List Int} (h : ls.length = ws.length) : (nowS ls ws).length = ws.length := by simp [nowS, h]
theorem now_ok {ls : List (List Sl)} {ws : List Int} (hw : okW ws) (h : ls.length = ws.length) : ∀ x ∈ nowS ls ws, 0 ≤ x ∧ x ≤ 1000 := by
  intro x hx
  obtain ⟨i, hi, rfl⟩ := List.getElem_of_mem hx
  have hl := now_len h
  obtain ⟨s, hs⟩ := get_ex (l := ls) (i := i) (by omega)
  obtain ⟨w, hww⟩ := get_ex (l := ws) (i := i) (by omega)
  have := now_at hs hww
  rw [List.getElem?_eq_getElem hi] at this
  injection this with this
  rw [this]
  have hw2 := hw.2 w (List.mem_of_getElem? hww)
  split <;> omega
theorem now_tot {ls : List (List Sl)} {ws : List Int} (hw : okW ws) (h : ls.length = ws.length) : Rg.tot (nowS ls ws) = (nowS ls ws).sum ∧ 0 ≤ (nowS ls ws).sum := by
  have hl := now_len h
  have := hw.1
  obtain ⟨h1, h2⟩ := totG_ok (l := nowS ls ws) (s := 0) (by omega) (now_ok hw h) (by omega)
  exact ⟨by rw [Rg.tot, h1]; simp, h2⟩
def pick (k c : W) (ls : List (List Sl)) (ws : List Int) : Nat := Rg.pck (nowS ls ws) (Rg.belX k c (Rg.tot (nowS ls ws)))
theorem pick_at {k c : W} {ls : List (List Sl)} {ws : List Int} (hw : okW ws) (h : ls.length = ws.length) (hp : 0 < Rg.tot (nowS ls ws)) : ∃ x s, ls[pick k c ls ws]? = some (x :: s) := by
  obtain ⟨h1, h2⟩ := now_tot hw h
  obtain ⟨_, h3, h4, h5⟩ := Rg.tot_facts hp
  obtain ⟨hb1, hb2⟩ := Rg.belX_lt (k := k) (c := c) (n := Rg.tot (nowS ls ws)) (by omega) (by omega)
  obtain ⟨v, h6, h7⟩ := pck_at hb1 (by omega) h3
  have hl := now_len h
  have hi := (List.getElem?_eq_some_iff.1 h6).1
  obtain ⟨s, hs⟩ := get_ex (l := ls) (i := pick k c ls ws) (by rw [pick]; omega)
  obtain ⟨w, hww⟩ := get_ex (l := ws) (i := pick k c ls ws) (by rw [pick]; omega)
  have h8 := now_at hs hww
  rw [pick] at h8 hs ⊢
  rw [h6] at h8
  injection h8 with h8
  cases s with
  | nil => simp at h8; omega
  | cons x s => exact ⟨x, s, hs⟩
def lotS (ws : List Int) (k : W) : Nat → W → List (List Sl) → List Sl
  | 0, _, _ => []
  | n + 1, c, ls => if 0 < Rg.tot (nowS ls ws) then match ls[pick k c ls ws]? with
    | some (x :: s) => x :: lotS ws k n (Rg.belC k c (Rg.tot (nowS ls ws))) (ls.set (pick k c ls ws) s)
    | _ => []
    else []
theorem lot_go {ws : List Int} {k c : W} {n : Nat} {ls : List (List Sl)} {x : Sl} {s : List Sl} (hp : 0 < Rg.tot (nowS ls ws)) (h : ls[pick k c ls ws]? = some (x :: s)) : lotS ws k (n + 1) c ls = x :: lotS ws k n (Rg.belC k c (Rg.tot (nowS ls ws))) (ls.set (pick k c ls ws) s) := by
  rw [lotS, if_pos hp, h]
theorem lot_end {ws : List Int} {k c : W} {n : Nat} {ls : List (List Sl)} (hp : ¬ 0 < Rg.tot (nowS ls ws)) : lotS ws k n c ls = [] := by
  cases n with
  | zero => rfl
  | succ n => rw [lotS, if_neg hp]
theorem tot_set {ls : List (List Sl)} {i : Nat} {x : Sl} {s : List Sl} (h : ls[i]? = some (x :: s)) : tot (ls.set i s) + 1 = tot ls := by
  induction ls generalizing i with
  | nil => simp at h
  | cons a ls ih => cases i with
    | zero => simp at h; subst h; simp [tot]; omega
    | succ i => have := ih (i := i) (by simpa using h); simp [tot]; omega
theorem tot_now {ls : List (List Sl)} {ws : List Int} (hw : okW ws) (h : ls.length = ws.length) : 0 < Rg.tot (nowS ls ws) ↔ 0 < tot ls := by
  obtain ⟨h1, h2⟩ := now_tot hw h
  rw [h1]
  have hall := hw.2
  clear h1 h2 hw
  have key : 0 ≤ (nowS ls ws).sum ∧ (0 < (nowS ls ws).sum ↔ 0 < tot ls) := by
    induction ls generalizing ws with
    | nil => simp [nowS, tot]
    | cons s ls ih => cases ws with
      | nil => simp at h
      | cons w ws =>
        obtain ⟨i1, i2⟩ := ih (ws := ws) (by simpa using h) (fun x hx => hall x (by simp [hx]))
        have hw := hall w (by simp)
        have e : (nowS (s :: ls) (w :: ws)).sum = (if s.length = 0 then 0 else w) + (nowS ls ws).sum := by simp [nowS]
        rw [e, tot]
        split
        · exact ⟨by omega, by omega⟩
        · exact ⟨by omega, by omega⟩
  exact key.2
end Go.Proofs.Ar

namespace Go.Proofs.Ar
open Go.Vx
def vld (ws : List Int) (n : Nat) : Bool := decide (ws.length = n) && ws.all fun w => decide (1 ≤ w) && decide (w ≤ 1000)
theorem vld_ok {ws : List Int} {n : Nat} (h : vld ws n = true) (hn : n ≤ 20) : ws.length = n ∧ okW ws := by
  simp only [vld, Bool.and_eq_true, decide_eq_true_eq, List.all_eq_true] at h
  exact ⟨h.1, by omega, h.2⟩
def onl (l : List (List Sl)) : List (List Sl) := l.map onlyS
def lotR (ws : List Int) (k c : W) (l : List (List Sl)) : List Sl := lotS ws k (tot (onl l)) c (onl l)
def lotV (ws : List Int) (k c : W) (l : List (List Sl)) : V := if vld ws l.length then .tup [stV (lotR ws k c l), .d (.int .i64 0)] else .tup [.d (.sl 4 []), .d (.int .i64 1)]
def preD (l : List (List Sl)) (i : Nat) : List (List V) := (((onl l).take i).map stD).map (·.map .d)
theorem rowB_dat {m sz : Nat} {A B : List (List D)} {c : List V} (h : c.all (hB m) = true) : rowB m (.live sz (A.map (·.map .d) ++ c :: B.map (·.map .d))) := by
  intro e he v hv
  rcases List.mem_append.1 he with he | he
  · obtain ⟨d, _, rfl⟩ := List.mem_map.1 he
    obtain ⟨y, _, rfl⟩ := List.mem_map.1 hv
    rfl
  · rcases List.mem_cons.1 he with rfl | he
    · exact List.all_eq_true.1 h v hv
    · obtain ⟨d, _, rfl⟩ := List.mem_map.1 he
      obtain ⟨y, _, rfl⟩ := List.mem_map.1 hv
      rfl
theorem only_leq {l : List Sl} : (onlyS l).length ≤ l.length := List.length_filter_le _ _
theorem clC_D {l : List Sl} : dataE (clC l) := by
  intro e he v hv
  obtain ⟨d, _, rfl⟩ := List.mem_map.1 he
  obtain ⟨y, _, rfl⟩ := List.mem_map.1 hv
  rfl
theorem zC_D {n : Nat} : dataE (List.replicate n zC) := by
  intro e he v hv
  rw [List.eq_of_mem_replicate he] at hv
  simp [zC] at hv
  rcases hv with rfl | rfl | rfl <;> rfl
theorem dE_app {a b : List (List V)} (ha : dataE a) (hb : dataE b) : dataE (a ++ b) := by
  intro e he v hv
  rcases List.mem_append.1 he with he | he
  · exact ha e he v hv
  · exact hb e he v hv
theorem li_ok {rows : Go.Vx.Rows} {h : Nat} {l : List Int} {n : Nat} (hr : rows[h]? = some (.live 1 ((l.map iD).map (·.map .d)))) (hn : n = l.length) : snapOk rows (.osl 1 h n 0 n) ∧ snapV rows (.osl 1 h n 0 n) = .d (.sl 1 (l.map iD)) := by
  subst hn
  constructor
  · refine ⟨by omega, _, hr, by simp, fun e he v hv => ?_⟩
    obtain ⟨d, _, rfl⟩ := List.mem_map.1 he
    obtain ⟨y, _, rfl⟩ := List.mem_map.1 hv
    rfl
  · simp only [snapV, snapC, hr]
    rw [List.drop_zero, List.take_of_length_le (by simp), List.map_map]
    have : ∀ x ∈ l.map iD, ((fun e : List V => e.map toD) ∘ fun e : List D => e.map V.d) x = x := fun x _ => by
      simp only [Function.comp, List.map_map]
      exact List.map_id _
    rw [List.map_congr_left this]
    simp
theorem cell_set {ls : List (List Sl)} {i : Nat} {s : List Sl} : ((ls.map stD).map (·.map V.d)).set i [V.d (.sl 4 (s.map slD))] = ((ls.set i s).map stD).map (·.map V.d) := by
  rw [List.map_set, List.map_set]; rfl
theorem cellM {ls : List (List Sl)} {i : Nat} {s : List Sl} {g : List V → Prop} (h : ls[i]? = some s) (hk : g ((stD s).map .d)) : getA ((ls.map stD).map (·.map .d)) i g := getA_iff.2 ⟨_, by simp [h], hk⟩
def nowC (ls : List (List Sl)) (ws : List Int) (i : Nat) : List (List V) := (((nowS ls ws).take i ++ List.replicate (ws.length - i) 0).map iD).map fun e : List D => e.map V.d
theorem nowC_len {ls : List (List Sl)} {ws : List Int} {i : Nat} (hi : i ≤ ws.length) (h : ls.length = ws.length) : (nowC ls ws i).length = ws.length := by
  have := now_len h
  simp [nowC]; omega
theorem nowC_1 {ls : List (List Sl)} {ws : List Int} {i : Nat} : ∀ y ∈ nowC ls ws i, y.length = 1 := fun y hy => by
  obtain ⟨d, hd, rfl⟩ := List.mem_map.1 hy
  obtain ⟨z, _, rfl⟩ := List.mem_map.1 hd
  rfl
theorem nowC_set {ls : List (List Sl)} {ws : List Int} {i : Nat} {s : List Sl} {w v : Int} (hi : i < ws.length) (h : ls.length = ws.length) (hs : ls[i]? = some s) (hw : ws[i]? = some w) (hv : (s.length = 0 ∧ v = 0) ∨ (0 < s.length ∧ v = w)) : (nowC ls ws i).set i [.d (.int .i64 v)] = nowC ls ws (i + 1) := by
  have hl := now_len h
  have hn := now_at hs hw
  have hv2 : (if s.length = 0 then 0 else w) = v := by
    rcases hv with ⟨h1, rfl⟩ | ⟨h1, rfl⟩
    · rw [if_pos h1]
    · rw [if_neg (by omega)]
  rw [hv2] at hn
  have e : ws.length - i = (ws.length - (i + 1)) + 1 := by omega
  rw [nowC, nowC, take_at hn, e, List.replicate_succ, show [V.d (.int .i64 v)] = (fun e : List D => e.map V.d) (iD v) from rfl, ← List.map_set, ← List.map_set]
  congr 1; congr 1
  rw [List.set_append_right _ _ (by simp; omega)]
  have : i - ((nowS ls ws).take i).length = 0 := by simp; omega
  rw [this, List.set_cons_zero, List.append_assoc]; rfl
theorem nowC_skip {ls : List (List Sl)} {ws : List Int} {i : Nat} {s : List Sl} {w : Int} (hi : i < ws.length) (h : ls.length = ws.length) (hs : ls[i]? = some s) (h0 : s.length = 0) (hw : ws[i]? = some w) : nowC ls ws (i + 1) = nowC ls ws i := by
  have hl := now_len h
  have hn := now_at hs hw
  rw [if_pos h0] at hn
  have e : ws.length - i = (ws.length - (i + 1)) + 1 := by omega
  rw [nowC, nowC, take_at hn, e, List.replicate_succ, List.append_assoc]; rfl
theorem t23 (ws : List Int) (k c : W) (l : List (List Sl)) (hl : okL l) (hws : ws.length ≤ maxLen) : CallP Try.prog 23 [llV l, .d (.sl 1 (ws.map iD)), Rg.rngV k c] (lotV ws k c l) := by
  have hm := hm
  have hl1 := hl.1
  refine go23 (AC.at (AC.look [false, false, false, true, false, false, false]) [1, 1, 1, 0, 1, 2, 2, 1, 1, 0, 2, 1] ac23) rfl ?_
  simp only [vx, vz, Nat.reduceAdd, Nat.reduceSub, Nat.reduceMul, Nat.reduceLeDiff, Nat.reduceLT, Nat.reduceEqDiff, Nat.reduceBEq, Int.reduceToNat, Int.reduceNeg, Int.reduceEq, Int.reduceNe, Int.reduceLE, Int.reduceLT, reduceCtorEq, ↓reduceIte, ac23, AC.at, AC.look]
  refine call_p rfl (t36 ws l.length hws) ?_
  rw [lotV]
  cases hv : vld ws l.length with
  | false =>
    rw [show (decide (ws.length = l.length) && ws.all fun w => decide (1 ≤ w) && decide (w ≤ 1000)) = false from hv]
    simp only [vx, vz, Nat.reduceAdd, Nat.reduceSub, Nat.reduceMul, Nat.reduceLeDiff, Nat.reduceLT, Nat.reduceEqDiff, Nat.reduceBEq, Int.reduceToNat, Int.reduceNeg, Int.reduceEq, Int.reduceNe, Int.reduceLE, Int.reduceLT, reduceCtorEq, ↓reduceIte]
  | true =>
    rw [show (decide (ws.length = l.length) && ws.all fun w => decide (1 ≤ w) && decide (w ≤ 1000)) = true from hv]
    obtain ⟨hwl, hw⟩ := vld_ok hv hl1
    simp only [vx, vz, Nat.reduceAdd, Nat.reduceSub, Nat.reduceMul, Nat.reduceLeDiff, Nat.reduceLT, Nat.reduceEqDiff, Nat.reduceBEq, Int.reduceToNat, Int.reduceNeg, Int.reduceEq, Int.reduceNe, Int.reduceLE, Int.reduceLT, reduceCtorEq, ↓reduceIte]
    refine ⟨by omega, by omega, by omega, by omega, ?_⟩
    have hol : (onl l).length = l.length := by simp [onl]
    refine loop_st (fun i : Nat => ⟨mkF 90 [(1, .d (.sl 1 (ws.map iD))), (5, .optr 2 0 1 0 0), (8, .osl 1 1 l.length 0 l.length), (26, llV l), (27, .d (.int .i64 l.length)), (28, .d (.int .i64 i))], [.live 2 [[Rg.w64 k, Rg.w64 c]], .live 1 ((((onl l).take i).map stD ++ List.replicate (l.length - i) [D.nils]).map (·.map .d))]⟩) (fun i => i ≤ l.length) (fun i => l.length - i) 0 (by
      have e : (((onl l).take 0).map stD ++ List.replicate (l.length - 0) [D.nils]).map (·.map V.d) = List.replicate l.length [V.d .nils] := by simp
      simp only [e]
      exact weak_any (by simp only [vx, vz, Nat.reduceAdd, Nat.reduceSub, Nat.reduceMul, Nat.reduceLeDiff, Nat.reduceLT, Nat.reduceEqDiff, Nat.reduceBEq, Int.reduceToNat, Int.reduceNeg, Int.reduceEq, Int.reduceNe, Int.reduceLE, Int.reduceLT, reduceCtorEq, ↓reduceIte]; try trivial)) (by omega) (fun i hi => ?_)
    have hpl : (preD l i).length = i := by simp [preD, onl]; omega
    simp only [vx, vz, Nat.reduceAdd, Nat.reduceSub, Nat.reduceMul, Nat.reduceLeDiff, Nat.reduceLT, Nat.reduceEqDiff, Nat.reduceBEq, Int.reduceToNat, Int.reduceNeg, Int.reduceEq, Int.reduceNe, Int.reduceLE, Int.reduceLT, reduceCtorEq, ↓reduceIte]
    refine cond_split (fun hc => ?_) (fun hc => ?_)
    · simp only [decide_eq_true_eq] at hc
      obtain ⟨s, hs⟩ := get_ex (l := l) (i := i) (by omega)
      have hs2 : (onl l)[i]? = some (onlyS s) := by simp [onl, hs]
      have hsl := (hl.2 s (List.mem_of_getElem? hs)).1
      have hr0 : (((onl l).take i).map stD ++ List.replicate (l.length - i) [D.nils]).map (·.map V.d) = preD l i ++ [V.d .nils] :: sufS l.length i := by
        have : l.length - i = (l.length - i - 1) + 1 := by omega
        rw [List.map_append, this, List.replicate_succ]; rfl
      have hsf : (sufS l.length i).length = l.length - i - 1 := by simp [sufS]
      have hr1 : (((onl l).take (i + 1)).map stD ++ List.replicate (l.length - (i + 1)) [D.nils]).map (·.map V.d) = ((((onl l).take i).map stD) ++ stD (onlyS s) :: List.replicate (l.length - i - 1) [D.nils]).map (·.map V.d) := by
        rw [take_at hs2, show l.length - (i + 1) = l.length - i - 1 by omega, List.map_append (l₁ := (onl l).take i), List.append_assoc]; rfl
      rw [hr0]
      simp only [vx, vz, Nat.reduceAdd, Nat.reduceSub, Nat.reduceMul, Nat.reduceLeDiff, Nat.reduceLT, Nat.reduceEqDiff, Nat.reduceBEq, Int.reduceToNat, Int.reduceNeg, Int.reduceEq, Int.reduceNe, Int.reduceLE, Int.reduceLT, reduceCtorEq, ↓reduceIte]
      refine ⟨by omega, by omega, getM_at hs ?_⟩
      simp only [vx, vz, Nat.reduceAdd, Nat.reduceSub, Nat.reduceMul, Nat.reduceLeDiff, Nat.reduceLT, Nat.reduceEqDiff, Nat.reduceBEq, Int.reduceToNat, Int.reduceNeg, Int.reduceEq, Int.reduceNe, Int.reduceLE, Int.reduceLT, reduceCtorEq, ↓reduceIte]
      simp only [vx, vz, Nat.reduceAdd, Nat.reduceSub, Nat.reduceMul, Nat.reduceLeDiff, Nat.reduceLT, Nat.reduceEqDiff, Nat.reduceBEq, Int.reduceToNat, Int.reduceNeg, Int.reduceEq, Int.reduceNe, Int.reduceLE, Int.reduceLT, reduceCtorEq, ↓reduceIte, stD]
      refine call_i (t38 s hsl (fun h0 => ?_) ?_)
      · simp only [vx, vz, Nat.reduceAdd, Nat.reduceSub, Nat.reduceMul, Nat.reduceLeDiff, Nat.reduceLT, Nat.reduceEqDiff, Nat.reduceBEq, Int.reduceToNat, Int.reduceNeg, Int.reduceEq, Int.reduceNe, Int.reduceLE, Int.reduceLT, reduceCtorEq, ↓reduceIte]
        refine call_p rfl (t37n) ?_
        simp only [vx, vz, Nat.reduceAdd, Nat.reduceSub, Nat.reduceMul, Nat.reduceLeDiff, Nat.reduceLT, Nat.reduceEqDiff, Nat.reduceBEq, Int.reduceToNat, Int.reduceNeg, Int.reduceEq, Int.reduceNe, Int.reduceLE, Int.reduceLT, reduceCtorEq, ↓reduceIte]
        refine ⟨by omega, by omega, by omega, by omega, getA_mid (by omega) ?_⟩
        simp only [vx, vz, Nat.reduceAdd, Nat.reduceSub, Nat.reduceMul, Nat.reduceLeDiff, Nat.reduceLT, Nat.reduceEqDiff, Nat.reduceBEq, Int.reduceToNat, Int.reduceNeg, Int.reduceEq, Int.reduceNe, Int.reduceLE, Int.reduceLT, reduceCtorEq, ↓reduceIte]
        rw [set_mid (by omega)]
        refine ls_n (i + 1) (by omega) ?_ (by omega)
        rw [hr1]
        refine Weak.trans (weak_any ?_) (weak_frz2 2 (by omega) ⟨.same _ (by simp [rowB, hB]), rowK_mid (x := stD (onlyS s)) ⟨.snap _ _ ?_, trivial⟩, trivial⟩ (kpL_refl ?_))
        · simp only [vx, vz, Nat.reduceAdd, Nat.reduceSub, Nat.reduceMul, Nat.reduceLeDiff, Nat.reduceLT, Nat.reduceEqDiff, Nat.reduceBEq, Int.reduceToNat, Int.reduceNeg, Int.reduceEq, Int.reduceNe, Int.reduceLE, Int.reduceLT, reduceCtorEq, ↓reduceIte]
          rw [wr_i64 (by omega) (by omega)]
          try trivial
        · subst h0; exact .nils 4
        · rfl
      · simp only [vx, vz, Nat.reduceAdd, Nat.reduceSub, Nat.reduceMul, Nat.reduceLeDiff, Nat.reduceLT, Nat.reduceEqDiff, Nat.reduceBEq, Int.reduceToNat, Int.reduceNeg, Int.reduceEq, Int.reduceNe, Int.reduceLE, Int.reduceLT, reduceCtorEq, ↓reduceIte]
        have hos := only_leq (l := s)
        refine call_m 2 (vals0 := [.osl 4 0 s.length 0 s.length, .fn (.func 39) [] []]) (es' := clC (onlyS s) ++ List.replicate (s.length - (onlyS s).length) zC) rfl rfl (by simp [hAll, hOf1]) rfl clC_D (dE_app clC_D zC_D) (by simp [clC_len]; omega) (t37 s (by omega)) ?_
        rw [show renH 2 (V.osl 4 0 s.length 0 (onlyS s).length) = .osl 4 2 s.length 0 (onlyS s).length from rfl]
        simp only [vx, vz, Nat.reduceAdd, Nat.reduceSub, Nat.reduceMul, Nat.reduceLeDiff, Nat.reduceLT, Nat.reduceEqDiff, Nat.reduceBEq, Int.reduceToNat, Int.reduceNeg, Int.reduceEq, Int.reduceNe, Int.reduceLE, Int.reduceLT, reduceCtorEq, ↓reduceIte]
        refine ⟨by omega, by omega, by omega, by omega, getA_mid (by omega) ?_⟩
        simp only [vx, vz, Nat.reduceAdd, Nat.reduceSub, Nat.reduceMul, Nat.reduceLeDiff, Nat.reduceLT, Nat.reduceEqDiff, Nat.reduceBEq, Int.reduceToNat, Int.reduceNeg, Int.reduceEq, Int.reduceNe, Int.reduceLE, Int.reduceLT, reduceCtorEq, ↓reduceIte]
        rw [set_mid (by omega)]
        refine ls_n (i + 1) (by omega) ?_ (by omega)
        rw [hr1]
        refine Weak.trans (weak_any ?_) (weak_frz2 2 (by omega) ⟨.same _ (by simp [rowB, hB]), rowK_mid (x := stD (onlyS s)) ⟨.snap _ _ ?_, trivial⟩, trivial⟩ (kpL_refl ?_))
        · simp only [vx, vz, Nat.reduceAdd, Nat.reduceSub, Nat.reduceMul, Nat.reduceLeDiff, Nat.reduceLT, Nat.reduceEqDiff, Nat.reduceBEq, Int.reduceToNat, Int.reduceNeg, Int.reduceEq, Int.reduceNe, Int.reduceLE, Int.reduceLT, reduceCtorEq, ↓reduceIte]
          rw [wr_i64 (by omega) (by omega)]
          try trivial
        · exact sn_osl (es := (onlyS s).map slD ++ List.replicate (s.length - (onlyS s).length) [.bool false, .nils, .nils, .str []]) (by rw [List.map_append]; simp [zC, clC, hiRows, Go.Vx.rowAt]) (by simp; omega) (by omega) (fun e he => by
            rcases List.mem_append.1 he with he | he
            · exact szl e he
            · rw [List.eq_of_mem_replicate he]; rfl) (by rw [List.drop_zero, List.take_left' (by simp)])
        · rfl
    · simp only [decide_eq_false_iff_not] at hc
      obtain rfl : i = l.length := by omega
      have e1 : (((onl l).take l.length).map stD ++ List.replicate (l.length - l.length) [D.nils]) = (onl l).map stD := by rw [take_end (by omega), Nat.sub_self]; simp
      rw [e1]
      obtain ⟨n0, hn0⟩ : ∃ n, n = tot (onl l) := ⟨_, rfl⟩
      have hn0le : n0 ≤ 400 := by
        have h1 : ∀ (m : List (List Sl)), (∀ s ∈ m, s.length ≤ 20) → tot m ≤ 20 * m.length := by
          intro m
          induction m with
          | nil => simp [tot]
          | cons s m ih =>
            intro h
            have h1 := h s (by simp)
            have h2 := ih (fun x hx => h x (by simp [hx]))
            simp only [tot, List.length_cons]; omega
        have h2 := h1 (onl l) (fun s hs => by
          obtain ⟨t, ht, rfl⟩ := List.mem_map.1 hs
          have := (hl.2 t ht).1
          have := only_leq (l := t)
          omega)
        omega
      have hokM : ∀ s ∈ onl l, ∀ x ∈ s, okS x := fun s hs x hx => by
        obtain ⟨t, ht, rfl⟩ := List.mem_map.1 hs
        exact (hl.2 t ht).2 x (List.mem_filter.1 hx).1
      simp only [vx, vz, Nat.reduceAdd, Nat.reduceSub, Nat.reduceMul, Nat.reduceLeDiff, Nat.reduceLT, Nat.reduceEqDiff, Nat.reduceBEq, Int.reduceToNat, Int.reduceNeg, Int.reduceEq, Int.reduceNe, Int.reduceLE, Int.reduceLT, reduceCtorEq, ↓reduceIte]
      refine loop_st (fun s : W × List (List Sl) × List Sl × Nat => ⟨mkF 90 [(1, .d (.sl 1 (ws.map iD))), (5, .optr 2 0 1 0 0), (8, .osl 1 1 l.length 0 l.length), (11, .osl 4 2 s.2.2.1.length 0 s.2.2.1.length)], [.live 2 [[Rg.w64 k, Rg.w64 s.1]], .live 1 ((s.2.1.map stD).map (·.map .d)), .live 4 ((s.2.2.1.map slD).map (·.map .d))]⟩) (fun s => s.2.1.length = l.length ∧ (∀ t ∈ s.2.1, ∀ x ∈ t, okS x) ∧ tot s.2.1 = s.2.2.2 ∧ s.2.2.1.length + s.2.2.2 ≤ 400 ∧ s.2.2.1 ++ lotS ws k s.2.2.2 s.1 s.2.1 = lotR ws k c l) (fun s => s.2.2.2) (c, onl l, [], n0) (Weak.trans (weak_nils 11 4 rfl) (weak_any (by simp only [vx, vz, Nat.reduceAdd, Nat.reduceSub, Nat.reduceMul, Nat.reduceLeDiff, Nat.reduceLT, Nat.reduceEqDiff, Nat.reduceBEq, Int.reduceToNat, Int.reduceNeg, Int.reduceEq, Int.reduceNe, Int.reduceLE, Int.reduceLT, reduceCtorEq, ↓reduceIte]; try trivial))) ⟨hol, hokM, hn0.symm, by simp only [List.length_nil]; omega, by rw [lotR, ← hn0]; rfl⟩ (fun s hs => ?_)
      obtain ⟨c, ls, out, n⟩ := s
      obtain ⟨g1, g2, g3, g4, g5⟩ := hs
      simp only at g1 g2 g3 g4 g5
      simp only [vx, vz, Nat.reduceAdd, Nat.reduceSub, Nat.reduceMul, Nat.reduceLeDiff, Nat.reduceLT, Nat.reduceEqDiff, Nat.reduceBEq, Int.reduceToNat, Int.reduceNeg, Int.reduceEq, Int.reduceNe, Int.reduceLE, Int.reduceLT, reduceCtorEq, ↓reduceIte]
      refine ⟨by omega, by omega, by omega, by omega, g1, ?_⟩
      have hlw : ls.length = ws.length := by omega
      have hnl := now_len hlw
      have hz : List.replicate ws.length [V.d (.int .i64 0)] = nowC ls ws 0 := by simp [nowC, iD]
      rw [hz]
      refine loop_st (fun i : Nat => ⟨mkF 90 [(1, .d (.sl 1 (ws.map iD))), (5, .optr 2 0 1 0 0), (8, .osl 1 1 l.length 0 l.length), (11, .osl 4 2 out.length 0 out.length), (12, .osl 1 3 ws.length 0 ws.length), (43, .osl 1 1 l.length 0 l.length), (44, .d (.int .i64 l.length)), (45, .d (.int .i64 i))], [.live 2 [[Rg.w64 k, Rg.w64 c]], .live 1 ((ls.map stD).map (·.map .d)), .live 4 ((out.map slD).map (·.map .d)), .live 1 (nowC ls ws i)]⟩) (fun i => i ≤ l.length) (fun i => l.length - i) 0 (weak_any (by simp only [vx, vz, Nat.reduceAdd, Nat.reduceSub, Nat.reduceMul, Nat.reduceLeDiff, Nat.reduceLT, Nat.reduceEqDiff, Nat.reduceBEq, Int.reduceToNat, Int.reduceNeg, Int.reduceEq, Int.reduceNe, Int.reduceLE, Int.reduceLT, reduceCtorEq, ↓reduceIte]; try trivial)) (by omega) (fun i hi => ?_)
      simp only [vx, vz, Nat.reduceAdd, Nat.reduceSub, Nat.reduceMul, Nat.reduceLeDiff, Nat.reduceLT, Nat.reduceEqDiff, Nat.reduceBEq, Int.reduceToNat, Int.reduceNeg, Int.reduceEq, Int.reduceNe, Int.reduceLE, Int.reduceLT, reduceCtorEq, ↓reduceIte]
      refine cond_split (fun hc2 => ?_) (fun hc2 => ?_)
      · simp only [decide_eq_true_eq] at hc2
        obtain ⟨s, hs⟩ := get_ex (l := ls) (i := i) (by omega)
        obtain ⟨w, hww⟩ := get_ex (l := ws) (i := i) (by omega)
        simp only [vx, vz, Nat.reduceAdd, Nat.reduceSub, Nat.reduceMul, Nat.reduceLeDiff, Nat.reduceLT, Nat.reduceEqDiff, Nat.reduceBEq, Int.reduceToNat, Int.reduceNeg, Int.reduceEq, Int.reduceNe, Int.reduceLE, Int.reduceLT, reduceCtorEq, ↓reduceIte]
        refine ⟨by omega, by omega, by omega, by omega, cellM hs ?_⟩
        simp only [vx, vz, Nat.reduceAdd, Nat.reduceSub, Nat.reduceMul, Nat.reduceLeDiff, Nat.reduceLT, Nat.reduceEqDiff, Nat.reduceBEq, Int.reduceToNat, Int.reduceNeg, Int.reduceEq, Int.reduceNe, Int.reduceLE, Int.reduceLT, reduceCtorEq, ↓reduceIte, stD]
        by_cases hs0 : (0 : Int) < s.length
        · have hset := nowC_set (ls := ls) (ws := ws) (i := i) (by omega) (by omega) hs hww (Or.inr ⟨by omega, rfl⟩)
          simp only [vx, vz, Nat.reduceAdd, Nat.reduceSub, Nat.reduceMul, Nat.reduceLeDiff, Nat.reduceLT, Nat.reduceEqDiff, Nat.reduceBEq, Int.reduceToNat, Int.reduceNeg, Int.reduceEq, Int.reduceNe, Int.reduceLE, Int.reduceLT, reduceCtorEq, ↓reduceIte, dt hs0]
          refine ⟨by omega, by omega, getM_at hww ?_⟩
          simp only [vx, vz, Nat.reduceAdd, Nat.reduceSub, Nat.reduceMul, Nat.reduceLeDiff, Nat.reduceLT, Nat.reduceEqDiff, Nat.reduceBEq, Int.reduceToNat, Int.reduceNeg, Int.reduceEq, Int.reduceNe, Int.reduceLE, Int.reduceLT, reduceCtorEq, ↓reduceIte]
          simp only [vx, vz, Nat.reduceAdd, Nat.reduceSub, Nat.reduceMul, Nat.reduceLeDiff, Nat.reduceLT, Nat.reduceEqDiff, Nat.reduceBEq, Int.reduceToNat, Int.reduceNeg, Int.reduceEq, Int.reduceNe, Int.reduceLE, Int.reduceLT, reduceCtorEq, ↓reduceIte, iD]
          refine ⟨by omega, by omega, by rw [nowC_len (by omega) hlw], by rw [nowC_len (by omega) hlw], ?_⟩
          obtain ⟨y, hy⟩ := get_ex (l := nowC ls ws i) (i := i) (by rw [nowC_len (by omega) hlw]; omega)
          refine getA_iff.2 ⟨y, hy, ?_⟩
          have hy1 : y.length = 1 := nowC_1 y (List.mem_of_getElem? hy)
          match y, hy1 with
          | [v], _ =>
            simp only [vx, vz, Nat.reduceAdd, Nat.reduceSub, Nat.reduceMul, Nat.reduceLeDiff, Nat.reduceLT, Nat.reduceEqDiff, Nat.reduceBEq, Int.reduceToNat, Int.reduceNeg, Int.reduceEq, Int.reduceNe, Int.reduceLE, Int.reduceLT, reduceCtorEq, ↓reduceIte]
            rw [hset]
            refine ls_n (i + 1) (by omega) (weak_any ?_) (by omega)
            simp only [vx, vz, Nat.reduceAdd, Nat.reduceSub, Nat.reduceMul, Nat.reduceLeDiff, Nat.reduceLT, Nat.reduceEqDiff, Nat.reduceBEq, Int.reduceToNat, Int.reduceNeg, Int.reduceEq, Int.reduceNe, Int.reduceLE, Int.reduceLT, reduceCtorEq, ↓reduceIte]
            rw [wr_i64 (by omega) (by omega)]
            try trivial
        · have hsame := nowC_skip (ls := ls) (ws := ws) (i := i) (by omega) (by omega) hs (by omega) hww
          simp only [vx, vz, Nat.reduceAdd, Nat.reduceSub, Nat.reduceMul, Nat.reduceLeDiff, Nat.reduceLT, Nat.reduceEqDiff, Nat.reduceBEq, Int.reduceToNat, Int.reduceNeg, Int.reduceEq, Int.reduceNe, Int.reduceLE, Int.reduceLT, reduceCtorEq, ↓reduceIte, df hs0]
          refine ls_n (i + 1) (by omega) ?_ (by omega)
          rw [hsame]
          refine weak_any ?_
          simp only [vx, vz, Nat.reduceAdd, Nat.reduceSub, Nat.reduceMul, Nat.reduceLeDiff, Nat.reduceLT, Nat.reduceEqDiff, Nat.reduceBEq, Int.reduceToNat, Int.reduceNeg, Int.reduceEq, Int.reduceNe, Int.reduceLE, Int.reduceLT, reduceCtorEq, ↓reduceIte]
          rw [wr_i64 (by omega) (by omega)]
          try trivial
      · simp only [decide_eq_false_iff_not] at hc2
        obtain rfl : i = l.length := by omega
        have hfin : nowC ls ws l.length = ((nowS ls ws).map iD).map fun e : List D => e.map V.d := by
          rw [nowC, take_end (by omega), show ws.length - l.length = 0 by omega]; simp
        rw [hfin]
        simp only [vx, vz, Nat.reduceAdd, Nat.reduceSub, Nat.reduceMul, Nat.reduceLeDiff, Nat.reduceLT, Nat.reduceEqDiff, Nat.reduceBEq, Int.reduceToNat, Int.reduceNeg, Int.reduceEq, Int.reduceNe, Int.reduceLE, Int.reduceLT, reduceCtorEq, ↓reduceIte]
        have h40 := Rg.t40 k c (nowS ls ws) (by omega)
        have hlo := li_ok (rows := [RowS.live 2 [[Rg.w64 k, Rg.w64 c]], RowS.live 1 (List.map (fun x => List.map V.d x) (List.map stD ls)), RowS.live 4 (List.map (fun x => List.map V.d x) (List.map slD out)), RowS.live 1 (List.map (fun x => List.map V.d x) (List.map iD (nowS ls ws))), RowS.un]) (h := 3) (l := nowS ls ws) (n := ws.length) rfl hnl.symm
        refine call_k (v := Rg.wgtV k c (nowS ls ws)) (fun v hv => ?_) ?_ ?_
        · simp only [List.nil_append, List.append_nil, List.mem_cons, List.not_mem_nil, or_false] at hv
          rcases hv with rfl | rfl
          · simp [snapOk, snapCOk, noH, noH1]
          · exact hlo.1
        · simp only [List.nil_append, List.append_nil, List.map_cons, List.map_nil, hlo.2]
          exact h40
        have hk1 : kills [V.agg [Rg.w64 k, Rg.w64 c], V.osl 1 3 ws.length 0 ws.length] = [(3, .dead)] := rfl
        by_cases hp : 0 < Rg.tot (nowS ls ws)
        · obtain ⟨x, s, hx⟩ := pick_at (k := k) (c := c) hw hlw hp
          have hxok := g2 _ (List.mem_of_getElem? hx) x (by simp)
          have hts := tot_set hx
          obtain ⟨n, rfl⟩ : ∃ m, n = m + 1 := ⟨n - 1, by omega⟩
          rw [lot_go hp hx] at g5
          have hpi : Rg.pck (nowS ls ws) (Rg.belX k c (Rg.tot (nowS ls ws))) = pick k c ls ws := rfl
          rw [Rg.wgtV, if_pos hp, hpi]
          have hil := (List.getElem?_eq_some_iff.1 hx).1
          generalize pick k c ls ws = i at hx hts g5 hil ⊢
          generalize Rg.belC k c (Rg.tot (nowS ls ws)) = c' at g5 ⊢
          simp only [vx, vz, Nat.reduceAdd, Nat.reduceSub, Nat.reduceMul, Nat.reduceLeDiff, Nat.reduceLT, Nat.reduceEqDiff, Nat.reduceBEq, Int.reduceToNat, Int.reduceNeg, Int.reduceEq, Int.reduceNe, Int.reduceLE, Int.reduceLT, reduceCtorEq, ↓reduceIte, List.nil_append, hk1]
          refine ⟨by omega, by omega, g1, g1, cellM hx ?_⟩
          simp only [vx, vz, Nat.reduceAdd, Nat.reduceSub, Nat.reduceMul, Nat.reduceLeDiff, Nat.reduceLT, Nat.reduceEqDiff, Nat.reduceBEq, Int.reduceToNat, Int.reduceNeg, Int.reduceEq, Int.reduceNe, Int.reduceLE, Int.reduceLT, reduceCtorEq, ↓reduceIte, stD, slD]
          refine ⟨by omega, ?_⟩
          refine call_p rfl (t34 x hxok) ?_
          simp only [vx, vz, Nat.reduceAdd, Nat.reduceSub, Nat.reduceMul, Nat.reduceLeDiff, Nat.reduceLT, Nat.reduceEqDiff, Nat.reduceBEq, Int.reduceToNat, Int.reduceNeg, Int.reduceEq, Int.reduceNe, Int.reduceLE, Int.reduceLT, reduceCtorEq, ↓reduceIte]
          refine ⟨by unfold maxBytes; omega, by omega, by omega, g1, g1, cellM hx ?_⟩
          simp only [vx, vz, Nat.reduceAdd, Nat.reduceSub, Nat.reduceMul, Nat.reduceLeDiff, Nat.reduceLT, Nat.reduceEqDiff, Nat.reduceBEq, Int.reduceToNat, Int.reduceNeg, Int.reduceEq, Int.reduceNe, Int.reduceLE, Int.reduceLT, reduceCtorEq, ↓reduceIte, stD]
          refine ⟨by omega, by omega, by omega, by omega, g1, g1, cellM hx ?_⟩
          simp only [vx, vz, Nat.reduceAdd, Nat.reduceSub, Nat.reduceMul, Nat.reduceLeDiff, Nat.reduceLT, Nat.reduceEqDiff, Nat.reduceBEq, Int.reduceToNat, Int.reduceNeg, Int.reduceEq, Int.reduceNe, Int.reduceLE, Int.reduceLT, reduceCtorEq, ↓reduceIte, stD]
          rw [show List.take s.length (List.map slD s) = List.map slD s from take_end (by simp), cell_set]
          refine ls_n (c', ls.set i s, out ++ [x], n) (show n < n + 1 by omega) (Weak.trans (weak_any ?_) (weak_frz2 3 (by omega) ⟨.same _ (by simp [rowB, hB]), .same _ rowB_data, rowK_sl, trivial⟩ (kpL_refl ?_))) ⟨by simp only [List.length_set]; exact g1, fun t ht y hy => ?_, show tot (ls.set i s) = n by omega, show (out ++ [x]).length + n ≤ 400 by simp; omega, by rw [← g5]; simp⟩
          · simp only [vx, vz, Nat.reduceAdd, Nat.reduceSub, Nat.reduceMul, Nat.reduceLeDiff, Nat.reduceLT, Nat.reduceEqDiff, Nat.reduceBEq, Int.reduceToNat, Int.reduceNeg, Int.reduceEq, Int.reduceNe, Int.reduceLE, Int.reduceLT, reduceCtorEq, ↓reduceIte]
            try trivial
          · rfl
          · rcases List.mem_or_eq_of_mem_set ht with ht | rfl
            · exact g2 t ht y hy
            · exact g2 _ (List.mem_of_getElem? hx) y (by simp [hy])
        · rw [Rg.wgtV, if_neg hp]
          rw [lot_end hp, List.append_nil] at g5
          simp only [vx, vz, Nat.reduceAdd, Nat.reduceSub, Nat.reduceMul, Nat.reduceLeDiff, Nat.reduceLT, Nat.reduceEqDiff, Nat.reduceBEq, Int.reduceToNat, Int.reduceNeg, Int.reduceEq, Int.reduceNe, Int.reduceLE, Int.reduceLT, reduceCtorEq, ↓reduceIte, List.nil_append, hk1]
          rw [← g5]
          exact sn_all (es := out.map slD) rfl (by simp) szl
end Go.Proofs.Ar

namespace Go.Proofs.Ar
open Go.Vx
theorem tot_le20 : ∀ (m : List (List Sl)), (∀ s ∈ m, s.length ≤ 20) → tot m ≤ 20 * m.length := by
  intro m
  induction m with
  | nil => simp [tot]
  | cons s m ih =>
    intro h
    have h1 := h s (by simp)
    have h2 := ih (fun x hx => h x (by simp [hx]))
    simp only [tot, List.length_cons]; omega
theorem onl20 {l : List (List Sl)} (hl : okL l) : ∀ s ∈ onl l, s.length ≤ 20 := fun s hs => by
  obtain ⟨t, ht, rfl⟩ := List.mem_map.1 hs
  have := (hl.2 t ht).1
  have := only_leq (l := t)
  omega
theorem onlO {l : List (List Sl)} (hl : okL l) : ∀ s ∈ onl l, ∀ x ∈ s, okS x := fun s hs x hx => by
  obtain ⟨t, ht, rfl⟩ := List.mem_map.1 hs
  exact (hl.2 t ht).2 x (List.mem_filter.1 hx).1
theorem t24 (ws : List Int) (k c : W) (l : List (List Sl)) (hl : okL l) (hws : ws.length ≤ maxLen) : CallP Try.prog 24 [llV l, .d (.sl 1 (ws.map iD)), Rg.rngV k c] (lotV ws k c l) := by
  have hm := hm
  have hl1 := hl.1
  refine go24 ac24 rfl ?_
  simp only [vx, vz, Nat.reduceAdd, Nat.reduceSub, Nat.reduceMul, Nat.reduceLeDiff, Nat.reduceLT, Nat.reduceEqDiff, Nat.reduceBEq, Int.reduceToNat, Int.reduceNeg, Int.reduceEq, Int.reduceNe, Int.reduceLE, Int.reduceLT, reduceCtorEq, ↓reduceIte, ac24]
  rw [lotV]
  refine cond_split (fun hc => ?_) (fun hc => ?_)
  · have hc : ¬ ws.length = l.length := by simp at hc; omega
    have hv : vld ws l.length = false := by rw [vld, df hc]; rfl
    rw [hv]
    simp only [vx, vz, Nat.reduceAdd, Nat.reduceSub, Nat.reduceMul, Nat.reduceLeDiff, Nat.reduceLT, Nat.reduceEqDiff, Nat.reduceBEq, Int.reduceToNat, Int.reduceNeg, Int.reduceEq, Int.reduceNe, Int.reduceLE, Int.reduceLT, reduceCtorEq, ↓reduceIte]
  · have hwl : ws.length = l.length := by simp at hc; omega
    have hv0 : vld ws l.length = ws.all fun w => decide (1 ≤ w) && decide (w ≤ 1000) := by rw [vld, dt hwl]; rfl
    have hol : (onl l).length = l.length := by simp [onl]
    simp only [vx, vz, Nat.reduceAdd, Nat.reduceSub, Nat.reduceMul, Nat.reduceLeDiff, Nat.reduceLT, Nat.reduceEqDiff, Nat.reduceBEq, Int.reduceToNat, Int.reduceNeg, Int.reduceEq, Int.reduceNe, Int.reduceLE, Int.reduceLT, reduceCtorEq, ↓reduceIte]
    refine loop_st (fun i : Nat => ⟨mkF 109 [(0, llV l), (1, .d (.sl 1 (ws.map iD))), (5, .optr 2 0 1 0 0), (8, .osl 1 1 i 0 i), (9, .d (.int .i64 (tot ((onl l).take i)))), (10, .d (.int .i64 i))], [.live 2 [[Rg.w64 k, Rg.w64 c]], .live 1 ((((onl l).take i).map stD).map (·.map .d))]⟩) (fun i => i ≤ l.length ∧ vld ws l.length = (ws.drop i).all fun w => decide (1 ≤ w) && decide (w ≤ 1000)) (fun i => l.length - i) 0 (Weak.trans (weak_nils 8 1 rfl) (weak_any (by simp only [vx, vz, Nat.reduceAdd, Nat.reduceSub, Nat.reduceMul, Nat.reduceLeDiff, Nat.reduceLT, Nat.reduceEqDiff, Nat.reduceBEq, Int.reduceToNat, Int.reduceNeg, Int.reduceEq, Int.reduceNe, Int.reduceLE, Int.reduceLT, reduceCtorEq, ↓reduceIte, List.take_zero, tot]; try trivial))) ⟨by omega, by rw [List.drop_zero]; exact hv0⟩ (fun i hi => ?_)
    obtain ⟨h1, h2⟩ := hi
    have htl : ((onl l).take i).length = i := by rw [List.length_take]; omega
    have htt := tot_le20 ((onl l).take i) (fun s hs => onl20 hl s (List.mem_of_mem_take hs))
    rw [htl] at htt
    simp only [vx, vz, Nat.reduceAdd, Nat.reduceSub, Nat.reduceMul, Nat.reduceLeDiff, Nat.reduceLT, Nat.reduceEqDiff, Nat.reduceBEq, Int.reduceToNat, Int.reduceNeg, Int.reduceEq, Int.reduceNe, Int.reduceLE, Int.reduceLT, reduceCtorEq, ↓reduceIte]
    refine cond_split (fun hc => ?_) (fun hc => ?_)
    · simp only [decide_eq_true_eq] at hc
      obtain ⟨s, hs⟩ := get_ex (l := l) (i := i) (by omega)
      obtain ⟨w, hw⟩ := get_ex (l := ws) (i := i) (by omega)
      have hs2 : (onl l)[i]? = some (onlyS s) := by simp [onl, hs]
      have hsl := (hl.2 s (List.mem_of_getElem? hs)).1
      have hos := only_leq (l := s)
      have est := tot_snoc hs2
      rw [drop_at hw, List.all_cons] at h2
      simp only [vx, vz, Nat.reduceAdd, Nat.reduceSub, Nat.reduceMul, Nat.reduceLeDiff, Nat.reduceLT, Nat.reduceEqDiff, Nat.reduceBEq, Int.reduceToNat, Int.reduceNeg, Int.reduceEq, Int.reduceNe, Int.reduceLE, Int.reduceLT, reduceCtorEq, ↓reduceIte]
      refine ⟨by omega, by omega, getM_at hw ?_⟩
      simp only [vx, vz, Nat.reduceAdd, Nat.reduceSub, Nat.reduceMul, Nat.reduceLeDiff, Nat.reduceLT, Nat.reduceEqDiff, Nat.reduceBEq, Int.reduceToNat, Int.reduceNeg, Int.reduceEq, Int.reduceNe, Int.reduceLE, Int.reduceLT, reduceCtorEq, ↓reduceIte]
      simp only [vx, vz, Nat.reduceAdd, Nat.reduceSub, Nat.reduceMul, Nat.reduceLeDiff, Nat.reduceLT, Nat.reduceEqDiff, Nat.reduceBEq, Int.reduceToNat, Int.reduceNeg, Int.reduceEq, Int.reduceNe, Int.reduceLE, Int.reduceLT, reduceCtorEq, ↓reduceIte, iD]
      by_cases hq : w < 1
      · rw [df (show ¬ 1 ≤ w by omega), Bool.false_and, Bool.false_and] at h2
        rw [h2]
        simp only [vx, vz, Nat.reduceAdd, Nat.reduceSub, Nat.reduceMul, Nat.reduceLeDiff, Nat.reduceLT, Nat.reduceEqDiff, Nat.reduceBEq, Int.reduceToNat, Int.reduceNeg, Int.reduceEq, Int.reduceNe, Int.reduceLE, Int.reduceLT, reduceCtorEq, ↓reduceIte, dt hq]
      · rw [dt (show 1 ≤ w by omega), Bool.true_and] at h2
        simp only [vx, vz, Nat.reduceAdd, Nat.reduceSub, Nat.reduceMul, Nat.reduceLeDiff, Nat.reduceLT, Nat.reduceEqDiff, Nat.reduceBEq, Int.reduceToNat, Int.reduceNeg, Int.reduceEq, Int.reduceNe, Int.reduceLE, Int.reduceLT, reduceCtorEq, ↓reduceIte, df hq]
        refine ⟨by omega, by omega, getM_at hw ?_⟩
        simp only [vx, vz, Nat.reduceAdd, Nat.reduceSub, Nat.reduceMul, Nat.reduceLeDiff, Nat.reduceLT, Nat.reduceEqDiff, Nat.reduceBEq, Int.reduceToNat, Int.reduceNeg, Int.reduceEq, Int.reduceNe, Int.reduceLE, Int.reduceLT, reduceCtorEq, ↓reduceIte]
        simp only [vx, vz, Nat.reduceAdd, Nat.reduceSub, Nat.reduceMul, Nat.reduceLeDiff, Nat.reduceLT, Nat.reduceEqDiff, Nat.reduceBEq, Int.reduceToNat, Int.reduceNeg, Int.reduceEq, Int.reduceNe, Int.reduceLE, Int.reduceLT, reduceCtorEq, ↓reduceIte, iD]
        refine cond_split (fun hc2 => ?_) (fun hc2 => ?_)
        · simp only [decide_eq_true_eq] at hc2
          rw [df (show ¬ w ≤ 1000 by omega), Bool.false_and] at h2
          rw [h2]
          simp only [vx, vz, Nat.reduceAdd, Nat.reduceSub, Nat.reduceMul, Nat.reduceLeDiff, Nat.reduceLT, Nat.reduceEqDiff, Nat.reduceBEq, Int.reduceToNat, Int.reduceNeg, Int.reduceEq, Int.reduceNe, Int.reduceLE, Int.reduceLT, reduceCtorEq, ↓reduceIte]
        · simp only [decide_eq_false_iff_not] at hc2
          rw [dt (show w ≤ 1000 by omega), Bool.true_and] at h2
          simp only [vx, vz, Nat.reduceAdd, Nat.reduceSub, Nat.reduceMul, Nat.reduceLeDiff, Nat.reduceLT, Nat.reduceEqDiff, Nat.reduceBEq, Int.reduceToNat, Int.reduceNeg, Int.reduceEq, Int.reduceNe, Int.reduceLE, Int.reduceLT, reduceCtorEq, ↓reduceIte]
          refine ⟨by omega, by omega, getM_at hs ?_⟩
          simp only [vx, vz, Nat.reduceAdd, Nat.reduceSub, Nat.reduceMul, Nat.reduceLeDiff, Nat.reduceLT, Nat.reduceEqDiff, Nat.reduceBEq, Int.reduceToNat, Int.reduceNeg, Int.reduceEq, Int.reduceNe, Int.reduceLE, Int.reduceLT, reduceCtorEq, ↓reduceIte]
          simp only [vx, vz, Nat.reduceAdd, Nat.reduceSub, Nat.reduceMul, Nat.reduceLeDiff, Nat.reduceLT, Nat.reduceEqDiff, Nat.reduceBEq, Int.reduceToNat, Int.reduceNeg, Int.reduceEq, Int.reduceNe, Int.reduceLE, Int.reduceLT, reduceCtorEq, ↓reduceIte, stD]
          refine call_p rfl (t35 s (by omega)) ?_
          simp only [vx, vz, Nat.reduceAdd, Nat.reduceSub, Nat.reduceMul, Nat.reduceLeDiff, Nat.reduceLT, Nat.reduceEqDiff, Nat.reduceBEq, Int.reduceToNat, Int.reduceNeg, Int.reduceEq, Int.reduceNe, Int.reduceLE, Int.reduceLT, reduceCtorEq, ↓reduceIte]
          simp only [vx, vz, Nat.reduceAdd, Nat.reduceSub, Nat.reduceMul, Nat.reduceLeDiff, Nat.reduceLT, Nat.reduceEqDiff, Nat.reduceBEq, Int.reduceToNat, Int.reduceNeg, Int.reduceEq, Int.reduceNe, Int.reduceLE, Int.reduceLT, reduceCtorEq, ↓reduceIte, htl]
          refine ⟨by unfold maxBytes; omega, ?_⟩
          refine ls_n (i + 1) (by omega) (Weak.trans (weak_any ?_) (weak_frz2 2 (by omega) ⟨.same _ (by simp [rowB, hB]), ?_, trivial⟩ (kpL_refl ?_))) ⟨by omega, h2⟩
          · simp only [vx, vz, Nat.reduceAdd, Nat.reduceSub, Nat.reduceMul, Nat.reduceLeDiff, Nat.reduceLT, Nat.reduceEqDiff, Nat.reduceBEq, Int.reduceToNat, Int.reduceNeg, Int.reduceEq, Int.reduceNe, Int.reduceLE, Int.reduceLT, reduceCtorEq, ↓reduceIte]
            rw [wr_i64 (by omega) (by omega), wr_i64 (by omega) (by omega), est]
            exact ⟨rfl, rfl⟩
          · show RowK 2 _ _ (.live 1 ((((onl l).take (i + 1)).map stD).map (·.map .d)))
            rw [show ((onl l).take (i + 1)).map stD = ((onl l).take i).map stD ++ [stD (onlyS s)] by rw [take_at hs2, List.map_append]; rfl]
            exact rowK_snoc (x := stD (onlyS s)) ⟨.same _ rfl, trivial⟩
          · rfl
    · simp only [decide_eq_false_iff_not] at hc
      obtain rfl : i = l.length := by omega
      rw [drop_end (by omega), List.all_nil] at h2
      rw [h2]
      obtain ⟨hwl, hw⟩ := vld_ok h2 hl1
      rw [take_end (by omega)]
      have hn0le := tot_le20 (onl l) (onl20 hl)
      simp only [vx, vz, Nat.reduceAdd, Nat.reduceSub, Nat.reduceMul, Nat.reduceLeDiff, Nat.reduceLT, Nat.reduceEqDiff, Nat.reduceBEq, Int.reduceToNat, Int.reduceNeg, Int.reduceEq, Int.reduceNe, Int.reduceLE, Int.reduceLT, reduceCtorEq, ↓reduceIte]
      refine loop_st (fun s : W × List (List Sl) × List Sl × Nat => ⟨mkF 109 [(1, .d (.sl 1 (ws.map iD))), (5, .optr 2 0 1 0 0), (8, .osl 1 1 l.length 0 l.length), (9, .d (.int .i64 (tot (onl l)))), (12, .osl 4 2 s.2.2.1.length 0 s.2.2.1.length)], [.live 2 [[Rg.w64 k, Rg.w64 s.1]], .live 1 ((s.2.1.map stD).map (·.map .d)), .live 4 ((s.2.2.1.map slD).map (·.map .d))]⟩) (fun s => s.2.1.length = l.length ∧ tot s.2.1 = s.2.2.2 ∧ s.2.2.1.length + s.2.2.2 = tot (onl l) ∧ s.2.2.1 ++ lotS ws k s.2.2.2 s.1 s.2.1 = lotR ws k c l) (fun s => s.2.2.2) (c, onl l, [], tot (onl l)) (Weak.trans (weak_nils 12 4 rfl) (weak_any (by simp only [vx, vz, Nat.reduceAdd, Nat.reduceSub, Nat.reduceMul, Nat.reduceLeDiff, Nat.reduceLT, Nat.reduceEqDiff, Nat.reduceBEq, Int.reduceToNat, Int.reduceNeg, Int.reduceEq, Int.reduceNe, Int.reduceLE, Int.reduceLT, reduceCtorEq, ↓reduceIte]; try trivial))) ⟨hol, rfl, by simp, rfl⟩ (fun s hs => ?_)
      obtain ⟨c, ls, out, n⟩ := s
      obtain ⟨g1, g3, g4, g5⟩ := hs
      simp only at g1 g3 g4 g5
      have hlw : ls.length = ws.length := by omega
      have hnl := now_len hlw
      simp only [vx, vz, Nat.reduceAdd, Nat.reduceSub, Nat.reduceMul, Nat.reduceLeDiff, Nat.reduceLT, Nat.reduceEqDiff, Nat.reduceBEq, Int.reduceToNat, Int.reduceNeg, Int.reduceEq, Int.reduceNe, Int.reduceLE, Int.reduceLT, reduceCtorEq, ↓reduceIte]
      refine cond_split (fun hc2 => ?_) (fun hc2 => ?_)
      · simp only [decide_eq_true_eq] at hc2
        have hp := (tot_now hw hlw).2 (by omega)
        simp only [vx, vz, Nat.reduceAdd, Nat.reduceSub, Nat.reduceMul, Nat.reduceLeDiff, Nat.reduceLT, Nat.reduceEqDiff, Nat.reduceBEq, Int.reduceToNat, Int.reduceNeg, Int.reduceEq, Int.reduceNe, Int.reduceLE, Int.reduceLT, reduceCtorEq, ↓reduceIte]
        refine loop_st (fun i : Nat => ⟨mkF 109 [(1, .d (.sl 1 (ws.map iD))), (5, .optr 2 0 1 0 0), (8, .osl 1 1 l.length 0 l.length), (9, .d (.int .i64 (tot (onl l)))), (12, .osl 4 2 out.length 0 out.length), (13, .osl 1 3 i 0 i), (14, .d (.int .i64 i))], [.live 2 [[Rg.w64 k, Rg.w64 c]], .live 1 ((ls.map stD).map (·.map .d)), .live 4 ((out.map slD).map (·.map .d)), .live 1 ((((nowS ls ws).take i).map iD).map (·.map .d))]⟩) (fun i => i ≤ l.length) (fun i => l.length - i) 0 (Weak.trans (weak_nils 13 1 rfl) (weak_any (by simp only [vx, vz, Nat.reduceAdd, Nat.reduceSub, Nat.reduceMul, Nat.reduceLeDiff, Nat.reduceLT, Nat.reduceEqDiff, Nat.reduceBEq, Int.reduceToNat, Int.reduceNeg, Int.reduceEq, Int.reduceNe, Int.reduceLE, Int.reduceLT, reduceCtorEq, ↓reduceIte]; try trivial))) (by omega) (fun i hi => ?_)
        have htn : ((nowS ls ws).take i).length = i := by rw [List.length_take]; omega
        simp only [vx, vz, Nat.reduceAdd, Nat.reduceSub, Nat.reduceMul, Nat.reduceLeDiff, Nat.reduceLT, Nat.reduceEqDiff, Nat.reduceBEq, Int.reduceToNat, Int.reduceNeg, Int.reduceEq, Int.reduceNe, Int.reduceLE, Int.reduceLT, reduceCtorEq, ↓reduceIte]
        refine ⟨g1, ?_⟩
        refine cond_split (fun hc3 => ?_) (fun hc3 => ?_)
        · simp only [decide_eq_true_eq] at hc3
          obtain ⟨s, hs⟩ := get_ex (l := ls) (i := i) (by omega)
          obtain ⟨w, hww⟩ := get_ex (l := ws) (i := i) (by omega)
          have hna := now_at hs hww
          simp only [vx, vz, Nat.reduceAdd, Nat.reduceSub, Nat.reduceMul, Nat.reduceLeDiff, Nat.reduceLT, Nat.reduceEqDiff, Nat.reduceBEq, Int.reduceToNat, Int.reduceNeg, Int.reduceEq, Int.reduceNe, Int.reduceLE, Int.reduceLT, reduceCtorEq, ↓reduceIte]
          refine ⟨by omega, by omega, g1, g1, cellM hs ?_⟩
          simp only [vx, vz, Nat.reduceAdd, Nat.reduceSub, Nat.reduceMul, Nat.reduceLeDiff, Nat.reduceLT, Nat.reduceEqDiff, Nat.reduceBEq, Int.reduceToNat, Int.reduceNeg, Int.reduceEq, Int.reduceNe, Int.reduceLE, Int.reduceLT, reduceCtorEq, ↓reduceIte, stD]
          by_cases hs0 : (0 : Int) < s.length
          · rw [if_neg (by omega)] at hna
            simp only [vx, vz, Nat.reduceAdd, Nat.reduceSub, Nat.reduceMul, Nat.reduceLeDiff, Nat.reduceLT, Nat.reduceEqDiff, Nat.reduceBEq, Int.reduceToNat, Int.reduceNeg, Int.reduceEq, Int.reduceNe, Int.reduceLE, Int.reduceLT, reduceCtorEq, ↓reduceIte, dt hs0]
            refine ⟨by omega, by omega, getM_at hww ?_⟩
            simp only [vx, vz, Nat.reduceAdd, Nat.reduceSub, Nat.reduceMul, Nat.reduceLeDiff, Nat.reduceLT, Nat.reduceEqDiff, Nat.reduceBEq, Int.reduceToNat, Int.reduceNeg, Int.reduceEq, Int.reduceNe, Int.reduceLE, Int.reduceLT, reduceCtorEq, ↓reduceIte]
            simp only [vx, vz, Nat.reduceAdd, Nat.reduceSub, Nat.reduceMul, Nat.reduceLeDiff, Nat.reduceLT, Nat.reduceEqDiff, Nat.reduceBEq, Int.reduceToNat, Int.reduceNeg, Int.reduceEq, Int.reduceNe, Int.reduceLE, Int.reduceLT, reduceCtorEq, ↓reduceIte, iD, htn]
            refine ⟨by unfold maxBytes; omega, ?_⟩
            refine ls_n (i + 1) (by omega) (Weak.trans (weak_any ?_) (weak_frz2 4 (by omega) ⟨.same _ (by simp [rowB, hB]), .same _ rowB_data, .same _ rowB_data, ?_, trivial⟩ (kpL_refl ?_))) (by omega)
            · simp only [vx, vz, Nat.reduceAdd, Nat.reduceSub, Nat.reduceMul, Nat.reduceLeDiff, Nat.reduceLT, Nat.reduceEqDiff, Nat.reduceBEq, Int.reduceToNat, Int.reduceNeg, Int.reduceEq, Int.reduceNe, Int.reduceLE, Int.reduceLT, reduceCtorEq, ↓reduceIte]
              rw [wr_i64 (by omega) (by omega)]
              try trivial
            · show RowK 4 _ _ (.live 1 ((((nowS ls ws).take (i + 1)).map iD).map (·.map .d)))
              rw [show ((nowS ls ws).take (i + 1)).map iD = ((nowS ls ws).take i).map iD ++ [iD w] by rw [take_at hna, List.map_append]; rfl]
              exact rowK_snoc (x := iD w) ⟨.same _ rfl, trivial⟩
            · rfl
          · rw [if_pos (by omega)] at hna
            simp only [vx, vz, Nat.reduceAdd, Nat.reduceSub, Nat.reduceMul, Nat.reduceLeDiff, Nat.reduceLT, Nat.reduceEqDiff, Nat.reduceBEq, Int.reduceToNat, Int.reduceNeg, Int.reduceEq, Int.reduceNe, Int.reduceLE, Int.reduceLT, reduceCtorEq, ↓reduceIte, df hs0, htn]
            refine ⟨by unfold maxBytes; omega, ?_⟩
            refine ls_n (i + 1) (by omega) (Weak.trans (weak_any ?_) (weak_frz2 4 (by omega) ⟨.same _ (by simp [rowB, hB]), .same _ rowB_data, .same _ rowB_data, ?_, trivial⟩ (kpL_refl ?_))) (by omega)
            · simp only [vx, vz, Nat.reduceAdd, Nat.reduceSub, Nat.reduceMul, Nat.reduceLeDiff, Nat.reduceLT, Nat.reduceEqDiff, Nat.reduceBEq, Int.reduceToNat, Int.reduceNeg, Int.reduceEq, Int.reduceNe, Int.reduceLE, Int.reduceLT, reduceCtorEq, ↓reduceIte]
              rw [wr_i64 (by omega) (by omega)]
              try trivial
            · show RowK 4 _ _ (.live 1 ((((nowS ls ws).take (i + 1)).map iD).map (·.map .d)))
              rw [show ((nowS ls ws).take (i + 1)).map iD = ((nowS ls ws).take i).map iD ++ [iD 0] by rw [take_at hna, List.map_append]; rfl]
              exact rowK_snoc (x := iD 0) ⟨.same _ rfl, trivial⟩
            · rfl
        · simp only [decide_eq_false_iff_not] at hc3
          obtain rfl : i = l.length := by omega
          rw [take_end (l := nowS ls ws) (by omega)]
          simp only [vx, vz, Nat.reduceAdd, Nat.reduceSub, Nat.reduceMul, Nat.reduceLeDiff, Nat.reduceLT, Nat.reduceEqDiff, Nat.reduceBEq, Int.reduceToNat, Int.reduceNeg, Int.reduceEq, Int.reduceNe, Int.reduceLE, Int.reduceLT, reduceCtorEq, ↓reduceIte]
          have h41 := Rg.t41 k c (nowS ls ws) (by omega)
          have hlo := li_ok (rows := [RowS.live 2 [[Rg.w64 k, Rg.w64 c]], RowS.live 1 (List.map (fun x => List.map V.d x) (List.map stD ls)), RowS.live 4 (List.map (fun x => List.map V.d x) (List.map slD out)), RowS.live 1 (List.map (fun x => List.map V.d x) (List.map iD (nowS ls ws))), RowS.un]) (h := 3) (l := nowS ls ws) (n := l.length) rfl (by omega)
          refine call_k (v := Rg.wgtV k c (nowS ls ws)) (fun v hv => ?_) ?_ ?_
          · simp only [List.nil_append, List.append_nil, List.mem_cons, List.not_mem_nil, or_false] at hv
            rcases hv with rfl | rfl
            · simp [snapOk, snapCOk, noH, noH1]
            · exact hlo.1
          · simp only [List.nil_append, List.append_nil, List.map_cons, List.map_nil, hlo.2]
            exact h41
          have hk1 : kills [V.agg [Rg.w64 k, Rg.w64 c], V.osl 1 3 l.length 0 l.length] = [(3, .dead)] := rfl
          obtain ⟨x, s, hx⟩ := pick_at (k := k) (c := c) hw hlw hp
          have hts := tot_set hx
          obtain ⟨n, rfl⟩ : ∃ m, n = m + 1 := ⟨n - 1, by omega⟩
          rw [lot_go hp hx] at g5
          have hpi : Rg.pck (nowS ls ws) (Rg.belX k c (Rg.tot (nowS ls ws))) = pick k c ls ws := rfl
          rw [Rg.wgtV, if_pos hp, hpi]
          have hil := (List.getElem?_eq_some_iff.1 hx).1
          generalize pick k c ls ws = i at hx hts g5 hil ⊢
          generalize Rg.belC k c (Rg.tot (nowS ls ws)) = c' at g5 ⊢
          simp only [vx, vz, Nat.reduceAdd, Nat.reduceSub, Nat.reduceMul, Nat.reduceLeDiff, Nat.reduceLT, Nat.reduceEqDiff, Nat.reduceBEq, Int.reduceToNat, Int.reduceNeg, Int.reduceEq, Int.reduceNe, Int.reduceLE, Int.reduceLT, reduceCtorEq, ↓reduceIte, List.nil_append, hk1]
          refine ⟨by omega, by omega, g1, g1, cellM hx ?_⟩
          simp only [vx, vz, Nat.reduceAdd, Nat.reduceSub, Nat.reduceMul, Nat.reduceLeDiff, Nat.reduceLT, Nat.reduceEqDiff, Nat.reduceBEq, Int.reduceToNat, Int.reduceNeg, Int.reduceEq, Int.reduceNe, Int.reduceLE, Int.reduceLT, reduceCtorEq, ↓reduceIte, stD, slD]
          refine ⟨by omega, by unfold maxBytes; omega, by omega, by omega, g1, g1, cellM hx ?_⟩
          simp only [vx, vz, Nat.reduceAdd, Nat.reduceSub, Nat.reduceMul, Nat.reduceLeDiff, Nat.reduceLT, Nat.reduceEqDiff, Nat.reduceBEq, Int.reduceToNat, Int.reduceNeg, Int.reduceEq, Int.reduceNe, Int.reduceLE, Int.reduceLT, reduceCtorEq, ↓reduceIte, stD]
          refine ⟨by omega, by omega, by omega, by omega, g1, g1, cellM hx ?_⟩
          simp only [vx, vz, Nat.reduceAdd, Nat.reduceSub, Nat.reduceMul, Nat.reduceLeDiff, Nat.reduceLT, Nat.reduceEqDiff, Nat.reduceBEq, Int.reduceToNat, Int.reduceNeg, Int.reduceEq, Int.reduceNe, Int.reduceLE, Int.reduceLT, reduceCtorEq, ↓reduceIte, stD]
          rw [show List.take s.length (List.map slD s) = List.map slD s from take_end (by simp), cell_set]
          refine ls_n (c', ls.set i s, out ++ [x], n) (show n < n + 1 by omega) (Weak.trans (weak_any ?_) (weak_frz2 3 (by omega) ⟨.same _ (by simp [rowB, hB]), .same _ rowB_data, rowK_sl, trivial⟩ (kpL_refl ?_))) ⟨by simp only [List.length_set]; exact g1, show tot (ls.set i s) = n by omega, show (out ++ [x]).length + n = tot (onl l) by simp; omega, by rw [← g5]; simp⟩
          · simp only [vx, vz, Nat.reduceAdd, Nat.reduceSub, Nat.reduceMul, Nat.reduceLeDiff, Nat.reduceLT, Nat.reduceEqDiff, Nat.reduceBEq, Int.reduceToNat, Int.reduceNeg, Int.reduceEq, Int.reduceNe, Int.reduceLE, Int.reduceLT, reduceCtorEq, ↓reduceIte]
            try trivial
          · rfl
      · simp only [decide_eq_false_iff_not] at hc2
        have hn0 : n = 0 := by omega
        subst hn0
        rw [lotS, List.append_nil] at g5
        simp only [vx, vz, Nat.reduceAdd, Nat.reduceSub, Nat.reduceMul, Nat.reduceLeDiff, Nat.reduceLT, Nat.reduceEqDiff, Nat.reduceBEq, Int.reduceToNat, Int.reduceNeg, Int.reduceEq, Int.reduceNe, Int.reduceLE, Int.reduceLT, reduceCtorEq, ↓reduceIte]
        rw [← g5]
        exact sn_all (es := out.map slD) rfl (by simp) szl
end Go.Proofs.Ar
