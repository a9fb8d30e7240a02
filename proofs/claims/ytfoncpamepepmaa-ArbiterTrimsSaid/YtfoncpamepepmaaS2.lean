import Derived.Test.YtfoncpamepepmaaS1
set_option linter.unusedSimpArgs false
set_option linter.unusedVariables false
namespace Go.Proofs.Ar
open Go.Vx
def laneR (p : List Sl × Nat) : RowS := .live 2 [[.d (.sl 4 (p.1.map slD)), .d (.int .i64 p.2)]]
def ptC (i : Nat) (j : Nat) : List V := if j < i then [.optr 2 (j + 2) 1 0 0] else [.d .nilp]
def ptR (i n : Nat) : RowS := .live 1 ((List.range n).map (ptC i))
def ln0 (s : List Sl) : List Sl × Nat := (s, 0)
def okL (l : List (List Sl)) : Prop := l.length ≤ 20 ∧ ∀ s ∈ l, s.length ≤ 20 ∧ ∀ x ∈ s, okS x
theorem set_snoc {α : Type} {l : List α} {x y : α} {i : Nat} (h : i = l.length) : (l ++ [x]).set i y = l ++ [y] := by
  subst h; simp
theorem pt_set {i n : Nat} (h : i < n) : ((List.range n).map (ptC i)).set i [V.optr 2 (i + 2) 1 0 0] = (List.range n).map (ptC (i + 1)) := by
  refine List.ext_getElem (by simp) fun j h1 h2 => ?_
  simp only [List.length_set, List.length_map, List.length_range] at h1
  rw [List.getElem_set]
  simp only [List.getElem_map, List.getElem_range, ptC]
  split
  · next e => subst e; rw [if_pos (by omega)]
  · next e =>
    by_cases hj : j < i
    · rw [if_pos hj, if_pos (by omega)]
    · rw [if_neg hj, if_neg (by omega)]
theorem rowAt_app {A B : Go.Vx.Rows} {i j : Nat} (h : i = A.length + j) : Go.Vx.rowAt (A ++ B) i = Go.Vx.rowAt B j := by
  subst h
  induction A with
  | nil => simp
  | cons a A ih => rw [List.length_cons, show A.length + 1 + j = (A.length + j) + 1 by omega]; exact ih
theorem setAt_app {A B : Go.Vx.Rows} {i j : Nat} {r : RowS} (h : i = A.length + j) : setAt (A ++ B) i r = A ++ setAt B j r := by
  subst h
  induction A with
  | nil => simp
  | cons a A ih => rw [List.length_cons, show A.length + 1 + j = (A.length + j) + 1 by omega]; exact congrArg (a :: ·) ih
theorem rowAt_lt {A B : Go.Vx.Rows} {i : Nat} (h : i < A.length) : Go.Vx.rowAt (A ++ B) i = Go.Vx.rowAt A i := by
  induction A generalizing i with
  | nil => simp at h
  | cons a A ih => cases i with
    | zero => rfl
    | succ i => exact ih (by simpa using h)
theorem rowAt_map {α : Type} {f : α → RowS} {l : List α} {i : Nat} {x : α} (h : l[i]? = some x) : Go.Vx.rowAt (l.map f) i = f x := by
  induction l generalizing i with
  | nil => simp at h
  | cons a l ih => cases i with
    | zero => simp at h; subst h; rfl
    | succ i => exact ih (by simpa using h)
def longS (l : List (List Sl)) : Nat := l.foldl (fun n s => max n s.length) 0
theorem t27 (l : List (List Sl)) (hl : okL l) {K : V → Go.Vx.Rows → Prop} (hK : K (.osl 1 1 l.length 0 l.length) (.live 4 [] :: ptR l.length l.length :: (l.map ln0).map laneR)) : InlP Try.prog 27 [llV l] [.live 4 []] K := by
  have hm := hm
  have hl1 := hl.1
  refine gi27 ac27 rfl ?_
  simp only [vx, vz, Nat.reduceAdd, Nat.reduceSub, Nat.reduceMul, Nat.reduceLeDiff, Nat.reduceLT, Nat.reduceEqDiff, Nat.reduceBEq, Int.reduceToNat, Int.reduceNeg, Int.reduceEq, Int.reduceNe, Int.reduceLE, Int.reduceLT, reduceCtorEq, ↓reduceIte, ac27]
  refine ⟨by omega, by omega, by omega, by omega, ?_⟩
  have hz : List.replicate l.length [V.d .nilp] = (List.range l.length).map (ptC 0) := by
    refine List.ext_getElem (by simp) fun j h1 h2 => ?_
    simp [ptC]
  rw [hz]
  refine loop_st (fun i : Nat => ⟨mkF 24 [(3, .osl 1 1 l.length 0 l.length), (9, llV l), (10, .d (.int .i64 l.length)), (11, .d (.int .i64 i))], .live 4 [] :: ptR i l.length :: ((l.take i).map ln0).map laneR⟩) (fun i => i ≤ l.length) (fun i => l.length - i) 0 (weak_any (by simp only [vx, vz, Nat.reduceAdd, Nat.reduceSub, Nat.reduceMul, Nat.reduceLeDiff, Nat.reduceLT, Nat.reduceEqDiff, Nat.reduceBEq, Int.reduceToNat, Int.reduceNeg, Int.reduceEq, Int.reduceNe, Int.reduceLE, Int.reduceLT, reduceCtorEq, ↓reduceIte]; try trivial)) (by omega) (fun i hi => ?_)
  have htl : (l.take i).length = i := by rw [List.length_take]; omega
  simp only [vx, vz, Nat.reduceAdd, Nat.reduceSub, Nat.reduceMul, Nat.reduceLeDiff, Nat.reduceLT, Nat.reduceEqDiff, Nat.reduceBEq, Int.reduceToNat, Int.reduceNeg, Int.reduceEq, Int.reduceNe, Int.reduceLE, Int.reduceLT, reduceCtorEq, ↓reduceIte, ptR]
  refine cond_split (fun hc => ?_) (fun hc => ?_)
  · simp only [decide_eq_true_eq] at hc
    obtain ⟨x, hx⟩ := get_ex (l := l) (i := i) (by omega)
    simp only [vx, vz, Nat.reduceAdd, Nat.reduceSub, Nat.reduceMul, Nat.reduceLeDiff, Nat.reduceLT, Nat.reduceEqDiff, Nat.reduceBEq, Int.reduceToNat, Int.reduceNeg, Int.reduceEq, Int.reduceNe, Int.reduceLE, Int.reduceLT, reduceCtorEq, ↓reduceIte]
    refine ⟨by omega, by omega, getM_at hx ?_⟩
    simp only [vx, vz, Nat.reduceAdd, Nat.reduceSub, Nat.reduceMul, Nat.reduceLeDiff, Nat.reduceLT, Nat.reduceEqDiff, Nat.reduceBEq, Int.reduceToNat, Int.reduceNeg, Int.reduceEq, Int.reduceNe, Int.reduceLE, Int.reduceLT, reduceCtorEq, ↓reduceIte]
    simp only [vx, vz, Nat.reduceAdd, Nat.reduceSub, Nat.reduceMul, Nat.reduceLeDiff, Nat.reduceLT, Nat.reduceEqDiff, Nat.reduceBEq, Int.reduceToNat, Int.reduceNeg, Int.reduceEq, Int.reduceNe, Int.reduceLE, Int.reduceLT, reduceCtorEq, ↓reduceIte, stD, htl]
    refine ⟨rowAt_app (j := 0) (by simp; omega), by omega, by omega, by simp, by simp, getM_nat (x := i) (List.getElem?_range (by omega)) ?_⟩
    rw [setAt_app (j := 0) (by simp; omega)]
    simp only [vx, vz, Nat.reduceAdd, Nat.reduceSub, Nat.reduceMul, Nat.reduceLeDiff, Nat.reduceLT, Nat.reduceEqDiff, Nat.reduceBEq, Int.reduceToNat, Int.reduceNeg, Int.reduceEq, Int.reduceNe, Int.reduceLE, Int.reduceLT, reduceCtorEq, ↓reduceIte, ptC, Nat.lt_irrefl]
    rw [pt_set (by omega)]
    have e : ((l.take (i + 1)).map ln0).map laneR = ((l.take i).map ln0).map laneR ++ [.live 2 [[V.d (.sl 4 (x.map slD)), V.d (.int .i64 0)]]] := by
      rw [take_at hx, List.map_append, List.map_append]; rfl
    refine ls_n (i + 1) (by omega) ?_ (by omega)
    simp only [e]
    refine weak_any ?_
    simp only [vx, vz, Nat.reduceAdd, Nat.reduceSub, Nat.reduceMul, Nat.reduceLeDiff, Nat.reduceLT, Nat.reduceEqDiff, Nat.reduceBEq, Int.reduceToNat, Int.reduceNeg, Int.reduceEq, Int.reduceNe, Int.reduceLE, Int.reduceLT, reduceCtorEq, ↓reduceIte]
    rw [wr_i64 (by omega) (by omega)]
    trivial
  · simp only [decide_eq_false_iff_not] at hc
    obtain rfl : i = l.length := by omega
    rw [take_end (Nat.le_refl _)]
    simp only [vx, vz, Nat.reduceAdd, Nat.reduceSub, Nat.reduceMul, Nat.reduceLeDiff, Nat.reduceLT, Nat.reduceEqDiff, Nat.reduceBEq, Int.reduceToNat, Int.reduceNeg, Int.reduceEq, Int.reduceNe, Int.reduceLE, Int.reduceLT, reduceCtorEq, ↓reduceIte]
    exact hK
theorem t28 (l : List (List Sl)) (hl : okL l) : CallP Try.prog 28 [llV l] (.d (.int .i64 (longS l))) := by
  have hm := hm
  have hl1 := hl.1
  refine go28 ac28 rfl ?_
  simp only [vx, vz, Nat.reduceAdd, Nat.reduceSub, Nat.reduceMul, Nat.reduceLeDiff, Nat.reduceLT, Nat.reduceEqDiff, Nat.reduceBEq, Int.reduceToNat, Int.reduceNeg, Int.reduceEq, Int.reduceNe, Int.reduceLE, Int.reduceLT, reduceCtorEq, ↓reduceIte, ac28]
  refine loop_st (fun i : Nat => ⟨mkF 18 [(3, .d (.int .i64 (longS (l.take i)))), (6, llV l), (7, .d (.int .i64 l.length)), (8, .d (.int .i64 i))], []⟩) (fun i => i ≤ l.length) (fun i => l.length - i) 0 (weak_any (by simp only [vx, vz, Nat.reduceAdd, Nat.reduceSub, Nat.reduceMul, Nat.reduceLeDiff, Nat.reduceLT, Nat.reduceEqDiff, Nat.reduceBEq, Int.reduceToNat, Int.reduceNeg, Int.reduceEq, Int.reduceNe, Int.reduceLE, Int.reduceLT, reduceCtorEq, ↓reduceIte]; try trivial)) (by omega) (fun i hi => ?_)
  simp only [vx, vz, Nat.reduceAdd, Nat.reduceSub, Nat.reduceMul, Nat.reduceLeDiff, Nat.reduceLT, Nat.reduceEqDiff, Nat.reduceBEq, Int.reduceToNat, Int.reduceNeg, Int.reduceEq, Int.reduceNe, Int.reduceLE, Int.reduceLT, reduceCtorEq, ↓reduceIte]
  refine cond_split (fun hc => ?_) (fun hc => ?_)
  · simp only [decide_eq_true_eq] at hc
    obtain ⟨x, hx⟩ := get_ex (l := l) (i := i) (by omega)
    have e : longS (l.take (i + 1)) = max (longS (l.take i)) x.length := by rw [take_at hx, longS, List.foldl_append]; rfl
    simp only [vx, vz, Nat.reduceAdd, Nat.reduceSub, Nat.reduceMul, Nat.reduceLeDiff, Nat.reduceLT, Nat.reduceEqDiff, Nat.reduceBEq, Int.reduceToNat, Int.reduceNeg, Int.reduceEq, Int.reduceNe, Int.reduceLE, Int.reduceLT, reduceCtorEq, ↓reduceIte]
    refine ⟨by omega, by omega, getM_at hx ?_⟩
    simp only [vx, vz, Nat.reduceAdd, Nat.reduceSub, Nat.reduceMul, Nat.reduceLeDiff, Nat.reduceLT, Nat.reduceEqDiff, Nat.reduceBEq, Int.reduceToNat, Int.reduceNeg, Int.reduceEq, Int.reduceNe, Int.reduceLE, Int.reduceLT, reduceCtorEq, ↓reduceIte]
    simp only [vx, vz, Nat.reduceAdd, Nat.reduceSub, Nat.reduceMul, Nat.reduceLeDiff, Nat.reduceLT, Nat.reduceEqDiff, Nat.reduceBEq, Int.reduceToNat, Int.reduceNeg, Int.reduceEq, Int.reduceNe, Int.reduceLE, Int.reduceLT, reduceCtorEq, ↓reduceIte, stD]
    refine ls_n (i + 1) (by omega) (weak_any ?_) (by omega)
    simp only [vx, vz, Nat.reduceAdd, Nat.reduceSub, Nat.reduceMul, Nat.reduceLeDiff, Nat.reduceLT, Nat.reduceEqDiff, Nat.reduceBEq, Int.reduceToNat, Int.reduceNeg, Int.reduceEq, Int.reduceNe, Int.reduceLE, Int.reduceLT, reduceCtorEq, ↓reduceIte]
    rw [wr_i64 (by omega) (by omega), e]
    refine ⟨?_, by omega⟩
    split <;> omega
  · simp only [decide_eq_false_iff_not] at hc
    rw [take_end (by omega)]
    simp only [vx, vz, Nat.reduceAdd, Nat.reduceSub, Nat.reduceMul, Nat.reduceLeDiff, Nat.reduceLT, Nat.reduceEqDiff, Nat.reduceBEq, Int.reduceToNat, Int.reduceNeg, Int.reduceEq, Int.reduceNe, Int.reduceLE, Int.reduceLT, reduceCtorEq, ↓reduceIte]
end Go.Proofs.Ar
