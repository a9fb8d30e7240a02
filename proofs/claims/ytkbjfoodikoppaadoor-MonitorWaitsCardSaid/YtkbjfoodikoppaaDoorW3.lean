import Derived.Test.YtkbjfoodikoppaaDoorW2
set_option linter.unusedSectionVars false
set_option linter.unusedSimpArgs false
set_option linter.unusedVariables false
namespace Go.Proofs.Mn
open Go.Vx
def sgn (c : Chn) : List B := c.va :: c.rd :: c.fs
structure okC (c : Chn) : Prop where
  fl : c.fs.length ≤ 30
  ok : ∀ s ∈ sgn c, s.length ≤ maxLen
/-- different names, behind those that were seen -/
def nmG : List B → List B → Bool
  | _, [] => true
  | seen, x :: l => nmS x && (!seen.contains x && nmG (seen ++ [x]) l)
def vldC (c : Chn) : Bool := decide ((c.fs.length : Int) ≤ 16) && nmG [] (sgn c)
def knwS (w : Wv) (c : Chn) : Bool := (sgn c).all fun s => w.ns.contains s
abbrev rC (c : Chn) : RowS := .live 3 [[.d (.str c.va), .d (.str c.rd), .d (.sl 1 (strs c.fs))]]
abbrev rowStrs (l : List B) : RowS := .live 1 ((strs l).map (·.map .d))
theorem mxB : maxBytes = 140737488355328 := by decide
theorem nm_at {l : List B} {i : Nat} {x : B} (h : l[i]? = some x) : nmG (l.take i) (l.drop i) = (nmS x && (!(l.take i).contains x && nmG (l.take (i + 1)) (l.drop (i + 1)))) := by
  rw [drop_at h, nmG, ← take_at h]
theorem nm_end {l : List B} {i : Nat} (h : l.length ≤ i) : nmG (l.take i) (l.drop i) = true := by rw [drop_end h, nmG]
theorem szs {l : List B} : ∀ e ∈ strs l, e.length = 1 := fun e he => by obtain ⟨s, _, rfl⟩ := List.mem_map.1 he; rfl
theorem rowK_str {m : Nat} {rows : Go.Vx.Rows} {l : List B} {x : B} : RowK m rows (.live 1 ((strs l).map (·.map .d) ++ [[.d (.str x)]])) (rowStrs (l ++ [x])) := by
  rw [show rowStrs (l ++ [x]) = .live 1 ((strs l ++ [sD x]).map (·.map .d)) by simp [strs]]
  exact rowK_snoc (x := sD x) ⟨.same _ rfl, trivial⟩
abbrev rowInts (l : List Int) : RowS := .live 1 ((ints l).map (·.map .d))
theorem rowK_int {m : Nat} {rows : Go.Vx.Rows} {l : List Int} {x : Int} : RowK m rows (.live 1 ((ints l).map (·.map .d) ++ [[.d (.int .i64 x)]])) (rowInts (l ++ [x])) := by
  rw [show rowInts (l ++ [x]) = .live 1 ((ints l ++ [iD x]).map (·.map .d)) by simp [ints]]
  exact rowK_snoc (x := iD x) ⟨.same _ rfl, trivial⟩
theorem szi {l : List Int} : ∀ e ∈ ints l, e.length = 1 := fun e he => by obtain ⟨s, _, rfl⟩ := List.mem_map.1 he; rfl
theorem sgn_len (c : Chn) : (sgn c).length = c.fs.length + 2 := rfl
theorem rowB_rC (c : Chn) {m : Nat} : rowB m (rC c) := by
  intro e he v hv; simp at he; subst he; simp at hv; rcases hv with rfl | rfl | rfl <;> rfl
theorem rowB_rW (w : Wv) {m : Nat} : rowB m (rW w) := by
  intro e he v hv; simp at he; subst he; simp at hv; rcases hv with rfl | rfl <;> rfl
theorem t33 (c : Chn) (ok : okC c) : CallP Tryd.prog 33 [chV c] (.d (.sl 1 (strs (sgn c)))) := by
  have hb := mxB; have hl := ok.fl
  refine go33 ac33 rfl ?_
  simp only [vx, vz, Nat.reduceAdd, Nat.reduceSub, Nat.reduceMul, Nat.reduceLeDiff, Nat.reduceLT, Nat.reduceEqDiff, Nat.reduceBEq, Int.reduceToNat, Int.reduceNeg, Int.reduceEq, Int.reduceNe, Int.reduceLE, Int.reduceLT, reduceCtorEq, ↓reduceIte, ac33]
  refine ⟨by omega, ?_⟩
  exact sn_all (es := strs (sgn c)) rfl (by simp [sgn]; omega) szs
theorem t36 (c : Chn) (ok : okC c) : CallP Tryd.prog 36 [chV c] (.d (.sl 1 (strs (sgn c)))) := by
  have hb := mxB; have hl := ok.fl
  refine go36 ac36 rfl ?_
  simp only [vx, vz, Nat.reduceAdd, Nat.reduceSub, Nat.reduceMul, Nat.reduceLeDiff, Nat.reduceLT, Nat.reduceEqDiff, Nat.reduceBEq, Int.reduceToNat, Int.reduceNeg, Int.reduceEq, Int.reduceNe, Int.reduceLE, Int.reduceLT, reduceCtorEq, ↓reduceIte, ac36]
  refine loop_st (fun i : Nat => ⟨mkF 26 [(1, .optr 3 0 1 0 0), (3, .osl 1 1 (i + 2) 0 (i + 2)), (4, .d (.int .i64 i))], [rC c, rowStrs ((sgn c).take (i + 2))]⟩) (fun i => i ≤ c.fs.length) (fun i => c.fs.length - i) 0 (weak_any (by simp only [vx, vz, Nat.reduceAdd, Nat.reduceSub, Nat.reduceMul, Nat.reduceLeDiff, Nat.reduceLT, Nat.reduceEqDiff, Nat.reduceBEq, Int.reduceToNat, Int.reduceNeg, Int.reduceEq, Int.reduceNe, Int.reduceLE, Int.reduceLT, reduceCtorEq, ↓reduceIte]; try trivial)) (by omega) (fun i hi => ?_)
  have htl : ((sgn c).take (i + 2)).length = i + 2 := by rw [List.length_take, sgn_len]; omega
  simp only [vx, vz, Nat.reduceAdd, Nat.reduceSub, Nat.reduceMul, Nat.reduceLeDiff, Nat.reduceLT, Nat.reduceEqDiff, Nat.reduceBEq, Int.reduceToNat, Int.reduceNeg, Int.reduceEq, Int.reduceNe, Int.reduceLE, Int.reduceLT, reduceCtorEq, ↓reduceIte]
  refine cond_split (fun hc => ?_) (fun hc => ?_)
  · simp only [decide_eq_true_eq] at hc
    obtain ⟨x, hx⟩ := get_ex (l := c.fs) (i := i) (by omega)
    simp only [vx, vz, Nat.reduceAdd, Nat.reduceSub, Nat.reduceMul, Nat.reduceLeDiff, Nat.reduceLT, Nat.reduceEqDiff, Nat.reduceBEq, Int.reduceToNat, Int.reduceNeg, Int.reduceEq, Int.reduceNe, Int.reduceLE, Int.reduceLT, reduceCtorEq, ↓reduceIte]
    refine ⟨by omega, by omega, getM_at hx ?_⟩
    simp only [vx, vz, Nat.reduceAdd, Nat.reduceSub, Nat.reduceMul, Nat.reduceLeDiff, Nat.reduceLT, Nat.reduceEqDiff, Nat.reduceBEq, Int.reduceToNat, Int.reduceNeg, Int.reduceEq, Int.reduceNe, Int.reduceLE, Int.reduceLT, reduceCtorEq, ↓reduceIte]
    simp only [vx, vz, Nat.reduceAdd, Nat.reduceSub, Nat.reduceMul, Nat.reduceLeDiff, Nat.reduceLT, Nat.reduceEqDiff, Nat.reduceBEq, Int.reduceToNat, Int.reduceNeg, Int.reduceEq, Int.reduceNe, Int.reduceLE, Int.reduceLT, reduceCtorEq, ↓reduceIte, sD]
    refine ⟨by omega, by omega, ?_⟩
    refine ls_n (i + 1) (by omega) (Weak.trans (weak_any ?_) (weak_frz2 2 (by omega) ⟨.same _ (rowB_rC c), ?_, trivial⟩ (kpL_refl rfl))) (by omega)
    · simp only [vx, vz, Nat.reduceAdd, Nat.reduceSub, Nat.reduceMul, Nat.reduceLeDiff, Nat.reduceLT, Nat.reduceEqDiff, Nat.reduceBEq, Int.reduceToNat, Int.reduceNeg, Int.reduceEq, Int.reduceNe, Int.reduceLE, Int.reduceLT, reduceCtorEq, ↓reduceIte]
      rw [wr_i64 (by omega) (by omega)]
      first | trivial | exact ⟨rfl, rfl⟩
    · rw [show (sgn c).take (i + 1 + 2) = (sgn c).take (i + 2) ++ [x] from take_at (l := sgn c) (i := i + 2) hx]
      exact rowK_str
  · simp only [decide_eq_false_iff_not] at hc
    obtain rfl : i = c.fs.length := by omega
    simp only [vx, vz, Nat.reduceAdd, Nat.reduceSub, Nat.reduceMul, Nat.reduceLeDiff, Nat.reduceLT, Nat.reduceEqDiff, Nat.reduceBEq, Int.reduceToNat, Int.reduceNeg, Int.reduceEq, Int.reduceNe, Int.reduceLE, Int.reduceLT, reduceCtorEq, ↓reduceIte]
    rw [List.take_of_length_le (show (sgn c).length ≤ _ by rw [sgn_len]; omega)]
    exact sn_all (es := strs (sgn c)) rfl (by simp [sgn]) szs
theorem t15 (c : Chn) (ok : okC c) : CallP Tryd.prog 15 [chV c] (.d (.bool (vldC c))) := by
  have hb := mxB; have hl := ok.fl; have hm := hm; have hL := mL
  have hsl := sgn_len c
  refine go15 ac15 rfl ?_
  simp only [vx, vz, Nat.reduceAdd, Nat.reduceSub, Nat.reduceMul, Nat.reduceLeDiff, Nat.reduceLT, Nat.reduceEqDiff, Nat.reduceBEq, Int.reduceToNat, Int.reduceNeg, Int.reduceEq, Int.reduceNe, Int.reduceLE, Int.reduceLT, reduceCtorEq, ↓reduceIte, ac15]
  unfold vldC
  by_cases h1 : (16 : Int) < c.fs.length
  · rw [df (show ¬ (c.fs.length : Int) ≤ 16 by omega)]
    simp only [vx, vz, Nat.reduceAdd, Nat.reduceSub, Nat.reduceMul, Nat.reduceLeDiff, Nat.reduceLT, Nat.reduceEqDiff, Nat.reduceBEq, Int.reduceToNat, Int.reduceNeg, Int.reduceEq, Int.reduceNe, Int.reduceLE, Int.reduceLT, reduceCtorEq, ↓reduceIte, dt h1, Bool.false_and]
  rw [dt (show (c.fs.length : Int) ≤ 16 by omega), Bool.true_and]
  simp only [vx, vz, Nat.reduceAdd, Nat.reduceSub, Nat.reduceMul, Nat.reduceLeDiff, Nat.reduceLT, Nat.reduceEqDiff, Nat.reduceBEq, Int.reduceToNat, Int.reduceNeg, Int.reduceEq, Int.reduceNe, Int.reduceLE, Int.reduceLT, reduceCtorEq, ↓reduceIte, df h1]
  refine call_p rfl (t33 c ok) ?_
  simp only [vx, vz, Nat.reduceAdd, Nat.reduceSub, Nat.reduceMul, Nat.reduceLeDiff, Nat.reduceLT, Nat.reduceEqDiff, Nat.reduceBEq, Int.reduceToNat, Int.reduceNeg, Int.reduceEq, Int.reduceNe, Int.reduceLE, Int.reduceLT, reduceCtorEq, ↓reduceIte]
  obtain ⟨l, hl2⟩ : ∃ l, l = sgn c := ⟨_, rfl⟩
  have okl := ok.ok
  rw [← hl2] at okl hsl ⊢
  refine loop_st (fun i : Nat => ⟨mkF 30 [(3, .d (.sl 1 (strs l))), (12, .d (.sl 1 (strs l))), (13, .d (.int .i64 l.length)), (14, .d (.int .i64 i))], [rC c]⟩) (fun i => i ≤ l.length ∧ nmG [] l = nmG (l.take i) (l.drop i)) (fun i => l.length - i) 0 (weak_any (by simp only [vx, vz, Nat.reduceAdd, Nat.reduceSub, Nat.reduceMul, Nat.reduceLeDiff, Nat.reduceLT, Nat.reduceEqDiff, Nat.reduceBEq, Int.reduceToNat, Int.reduceNeg, Int.reduceEq, Int.reduceNe, Int.reduceLE, Int.reduceLT, reduceCtorEq, ↓reduceIte]; try trivial)) ⟨by omega, rfl⟩ (fun i hi => ?_)
  obtain ⟨g1, g2⟩ := hi
  simp only [vx, vz, Nat.reduceAdd, Nat.reduceSub, Nat.reduceMul, Nat.reduceLeDiff, Nat.reduceLT, Nat.reduceEqDiff, Nat.reduceBEq, Int.reduceToNat, Int.reduceNeg, Int.reduceEq, Int.reduceNe, Int.reduceLE, Int.reduceLT, reduceCtorEq, ↓reduceIte]
  refine cond_split (fun hc => ?_) (fun hc => ?_)
  · simp only [decide_eq_true_eq] at hc
    obtain ⟨x, hx⟩ := get_ex (l := l) (i := i) (by omega)
    rw [nm_at hx] at g2
    simp only [vx, vz, Nat.reduceAdd, Nat.reduceSub, Nat.reduceMul, Nat.reduceLeDiff, Nat.reduceLT, Nat.reduceEqDiff, Nat.reduceBEq, Int.reduceToNat, Int.reduceNeg, Int.reduceEq, Int.reduceNe, Int.reduceLE, Int.reduceLT, reduceCtorEq, ↓reduceIte]
    refine ⟨by omega, by omega, getM_at hx ?_⟩
    simp only [vx, vz, Nat.reduceAdd, Nat.reduceSub, Nat.reduceMul, Nat.reduceLeDiff, Nat.reduceLT, Nat.reduceEqDiff, Nat.reduceBEq, Int.reduceToNat, Int.reduceNeg, Int.reduceEq, Int.reduceNe, Int.reduceLE, Int.reduceLT, reduceCtorEq, ↓reduceIte]
    simp only [vx, vz, Nat.reduceAdd, Nat.reduceSub, Nat.reduceMul, Nat.reduceLeDiff, Nat.reduceLT, Nat.reduceEqDiff, Nat.reduceBEq, Int.reduceToNat, Int.reduceNeg, Int.reduceEq, Int.reduceNe, Int.reduceLE, Int.reduceLT, reduceCtorEq, ↓reduceIte, sD]
    refine call_p rfl (t34 x (okl x (List.mem_of_getElem? hx))) ?_
    simp only [vx, vz, Nat.reduceAdd, Nat.reduceSub, Nat.reduceMul, Nat.reduceLeDiff, Nat.reduceLT, Nat.reduceEqDiff, Nat.reduceBEq, Int.reduceToNat, Int.reduceNeg, Int.reduceEq, Int.reduceNe, Int.reduceLE, Int.reduceLT, reduceCtorEq, ↓reduceIte]
    cases hn : nmS x with
    | false =>
      rw [hn, Bool.false_and] at g2
      simp only [vx, vz, Nat.reduceAdd, Nat.reduceSub, Nat.reduceMul, Nat.reduceLeDiff, Nat.reduceLT, Nat.reduceEqDiff, Nat.reduceBEq, Int.reduceToNat, Int.reduceNeg, Int.reduceEq, Int.reduceNe, Int.reduceLE, Int.reduceLT, reduceCtorEq, ↓reduceIte, Bool.not_false, g2]
    | true =>
      rw [hn, Bool.true_and] at g2
      simp only [vx, vz, Nat.reduceAdd, Nat.reduceSub, Nat.reduceMul, Nat.reduceLeDiff, Nat.reduceLT, Nat.reduceEqDiff, Nat.reduceBEq, Int.reduceToNat, Int.reduceNeg, Int.reduceEq, Int.reduceNe, Int.reduceLE, Int.reduceLT, reduceCtorEq, ↓reduceIte, Bool.not_true]
      refine ⟨by omega, by omega, ?_⟩
      rw [← List.map_take]
      refine call_p rfl (t35 (l.take i) x (by rw [List.length_take]; omega)) ?_
      simp only [vx, vz, Nat.reduceAdd, Nat.reduceSub, Nat.reduceMul, Nat.reduceLeDiff, Nat.reduceLT, Nat.reduceEqDiff, Nat.reduceBEq, Int.reduceToNat, Int.reduceNeg, Int.reduceEq, Int.reduceNe, Int.reduceLE, Int.reduceLT, reduceCtorEq, ↓reduceIte]
      cases hcn : (l.take i).contains x with
      | true =>
        rw [hcn] at g2
        simp only [vx, vz, Nat.reduceAdd, Nat.reduceSub, Nat.reduceMul, Nat.reduceLeDiff, Nat.reduceLT, Nat.reduceEqDiff, Nat.reduceBEq, Int.reduceToNat, Int.reduceNeg, Int.reduceEq, Int.reduceNe, Int.reduceLE, Int.reduceLT, reduceCtorEq, ↓reduceIte, g2]
        rfl
      | false =>
        rw [hcn] at g2
        simp only [vx, vz, Nat.reduceAdd, Nat.reduceSub, Nat.reduceMul, Nat.reduceLeDiff, Nat.reduceLT, Nat.reduceEqDiff, Nat.reduceBEq, Int.reduceToNat, Int.reduceNeg, Int.reduceEq, Int.reduceNe, Int.reduceLE, Int.reduceLT, reduceCtorEq, ↓reduceIte]
        refine ls_n (i + 1) (by omega) (weak_any ?_) ⟨by omega, g2⟩
        simp only [vx, vz, Nat.reduceAdd, Nat.reduceSub, Nat.reduceMul, Nat.reduceLeDiff, Nat.reduceLT, Nat.reduceEqDiff, Nat.reduceBEq, Int.reduceToNat, Int.reduceNeg, Int.reduceEq, Int.reduceNe, Int.reduceLE, Int.reduceLT, reduceCtorEq, ↓reduceIte]
        rw [wr_i64 (by omega) (by omega)]
        first | trivial | exact ⟨rfl, rfl⟩
  · simp only [decide_eq_false_iff_not] at hc
    rw [nm_end (by omega)] at g2
    simp only [vx, vz, Nat.reduceAdd, Nat.reduceSub, Nat.reduceMul, Nat.reduceLeDiff, Nat.reduceLT, Nat.reduceEqDiff, Nat.reduceBEq, Int.reduceToNat, Int.reduceNeg, Int.reduceEq, Int.reduceNe, Int.reduceLE, Int.reduceLT, reduceCtorEq, ↓reduceIte, g2]
theorem t45 (c : Chn) (ok : okC c) : CallP Tryd.prog 45 [chV c] (.d (.bool (!vldC c))) := by
  refine go45 ac45 rfl ?_
  simp only [vx, vz, Nat.reduceAdd, Nat.reduceSub, Nat.reduceMul, Nat.reduceLeDiff, Nat.reduceLT, Nat.reduceEqDiff, Nat.reduceBEq, Int.reduceToNat, Int.reduceNeg, Int.reduceEq, Int.reduceNe, Int.reduceLE, Int.reduceLT, reduceCtorEq, ↓reduceIte, ac45]
  refine call_p rfl (t15 c ok) ?_
  simp only [vx, vz, Nat.reduceAdd, Nat.reduceSub, Nat.reduceMul, Nat.reduceLeDiff, Nat.reduceLT, Nat.reduceEqDiff, Nat.reduceBEq, Int.reduceToNat, Int.reduceNeg, Int.reduceEq, Int.reduceNe, Int.reduceLE, Int.reduceLT, reduceCtorEq, ↓reduceIte]
theorem con_at {l : List B} {x y : B} {i j : Nat} (h : l[j]? = some y) (hj : j < i) (e : y = x) : (l.take i).contains x = true := by
  subst e
  rw [List.contains_iff_mem]
  exact List.mem_of_getElem? (i := j) (by rw [List.getElem?_take, if_pos hj]; exact h)
theorem con_no {l : List B} {x : B} {i : Nat} (h : ∀ j y, j < i → l[j]? = some y → ¬ y = x) : (l.take i).contains x = false := by
  rw [Bool.eq_false_iff]
  intro hc
  rw [List.contains_iff_mem] at hc
  obtain ⟨j, hj⟩ := List.getElem?_of_mem hc
  rw [List.getElem?_take] at hj
  split at hj
  · rename_i hji
    exact h j x hji hj rfl
  · cases hj
theorem t16 (c : Chn) (ok : okC c) : CallP Tryd.prog 16 [chV c] (.d (.bool (vldC c))) := by
  have hb := mxB; have hl := ok.fl; have hm := hm; have hL := mL
  have hsl := sgn_len c
  refine go16 ac16 rfl ?_
  simp only [vx, vz, Nat.reduceAdd, Nat.reduceSub, Nat.reduceMul, Nat.reduceLeDiff, Nat.reduceLT, Nat.reduceEqDiff, Nat.reduceBEq, Int.reduceToNat, Int.reduceNeg, Int.reduceEq, Int.reduceNe, Int.reduceLE, Int.reduceLT, reduceCtorEq, ↓reduceIte, ac16]
  unfold vldC
  refine call_p rfl (t36 c ok) ?_
  simp only [vx, vz, Nat.reduceAdd, Nat.reduceSub, Nat.reduceMul, Nat.reduceLeDiff, Nat.reduceLT, Nat.reduceEqDiff, Nat.reduceBEq, Int.reduceToNat, Int.reduceNeg, Int.reduceEq, Int.reduceNe, Int.reduceLE, Int.reduceLT, reduceCtorEq, ↓reduceIte]
  obtain ⟨l, hl2⟩ : ∃ l, l = sgn c := ⟨_, rfl⟩
  have okl := ok.ok
  rw [← hl2] at okl hsl ⊢
  refine loop_st (fun i : Nat => ⟨mkF 38 [(1, .optr 3 0 1 0 0), (3, .d (.sl 1 (strs l))), (4, .d (.int .i64 i))], [rC c]⟩) (fun i => i ≤ l.length ∧ nmG [] l = nmG (l.take i) (l.drop i)) (fun i => l.length - i) 0 (weak_any (by simp only [vx, vz, Nat.reduceAdd, Nat.reduceSub, Nat.reduceMul, Nat.reduceLeDiff, Nat.reduceLT, Nat.reduceEqDiff, Nat.reduceBEq, Int.reduceToNat, Int.reduceNeg, Int.reduceEq, Int.reduceNe, Int.reduceLE, Int.reduceLT, reduceCtorEq, ↓reduceIte]; try trivial)) ⟨by omega, rfl⟩ (fun i hi => ?_)
  obtain ⟨g1, g2⟩ := hi
  simp only [vx, vz, Nat.reduceAdd, Nat.reduceSub, Nat.reduceMul, Nat.reduceLeDiff, Nat.reduceLT, Nat.reduceEqDiff, Nat.reduceBEq, Int.reduceToNat, Int.reduceNeg, Int.reduceEq, Int.reduceNe, Int.reduceLE, Int.reduceLT, reduceCtorEq, ↓reduceIte]
  refine cond_split (fun hc => ?_) (fun hc => ?_)
  · simp only [decide_eq_true_eq] at hc
    obtain ⟨x, hx⟩ := get_ex (l := l) (i := i) (by omega)
    rw [nm_at hx] at g2
    simp only [vx, vz, Nat.reduceAdd, Nat.reduceSub, Nat.reduceMul, Nat.reduceLeDiff, Nat.reduceLT, Nat.reduceEqDiff, Nat.reduceBEq, Int.reduceToNat, Int.reduceNeg, Int.reduceEq, Int.reduceNe, Int.reduceLE, Int.reduceLT, reduceCtorEq, ↓reduceIte]
    refine ⟨by omega, by omega, getM_at hx ?_⟩
    simp only [vx, vz, Nat.reduceAdd, Nat.reduceSub, Nat.reduceMul, Nat.reduceLeDiff, Nat.reduceLT, Nat.reduceEqDiff, Nat.reduceBEq, Int.reduceToNat, Int.reduceNeg, Int.reduceEq, Int.reduceNe, Int.reduceLE, Int.reduceLT, reduceCtorEq, ↓reduceIte]
    simp only [vx, vz, Nat.reduceAdd, Nat.reduceSub, Nat.reduceMul, Nat.reduceLeDiff, Nat.reduceLT, Nat.reduceEqDiff, Nat.reduceBEq, Int.reduceToNat, Int.reduceNeg, Int.reduceEq, Int.reduceNe, Int.reduceLE, Int.reduceLT, reduceCtorEq, ↓reduceIte, sD]
    refine call_p rfl (t37 x (okl x (List.mem_of_getElem? hx))) ?_
    simp only [vx, vz, Nat.reduceAdd, Nat.reduceSub, Nat.reduceMul, Nat.reduceLeDiff, Nat.reduceLT, Nat.reduceEqDiff, Nat.reduceBEq, Int.reduceToNat, Int.reduceNeg, Int.reduceEq, Int.reduceNe, Int.reduceLE, Int.reduceLT, reduceCtorEq, ↓reduceIte]
    cases hn : nmS x with
    | false =>
      rw [hn, Bool.false_and] at g2
      simp only [vx, vz, Nat.reduceAdd, Nat.reduceSub, Nat.reduceMul, Nat.reduceLeDiff, Nat.reduceLT, Nat.reduceEqDiff, Nat.reduceBEq, Int.reduceToNat, Int.reduceNeg, Int.reduceEq, Int.reduceNe, Int.reduceLE, Int.reduceLT, reduceCtorEq, ↓reduceIte, Bool.not_false, g2, Bool.and_false]
    | true =>
      rw [hn, Bool.true_and] at g2
      simp only [vx, vz, Nat.reduceAdd, Nat.reduceSub, Nat.reduceMul, Nat.reduceLeDiff, Nat.reduceLT, Nat.reduceEqDiff, Nat.reduceBEq, Int.reduceToNat, Int.reduceNeg, Int.reduceEq, Int.reduceNe, Int.reduceLE, Int.reduceLT, reduceCtorEq, ↓reduceIte, Bool.not_true]
      refine loop_st (fun j : Nat => ⟨mkF 38 [(1, .optr 3 0 1 0 0), (3, .d (.sl 1 (strs l))), (4, .d (.int .i64 i)), (5, .d (.int .i64 j))], [rC c]⟩) (fun j => j ≤ i ∧ ∀ k y, k < j → l[k]? = some y → ¬ y = x) (fun j => i - j) 0 (weak_any (by simp only [vx, vz, Nat.reduceAdd, Nat.reduceSub, Nat.reduceMul, Nat.reduceLeDiff, Nat.reduceLT, Nat.reduceEqDiff, Nat.reduceBEq, Int.reduceToNat, Int.reduceNeg, Int.reduceEq, Int.reduceNe, Int.reduceLE, Int.reduceLT, reduceCtorEq, ↓reduceIte]; try trivial)) ⟨by omega, fun k y hk => by omega⟩ (fun j hj => ?_)
      obtain ⟨j1, j2⟩ := hj
      simp only [vx, vz, Nat.reduceAdd, Nat.reduceSub, Nat.reduceMul, Nat.reduceLeDiff, Nat.reduceLT, Nat.reduceEqDiff, Nat.reduceBEq, Int.reduceToNat, Int.reduceNeg, Int.reduceEq, Int.reduceNe, Int.reduceLE, Int.reduceLT, reduceCtorEq, ↓reduceIte]
      refine cond_split (fun hc2 => ?_) (fun hc2 => ?_)
      · simp only [decide_eq_true_eq] at hc2
        obtain ⟨y, hy⟩ := get_ex (l := l) (i := j) (by omega)
        simp only [vx, vz, Nat.reduceAdd, Nat.reduceSub, Nat.reduceMul, Nat.reduceLeDiff, Nat.reduceLT, Nat.reduceEqDiff, Nat.reduceBEq, Int.reduceToNat, Int.reduceNeg, Int.reduceEq, Int.reduceNe, Int.reduceLE, Int.reduceLT, reduceCtorEq, ↓reduceIte]
        refine c_quiet rfl ?_
        simp only [vx, vz, Nat.reduceAdd, Nat.reduceSub, Nat.reduceMul, Nat.reduceLeDiff, Nat.reduceLT, Nat.reduceEqDiff, Nat.reduceBEq, Int.reduceToNat, Int.reduceNeg, Int.reduceEq, Int.reduceNe, Int.reduceLE, Int.reduceLT, reduceCtorEq, ↓reduceIte]
        refine ⟨by omega, by omega, getM_at hy ?_⟩
        simp only [vx, vz, Nat.reduceAdd, Nat.reduceSub, Nat.reduceMul, Nat.reduceLeDiff, Nat.reduceLT, Nat.reduceEqDiff, Nat.reduceBEq, Int.reduceToNat, Int.reduceNeg, Int.reduceEq, Int.reduceNe, Int.reduceLE, Int.reduceLT, reduceCtorEq, ↓reduceIte]
        simp only [vx, vz, Nat.reduceAdd, Nat.reduceSub, Nat.reduceMul, Nat.reduceLeDiff, Nat.reduceLT, Nat.reduceEqDiff, Nat.reduceBEq, Int.reduceToNat, Int.reduceNeg, Int.reduceEq, Int.reduceNe, Int.reduceLE, Int.reduceLT, reduceCtorEq, ↓reduceIte, sD]
        refine ⟨by omega, by omega, getM_at hx ?_⟩
        simp only [vx, vz, Nat.reduceAdd, Nat.reduceSub, Nat.reduceMul, Nat.reduceLeDiff, Nat.reduceLT, Nat.reduceEqDiff, Nat.reduceBEq, Int.reduceToNat, Int.reduceNeg, Int.reduceEq, Int.reduceNe, Int.reduceLE, Int.reduceLT, reduceCtorEq, ↓reduceIte]
        simp only [vx, vz, Nat.reduceAdd, Nat.reduceSub, Nat.reduceMul, Nat.reduceLeDiff, Nat.reduceLT, Nat.reduceEqDiff, Nat.reduceBEq, Int.reduceToNat, Int.reduceNeg, Int.reduceEq, Int.reduceNe, Int.reduceLE, Int.reduceLT, reduceCtorEq, ↓reduceIte, sD]
        by_cases he : y = x
        · rw [con_at hy (by omega) he] at g2
          simp only [vx, vz, Nat.reduceAdd, Nat.reduceSub, Nat.reduceMul, Nat.reduceLeDiff, Nat.reduceLT, Nat.reduceEqDiff, Nat.reduceBEq, Int.reduceToNat, Int.reduceNeg, Int.reduceEq, Int.reduceNe, Int.reduceLE, Int.reduceLT, reduceCtorEq, ↓reduceIte, dt he, g2, Bool.not_true, Bool.false_and, Bool.and_false]
        · simp only [vx, vz, Nat.reduceAdd, Nat.reduceSub, Nat.reduceMul, Nat.reduceLeDiff, Nat.reduceLT, Nat.reduceEqDiff, Nat.reduceBEq, Int.reduceToNat, Int.reduceNeg, Int.reduceEq, Int.reduceNe, Int.reduceLE, Int.reduceLT, reduceCtorEq, ↓reduceIte, df he]
          refine ls_n (j + 1) (by omega) (weak_any ?_) ⟨by omega, fun k z hk hz => ?_⟩
          · simp only [vx, vz, Nat.reduceAdd, Nat.reduceSub, Nat.reduceMul, Nat.reduceLeDiff, Nat.reduceLT, Nat.reduceEqDiff, Nat.reduceBEq, Int.reduceToNat, Int.reduceNeg, Int.reduceEq, Int.reduceNe, Int.reduceLE, Int.reduceLT, reduceCtorEq, ↓reduceIte]
            rw [wr_i64 (by omega) (by omega)]
            first | trivial | exact ⟨rfl, rfl⟩
          · by_cases hkj : k = j
            · subst hkj; rw [hy] at hz; injection hz with hz; subst hz; exact he
            · exact j2 k z (by omega) hz
      · simp only [decide_eq_false_iff_not] at hc2
        obtain rfl : j = i := by omega
        rw [con_no j2] at g2
        simp only [vx, vz, Nat.reduceAdd, Nat.reduceSub, Nat.reduceMul, Nat.reduceLeDiff, Nat.reduceLT, Nat.reduceEqDiff, Nat.reduceBEq, Int.reduceToNat, Int.reduceNeg, Int.reduceEq, Int.reduceNe, Int.reduceLE, Int.reduceLT, reduceCtorEq, ↓reduceIte]
        refine ls_n (j + 1) (by omega) (weak_any ?_) ⟨by omega, g2⟩
        simp only [vx, vz, Nat.reduceAdd, Nat.reduceSub, Nat.reduceMul, Nat.reduceLeDiff, Nat.reduceLT, Nat.reduceEqDiff, Nat.reduceBEq, Int.reduceToNat, Int.reduceNeg, Int.reduceEq, Int.reduceNe, Int.reduceLE, Int.reduceLT, reduceCtorEq, ↓reduceIte]
        rw [wr_i64 (by omega) (by omega)]
        first | trivial | exact ⟨rfl, rfl⟩
  · simp only [decide_eq_false_iff_not] at hc
    rw [nm_end (by omega)] at g2
    simp only [vx, vz, Nat.reduceAdd, Nat.reduceSub, Nat.reduceMul, Nat.reduceLeDiff, Nat.reduceLT, Nat.reduceEqDiff, Nat.reduceBEq, Int.reduceToNat, Int.reduceNeg, Int.reduceEq, Int.reduceNe, Int.reduceLE, Int.reduceLT, reduceCtorEq, ↓reduceIte, g2, Bool.and_true]
end Go.Proofs.Mn

namespace Go.Proofs.Mn
open Go.Vx
theorem plc_con (l : List B) (s : B) (k : Nat) : decide (0 ≤ plc l s k) = l.contains s := by
  induction l generalizing k with
  | nil => rfl
  | cons x l ih =>
    rw [plc, List.contains_cons]
    by_cases h : x = s
    · rw [if_pos h]; subst h; simp
    · rw [if_neg h, ih, show (s == x) = false by simp [Ne.symm h], Bool.false_or]
/-- the columns of names -/
def cols (w : Wv) (l : List B) : List Int := l.map fun s => plc w.ns s 0
/-- a channel in a trace -/
def vwD (w : Wv) (c : Chn) : List D := [.str c.va, .str c.rd, .sl 1 (strs c.fs), .sl 1 (rws w.rs), .int .i64 (plc w.ns c.va 0), .int .i64 (plc w.ns c.rd 0), .sl 1 (ints (cols w c.fs))]
abbrev vwV (w : Wv) (c : Chn) : V := .agg [.d (.str c.va), .d (.str c.rd), .d (.sl 1 (strs c.fs)), .d (.sl 1 (rws w.rs)), .d (.int .i64 (plc w.ns c.va 0)), .d (.int .i64 (plc w.ns c.rd 0)), .d (.sl 1 (ints (cols w c.fs)))]
abbrev zvV : V := .agg [.d (.str []), .d (.str []), .d .nils, .d .nils, .d (.int .i64 0), .d (.int .i64 0), .d .nils]
abbrev lookV (w : Wv) (c : Chn) : V := if knwS w c = true then .tup [vwV w c, .d (.int .i64 0)] else .tup [zvV, .d (.int .i64 7)]
theorem szw {l : List (List Int)} : ∀ e ∈ rws l, e.length = 1 := fun e he => by obtain ⟨s, _, rfl⟩ := List.mem_map.1 he; rfl
theorem rowB_zv {m : Nat} : rowB m (.live 7 [[.d (.str []), .d (.str []), .d .nils, .d .nils, .d (.int .i64 0), .d (.int .i64 0), .d .nils]]) := by
  intro e he v hv; simp at he; subst he; simp at hv; rcases hv with rfl | rfl | rfl | rfl | rfl | rfl | rfl <;> rfl
theorem t46 (w : Wv) (c : Chn) (okw : okW w) (okc : okC c) : CallP Tryd.prog 46 [wvV w, chV c] (lookV w c) := by
  have hb := mxB; have hl := okc.fl; have hm := hm; have hL := mL; have hnl := okw.nl
  have hsl := sgn_len c
  refine go46 ac46 rfl ?_
  simp only [vx, vz, Nat.reduceAdd, Nat.reduceSub, Nat.reduceMul, Nat.reduceLeDiff, Nat.reduceLT, Nat.reduceEqDiff, Nat.reduceBEq, Int.reduceToNat, Int.reduceNeg, Int.reduceEq, Int.reduceNe, Int.reduceLE, Int.reduceLT, reduceCtorEq, ↓reduceIte, ac46]
  refine call_p rfl (t33 c okc) ?_
  simp only [vx, vz, Nat.reduceAdd, Nat.reduceSub, Nat.reduceMul, Nat.reduceLeDiff, Nat.reduceLT, Nat.reduceEqDiff, Nat.reduceBEq, Int.reduceToNat, Int.reduceNeg, Int.reduceEq, Int.reduceNe, Int.reduceLE, Int.reduceLT, reduceCtorEq, ↓reduceIte]
  obtain ⟨l, hl2⟩ : ∃ l, l = sgn c := ⟨_, rfl⟩
  have hkn : knwS w c = l.all (fun s => w.ns.contains s) := by rw [hl2]; rfl
  rw [← hl2] at hsl ⊢
  refine loop_st (fun i : Nat => ⟨mkF 41 [(2, .optr 2 0 1 0 0), (3, .optr 3 1 1 0 0), (4, .optr 7 2 1 0 0), (6, .osl 1 3 i 0 i), (11, .d (.sl 1 (strs l))), (12, .d (.int .i64 l.length)), (13, .d (.int .i64 i))], [rW w, rC c, .live 7 [[.d (.str []), .d (.str []), .d .nils, .d .nils, .d (.int .i64 0), .d (.int .i64 0), .d .nils]], rowInts ((cols w l).take i)]⟩) (fun i => i ≤ l.length ∧ l.all (fun s => w.ns.contains s) = (l.drop i).all (fun s => w.ns.contains s)) (fun i => l.length - i) 0 (Weak.trans (weak_nils 6 1 rfl) (weak_any (by simp only [vx, vz, Nat.reduceAdd, Nat.reduceSub, Nat.reduceMul, Nat.reduceLeDiff, Nat.reduceLT, Nat.reduceEqDiff, Nat.reduceBEq, Int.reduceToNat, Int.reduceNeg, Int.reduceEq, Int.reduceNe, Int.reduceLE, Int.reduceLT, reduceCtorEq, ↓reduceIte]; try trivial))) ⟨by omega, rfl⟩ (fun i hi => ?_)
  obtain ⟨g1, g2⟩ := hi
  have hci : ((cols w l).take i).length = i := by rw [List.length_take, cols, List.length_map]; omega
  simp only [vx, vz, Nat.reduceAdd, Nat.reduceSub, Nat.reduceMul, Nat.reduceLeDiff, Nat.reduceLT, Nat.reduceEqDiff, Nat.reduceBEq, Int.reduceToNat, Int.reduceNeg, Int.reduceEq, Int.reduceNe, Int.reduceLE, Int.reduceLT, reduceCtorEq, ↓reduceIte]
  refine cond_split (fun hc => ?_) (fun hc => ?_)
  · simp only [decide_eq_true_eq] at hc
    obtain ⟨x, hx⟩ := get_ex (l := l) (i := i) (by omega)
    rw [all_take_at hx] at g2
    simp only [vx, vz, Nat.reduceAdd, Nat.reduceSub, Nat.reduceMul, Nat.reduceLeDiff, Nat.reduceLT, Nat.reduceEqDiff, Nat.reduceBEq, Int.reduceToNat, Int.reduceNeg, Int.reduceEq, Int.reduceNe, Int.reduceLE, Int.reduceLT, reduceCtorEq, ↓reduceIte]
    refine ⟨by omega, by omega, getM_at hx ?_⟩
    simp only [vx, vz, Nat.reduceAdd, Nat.reduceSub, Nat.reduceMul, Nat.reduceLeDiff, Nat.reduceLT, Nat.reduceEqDiff, Nat.reduceBEq, Int.reduceToNat, Int.reduceNeg, Int.reduceEq, Int.reduceNe, Int.reduceLE, Int.reduceLT, reduceCtorEq, ↓reduceIte]
    simp only [vx, vz, Nat.reduceAdd, Nat.reduceSub, Nat.reduceMul, Nat.reduceLeDiff, Nat.reduceLT, Nat.reduceEqDiff, Nat.reduceBEq, Int.reduceToNat, Int.reduceNeg, Int.reduceEq, Int.reduceNe, Int.reduceLE, Int.reduceLT, reduceCtorEq, ↓reduceIte, sD]
    refine call_p rfl (t51b w.ns x hnl) ?_
    simp only [vx, vz, Nat.reduceAdd, Nat.reduceSub, Nat.reduceMul, Nat.reduceLeDiff, Nat.reduceLT, Nat.reduceEqDiff, Nat.reduceBEq, Int.reduceToNat, Int.reduceNeg, Int.reduceEq, Int.reduceNe, Int.reduceLE, Int.reduceLT, reduceCtorEq, ↓reduceIte]
    have hpc := plc_con w.ns x 0
    cases hk : w.ns.contains x with
    | false =>
      rw [hk, Bool.false_and] at g2
      rw [hk, decide_eq_false_iff_not] at hpc
      simp only [vx, vz, Nat.reduceAdd, Nat.reduceSub, Nat.reduceMul, Nat.reduceLeDiff, Nat.reduceLT, Nat.reduceEqDiff, Nat.reduceBEq, Int.reduceToNat, Int.reduceNeg, Int.reduceEq, Int.reduceNe, Int.reduceLE, Int.reduceLT, reduceCtorEq, ↓reduceIte, dt (show plc w.ns x 0 < 0 by omega)]
      unfold lookV
      rw [hkn, g2, if_neg (by decide)]
      simp only [vx, vz, Nat.reduceAdd, Nat.reduceSub, Nat.reduceMul, Nat.reduceLeDiff, Nat.reduceLT, Nat.reduceEqDiff, Nat.reduceBEq, Int.reduceToNat, Int.reduceNeg, Int.reduceEq, Int.reduceNe, Int.reduceLE, Int.reduceLT, reduceCtorEq, ↓reduceIte, zvV]
      exact ⟨.d _, .d _, .d _⟩
    | true =>
      rw [hk, Bool.true_and] at g2
      rw [hk, decide_eq_true_eq] at hpc
      simp only [vx, vz, Nat.reduceAdd, Nat.reduceSub, Nat.reduceMul, Nat.reduceLeDiff, Nat.reduceLT, Nat.reduceEqDiff, Nat.reduceBEq, Int.reduceToNat, Int.reduceNeg, Int.reduceEq, Int.reduceNe, Int.reduceLE, Int.reduceLT, reduceCtorEq, ↓reduceIte, df (show ¬ plc w.ns x 0 < 0 by omega)]
      refine ⟨by omega, by omega, ?_⟩
      refine ls_n (i + 1) (by omega) (Weak.trans (weak_any ?_) (weak_frz2 4 (by omega) ⟨.same _ (rowB_rW w), .same _ (rowB_rC c), .same _ rowB_zv, ?_, trivial⟩ (kpL_refl rfl))) ⟨by omega, g2⟩
      · simp only [vx, vz, Nat.reduceAdd, Nat.reduceSub, Nat.reduceMul, Nat.reduceLeDiff, Nat.reduceLT, Nat.reduceEqDiff, Nat.reduceBEq, Int.reduceToNat, Int.reduceNeg, Int.reduceEq, Int.reduceNe, Int.reduceLE, Int.reduceLT, reduceCtorEq, ↓reduceIte]
        rw [wr_i64 (by omega) (by omega)]
        first | trivial | exact ⟨rfl, rfl⟩
      · rw [show (cols w l).take (i + 1) = (cols w l).take i ++ [plc w.ns x 0] from take_at (l := cols w l) (i := i) (by rw [cols, List.getElem?_map, hx]; rfl)]
        exact rowK_int
  · simp only [decide_eq_false_iff_not] at hc
    obtain rfl : i = l.length := by omega
    have hsc : cols w l = plc w.ns c.va 0 :: plc w.ns c.rd 0 :: cols w c.fs := by rw [hl2]; rfl
    rw [List.take_of_length_le (by rw [cols, List.length_map]; omega), hsc]
    have hkt : knwS w c = true := by rw [hkn, g2, drop_end (by omega)]; rfl
    unfold lookV
    rw [if_pos hkt]
    simp only [vx, vz, Nat.reduceAdd, Nat.reduceSub, Nat.reduceMul, Nat.reduceLeDiff, Nat.reduceLT, Nat.reduceEqDiff, Nat.reduceBEq, Int.reduceToNat, Int.reduceNeg, Int.reduceEq, Int.reduceNe, Int.reduceLE, Int.reduceLT, reduceCtorEq, ↓reduceIte]
    have hcl : (cols w c.fs).length = c.fs.length := by rw [cols, List.length_map]
    refine c_draw ?_
    simp only [vx, vz, Nat.reduceAdd, Nat.reduceSub, Nat.reduceMul, Nat.reduceLeDiff, Nat.reduceLT, Nat.reduceEqDiff, Nat.reduceBEq, Int.reduceToNat, Int.reduceNeg, Int.reduceEq, Int.reduceNe, Int.reduceLE, Int.reduceLT, reduceCtorEq, ↓reduceIte]
    repeat (refine d_k rfl rfl ?_; simp only [vx, vz, Nat.reduceAdd, Nat.reduceSub, Nat.reduceMul, Nat.reduceLeDiff, Nat.reduceLT, Nat.reduceEqDiff, Nat.reduceBEq, Int.reduceToNat, Int.reduceNeg, Int.reduceEq, Int.reduceNe, Int.reduceLE, Int.reduceLT, reduceCtorEq, ↓reduceIte])
    refine ⟨by omega, by omega, ?_⟩
    repeat (refine d_k rfl rfl ?_; simp only [vx, vz, Nat.reduceAdd, Nat.reduceSub, Nat.reduceMul, Nat.reduceLeDiff, Nat.reduceLT, Nat.reduceEqDiff, Nat.reduceBEq, Int.reduceToNat, Int.reduceNeg, Int.reduceEq, Int.reduceNe, Int.reduceLE, Int.reduceLT, reduceCtorEq, ↓reduceIte])
    refine ⟨by omega, ?_⟩
    simp only [vx, vz, Nat.reduceAdd, Nat.reduceSub, Nat.reduceMul, Nat.reduceLeDiff, Nat.reduceLT, Nat.reduceEqDiff, Nat.reduceBEq, Int.reduceToNat, Int.reduceNeg, Int.reduceEq, Int.reduceNe, Int.reduceLE, Int.reduceLT, reduceCtorEq, ↓reduceIte, iD]
    repeat (refine d_k rfl rfl ?_; simp only [vx, vz, Nat.reduceAdd, Nat.reduceSub, Nat.reduceMul, Nat.reduceLeDiff, Nat.reduceLT, Nat.reduceEqDiff, Nat.reduceBEq, Int.reduceToNat, Int.reduceNeg, Int.reduceEq, Int.reduceNe, Int.reduceLE, Int.reduceLT, reduceCtorEq, ↓reduceIte])
    refine ⟨by omega, by omega, ?_⟩
    repeat (refine d_k rfl rfl ?_; simp only [vx, vz, Nat.reduceAdd, Nat.reduceSub, Nat.reduceMul, Nat.reduceLeDiff, Nat.reduceLT, Nat.reduceEqDiff, Nat.reduceBEq, Int.reduceToNat, Int.reduceNeg, Int.reduceEq, Int.reduceNe, Int.reduceLE, Int.reduceLT, reduceCtorEq, ↓reduceIte])
    refine ⟨by omega, ?_⟩
    simp only [vx, vz, Nat.reduceAdd, Nat.reduceSub, Nat.reduceMul, Nat.reduceLeDiff, Nat.reduceLT, Nat.reduceEqDiff, Nat.reduceBEq, Int.reduceToNat, Int.reduceNeg, Int.reduceEq, Int.reduceNe, Int.reduceLE, Int.reduceLT, reduceCtorEq, ↓reduceIte, iD]
    repeat (refine d_k rfl rfl ?_; simp only [vx, vz, Nat.reduceAdd, Nat.reduceSub, Nat.reduceMul, Nat.reduceLeDiff, Nat.reduceLT, Nat.reduceEqDiff, Nat.reduceBEq, Int.reduceToNat, Int.reduceNeg, Int.reduceEq, Int.reduceNe, Int.reduceLE, Int.reduceLT, reduceCtorEq, ↓reduceIte])
    refine ⟨by omega, by omega, by omega, ?_⟩
    repeat (refine d_k rfl rfl ?_; simp only [vx, vz, Nat.reduceAdd, Nat.reduceSub, Nat.reduceMul, Nat.reduceLeDiff, Nat.reduceLT, Nat.reduceEqDiff, Nat.reduceBEq, Int.reduceToNat, Int.reduceNeg, Int.reduceEq, Int.reduceNe, Int.reduceLE, Int.reduceLT, reduceCtorEq, ↓reduceIte])
    exact ⟨.d _, .d _, sn_osl (es := ints (plc w.ns c.va 0 :: plc w.ns c.rd 0 :: cols w c.fs)) rfl (by rw [List.length_map, List.length_cons, List.length_cons]; omega) (by omega) szi (by simp only [List.map_cons, List.drop_succ_cons, List.drop_zero]; rw [List.take_of_length_le (by rw [List.length_map]; omega)])⟩
/-- the views of channels in a trace -/
def opnS (w : Wv) (l : List Chn) : V :=
  if (l.any (fun c => !vldC c) || !vldW w) = true then .tup [.d .nils, .d (.int .i64 1)]
  else if l.all (knwS w) = true then .tup [.d (.sl 7 (l.map (vwD w))), .d (.int .i64 0)] else .tup [.d .nils, .d (.int .i64 7)]
abbrev rowVw (w : Wv) (l : List Chn) : RowS := .live 7 ((l.map (vwD w)).map (·.map .d))
theorem rowK_vw {m : Nat} {rows : Go.Vx.Rows} {w : Wv} {l : List Chn} {x : Chn} : RowK m rows (.live 7 ((l.map (vwD w)).map (·.map .d) ++ [(vwD w x).map .d])) (rowVw w (l ++ [x])) := by
  rw [show rowVw w (l ++ [x]) = .live 7 ((l.map (vwD w) ++ [vwD w x]).map (·.map .d)) by simp]
  exact rowK_snoc (x := vwD w x) ⟨.same _ rfl, .same _ rfl, .same _ rfl, .same _ rfl, .same _ rfl, .same _ rfl, .same _ rfl, trivial⟩
theorem szv {w : Wv} {l : List Chn} : ∀ e ∈ l.map (vwD w), e.length = 7 := fun e he => by obtain ⟨s, _, rfl⟩ := List.mem_map.1 he; rfl
theorem t27 (w : Wv) (l : List Chn) (okw : okW w) (hl : l.length ≤ 1000) (okc : ∀ c ∈ l, okC c) : CallP Tryd.prog 27 [wvV w, .d (.sl 3 (l.map Chn.d))] (opnS w l) := by
  have hb := mxB; have hm := hm; have hL := mL; have hnl := okw.nl
  refine go27 ac27 rfl ?_
  simp only [vx, vz, Nat.reduceAdd, Nat.reduceSub, Nat.reduceMul, Nat.reduceLeDiff, Nat.reduceLT, Nat.reduceEqDiff, Nat.reduceBEq, Int.reduceToNat, Int.reduceNeg, Int.reduceEq, Int.reduceNe, Int.reduceLE, Int.reduceLT, reduceCtorEq, ↓reduceIte, ac27]
  refine call_p rfl (t44 l (fun c => !vldC c) 45 (by omega) (fun x hx => t45 x (okc x hx))) ?_
  simp only [vx, vz, Nat.reduceAdd, Nat.reduceSub, Nat.reduceMul, Nat.reduceLeDiff, Nat.reduceLT, Nat.reduceEqDiff, Nat.reduceBEq, Int.reduceToNat, Int.reduceNeg, Int.reduceEq, Int.reduceNe, Int.reduceLE, Int.reduceLT, reduceCtorEq, ↓reduceIte]
  unfold opnS
  cases ha : (l.any fun c => !vldC c) with
  | true =>
    rw [Bool.true_or, if_pos rfl]
    simp only [vx, vz, Nat.reduceAdd, Nat.reduceSub, Nat.reduceMul, Nat.reduceLeDiff, Nat.reduceLT, Nat.reduceEqDiff, Nat.reduceBEq, Int.reduceToNat, Int.reduceNeg, Int.reduceEq, Int.reduceNe, Int.reduceLE, Int.reduceLT, reduceCtorEq, ↓reduceIte]
    exact .d _
  | false =>
    rw [Bool.false_or]
    simp only [vx, vz, Nat.reduceAdd, Nat.reduceSub, Nat.reduceMul, Nat.reduceLeDiff, Nat.reduceLT, Nat.reduceEqDiff, Nat.reduceBEq, Int.reduceToNat, Int.reduceNeg, Int.reduceEq, Int.reduceNe, Int.reduceLE, Int.reduceLT, reduceCtorEq, ↓reduceIte]
    refine call_p rfl (t41 w okw) ?_
    simp only [vx, vz, Nat.reduceAdd, Nat.reduceSub, Nat.reduceMul, Nat.reduceLeDiff, Nat.reduceLT, Nat.reduceEqDiff, Nat.reduceBEq, Int.reduceToNat, Int.reduceNeg, Int.reduceEq, Int.reduceNe, Int.reduceLE, Int.reduceLT, reduceCtorEq, ↓reduceIte]
    cases hv : vldW w with
    | false =>
      rw [Bool.not_false, if_pos rfl]
      simp only [vx, vz, Nat.reduceAdd, Nat.reduceSub, Nat.reduceMul, Nat.reduceLeDiff, Nat.reduceLT, Nat.reduceEqDiff, Nat.reduceBEq, Int.reduceToNat, Int.reduceNeg, Int.reduceEq, Int.reduceNe, Int.reduceLE, Int.reduceLT, reduceCtorEq, ↓reduceIte]
      exact .d _
    | true =>
      rw [Bool.not_true, if_neg (by decide)]
      simp only [vx, vz, Nat.reduceAdd, Nat.reduceSub, Nat.reduceMul, Nat.reduceLeDiff, Nat.reduceLT, Nat.reduceEqDiff, Nat.reduceBEq, Int.reduceToNat, Int.reduceNeg, Int.reduceEq, Int.reduceNe, Int.reduceLE, Int.reduceLT, reduceCtorEq, ↓reduceIte]
      refine loop_st (fun i : Nat => ⟨mkF 39 [(2, .optr 2 0 1 0 0), (6, .osl 7 1 i 0 i), (18, .d (.sl 3 (l.map Chn.d))), (19, .d (.int .i64 l.length)), (20, .d (.int .i64 i))], [rW w, rowVw w (l.take i)]⟩) (fun i => i ≤ l.length ∧ l.all (knwS w) = (l.drop i).all (knwS w)) (fun i => l.length - i) 0 (Weak.trans (weak_nils 6 7 rfl) (weak_any (by simp only [vx, vz, Nat.reduceAdd, Nat.reduceSub, Nat.reduceMul, Nat.reduceLeDiff, Nat.reduceLT, Nat.reduceEqDiff, Nat.reduceBEq, Int.reduceToNat, Int.reduceNeg, Int.reduceEq, Int.reduceNe, Int.reduceLE, Int.reduceLT, reduceCtorEq, ↓reduceIte]; try trivial))) ⟨by omega, rfl⟩ (fun i hi => ?_)
      obtain ⟨g1, g2⟩ := hi
      have hci : (l.take i).length = i := by rw [List.length_take]; omega
      simp only [vx, vz, Nat.reduceAdd, Nat.reduceSub, Nat.reduceMul, Nat.reduceLeDiff, Nat.reduceLT, Nat.reduceEqDiff, Nat.reduceBEq, Int.reduceToNat, Int.reduceNeg, Int.reduceEq, Int.reduceNe, Int.reduceLE, Int.reduceLT, reduceCtorEq, ↓reduceIte]
      refine cond_split (fun hc => ?_) (fun hc => ?_)
      · simp only [decide_eq_true_eq] at hc
        obtain ⟨x, hx⟩ := get_ex (l := l) (i := i) (by omega)
        rw [all_take_at hx] at g2
        simp only [vx, vz, Nat.reduceAdd, Nat.reduceSub, Nat.reduceMul, Nat.reduceLeDiff, Nat.reduceLT, Nat.reduceEqDiff, Nat.reduceBEq, Int.reduceToNat, Int.reduceNeg, Int.reduceEq, Int.reduceNe, Int.reduceLE, Int.reduceLT, reduceCtorEq, ↓reduceIte]
        refine ⟨by omega, by omega, getM_at hx ?_⟩
        simp only [vx, vz, Nat.reduceAdd, Nat.reduceSub, Nat.reduceMul, Nat.reduceLeDiff, Nat.reduceLT, Nat.reduceEqDiff, Nat.reduceBEq, Int.reduceToNat, Int.reduceNeg, Int.reduceEq, Int.reduceNe, Int.reduceLE, Int.reduceLT, reduceCtorEq, ↓reduceIte]
        simp only [vx, vz, Nat.reduceAdd, Nat.reduceSub, Nat.reduceMul, Nat.reduceLeDiff, Nat.reduceLT, Nat.reduceEqDiff, Nat.reduceBEq, Int.reduceToNat, Int.reduceNeg, Int.reduceEq, Int.reduceNe, Int.reduceLE, Int.reduceLT, reduceCtorEq, ↓reduceIte, Chn.d]
        refine call_p rfl (t46 w x okw (okc x (List.mem_of_getElem? hx))) ?_
        simp only [vx, vz, Nat.reduceAdd, Nat.reduceSub, Nat.reduceMul, Nat.reduceLeDiff, Nat.reduceLT, Nat.reduceEqDiff, Nat.reduceBEq, Int.reduceToNat, Int.reduceNeg, Int.reduceEq, Int.reduceNe, Int.reduceLE, Int.reduceLT, reduceCtorEq, ↓reduceIte]
        unfold lookV
        cases hk : knwS w x with
        | false =>
          rw [hk, Bool.false_and] at g2
          rw [g2, if_neg (by decide), if_neg (by decide)]
          simp only [vx, vz, Nat.reduceAdd, Nat.reduceSub, Nat.reduceMul, Nat.reduceLeDiff, Nat.reduceLT, Nat.reduceEqDiff, Nat.reduceBEq, Int.reduceToNat, Int.reduceNeg, Int.reduceEq, Int.reduceNe, Int.reduceLE, Int.reduceLT, reduceCtorEq, ↓reduceIte]
          exact .d _
        | true =>
          rw [hk, Bool.true_and] at g2
          rw [if_pos rfl]
          simp only [vx, vz, Nat.reduceAdd, Nat.reduceSub, Nat.reduceMul, Nat.reduceLeDiff, Nat.reduceLT, Nat.reduceEqDiff, Nat.reduceBEq, Int.reduceToNat, Int.reduceNeg, Int.reduceEq, Int.reduceNe, Int.reduceLE, Int.reduceLT, reduceCtorEq, ↓reduceIte]
          refine ⟨by omega, by omega, ?_⟩
          refine ls_n (i + 1) (by omega) (Weak.trans (weak_any ?_) (weak_frz2 2 (by omega) ⟨.same _ (rowB_rW w), ?_, trivial⟩ (kpL_refl rfl))) ⟨by omega, g2⟩
          · simp only [vx, vz, Nat.reduceAdd, Nat.reduceSub, Nat.reduceMul, Nat.reduceLeDiff, Nat.reduceLT, Nat.reduceEqDiff, Nat.reduceBEq, Int.reduceToNat, Int.reduceNeg, Int.reduceEq, Int.reduceNe, Int.reduceLE, Int.reduceLT, reduceCtorEq, ↓reduceIte]
            rw [wr_i64 (by omega) (by omega)]
            first | trivial | exact ⟨rfl, rfl⟩
          · rw [take_at hx]
            exact rowK_vw
      · simp only [decide_eq_false_iff_not] at hc
        obtain rfl : i = l.length := by omega
        have hkt : l.all (knwS w) = true := by rw [g2, drop_end (by omega)]; rfl
        rw [if_pos hkt, List.take_of_length_le (Nat.le_refl _)]
        simp only [vx, vz, Nat.reduceAdd, Nat.reduceSub, Nat.reduceMul, Nat.reduceLeDiff, Nat.reduceLT, Nat.reduceEqDiff, Nat.reduceBEq, Int.reduceToNat, Int.reduceNeg, Int.reduceEq, Int.reduceNe, Int.reduceLE, Int.reduceLT, reduceCtorEq, ↓reduceIte]
        exact sn_all (es := l.map (vwD w)) rfl (by simp) szv
end Go.Proofs.Mn

namespace Go.Proofs.Mn
open Go.Vx
theorem vw_at {w : Wv} {s : B} {t : Nat} (hv : vldW w = true) (hk : w.ns.contains s = true) (ht : t < w.rs.length) :
    ∃ r k x, w.rs[t]? = some r ∧ plc w.ns s 0 = ((k : Nat) : Int) ∧ r[k]? = some x ∧ k < r.length ∧ valS w s t = x := by
  obtain ⟨k1, k2, k3, k4⟩ := vldW_in hv
  obtain ⟨r, hr⟩ := get_ex (l := w.rs) (i := t) ht
  have hp := plc_con w.ns s 0
  rw [hk, decide_eq_true_eq] at hp
  obtain ⟨k, hk2⟩ : ∃ k : Nat, plc w.ns s 0 = k := ⟨(plc w.ns s 0).toNat, by omega⟩
  have hrl := (k4 r (List.mem_of_getElem? hr)).1
  have hkl : k < r.length := by have := plc_lt w.ns s 0; omega
  obtain ⟨x, hx⟩ := get_ex (l := r) (i := k) hkl
  refine ⟨r, k, x, hr, hk2, hx, hkl, ?_⟩
  unfold valS
  rw [if_pos ⟨hv, by omega, by omega, by omega⟩, hk2]
  simp [List.getD_eq_getElem?_getD, hr, hx]
theorem knw_mem {w : Wv} {c : Chn} (h : knwS w c = true) {s : B} (hs : s ∈ sgn c) : w.ns.contains s = true := by
  unfold knwS at h
  rw [List.all_eq_true] at h
  exact h s hs
theorem t48 (w : Wv) (c : Chn) (t : Nat) (hv : vldW w = true) (hk : knwS w c = true) (ht : t < w.rs.length) : CallP Tryd.prog 48 [vwV w c, .d (.int .i64 t)] (.d (.bool (!decide (valS w c.va t = 0)))) := by
  obtain ⟨r, k, x, h1, h2, h3, h5, h4⟩ := vw_at hv (knw_mem hk (s := c.va) (by simp [sgn])) ht
  rw [h4]
  refine go48 ac48 rfl ?_
  simp only [vx, vz, Nat.reduceAdd, Nat.reduceSub, Nat.reduceMul, Nat.reduceLeDiff, Nat.reduceLT, Nat.reduceEqDiff, Nat.reduceBEq, Int.reduceToNat, Int.reduceNeg, Int.reduceEq, Int.reduceNe, Int.reduceLE, Int.reduceLT, reduceCtorEq, ↓reduceIte, ac48]
  refine c_quiet rfl ?_
  simp only [vx, vz, Nat.reduceAdd, Nat.reduceSub, Nat.reduceMul, Nat.reduceLeDiff, Nat.reduceLT, Nat.reduceEqDiff, Nat.reduceBEq, Int.reduceToNat, Int.reduceNeg, Int.reduceEq, Int.reduceNe, Int.reduceLE, Int.reduceLT, reduceCtorEq, ↓reduceIte]
  refine ⟨by omega, by omega, getM_at h1 ?_⟩
  simp only [vx, vz, Nat.reduceAdd, Nat.reduceSub, Nat.reduceMul, Nat.reduceLeDiff, Nat.reduceLT, Nat.reduceEqDiff, Nat.reduceBEq, Int.reduceToNat, Int.reduceNeg, Int.reduceEq, Int.reduceNe, Int.reduceLE, Int.reduceLT, reduceCtorEq, ↓reduceIte]
  simp only [vx, vz, Nat.reduceAdd, Nat.reduceSub, Nat.reduceMul, Nat.reduceLeDiff, Nat.reduceLT, Nat.reduceEqDiff, Nat.reduceBEq, Int.reduceToNat, Int.reduceNeg, Int.reduceEq, Int.reduceNe, Int.reduceLE, Int.reduceLT, reduceCtorEq, ↓reduceIte, rwD, h2]
  refine ⟨by omega, by omega, getM_at h3 ?_⟩
  simp only [vx, vz, Nat.reduceAdd, Nat.reduceSub, Nat.reduceMul, Nat.reduceLeDiff, Nat.reduceLT, Nat.reduceEqDiff, Nat.reduceBEq, Int.reduceToNat, Int.reduceNeg, Int.reduceEq, Int.reduceNe, Int.reduceLE, Int.reduceLT, reduceCtorEq, ↓reduceIte]
  simp only [vx, vz, Nat.reduceAdd, Nat.reduceSub, Nat.reduceMul, Nat.reduceLeDiff, Nat.reduceLT, Nat.reduceEqDiff, Nat.reduceBEq, Int.reduceToNat, Int.reduceNeg, Int.reduceEq, Int.reduceNe, Int.reduceLE, Int.reduceLT, reduceCtorEq, ↓reduceIte, iD]
  rw [decide_not]
theorem t49 (w : Wv) (c : Chn) (t : Nat) (hv : vldW w = true) (hk : knwS w c = true) (ht : t < w.rs.length) : CallP Tryd.prog 49 [vwV w c, .d (.int .i64 t)] (.d (.bool (!decide (valS w c.rd t = 0)))) := by
  obtain ⟨r, k, x, h1, h2, h3, h5, h4⟩ := vw_at hv (knw_mem hk (s := c.rd) (by simp [sgn])) ht
  rw [h4]
  refine go49 ac49 rfl ?_
  simp only [vx, vz, Nat.reduceAdd, Nat.reduceSub, Nat.reduceMul, Nat.reduceLeDiff, Nat.reduceLT, Nat.reduceEqDiff, Nat.reduceBEq, Int.reduceToNat, Int.reduceNeg, Int.reduceEq, Int.reduceNe, Int.reduceLE, Int.reduceLT, reduceCtorEq, ↓reduceIte, ac49]
  refine c_quiet rfl ?_
  simp only [vx, vz, Nat.reduceAdd, Nat.reduceSub, Nat.reduceMul, Nat.reduceLeDiff, Nat.reduceLT, Nat.reduceEqDiff, Nat.reduceBEq, Int.reduceToNat, Int.reduceNeg, Int.reduceEq, Int.reduceNe, Int.reduceLE, Int.reduceLT, reduceCtorEq, ↓reduceIte]
  refine ⟨by omega, by omega, getM_at h1 ?_⟩
  simp only [vx, vz, Nat.reduceAdd, Nat.reduceSub, Nat.reduceMul, Nat.reduceLeDiff, Nat.reduceLT, Nat.reduceEqDiff, Nat.reduceBEq, Int.reduceToNat, Int.reduceNeg, Int.reduceEq, Int.reduceNe, Int.reduceLE, Int.reduceLT, reduceCtorEq, ↓reduceIte]
  simp only [vx, vz, Nat.reduceAdd, Nat.reduceSub, Nat.reduceMul, Nat.reduceLeDiff, Nat.reduceLT, Nat.reduceEqDiff, Nat.reduceBEq, Int.reduceToNat, Int.reduceNeg, Int.reduceEq, Int.reduceNe, Int.reduceLE, Int.reduceLT, reduceCtorEq, ↓reduceIte, rwD, h2]
  refine ⟨by omega, by omega, getM_at h3 ?_⟩
  simp only [vx, vz, Nat.reduceAdd, Nat.reduceSub, Nat.reduceMul, Nat.reduceLeDiff, Nat.reduceLT, Nat.reduceEqDiff, Nat.reduceBEq, Int.reduceToNat, Int.reduceNeg, Int.reduceEq, Int.reduceNe, Int.reduceLE, Int.reduceLT, reduceCtorEq, ↓reduceIte]
  simp only [vx, vz, Nat.reduceAdd, Nat.reduceSub, Nat.reduceMul, Nat.reduceLeDiff, Nat.reduceLT, Nat.reduceEqDiff, Nat.reduceBEq, Int.reduceToNat, Int.reduceNeg, Int.reduceEq, Int.reduceNe, Int.reduceLE, Int.reduceLT, reduceCtorEq, ↓reduceIte, iD]
  rw [decide_not]
abbrev rV (w : Wv) (c : Chn) : RowS := .live 7 [[.d (.str c.va), .d (.str c.rd), .d (.sl 1 (strs c.fs)), .d (.sl 1 (rws w.rs)), .d (.int .i64 (plc w.ns c.va 0)), .d (.int .i64 (plc w.ns c.rd 0)), .d (.sl 1 (ints (cols w c.fs)))]]
theorem rowB_rV (w : Wv) (c : Chn) {m : Nat} : rowB m (rV w c) := rowB_data (es := [vwD w c])
/-- the values of the fields -/
def flds (w : Wv) (c : Chn) (t : Int) : List Int := c.fs.map fun s => valS w s t
theorem t50 (w : Wv) (c : Chn) (t : Nat) (okc : okC c) (hv : vldW w = true) (hk : knwS w c = true) (ht : t < w.rs.length) : CallP Tryd.prog 50 [vwV w c, .d (.int .i64 t)] (.d (.sl 1 (ints (flds w c t)))) := by
  have hb := mxB; have hm := hm; have hL := mL; have hl := okc.fl
  have hcl : (cols w c.fs).length = c.fs.length := by rw [cols, List.length_map]
  have hfl : (flds w c t).length = c.fs.length := by rw [flds, List.length_map]
  refine go50 ac50 rfl ?_
  simp only [vx, vz, Nat.reduceAdd, Nat.reduceSub, Nat.reduceMul, Nat.reduceLeDiff, Nat.reduceLT, Nat.reduceEqDiff, Nat.reduceBEq, Int.reduceToNat, Int.reduceNeg, Int.reduceEq, Int.reduceNe, Int.reduceLE, Int.reduceLT, reduceCtorEq, ↓reduceIte, ac50]
  refine loop_st (fun i : Nat => ⟨mkF 28 [(1, .d (.int .i64 t)), (2, .optr 7 0 1 0 0), (5, .osl 1 1 i 0 i), (9, .d (.sl 1 (ints (cols w c.fs)))), (10, .d (.int .i64 (cols w c.fs).length)), (11, .d (.int .i64 i))], [rV w c, rowInts ((flds w c t).take i)]⟩) (fun i => i ≤ c.fs.length) (fun i => c.fs.length - i) 0 (Weak.trans (weak_nils 5 1 rfl) (weak_any (by simp only [vx, vz, Nat.reduceAdd, Nat.reduceSub, Nat.reduceMul, Nat.reduceLeDiff, Nat.reduceLT, Nat.reduceEqDiff, Nat.reduceBEq, Int.reduceToNat, Int.reduceNeg, Int.reduceEq, Int.reduceNe, Int.reduceLE, Int.reduceLT, reduceCtorEq, ↓reduceIte]; try trivial))) (by omega) (fun i hi => ?_)
  have hci : ((flds w c t).take i).length = i := by rw [List.length_take]; omega
  simp only [vx, vz, Nat.reduceAdd, Nat.reduceSub, Nat.reduceMul, Nat.reduceLeDiff, Nat.reduceLT, Nat.reduceEqDiff, Nat.reduceBEq, Int.reduceToNat, Int.reduceNeg, Int.reduceEq, Int.reduceNe, Int.reduceLE, Int.reduceLT, reduceCtorEq, ↓reduceIte]
  refine cond_split (fun hc => ?_) (fun hc => ?_)
  · simp only [decide_eq_true_eq] at hc
    obtain ⟨s, hs⟩ := get_ex (l := c.fs) (i := i) (by omega)
    obtain ⟨r, k, x, h1, h2, h3, h5, h4⟩ := vw_at hv (knw_mem hk (s := s) (by simp [sgn, List.mem_of_getElem? hs])) ht
    have hcs : (cols w c.fs)[i]? = some (plc w.ns s 0) := by rw [cols, List.getElem?_map, hs]; rfl
    simp only [vx, vz, Nat.reduceAdd, Nat.reduceSub, Nat.reduceMul, Nat.reduceLeDiff, Nat.reduceLT, Nat.reduceEqDiff, Nat.reduceBEq, Int.reduceToNat, Int.reduceNeg, Int.reduceEq, Int.reduceNe, Int.reduceLE, Int.reduceLT, reduceCtorEq, ↓reduceIte]
    refine ⟨by omega, by omega, getM_at hcs ?_⟩
    simp only [vx, vz, Nat.reduceAdd, Nat.reduceSub, Nat.reduceMul, Nat.reduceLeDiff, Nat.reduceLT, Nat.reduceEqDiff, Nat.reduceBEq, Int.reduceToNat, Int.reduceNeg, Int.reduceEq, Int.reduceNe, Int.reduceLE, Int.reduceLT, reduceCtorEq, ↓reduceIte]
    simp only [vx, vz, Nat.reduceAdd, Nat.reduceSub, Nat.reduceMul, Nat.reduceLeDiff, Nat.reduceLT, Nat.reduceEqDiff, Nat.reduceBEq, Int.reduceToNat, Int.reduceNeg, Int.reduceEq, Int.reduceNe, Int.reduceLE, Int.reduceLT, reduceCtorEq, ↓reduceIte, iD, h2]
    refine ⟨by omega, by omega, getM_at h1 ?_⟩
    simp only [vx, vz, Nat.reduceAdd, Nat.reduceSub, Nat.reduceMul, Nat.reduceLeDiff, Nat.reduceLT, Nat.reduceEqDiff, Nat.reduceBEq, Int.reduceToNat, Int.reduceNeg, Int.reduceEq, Int.reduceNe, Int.reduceLE, Int.reduceLT, reduceCtorEq, ↓reduceIte]
    simp only [vx, vz, Nat.reduceAdd, Nat.reduceSub, Nat.reduceMul, Nat.reduceLeDiff, Nat.reduceLT, Nat.reduceEqDiff, Nat.reduceBEq, Int.reduceToNat, Int.reduceNeg, Int.reduceEq, Int.reduceNe, Int.reduceLE, Int.reduceLT, reduceCtorEq, ↓reduceIte, rwD, h2]
    refine ⟨by omega, by omega, getM_at h3 ?_⟩
    simp only [vx, vz, Nat.reduceAdd, Nat.reduceSub, Nat.reduceMul, Nat.reduceLeDiff, Nat.reduceLT, Nat.reduceEqDiff, Nat.reduceBEq, Int.reduceToNat, Int.reduceNeg, Int.reduceEq, Int.reduceNe, Int.reduceLE, Int.reduceLT, reduceCtorEq, ↓reduceIte]
    simp only [vx, vz, Nat.reduceAdd, Nat.reduceSub, Nat.reduceMul, Nat.reduceLeDiff, Nat.reduceLT, Nat.reduceEqDiff, Nat.reduceBEq, Int.reduceToNat, Int.reduceNeg, Int.reduceEq, Int.reduceNe, Int.reduceLE, Int.reduceLT, reduceCtorEq, ↓reduceIte, iD]
    refine ⟨by omega, by omega, ?_⟩
    refine ls_n (i + 1) (by omega) (Weak.trans (weak_any ?_) (weak_frz2 2 (by omega) ⟨.same _ (rowB_rV w c), ?_, trivial⟩ (kpL_refl rfl))) (by omega)
    · simp only [vx, vz, Nat.reduceAdd, Nat.reduceSub, Nat.reduceMul, Nat.reduceLeDiff, Nat.reduceLT, Nat.reduceEqDiff, Nat.reduceBEq, Int.reduceToNat, Int.reduceNeg, Int.reduceEq, Int.reduceNe, Int.reduceLE, Int.reduceLT, reduceCtorEq, ↓reduceIte]
      rw [wr_i64 (by omega) (by omega)]
      first | trivial | exact ⟨rfl, rfl⟩
    · rw [show (flds w c t).take (i + 1) = (flds w c t).take i ++ [x] from take_at (l := flds w c t) (i := i) (by rw [flds, List.getElem?_map, hs, ← h4]; rfl)]
      exact rowK_int
  · simp only [decide_eq_false_iff_not] at hc
    obtain rfl : i = c.fs.length := by omega
    rw [List.take_of_length_le (by omega)]
    simp only [vx, vz, Nat.reduceAdd, Nat.reduceSub, Nat.reduceMul, Nat.reduceLeDiff, Nat.reduceLT, Nat.reduceEqDiff, Nat.reduceBEq, Int.reduceToNat, Int.reduceNeg, Int.reduceEq, Int.reduceNe, Int.reduceLE, Int.reduceLT, reduceCtorEq, ↓reduceIte]
    exact sn_all (es := ints (flds w c t)) rfl (by simp [hfl]) szi
theorem t42 (l : List B) (hl : l.length ≤ 100000) : CallP Tryd.prog 42 [.d (.sl 1 (l.map sD))] (.d (.sl 1 (l.map sD))) := by
  have := mxB
  refine go42 ac42 rfl ?_
  cases l with
  | nil =>
    simp only [vx, vz, Nat.reduceAdd, Nat.reduceSub, Nat.reduceMul, Nat.reduceLeDiff, Nat.reduceLT, Nat.reduceEqDiff, Nat.reduceBEq, Int.reduceToNat, Int.reduceNeg, Int.reduceEq, Int.reduceNe, Int.reduceLE, Int.reduceLT, reduceCtorEq, ↓reduceIte, ac42]
    exact ⟨by omega, sn_all (es := []) rfl rfl (by simp)⟩
  | cons x l =>
    simp only [vx, vz, Nat.reduceAdd, Nat.reduceSub, Nat.reduceMul, Nat.reduceLeDiff, Nat.reduceLT, Nat.reduceEqDiff, Nat.reduceBEq, Int.reduceToNat, Int.reduceNeg, Int.reduceEq, Int.reduceNe, Int.reduceLE, Int.reduceLT, reduceCtorEq, ↓reduceIte, ac42]
    simp only [List.length_cons] at hl
    exact ⟨by omega, sn_all (es := (x :: l).map sD) rfl (by simp) szs⟩
theorem t59 (a b : List Int) (ha : a.length ≤ maxLen) (hb : b.length ≤ maxLen) : CallP Tryd.prog 59 [.d (.sl 1 (ints a)), .d (.sl 1 (ints b))] (.d (.bool (decide (a = b)))) := by
  have hm := hm
  refine go59 ac59 rfl ?_
  simp only [vx, vz, Nat.reduceAdd, Nat.reduceSub, Nat.reduceMul, Nat.reduceLeDiff, Nat.reduceLT, Nat.reduceEqDiff, Nat.reduceBEq, Int.reduceToNat, Int.reduceNeg, Int.reduceEq, Int.reduceNe, Int.reduceLE, Int.reduceLT, reduceCtorEq, ↓reduceIte, ac59]
  by_cases hab : (a.length : Int) = b.length
  · simp only [vx, vz, Nat.reduceAdd, Nat.reduceSub, Nat.reduceMul, Nat.reduceLeDiff, Nat.reduceLT, Nat.reduceEqDiff, Nat.reduceBEq, Int.reduceToNat, Int.reduceNeg, Int.reduceEq, Int.reduceNe, Int.reduceLE, Int.reduceLT, reduceCtorEq, ↓reduceIte, decide_not, dt hab]
    refine loop_st (fun i : Nat => ⟨mkF 26 [(0, .d (.sl 1 (ints a))), (1, .d (.sl 1 (ints b))), (12, .d (.int .i64 a.length)), (13, .d (.int .i64 i))], []⟩) (fun i => i ≤ a.length ∧ a.take i = b.take i) (fun i => a.length - i) 0 (weak_any (by simp only [vx, vz, Nat.reduceAdd, Nat.reduceSub, Nat.reduceMul, Nat.reduceLeDiff, Nat.reduceLT, Nat.reduceEqDiff, Nat.reduceBEq, Int.reduceToNat, Int.reduceNeg, Int.reduceEq, Int.reduceNe, Int.reduceLE, Int.reduceLT, reduceCtorEq, ↓reduceIte]; try trivial)) ⟨by omega, by simp⟩ (fun i hi => ?_)
    obtain ⟨h1, h2⟩ := hi
    simp only [vx, vz, Nat.reduceAdd, Nat.reduceSub, Nat.reduceMul, Nat.reduceLeDiff, Nat.reduceLT, Nat.reduceEqDiff, Nat.reduceBEq, Int.reduceToNat, Int.reduceNeg, Int.reduceEq, Int.reduceNe, Int.reduceLE, Int.reduceLT, reduceCtorEq, ↓reduceIte]
    refine cond_split (fun hc => ?_) (fun hc => ?_)
    · simp only [decide_eq_true_eq] at hc
      obtain ⟨x, hx⟩ := get_ex (l := a) (i := i) (by omega)
      obtain ⟨y, hy⟩ := get_ex (l := b) (i := i) (by omega)
      simp only [vx, vz, Nat.reduceAdd, Nat.reduceSub, Nat.reduceMul, Nat.reduceLeDiff, Nat.reduceLT, Nat.reduceEqDiff, Nat.reduceBEq, Int.reduceToNat, Int.reduceNeg, Int.reduceEq, Int.reduceNe, Int.reduceLE, Int.reduceLT, reduceCtorEq, ↓reduceIte]
      refine c_quiet rfl ?_
      simp only [vx, vz, Nat.reduceAdd, Nat.reduceSub, Nat.reduceMul, Nat.reduceLeDiff, Nat.reduceLT, Nat.reduceEqDiff, Nat.reduceBEq, Int.reduceToNat, Int.reduceNeg, Int.reduceEq, Int.reduceNe, Int.reduceLE, Int.reduceLT, reduceCtorEq, ↓reduceIte]
      refine ⟨by omega, by omega, getM_at hx ?_⟩
      simp only [vx, vz, Nat.reduceAdd, Nat.reduceSub, Nat.reduceMul, Nat.reduceLeDiff, Nat.reduceLT, Nat.reduceEqDiff, Nat.reduceBEq, Int.reduceToNat, Int.reduceNeg, Int.reduceEq, Int.reduceNe, Int.reduceLE, Int.reduceLT, reduceCtorEq, ↓reduceIte]
      simp only [vx, vz, Nat.reduceAdd, Nat.reduceSub, Nat.reduceMul, Nat.reduceLeDiff, Nat.reduceLT, Nat.reduceEqDiff, Nat.reduceBEq, Int.reduceToNat, Int.reduceNeg, Int.reduceEq, Int.reduceNe, Int.reduceLE, Int.reduceLT, reduceCtorEq, ↓reduceIte, iD]
      refine ⟨by omega, by omega, getM_at hy ?_⟩
      simp only [vx, vz, Nat.reduceAdd, Nat.reduceSub, Nat.reduceMul, Nat.reduceLeDiff, Nat.reduceLT, Nat.reduceEqDiff, Nat.reduceBEq, Int.reduceToNat, Int.reduceNeg, Int.reduceEq, Int.reduceNe, Int.reduceLE, Int.reduceLT, reduceCtorEq, ↓reduceIte]
      simp only [vx, vz, Nat.reduceAdd, Nat.reduceSub, Nat.reduceMul, Nat.reduceLeDiff, Nat.reduceLT, Nat.reduceEqDiff, Nat.reduceBEq, Int.reduceToNat, Int.reduceNeg, Int.reduceEq, Int.reduceNe, Int.reduceLE, Int.reduceLT, reduceCtorEq, ↓reduceIte, iD]
      by_cases hxy : x = y
      · simp only [vx, vz, Nat.reduceAdd, Nat.reduceSub, Nat.reduceMul, Nat.reduceLeDiff, Nat.reduceLT, Nat.reduceEqDiff, Nat.reduceBEq, Int.reduceToNat, Int.reduceNeg, Int.reduceEq, Int.reduceNe, Int.reduceLE, Int.reduceLT, reduceCtorEq, ↓reduceIte, decide_not, dt hxy]
        refine ls_n (i + 1) (by omega) (weak_any ?_) ⟨by omega, by rw [take_at hx, take_at hy, h2, hxy]⟩
        simp only [vx, vz, Nat.reduceAdd, Nat.reduceSub, Nat.reduceMul, Nat.reduceLeDiff, Nat.reduceLT, Nat.reduceEqDiff, Nat.reduceBEq, Int.reduceToNat, Int.reduceNeg, Int.reduceEq, Int.reduceNe, Int.reduceLE, Int.reduceLT, reduceCtorEq, ↓reduceIte]
        rw [wr_i64 (by omega) (by omega)]
        first | trivial | exact ⟨rfl, rfl⟩
      · simp only [vx, vz, Nat.reduceAdd, Nat.reduceSub, Nat.reduceMul, Nat.reduceLeDiff, Nat.reduceLT, Nat.reduceEqDiff, Nat.reduceBEq, Int.reduceToNat, Int.reduceNeg, Int.reduceEq, Int.reduceNe, Int.reduceLE, Int.reduceLT, reduceCtorEq, ↓reduceIte, decide_not, df hxy]
        rw [df (show ¬ a = b from fun e => hxy (by rw [e] at hx; rw [hx] at hy; injection hy))]
    · simp only [decide_eq_false_iff_not] at hc
      rw [take_end (by omega), take_end (by omega)] at h2
      simp only [vx, vz, Nat.reduceAdd, Nat.reduceSub, Nat.reduceMul, Nat.reduceLeDiff, Nat.reduceLT, Nat.reduceEqDiff, Nat.reduceBEq, Int.reduceToNat, Int.reduceNeg, Int.reduceEq, Int.reduceNe, Int.reduceLE, Int.reduceLT, reduceCtorEq, ↓reduceIte, dt h2]
      first | done | rfl
  · rw [df (show ¬ a = b from fun e => hab (by rw [e]))]
    simp only [vx, vz, Nat.reduceAdd, Nat.reduceSub, Nat.reduceMul, Nat.reduceLeDiff, Nat.reduceLT, Nat.reduceEqDiff, Nat.reduceBEq, Int.reduceToNat, Int.reduceNeg, Int.reduceEq, Int.reduceNe, Int.reduceLE, Int.reduceLT, reduceCtorEq, ↓reduceIte, decide_not, df hab]
end Go.Proofs.Mn

namespace Go.Proofs.Mn
open Go.Vx
/-- is an offer withdrawn or changed in the cycle u + 1? -/
def brkS (w : Wv) (c : Chn) (u : Nat) : Bool := (!decide (valS w c.va u = 0) && decide (valS w c.rd u = 0)) && (decide (valS w c.va (u + 1 : Nat) = 0) || !decide (flds w c u = flds w c (u + 1 : Nat)))
theorem t39 (w : Wv) (c : Chn) (u : Nat) (okc : okC c) (hv : vldW w = true) (hk : knwS w c = true) (ht : u + 1 < w.rs.length) (hrl : w.rs.length ≤ maxLen) : CallP Tryd.prog 39 [vwV w c, .d (.int .i64 (u + 1 : Nat))] (.d (.bool (brkS w c u))) := by
  have hm := hm; have hL := mL; have hl := okc.fl
  have e1 : IntKind.i64.wrap (((u + 1 : Nat) : Int) - 1) = u := by rw [wr_i64 (by omega) (by omega)]; omega
  have hfl : ∀ t, (flds w c t).length = c.fs.length := fun t => by rw [flds, List.length_map]
  unfold brkS
  refine go39 ac39 rfl ?_
  simp only [vx, vz, Nat.reduceAdd, Nat.reduceSub, Nat.reduceMul, Nat.reduceLeDiff, Nat.reduceLT, Nat.reduceEqDiff, Nat.reduceBEq, Int.reduceToNat, Int.reduceNeg, Int.reduceEq, Int.reduceNe, Int.reduceLE, Int.reduceLT, reduceCtorEq, ↓reduceIte, ac39, e1]
  refine call_p rfl (t48 w c u hv hk (by omega)) ?_
  simp only [vx, vz, Nat.reduceAdd, Nat.reduceSub, Nat.reduceMul, Nat.reduceLeDiff, Nat.reduceLT, Nat.reduceEqDiff, Nat.reduceBEq, Int.reduceToNat, Int.reduceNeg, Int.reduceEq, Int.reduceNe, Int.reduceLE, Int.reduceLT, reduceCtorEq, ↓reduceIte]
  cases decide (valS w c.va u = 0) with
  | true =>
    simp only [vx, vz, Nat.reduceAdd, Nat.reduceSub, Nat.reduceMul, Nat.reduceLeDiff, Nat.reduceLT, Nat.reduceEqDiff, Nat.reduceBEq, Int.reduceToNat, Int.reduceNeg, Int.reduceEq, Int.reduceNe, Int.reduceLE, Int.reduceLT, reduceCtorEq, ↓reduceIte, Bool.not_true, Bool.false_and]
    refine c_draw ?_
    simp only [vx, vz, Nat.reduceAdd, Nat.reduceSub, Nat.reduceMul, Nat.reduceLeDiff, Nat.reduceLT, Nat.reduceEqDiff, Nat.reduceBEq, Int.reduceToNat, Int.reduceNeg, Int.reduceEq, Int.reduceNe, Int.reduceLE, Int.reduceLT, reduceCtorEq, ↓reduceIte]
    repeat (refine d_k rfl rfl ?_; simp only [vx, vz, Nat.reduceAdd, Nat.reduceSub, Nat.reduceMul, Nat.reduceLeDiff, Nat.reduceLT, Nat.reduceEqDiff, Nat.reduceBEq, Int.reduceToNat, Int.reduceNeg, Int.reduceEq, Int.reduceNe, Int.reduceLE, Int.reduceLT, reduceCtorEq, ↓reduceIte])
  | false =>
    simp only [vx, vz, Nat.reduceAdd, Nat.reduceSub, Nat.reduceMul, Nat.reduceLeDiff, Nat.reduceLT, Nat.reduceEqDiff, Nat.reduceBEq, Int.reduceToNat, Int.reduceNeg, Int.reduceEq, Int.reduceNe, Int.reduceLE, Int.reduceLT, reduceCtorEq, ↓reduceIte, Bool.not_false, Bool.true_and, e1]
    refine call_p rfl (t49 w c u hv hk (by omega)) ?_
    simp only [vx, vz, Nat.reduceAdd, Nat.reduceSub, Nat.reduceMul, Nat.reduceLeDiff, Nat.reduceLT, Nat.reduceEqDiff, Nat.reduceBEq, Int.reduceToNat, Int.reduceNeg, Int.reduceEq, Int.reduceNe, Int.reduceLE, Int.reduceLT, reduceCtorEq, ↓reduceIte]
    cases decide (valS w c.rd u = 0) with
    | false =>
      simp only [vx, vz, Nat.reduceAdd, Nat.reduceSub, Nat.reduceMul, Nat.reduceLeDiff, Nat.reduceLT, Nat.reduceEqDiff, Nat.reduceBEq, Int.reduceToNat, Int.reduceNeg, Int.reduceEq, Int.reduceNe, Int.reduceLE, Int.reduceLT, reduceCtorEq, ↓reduceIte, Bool.not_false, Bool.false_and, Bool.not_true]
      refine c_draw ?_
      simp only [vx, vz, Nat.reduceAdd, Nat.reduceSub, Nat.reduceMul, Nat.reduceLeDiff, Nat.reduceLT, Nat.reduceEqDiff, Nat.reduceBEq, Int.reduceToNat, Int.reduceNeg, Int.reduceEq, Int.reduceNe, Int.reduceLE, Int.reduceLT, reduceCtorEq, ↓reduceIte]
      repeat (refine d_k rfl rfl ?_; simp only [vx, vz, Nat.reduceAdd, Nat.reduceSub, Nat.reduceMul, Nat.reduceLeDiff, Nat.reduceLT, Nat.reduceEqDiff, Nat.reduceBEq, Int.reduceToNat, Int.reduceNeg, Int.reduceEq, Int.reduceNe, Int.reduceLE, Int.reduceLT, reduceCtorEq, ↓reduceIte])
    | true =>
      simp only [vx, vz, Nat.reduceAdd, Nat.reduceSub, Nat.reduceMul, Nat.reduceLeDiff, Nat.reduceLT, Nat.reduceEqDiff, Nat.reduceBEq, Int.reduceToNat, Int.reduceNeg, Int.reduceEq, Int.reduceNe, Int.reduceLE, Int.reduceLT, reduceCtorEq, ↓reduceIte, Bool.not_true, Bool.true_and, Bool.not_false]
      refine c_draw ?_
      simp only [vx, vz, Nat.reduceAdd, Nat.reduceSub, Nat.reduceMul, Nat.reduceLeDiff, Nat.reduceLT, Nat.reduceEqDiff, Nat.reduceBEq, Int.reduceToNat, Int.reduceNeg, Int.reduceEq, Int.reduceNe, Int.reduceLE, Int.reduceLT, reduceCtorEq, ↓reduceIte]
      repeat (refine d_k rfl rfl ?_; simp only [vx, vz, Nat.reduceAdd, Nat.reduceSub, Nat.reduceMul, Nat.reduceLeDiff, Nat.reduceLT, Nat.reduceEqDiff, Nat.reduceBEq, Int.reduceToNat, Int.reduceNeg, Int.reduceEq, Int.reduceNe, Int.reduceLE, Int.reduceLT, reduceCtorEq, ↓reduceIte])
      refine call_p rfl (t48 w c (u + 1) hv hk ht) ?_
      repeat (refine d_k rfl rfl ?_; simp only [vx, vz, Nat.reduceAdd, Nat.reduceSub, Nat.reduceMul, Nat.reduceLeDiff, Nat.reduceLT, Nat.reduceEqDiff, Nat.reduceBEq, Int.reduceToNat, Int.reduceNeg, Int.reduceEq, Int.reduceNe, Int.reduceLE, Int.reduceLT, reduceCtorEq, ↓reduceIte])
      cases decide (valS w c.va (u + 1 : Nat) = 0) with
      | true =>
        simp only [vx, vz, Nat.reduceAdd, Nat.reduceSub, Nat.reduceMul, Nat.reduceLeDiff, Nat.reduceLT, Nat.reduceEqDiff, Nat.reduceBEq, Int.reduceToNat, Int.reduceNeg, Int.reduceEq, Int.reduceNe, Int.reduceLE, Int.reduceLT, reduceCtorEq, ↓reduceIte, Bool.not_false, Bool.not_true, Bool.true_or]
        repeat (refine d_k rfl rfl ?_; simp only [vx, vz, Nat.reduceAdd, Nat.reduceSub, Nat.reduceMul, Nat.reduceLeDiff, Nat.reduceLT, Nat.reduceEqDiff, Nat.reduceBEq, Int.reduceToNat, Int.reduceNeg, Int.reduceEq, Int.reduceNe, Int.reduceLE, Int.reduceLT, reduceCtorEq, ↓reduceIte])
      | false =>
        simp only [vx, vz, Nat.reduceAdd, Nat.reduceSub, Nat.reduceMul, Nat.reduceLeDiff, Nat.reduceLT, Nat.reduceEqDiff, Nat.reduceBEq, Int.reduceToNat, Int.reduceNeg, Int.reduceEq, Int.reduceNe, Int.reduceLE, Int.reduceLT, reduceCtorEq, ↓reduceIte, Bool.not_false, Bool.not_true, Bool.false_or]
        repeat (refine d_k rfl rfl ?_; simp only [vx, vz, Nat.reduceAdd, Nat.reduceSub, Nat.reduceMul, Nat.reduceLeDiff, Nat.reduceLT, Nat.reduceEqDiff, Nat.reduceBEq, Int.reduceToNat, Int.reduceNeg, Int.reduceEq, Int.reduceNe, Int.reduceLE, Int.reduceLT, reduceCtorEq, ↓reduceIte])
        rw [e1]
        refine call_p rfl (t50 w c u okc hv hk (by omega)) ?_
        repeat (refine d_k rfl rfl ?_; simp only [vx, vz, Nat.reduceAdd, Nat.reduceSub, Nat.reduceMul, Nat.reduceLeDiff, Nat.reduceLT, Nat.reduceEqDiff, Nat.reduceBEq, Int.reduceToNat, Int.reduceNeg, Int.reduceEq, Int.reduceNe, Int.reduceLE, Int.reduceLT, reduceCtorEq, ↓reduceIte])
        refine call_p rfl (t50 w c (u + 1) okc hv hk ht) ?_
        repeat (refine d_k rfl rfl ?_; simp only [vx, vz, Nat.reduceAdd, Nat.reduceSub, Nat.reduceMul, Nat.reduceLeDiff, Nat.reduceLT, Nat.reduceEqDiff, Nat.reduceBEq, Int.reduceToNat, Int.reduceNeg, Int.reduceEq, Int.reduceNe, Int.reduceLE, Int.reduceLT, reduceCtorEq, ↓reduceIte])
        refine call_p rfl (t59 (flds w c u) (flds w c (u + 1 : Nat)) (by rw [hfl]; omega) (by rw [hfl]; omega)) ?_
        repeat (refine d_k rfl rfl ?_; simp only [vx, vz, Nat.reduceAdd, Nat.reduceSub, Nat.reduceMul, Nat.reduceLeDiff, Nat.reduceLT, Nat.reduceEqDiff, Nat.reduceBEq, Int.reduceToNat, Int.reduceNeg, Int.reduceEq, Int.reduceNe, Int.reduceLE, Int.reduceLT, reduceCtorEq, ↓reduceIte])
end Go.Proofs.Mn
