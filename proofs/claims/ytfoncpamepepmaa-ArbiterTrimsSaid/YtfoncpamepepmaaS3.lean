import Derived.Test.YtfoncpamepepmaaS2
set_option linter.unusedSimpArgs false
set_option linter.unusedVariables false
namespace Go.Proofs.Ar
open Go.Vx
def wkAt : Nat → AC → AC
  | 0, a => .wk a
  | n + 1, .seq a b => .seq a (wkAt n b)
  | _, a => a
theorem weak_frzA {b0 : Nat} {fr fr' : List V} {A T A' : Go.Vx.Rows} (hm : b0 ≤ A.length) (hA : rowsK A.length (A ++ T) A A') (hk : kpL A.length (A ++ T) fr fr') : Weak b0 ⟨fr, A ++ T⟩ ⟨fr', A'⟩ :=
  weak_frz2 A.length hm (by rw [List.take_left]; exact hA) hk
theorem rowsK_same {m : Nat} {rows l : Go.Vx.Rows} (h : ∀ r ∈ l, rowB m r) : rowsK m rows l l := by
  induction l with
  | nil => trivial
  | cons r l ih => exact ⟨.same _ (h r (by simp)), ih fun x hx => h x (by simp [hx])⟩
theorem laneR_B {m : Nat} {ls : List (List Sl × Nat)} : ∀ r ∈ ls.map laneR, rowB m r := fun r hr => by
  obtain ⟨p, _, rfl⟩ := List.mem_map.1 hr
  simp [laneR, rowB, hB]
theorem ptR_B {m n : Nat} (h : n + 2 ≤ m) : rowB m (ptR n n) := by
  intro e he v hv
  obtain ⟨j, hj, rfl⟩ := List.mem_map.1 he
  have hj := List.mem_range.1 hj
  rw [ptC, if_pos hj] at hv
  simp at hv; subst hv
  simp [hB]; omega
theorem row_lane {r0 r1 : RowS} {ls : List (List Sl × Nat)} {T : Go.Vx.Rows} {i : Nat} {p : List Sl × Nat} (h : ls[i]? = some p) : (r0 :: r1 :: (ls.map laneR ++ T))[i + 2]? = some (laneR p) := by
  have hi := (List.getElem?_eq_some_iff.1 h).1
  simp only [List.getElem?_cons_succ]
  rw [List.getElem?_append_left (by simpa using hi), List.getElem?_map, h]; rfl
theorem row_lane0 {r0 r1 : RowS} {ls : List (List Sl × Nat)} {i : Nat} {p : List Sl × Nat} (h : ls[i]? = some p) : (r0 :: r1 :: ls.map laneR)[i + 2]? = some (laneR p) := by
  have := row_lane (r0 := r0) (r1 := r1) (T := []) h
  rwa [List.append_nil] at this
theorem snapOk_lane {rows : Go.Vx.Rows} {h : Nat} {p : List Sl × Nat} (hr : rows[h]? = some (laneR p)) : snapOk rows (.optr 2 h 1 0 0) := by
  refine ⟨_, _, hr, rfl, rfl, by simp, ?_⟩
  intro v hv
  simp at hv
  rcases hv with rfl | rfl <;> rfl
theorem snapV_lane {rows : Go.Vx.Rows} {h : Nat} {p : List Sl × Nat} (hr : rows[h]? = some (laneR p)) : snapV rows (.optr 2 h 1 0 0) = lnP p := by
  simp only [snapV, snapC, hr, laneR]
  rfl
def roundS (l : List (List Sl)) (k : Nat) : List Sl := l.filterMap fun s => s[k]?
def outT (l : List (List Sl)) (k : Nat) : List Sl := (List.range k).flatMap (roundS l)
def lnK (k : Nat) (s : List Sl) : List Sl × Nat := (s, min k s.length)
def lnI (l : List (List Sl)) (k i : Nat) : List (List Sl × Nat) := (l.take i).map (lnK (k + 1)) ++ (l.drop i).map (lnK k)
theorem lnI_len {l : List (List Sl)} {k i : Nat} (h : i ≤ l.length) : (lnI l k i).length = l.length := by simp [lnI]; omega
theorem lnI_zero {l : List (List Sl)} {k : Nat} : lnI l k 0 = l.map (lnK k) := by simp [lnI]
theorem lnI_end {l : List (List Sl)} {k i : Nat} (h : l.length ≤ i) : lnI l k i = l.map (lnK (k + 1)) := by rw [lnI, take_end h, drop_end h]; simp
theorem lnI_at {l : List (List Sl)} {k i : Nat} {s : List Sl} (h : l[i]? = some s) : (lnI l k i)[i]? = some (lnK k s) := by
  have hi := (List.getElem?_eq_some_iff.1 h).1
  rw [lnI, drop_at h, List.getElem?_append_right (by simp; omega)]
  simp; rw [Nat.min_eq_left (by omega), Nat.sub_self]; rfl
theorem lnI_set {l : List (List Sl)} {k i : Nat} {s : List Sl} (h : l[i]? = some s) : (lnI l k i).set i (lnK (k + 1) s) = lnI l k (i + 1) := by
  have hi := (List.getElem?_eq_some_iff.1 h).1
  rw [lnI, lnI, drop_at h, take_at h, List.map_append, List.map_cons, List.set_append_right _ _ (by simp; omega)]
  have : i - ((l.take i).map (lnK (k + 1))).length = 0 := by simp; omega
  rw [this, List.set_cons_zero, List.append_assoc]; rfl
theorem lnI_skip {l : List (List Sl)} {k i : Nat} {s : List Sl} (h : l[i]? = some s) (hs : s.length ≤ k) : lnI l k (i + 1) = lnI l k i := by
  rw [← lnI_set h, show lnK (k + 1) s = lnK k s by rw [lnK, lnK, Nat.min_eq_right (by omega), Nat.min_eq_right (by omega)]]
  refine List.ext_getElem? fun j => ?_
  rw [List.getElem?_set]
  split
  · next e => subst e; rw [lnI_at h]; rw [lnI_len (by have := (List.getElem?_eq_some_iff.1 h).1; omega), if_pos (List.getElem?_eq_some_iff.1 h).1]
  · rfl
theorem round_snoc {l : List (List Sl)} {k i : Nat} {s : List Sl} (h : l[i]? = some s) : roundS (l.take (i + 1)) k = roundS (l.take i) k ++ (match s[k]? with | some x => [x] | none => []) := by
  rw [take_at h, roundS, roundS, List.filterMap_append]
  cases hk : s[k]? <;> simp [hk]
theorem outT_succ {l : List (List Sl)} {k : Nat} : outT l (k + 1) = outT l k ++ roundS l k := by
  rw [outT, List.range_succ, List.flatMap_append]; simp [outT]
theorem long_mem {l : List (List Sl)} {n : Nat} {s : List Sl} (h : s ∈ l) : s.length ≤ l.foldl (fun n s => max n s.length) n ∧ n ≤ l.foldl (fun n s => max n s.length) n := by
  induction l generalizing n with
  | nil => cases h
  | cons x l ih =>
    rw [List.foldl_cons]
    have hmono : ∀ (l : List (List Sl)) (n : Nat), n ≤ l.foldl (fun n s => max n s.length) n := by
      intro l
      induction l with
      | nil => intro n; exact Nat.le_refl _
      | cons y l ih => intro n; rw [List.foldl_cons]; have := ih (max n y.length); omega
    have h2 := hmono l (max n x.length)
    rcases List.mem_cons.1 h with rfl | h
    · exact ⟨by omega, by omega⟩
    · have := ih (n := max n x.length) h
      exact ⟨this.1, by omega⟩
theorem long_le {l : List (List Sl)} (h : okL l) : longS l ≤ 20 := by
  have : ∀ (l : List (List Sl)) (n : Nat), n ≤ 20 → (∀ s ∈ l, s.length ≤ 20) → l.foldl (fun n s => max n s.length) n ≤ 20 := by
    intro l
    induction l with
    | nil => intro n hn _; exact hn
    | cons x l ih =>
      intro n hn hl
      rw [List.foldl_cons]
      have := hl x (by simp)
      exact ih _ (by omega) (fun s hs => hl s (by simp [hs]))
  exact this l 0 (by omega) (fun s hs => (h.2 s hs).1)
theorem round_len {l : List (List Sl)} {k i : Nat} : (roundS (l.take i) k).length ≤ l.length := by
  refine Nat.le_trans (List.length_filterMap_le _ _) ?_
  rw [List.length_take]; omega
theorem outT_len {l : List (List Sl)} (h : okL l) : ∀ k, (outT l k).length ≤ 20 * k := by
  intro k
  induction k with
  | zero => simp [outT]
  | succ k ih =>
    rw [outT_succ, List.length_append]
    have := round_len (l := l) (k := k) (i := l.length)
    rw [take_end (Nat.le_refl _)] at this
    have := h.1
    omega
theorem dE {a b : D} : dataE [[.d a, .d b]] := by
  intro e he v hv
  simp at he; subst he
  simp at hv
  rcases hv with rfl | rfl <;> rfl
theorem setAt_lane {ls : List (List Sl × Nat)} {B : Go.Vx.Rows} {i k : Nat} {s : List Sl} (h : i < ls.length) : setAt (ls.map laneR ++ B) i (.live 2 [[.d (.sl 4 (s.map slD)), .d (.int .i64 (k : Nat))]]) = (ls.set i (s, k)).map laneR ++ B := by
  induction ls generalizing i with
  | nil => simp at h
  | cons a ls ih => cases i with
    | zero => rfl
    | succ i => exact congrArg (laneR a :: ·) (ih (by simpa using h))
theorem fin_lnK {k : Nat} {s : List Sl} : finS (lnK k s) = decide (s.length ≤ k) := decide_eq_decide.2 (by
  show s.length ≤ min k s.length ↔ s.length ≤ k
  omega)
theorem t11 (l : List (List Sl)) (hl : okL l) : CallP Try.prog 11 [llV l] (stV (outT l (longS l))) := by
  have hm := hm
  have hl1 := hl.1
  refine go11 (wkAt 2 (AC.at (AC.look [false, true, false]) [1, 1, 0] ac11)) rfl ?_
  simp only [vx, vz, Nat.reduceAdd, Nat.reduceSub, Nat.reduceMul, Nat.reduceLeDiff, Nat.reduceLT, Nat.reduceEqDiff, Nat.reduceBEq, Int.reduceToNat, Int.reduceNeg, Int.reduceEq, Int.reduceNe, Int.reduceLE, Int.reduceLT, reduceCtorEq, ↓reduceIte, ac11, wkAt, AC.at, AC.look]
  refine wk_in ⟨mkF 30 [(0, llV l), (3, .osl 4 0 0 0 0)], [.live 4 []]⟩ (Weak.trans (weak_nils 3 4 rfl) (weak_any (by simp only [vx, vz, Nat.reduceAdd, Nat.reduceSub, Nat.reduceMul, Nat.reduceLeDiff, Nat.reduceLT, Nat.reduceEqDiff, Nat.reduceBEq, Int.reduceToNat, Int.reduceNeg, Int.reduceEq, Int.reduceNe, Int.reduceLE, Int.reduceLT, reduceCtorEq, ↓reduceIte]; try trivial))) ?_
  simp only [vx, vz, Nat.reduceAdd, Nat.reduceSub, Nat.reduceMul, Nat.reduceLeDiff, Nat.reduceLT, Nat.reduceEqDiff, Nat.reduceBEq, Int.reduceToNat, Int.reduceNeg, Int.reduceEq, Int.reduceNe, Int.reduceLE, Int.reduceLT, reduceCtorEq, ↓reduceIte]
  refine call_i (t27 l hl ?_)
  simp only [vx, vz, Nat.reduceAdd, Nat.reduceSub, Nat.reduceMul, Nat.reduceLeDiff, Nat.reduceLT, Nat.reduceEqDiff, Nat.reduceBEq, Int.reduceToNat, Int.reduceNeg, Int.reduceEq, Int.reduceNe, Int.reduceLE, Int.reduceLT, reduceCtorEq, ↓reduceIte]
  refine call_p rfl (t28 l hl) ?_
  simp only [vx, vz, Nat.reduceAdd, Nat.reduceSub, Nat.reduceMul, Nat.reduceLeDiff, Nat.reduceLT, Nat.reduceEqDiff, Nat.reduceBEq, Int.reduceToNat, Int.reduceNeg, Int.reduceEq, Int.reduceNe, Int.reduceLE, Int.reduceLT, reduceCtorEq, ↓reduceIte]
  have hlg := long_le hl
  have e0 : (l.map ln0).map laneR = (l.map (lnK 0)).map laneR := by
    congr 1
  rw [e0]
  refine loop_st (fun k : Nat => ⟨mkF 30 [(3, .osl 4 0 (outT l k).length 0 (outT l k).length), (4, .osl 1 1 l.length 0 l.length), (10, .d (.int .i64 (longS l))), (11, .d (.int .i64 k))], .live 4 (((outT l k).map slD).map (·.map .d)) :: ptR l.length l.length :: (l.map (lnK k)).map laneR⟩) (fun k => k ≤ longS l) (fun k => longS l - k) 0 (weak_any (by simp only [vx, vz, Nat.reduceAdd, Nat.reduceSub, Nat.reduceMul, Nat.reduceLeDiff, Nat.reduceLT, Nat.reduceEqDiff, Nat.reduceBEq, Int.reduceToNat, Int.reduceNeg, Int.reduceEq, Int.reduceNe, Int.reduceLE, Int.reduceLT, reduceCtorEq, ↓reduceIte]; try trivial)) (by omega) (fun k hk => ?_)
  simp only [vx, vz, Nat.reduceAdd, Nat.reduceSub, Nat.reduceMul, Nat.reduceLeDiff, Nat.reduceLT, Nat.reduceEqDiff, Nat.reduceBEq, Int.reduceToNat, Int.reduceNeg, Int.reduceEq, Int.reduceNe, Int.reduceLE, Int.reduceLT, reduceCtorEq, ↓reduceIte]
  refine cond_split (fun hc => ?_) (fun hc => ?_)
  · simp only [decide_eq_true_eq] at hc
    have hok := outT_len hl k
    simp only [vx, vz, Nat.reduceAdd, Nat.reduceSub, Nat.reduceMul, Nat.reduceLeDiff, Nat.reduceLT, Nat.reduceEqDiff, Nat.reduceBEq, Int.reduceToNat, Int.reduceNeg, Int.reduceEq, Int.reduceNe, Int.reduceLE, Int.reduceLT, reduceCtorEq, ↓reduceIte, ptR, List.length_range]
    refine loop_st (fun i : Nat => ⟨mkF 30 [(3, .osl 4 0 (outT l k ++ roundS (l.take i) k).length 0 (outT l k ++ roundS (l.take i) k).length), (4, .osl 1 1 l.length 0 l.length), (10, .d (.int .i64 (longS l))), (11, .d (.int .i64 k)), (13, .osl 1 1 l.length 0 l.length), (14, .d (.int .i64 l.length)), (15, .d (.int .i64 i))], .live 4 (((outT l k ++ roundS (l.take i) k).map slD).map (·.map .d)) :: ptR l.length l.length :: (lnI l k i).map laneR⟩) (fun i => i ≤ l.length) (fun i => l.length - i) 0 (by
      have e : outT l k ++ roundS (l.take 0) k = outT l k := by simp [roundS]
      simp only [e, lnI_zero]
      exact weak_any (by simp only [vx, vz, Nat.reduceAdd, Nat.reduceSub, Nat.reduceMul, Nat.reduceLeDiff, Nat.reduceLT, Nat.reduceEqDiff, Nat.reduceBEq, Int.reduceToNat, Int.reduceNeg, Int.reduceEq, Int.reduceNe, Int.reduceLE, Int.reduceLT, reduceCtorEq, ↓reduceIte]; try trivial)) (by omega) (fun i hi => ?_)
    have hrl := round_len (l := l) (k := k) (i := i)
    have hll := lnI_len (l := l) (k := k) hi
    simp only [vx, vz, Nat.reduceAdd, Nat.reduceSub, Nat.reduceMul, Nat.reduceLeDiff, Nat.reduceLT, Nat.reduceEqDiff, Nat.reduceBEq, Int.reduceToNat, Int.reduceNeg, Int.reduceEq, Int.reduceNe, Int.reduceLE, Int.reduceLT, reduceCtorEq, ↓reduceIte, ptR, List.length_range]
    refine cond_split (fun hc2 => ?_) (fun hc2 => ?_)
    · simp only [decide_eq_true_eq] at hc2
      obtain ⟨s, hs⟩ := get_ex (l := l) (i := i) (by omega)
      have hsl := hl.2 s (List.mem_of_getElem? hs)
      have hat := lnI_at (k := k) hs
      simp only [vx, vz, Nat.reduceAdd, Nat.reduceSub, Nat.reduceMul, Nat.reduceLeDiff, Nat.reduceLT, Nat.reduceEqDiff, Nat.reduceBEq, Int.reduceToNat, Int.reduceNeg, Int.reduceEq, Int.reduceNe, Int.reduceLE, Int.reduceLT, reduceCtorEq, ↓reduceIte]
      refine ⟨by omega, by omega, by simp, by simp, getM_nat (x := i) (List.getElem?_range (by omega)) ?_⟩
      simp only [vx, vz, Nat.reduceAdd, Nat.reduceSub, Nat.reduceMul, Nat.reduceLeDiff, Nat.reduceLT, Nat.reduceEqDiff, Nat.reduceBEq, Int.reduceToNat, Int.reduceNeg, Int.reduceEq, Int.reduceNe, Int.reduceLE, Int.reduceLT, reduceCtorEq, ↓reduceIte, ptC]
      rw [if_pos (by omega)]
      simp only [vx, vz, Nat.reduceAdd, Nat.reduceSub, Nat.reduceMul, Nat.reduceLeDiff, Nat.reduceLT, Nat.reduceEqDiff, Nat.reduceBEq, Int.reduceToNat, Int.reduceNeg, Int.reduceEq, Int.reduceNe, Int.reduceLE, Int.reduceLT, reduceCtorEq, ↓reduceIte]
      refine call_s (v := .d (.bool (finS (lnK k s)))) ?_ rfl ?_ ?_
      · intro x hx
        simp only [List.nil_append, List.append_nil, List.mem_cons, List.not_mem_nil, or_false] at hx
        subst hx
        exact snapOk_lane (row_lane0 hat)
      · simp only [List.nil_append, List.append_nil, List.map_cons, List.map_nil, snapV_lane (row_lane0 hat)]
        exact t29 _
      simp only [vx, vz, Nat.reduceAdd, Nat.reduceSub, Nat.reduceMul, Nat.reduceLeDiff, Nat.reduceLT, Nat.reduceEqDiff, Nat.reduceBEq, Int.reduceToNat, Int.reduceNeg, Int.reduceEq, Int.reduceNe, Int.reduceLE, Int.reduceLT, reduceCtorEq, ↓reduceIte]
      cases hf : finS (lnK k s) with
      | true =>
        have hf : s.length ≤ k := by rw [fin_lnK] at hf; exact of_decide_eq_true hf
        have er : roundS (l.take (i + 1)) k = roundS (l.take i) k := by rw [round_snoc hs, List.getElem?_eq_none hf]; simp
        simp only [vx, vz, Nat.reduceAdd, Nat.reduceSub, Nat.reduceMul, Nat.reduceLeDiff, Nat.reduceLT, Nat.reduceEqDiff, Nat.reduceBEq, Int.reduceToNat, Int.reduceNeg, Int.reduceEq, Int.reduceNe, Int.reduceLE, Int.reduceLT, reduceCtorEq, ↓reduceIte]
        refine ls_n (i + 1) (by omega) ?_ (by omega)
        simp only [er, lnI_skip hs hf]
        refine weak_any ?_
        simp only [vx, vz, Nat.reduceAdd, Nat.reduceSub, Nat.reduceMul, Nat.reduceLeDiff, Nat.reduceLT, Nat.reduceEqDiff, Nat.reduceBEq, Int.reduceToNat, Int.reduceNeg, Int.reduceEq, Int.reduceNe, Int.reduceLE, Int.reduceLT, reduceCtorEq, ↓reduceIte]
        rw [wr_i64 (by omega) (by omega)]
        trivial
      | false =>
        have hf : k < s.length := by rw [fin_lnK] at hf; have := of_decide_eq_false hf; omega
        obtain ⟨x, hx⟩ := get_ex (l := s) (i := k) hf
        have er : roundS (l.take (i + 1)) k = roundS (l.take i) k ++ [x] := by rw [round_snoc hs, hx]
        have hmin : min k s.length = k := by omega
        have hmin2 : min (k + 1) s.length = k + 1 := by omega
        simp only [vx, vz, Nat.reduceAdd, Nat.reduceSub, Nat.reduceMul, Nat.reduceLeDiff, Nat.reduceLT, Nat.reduceEqDiff, Nat.reduceBEq, Int.reduceToNat, Int.reduceNeg, Int.reduceEq, Int.reduceNe, Int.reduceLE, Int.reduceLT, reduceCtorEq, ↓reduceIte]
        have hat' : (lnI l k i)[i]? = some (s, k) := by rw [hat, lnK, hmin]
        refine call_m (i + 2) (vals0 := [.optr 2 0 1 0 0]) (es' := [[.d (.sl 4 (s.map slD)), .d (.int .i64 (k + 1 : Nat))]]) rfl rfl (by simp [hAll, hOf1]) (row_lane hat') dE dE rfl (t30 (s, k) x hx (by simp only; omega) (hsl.2 x (List.mem_of_getElem? hx))) ?_
        rw [show renH (i + 2) (slV x) = slV x from rfl]
        have hset : (lnI l k i).set i (s, k + 1) = lnI l k (i + 1) := by
          rw [← lnI_set hs, lnK, hmin2]
        have hll2 := lnI_len (l := l) (k := k) (i := i + 1) (by omega)
        simp only [vx, vz, Nat.reduceAdd, Nat.reduceSub, Nat.reduceMul, Nat.reduceLeDiff, Nat.reduceLT, Nat.reduceEqDiff, Nat.reduceBEq, Int.reduceToNat, Int.reduceNeg, Int.reduceEq, Int.reduceNe, Int.reduceLE, Int.reduceLT, reduceCtorEq, ↓reduceIte]
        rw [setAt_lane (by omega), hset]
        have r0 : ∀ B : Go.Vx.Rows, Go.Vx.rowAt ((lnI l k (i + 1)).map laneR ++ B) (lnI l k i).length = Go.Vx.rowAt B 0 := fun B => rowAt_app (by simp; omega)
        have r1 : ∀ B : Go.Vx.Rows, Go.Vx.rowAt ((lnI l k (i + 1)).map laneR ++ B) ((lnI l k i).length + 1) = Go.Vx.rowAt B 1 := fun B => rowAt_app (by simp; omega)
        have s0 : ∀ (B : Go.Vx.Rows) (r : RowS), setAt ((lnI l k (i + 1)).map laneR ++ B) (lnI l k i).length r = (lnI l k (i + 1)).map laneR ++ setAt B 0 r := fun B r => setAt_app (by simp; omega)
        have s1 : ∀ (B : Go.Vx.Rows) (r : RowS), setAt ((lnI l k (i + 1)).map laneR ++ B) ((lnI l k i).length + 1) r = (lnI l k (i + 1)).map laneR ++ setAt B 1 r := fun B r => setAt_app (by simp; omega)
        simp only [vx, vz, Nat.reduceAdd, Nat.reduceSub, Nat.reduceMul, Nat.reduceLeDiff, Nat.reduceLT, Nat.reduceEqDiff, Nat.reduceBEq, Int.reduceToNat, Int.reduceNeg, Int.reduceEq, Int.reduceNe, Int.reduceLE, Int.reduceLT, reduceCtorEq, ↓reduceIte, r0, r1, s0, s1]
        refine ⟨by unfold maxBytes; omega, ?_⟩
        refine ls_n (i + 1) (by omega) (Weak.trans (weak_any ?_) (weak_frzA (A := _ :: _ :: (lnI l k (i + 1)).map laneR) (Nat.zero_le _) ⟨?_, .same _ (ptR_B (n := l.length) (by simp; omega)), rowsK_same laneR_B⟩ (kpL_refl ?_))) (by omega)
        · simp only [vx, vz, Nat.reduceAdd, Nat.reduceSub, Nat.reduceMul, Nat.reduceLeDiff, Nat.reduceLT, Nat.reduceEqDiff, Nat.reduceBEq, Int.reduceToNat, Int.reduceNeg, Int.reduceEq, Int.reduceNe, Int.reduceLE, Int.reduceLT, reduceCtorEq, ↓reduceIte]
          rw [wr_i64 (by omega) (by omega), er, List.length_append, Nat.add_assoc]
          exact ⟨rfl, rfl⟩
        · show RowK _ _ _ (.live 4 (((outT l k ++ roundS (l.take (i + 1)) k).map slD).map (·.map .d)))
          have e3 : (outT l k ++ roundS (l.take (i + 1)) k).map slD = (outT l k ++ roundS (l.take i) k).map slD ++ [slD x] := by
            rw [er, ← List.append_assoc, List.map_append]; rfl
          rw [e3]
          exact rowK_snoc (x := slD x) ⟨.same _ rfl, .same _ rfl, .same _ rfl, .same _ rfl, trivial⟩
        · simp [hB]
    · simp only [decide_eq_false_iff_not] at hc2
      have e1 : outT l k ++ roundS (l.take i) k = outT l (k + 1) := by rw [take_end (by omega), outT_succ]
      simp only [vx, vz, Nat.reduceAdd, Nat.reduceSub, Nat.reduceMul, Nat.reduceLeDiff, Nat.reduceLT, Nat.reduceEqDiff, Nat.reduceBEq, Int.reduceToNat, Int.reduceNeg, Int.reduceEq, Int.reduceNe, Int.reduceLE, Int.reduceLT, reduceCtorEq, ↓reduceIte]
      refine ls_n (k + 1) (by omega) ?_ (by omega)
      rw [lnI_end (by omega)]
      rw [e1]
      refine weak_any ?_
      simp only [vx, vz, Nat.reduceAdd, Nat.reduceSub, Nat.reduceMul, Nat.reduceLeDiff, Nat.reduceLT, Nat.reduceEqDiff, Nat.reduceBEq, Int.reduceToNat, Int.reduceNeg, Int.reduceEq, Int.reduceNe, Int.reduceLE, Int.reduceLT, reduceCtorEq, ↓reduceIte]
      rw [wr_i64 (by omega) (by omega), ← e1, List.length_append]
      exact ⟨rfl, rfl⟩
  · simp only [decide_eq_false_iff_not] at hc
    obtain rfl : k = longS l := by omega
    simp only [vx, vz, Nat.reduceAdd, Nat.reduceSub, Nat.reduceMul, Nat.reduceLeDiff, Nat.reduceLT, Nat.reduceEqDiff, Nat.reduceBEq, Int.reduceToNat, Int.reduceNeg, Int.reduceEq, Int.reduceNe, Int.reduceLE, Int.reduceLT, reduceCtorEq, ↓reduceIte]
    exact sn_all (es := (outT l (longS l)).map slD) rfl (by simp) szl
end Go.Proofs.Ar
