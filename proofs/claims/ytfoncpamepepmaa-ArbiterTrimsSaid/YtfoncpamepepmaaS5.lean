import Derived.Test.YtfoncpamepepmaaS4
set_option linter.unusedSimpArgs false
set_option linter.unusedVariables false
namespace Go.Proofs.Ar
open Go.Vx
theorem sn_lanes {out : RowS} {ls : List (List Sl × Nat)} : Snap (out :: ptR ls.length ls.length :: ls.map laneR) (.osl 1 1 ls.length 0 ls.length) (.d (.sl 1 (ls.map lnD))) := by
  refine .osl 1 1 ls.length 0 ls.length ((List.range ls.length).map (ptC ls.length)) (ls.map lnD) rfl (by simp) (by omega) (by simp) (fun x hx => by obtain ⟨p, _, rfl⟩ := List.mem_map.1 hx; rfl) ?_
  intro i j e x v y h1 h2 h3 h4
  rw [Nat.zero_add] at h1
  have hi : i < ls.length := by
    have := (List.getElem?_eq_some_iff.1 h2).1
    simpa using this
  obtain ⟨p, hp⟩ := get_ex (l := ls) hi
  rw [List.getElem?_map, List.getElem?_range hi] at h1
  rw [List.getElem?_map, hp] at h2
  injection h1 with h1; injection h2 with h2
  subst h1 h2
  rw [ptC, if_pos hi] at h3
  cases j with
  | succ j => simp at h3
  | zero =>
    simp [lnD] at h3 h4
    subst h3 h4
    exact sn_ptr (cs := [.sl 4 (p.1.map slD), .int .i64 p.2]) (row_lane0 hp) (Nat.le_refl 2)
def okI (l : List (List Sl)) (ls : List (List Sl × Nat)) : Prop := ls.map (·.1) = l
theorem okI_len {l : List (List Sl)} {ls : List (List Sl × Nat)} (h : okI l ls) : ls.length = l.length := by rw [← h]; simp
theorem okI_mem {l : List (List Sl)} {ls : List (List Sl × Nat)} (h : okI l ls) {i : Nat} {p : List Sl × Nat} (hp : ls[i]? = some p) : l[i]? = some p.1 := by rw [← h]; simp [hp]
theorem okI_set {l : List (List Sl)} {ls : List (List Sl × Nat)} (h : okI l ls) {i : Nat} {p : List Sl × Nat} (hp : ls[i]? = some p) : okI l (ls.set i (adv p)) := by
  rw [okI, List.map_set, set_same]
  · exact h
  · simp [hp, adv]
theorem okI_inc {l : List (List Sl)} {ls : List (List Sl × Nat)} (h : okI l ls) : okI l (ls.map incS) := by
  rw [okI, List.map_map, ← h]
  refine List.map_congr_left fun p _ => ?_
  simp only [Function.comp, incS]
  split <;> rfl
theorem rem_le {l : List (List Sl)} (hl : okL l) : rem (l.map ln0) ≤ 400 := by
  have : ∀ (l : List (List Sl)), (∀ s ∈ l, s.length ≤ 20) → rem (l.map ln0) ≤ 20 * l.length := by
    intro l
    induction l with
    | nil => simp [rem]
    | cons s l ih =>
      intro h
      have h1 := h s (by simp)
      have h2 := ih (fun x hx => h x (by simp [hx]))
      simp only [List.map_cons, rem, ln0, List.length_cons]
      omega
  have h2 := this l (fun s hs => (hl.2 s hs).1)
  have := hl.1
  omega
def firS (l : List (List Sl)) : List Sl := frS (rem (l.map ln0)) (l.map ln0)
theorem t14 (l : List (List Sl)) (hl : okL l) : CallP Try.prog 14 [llV l] (stV (firS l)) := by
  have hm := hm
  have hmL := mL
  have hl1 := hl.1
  have hr0 := rem_le hl
  refine go14 (wkAt 2 (AC.at (AC.look [false, true, false]) [1, 1, 0] (AC.at (AC.look [false, true, false]) [1, 1, 1, 2, 2, 2, 0, 0] ac14))) rfl ?_
  simp only [vx, vz, Nat.reduceAdd, Nat.reduceSub, Nat.reduceMul, Nat.reduceLeDiff, Nat.reduceLT, Nat.reduceEqDiff, Nat.reduceBEq, Int.reduceToNat, Int.reduceNeg, Int.reduceEq, Int.reduceNe, Int.reduceLE, Int.reduceLT, reduceCtorEq, ↓reduceIte, ac14, wkAt, AC.at, AC.look]
  refine wk_in ⟨mkF 47 [(0, llV l), (3, .osl 4 0 0 0 0)], [.live 4 []]⟩ (Weak.trans (weak_nils 3 4 rfl) (weak_any (by simp only [vx, vz, Nat.reduceAdd, Nat.reduceSub, Nat.reduceMul, Nat.reduceLeDiff, Nat.reduceLT, Nat.reduceEqDiff, Nat.reduceBEq, Int.reduceToNat, Int.reduceNeg, Int.reduceEq, Int.reduceNe, Int.reduceLE, Int.reduceLT, reduceCtorEq, ↓reduceIte]; try trivial))) ?_
  simp only [vx, vz, Nat.reduceAdd, Nat.reduceSub, Nat.reduceMul, Nat.reduceLeDiff, Nat.reduceLT, Nat.reduceEqDiff, Nat.reduceBEq, Int.reduceToNat, Int.reduceNeg, Int.reduceEq, Int.reduceNe, Int.reduceLE, Int.reduceLT, reduceCtorEq, ↓reduceIte]
  refine call_i (t27 l hl ?_)
  simp only [vx, vz, Nat.reduceAdd, Nat.reduceSub, Nat.reduceMul, Nat.reduceLeDiff, Nat.reduceLT, Nat.reduceEqDiff, Nat.reduceBEq, Int.reduceToNat, Int.reduceNeg, Int.reduceEq, Int.reduceNe, Int.reduceLE, Int.reduceLT, reduceCtorEq, ↓reduceIte]
  refine loop_st (fun s : List Sl × List (List Sl × Nat) × Nat => ⟨mkF 47 [(3, .osl 4 0 s.1.length 0 s.1.length), (4, .osl 1 1 l.length 0 l.length)], .live 4 ((s.1.map slD).map (·.map .d)) :: ptR l.length l.length :: s.2.1.map laneR⟩) (fun s => okI l s.2.1 ∧ rem s.2.1 ≤ s.2.2 ∧ s.1.length + s.2.2 ≤ 400 ∧ s.1 ++ frS s.2.2 s.2.1 = firS l) (fun s => s.2.2) ([], l.map ln0, rem (l.map ln0)) (weak_any (by simp only [vx, vz, Nat.reduceAdd, Nat.reduceSub, Nat.reduceMul, Nat.reduceLeDiff, Nat.reduceLT, Nat.reduceEqDiff, Nat.reduceBEq, Int.reduceToNat, Int.reduceNeg, Int.reduceEq, Int.reduceNe, Int.reduceLE, Int.reduceLT, reduceCtorEq, ↓reduceIte]; try trivial)) ⟨by simp [okI, ln0, List.map_map, Function.comp_def], by simp, by simpa using hr0, rfl⟩ (fun s hs => ?_)
  obtain ⟨out, ls, n⟩ := s
  obtain ⟨h1, h2, h3, h4⟩ := hs
  simp only at h1 h2 h3 h4
  have hlen := okI_len h1
  rw [← hlen]
  simp only [vx, vz, Nat.reduceAdd, Nat.reduceSub, Nat.reduceMul, Nat.reduceLeDiff, Nat.reduceLT, Nat.reduceEqDiff, Nat.reduceBEq, Int.reduceToNat, Int.reduceNeg, Int.reduceEq, Int.reduceNe, Int.reduceLE, Int.reduceLT, reduceCtorEq, ↓reduceIte]
  refine call_i (inl_scal (vals' := [.d (.sl 1 (ls.map lnD)), .fn (.func 33) [] []]) rfl (fun j x x' hx hx' => ?_) rfl (t32 ls (by omega)) ?_)
  · match j, hx, hx' with
    | 0, hx, hx' => cases hx; cases hx'; exact sn_lanes
    | 1, hx, hx' => cases hx; cases hx'; exact .fn _ [] [] [] [] rfl rfl (by simp) (by simp)
  rcases fidx_spec (q := busyS) (l := ls) (k := 0) with ⟨hi, hno⟩ | ⟨i, p, hi, hp, hb⟩
  · rw [hi]
    simp only [vx, vz, Nat.reduceAdd, Nat.reduceSub, Nat.reduceMul, Nat.reduceLeDiff, Nat.reduceLT, Nat.reduceEqDiff, Nat.reduceBEq, Int.reduceToNat, Int.reduceNeg, Int.reduceEq, Int.reduceNe, Int.reduceLE, Int.reduceLT, reduceCtorEq, ↓reduceIte, ptR, List.length_range]
    refine loop_st (fun i : Nat => ⟨mkF 47 [(3, .osl 4 0 out.length 0 out.length), (4, .osl 1 1 ls.length 0 ls.length), (6, .d (.bool (opn (ls.take i)))), (23, .osl 1 1 ls.length 0 ls.length), (24, .d (.int .i64 ls.length)), (25, .d (.int .i64 i))], .live 4 ((out.map slD).map (·.map .d)) :: ptR ls.length ls.length :: (incI ls i).map laneR⟩) (fun i => i ≤ ls.length) (fun i => ls.length - i) 0 (by
      have e : opn (ls.take 0) = false := by simp [opn]
      simp only [incI_zero, e]
      exact weak_any (by simp only [vx, vz, Nat.reduceAdd, Nat.reduceSub, Nat.reduceMul, Nat.reduceLeDiff, Nat.reduceLT, Nat.reduceEqDiff, Nat.reduceBEq, Int.reduceToNat, Int.reduceNeg, Int.reduceEq, Int.reduceNe, Int.reduceLE, Int.reduceLT, reduceCtorEq, ↓reduceIte]; try trivial)) (by omega) (fun i hi2 => ?_)
    have hil := incI_len (ls := ls) hi2
    simp only [vx, vz, Nat.reduceAdd, Nat.reduceSub, Nat.reduceMul, Nat.reduceLeDiff, Nat.reduceLT, Nat.reduceEqDiff, Nat.reduceBEq, Int.reduceToNat, Int.reduceNeg, Int.reduceEq, Int.reduceNe, Int.reduceLE, Int.reduceLT, reduceCtorEq, ↓reduceIte, ptR, List.length_range]
    refine cond_split (fun hc => ?_) (fun hc => ?_)
    · simp only [decide_eq_true_eq] at hc
      obtain ⟨p, hp⟩ := get_ex (l := ls) (i := i) (by omega)
      have hat := incI_at hp
      have rr : Go.Vx.rowAt ((incI ls i).map laneR) i = laneR p := rowAt_map hat
      have eo : opn (ls.take (i + 1)) = (opn (ls.take i) || !finS p) := by rw [take_at hp, opn, List.any_append]; simp [opn]
      have hpl := (hl.2 p.1 (List.mem_of_getElem? (okI_mem h1 hp))).1
      simp only [vx, vz, Nat.reduceAdd, Nat.reduceSub, Nat.reduceMul, Nat.reduceLeDiff, Nat.reduceLT, Nat.reduceEqDiff, Nat.reduceBEq, Int.reduceToNat, Int.reduceNeg, Int.reduceEq, Int.reduceNe, Int.reduceLE, Int.reduceLT, reduceCtorEq, ↓reduceIte]
      refine ⟨by omega, by omega, by simp, by simp, getM_nat (x := i) (List.getElem?_range (by omega)) ?_⟩
      simp only [vx, vz, Nat.reduceAdd, Nat.reduceSub, Nat.reduceMul, Nat.reduceLeDiff, Nat.reduceLT, Nat.reduceEqDiff, Nat.reduceBEq, Int.reduceToNat, Int.reduceNeg, Int.reduceEq, Int.reduceNe, Int.reduceLE, Int.reduceLT, reduceCtorEq, ↓reduceIte, ptC]
      rw [if_pos (by omega)]
      simp only [vx, vz, Nat.reduceAdd, Nat.reduceSub, Nat.reduceMul, Nat.reduceLeDiff, Nat.reduceLT, Nat.reduceEqDiff, Nat.reduceBEq, Int.reduceToNat, Int.reduceNeg, Int.reduceEq, Int.reduceNe, Int.reduceLE, Int.reduceLT, reduceCtorEq, ↓reduceIte]
      refine call_s (v := .d (.bool (finS p))) ?_ rfl ?_ ?_
      · intro x hx
        simp only [List.nil_append, List.append_nil, List.mem_cons, List.not_mem_nil, or_false] at hx
        subst hx
        exact snapOk_lane (row_lane0 hat)
      · simp only [List.nil_append, List.append_nil, List.map_cons, List.map_nil, snapV_lane (row_lane0 hat)]
        exact t29 _
      simp only [vx, vz, Nat.reduceAdd, Nat.reduceSub, Nat.reduceMul, Nat.reduceLeDiff, Nat.reduceLT, Nat.reduceEqDiff, Nat.reduceBEq, Int.reduceToNat, Int.reduceNeg, Int.reduceEq, Int.reduceNe, Int.reduceLE, Int.reduceLT, reduceCtorEq, ↓reduceIte]
      cases hf : finS p with
      | true =>
        rw [hf, Bool.not_true, Bool.or_false] at eo
        have hge : p.1.length ≤ p.2 := of_decide_eq_true hf
        have hset : incI ls (i + 1) = incI ls i := by
          rw [← incI_set hp, show incS p = p by rw [incS, if_neg (by omega)], set_same hat]
        simp only [vx, vz, Nat.reduceAdd, Nat.reduceSub, Nat.reduceMul, Nat.reduceLeDiff, Nat.reduceLT, Nat.reduceEqDiff, Nat.reduceBEq, Int.reduceToNat, Int.reduceNeg, Int.reduceEq, Int.reduceNe, Int.reduceLE, Int.reduceLT, reduceCtorEq, ↓reduceIte]
        refine ls_n (i + 1) (by omega) ?_ (by omega)
        simp only [eo, hset]
        refine weak_any ?_
        simp only [vx, vz, Nat.reduceAdd, Nat.reduceSub, Nat.reduceMul, Nat.reduceLeDiff, Nat.reduceLT, Nat.reduceEqDiff, Nat.reduceBEq, Int.reduceToNat, Int.reduceNeg, Int.reduceEq, Int.reduceNe, Int.reduceLE, Int.reduceLT, reduceCtorEq, ↓reduceIte]
        rw [wr_i64 (by omega) (by omega)]
        trivial
      | false =>
        rw [hf, Bool.not_false, Bool.or_true] at eo
        have hlt : p.2 < p.1.length := by have := of_decide_eq_false hf; omega
        have hset : (incI ls i).set i (p.1, p.2 + 1) = incI ls (i + 1) := by
          rw [← incI_set hp, show incS p = (p.1, p.2 + 1) by rw [incS, if_pos hlt]; rfl]
        simp only [vx, vz, Nat.reduceAdd, Nat.reduceSub, Nat.reduceMul, Nat.reduceLeDiff, Nat.reduceLT, Nat.reduceEqDiff, Nat.reduceBEq, Int.reduceToNat, Int.reduceNeg, Int.reduceEq, Int.reduceNe, Int.reduceLE, Int.reduceLT, reduceCtorEq, ↓reduceIte, rr, laneR]
        rw [wr_i64 (n := (p.2 : Int) + 1) (by omega) (by omega)]
        have hse := setAt_lane (ls := incI ls i) (B := []) (i := i) (k := p.2 + 1) (s := p.1) (by omega)
        rw [List.append_nil, List.append_nil, hset] at hse
        rw [show (p.2 : Int) + 1 = ((p.2 + 1 : Nat) : Int) from rfl, hse]
        refine ls_n (i + 1) (by omega) ?_ (by omega)
        simp only [eo]
        refine weak_any ?_
        simp only [vx, vz, Nat.reduceAdd, Nat.reduceSub, Nat.reduceMul, Nat.reduceLeDiff, Nat.reduceLT, Nat.reduceEqDiff, Nat.reduceBEq, Int.reduceToNat, Int.reduceNeg, Int.reduceEq, Int.reduceNe, Int.reduceLE, Int.reduceLT, reduceCtorEq, ↓reduceIte]
        rw [wr_i64 (by omega) (by omega)]
        trivial
    · simp only [decide_eq_false_iff_not] at hc
      rw [take_end (by omega)]
      cases ho : opn ls with
      | false =>
        rw [fr_done hi ho, List.append_nil] at h4
        rw [← h4]
        simp only [vx, vz, Nat.reduceAdd, Nat.reduceSub, Nat.reduceMul, Nat.reduceLeDiff, Nat.reduceLT, Nat.reduceEqDiff, Nat.reduceBEq, Int.reduceToNat, Int.reduceNeg, Int.reduceEq, Int.reduceNe, Int.reduceLE, Int.reduceLT, reduceCtorEq, ↓reduceIte]
        exact sn_all (es := out.map slD) rfl (by simp) szl
      | true =>
        have hri := rem_inc (ls := ls)
        have hri2 := hri.2 ho
        obtain ⟨n, rfl⟩ : ∃ m, n = m + 1 := ⟨n - 1, by omega⟩
        rw [fr_idle hi, ho, if_pos rfl] at h4
        have hil2 : (ls.map incS).length = ls.length := by simp
        rw [incI_end (by omega)]
        have r0 : ∀ B : Go.Vx.Rows, Go.Vx.rowAt ((ls.map incS).map laneR ++ B) ls.length = Go.Vx.rowAt B 0 := fun B => rowAt_app (by simp)
        have r1 : ∀ B : Go.Vx.Rows, Go.Vx.rowAt ((ls.map incS).map laneR ++ B) (ls.length + 1) = Go.Vx.rowAt B 1 := fun B => rowAt_app (by simp)
        have s0 : ∀ (B : Go.Vx.Rows) (r : RowS), setAt ((ls.map incS).map laneR ++ B) ls.length r = (ls.map incS).map laneR ++ setAt B 0 r := fun B r => setAt_app (by simp)
        have s1 : ∀ (B : Go.Vx.Rows) (r : RowS), setAt ((ls.map incS).map laneR ++ B) (ls.length + 1) r = (ls.map incS).map laneR ++ setAt B 1 r := fun B r => setAt_app (by simp)
        simp only [vx, vz, Nat.reduceAdd, Nat.reduceSub, Nat.reduceMul, Nat.reduceLeDiff, Nat.reduceLT, Nat.reduceEqDiff, Nat.reduceBEq, Int.reduceToNat, Int.reduceNeg, Int.reduceEq, Int.reduceNe, Int.reduceLE, Int.reduceLT, reduceCtorEq, ↓reduceIte, r0, r1, s0, s1]
        refine ⟨by unfold maxBytes; omega, ?_⟩
        refine ls_n (out ++ [idl], ls.map incS, n) (show n < n + 1 by omega) (Weak.trans (weak_any ?_) (weak_frzA (A := _ :: _ :: (ls.map incS).map laneR) (Nat.zero_le _) ⟨?_, .same _ (ptR_B (n := ls.length) ?_), rowsK_same laneR_B⟩ (kpL_refl ?_))) ⟨okI_inc h1, show rem (ls.map incS) ≤ n by omega, show (out ++ [idl]).length + n ≤ 400 by simp; omega, by rw [← h4]; simp⟩
        · simp only [vx, vz, Nat.reduceAdd, Nat.reduceSub, Nat.reduceMul, Nat.reduceLeDiff, Nat.reduceLT, Nat.reduceEqDiff, Nat.reduceBEq, Int.reduceToNat, Int.reduceNeg, Int.reduceEq, Int.reduceNe, Int.reduceLE, Int.reduceLT, reduceCtorEq, ↓reduceIte]
        · show RowK _ _ _ (.live 4 (((out ++ [idl]).map slD).map (·.map .d)))
          rw [show (out ++ [idl]).map slD = out.map slD ++ [slD idl] by rw [List.map_append]; rfl]
          exact rowK_snoc (x := slD idl) ⟨.same _ rfl, .snap _ _ (.nils 1), .snap _ _ (.nils 1), .same _ rfl, trivial⟩
        · simp
        · simp [hB]
  · obtain ⟨x, hx, hxi⟩ := busy_some hb
    rw [Nat.zero_add] at hi
    have hpl := okI_mem h1 hp
    have hps := hl.2 p.1 (List.mem_of_getElem? hpl)
    have hil := (List.getElem?_eq_some_iff.1 hp).1
    have hxl := (List.getElem?_eq_some_iff.1 hx).1
    have hrm := rem_busy hp hx
    obtain ⟨n, rfl⟩ : ∃ m, n = m + 1 := ⟨n - 1, by omega⟩
    rw [fr_busy hi hp hx] at h4
    rw [hi]
    have hll : (ls.set i (adv p)).length = ls.length := by simp
    have rr : Go.Vx.rowAt (ls.map laneR) i = laneR p := rowAt_map hp
    have r0 : ∀ B : Go.Vx.Rows, Go.Vx.rowAt ((ls.set i (adv p)).map laneR ++ B) ls.length = Go.Vx.rowAt B 0 := fun B => rowAt_app (by simp)
    have r1 : ∀ B : Go.Vx.Rows, Go.Vx.rowAt ((ls.set i (adv p)).map laneR ++ B) (ls.length + 1) = Go.Vx.rowAt B 1 := fun B => rowAt_app (by simp)
    have s0 : ∀ (B : Go.Vx.Rows) (r : RowS), setAt ((ls.set i (adv p)).map laneR ++ B) ls.length r = (ls.set i (adv p)).map laneR ++ setAt B 0 r := fun B r => setAt_app (by simp)
    have s1 : ∀ (B : Go.Vx.Rows) (r : RowS), setAt ((ls.set i (adv p)).map laneR ++ B) (ls.length + 1) r = (ls.set i (adv p)).map laneR ++ setAt B 1 r := fun B r => setAt_app (by simp)
    simp only [vx, vz, Nat.reduceAdd, Nat.reduceSub, Nat.reduceMul, Nat.reduceLeDiff, Nat.reduceLT, Nat.reduceEqDiff, Nat.reduceBEq, Int.reduceToNat, Int.reduceNeg, Int.reduceEq, Int.reduceNe, Int.reduceLE, Int.reduceLT, reduceCtorEq, ↓reduceIte, ptR, List.length_range, dt (show (0 : Int) ≤ i by omega)]
    refine ⟨by omega, by omega, getM_nat (x := i) (List.getElem?_range (by omega)) ?_⟩
    simp only [vx, vz, Nat.reduceAdd, Nat.reduceSub, Nat.reduceMul, Nat.reduceLeDiff, Nat.reduceLT, Nat.reduceEqDiff, Nat.reduceBEq, Int.reduceToNat, Int.reduceNeg, Int.reduceEq, Int.reduceNe, Int.reduceLE, Int.reduceLT, reduceCtorEq, ↓reduceIte, ptC]
    rw [if_pos (by omega)]
    simp only [vx, vz, Nat.reduceAdd, Nat.reduceSub, Nat.reduceMul, Nat.reduceLeDiff, Nat.reduceLT, Nat.reduceEqDiff, Nat.reduceBEq, Int.reduceToNat, Int.reduceNeg, Int.reduceEq, Int.reduceNe, Int.reduceLE, Int.reduceLT, reduceCtorEq, ↓reduceIte]
    refine call_m (i + 2) (vals0 := [.optr 2 0 1 0 0]) (es' := [[.d (.sl 4 (p.1.map slD)), .d (.int .i64 (p.2 + 1 : Nat))]]) rfl rfl (by simp [hAll, hOf1]) (row_lane hp) dE dE rfl (t30 p x hx (by omega) (hps.2 x (List.mem_of_getElem? hx))) ?_
    rw [show renH (i + 2) (slV x) = slV x from rfl]
    simp only [vx, vz, Nat.reduceAdd, Nat.reduceSub, Nat.reduceMul, Nat.reduceLeDiff, Nat.reduceLT, Nat.reduceEqDiff, Nat.reduceBEq, Int.reduceToNat, Int.reduceNeg, Int.reduceEq, Int.reduceNe, Int.reduceLE, Int.reduceLT, reduceCtorEq, ↓reduceIte]
    rw [setAt_lane hil]
    simp only [vx, vz, Nat.reduceAdd, Nat.reduceSub, Nat.reduceMul, Nat.reduceLeDiff, Nat.reduceLT, Nat.reduceEqDiff, Nat.reduceBEq, Int.reduceToNat, Int.reduceNeg, Int.reduceEq, Int.reduceNe, Int.reduceLE, Int.reduceLT, reduceCtorEq, ↓reduceIte, show (p.1, p.2 + 1) = adv p from rfl, r0, r1, s0, s1]
    refine ⟨by unfold maxBytes; omega, ?_⟩
    refine ls_n (out ++ [x], ls.set i (adv p), n) (show n < n + 1 by omega) (Weak.trans (weak_any ?_) (weak_frzA (A := _ :: _ :: (ls.set i (adv p)).map laneR) (Nat.zero_le _) ⟨?_, .same _ (ptR_B (n := ls.length) ?_), rowsK_same laneR_B⟩ (kpL_refl ?_))) ⟨okI_set h1 hp, show rem (ls.set i (adv p)) ≤ n by omega, show (out ++ [x]).length + n ≤ 400 by simp; omega, by rw [← h4]; simp⟩
    · simp only [vx, vz, Nat.reduceAdd, Nat.reduceSub, Nat.reduceMul, Nat.reduceLeDiff, Nat.reduceLT, Nat.reduceEqDiff, Nat.reduceBEq, Int.reduceToNat, Int.reduceNeg, Int.reduceEq, Int.reduceNe, Int.reduceLE, Int.reduceLT, reduceCtorEq, ↓reduceIte]
    · show RowK _ _ _ (.live 4 (((out ++ [x]).map slD).map (·.map .d)))
      rw [show (out ++ [x]).map slD = out.map slD ++ [slD x] by rw [List.map_append]; rfl]
      exact rowK_snoc (x := slD x) ⟨.same _ rfl, .same _ rfl, .same _ rfl, .same _ rfl, trivial⟩
    · simp
    · simp [hB]
end Go.Proofs.Ar
