import Derived.Test.YtfoncpamepepmaaL1
set_option linter.unusedSimpArgs false
set_option linter.unusedVariables false
namespace Go.Proofs.Ar
open Go.Vx
def moS (l : List (List Sl)) (q : Nat) : Nat → List (List Sl)
  | 0 => []
  | i + 1 => moS l q i ++ (match l[i]? with | some s => if i = q then [s, []] else [s] | none => [])
theorem mo_round {l : List (List Sl)} {q k : Nat} : ∀ i, roundS (moS l q i) k = roundS (l.take i) k := by
  intro i
  induction i with
  | zero => simp [moS]
  | succ i ih =>
    cases hs : l[i]? with
    | none =>
      have h1 := List.getElem?_eq_none_iff.1 hs
      have ih' := ih
      rw [take_end h1] at ih'
      rw [moS, hs, take_end (by omega), roundS, List.filterMap_append]
      simpa [roundS] using ih'
    | some s =>
      have e : roundS (moS l q (i + 1)) k = roundS (moS l q i) k ++ (match s[k]? with | some x => [x] | none => []) := by
        rw [moS, hs, roundS, List.filterMap_append]
        congr 1
        simp only
        split
        · cases hk : s[k]? <;> simp [hk]
        · cases hk : s[k]? <;> simp [hk]
      rw [e, ih, round_snoc hs]
      cases s[k]? <;> rfl
theorem mo_len {l : List (List Sl)} {q : Nat} : ∀ i, (moS l q i).length ≤ 2 * i := by
  intro i
  induction i with
  | zero => simp [moS]
  | succ i ih =>
    rw [moS, List.length_append]
    split
    · split <;> simp <;> omega
    · simp; omega
theorem mo_mem {l : List (List Sl)} {q : Nat} : ∀ i, ∀ s ∈ moS l q i, s = [] ∨ s ∈ l := by
  intro i
  induction i with
  | zero => simp [moS]
  | succ i ih =>
    intro s hs
    rw [moS] at hs
    rcases List.mem_append.1 hs with hs | hs
    · exact ih s hs
    · split at hs
      · next t ht =>
        have hm := List.mem_of_getElem? ht
        split at hs
        · simp at hs; rcases hs with rfl | rfl
          · exact .inr hm
          · exact .inl rfl
        · simp at hs; subst hs; exact .inr hm
      · cases hs
theorem mo_ok {l : List (List Sl)} (hl : okL l) {q i : Nat} (hi : i ≤ 10) : okL (moS l q i) := by
  have := mo_len (l := l) (q := q) i
  refine ⟨by omega, fun s hs => ?_⟩
  rcases mo_mem i s hs with rfl | h
  · exact ⟨by simp, by simp⟩
  · exact hl.2 s h
theorem out_nil {l : List (List Sl)} {k : Nat} : ∀ n, longS l ≤ k → outT l (k + n) = outT l k := by
  intro n hk
  induction n with
  | zero => rfl
  | succ n ih =>
    rw [← Nat.add_assoc, outT_succ, ih]
    have : roundS l (k + n) = [] := round_nil.2 fun s hs => by
      have := (long_mem (n := 0) hs).1
      rw [longS] at hk; omega
    rw [this, List.append_nil]
theorem out_eq {l m : List (List Sl)} (h : ∀ k, roundS m k = roundS l k) : outT m (longS m) = outT l (longS l) := by
  have e : ∀ k, outT m k = outT l k := fun k => by
    induction k with
    | zero => rfl
    | succ k ih => rw [outT_succ, outT_succ, ih, h]
  rcases Nat.le_total (longS m) (longS l) with h1 | h1
  · obtain ⟨n, hn⟩ := Nat.exists_eq_add_of_le h1
    rw [← out_nil (l := m) n (Nat.le_refl _), ← hn, e]
  · obtain ⟨n, hn⟩ := Nat.exists_eq_add_of_le h1
    rw [← out_nil (l := l) n (Nat.le_refl _), ← hn, e]
theorem out_one {s : List Sl} : outT [s] (longS [s]) = s := by
  have h : ∀ k, outT [s] k = s.take k := by
    intro k
    induction k with
    | zero => simp [outT]
    | succ k ih =>
      rw [outT_succ, ih]
      rcases Nat.lt_or_ge k s.length with hk | hk
      · obtain ⟨x, hx⟩ := get_ex hk
        rw [take_at hx, roundS]; simp [hx]
      · rw [take_end hk, take_end (by omega), roundS]; simp [List.getElem?_eq_none hk]
  rw [h, longS]
  exact take_end (by simp)
theorem fr_one {s : List Sl} : ∀ n at_, s.length - at_ ≤ n → onlyS (frS n [(s, at_)]) = onlyS (s.drop at_) := by
  intro n
  induction n with
  | zero =>
    intro a h
    rw [drop_end (by omega)]; rfl
  | succ n ih =>
    intro a h
    rcases Nat.lt_or_ge a s.length with hk | hk
    · obtain ⟨x, hx⟩ := get_ex hk
      have hb : busyS (s, a) = !x.1 := by rw [busyS]; simp only [hx]
      have hopn : opn [(s, a)] = true := by simp [opn, finS]; omega
      have hinc : incS (s, a) = (s, a + 1) := by rw [incS, if_pos hk]; rfl
      rw [drop_at hx]
      cases hxi : x.1 with
      | true =>
        rw [hxi] at hb
        have hi : fidx busyS [(s, a)] 0 = -1 := by simp [fidx, hb]
        rw [fr_idle hi, hopn, if_pos rfl, List.map_cons, List.map_nil, hinc, onlyS, onlyS, List.filter_cons, List.filter_cons]
        rw [if_neg (by decide), if_neg (by simp [hxi])]
        exact ih (a + 1) (by omega)
      | false =>
        rw [hxi] at hb
        have hi : fidx busyS [(s, a)] 0 = (0 : Nat) := by simp [fidx, hb]
        rw [fr_busy (p := (s, a)) hi rfl hx, onlyS, onlyS, List.filter_cons, List.filter_cons]
        have := ih (a + 1) (by omega)
        rw [onlyS, onlyS] at this
        rw [if_pos (by simp [hxi]), if_pos (by simp [hxi])]
        show x :: List.filter _ (frS n [(s, a + 1)]) = _
        rw [this]
    · have hi : fidx busyS [(s, a)] 0 = -1 := by
        have : busyS (s, a) = false := by rw [busyS]; simp only [List.getElem?_eq_none hk]
        simp [fidx, this]
      rw [fr_done hi (by simp [opn, finS]; omega), drop_end hk]
theorem fir_one {s : List Sl} : onlyS (firS [s]) = onlyS s := by
  have := fr_one (s := s) (rem ([s].map ln0)) 0 (by simp [rem, ln0])
  rw [List.drop_zero] at this
  exact this
theorem only_le {l : List Sl} : (onlyS l).length ≤ l.length := List.length_filter_le _ _
theorem only_ok {l : List Sl} (h : ∀ x ∈ l, okS x) : ∀ x ∈ onlyS l, okS x := fun x hx => h x (List.mem_filter.1 hx).1
theorem one_ok {l : List (List Sl)} (hl : okL l) {s : List Sl} (hs : s ∈ l) : okL [s] := ⟨by simp, fun t ht => by simp at ht; subst ht; exact hl.2 _ hs⟩
theorem l5 (l : List (List Sl)) (at_ : Int) (h0 : 0 ≤ at_ ∧ at_ ≤ 255) (ok : okA l) : CallP Try.prog 5 [llV l, .d (.int .u8 at_)] (.d (.bool true)) := by
  have hm := hm
  have hlA := ok.1
  refine go5 (wkAt 6 ac5) rfl ?_
  simp only [vx, vz, Nat.reduceAdd, Nat.reduceSub, Nat.reduceMul, Nat.reduceLeDiff, Nat.reduceLT, Nat.reduceEqDiff, Nat.reduceBEq, Int.reduceToNat, Int.reduceNeg, Int.reduceEq, Int.reduceNe, Int.reduceLE, Int.reduceLT, reduceCtorEq, ↓reduceIte, ac5, wkAt]
  refine call_p rfl (t9 l ok) ?_
  simp only [vx, vz, Nat.reduceAdd, Nat.reduceSub, Nat.reduceMul, Nat.reduceLeDiff, Nat.reduceLT, Nat.reduceEqDiff, Nat.reduceBEq, Int.reduceToNat, Int.reduceNeg, Int.reduceEq, Int.reduceNe, Int.reduceLE, Int.reduceLT, reduceCtorEq, ↓reduceIte]
  cases hf : fewS l with
  | false =>
    simp only [vx, vz, Nat.reduceAdd, Nat.reduceSub, Nat.reduceMul, Nat.reduceLeDiff, Nat.reduceLT, Nat.reduceEqDiff, Nat.reduceBEq, Int.reduceToNat, Int.reduceNeg, Int.reduceEq, Int.reduceNe, Int.reduceLE, Int.reduceLT, reduceCtorEq, ↓reduceIte]
    refine call_p rfl (t10) ?_
    simp only [vx, vz, Nat.reduceAdd, Nat.reduceSub, Nat.reduceMul, Nat.reduceLeDiff, Nat.reduceLT, Nat.reduceEqDiff, Nat.reduceBEq, Int.reduceToNat, Int.reduceNeg, Int.reduceEq, Int.reduceNe, Int.reduceLE, Int.reduceLT, reduceCtorEq, ↓reduceIte]
  | true =>
    obtain ⟨hl, hl8⟩ := few_ok hf
    by_cases h7 : 7 < (l.length : Int)
    · simp only [vx, vz, Nat.reduceAdd, Nat.reduceSub, Nat.reduceMul, Nat.reduceLeDiff, Nat.reduceLT, Nat.reduceEqDiff, Nat.reduceBEq, Int.reduceToNat, Int.reduceNeg, Int.reduceEq, Int.reduceNe, Int.reduceLE, Int.reduceLT, reduceCtorEq, ↓reduceIte, dt h7]
      refine call_p rfl (t10) ?_
      simp only [vx, vz, Nat.reduceAdd, Nat.reduceSub, Nat.reduceMul, Nat.reduceLeDiff, Nat.reduceLT, Nat.reduceEqDiff, Nat.reduceBEq, Int.reduceToNat, Int.reduceNeg, Int.reduceEq, Int.reduceNe, Int.reduceLE, Int.reduceLT, reduceCtorEq, ↓reduceIte]
    by_cases hz : (l.length : Int) = 0
    · simp only [vx, vz, Nat.reduceAdd, Nat.reduceSub, Nat.reduceMul, Nat.reduceLeDiff, Nat.reduceLT, Nat.reduceEqDiff, Nat.reduceBEq, Int.reduceToNat, Int.reduceNeg, Int.reduceEq, Int.reduceNe, Int.reduceLE, Int.reduceLT, reduceCtorEq, ↓reduceIte, df h7, dt hz]
      refine call_p rfl (t10) ?_
      simp only [vx, vz, Nat.reduceAdd, Nat.reduceSub, Nat.reduceMul, Nat.reduceLeDiff, Nat.reduceLT, Nat.reduceEqDiff, Nat.reduceBEq, Int.reduceToNat, Int.reduceNeg, Int.reduceEq, Int.reduceNe, Int.reduceLE, Int.reduceLT, reduceCtorEq, ↓reduceIte]
    simp only [vx, vz, Nat.reduceAdd, Nat.reduceSub, Nat.reduceMul, Nat.reduceLeDiff, Nat.reduceLT, Nat.reduceEqDiff, Nat.reduceBEq, Int.reduceToNat, Int.reduceNeg, Int.reduceEq, Int.reduceNe, Int.reduceLE, Int.reduceLT, reduceCtorEq, ↓reduceIte, df h7, df hz]
    obtain ⟨q, hq, hql⟩ : ∃ q : Nat, (IntKind.i64.wrap at_).tmod (l.length : Int) = q ∧ q < l.length := by
      rw [wr_i64 (by omega) (by omega), Int.tmod_eq_emod_of_nonneg h0.1]
      have h1 := Int.emod_nonneg at_ (show (l.length : Int) ≠ 0 from hz)
      have h2 := Int.emod_lt_of_pos at_ (show 0 < (l.length : Int) by omega)
      exact ⟨(at_ % (l.length : Int)).toNat, by omega, by omega⟩
    obtain ⟨one, hone⟩ := get_ex (l := l) (i := q) hql
    have honem := List.mem_of_getElem? hone
    rw [hq]
    refine ⟨hz, by omega, by omega, getM_at hone ?_⟩
    simp only [vx, vz, Nat.reduceAdd, Nat.reduceSub, Nat.reduceMul, Nat.reduceLeDiff, Nat.reduceLT, Nat.reduceEqDiff, Nat.reduceBEq, Int.reduceToNat, Int.reduceNeg, Int.reduceEq, Int.reduceNe, Int.reduceLE, Int.reduceLT, reduceCtorEq, ↓reduceIte, stD]
    refine loop_st (fun i : Nat => ⟨mkF 101 [(0, llV l), (1, .d (.int .u8 at_)), (5, stV one), (6, .d (.int .i64 (tot (l.take i)))), (7, .osl 1 0 (moS l q i).length 0 (moS l q i).length), (8, .d (.int .i64 i))], [.live 1 (((moS l q i).map stD).map (·.map .d))]⟩) (fun i => i ≤ l.length) (fun i => l.length - i) 0 (Weak.trans (weak_nils 7 1 rfl) (weak_any (by simp only [vx, vz, Nat.reduceAdd, Nat.reduceSub, Nat.reduceMul, Nat.reduceLeDiff, Nat.reduceLT, Nat.reduceEqDiff, Nat.reduceBEq, Int.reduceToNat, Int.reduceNeg, Int.reduceEq, Int.reduceNe, Int.reduceLE, Int.reduceLT, reduceCtorEq, ↓reduceIte, List.take_zero, tot, moS]; try trivial))) (by omega) (fun i hi => ?_)
    have htl := tot_le hl i hi
    have hml := mo_len (l := l) (q := q) i
    simp only [vx, vz, Nat.reduceAdd, Nat.reduceSub, Nat.reduceMul, Nat.reduceLeDiff, Nat.reduceLT, Nat.reduceEqDiff, Nat.reduceBEq, Int.reduceToNat, Int.reduceNeg, Int.reduceEq, Int.reduceNe, Int.reduceLE, Int.reduceLT, reduceCtorEq, ↓reduceIte]
    refine cond_split (fun hc => ?_) (fun hc => ?_)
    · simp only [decide_eq_true_eq] at hc
      obtain ⟨s, hs⟩ := get_ex (l := l) (i := i) (by omega)
      have hsl := (hl.2 s (List.mem_of_getElem? hs)).1
      have es := tot_snoc hs
      simp only [vx, vz, Nat.reduceAdd, Nat.reduceSub, Nat.reduceMul, Nat.reduceLeDiff, Nat.reduceLT, Nat.reduceEqDiff, Nat.reduceBEq, Int.reduceToNat, Int.reduceNeg, Int.reduceEq, Int.reduceNe, Int.reduceLE, Int.reduceLT, reduceCtorEq, ↓reduceIte]
      refine ⟨by omega, by omega, getM_at hs ?_⟩
      simp only [vx, vz, Nat.reduceAdd, Nat.reduceSub, Nat.reduceMul, Nat.reduceLeDiff, Nat.reduceLT, Nat.reduceEqDiff, Nat.reduceBEq, Int.reduceToNat, Int.reduceNeg, Int.reduceEq, Int.reduceNe, Int.reduceLE, Int.reduceLT, reduceCtorEq, ↓reduceIte]
      simp only [vx, vz, Nat.reduceAdd, Nat.reduceSub, Nat.reduceMul, Nat.reduceLeDiff, Nat.reduceLT, Nat.reduceEqDiff, Nat.reduceBEq, Int.reduceToNat, Int.reduceNeg, Int.reduceEq, Int.reduceNe, Int.reduceLE, Int.reduceLT, reduceCtorEq, ↓reduceIte, stD]
      refine ⟨by omega, by omega, getM_at hs ?_⟩
      simp only [vx, vz, Nat.reduceAdd, Nat.reduceSub, Nat.reduceMul, Nat.reduceLeDiff, Nat.reduceLT, Nat.reduceEqDiff, Nat.reduceBEq, Int.reduceToNat, Int.reduceNeg, Int.reduceEq, Int.reduceNe, Int.reduceLE, Int.reduceLT, reduceCtorEq, ↓reduceIte]
      simp only [vx, vz, Nat.reduceAdd, Nat.reduceSub, Nat.reduceMul, Nat.reduceLeDiff, Nat.reduceLT, Nat.reduceEqDiff, Nat.reduceBEq, Int.reduceToNat, Int.reduceNeg, Int.reduceEq, Int.reduceNe, Int.reduceLE, Int.reduceLT, reduceCtorEq, ↓reduceIte, stD]
      refine ⟨by unfold maxBytes; omega, hz, ?_⟩
      rw [hq]
      refine cond_split (fun hc2 => ?_) (fun hc2 => ?_)
      · have hc2 : i = q := by simp at hc2; omega
        have em : moS l q (i + 1) = moS l q i ++ [s] ++ [[]] := by rw [moS, hs]; simp [hc2]
        simp only [vx, vz, Nat.reduceAdd, Nat.reduceSub, Nat.reduceMul, Nat.reduceLeDiff, Nat.reduceLT, Nat.reduceEqDiff, Nat.reduceBEq, Int.reduceToNat, Int.reduceNeg, Int.reduceEq, Int.reduceNe, Int.reduceLE, Int.reduceLT, reduceCtorEq, ↓reduceIte]
        refine ⟨by unfold maxBytes; omega, ?_⟩
        refine ls_n (i + 1) (by omega) (Weak.trans (weak_any ?_) (weak_frz2 1 (by omega) ⟨?_, trivial⟩ (kpL_refl ?_))) (by omega)
        · simp only [vx, vz, Nat.reduceAdd, Nat.reduceSub, Nat.reduceMul, Nat.reduceLeDiff, Nat.reduceLT, Nat.reduceEqDiff, Nat.reduceBEq, Int.reduceToNat, Int.reduceNeg, Int.reduceEq, Int.reduceNe, Int.reduceLE, Int.reduceLT, reduceCtorEq, ↓reduceIte]
          rw [wr_i64 (by omega) (by omega), wr_i64 (by omega) (by omega), es, em, List.length_append, List.length_append]
          exact ⟨rfl, rfl, rfl⟩
        · show RowK _ _ _ (.live 1 (((moS l q (i + 1)).map stD).map (·.map .d)))
          have e3 : (moS l q (i + 1)).map stD = ((moS l q i).map stD ++ [stD s]) ++ [stD []] := by rw [em, List.map_append, List.map_append]; rfl
          have e4 : List.map (fun x => List.map V.d x) (List.map stD (moS l q i)) ++ [[V.d (D.sl 4 (List.map slD s))]] = ((moS l q i).map stD ++ [stD s]).map (·.map .d) := by rw [List.map_append]; rfl
          rw [e3, e4]
          exact rowK_snoc (x := stD []) ⟨.snap _ _ (.nils 4), trivial⟩
        · rfl
      · have hc2 : ¬ i = q := by simp at hc2; omega
        have em : moS l q (i + 1) = moS l q i ++ [s] := by rw [moS, hs]; simp [hc2]
        simp only [vx, vz, Nat.reduceAdd, Nat.reduceSub, Nat.reduceMul, Nat.reduceLeDiff, Nat.reduceLT, Nat.reduceEqDiff, Nat.reduceBEq, Int.reduceToNat, Int.reduceNeg, Int.reduceEq, Int.reduceNe, Int.reduceLE, Int.reduceLT, reduceCtorEq, ↓reduceIte]
        refine ls_n (i + 1) (by omega) (Weak.trans (weak_any ?_) (weak_frz2 1 (by omega) ⟨?_, trivial⟩ (kpL_refl ?_))) (by omega)
        · simp only [vx, vz, Nat.reduceAdd, Nat.reduceSub, Nat.reduceMul, Nat.reduceLeDiff, Nat.reduceLT, Nat.reduceEqDiff, Nat.reduceBEq, Int.reduceToNat, Int.reduceNeg, Int.reduceEq, Int.reduceNe, Int.reduceLE, Int.reduceLT, reduceCtorEq, ↓reduceIte]
          rw [wr_i64 (by omega) (by omega), wr_i64 (by omega) (by omega), es, em, List.length_append]
          exact ⟨rfl, rfl, rfl⟩
        · show RowK _ _ _ (.live 1 (((moS l q (i + 1)).map stD).map (·.map .d)))
          rw [show (moS l q (i + 1)).map stD = (moS l q i).map stD ++ [stD s] by rw [em, List.map_append]; rfl]
          exact rowK_snoc (x := stD s) ⟨.same _ rfl, trivial⟩
        · rfl
    · simp only [decide_eq_false_iff_not] at hc
      obtain rfl : i = l.length := by omega
      rw [take_end (Nat.le_refl _)] at htl ⊢
      have hr := rem_le hl
      have htr := tot_rem (l := l)
      have hfl : (firS l).length ≤ tot l := by rw [← htr]; exact fr_len
      have ho1 := one_ok hl honem
      have h1r := rem_le ho1
      have hf1 : (firS [one]).length ≤ 400 := Nat.le_trans fr_len h1r
      have hone20 := hl.2 one honem
      have h11a := t11 [one] ho1
      rw [out_one] at h11a
      have h14a := t14 [one] ho1
      have h16a := t16 (firS [one]) (by omega)
      rw [fir_one] at h16a
      have hmr : ∀ k, roundS (moS l q l.length) k = roundS l k := fun k => by rw [mo_round, take_end (Nat.le_refl _)]
      have h11b := t11 (moS l q l.length) (mo_ok hl (by omega))
      rw [out_eq hmr] at h11b
      have hol := out_tot (l := l)
      have hon := only_le (l := one)
      generalize moS l q l.length = more at h11b ⊢
      simp only [vx, vz, Nat.reduceAdd, Nat.reduceSub, Nat.reduceMul, Nat.reduceLeDiff, Nat.reduceLT, Nat.reduceEqDiff, Nat.reduceBEq, Int.reduceToNat, Int.reduceNeg, Int.reduceEq, Int.reduceNe, Int.reduceLE, Int.reduceLT, reduceCtorEq, ↓reduceIte]
      refine wk_in ⟨mkF 101 [(0, llV l), (5, stV one), (6, .d (.int .i64 (tot l))), (7, llV more)], []⟩ (Weak.trans (B := ⟨mkF 101 [(0, llV l), (5, stV one), (6, .d (.int .i64 (tot l))), (7, .osl 1 0 more.length 0 more.length)], _⟩) (weak_any ?_) (weak_frz2 0 (by omega) trivial (kpL_set (i := 7) rfl (sn_all (es := more.map stD) rfl (by simp) szt) rfl))) ?_
      · simp only [vx, vz, Nat.reduceAdd, Nat.reduceSub, Nat.reduceMul, Nat.reduceLeDiff, Nat.reduceLT, Nat.reduceEqDiff, Nat.reduceBEq, Int.reduceToNat, Int.reduceNeg, Int.reduceEq, Int.reduceNe, Int.reduceLE, Int.reduceLT, reduceCtorEq, ↓reduceIte]
        try trivial
      simp only [vx, vz, Nat.reduceAdd, Nat.reduceSub, Nat.reduceMul, Nat.reduceLeDiff, Nat.reduceLT, Nat.reduceEqDiff, Nat.reduceBEq, Int.reduceToNat, Int.reduceNeg, Int.reduceEq, Int.reduceNe, Int.reduceLE, Int.reduceLT, reduceCtorEq, ↓reduceIte]
      refine call_p rfl (t14 l hl) ?_
      simp only [vx, vz, Nat.reduceAdd, Nat.reduceSub, Nat.reduceMul, Nat.reduceLeDiff, Nat.reduceLT, Nat.reduceEqDiff, Nat.reduceBEq, Int.reduceToNat, Int.reduceNeg, Int.reduceEq, Int.reduceNe, Int.reduceLE, Int.reduceLT, reduceCtorEq, ↓reduceIte]
      refine call_k (v := _) (fun v hv => ?_) h11a ?_
      · simp only [List.nil_append, List.append_nil, List.mem_cons, List.not_mem_nil, or_false] at hv
        subst hv
        exact ⟨by decide, _, rfl, rfl, by simp [isD]⟩
      have hk1 : kills [V.osl 1 0 1 0 1] = [(0, .dead)] := rfl
      simp only [vx, vz, Nat.reduceAdd, Nat.reduceSub, Nat.reduceMul, Nat.reduceLeDiff, Nat.reduceLT, Nat.reduceEqDiff, Nat.reduceBEq, Int.reduceToNat, Int.reduceNeg, Int.reduceEq, Int.reduceNe, Int.reduceLE, Int.reduceLT, reduceCtorEq, ↓reduceIte, List.nil_append, hk1]
      refine call_p rfl (t12 one (by omega) hone20.2) ?_
      simp only [vx, vz, Nat.reduceAdd, Nat.reduceSub, Nat.reduceMul, Nat.reduceLeDiff, Nat.reduceLT, Nat.reduceEqDiff, Nat.reduceBEq, Int.reduceToNat, Int.reduceNeg, Int.reduceEq, Int.reduceNe, Int.reduceLE, Int.reduceLT, reduceCtorEq, ↓reduceIte]
      refine call_k (v := _) (fun v hv => ?_) h14a ?_
      · simp only [List.nil_append, List.append_nil, List.mem_cons, List.not_mem_nil, or_false] at hv
        subst hv
        exact ⟨by decide, _, rfl, rfl, by simp [isD]⟩
      have hk2 : kills [V.osl 1 1 1 0 1] = [(1, .dead)] := rfl
      simp only [vx, vz, Nat.reduceAdd, Nat.reduceSub, Nat.reduceMul, Nat.reduceLeDiff, Nat.reduceLT, Nat.reduceEqDiff, Nat.reduceBEq, Int.reduceToNat, Int.reduceNeg, Int.reduceEq, Int.reduceNe, Int.reduceLE, Int.reduceLT, reduceCtorEq, ↓reduceIte, List.nil_append, hk2]
      refine call_p rfl (h16a) ?_
      simp only [vx, vz, Nat.reduceAdd, Nat.reduceSub, Nat.reduceMul, Nat.reduceLeDiff, Nat.reduceLT, Nat.reduceEqDiff, Nat.reduceBEq, Int.reduceToNat, Int.reduceNeg, Int.reduceEq, Int.reduceNe, Int.reduceLE, Int.reduceLT, reduceCtorEq, ↓reduceIte]
      refine call_p rfl (t16 one (by omega)) ?_
      simp only [vx, vz, Nat.reduceAdd, Nat.reduceSub, Nat.reduceMul, Nat.reduceLeDiff, Nat.reduceLT, Nat.reduceEqDiff, Nat.reduceBEq, Int.reduceToNat, Int.reduceNeg, Int.reduceEq, Int.reduceNe, Int.reduceLE, Int.reduceLT, reduceCtorEq, ↓reduceIte]
      refine call_p rfl (t12 (onlyS one) (by omega) (only_ok hone20.2)) ?_
      simp only [vx, vz, Nat.reduceAdd, Nat.reduceSub, Nat.reduceMul, Nat.reduceLeDiff, Nat.reduceLT, Nat.reduceEqDiff, Nat.reduceBEq, Int.reduceToNat, Int.reduceNeg, Int.reduceEq, Int.reduceNe, Int.reduceLE, Int.reduceLT, reduceCtorEq, ↓reduceIte]
      refine call_p rfl (h11b) ?_
      simp only [vx, vz, Nat.reduceAdd, Nat.reduceSub, Nat.reduceMul, Nat.reduceLeDiff, Nat.reduceLT, Nat.reduceEqDiff, Nat.reduceBEq, Int.reduceToNat, Int.reduceNeg, Int.reduceEq, Int.reduceNe, Int.reduceLE, Int.reduceLT, reduceCtorEq, ↓reduceIte]
      refine call_p rfl (t11 l hl) ?_
      simp only [vx, vz, Nat.reduceAdd, Nat.reduceSub, Nat.reduceMul, Nat.reduceLeDiff, Nat.reduceLT, Nat.reduceEqDiff, Nat.reduceBEq, Int.reduceToNat, Int.reduceNeg, Int.reduceEq, Int.reduceNe, Int.reduceLE, Int.reduceLT, reduceCtorEq, ↓reduceIte]
      refine call_p rfl (t12 _ (by omega) (out_ok hl)) ?_
      simp only [vx, vz, Nat.reduceAdd, Nat.reduceSub, Nat.reduceMul, Nat.reduceLeDiff, Nat.reduceLT, Nat.reduceEqDiff, Nat.reduceBEq, Int.reduceToNat, Int.reduceNeg, Int.reduceEq, Int.reduceNe, Int.reduceLE, Int.reduceLT, reduceCtorEq, ↓reduceIte]
      have hfl2 := only_le (l := firS l)
      simp only [vx, vz, Nat.reduceAdd, Nat.reduceSub, Nat.reduceMul, Nat.reduceLeDiff, Nat.reduceLT, Nat.reduceEqDiff, Nat.reduceBEq, Int.reduceToNat, Int.reduceNeg, Int.reduceEq, Int.reduceNe, Int.reduceLE, Int.reduceLT, reduceCtorEq, ↓reduceIte, dt (show ((firS l).length : Int) ≤ tot l by omega)]
      refine call_p rfl (t17 (firS l) (by omega)) ?_
      simp only [vx, vz, Nat.reduceAdd, Nat.reduceSub, Nat.reduceMul, Nat.reduceLeDiff, Nat.reduceLT, Nat.reduceEqDiff, Nat.reduceBEq, Int.reduceToNat, Int.reduceNeg, Int.reduceEq, Int.reduceNe, Int.reduceLE, Int.reduceLT, reduceCtorEq, ↓reduceIte]
      simp only [vx, vz, Nat.reduceAdd, Nat.reduceSub, Nat.reduceMul, Nat.reduceLeDiff, Nat.reduceLT, Nat.reduceEqDiff, Nat.reduceBEq, Int.reduceToNat, Int.reduceNeg, Int.reduceEq, Int.reduceNe, Int.reduceLE, Int.reduceLT, reduceCtorEq, ↓reduceIte, dt (show ((onlyS (firS l)).length : Int) ≤ (firS l).length by omega)]
      refine call_p rfl (t10) ?_
      simp only [vx, vz, Nat.reduceAdd, Nat.reduceSub, Nat.reduceMul, Nat.reduceLeDiff, Nat.reduceLT, Nat.reduceEqDiff, Nat.reduceBEq, Int.reduceToNat, Int.reduceNeg, Int.reduceEq, Int.reduceNe, Int.reduceLE, Int.reduceLT, reduceCtorEq, ↓reduceIte]
end Go.Proofs.Ar
