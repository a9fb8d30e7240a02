import Derived.Test.YtfoncpamepepmaaS6
set_option linter.unusedSimpArgs false
set_option linter.unusedVariables false
namespace Go.Proofs.Ar
open Go.Vx
def atC (p : List Sl × Nat) : List V := [.d (.int .i64 p.2)]
theorem at_set {ls : List (List Sl × Nat)} {i k : Nat} {s : List Sl} : (ls.map atC).set i [V.d (.int .i64 (k : Nat))] = (ls.set i (s, k)).map atC := by rw [List.map_set]; rfl
theorem opn_drop {ls : List (List Sl × Nat)} {i : Nat} {p : List Sl × Nat} (h : ls[i]? = some p) : opn (ls.drop i) = (!finS p || opn (ls.drop (i + 1))) := by rw [drop_at h]; rfl
theorem fidx_drop {ls : List (List Sl × Nat)} {i : Nat} {p : List Sl × Nat} (h : ls[i]? = some p) : fidx busyS (ls.drop i) i = if busyS p then (i : Int) else fidx busyS (ls.drop (i + 1)) (i + 1) := by rw [drop_at h, fidx]
theorem t15 (l : List (List Sl)) (hl : okL l) : CallP Try.prog 15 [llV l] (stV (firS l)) := by
  have hm := hm
  have hl1 := hl.1
  have hr0 := rem_le hl
  refine go15 ac15 rfl ?_
  simp only [vx, vz, Nat.reduceAdd, Nat.reduceSub, Nat.reduceMul, Nat.reduceLeDiff, Nat.reduceLT, Nat.reduceEqDiff, Nat.reduceBEq, Int.reduceToNat, Int.reduceNeg, Int.reduceEq, Int.reduceNe, Int.reduceLE, Int.reduceLT, reduceCtorEq, ↓reduceIte, ac15]
  refine ⟨by omega, by omega, by omega, by omega, ?_⟩
  have hz : List.replicate l.length [V.d (.int .i64 0)] = (l.map ln0).map atC := by
    refine List.ext_getElem (by simp) fun j h1 h2 => ?_
    simp [atC, ln0]
  rw [hz]
  refine loop_st (fun s : List Sl × List (List Sl × Nat) × Nat => ⟨mkF 96 [(0, llV l), (3, .osl 1 0 l.length 0 l.length), (4, .osl 4 1 s.1.length 0 s.1.length)], [.live 1 (s.2.1.map atC), .live 4 ((s.1.map slD).map (·.map .d))]⟩) (fun s => okI l s.2.1 ∧ rem s.2.1 ≤ s.2.2 ∧ s.1.length + s.2.2 ≤ 400 ∧ s.1 ++ frS s.2.2 s.2.1 = firS l) (fun s => s.2.2) ([], l.map ln0, rem (l.map ln0)) (Weak.trans (weak_nils 4 4 rfl) (weak_any (by simp only [vx, vz, Nat.reduceAdd, Nat.reduceSub, Nat.reduceMul, Nat.reduceLeDiff, Nat.reduceLT, Nat.reduceEqDiff, Nat.reduceBEq, Int.reduceToNat, Int.reduceNeg, Int.reduceEq, Int.reduceNe, Int.reduceLE, Int.reduceLT, reduceCtorEq, ↓reduceIte]; try trivial))) ⟨by simp [okI, ln0, List.map_map, Function.comp_def], by simp, by simpa using hr0, rfl⟩ (fun s hs => ?_)
  obtain ⟨out, ls, n⟩ := s
  obtain ⟨h1, h2, h3, h4⟩ := hs
  simp only at h1 h2 h3 h4
  have hlen := okI_len h1
  simp only [vx, vz, Nat.reduceAdd, Nat.reduceSub, Nat.reduceMul, Nat.reduceLeDiff, Nat.reduceLT, Nat.reduceEqDiff, Nat.reduceBEq, Int.reduceToNat, Int.reduceNeg, Int.reduceEq, Int.reduceNe, Int.reduceLE, Int.reduceLT, reduceCtorEq, ↓reduceIte]
  refine loop_st (fun t : Nat => ⟨mkF 96 [(0, llV l), (3, .osl 1 0 l.length 0 l.length), (4, .osl 4 1 out.length 0 out.length), (5, .d (.bool (opn (ls.drop t)))), (6, .d (.int .i64 (fidx busyS (ls.drop t) t))), (7, .d (.int .i64 ((t : Int) - 1)))], [.live 1 (ls.map atC), .live 4 ((out.map slD).map (·.map .d))]⟩) (fun t => t ≤ ls.length) (fun t => t) ls.length (by
    have e1 : ls.drop ls.length = [] := drop_end (Nat.le_refl _)
    have e2 : opn [] = false := rfl
    have e3 : fidx busyS [] ls.length = -1 := rfl
    simp only [e1, e2, e3]
    refine weak_any ?_
    simp only [vx, vz, Nat.reduceAdd, Nat.reduceSub, Nat.reduceMul, Nat.reduceLeDiff, Nat.reduceLT, Nat.reduceEqDiff, Nat.reduceBEq, Int.reduceToNat, Int.reduceNeg, Int.reduceEq, Int.reduceNe, Int.reduceLE, Int.reduceLT, reduceCtorEq, ↓reduceIte]
    rw [wr_i64 (by omega) (by omega), hlen]) (by omega) (fun t ht => ?_)
  simp only [vx, vz, Nat.reduceAdd, Nat.reduceSub, Nat.reduceMul, Nat.reduceLeDiff, Nat.reduceLT, Nat.reduceEqDiff, Nat.reduceBEq, Int.reduceToNat, Int.reduceNeg, Int.reduceEq, Int.reduceNe, Int.reduceLE, Int.reduceLT, reduceCtorEq, ↓reduceIte]
  refine cond_split (fun hc => ?_) (fun hc => ?_)
  · simp only [decide_eq_true_eq] at hc
    obtain ⟨t, rfl⟩ : ∃ u, t = u + 1 := ⟨t - 1, by omega⟩
    obtain ⟨p, hp⟩ := get_ex (l := ls) (i := t) (by omega)
    have hpl := okI_mem h1 hp
    have eo := opn_drop hp
    have ef := fidx_drop hp
    have e1 : (((t + 1 : Nat) : Int) - 1) = t := by omega
    rw [e1]
    simp only [vx, vz, Nat.reduceAdd, Nat.reduceSub, Nat.reduceMul, Nat.reduceLeDiff, Nat.reduceLT, Nat.reduceEqDiff, Nat.reduceBEq, Int.reduceToNat, Int.reduceNeg, Int.reduceEq, Int.reduceNe, Int.reduceLE, Int.reduceLT, reduceCtorEq, ↓reduceIte]
    refine c_quiet rfl ?_
    simp only [vx, vz, Nat.reduceAdd, Nat.reduceSub, Nat.reduceMul, Nat.reduceLeDiff, Nat.reduceLT, Nat.reduceEqDiff, Nat.reduceBEq, Int.reduceToNat, Int.reduceNeg, Int.reduceEq, Int.reduceNe, Int.reduceLE, Int.reduceLT, reduceCtorEq, ↓reduceIte]
    refine ⟨by omega, by omega, hlen, hlen, getM_nat hp ?_⟩
    simp only [vx, vz, Nat.reduceAdd, Nat.reduceSub, Nat.reduceMul, Nat.reduceLeDiff, Nat.reduceLT, Nat.reduceEqDiff, Nat.reduceBEq, Int.reduceToNat, Int.reduceNeg, Int.reduceEq, Int.reduceNe, Int.reduceLE, Int.reduceLT, reduceCtorEq, ↓reduceIte, atC]
    refine ⟨by omega, by omega, getM_at hpl ?_⟩
    simp only [vx, vz, Nat.reduceAdd, Nat.reduceSub, Nat.reduceMul, Nat.reduceLeDiff, Nat.reduceLT, Nat.reduceEqDiff, Nat.reduceBEq, Int.reduceToNat, Int.reduceNeg, Int.reduceEq, Int.reduceNe, Int.reduceLE, Int.reduceLT, reduceCtorEq, ↓reduceIte]
    simp only [vx, vz, Nat.reduceAdd, Nat.reduceSub, Nat.reduceMul, Nat.reduceLeDiff, Nat.reduceLT, Nat.reduceEqDiff, Nat.reduceBEq, Int.reduceToNat, Int.reduceNeg, Int.reduceEq, Int.reduceNe, Int.reduceLE, Int.reduceLT, reduceCtorEq, ↓reduceIte, stD]
    refine cond_split (fun hc2 => ?_) (fun hc2 => ?_)
    · simp only [decide_eq_true_eq] at hc2
      have hf : finS p = false := decide_eq_false (by omega)
      obtain ⟨x, hx⟩ := get_ex (l := p.1) (i := p.2) (by omega)
      have hb : busyS p = !x.1 := by rw [busyS, hx]
      rw [hf, Bool.not_false, Bool.true_or] at eo
      rw [hb] at ef
      simp only [vx, vz, Nat.reduceAdd, Nat.reduceSub, Nat.reduceMul, Nat.reduceLeDiff, Nat.reduceLT, Nat.reduceEqDiff, Nat.reduceBEq, Int.reduceToNat, Int.reduceNeg, Int.reduceEq, Int.reduceNe, Int.reduceLE, Int.reduceLT, reduceCtorEq, ↓reduceIte]
      refine c_quiet rfl ?_
      simp only [vx, vz, Nat.reduceAdd, Nat.reduceSub, Nat.reduceMul, Nat.reduceLeDiff, Nat.reduceLT, Nat.reduceEqDiff, Nat.reduceBEq, Int.reduceToNat, Int.reduceNeg, Int.reduceEq, Int.reduceNe, Int.reduceLE, Int.reduceLT, reduceCtorEq, ↓reduceIte]
      refine ⟨by omega, by omega, getM_at hpl ?_⟩
      simp only [vx, vz, Nat.reduceAdd, Nat.reduceSub, Nat.reduceMul, Nat.reduceLeDiff, Nat.reduceLT, Nat.reduceEqDiff, Nat.reduceBEq, Int.reduceToNat, Int.reduceNeg, Int.reduceEq, Int.reduceNe, Int.reduceLE, Int.reduceLT, reduceCtorEq, ↓reduceIte]
      simp only [vx, vz, Nat.reduceAdd, Nat.reduceSub, Nat.reduceMul, Nat.reduceLeDiff, Nat.reduceLT, Nat.reduceEqDiff, Nat.reduceBEq, Int.reduceToNat, Int.reduceNeg, Int.reduceEq, Int.reduceNe, Int.reduceLE, Int.reduceLT, reduceCtorEq, ↓reduceIte, stD]
      refine ⟨by omega, by omega, hlen, hlen, getM_nat hp ?_⟩
      simp only [vx, vz, Nat.reduceAdd, Nat.reduceSub, Nat.reduceMul, Nat.reduceLeDiff, Nat.reduceLT, Nat.reduceEqDiff, Nat.reduceBEq, Int.reduceToNat, Int.reduceNeg, Int.reduceEq, Int.reduceNe, Int.reduceLE, Int.reduceLT, reduceCtorEq, ↓reduceIte, atC]
      refine ⟨by omega, by omega, getM_nat hx ?_⟩
      simp only [vx, vz, Nat.reduceAdd, Nat.reduceSub, Nat.reduceMul, Nat.reduceLeDiff, Nat.reduceLT, Nat.reduceEqDiff, Nat.reduceBEq, Int.reduceToNat, Int.reduceNeg, Int.reduceEq, Int.reduceNe, Int.reduceLE, Int.reduceLT, reduceCtorEq, ↓reduceIte, slD]
      cases hxi : x.1 with
      | true =>
        rw [hxi, Bool.not_true, if_neg (by decide)] at ef
        simp only [vx, vz, Nat.reduceAdd, Nat.reduceSub, Nat.reduceMul, Nat.reduceLeDiff, Nat.reduceLT, Nat.reduceEqDiff, Nat.reduceBEq, Int.reduceToNat, Int.reduceNeg, Int.reduceEq, Int.reduceNe, Int.reduceLE, Int.reduceLT, reduceCtorEq, ↓reduceIte]
        refine ls_n t (by omega) ?_ (by omega)
        simp only [eo, ef]
        refine weak_any ?_
        simp only [vx, vz, Nat.reduceAdd, Nat.reduceSub, Nat.reduceMul, Nat.reduceLeDiff, Nat.reduceLT, Nat.reduceEqDiff, Nat.reduceBEq, Int.reduceToNat, Int.reduceNeg, Int.reduceEq, Int.reduceNe, Int.reduceLE, Int.reduceLT, reduceCtorEq, ↓reduceIte]
        rw [wr_i64 (by omega) (by omega)]
        try trivial
      | false =>
        rw [hxi, Bool.not_false, if_pos rfl] at ef
        simp only [vx, vz, Nat.reduceAdd, Nat.reduceSub, Nat.reduceMul, Nat.reduceLeDiff, Nat.reduceLT, Nat.reduceEqDiff, Nat.reduceBEq, Int.reduceToNat, Int.reduceNeg, Int.reduceEq, Int.reduceNe, Int.reduceLE, Int.reduceLT, reduceCtorEq, ↓reduceIte]
        refine ls_n t (by omega) ?_ (by omega)
        simp only [eo, ef]
        refine weak_any ?_
        simp only [vx, vz, Nat.reduceAdd, Nat.reduceSub, Nat.reduceMul, Nat.reduceLeDiff, Nat.reduceLT, Nat.reduceEqDiff, Nat.reduceBEq, Int.reduceToNat, Int.reduceNeg, Int.reduceEq, Int.reduceNe, Int.reduceLE, Int.reduceLT, reduceCtorEq, ↓reduceIte]
        rw [wr_i64 (by omega) (by omega)]
        try trivial
    · simp only [decide_eq_false_iff_not] at hc2
      have hf : finS p = true := decide_eq_true (by omega)
      have hb : busyS p = false := by rw [busyS, List.getElem?_eq_none (by omega)]
      rw [hf, Bool.not_true, Bool.false_or] at eo
      rw [hb, if_neg (by decide)] at ef
      simp only [vx, vz, Nat.reduceAdd, Nat.reduceSub, Nat.reduceMul, Nat.reduceLeDiff, Nat.reduceLT, Nat.reduceEqDiff, Nat.reduceBEq, Int.reduceToNat, Int.reduceNeg, Int.reduceEq, Int.reduceNe, Int.reduceLE, Int.reduceLT, reduceCtorEq, ↓reduceIte]
      refine ls_n t (by omega) ?_ (by omega)
      simp only [eo, ef]
      refine weak_any ?_
      simp only [vx, vz, Nat.reduceAdd, Nat.reduceSub, Nat.reduceMul, Nat.reduceLeDiff, Nat.reduceLT, Nat.reduceEqDiff, Nat.reduceBEq, Int.reduceToNat, Int.reduceNeg, Int.reduceEq, Int.reduceNe, Int.reduceLE, Int.reduceLT, reduceCtorEq, ↓reduceIte]
      rw [wr_i64 (by omega) (by omega)]
      try trivial
  · simp only [decide_eq_false_iff_not] at hc
    obtain rfl : t = 0 := by omega
    rw [List.drop_zero]
    cases ho : opn ls with
    | false =>
      have hi : fidx busyS ls 0 = -1 := by
        rcases fidx_spec (q := busyS) (l := ls) (k := 0) with ⟨hi, _⟩ | ⟨i, p, _, hp, hb⟩
        · exact hi
        · obtain ⟨x, hx, _⟩ := busy_some hb
          have hxl := (List.getElem?_eq_some_iff.1 hx).1
          have : finS p = true := by
            have := List.any_eq_false.1 ho p (List.mem_of_getElem? hp)
            simpa using this
          have := of_decide_eq_true this
          omega
      rw [fr_done hi ho, List.append_nil] at h4
      rw [← h4]
      simp only [vx, vz, Nat.reduceAdd, Nat.reduceSub, Nat.reduceMul, Nat.reduceLeDiff, Nat.reduceLT, Nat.reduceEqDiff, Nat.reduceBEq, Int.reduceToNat, Int.reduceNeg, Int.reduceEq, Int.reduceNe, Int.reduceLE, Int.reduceLT, reduceCtorEq, ↓reduceIte]
      exact sn_all (es := out.map slD) rfl (by simp) szl
    | true =>
      rcases fidx_spec (q := busyS) (l := ls) (k := 0) with ⟨hi, hno⟩ | ⟨i, p, hi, hp, hb⟩
      · have hri := rem_inc (ls := ls)
        have hri2 := hri.2 ho
        obtain ⟨n, rfl⟩ : ∃ m, n = m + 1 := ⟨n - 1, by omega⟩
        rw [fr_idle hi, ho, if_pos rfl] at h4
        rw [hi]
        simp only [vx, vz, Nat.reduceAdd, Nat.reduceSub, Nat.reduceMul, Nat.reduceLeDiff, Nat.reduceLT, Nat.reduceEqDiff, Nat.reduceBEq, Int.reduceToNat, Int.reduceNeg, Int.reduceEq, Int.reduceNe, Int.reduceLE, Int.reduceLT, reduceCtorEq, ↓reduceIte]
        refine ⟨by unfold maxBytes; omega, ?_⟩
        refine loop_st (fun i : Nat => ⟨mkF 96 [(0, llV l), (3, .osl 1 0 l.length 0 l.length), (4, .osl 4 1 (out.length + 1) 0 (out.length + 1)), (8, .d (.int .i64 i))], [.live 1 ((incI ls i).map atC), .live 4 (((out ++ [idl]).map slD).map (·.map .d))]⟩) (fun i => i ≤ ls.length) (fun i => ls.length - i) 0 (by
          simp only [incI_zero]
          refine Weak.trans (weak_any ?_) (weak_frz2 2 (by omega) ⟨.same _ ?_, ?_, trivial⟩ (kpL_refl ?_))
          · simp only [vx, vz, Nat.reduceAdd, Nat.reduceSub, Nat.reduceMul, Nat.reduceLeDiff, Nat.reduceLT, Nat.reduceEqDiff, Nat.reduceBEq, Int.reduceToNat, Int.reduceNeg, Int.reduceEq, Int.reduceNe, Int.reduceLE, Int.reduceLT, reduceCtorEq, ↓reduceIte]
            try trivial
          · intro e he v hv
            obtain ⟨p, _, rfl⟩ := List.mem_map.1 he
            simp [atC] at hv
            subst hv; rfl
          · show RowK _ _ _ (.live 4 (((out ++ [idl]).map slD).map (·.map .d)))
            rw [show (out ++ [idl]).map slD = out.map slD ++ [slD idl] by rw [List.map_append]; rfl]
            exact rowK_snoc (x := slD idl) ⟨.same _ rfl, .snap _ _ (.nils 1), .snap _ _ (.nils 1), .same _ rfl, trivial⟩
          · rfl) (by omega) (fun i hi2 => ?_)
        have hil := incI_len (ls := ls) hi2
        simp only [vx, vz, Nat.reduceAdd, Nat.reduceSub, Nat.reduceMul, Nat.reduceLeDiff, Nat.reduceLT, Nat.reduceEqDiff, Nat.reduceBEq, Int.reduceToNat, Int.reduceNeg, Int.reduceEq, Int.reduceNe, Int.reduceLE, Int.reduceLT, reduceCtorEq, ↓reduceIte]
        refine cond_split (fun hc2 => ?_) (fun hc2 => ?_)
        · simp only [decide_eq_true_eq] at hc2
          obtain ⟨p, hp⟩ := get_ex (l := ls) (i := i) (by omega)
          have hat := incI_at hp
          have hpl := okI_mem h1 hp
          have hpn := (hl.2 p.1 (List.mem_of_getElem? hpl)).1
          simp only [vx, vz, Nat.reduceAdd, Nat.reduceSub, Nat.reduceMul, Nat.reduceLeDiff, Nat.reduceLT, Nat.reduceEqDiff, Nat.reduceBEq, Int.reduceToNat, Int.reduceNeg, Int.reduceEq, Int.reduceNe, Int.reduceLE, Int.reduceLT, reduceCtorEq, ↓reduceIte]
          refine c_quiet rfl ?_
          simp only [vx, vz, Nat.reduceAdd, Nat.reduceSub, Nat.reduceMul, Nat.reduceLeDiff, Nat.reduceLT, Nat.reduceEqDiff, Nat.reduceBEq, Int.reduceToNat, Int.reduceNeg, Int.reduceEq, Int.reduceNe, Int.reduceLE, Int.reduceLT, reduceCtorEq, ↓reduceIte]
          refine ⟨by omega, by omega, by omega, by omega, getM_nat hat ?_⟩
          simp only [vx, vz, Nat.reduceAdd, Nat.reduceSub, Nat.reduceMul, Nat.reduceLeDiff, Nat.reduceLT, Nat.reduceEqDiff, Nat.reduceBEq, Int.reduceToNat, Int.reduceNeg, Int.reduceEq, Int.reduceNe, Int.reduceLE, Int.reduceLT, reduceCtorEq, ↓reduceIte, atC]
          refine ⟨by omega, by omega, getM_at hpl ?_⟩
          simp only [vx, vz, Nat.reduceAdd, Nat.reduceSub, Nat.reduceMul, Nat.reduceLeDiff, Nat.reduceLT, Nat.reduceEqDiff, Nat.reduceBEq, Int.reduceToNat, Int.reduceNeg, Int.reduceEq, Int.reduceNe, Int.reduceLE, Int.reduceLT, reduceCtorEq, ↓reduceIte]
          simp only [vx, vz, Nat.reduceAdd, Nat.reduceSub, Nat.reduceMul, Nat.reduceLeDiff, Nat.reduceLT, Nat.reduceEqDiff, Nat.reduceBEq, Int.reduceToNat, Int.reduceNeg, Int.reduceEq, Int.reduceNe, Int.reduceLE, Int.reduceLT, reduceCtorEq, ↓reduceIte, stD]
          refine cond_split (fun hc3 => ?_) (fun hc3 => ?_)
          · simp only [decide_eq_true_eq] at hc3
            have hset : (incI ls i).set i (p.1, p.2 + 1) = incI ls (i + 1) := by
              rw [← incI_set hp, show incS p = (p.1, p.2 + 1) by rw [incS, if_pos (by omega)]; rfl]
            simp only [vx, vz, Nat.reduceAdd, Nat.reduceSub, Nat.reduceMul, Nat.reduceLeDiff, Nat.reduceLT, Nat.reduceEqDiff, Nat.reduceBEq, Int.reduceToNat, Int.reduceNeg, Int.reduceEq, Int.reduceNe, Int.reduceLE, Int.reduceLT, reduceCtorEq, ↓reduceIte]
            refine ⟨by omega, by omega, by omega, by omega, getM_nat hat ?_⟩
            simp only [vx, vz, Nat.reduceAdd, Nat.reduceSub, Nat.reduceMul, Nat.reduceLeDiff, Nat.reduceLT, Nat.reduceEqDiff, Nat.reduceBEq, Int.reduceToNat, Int.reduceNeg, Int.reduceEq, Int.reduceNe, Int.reduceLE, Int.reduceLT, reduceCtorEq, ↓reduceIte, atC]
            refine ⟨by omega, by omega, by omega, by omega, getM_nat hat ?_⟩
            simp only [vx, vz, Nat.reduceAdd, Nat.reduceSub, Nat.reduceMul, Nat.reduceLeDiff, Nat.reduceLT, Nat.reduceEqDiff, Nat.reduceBEq, Int.reduceToNat, Int.reduceNeg, Int.reduceEq, Int.reduceNe, Int.reduceLE, Int.reduceLT, reduceCtorEq, ↓reduceIte, atC]
            have hse := at_set (ls := incI ls i) (i := i) (k := p.2 + 1) (s := p.1)
            rw [hset] at hse
            rw [wr_i64 (n := (p.2 : Int) + 1) (by omega) (by omega), show (p.2 : Int) + 1 = ((p.2 + 1 : Nat) : Int) from rfl, hse]
            refine ls_n (i + 1) (by omega) (weak_any ?_) (by omega)
            simp only [vx, vz, Nat.reduceAdd, Nat.reduceSub, Nat.reduceMul, Nat.reduceLeDiff, Nat.reduceLT, Nat.reduceEqDiff, Nat.reduceBEq, Int.reduceToNat, Int.reduceNeg, Int.reduceEq, Int.reduceNe, Int.reduceLE, Int.reduceLT, reduceCtorEq, ↓reduceIte]
            rw [wr_i64 (by omega) (by omega)]
            try trivial
          · simp only [decide_eq_false_iff_not] at hc3
            have hset : incI ls (i + 1) = incI ls i := by
              rw [← incI_set hp, show incS p = p by rw [incS, if_neg (by omega)], set_same hat]
            simp only [vx, vz, Nat.reduceAdd, Nat.reduceSub, Nat.reduceMul, Nat.reduceLeDiff, Nat.reduceLT, Nat.reduceEqDiff, Nat.reduceBEq, Int.reduceToNat, Int.reduceNeg, Int.reduceEq, Int.reduceNe, Int.reduceLE, Int.reduceLT, reduceCtorEq, ↓reduceIte]
            refine ls_n (i + 1) (by omega) ?_ (by omega)
            simp only [hset]
            refine weak_any ?_
            simp only [vx, vz, Nat.reduceAdd, Nat.reduceSub, Nat.reduceMul, Nat.reduceLeDiff, Nat.reduceLT, Nat.reduceEqDiff, Nat.reduceBEq, Int.reduceToNat, Int.reduceNeg, Int.reduceEq, Int.reduceNe, Int.reduceLE, Int.reduceLT, reduceCtorEq, ↓reduceIte]
            rw [wr_i64 (by omega) (by omega)]
            try trivial
        · simp only [decide_eq_false_iff_not] at hc2
          rw [incI_end (by omega)]
          simp only [vx, vz, Nat.reduceAdd, Nat.reduceSub, Nat.reduceMul, Nat.reduceLeDiff, Nat.reduceLT, Nat.reduceEqDiff, Nat.reduceBEq, Int.reduceToNat, Int.reduceNeg, Int.reduceEq, Int.reduceNe, Int.reduceLE, Int.reduceLT, reduceCtorEq, ↓reduceIte]
          refine ls_n (out ++ [idl], ls.map incS, n) (show n < n + 1 by omega) (weak_any ?_) ⟨okI_inc h1, show rem (ls.map incS) ≤ n by omega, show (out ++ [idl]).length + n ≤ 400 by simp; omega, by rw [← h4]; simp⟩
          simp only [vx, vz, Nat.reduceAdd, Nat.reduceSub, Nat.reduceMul, Nat.reduceLeDiff, Nat.reduceLT, Nat.reduceEqDiff, Nat.reduceBEq, Int.reduceToNat, Int.reduceNeg, Int.reduceEq, Int.reduceNe, Int.reduceLE, Int.reduceLT, reduceCtorEq, ↓reduceIte]
          try trivial
      · obtain ⟨x, hx, hxi⟩ := busy_some hb
        rw [Nat.zero_add] at hi
        have hpl := okI_mem h1 hp
        have hil := (List.getElem?_eq_some_iff.1 hp).1
        have hxl := (List.getElem?_eq_some_iff.1 hx).1
        have hps := hl.2 p.1 (List.mem_of_getElem? hpl)
        have hrm := rem_busy hp hx
        obtain ⟨n, rfl⟩ : ∃ m, n = m + 1 := ⟨n - 1, by omega⟩
        rw [fr_busy hi hp hx] at h4
        rw [hi]
        simp only [vx, vz, Nat.reduceAdd, Nat.reduceSub, Nat.reduceMul, Nat.reduceLeDiff, Nat.reduceLT, Nat.reduceEqDiff, Nat.reduceBEq, Int.reduceToNat, Int.reduceNeg, Int.reduceEq, Int.reduceNe, Int.reduceLE, Int.reduceLT, reduceCtorEq, ↓reduceIte, dt (show (0 : Int) ≤ i by omega)]
        refine c_draw ?_
        simp only [vx, vz, Nat.reduceAdd, Nat.reduceSub, Nat.reduceMul, Nat.reduceLeDiff, Nat.reduceLT, Nat.reduceEqDiff, Nat.reduceBEq, Int.reduceToNat, Int.reduceNeg, Int.reduceEq, Int.reduceNe, Int.reduceLE, Int.reduceLT, reduceCtorEq, ↓reduceIte]
        repeat (refine d_k rfl rfl ?_; simp only [vx, vz, Nat.reduceAdd, Nat.reduceSub, Nat.reduceMul, Nat.reduceLeDiff, Nat.reduceLT, Nat.reduceEqDiff, Nat.reduceBEq, Int.reduceToNat, Int.reduceNeg, Int.reduceEq, Int.reduceNe, Int.reduceLE, Int.reduceLT, reduceCtorEq, ↓reduceIte])
        refine ⟨by omega, by omega, getM_at hpl ?_⟩
        simp only [vx, vz, Nat.reduceAdd, Nat.reduceSub, Nat.reduceMul, Nat.reduceLeDiff, Nat.reduceLT, Nat.reduceEqDiff, Nat.reduceBEq, Int.reduceToNat, Int.reduceNeg, Int.reduceEq, Int.reduceNe, Int.reduceLE, Int.reduceLT, reduceCtorEq, ↓reduceIte]
        simp only [vx, vz, Nat.reduceAdd, Nat.reduceSub, Nat.reduceMul, Nat.reduceLeDiff, Nat.reduceLT, Nat.reduceEqDiff, Nat.reduceBEq, Int.reduceToNat, Int.reduceNeg, Int.reduceEq, Int.reduceNe, Int.reduceLE, Int.reduceLT, reduceCtorEq, ↓reduceIte, stD]
        repeat (refine d_k rfl rfl ?_; simp only [vx, vz, Nat.reduceAdd, Nat.reduceSub, Nat.reduceMul, Nat.reduceLeDiff, Nat.reduceLT, Nat.reduceEqDiff, Nat.reduceBEq, Int.reduceToNat, Int.reduceNeg, Int.reduceEq, Int.reduceNe, Int.reduceLE, Int.reduceLT, reduceCtorEq, ↓reduceIte])
        refine ⟨by omega, by omega, hlen, ?_⟩
        repeat (refine d_k rfl rfl ?_; simp only [vx, vz, Nat.reduceAdd, Nat.reduceSub, Nat.reduceMul, Nat.reduceLeDiff, Nat.reduceLT, Nat.reduceEqDiff, Nat.reduceBEq, Int.reduceToNat, Int.reduceNeg, Int.reduceEq, Int.reduceNe, Int.reduceLE, Int.reduceLT, reduceCtorEq, ↓reduceIte])
        refine ⟨hlen, getM_nat hp ?_⟩
        simp only [vx, vz, Nat.reduceAdd, Nat.reduceSub, Nat.reduceMul, Nat.reduceLeDiff, Nat.reduceLT, Nat.reduceEqDiff, Nat.reduceBEq, Int.reduceToNat, Int.reduceNeg, Int.reduceEq, Int.reduceNe, Int.reduceLE, Int.reduceLT, reduceCtorEq, ↓reduceIte, atC]
        repeat (refine d_k rfl rfl ?_; simp only [vx, vz, Nat.reduceAdd, Nat.reduceSub, Nat.reduceMul, Nat.reduceLeDiff, Nat.reduceLT, Nat.reduceEqDiff, Nat.reduceBEq, Int.reduceToNat, Int.reduceNeg, Int.reduceEq, Int.reduceNe, Int.reduceLE, Int.reduceLT, reduceCtorEq, ↓reduceIte])
        refine ⟨by omega, by omega, getM_nat hx ?_⟩
        simp only [vx, vz, Nat.reduceAdd, Nat.reduceSub, Nat.reduceMul, Nat.reduceLeDiff, Nat.reduceLT, Nat.reduceEqDiff, Nat.reduceBEq, Int.reduceToNat, Int.reduceNeg, Int.reduceEq, Int.reduceNe, Int.reduceLE, Int.reduceLT, reduceCtorEq, ↓reduceIte, slD]
        repeat (refine d_k rfl rfl ?_; simp only [vx, vz, Nat.reduceAdd, Nat.reduceSub, Nat.reduceMul, Nat.reduceLeDiff, Nat.reduceLT, Nat.reduceEqDiff, Nat.reduceBEq, Int.reduceToNat, Int.reduceNeg, Int.reduceEq, Int.reduceNe, Int.reduceLE, Int.reduceLT, reduceCtorEq, ↓reduceIte])
        refine ⟨by unfold maxBytes; omega, ?_⟩
        repeat (refine d_k rfl rfl ?_; simp only [vx, vz, Nat.reduceAdd, Nat.reduceSub, Nat.reduceMul, Nat.reduceLeDiff, Nat.reduceLT, Nat.reduceEqDiff, Nat.reduceBEq, Int.reduceToNat, Int.reduceNeg, Int.reduceEq, Int.reduceNe, Int.reduceLE, Int.reduceLT, reduceCtorEq, ↓reduceIte])
        refine ⟨by omega, by omega, hlen, hlen, getM_nat hp ?_⟩
        simp only [vx, vz, Nat.reduceAdd, Nat.reduceSub, Nat.reduceMul, Nat.reduceLeDiff, Nat.reduceLT, Nat.reduceEqDiff, Nat.reduceBEq, Int.reduceToNat, Int.reduceNeg, Int.reduceEq, Int.reduceNe, Int.reduceLE, Int.reduceLT, reduceCtorEq, ↓reduceIte, atC]
        refine ⟨by omega, by omega, hlen, hlen, getM_nat hp ?_⟩
        simp only [vx, vz, Nat.reduceAdd, Nat.reduceSub, Nat.reduceMul, Nat.reduceLeDiff, Nat.reduceLT, Nat.reduceEqDiff, Nat.reduceBEq, Int.reduceToNat, Int.reduceNeg, Int.reduceEq, Int.reduceNe, Int.reduceLE, Int.reduceLT, reduceCtorEq, ↓reduceIte, atC]
        have hse := at_set (ls := ls) (i := i) (k := p.2 + 1) (s := p.1)
        rw [wr_i64 (n := (p.2 : Int) + 1) (by omega) (by omega), show (p.2 : Int) + 1 = ((p.2 + 1 : Nat) : Int) from rfl, hse]
        refine ls_n (out ++ [x], ls.set i (adv p), n) (show n < n + 1 by omega) (Weak.trans (weak_any ?_) (weak_frz2 2 (by omega) ⟨.same _ ?_, ?_, trivial⟩ (kpL_refl ?_))) ⟨okI_set h1 hp, show rem (ls.set i (adv p)) ≤ n by omega, show (out ++ [x]).length + n ≤ 400 by simp; omega, by rw [← h4]; simp⟩
        · simp only [vx, vz, Nat.reduceAdd, Nat.reduceSub, Nat.reduceMul, Nat.reduceLeDiff, Nat.reduceLT, Nat.reduceEqDiff, Nat.reduceBEq, Int.reduceToNat, Int.reduceNeg, Int.reduceEq, Int.reduceNe, Int.reduceLE, Int.reduceLT, reduceCtorEq, ↓reduceIte]
          try trivial
        · intro e he v hv
          obtain ⟨p, _, rfl⟩ := List.mem_map.1 he
          simp [atC] at hv
          subst hv; rfl
        · show RowK _ _ _ (.live 4 (((out ++ [x]).map slD).map (·.map .d)))
          rw [show (out ++ [x]).map slD = out.map slD ++ [slD x] by rw [List.map_append]; rfl]
          exact rowK_snoc (x := slD x) ⟨.same _ rfl, .same _ rfl, .same _ rfl, .same _ rfl, trivial⟩
        · rfl
end Go.Proofs.Ar
