import Derived.Test.YtkoonehfphkmaaaR9
set_option linter.unusedSimpArgs false
set_option linter.unusedVariables false
namespace Go.Proofs.Cr
open Go.Vx
def allH (hit : List (List Int)) : List Int → List Int → Bool
  | p :: ps, b :: bs => hasS (hitAt hit p) b && allH hit ps bs
  | _, _ => true
theorem allH_nil {hit : List (List Int)} {l : List Int} : allH hit [] l = true := by cases l <;> rfl
def okK (m : Md) (i : Int) (hit : List (List Int)) (c : Cs) (k : Nat) : Bool := !excS m i (tupS (ks m c) k) && allH hit c.2.1 (tupS (ks m c) k)
def refL (m : Md) (i : Int) (hit : List (List Int)) (c : Cs) (n : Nat) : List Int := ((List.range n).filter (okK m i hit c)).map fun k : Nat => (k : Int)
def refS (m : Md) (i : Int) (hit : List (List Int)) : List Int := match crOf m i with
  | none => []
  | some c => if usb m i = true ∧ hit.length = m.1.length then refL m i hit c (pr (ks m c)) else []
theorem refS_no {m : Md} {i : Int} {hit : List (List Int)} (h : ¬ (usb m i = true ∧ hit.length = m.1.length)) : refS m i hit = [] := by
  rw [refS]; split
  · rfl
  · rw [if_neg h]
theorem refS_at {m : Md} {i : Int} {hit : List (List Int)} {c : Cs} (h : crOf m i = some c) (hu : usb m i = true) (hl : hit.length = m.1.length) : refS m i hit = refL m i hit c (pr (ks m c)) := by
  rw [refS, h]; simp only [if_pos (And.intro hu hl)]
theorem refL_succ {m : Md} {i : Int} {hit : List (List Int)} {c : Cs} {n : Nat} : refL m i hit c (n + 1) = if okK m i hit c n then refL m i hit c n ++ [(n : Int)] else refL m i hit c n := by
  rw [refL, List.range_succ, List.filter_append, List.map_append]
  cases h : okK m i hit c n <;> simp [refL, h]
theorem refL_len {m : Md} {i : Int} {hit : List (List Int)} {c : Cs} {n : Nat} : (refL m i hit c n).length ≤ n := by
  rw [refL, List.length_map]
  exact Nat.le_trans (List.length_filter_le _ _) (by simp)
theorem t22 (m : Md) (i : Int) (hit : List (List Int)) (h : Sm m i) (hsz : szS m i ≤ 500) (okh : okH hit) : CallP Try.prog 22 [mdV m, .d (.int .i64 i), llV hit] (isV (refS m i hit)) := by
  have hm := hm
  have ok := h.ok
  have hml := ok.1
  have hhl := okh.1
  refine go22 ac22 rfl ?_
  simp only [vx, vz, Nat.reduceAdd, Nat.reduceSub, Nat.reduceMul, Nat.reduceLeDiff, Nat.reduceLT, Nat.reduceEqDiff, Nat.reduceBEq, Int.reduceToNat, Int.reduceNeg, Int.reduceEq, Int.reduceNe, Int.reduceLE, Int.reduceLT, reduceCtorEq, ↓reduceIte, ac22]
  refine call_p rfl (t29 m i ok) ?_
  simp only [vx, vz, Nat.reduceAdd, Nat.reduceSub, Nat.reduceMul, Nat.reduceLeDiff, Nat.reduceLT, Nat.reduceEqDiff, Nat.reduceBEq, Int.reduceToNat, Int.reduceNeg, Int.reduceEq, Int.reduceNe, Int.reduceLE, Int.reduceLT, reduceCtorEq, ↓reduceIte]
  rcases usb_cases m i with ⟨h1, h2⟩ | ⟨i, c, rfl, hc, hu, h1, h2, h3⟩
  · rw [refS_no (by simp [h1])]
    simp only [vx, vz, Nat.reduceAdd, Nat.reduceSub, Nat.reduceMul, Nat.reduceLeDiff, Nat.reduceLT, Nat.reduceEqDiff, Nat.reduceBEq, Int.reduceToNat, Int.reduceNeg, Int.reduceEq, Int.reduceNe, Int.reduceLE, Int.reduceLT, reduceCtorEq, ↓reduceIte, h1]
    exact .nils 1
  · simp only [vx, vz, Nat.reduceAdd, Nat.reduceSub, Nat.reduceMul, Nat.reduceLeDiff, Nat.reduceLT, Nat.reduceEqDiff, Nat.reduceBEq, Int.reduceToNat, Int.reduceNeg, Int.reduceEq, Int.reduceNe, Int.reduceLE, Int.reduceLT, reduceCtorEq, ↓reduceIte, h1]
    refine cond_split (fun hc2 => ?_) (fun hc2 => ?_)
    · have hc2 : ¬ hit.length = m.1.length := by simp at hc2; omega
      rw [refS_no (by simp [hc2])]
      simp only [vx, vz, Nat.reduceAdd, Nat.reduceSub, Nat.reduceMul, Nat.reduceLeDiff, Nat.reduceLT, Nat.reduceEqDiff, Nat.reduceBEq, Int.reduceToNat, Int.reduceNeg, Int.reduceEq, Int.reduceNe, Int.reduceLE, Int.reduceLT, reduceCtorEq, ↓reduceIte]
      exact .nils 1
    · have hc2 : hit.length = m.1.length := by
        simp at hc2; omega
      have h4 := h.pts c h2
      have hil := (List.getElem?_eq_some_iff.1 hc).1
      have hil2 := ok.2.1
      have h14 := t14 m i h
      have h12 := fun k => t12 m i k h
      rw [h3] at h14 hsz
      rw [refS_at h2 h1 hc2]
      generalize hN : pr (ks m c) = N at h14 h3 hsz ⊢
      simp only [vx, vz, Nat.reduceAdd, Nat.reduceSub, Nat.reduceMul, Nat.reduceLeDiff, Nat.reduceLT, Nat.reduceEqDiff, Nat.reduceBEq, Int.reduceToNat, Int.reduceNeg, Int.reduceEq, Int.reduceNe, Int.reduceLE, Int.reduceLT, reduceCtorEq, ↓reduceIte]
      refine call_p rfl (h14) ?_
      simp only [vx, vz, Nat.reduceAdd, Nat.reduceSub, Nat.reduceMul, Nat.reduceLeDiff, Nat.reduceLT, Nat.reduceEqDiff, Nat.reduceBEq, Int.reduceToNat, Int.reduceNeg, Int.reduceEq, Int.reduceNe, Int.reduceLE, Int.reduceLT, reduceCtorEq, ↓reduceIte]
      refine loop_st (fun k : Nat => ⟨mkF 79 [(1, .d (.int .i64 i)), (2, llV hit), (3, .optr 2 0 1 0 0), (7, .osl 1 1 (refL m i hit c k).length 0 (refL m i hit c k).length), (8, .d (.int .i64 N)), (9, .d (.int .i64 k))], [.live 2 [[.d (.sl 6 (m.1.map ptD)), .d (.sl 3 (m.2.map crD))]], .live 1 (((refL m i hit c k).map iD).map (·.map .d))]⟩) (fun k => k ≤ N) (fun k => N - k) 0 (Weak.trans (weak_nils 7 1 rfl) (weak_any (by simp only [vx, vz, Nat.reduceAdd, Nat.reduceSub, Nat.reduceMul, Nat.reduceLeDiff, Nat.reduceLT, Nat.reduceEqDiff, Nat.reduceBEq, Int.reduceToNat, Int.reduceNeg, Int.reduceEq, Int.reduceNe, Int.reduceLE, Int.reduceLT, reduceCtorEq, ↓reduceIte]; try trivial))) (by omega) (fun k hk => ?_)
      simp only [vx, vz, Nat.reduceAdd, Nat.reduceSub, Nat.reduceMul, Nat.reduceLeDiff, Nat.reduceLT, Nat.reduceEqDiff, Nat.reduceBEq, Int.reduceToNat, Int.reduceNeg, Int.reduceEq, Int.reduceNe, Int.reduceLE, Int.reduceLT, reduceCtorEq, ↓reduceIte]
      refine cond_split (fun hc3 => ?_) (fun hc3 => ?_)
      · simp only [decide_eq_true_eq] at hc3
        obtain ⟨_, c', q, hi, hq, _, _, _, hcr, h8, h9⟩ := szS_some (m := m) (i := i) (k := k) (by omega)
        obtain rfl : k = q := by omega
        obtain rfl : c = c' := by rw [h2] at hcr; injection hcr
        have h12 := h12 k
        rw [h9] at h12
        have hsu := refL_succ (m := m) (i := i) (hit := hit) (c := c) (n := k)
        have hrl := refL_len (m := m) (i := i) (hit := hit) (c := c) (n := k)
        have htl : (tupS (ks m c) k).length = c.2.1.length := by rw [tupS_len, ks, List.length_map]
        have h19 := t19 m i (tupS (ks m c) k) h (by have := mL4; omega)
        have hok : okK m i hit c k = (!excS m i (tupS (ks m c) k) && allH hit c.2.1 (tupS (ks m c) k)) := rfl
        have hix : ∀ (q : Nat) (b : Int), (tupS (ks m c) k)[q]? = some b → True := fun _ _ _ => trivial
        generalize tupS (ks m c) k = l at h12 h19 htl hok
        simp only [vx, vz, Nat.reduceAdd, Nat.reduceSub, Nat.reduceMul, Nat.reduceLeDiff, Nat.reduceLT, Nat.reduceEqDiff, Nat.reduceBEq, Int.reduceToNat, Int.reduceNeg, Int.reduceEq, Int.reduceNe, Int.reduceLE, Int.reduceLT, reduceCtorEq, ↓reduceIte]
        refine call_p rfl (h12) ?_
        simp only [vx, vz, Nat.reduceAdd, Nat.reduceSub, Nat.reduceMul, Nat.reduceLeDiff, Nat.reduceLT, Nat.reduceEqDiff, Nat.reduceBEq, Int.reduceToNat, Int.reduceNeg, Int.reduceEq, Int.reduceNe, Int.reduceLE, Int.reduceLT, reduceCtorEq, ↓reduceIte]
        refine call_p rfl (h19) ?_
        simp only [vx, vz, Nat.reduceAdd, Nat.reduceSub, Nat.reduceMul, Nat.reduceLeDiff, Nat.reduceLT, Nat.reduceEqDiff, Nat.reduceBEq, Int.reduceToNat, Int.reduceNeg, Int.reduceEq, Int.reduceNe, Int.reduceLE, Int.reduceLT, reduceCtorEq, ↓reduceIte]
        refine loop_st (fun s : Nat × Bool => ⟨mkF 79 [(1, .d (.int .i64 i)), (2, llV hit), (3, .optr 2 0 1 0 0), (7, .osl 1 1 (refL m i hit c k).length 0 (refL m i hit c k).length), (8, .d (.int .i64 N)), (9, .d (.int .i64 k)), (10, isV l), (12, .d (.bool s.2)), (13, .d (.int .i64 s.1))], [.live 2 [[.d (.sl 6 (m.1.map ptD)), .d (.sl 3 (m.2.map crD))]], .live 1 (((refL m i hit c k).map iD).map (·.map .d))]⟩) (fun s => s.1 ≤ l.length ∧ okK m i hit c k = (s.2 && allH hit (c.2.1.drop s.1) (l.drop s.1))) (fun s => l.length - s.1) (0, !excS m i l) (weak_any (by simp only [vx, vz, Nat.reduceAdd, Nat.reduceSub, Nat.reduceMul, Nat.reduceLeDiff, Nat.reduceLT, Nat.reduceEqDiff, Nat.reduceBEq, Int.reduceToNat, Int.reduceNeg, Int.reduceEq, Int.reduceNe, Int.reduceLE, Int.reduceLT, reduceCtorEq, ↓reduceIte]; try trivial)) ⟨by simp, by simpa using hok⟩ (fun s hs => ?_)
        obtain ⟨j, a⟩ := s
        obtain ⟨hj, hjj⟩ := hs
        simp only at hj hjj
        simp only [vx, vz, Nat.reduceAdd, Nat.reduceSub, Nat.reduceMul, Nat.reduceLeDiff, Nat.reduceLT, Nat.reduceEqDiff, Nat.reduceBEq, Int.reduceToNat, Int.reduceNeg, Int.reduceEq, Int.reduceNe, Int.reduceLE, Int.reduceLT, reduceCtorEq, ↓reduceIte]
        refine cond_split (fun hc4 => ?_) (fun hc4 => ?_)
        · simp only [decide_eq_true_eq] at hc4
          obtain ⟨p, hp⟩ := get_ex (l := c.2.1) (i := j) (by omega)
          obtain ⟨b, hb⟩ := get_ex (l := l) (i := j) (by omega)
          obtain ⟨hp1, hp2⟩ := any_no hu (List.mem_of_getElem? hp)
          obtain ⟨p, rfl⟩ : ∃ q : Nat, p = q := ⟨p.toNat, by omega⟩
          obtain ⟨H, hH⟩ := get_ex (l := hit) (i := p) (by omega)
          have hHl := okh.2 H (List.mem_of_getElem? hH)
          rw [drop_at hp, drop_at hb, allH, hitAt_at hH, ← Bool.and_assoc] at hjj
          cases a with
          | false =>
            rw [Bool.false_and] at hjj
            simp only [vx, vz, Nat.reduceAdd, Nat.reduceSub, Nat.reduceMul, Nat.reduceLeDiff, Nat.reduceLT, Nat.reduceEqDiff, Nat.reduceBEq, Int.reduceToNat, Int.reduceNeg, Int.reduceEq, Int.reduceNe, Int.reduceLE, Int.reduceLT, reduceCtorEq, ↓reduceIte]
            refine c_quiet rfl ?_
            simp only [vx, vz, Nat.reduceAdd, Nat.reduceSub, Nat.reduceMul, Nat.reduceLeDiff, Nat.reduceLT, Nat.reduceEqDiff, Nat.reduceBEq, Int.reduceToNat, Int.reduceNeg, Int.reduceEq, Int.reduceNe, Int.reduceLE, Int.reduceLT, reduceCtorEq, ↓reduceIte]
            refine ls_n (j + 1, false) (by simp only; omega) (weak_any ?_) ⟨by simp only; omega, hjj⟩
            simp only [vx, vz, Nat.reduceAdd, Nat.reduceSub, Nat.reduceMul, Nat.reduceLeDiff, Nat.reduceLT, Nat.reduceEqDiff, Nat.reduceBEq, Int.reduceToNat, Int.reduceNeg, Int.reduceEq, Int.reduceNe, Int.reduceLE, Int.reduceLT, reduceCtorEq, ↓reduceIte]
            rw [wr_i64 (by omega) (by omega)]
            trivial
          | true =>
            rw [Bool.true_and] at hjj
            simp only [vx, vz, Nat.reduceAdd, Nat.reduceSub, Nat.reduceMul, Nat.reduceLeDiff, Nat.reduceLT, Nat.reduceEqDiff, Nat.reduceBEq, Int.reduceToNat, Int.reduceNeg, Int.reduceEq, Int.reduceNe, Int.reduceLE, Int.reduceLT, reduceCtorEq, ↓reduceIte]
            refine c_quiet rfl ?_
            simp only [vx, vz, Nat.reduceAdd, Nat.reduceSub, Nat.reduceMul, Nat.reduceLeDiff, Nat.reduceLT, Nat.reduceEqDiff, Nat.reduceBEq, Int.reduceToNat, Int.reduceNeg, Int.reduceEq, Int.reduceNe, Int.reduceLE, Int.reduceLT, reduceCtorEq, ↓reduceIte]
            refine ⟨by omega, by omega, getM_at hc ?_⟩
            simp only [vx, vz, Nat.reduceAdd, Nat.reduceSub, Nat.reduceMul, Nat.reduceLeDiff, Nat.reduceLT, Nat.reduceEqDiff, Nat.reduceBEq, Int.reduceToNat, Int.reduceNeg, Int.reduceEq, Int.reduceNe, Int.reduceLE, Int.reduceLT, reduceCtorEq, ↓reduceIte]
            simp only [vx, vz, Nat.reduceAdd, Nat.reduceSub, Nat.reduceMul, Nat.reduceLeDiff, Nat.reduceLT, Nat.reduceEqDiff, Nat.reduceBEq, Int.reduceToNat, Int.reduceNeg, Int.reduceEq, Int.reduceNe, Int.reduceLE, Int.reduceLT, reduceCtorEq, ↓reduceIte, crD]
            refine ⟨by omega, by omega, getM_at hp ?_⟩
            simp only [vx, vz, Nat.reduceAdd, Nat.reduceSub, Nat.reduceMul, Nat.reduceLeDiff, Nat.reduceLT, Nat.reduceEqDiff, Nat.reduceBEq, Int.reduceToNat, Int.reduceNeg, Int.reduceEq, Int.reduceNe, Int.reduceLE, Int.reduceLT, reduceCtorEq, ↓reduceIte]
            simp only [vx, vz, Nat.reduceAdd, Nat.reduceSub, Nat.reduceMul, Nat.reduceLeDiff, Nat.reduceLT, Nat.reduceEqDiff, Nat.reduceBEq, Int.reduceToNat, Int.reduceNeg, Int.reduceEq, Int.reduceNe, Int.reduceLE, Int.reduceLT, reduceCtorEq, ↓reduceIte, iD]
            refine ⟨by omega, by omega, getM_at hH ?_⟩
            simp only [vx, vz, Nat.reduceAdd, Nat.reduceSub, Nat.reduceMul, Nat.reduceLeDiff, Nat.reduceLT, Nat.reduceEqDiff, Nat.reduceBEq, Int.reduceToNat, Int.reduceNeg, Int.reduceEq, Int.reduceNe, Int.reduceLE, Int.reduceLT, reduceCtorEq, ↓reduceIte]
            simp only [vx, vz, Nat.reduceAdd, Nat.reduceSub, Nat.reduceMul, Nat.reduceLeDiff, Nat.reduceLT, Nat.reduceEqDiff, Nat.reduceBEq, Int.reduceToNat, Int.reduceNeg, Int.reduceEq, Int.reduceNe, Int.reduceLE, Int.reduceLT, reduceCtorEq, ↓reduceIte, lD]
            refine ⟨by omega, by omega, getM_at hb ?_⟩
            simp only [vx, vz, Nat.reduceAdd, Nat.reduceSub, Nat.reduceMul, Nat.reduceLeDiff, Nat.reduceLT, Nat.reduceEqDiff, Nat.reduceBEq, Int.reduceToNat, Int.reduceNeg, Int.reduceEq, Int.reduceNe, Int.reduceLE, Int.reduceLT, reduceCtorEq, ↓reduceIte]
            simp only [vx, vz, Nat.reduceAdd, Nat.reduceSub, Nat.reduceMul, Nat.reduceLeDiff, Nat.reduceLT, Nat.reduceEqDiff, Nat.reduceBEq, Int.reduceToNat, Int.reduceNeg, Int.reduceEq, Int.reduceNe, Int.reduceLE, Int.reduceLT, reduceCtorEq, ↓reduceIte, iD]
            refine call_p rfl (t35 H b hHl) ?_
            simp only [vx, vz, Nat.reduceAdd, Nat.reduceSub, Nat.reduceMul, Nat.reduceLeDiff, Nat.reduceLT, Nat.reduceEqDiff, Nat.reduceBEq, Int.reduceToNat, Int.reduceNeg, Int.reduceEq, Int.reduceNe, Int.reduceLE, Int.reduceLT, reduceCtorEq, ↓reduceIte]
            refine ls_n (j + 1, hasS H b) (by simp only; omega) (weak_any ?_) ⟨by simp only; omega, hjj⟩
            simp only [vx, vz, Nat.reduceAdd, Nat.reduceSub, Nat.reduceMul, Nat.reduceLeDiff, Nat.reduceLT, Nat.reduceEqDiff, Nat.reduceBEq, Int.reduceToNat, Int.reduceNeg, Int.reduceEq, Int.reduceNe, Int.reduceLE, Int.reduceLT, reduceCtorEq, ↓reduceIte]
            rw [wr_i64 (by omega) (by omega)]
            trivial
        · simp only [decide_eq_false_iff_not] at hc4
          rw [drop_end (by omega), allH_nil, Bool.and_true] at hjj
          rw [hjj] at hsu
          cases a with
          | false =>
            rw [if_neg (by decide)] at hsu
            simp only [vx, vz, Nat.reduceAdd, Nat.reduceSub, Nat.reduceMul, Nat.reduceLeDiff, Nat.reduceLT, Nat.reduceEqDiff, Nat.reduceBEq, Int.reduceToNat, Int.reduceNeg, Int.reduceEq, Int.reduceNe, Int.reduceLE, Int.reduceLT, reduceCtorEq, ↓reduceIte]
            refine ls_n (k + 1) (by omega) ?_ (by omega)
            simp only [hsu]
            refine weak_any ?_
            simp only [vx, vz, Nat.reduceAdd, Nat.reduceSub, Nat.reduceMul, Nat.reduceLeDiff, Nat.reduceLT, Nat.reduceEqDiff, Nat.reduceBEq, Int.reduceToNat, Int.reduceNeg, Int.reduceEq, Int.reduceNe, Int.reduceLE, Int.reduceLT, reduceCtorEq, ↓reduceIte]
            rw [wr_i64 (by omega) (by omega)]
            trivial
          | true =>
            rw [if_pos rfl] at hsu
            simp only [vx, vz, Nat.reduceAdd, Nat.reduceSub, Nat.reduceMul, Nat.reduceLeDiff, Nat.reduceLT, Nat.reduceEqDiff, Nat.reduceBEq, Int.reduceToNat, Int.reduceNeg, Int.reduceEq, Int.reduceNe, Int.reduceLE, Int.reduceLT, reduceCtorEq, ↓reduceIte]
            refine ⟨by unfold maxBytes; omega, ?_⟩
            refine ls_n (k + 1) (by omega) (Weak.trans (weak_any ?_) (weak_frz2 2 (by omega) ⟨.same _ (by simp [rowB, hB]), ?_, trivial⟩ (kpL_refl ?_))) (by omega)
            · simp only [vx, vz, Nat.reduceAdd, Nat.reduceSub, Nat.reduceMul, Nat.reduceLeDiff, Nat.reduceLT, Nat.reduceEqDiff, Nat.reduceBEq, Int.reduceToNat, Int.reduceNeg, Int.reduceEq, Int.reduceNe, Int.reduceLE, Int.reduceLT, reduceCtorEq, ↓reduceIte]
              rw [wr_i64 (by omega) (by omega), hsu, List.length_append]
              exact ⟨rfl, rfl⟩
            · show RowK 2 _ _ (.live 1 (((refL m i hit c (k + 1)).map iD).map (·.map .d)))
              have e3 : (refL m i hit c (k + 1)).map iD = (refL m i hit c k).map iD ++ [iD k] := by rw [hsu, List.map_append]; rfl
              rw [e3]
              exact rowK_snoc (x := iD k) ⟨.same _ rfl, trivial⟩
            · rfl
      · simp only [decide_eq_false_iff_not] at hc3
        obtain rfl : k = N := by omega
        simp only [vx, vz, Nat.reduceAdd, Nat.reduceSub, Nat.reduceMul, Nat.reduceLeDiff, Nat.reduceLT, Nat.reduceEqDiff, Nat.reduceBEq, Int.reduceToNat, Int.reduceNeg, Int.reduceEq, Int.reduceNe, Int.reduceLE, Int.reduceLT, reduceCtorEq, ↓reduceIte]
        exact sn_osl (es := (refL m i hit c k).map iD) rfl (by simp) (by omega) (fun e he => by obtain ⟨t, _, rfl⟩ := List.mem_map.1 he; rfl) (by rw [List.drop_zero, List.take_of_length_le (by simp)])
end Go.Proofs.Cr
