import Derived.Test.YtkoonehfphkmaaaR10
import Derived.Test.YtkoonehfphkmaaaL6
set_option linter.unusedSimpArgs false
set_option linter.unusedVariables false
namespace Go.Proofs.Cr
open Go.Vx
theorem pr_snoc {l : List Nat} {n : Nat} : pr (l ++ [n]) = pr l * n := by
  induction l with
  | nil => simp [pr]
  | cons x l ih => rw [List.cons_append, pr, ih, pr, Nat.mul_assoc]
theorem tupN_snoc {l : List Nat} {n k : Nat} : tupN (l ++ [n]) k = tupN l (k / n) ++ [k % n] := by
  induction l with
  | nil => simp [tupN, pr]
  | cons x l ih =>
    rw [List.cons_append, tupN, ih, tupN, pr_snoc, Nat.mul_comm, Nat.div_div_eq_div_mul]; rfl
theorem tupS_snoc {l : List Nat} {n k : Nat} : tupS (l ++ [n]) k = tupS l (k / n) ++ [((k % n : Nat) : Int)] := by
  rw [tupS, tupN_snoc, List.map_append]; rfl
theorem allH_snoc {hit : List (List Int)} {ps bs : List Int} {p b : Int} (h : ps.length = bs.length) : allH hit (ps ++ [p]) (bs ++ [b]) = (allH hit ps bs && hasS (hitAt hit p) b) := by
  induction ps generalizing bs with
  | nil => cases bs with
    | nil => simp [allH]
    | cons => simp at h
  | cons x ps ih => cases bs with
    | nil => simp at h
    | cons y bs =>
      have := ih (bs := bs) (by simpa using h)
      rw [List.cons_append, List.cons_append, allH, this, allH, Bool.and_assoc]
def cmb (hit : List (List Int)) (l : List Nat) (ps : List Int) (n : Nat) : List (List Int) := ((List.range n).map (tupS l)).filter (allH hit ps)
theorem cmb_snoc {hit : List (List Int)} {l : List Nat} {ps : List Int} {p : Int} {n : Nat} (h : ps.length = l.length) (P : Nat) : cmb hit (l ++ [n]) (ps ++ [p]) (P * n) = extS n (hitAt hit p) (cmb hit l ps P) := by
  induction P with
  | zero => simp [cmb, extS]
  | succ P ih =>
    have e1 : (List.range ((P + 1) * n)) = List.range (P * n) ++ (List.range n).map (P * n + ·) := by rw [Nat.add_mul, Nat.one_mul, List.range_add]
    have e2 : ((List.range n).map (P * n + ·)).map (tupS (l ++ [n])) = (List.range n).map fun b : Nat => tupS l P ++ [(b : Int)] := by
      rw [List.map_map]
      refine List.map_congr_left fun b hb => ?_
      have hb : b < n := List.mem_range.1 hb
      simp only [Function.comp]
      rw [tupS_snoc, Nat.mul_comm, Nat.mul_add_div (by omega), Nat.div_eq_of_lt hb, Nat.add_zero, Nat.mul_add_mod, Nat.mod_eq_of_lt hb]
    have e3 : ((List.range n).map fun b : Nat => tupS l P ++ [(b : Int)]).filter (allH hit (ps ++ [p])) = if allH hit ps (tupS l P) then (bsS (hitAt hit p) n).map (fun b => tupS l P ++ [b]) else [] := by
      rw [List.filter_map]
      have : (allH hit (ps ++ [p]) ∘ fun b : Nat => tupS l P ++ [(b : Int)]) = fun b : Nat => (allH hit ps (tupS l P) && hasS (hitAt hit p) b) := by
        funext b
        exact allH_snoc (by rw [tupS_len, h])
      rw [this]
      cases allH hit ps (tupS l P) with
      | true => simp only [Bool.true_and, if_true, bsS, List.map_map]; rfl
      | false => simp
    have e4 : cmb hit l ps (P + 1) = if allH hit ps (tupS l P) then cmb hit l ps P ++ [tupS l P] else cmb hit l ps P := by
      rw [cmb, List.range_succ, List.map_append, List.filter_append]
      cases h : allH hit ps (tupS l P) <;> simp [cmb, h]
    rw [e4, cmb, e1, List.map_append, List.filter_append, e2, e3]
    rw [show ((List.range (P * n)).map (tupS (l ++ [n]))).filter (allH hit (ps ++ [p])) = cmb hit (l ++ [n]) (ps ++ [p]) (P * n) from rfl, ih]
    split
    · rw [extS_snoc]
    · rw [List.append_nil]
theorem allP_cmb {m : Md} {hit : List (List Int)} {pts : List Int} : ∀ j, j ≤ pts.length → allP m hit (pts.take j) = cmb hit ((pts.map (nb m)).take j) (pts.take j) (pr ((pts.map (nb m)).take j)) := by
  intro j
  induction j with
  | zero => intro _; rw [List.take_zero]; simp [allP, cmb, pr, tupS, tupN, allH, List.range_succ]
  | succ j ih =>
    intro hj
    obtain ⟨p, hp⟩ := get_ex (l := pts) (i := j) (by omega)
    rw [allP_snoc hp, ih (by omega)]
    obtain ⟨h1, h2⟩ := List.getElem?_eq_some_iff.1 hp
    rw [← List.map_take, ← List.map_take, List.take_succ_eq_append_getElem h1, h2, List.map_append, List.map_cons, List.map_nil, pr_snoc, cmb_snoc (by simp)]
theorem hits_ref {m : Md} {i : Int} {hit : List (List Int)} : hitsS m i hit = refS m i hit := by
  rcases usb_cases m i with ⟨h1, h2⟩ | ⟨i, c, rfl, hc, hu, h1, h2, h3⟩
  · rw [hits_no (by simp [h1]), refS_no (by simp [h1])]
  · by_cases hl : hit.length = m.1.length
    · rw [hits_at h2 h1 hl, refS_at h2 h1 hl]
      have h4 := allP_cmb (m := m) (hit := hit) (pts := c.2.1) c.2.1.length (Nat.le_refl _)
      rw [List.take_of_length_le (Nat.le_refl _), List.take_of_length_le (by simp)] at h4
      have hks : c.2.1.map (nb m) = ks m c := rfl
      rw [hks] at h4
      rw [h4, cmb, List.filter_filter, List.filter_map, List.map_map, refL]
      have e1 : (List.range (pr (ks m c))).filter ((fun a => keepS m i a && allH hit c.2.1 a) ∘ tupS (ks m c)) = (List.range (pr (ks m c))).filter (okK m i hit c) := by
        refine List.filter_congr fun k hk => ?_
        have hk : k < pr (ks m c) := List.mem_range.1 hk
        simp only [Function.comp, keepS, okK]
        rw [ixo_at h2 hu, idx_tup (by omega)]
        rfl
      rw [e1]
      refine List.map_congr_left fun k hk => ?_
      have hk : k < pr (ks m c) := List.mem_range.1 (List.mem_filter.1 hk).1
      simp only [Function.comp]
      rw [ixo_at h2 hu, idx_tup (by omega), Nat.zero_mul, Nat.zero_add, Nat.mod_eq_of_lt hk]; rfl
    · rw [hits_no (by simp [hl]), refS_no (by simp [hl])]
theorem refS_len {m : Md} {i : Int} {hit : List (List Int)} (h : szS m i ≤ 500) : (refS m i hit).length ≤ 500 := by
  rcases usb_cases m i with ⟨h1, h2⟩ | ⟨i, c, rfl, hc, hu, h1, h2, h3⟩
  · rw [refS_no (by simp [h1])]; simp
  · by_cases hl : hit.length = m.1.length
    · rw [refS_at h2 h1 hl]
      have := refL_len (m := m) (i := i) (hit := hit) (c := c) (n := pr (ks m c))
      omega
    · rw [refS_no (by simp [hl])]; simp
theorem mL500 : 500 ≤ maxLen := by decide
theorem l5 (m : Md) (i : Int) (hit : List (List Int)) (ok : okM m) (okh : okH hit) : CallP Try.prog 5 [mdV m, .d (.int .i64 i), llV hit] (.d (.bool true)) := by
  refine go5 ac5 rfl ?_
  simp only [vx, vz, Nat.reduceAdd, Nat.reduceSub, Nat.reduceMul, Nat.reduceLeDiff, Nat.reduceLT, Nat.reduceEqDiff, Nat.reduceBEq, Int.reduceToNat, Int.reduceNeg, Int.reduceEq, Int.reduceNe, Int.reduceLE, Int.reduceLT, reduceCtorEq, ↓reduceIte, ac5]
  refine call_p rfl (t9 m ok) ?_
  simp only [vx, vz, Nat.reduceAdd, Nat.reduceSub, Nat.reduceMul, Nat.reduceLeDiff, Nat.reduceLT, Nat.reduceEqDiff, Nat.reduceBEq, Int.reduceToNat, Int.reduceNeg, Int.reduceEq, Int.reduceNe, Int.reduceLE, Int.reduceLT, reduceCtorEq, ↓reduceIte]
  cases hf : fewS m with
  | false =>
    simp only [vx, vz, Nat.reduceAdd, Nat.reduceSub, Nat.reduceMul, Nat.reduceLeDiff, Nat.reduceLT, Nat.reduceEqDiff, Nat.reduceBEq, Int.reduceToNat, Int.reduceNeg, Int.reduceEq, Int.reduceNe, Int.reduceLE, Int.reduceLT, reduceCtorEq, ↓reduceIte]
    refine call_p rfl (t10) ?_
    simp only [vx, vz, Nat.reduceAdd, Nat.reduceSub, Nat.reduceMul, Nat.reduceLeDiff, Nat.reduceLT, Nat.reduceEqDiff, Nat.reduceBEq, Int.reduceToNat, Int.reduceNeg, Int.reduceEq, Int.reduceNe, Int.reduceLE, Int.reduceLT, reduceCtorEq, ↓reduceIte]
  | true =>
    have h := few_sm hf ok i
    simp only [vx, vz, Nat.reduceAdd, Nat.reduceSub, Nat.reduceMul, Nat.reduceLeDiff, Nat.reduceLT, Nat.reduceEqDiff, Nat.reduceBEq, Int.reduceToNat, Int.reduceNeg, Int.reduceEq, Int.reduceNe, Int.reduceLE, Int.reduceLT, reduceCtorEq, ↓reduceIte]
    refine call_p rfl (t20 hit okh) ?_
    simp only [vx, vz, Nat.reduceAdd, Nat.reduceSub, Nat.reduceMul, Nat.reduceLeDiff, Nat.reduceLT, Nat.reduceEqDiff, Nat.reduceBEq, Int.reduceToNat, Int.reduceNeg, Int.reduceEq, Int.reduceNe, Int.reduceLE, Int.reduceLT, reduceCtorEq, ↓reduceIte]
    cases hs : shortS hit with
    | false =>
      simp only [vx, vz, Nat.reduceAdd, Nat.reduceSub, Nat.reduceMul, Nat.reduceLeDiff, Nat.reduceLT, Nat.reduceEqDiff, Nat.reduceBEq, Int.reduceToNat, Int.reduceNeg, Int.reduceEq, Int.reduceNe, Int.reduceLE, Int.reduceLT, reduceCtorEq, ↓reduceIte]
      refine call_p rfl (t10) ?_
      simp only [vx, vz, Nat.reduceAdd, Nat.reduceSub, Nat.reduceMul, Nat.reduceLeDiff, Nat.reduceLT, Nat.reduceEqDiff, Nat.reduceBEq, Int.reduceToNat, Int.reduceNeg, Int.reduceEq, Int.reduceNe, Int.reduceLE, Int.reduceLT, reduceCtorEq, ↓reduceIte]
    | true =>
      simp only [vx, vz, Nat.reduceAdd, Nat.reduceSub, Nat.reduceMul, Nat.reduceLeDiff, Nat.reduceLT, Nat.reduceEqDiff, Nat.reduceBEq, Int.reduceToNat, Int.reduceNeg, Int.reduceEq, Int.reduceNe, Int.reduceLE, Int.reduceLT, reduceCtorEq, ↓reduceIte]
      refine c_quiet rfl ?_
      simp only [vx, vz, Nat.reduceAdd, Nat.reduceSub, Nat.reduceMul, Nat.reduceLeDiff, Nat.reduceLT, Nat.reduceEqDiff, Nat.reduceBEq, Int.reduceToNat, Int.reduceNeg, Int.reduceEq, Int.reduceNe, Int.reduceLE, Int.reduceLT, reduceCtorEq, ↓reduceIte]
      refine call_p rfl (t21 m i hit h okh) ?_
      simp only [vx, vz, Nat.reduceAdd, Nat.reduceSub, Nat.reduceMul, Nat.reduceLeDiff, Nat.reduceLT, Nat.reduceEqDiff, Nat.reduceBEq, Int.reduceToNat, Int.reduceNeg, Int.reduceEq, Int.reduceNe, Int.reduceLE, Int.reduceLT, reduceCtorEq, ↓reduceIte]
      refine call_p rfl (t22 m i hit h (szS_few hf i) okh) ?_
      simp only [vx, vz, Nat.reduceAdd, Nat.reduceSub, Nat.reduceMul, Nat.reduceLeDiff, Nat.reduceLT, Nat.reduceEqDiff, Nat.reduceBEq, Int.reduceToNat, Int.reduceNeg, Int.reduceEq, Int.reduceNe, Int.reduceLE, Int.reduceLT, reduceCtorEq, ↓reduceIte]
      rw [hits_ref]
      refine call_p rfl (t15 (refS m i hit) (by have := refS_len (hit := hit) (szS_few hf i); have := mL500; omega)) ?_
      simp only [vx, vz, Nat.reduceAdd, Nat.reduceSub, Nat.reduceMul, Nat.reduceLeDiff, Nat.reduceLT, Nat.reduceEqDiff, Nat.reduceBEq, Int.reduceToNat, Int.reduceNeg, Int.reduceEq, Int.reduceNe, Int.reduceLE, Int.reduceLT, reduceCtorEq, ↓reduceIte]
      refine call_p rfl (t10) ?_
      simp only [vx, vz, Nat.reduceAdd, Nat.reduceSub, Nat.reduceMul, Nat.reduceLeDiff, Nat.reduceLT, Nat.reduceEqDiff, Nat.reduceBEq, Int.reduceToNat, Int.reduceNeg, Int.reduceEq, Int.reduceNe, Int.reduceLE, Int.reduceLT, reduceCtorEq, ↓reduceIte]
end Go.Proofs.Cr
