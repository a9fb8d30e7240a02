import Derived.Test.YtkoonehfphkmaaaP2
set_option linter.unusedSimpArgs false
set_option linter.unusedVariables false
namespace Go.Proofs.Cr
open Go.Vx
theorem t24 (l : List Int) (n : Nat) (hl : l.length ≤ maxLen) (hn : n ≤ 40) : CallP Try.prog 24 [isV l, .d (.int .i64 n)] (.d (.int .i64 (bsS l n).length)) := by
  have hm := hm
  refine go24 ac24 rfl ?_
  simp only [vx, vz, Nat.reduceAdd, Nat.reduceSub, Nat.reduceMul, Nat.reduceLeDiff, Nat.reduceLT, Nat.reduceEqDiff, Nat.reduceBEq, Int.reduceToNat, Int.reduceNeg, Int.reduceEq, Int.reduceNe, Int.reduceLE, Int.reduceLT, reduceCtorEq, ↓reduceIte, ac24]
  refine loop_st (fun v : Nat => ⟨mkF 33 [(0, isV l), (1, .d (.int .i64 n)), (5, .d (.int .i64 (bsS l v).length)), (6, .d (.int .i64 v))], []⟩) (fun v => v ≤ n) (fun v => n - v) 0 (weak_any (by simp only [vx, vz, Nat.reduceAdd, Nat.reduceSub, Nat.reduceMul, Nat.reduceLeDiff, Nat.reduceLT, Nat.reduceEqDiff, Nat.reduceBEq, Int.reduceToNat, Int.reduceNeg, Int.reduceEq, Int.reduceNe, Int.reduceLE, Int.reduceLT, reduceCtorEq, ↓reduceIte]; try trivial)) (by omega) (fun v hv => ?_)
  have hbl := bsS_len (H := l) (n := v)
  have hsu := bsS_succ (H := l) (n := v)
  simp only [vx, vz, Nat.reduceAdd, Nat.reduceSub, Nat.reduceMul, Nat.reduceLeDiff, Nat.reduceLT, Nat.reduceEqDiff, Nat.reduceBEq, Int.reduceToNat, Int.reduceNeg, Int.reduceEq, Int.reduceNe, Int.reduceLE, Int.reduceLT, reduceCtorEq, ↓reduceIte]
  refine cond_split (fun hc => ?_) (fun hc => ?_)
  · simp only [decide_eq_true_eq] at hc
    simp only [vx, vz, Nat.reduceAdd, Nat.reduceSub, Nat.reduceMul, Nat.reduceLeDiff, Nat.reduceLT, Nat.reduceEqDiff, Nat.reduceBEq, Int.reduceToNat, Int.reduceNeg, Int.reduceEq, Int.reduceNe, Int.reduceLE, Int.reduceLT, reduceCtorEq, ↓reduceIte]
    refine loop_st (fun s : Nat × Bool => ⟨mkF 33 [(0, isV l), (1, .d (.int .i64 n)), (5, .d (.int .i64 (bsS l v).length)), (6, .d (.int .i64 v)), (7, .d (.bool s.2)), (8, .d (.int .i64 s.1))], []⟩) (fun s => s.1 ≤ l.length ∧ hasS l v = (s.2 || hasS (l.drop s.1) v)) (fun s => l.length - s.1) (0, false) (weak_any (by simp only [vx, vz, Nat.reduceAdd, Nat.reduceSub, Nat.reduceMul, Nat.reduceLeDiff, Nat.reduceLT, Nat.reduceEqDiff, Nat.reduceBEq, Int.reduceToNat, Int.reduceNeg, Int.reduceEq, Int.reduceNe, Int.reduceLE, Int.reduceLT, reduceCtorEq, ↓reduceIte]; try trivial)) ⟨by simp, by simp⟩ (fun s hs => ?_)
    obtain ⟨j, a⟩ := s
    obtain ⟨h1, h2⟩ := hs
    simp only at h1 h2
    simp only [vx, vz, Nat.reduceAdd, Nat.reduceSub, Nat.reduceMul, Nat.reduceLeDiff, Nat.reduceLT, Nat.reduceEqDiff, Nat.reduceBEq, Int.reduceToNat, Int.reduceNeg, Int.reduceEq, Int.reduceNe, Int.reduceLE, Int.reduceLT, reduceCtorEq, ↓reduceIte]
    refine cond_split (fun hc2 => ?_) (fun hc2 => ?_)
    · simp only [decide_eq_true_eq] at hc2
      obtain ⟨x, hx⟩ := get_ex (l := l) (i := j) (by omega)
      rw [drop_at hx, hasS_cons, ← Bool.or_assoc] at h2
      cases a with
      | true =>
        rw [Bool.true_or] at h2
        simp only [vx, vz, Nat.reduceAdd, Nat.reduceSub, Nat.reduceMul, Nat.reduceLeDiff, Nat.reduceLT, Nat.reduceEqDiff, Nat.reduceBEq, Int.reduceToNat, Int.reduceNeg, Int.reduceEq, Int.reduceNe, Int.reduceLE, Int.reduceLT, reduceCtorEq, ↓reduceIte]
        refine ls_n (j + 1, true) (by simp only; omega) (weak_any ?_) ⟨by simp only; omega, h2⟩
        simp only [vx, vz, Nat.reduceAdd, Nat.reduceSub, Nat.reduceMul, Nat.reduceLeDiff, Nat.reduceLT, Nat.reduceEqDiff, Nat.reduceBEq, Int.reduceToNat, Int.reduceNeg, Int.reduceEq, Int.reduceNe, Int.reduceLE, Int.reduceLT, reduceCtorEq, ↓reduceIte]
        rw [wr_i64 (by omega) (by omega)]
        trivial
      | false =>
        rw [Bool.false_or] at h2
        simp only [vx, vz, Nat.reduceAdd, Nat.reduceSub, Nat.reduceMul, Nat.reduceLeDiff, Nat.reduceLT, Nat.reduceEqDiff, Nat.reduceBEq, Int.reduceToNat, Int.reduceNeg, Int.reduceEq, Int.reduceNe, Int.reduceLE, Int.reduceLT, reduceCtorEq, ↓reduceIte]
        refine ⟨by omega, by omega, getM_at hx ?_⟩
        simp only [vx, vz, Nat.reduceAdd, Nat.reduceSub, Nat.reduceMul, Nat.reduceLeDiff, Nat.reduceLT, Nat.reduceEqDiff, Nat.reduceBEq, Int.reduceToNat, Int.reduceNeg, Int.reduceEq, Int.reduceNe, Int.reduceLE, Int.reduceLT, reduceCtorEq, ↓reduceIte]
        simp only [vx, vz, Nat.reduceAdd, Nat.reduceSub, Nat.reduceMul, Nat.reduceLeDiff, Nat.reduceLT, Nat.reduceEqDiff, Nat.reduceBEq, Int.reduceToNat, Int.reduceNeg, Int.reduceEq, Int.reduceNe, Int.reduceLE, Int.reduceLT, reduceCtorEq, ↓reduceIte, iD]
        refine ls_n (j + 1, decide ((v : Int) = x)) (by simp only; omega) (weak_any ?_) ⟨by simp only; omega, h2⟩
        simp only [vx, vz, Nat.reduceAdd, Nat.reduceSub, Nat.reduceMul, Nat.reduceLeDiff, Nat.reduceLT, Nat.reduceEqDiff, Nat.reduceBEq, Int.reduceToNat, Int.reduceNeg, Int.reduceEq, Int.reduceNe, Int.reduceLE, Int.reduceLT, reduceCtorEq, ↓reduceIte]
        rw [wr_i64 (by omega) (by omega)]
        refine ⟨decide_eq_decide.2 ⟨fun e => e.symm, fun e => e.symm⟩, by omega⟩
    · simp only [decide_eq_false_iff_not] at hc2
      rw [drop_end (by omega), hasS_nil, Bool.or_false] at h2
      rw [h2] at hsu
      cases a with
      | false =>
        rw [if_neg (by decide)] at hsu
        simp only [vx, vz, Nat.reduceAdd, Nat.reduceSub, Nat.reduceMul, Nat.reduceLeDiff, Nat.reduceLT, Nat.reduceEqDiff, Nat.reduceBEq, Int.reduceToNat, Int.reduceNeg, Int.reduceEq, Int.reduceNe, Int.reduceLE, Int.reduceLT, reduceCtorEq, ↓reduceIte]
        refine ls_n (v + 1) (by omega) (weak_any ?_) (by omega)
        simp only [vx, vz, Nat.reduceAdd, Nat.reduceSub, Nat.reduceMul, Nat.reduceLeDiff, Nat.reduceLT, Nat.reduceEqDiff, Nat.reduceBEq, Int.reduceToNat, Int.reduceNeg, Int.reduceEq, Int.reduceNe, Int.reduceLE, Int.reduceLT, reduceCtorEq, ↓reduceIte]
        rw [wr_i64 (by omega) (by omega), hsu]
        exact ⟨rfl, rfl⟩
      | true =>
        rw [if_pos rfl] at hsu
        simp only [vx, vz, Nat.reduceAdd, Nat.reduceSub, Nat.reduceMul, Nat.reduceLeDiff, Nat.reduceLT, Nat.reduceEqDiff, Nat.reduceBEq, Int.reduceToNat, Int.reduceNeg, Int.reduceEq, Int.reduceNe, Int.reduceLE, Int.reduceLT, reduceCtorEq, ↓reduceIte]
        refine ls_n (v + 1) (by omega) (weak_any ?_) (by omega)
        simp only [vx, vz, Nat.reduceAdd, Nat.reduceSub, Nat.reduceMul, Nat.reduceLeDiff, Nat.reduceLT, Nat.reduceEqDiff, Nat.reduceBEq, Int.reduceToNat, Int.reduceNeg, Int.reduceEq, Int.reduceNe, Int.reduceLE, Int.reduceLT, reduceCtorEq, ↓reduceIte]
        rw [wr_i64 (by omega) (by omega), wr_i64 (by omega) (by omega), hsu, List.length_append]
        exact ⟨rfl, rfl⟩
  · simp only [decide_eq_false_iff_not] at hc
    obtain rfl : v = n := by omega
    simp only [vx, vz, Nat.reduceAdd, Nat.reduceSub, Nat.reduceMul, Nat.reduceLeDiff, Nat.reduceLT, Nat.reduceEqDiff, Nat.reduceBEq, Int.reduceToNat, Int.reduceNeg, Int.reduceEq, Int.reduceNe, Int.reduceLE, Int.reduceLT, reduceCtorEq, ↓reduceIte]
def ns (m : Md) (hit : List (List Int)) : List Int → Nat
  | [] => 1
  | p :: l => (bsS (hitAt hit p) (nb m p)).length * ns m hit l
theorem extS_len2 {n : Nat} {H : List Int} {a : List (List Int)} : (extS n H a).length = a.length * (bsS H n).length := by
  induction a with
  | nil => simp [extS]
  | cons x a ih =>
    have : extS n H (x :: a) = ((bsS H n).map fun b => x ++ [b]) ++ extS n H a := rfl
    rw [this, List.length_append, List.length_map, List.length_cons, Nat.add_mul, Nat.one_mul, ih, Nat.add_comm]
theorem allP_len2 {m : Md} {hit : List (List Int)} {pts : List Int} {a : List (List Int)} : (pts.foldl (fun all p => extS (nb m p) (hitAt hit p) all) a).length = a.length * ns m hit pts := by
  induction pts generalizing a with
  | nil => simp [ns]
  | cons p pts ih => rw [List.foldl_cons, ih, extS_len2, ns, Nat.mul_assoc]
def kz (m : Md) (p : Int) : Prop := ∀ b, kd m p b = 0
theorem kindsG_kz {m : Md} {ps bs : List Int} (h : ∀ p ∈ ps, kz m p) : kindsG m ps bs = false := by
  induction ps generalizing bs with
  | nil => exact kindsG_nil
  | cons p ps ih => cases bs with
    | nil => rfl
    | cons b bs =>
      rw [kindsG, ih (fun q hq => h q (by simp [hq])), h p (by simp) b]; rfl
theorem hits_len {m : Md} {i : Int} {hit : List (List Int)} {c : Cs} (h : crOf m i = some c) (hu : c.2.1.any (miss m) = false) (hl : hit.length = m.1.length) (hk : ∀ p ∈ c.2.1, kz m p) (he : c.2.2 = []) : (hitsS m i hit).length = ns m hit c.2.1 := by
  have h1 : usb m i = true := by rw [usb, h]; simp only [hu]; rfl
  rw [hits_at h h1 hl, List.length_map]
  have h4 := allP_cmb (m := m) (hit := hit) (pts := c.2.1) c.2.1.length (Nat.le_refl _)
  rw [List.take_of_length_le (Nat.le_refl _), List.take_of_length_le (by simp)] at h4
  have hks : c.2.1.map (nb m) = ks m c := rfl
  rw [hks] at h4
  have h5 : (allP m hit c.2.1).filter (keepS m i) = allP m hit c.2.1 := by
    refine List.filter_eq_self.2 fun l hll => ?_
    rw [h4, cmb] at hll
    obtain ⟨k, hk1, rfl⟩ := List.mem_map.1 (List.mem_filter.1 hll).1
    have hk1 := List.mem_range.1 hk1
    rw [keepS, excS, h]
    simp only [kindsG_kz hk, he]
    rw [ixo_at h hu, idx_tup (by omega)]
    rfl
  rw [h5, allP, allP_len2]; simp
theorem ns_le {m : Md} (hb : ∀ p ∈ m.1, p.2.length ≤ 40) {hit : List (List Int)} {pts : List Int} : ns m hit pts ≤ 40 ^ pts.length := by
  induction pts with
  | nil => simp [ns]
  | cons p l ih =>
    rw [ns, List.length_cons, Nat.pow_succ, Nat.mul_comm (40 ^ _)]
    exact Nat.mul_le_mul (Nat.le_trans bsS_len (nb_le hb p)) ih
theorem ns_snoc {m : Md} {hit : List (List Int)} {pts : List Int} {p : Int} : ns m hit (pts ++ [p]) = ns m hit pts * (bsS (hitAt hit p) (nb m p)).length := by
  induction pts with
  | nil => simp [ns]
  | cons q l ih => rw [List.cons_append, ns, ih, ns, Nat.mul_assoc]
end Go.Proofs.Cr
