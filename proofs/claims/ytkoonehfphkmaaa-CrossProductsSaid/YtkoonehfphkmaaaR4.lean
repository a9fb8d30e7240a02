import Derived.Test.YtkoonehfphkmaaaR3
set_option linter.unusedSimpArgs false
set_option linter.unusedVariables false
namespace Go.Proofs.Cr
open Go.Vx
def tupN : List Nat → Nat → List Nat
  | [], _ => []
  | n :: l, k => k / pr l % n :: tupN l k
def tupS (l : List Nat) (k : Nat) : List Int := (tupN l k).map fun x : Nat => (x : Int)
theorem tupN_len {l : List Nat} {k : Nat} : (tupN l k).length = l.length := by
  induction l with
  | nil => rfl
  | cons n l ih => simp [tupN, ih]
theorem tupS_len {l : List Nat} {k : Nat} : (tupS l k).length = l.length := by simp [tupS, tupN_len]
theorem tupN_at {l : List Nat} {k j n : Nat} (h : l[j]? = some n) : (tupN l k)[j]? = some (k / pr (l.drop (j + 1)) % n) := by
  induction l generalizing j with
  | nil => simp at h
  | cons x l ih =>
    cases j with
    | zero => simp at h; subst h; rfl
    | succ j => simpa [tupN] using ih (by simpa using h)
theorem tupS_at {l : List Nat} {k j n : Nat} (h : l[j]? = some n) : (tupS l k)[j]? = some ((k / pr (l.drop (j + 1)) % n : Nat) : Int) := by
  simp [tupS, tupN_at h]
theorem pr_pos {l : List Nat} (h : 0 < pr l) {j n : Nat} (hj : l[j]? = some n) : 0 < n := by
  induction l generalizing j with
  | nil => simp at hj
  | cons x l ih =>
    have h1 := Nat.pos_of_mul_pos_right h
    have h2 := Nat.pos_of_mul_pos_left h
    cases j with
    | zero => simp at hj; subst hj; exact Nat.pos_of_mul_pos_right (by rw [pr] at h; rwa [Nat.mul_comm] at h) |> fun _ => (by
        rcases Nat.eq_zero_or_pos x with h0 | h0
        · subst h0; simp [pr] at h
        · exact h0)
    | succ j =>
      refine ih (by
        rcases Nat.eq_zero_or_pos (pr l) with h0 | h0
        · simp [pr, h0] at h
        · exact h0) (by simpa using hj)
theorem pr_le {l : List Nat} (h : ∀ n ∈ l, n ≤ 40) : pr l ≤ 40 ^ l.length := by
  induction l with
  | nil => simp [pr]
  | cons x l ih =>
    rw [pr, List.length_cons, Nat.pow_succ, Nat.mul_comm]
    exact Nat.mul_le_mul (ih (fun n hn => h n (by simp [hn]))) (h x (by simp))
def tupV (m : Md) (i k : Int) : V := match crOf m i with
  | none => .tup [.d (.sl 1 []), .d (.bool false)]
  | some c => if 0 ≤ k ∧ k < szS m i then .tup [isV (tupS (ks m c) k.toNat), .d (.bool true)] else .tup [.d (.sl 1 []), .d (.bool false)]
theorem tupV_no {m : Md} {i k : Int} (h : ¬ (0 ≤ k ∧ k < szS m i)) : tupV m i k = .tup [.d (.sl 1 []), .d (.bool false)] := by
  rw [tupV]; split
  · rfl
  · rw [if_neg h]
theorem szS_some {m : Md} {i k : Int} (h : 0 ≤ k ∧ k < szS m i) : ∃ (j : Nat) (c : Cs) (q : Nat), i = j ∧ k = q ∧ m.2[j]? = some c ∧ c.2.1.any (miss m) = false ∧ usb m i = true ∧ crOf m i = some c ∧ q < pr (ks m c) ∧ tupV m i k = .tup [isV (tupS (ks m c) q), .d (.bool true)] := by
  rcases usb_cases m i with ⟨_, h2⟩ | ⟨j, c, rfl, hc, hu, h1, h2, h3⟩
  · omega
  · obtain ⟨q, rfl⟩ : ∃ q : Nat, k = q := ⟨k.toNat, by omega⟩
    refine ⟨j, c, q, rfl, rfl, hc, hu, h1, h2, by omega, ?_⟩
    rw [tupV, h2]
    simp only [if_pos h, Int.toNat_natCast]
theorem drop_set {α : Type} {l : List α} {t : Nat} {x : α} (h : t < l.length) : (l.set t x).drop t = x :: l.drop (t + 1) := by
  rw [List.drop_eq_getElem_cons (by simpa using h), List.getElem_set_self, List.drop_set, if_pos (by omega)]
theorem set_el {l : List Int} {t : Nat} {x : Int} : (l.map elV).set t [V.d (.int .i64 x)] = (l.set t x).map elV := by rw [List.map_set]; rfl
theorem t11 (m : Md) (i k : Int) (h : Sm m i) : CallP Try.prog 11 [mdV m, .d (.int .i64 i), .d (.int .i64 k)] (tupV m i k) := by
  have hm := hm
  have ok := h.ok
  refine go11 ac11 rfl ?_
  by_cases h1 : k < 0
  · rw [tupV_no (by omega)]
    simp only [vx, vz, Nat.reduceAdd, Nat.reduceSub, Nat.reduceMul, Nat.reduceLeDiff, Nat.reduceLT, Nat.reduceEqDiff, Nat.reduceBEq, Int.reduceToNat, Int.reduceNeg, Int.reduceEq, Int.reduceNe, Int.reduceLE, Int.reduceLT, reduceCtorEq, ↓reduceIte, ac11, dt h1]
  · simp only [vx, vz, Nat.reduceAdd, Nat.reduceSub, Nat.reduceMul, Nat.reduceLeDiff, Nat.reduceLT, Nat.reduceEqDiff, Nat.reduceBEq, Int.reduceToNat, Int.reduceNeg, Int.reduceEq, Int.reduceNe, Int.reduceLE, Int.reduceLT, reduceCtorEq, ↓reduceIte, ac11, df h1]
    refine call_p rfl (t13 m i h) ?_
    simp only [vx, vz, Nat.reduceAdd, Nat.reduceSub, Nat.reduceMul, Nat.reduceLeDiff, Nat.reduceLT, Nat.reduceEqDiff, Nat.reduceBEq, Int.reduceToNat, Int.reduceNeg, Int.reduceEq, Int.reduceNe, Int.reduceLE, Int.reduceLT, reduceCtorEq, ↓reduceIte]
    refine cond_split (fun hc => ?_) (fun hc => ?_)
    · simp only [decide_eq_true_eq] at hc
      rw [tupV_no (by omega)]
      simp only [vx, vz, Nat.reduceAdd, Nat.reduceSub, Nat.reduceMul, Nat.reduceLeDiff, Nat.reduceLT, Nat.reduceEqDiff, Nat.reduceBEq, Int.reduceToNat, Int.reduceNeg, Int.reduceEq, Int.reduceNe, Int.reduceLE, Int.reduceLT, reduceCtorEq, ↓reduceIte]
    · simp only [decide_eq_false_iff_not] at hc
      obtain ⟨i, c, k, rfl, rfl, hc, hu, h2, h3, h4, h5⟩ := szS_some (m := m) (i := i) (k := k) (by omega)
      have h6 := h.pts c h3
      have hkl : (kI m c.2.1).length = c.2.1.length := by simp [kI]
      have hsl : (ks m c).length = c.2.1.length := by simp [ks]
      rw [h5]
      simp only [vx, vz, Nat.reduceAdd, Nat.reduceSub, Nat.reduceMul, Nat.reduceLeDiff, Nat.reduceLT, Nat.reduceEqDiff, Nat.reduceBEq, Int.reduceToNat, Int.reduceNeg, Int.reduceEq, Int.reduceNe, Int.reduceLE, Int.reduceLT, reduceCtorEq, ↓reduceIte]
      refine call_p rfl (t26 m i c hc hu ok (by omega)) ?_
      simp only [vx, vz, Nat.reduceAdd, Nat.reduceSub, Nat.reduceMul, Nat.reduceLeDiff, Nat.reduceLT, Nat.reduceEqDiff, Nat.reduceBEq, Int.reduceToNat, Int.reduceNeg, Int.reduceEq, Int.reduceNe, Int.reduceLE, Int.reduceLT, reduceCtorEq, ↓reduceIte]
      simp only [vx, vz, Nat.reduceAdd, Nat.reduceSub, Nat.reduceMul, Nat.reduceLeDiff, Nat.reduceLT, Nat.reduceEqDiff, Nat.reduceBEq, Int.reduceToNat, Int.reduceNeg, Int.reduceEq, Int.reduceNe, Int.reduceLE, Int.reduceLT, reduceCtorEq, ↓reduceIte, hkl]
      have hcp : List.take c.2.1.length (List.map (fun x => List.map V.d x) (List.map iD (kI m c.2.1))) ++ List.drop (min c.2.1.length c.2.1.length) (List.replicate c.2.1.length [V.d (.int .i64 0)]) = (kI m c.2.1).map elV := by
        rw [Nat.min_self, drop_end (by simp), List.append_nil, List.take_of_length_le (by simp [hkl]), List.map_map]; rfl
      rw [hcp]
      refine ⟨by omega, by omega, by omega, by omega, by simp, ?_⟩
      rw [wr_i64 (by omega) (by omega)]
      refine loop_st (fun p : Nat × List Int => ⟨mkF 52 [(2, .d (.int .i64 (k / pr ((ks m c).drop p.1) : Nat))), (8, isV (kI m c.2.1)), (9, .osl 1 1 c.2.1.length 0 c.2.1.length), (10, .d (.int .i64 ((p.1 : Int) - 1)))], [.live 2 [[.d (.sl 6 (m.1.map ptD)), .d (.sl 3 (m.2.map crD))]], .live 1 (p.2.map elV)]⟩) (fun p => p.1 ≤ c.2.1.length ∧ p.2.length = c.2.1.length ∧ p.2.drop p.1 = (tupS (ks m c) k).drop p.1) (fun p => p.1) (c.2.1.length, kI m c.2.1) (weak_any (by
        have e : k / pr ((ks m c).drop c.2.1.length) = k := by rw [drop_end (by omega), pr, Nat.div_one]
        simp only [e]
        simp only [vx, vz, Nat.reduceAdd, Nat.reduceSub, Nat.reduceMul, Nat.reduceLeDiff, Nat.reduceLT, Nat.reduceEqDiff, Nat.reduceBEq, Int.reduceToNat, Int.reduceNeg, Int.reduceEq, Int.reduceNe, Int.reduceLE, Int.reduceLT, reduceCtorEq, ↓reduceIte]
        try trivial)) ⟨Nat.le_refl _, hkl, by simp only; rw [drop_end (by omega), drop_end (by rw [tupS_len]; omega)]⟩ (fun p hp => ?_)
      obtain ⟨t, l⟩ := p
      obtain ⟨h7, h8, h9⟩ := hp
      simp only at h7 h8 h9
      simp only [vx, vz, Nat.reduceAdd, Nat.reduceSub, Nat.reduceMul, Nat.reduceLeDiff, Nat.reduceLT, Nat.reduceEqDiff, Nat.reduceBEq, Int.reduceToNat, Int.reduceNeg, Int.reduceEq, Int.reduceNe, Int.reduceLE, Int.reduceLT, reduceCtorEq, ↓reduceIte]
      refine cond_split (fun hc2 => ?_) (fun hc2 => ?_)
      · simp only [decide_eq_true_eq] at hc2
        obtain ⟨t, rfl⟩ : ∃ u, t = u + 1 := ⟨t - 1, by omega⟩
        obtain ⟨p, hp⟩ := get_ex (l := c.2.1) (i := t) (by omega)
        obtain ⟨y, hy⟩ := get_ex (l := l) (i := t) (by omega)
        have hpos := pr_pos (by omega) (ks_at (m := m) hp)
        have e1 : (((t + 1 : Nat) : Int) - 1) = t := by omega
        rw [e1]
        simp only [vx, vz, Nat.reduceAdd, Nat.reduceSub, Nat.reduceMul, Nat.reduceLeDiff, Nat.reduceLT, Nat.reduceEqDiff, Nat.reduceBEq, Int.reduceToNat, Int.reduceNeg, Int.reduceEq, Int.reduceNe, Int.reduceLE, Int.reduceLT, reduceCtorEq, ↓reduceIte, hkl]
        refine ⟨by omega, by omega, getM_at (kI_at (m := m) hp) ?_⟩
        simp only [vx, vz, Nat.reduceAdd, Nat.reduceSub, Nat.reduceMul, Nat.reduceLeDiff, Nat.reduceLT, Nat.reduceEqDiff, Nat.reduceBEq, Int.reduceToNat, Int.reduceNeg, Int.reduceEq, Int.reduceNe, Int.reduceLE, Int.reduceLT, reduceCtorEq, ↓reduceIte]
        simp only [vx, vz, Nat.reduceAdd, Nat.reduceSub, Nat.reduceMul, Nat.reduceLeDiff, Nat.reduceLT, Nat.reduceEqDiff, Nat.reduceBEq, Int.reduceToNat, Int.reduceNeg, Int.reduceEq, Int.reduceNe, Int.reduceLE, Int.reduceLT, reduceCtorEq, ↓reduceIte, iD]
        refine ⟨by omega, by omega, by omega, by simpa using h8, by simpa using h8, getM_at hy ?_⟩
        simp only [vx, vz, Nat.reduceAdd, Nat.reduceSub, Nat.reduceMul, Nat.reduceLeDiff, Nat.reduceLT, Nat.reduceEqDiff, Nat.reduceBEq, Int.reduceToNat, Int.reduceNeg, Int.reduceEq, Int.reduceNe, Int.reduceLE, Int.reduceLT, reduceCtorEq, ↓reduceIte, elV]
        refine ⟨by omega, by omega, getM_at (kI_at (m := m) hp) ?_⟩
        simp only [vx, vz, Nat.reduceAdd, Nat.reduceSub, Nat.reduceMul, Nat.reduceLeDiff, Nat.reduceLT, Nat.reduceEqDiff, Nat.reduceBEq, Int.reduceToNat, Int.reduceNeg, Int.reduceEq, Int.reduceNe, Int.reduceLE, Int.reduceLT, reduceCtorEq, ↓reduceIte]
        simp only [vx, vz, Nat.reduceAdd, Nat.reduceSub, Nat.reduceMul, Nat.reduceLeDiff, Nat.reduceLT, Nat.reduceEqDiff, Nat.reduceBEq, Int.reduceToNat, Int.reduceNeg, Int.reduceEq, Int.reduceNe, Int.reduceLE, Int.reduceLT, reduceCtorEq, ↓reduceIte, iD]
        refine ⟨by omega, ?_⟩
        have e2 : (((k / pr ((ks m c).drop (t + 1)) : Nat) : Int)).tmod (nb m p : Int) = ((k / pr ((ks m c).drop (t + 1)) % nb m p : Nat) : Int) := (Int.ofNat_tmod _ _).symm
        have e3 : (((k / pr ((ks m c).drop (t + 1)) : Nat) : Int)).tdiv (nb m p : Int) = ((k / pr ((ks m c).drop t) : Nat) : Int) := by
          rw [drop_at (ks_at (m := m) hp), pr, Nat.mul_comm, ← Nat.div_div_eq_div_mul]; exact (Int.ofNat_tdiv _ _).symm
        have e4 : k / pr ((ks m c).drop t) ≤ k := Nat.div_le_self _ _
        have e5 : pr (ks m c) ≤ 2560000 := by
          have := pr_le (l := ks m c) (fun n hn => by obtain ⟨q, _, rfl⟩ := List.mem_map.1 hn; exact nb_le h.bins q)
          exact Nat.le_trans this (pow_le4 (by omega))
        rw [e2, set_el]
        refine ls_n (t, l.set t ((k / pr ((ks m c).drop (t + 1)) % nb m p : Nat) : Int)) (by simp only; omega) (weak_any ?_) ⟨by simp only; omega, by simp only [List.length_set]; exact h8, by simp only; rw [drop_set (by omega), h9, drop_at (tupS_at (ks_at (m := m) hp))]⟩
        simp only [vx, vz, Nat.reduceAdd, Nat.reduceSub, Nat.reduceMul, Nat.reduceLeDiff, Nat.reduceLT, Nat.reduceEqDiff, Nat.reduceBEq, Int.reduceToNat, Int.reduceNeg, Int.reduceEq, Int.reduceNe, Int.reduceLE, Int.reduceLT, reduceCtorEq, ↓reduceIte]
        rw [e3]
        generalize k / pr ((ks m c).drop t) = q at e4 ⊢
        rw [wr_i64 (by omega) (by omega), wr_i64 (by omega) (by omega)]
        trivial
      · simp only [decide_eq_false_iff_not] at hc2
        have : t = 0 := by omega
        subst this
        rw [List.drop_zero, List.drop_zero] at h9
        subst h9
        simp only [vx, vz, Nat.reduceAdd, Nat.reduceSub, Nat.reduceMul, Nat.reduceLeDiff, Nat.reduceLT, Nat.reduceEqDiff, Nat.reduceBEq, Int.reduceToNat, Int.reduceNeg, Int.reduceEq, Int.reduceNe, Int.reduceLE, Int.reduceLT, reduceCtorEq, ↓reduceIte]
        exact sn_osl (es := (tupS (ks m c) k).map iD) (by simp only [Go.Vx.rowAt, List.map_map]; rfl) (by simpa using h8) (by omega) (fun e he => by obtain ⟨t, _, rfl⟩ := List.mem_map.1 he; rfl) (by rw [List.drop_zero, List.take_of_length_le (by simp; omega)])
theorem t12 (m : Md) (i k : Int) (h : Sm m i) : CallP Try.prog 12 [mdV m, .d (.int .i64 i), .d (.int .i64 k)] (tupV m i k) := by
  have hm := hm
  have ok := h.ok
  refine go12 ac12 rfl ?_
  by_cases h1 : k < 0
  · rw [tupV_no (by omega)]
    simp only [vx, vz, Nat.reduceAdd, Nat.reduceSub, Nat.reduceMul, Nat.reduceLeDiff, Nat.reduceLT, Nat.reduceEqDiff, Nat.reduceBEq, Int.reduceToNat, Int.reduceNeg, Int.reduceEq, Int.reduceNe, Int.reduceLE, Int.reduceLT, reduceCtorEq, ↓reduceIte, ac12, dt h1]
  · simp only [vx, vz, Nat.reduceAdd, Nat.reduceSub, Nat.reduceMul, Nat.reduceLeDiff, Nat.reduceLT, Nat.reduceEqDiff, Nat.reduceBEq, Int.reduceToNat, Int.reduceNeg, Int.reduceEq, Int.reduceNe, Int.reduceLE, Int.reduceLT, reduceCtorEq, ↓reduceIte, ac12, df h1]
    refine call_p rfl (t14 m i h) ?_
    simp only [vx, vz, Nat.reduceAdd, Nat.reduceSub, Nat.reduceMul, Nat.reduceLeDiff, Nat.reduceLT, Nat.reduceEqDiff, Nat.reduceBEq, Int.reduceToNat, Int.reduceNeg, Int.reduceEq, Int.reduceNe, Int.reduceLE, Int.reduceLT, reduceCtorEq, ↓reduceIte]
    refine cond_split (fun hc => ?_) (fun hc => ?_)
    · simp only [decide_eq_true_eq] at hc
      rw [tupV_no (by omega)]
      simp only [vx, vz, Nat.reduceAdd, Nat.reduceSub, Nat.reduceMul, Nat.reduceLeDiff, Nat.reduceLT, Nat.reduceEqDiff, Nat.reduceBEq, Int.reduceToNat, Int.reduceNeg, Int.reduceEq, Int.reduceNe, Int.reduceLE, Int.reduceLT, reduceCtorEq, ↓reduceIte]
    · simp only [decide_eq_false_iff_not] at hc
      obtain ⟨i, c, k, rfl, rfl, hc, hu, h2, h3, h4, h5⟩ := szS_some (m := m) (i := i) (k := k) (by omega)
      have h6 := h.pts c h3
      have hkl : (ks m c).length = c.2.1.length := by simp [ks]
      have hil := (List.getElem?_eq_some_iff.1 hc).1
      rw [h5]
      simp only [vx, vz, Nat.reduceAdd, Nat.reduceSub, Nat.reduceMul, Nat.reduceLeDiff, Nat.reduceLT, Nat.reduceEqDiff, Nat.reduceBEq, Int.reduceToNat, Int.reduceNeg, Int.reduceEq, Int.reduceNe, Int.reduceLE, Int.reduceLT, reduceCtorEq, ↓reduceIte]
      refine ⟨by omega, by omega, getM_at hc ?_⟩
      simp only [vx, vz, Nat.reduceAdd, Nat.reduceSub, Nat.reduceMul, Nat.reduceLeDiff, Nat.reduceLT, Nat.reduceEqDiff, Nat.reduceBEq, Int.reduceToNat, Int.reduceNeg, Int.reduceEq, Int.reduceNe, Int.reduceLE, Int.reduceLT, reduceCtorEq, ↓reduceIte]
      simp only [vx, vz, Nat.reduceAdd, Nat.reduceSub, Nat.reduceMul, Nat.reduceLeDiff, Nat.reduceLT, Nat.reduceEqDiff, Nat.reduceBEq, Int.reduceToNat, Int.reduceNeg, Int.reduceEq, Int.reduceNe, Int.reduceLE, Int.reduceLT, reduceCtorEq, ↓reduceIte, crD]
      refine ⟨by omega, by omega, by omega, by omega, by simp, ?_⟩
      have hz : List.replicate c.2.1.length [V.d (.int .i64 0)] = (List.replicate c.2.1.length 0).map elV := by simp [elV]
      rw [hz, wr_i64 (by omega) (by omega)]
      refine loop_st (fun p : Nat × List Int => ⟨mkF 49 [(1, .d (.int .i64 i)), (2, .d (.int .i64 (k / pr ((ks m c).drop p.1) : Nat))), (3, .optr 2 0 1 0 0), (8, .osl 1 1 c.2.1.length 0 c.2.1.length), (9, .d (.int .i64 ((p.1 : Int) - 1)))], [.live 2 [[.d (.sl 6 (m.1.map ptD)), .d (.sl 3 (m.2.map crD))]], .live 1 (p.2.map elV)]⟩) (fun p => p.1 ≤ c.2.1.length ∧ p.2.length = c.2.1.length ∧ p.2.drop p.1 = (tupS (ks m c) k).drop p.1) (fun p => p.1) (c.2.1.length, List.replicate c.2.1.length 0) (weak_any (by
        have e : k / pr ((ks m c).drop c.2.1.length) = k := by rw [drop_end (by omega), pr, Nat.div_one]
        simp only [e]
        simp only [vx, vz, Nat.reduceAdd, Nat.reduceSub, Nat.reduceMul, Nat.reduceLeDiff, Nat.reduceLT, Nat.reduceEqDiff, Nat.reduceBEq, Int.reduceToNat, Int.reduceNeg, Int.reduceEq, Int.reduceNe, Int.reduceLE, Int.reduceLT, reduceCtorEq, ↓reduceIte]
        try trivial)) ⟨Nat.le_refl _, by simp, by simp only; rw [drop_end (by simp), drop_end (by rw [tupS_len]; omega)]⟩ (fun p hp => ?_)
      obtain ⟨t, l⟩ := p
      obtain ⟨h7, h8, h9⟩ := hp
      simp only at h7 h8 h9
      simp only [vx, vz, Nat.reduceAdd, Nat.reduceSub, Nat.reduceMul, Nat.reduceLeDiff, Nat.reduceLT, Nat.reduceEqDiff, Nat.reduceBEq, Int.reduceToNat, Int.reduceNeg, Int.reduceEq, Int.reduceNe, Int.reduceLE, Int.reduceLT, reduceCtorEq, ↓reduceIte]
      refine cond_split (fun hc2 => ?_) (fun hc2 => ?_)
      · simp only [decide_eq_true_eq] at hc2
        obtain ⟨t, rfl⟩ : ∃ u, t = u + 1 := ⟨t - 1, by omega⟩
        obtain ⟨p, hp⟩ := get_ex (l := c.2.1) (i := t) (by omega)
        obtain ⟨y, hy⟩ := get_ex (l := l) (i := t) (by omega)
        have hpos := pr_pos (by omega) (ks_at (m := m) hp)
        have e1 : (((t + 1 : Nat) : Int) - 1) = t := by omega
        rw [e1]
        simp only [vx, vz, Nat.reduceAdd, Nat.reduceSub, Nat.reduceMul, Nat.reduceLeDiff, Nat.reduceLT, Nat.reduceEqDiff, Nat.reduceBEq, Int.reduceToNat, Int.reduceNeg, Int.reduceEq, Int.reduceNe, Int.reduceLE, Int.reduceLT, reduceCtorEq, ↓reduceIte]
        refine call_p rfl (t27 m i t c hc p hp hu ok) ?_
        simp only [vx, vz, Nat.reduceAdd, Nat.reduceSub, Nat.reduceMul, Nat.reduceLeDiff, Nat.reduceLT, Nat.reduceEqDiff, Nat.reduceBEq, Int.reduceToNat, Int.reduceNeg, Int.reduceEq, Int.reduceNe, Int.reduceLE, Int.reduceLT, reduceCtorEq, ↓reduceIte]
        refine ⟨by omega, by omega, by omega, by simpa using h8, by simpa using h8, getM_at hy ?_⟩
        simp only [vx, vz, Nat.reduceAdd, Nat.reduceSub, Nat.reduceMul, Nat.reduceLeDiff, Nat.reduceLT, Nat.reduceEqDiff, Nat.reduceBEq, Int.reduceToNat, Int.reduceNeg, Int.reduceEq, Int.reduceNe, Int.reduceLE, Int.reduceLT, reduceCtorEq, ↓reduceIte, elV]
        refine ⟨by omega, ?_⟩
        have e2 : (((k / pr ((ks m c).drop (t + 1)) : Nat) : Int)).tmod (nb m p : Int) = ((k / pr ((ks m c).drop (t + 1)) % nb m p : Nat) : Int) := (Int.ofNat_tmod _ _).symm
        have e3 : (((k / pr ((ks m c).drop (t + 1)) : Nat) : Int)).tdiv (nb m p : Int) = ((k / pr ((ks m c).drop t) : Nat) : Int) := by
          rw [drop_at (ks_at (m := m) hp), pr, Nat.mul_comm, ← Nat.div_div_eq_div_mul]; exact (Int.ofNat_tdiv _ _).symm
        have e4 : k / pr ((ks m c).drop t) ≤ k := Nat.div_le_self _ _
        have e5 : pr (ks m c) ≤ 2560000 := by
          have := pr_le (l := ks m c) (fun n hn => by obtain ⟨q, _, rfl⟩ := List.mem_map.1 hn; exact nb_le h.bins q)
          exact Nat.le_trans this (pow_le4 (by omega))
        rw [e2, set_el]
        refine ls_n (t, l.set t ((k / pr ((ks m c).drop (t + 1)) % nb m p : Nat) : Int)) (by simp only; omega) (weak_any ?_) ⟨by simp only; omega, by simp only [List.length_set]; exact h8, by simp only; rw [drop_set (by omega), h9, drop_at (tupS_at (ks_at (m := m) hp))]⟩
        simp only [vx, vz, Nat.reduceAdd, Nat.reduceSub, Nat.reduceMul, Nat.reduceLeDiff, Nat.reduceLT, Nat.reduceEqDiff, Nat.reduceBEq, Int.reduceToNat, Int.reduceNeg, Int.reduceEq, Int.reduceNe, Int.reduceLE, Int.reduceLT, reduceCtorEq, ↓reduceIte]
        rw [e3]
        generalize k / pr ((ks m c).drop t) = q at e4 ⊢
        rw [wr_i64 (by omega) (by omega), wr_i64 (by omega) (by omega)]
        trivial
      · simp only [decide_eq_false_iff_not] at hc2
        have : t = 0 := by omega
        subst this
        rw [List.drop_zero, List.drop_zero] at h9
        subst h9
        simp only [vx, vz, Nat.reduceAdd, Nat.reduceSub, Nat.reduceMul, Nat.reduceLeDiff, Nat.reduceLT, Nat.reduceEqDiff, Nat.reduceBEq, Int.reduceToNat, Int.reduceNeg, Int.reduceEq, Int.reduceNe, Int.reduceLE, Int.reduceLT, reduceCtorEq, ↓reduceIte]
        exact sn_osl (es := (tupS (ks m c) k).map iD) (by simp only [Go.Vx.rowAt, List.map_map]; rfl) (by simpa using h8) (by omega) (fun e he => by obtain ⟨t, _, rfl⟩ := List.mem_map.1 he; rfl) (by rw [List.drop_zero, List.take_of_length_le (by simp; omega)])
end Go.Proofs.Cr
