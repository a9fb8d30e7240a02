import Derived.Test.YtgeiklkjlmfpfaaS8
set_option linter.unusedSimpArgs false
set_option linter.unusedVariables false
namespace Go.Proofs.Hs
open Go.Vx
theorem zext_lt (c : C) : (c.zeroExtend 64).toNat < 16 ^ 8 := by
  have h := c.isLt
  rw [BitVec.toNat_setWidth, Nat.mod_eq_of_lt (Nat.lt_of_lt_of_le h (by decide))]
  exact Nat.lt_of_lt_of_le h (by decide)
theorem zext_inj {a b : C} (h : a.zeroExtend 64 = b.zeroExtend 64) : a = b := by
  have ha := a.isLt
  have hb := b.isLt
  have := congrArg BitVec.toNat h
  rw [BitVec.toNat_setWidth, BitVec.toNat_setWidth, Nat.mod_eq_of_lt (Nat.lt_of_lt_of_le ha (by decide)), Nat.mod_eq_of_lt (Nat.lt_of_lt_of_le hb (by decide))] at this
  exact BitVec.eq_of_toNat_eq this
abbrev tail8 (s : B) : B := hexS ((crcS s).zeroExtend 64) 8
theorem seaS_eq (s : B) : seaS s = s ++ (35 :: tail8 s) := by unfold seaS; simp
theorem seaS_len (s : B) : (seaS s).length = s.length + 9 := by rw [seaS_eq]; simp [hexS_len]
theorem tail_inj {a b : B} (h : tail8 a = tail8 b) : crcS a = crcS b := by
  have h1 := rd_hex ((crcS a).zeroExtend 64) 8 (zext_lt _)
  have h2 := rd_hex ((crcS b).zeroExtend 64) 8 (zext_lt _)
  unfold tail8 at h
  rw [h, h2] at h1
  exact zext_inj (Prod.mk.inj h1).1.symm
theorem drop_tail (s : B) (t : B) (x : UInt8) : (s ++ x :: t).drop (s.length + 1) = t := by
  rw [List.drop_append, List.drop_eq_nil_of_le (by omega)]
  simp
theorem op_sea (s : B) : opS (seaS s) = (s, 0) := by
  have hl := seaS_len s
  unfold opS
  rw [if_neg (by omega), show (seaS s).length - 9 = s.length by omega, seaS_eq, drop_tail, rd_hex _ 8 (zext_lt _), List.take_left, if_neg, if_neg]
  · simp
  · rintro (h | h)
    · exact h (by rw [List.getElem?_append_right (Nat.le_refl _), Nat.sub_self]; rfl)
    · cases h
theorem op_ok {s : B} (h : (opS s).2 = 0) : s = seaS (opS s).1 := by
  unfold opS at h ⊢
  split at h
  · simp at h
  · rename_i h1
    split at h
    · simp at h
    · rename_i h2
      split at h
      · simp at h
      · rename_i h3
        rw [if_neg h1, if_neg h2, if_neg h3]
        simp only
        rw [seaS_eq]
        obtain ⟨n, hn⟩ : ∃ n : Nat, s.length = n + 9 := ⟨s.length - 9, by omega⟩
        have hn3 : s.length - 9 = n := by omega
        rw [hn3] at h2 h3 ⊢
        have h4 : s[n]? = some 35 := by
          cases hq : s[n]? with
          | none => exact absurd (.inl (by rw [hq]; simp)) h2
          | some c =>
            by_cases hc : c = 35
            · rw [hc]
            · exact absurd (.inl (by rw [hq]; simpa using hc)) h2
        have h5 : (rdS (s.drop (n + 1))).2 = true := by
          cases hq : (rdS (s.drop (n + 1))).2 with
          | true => rfl
          | false => exact absurd (.inr hq) h2
        have h6 : (rdS (s.drop (n + 1))).1 = (crcS (s.take n)).zeroExtend 64 := by
          by_cases hq : (rdS (s.drop (n + 1))).1 = (crcS (s.take n)).zeroExtend 64
          · exact hq
          · exact absurd hq h3
        have hdl : (s.drop (n + 1)).length = 8 := by simp; omega
        have h7 := hex_rd (d := s.drop (n + 1)) (x := (crcS (s.take n)).zeroExtend 64) (by omega) (by rw [← h6, ← h5])
        rw [hdl] at h7
        rw [tail8, h7, ← drop_at h4, List.take_append_drop]
theorem op_bad {s : B} (h : (opS s).2 ≠ 0) : (opS s).1 = [] := by
  unfold opS at h ⊢
  split
  · rfl
  · rename_i h1
    rw [if_neg h1] at h
    split
    · rfl
    · rename_i h2
      rw [if_neg h2] at h
      split
      · rfl
      · rename_i h3
        rw [if_neg h3] at h
        exact absurd rfl h
/-- a changed byte is seen -/
theorem op_changed {s : B} {i : Nat} {x y : UInt8} (hx : (seaS s)[i]? = some x) (hne : y ≠ x) : (opS ((seaS s).set i y)).2 ≠ 0 := by
  intro h
  have hi : i < (seaS s).length := (List.getElem?_eq_some_iff.1 hx).1
  have ht := op_ok h
  generalize hv : (opS ((seaS s).set i y)).1 = v at ht
  have hlen : v.length = s.length := by
    have := congrArg List.length ht
    rw [List.length_set, seaS_len, seaS_len] at this
    omega
  rw [seaS_eq, seaS_eq] at ht
  rw [seaS_len] at hi
  rw [seaS_eq] at hx
  by_cases h1 : i < s.length
  · rw [List.set_append_left _ _ h1] at ht
    obtain ⟨h2, h3⟩ := List.append_inj ht (by rw [List.length_set, hlen])
    have h4 := tail_inj (List.cons.inj h3).2
    rw [List.getElem?_append_left h1] at hx
    have h5 : s = s.take i ++ x :: s.drop (i + 1) := by rw [← drop_at hx, List.take_append_drop]
    have h6 : s.set i y = s.take i ++ y :: s.drop (i + 1) := by rw [List.set_eq_take_append_cons_drop, if_pos h1]
    rw [← h2, h6] at h4
    rw [h5] at h4
    have h7 : (s.take i ++ x :: s.drop (i + 1)).take i = s.take i := by rw [← h5]
    have h8 : (s.take i ++ x :: s.drop (i + 1)).drop (i + 1) = s.drop (i + 1) := by rw [← h5]
    rw [h7, h8] at h4
    exact hne (crc_ne h4).symm
  · rw [List.set_append_right _ _ (by omega)] at ht
    obtain ⟨h2, h3⟩ := List.append_inj ht hlen.symm
    subst h2
    rw [List.getElem?_append_right (by omega)] at hx
    generalize i - s.length = j at *
    cases j with
    | zero =>
      simp only [List.set_cons_zero, List.cons.injEq] at h3
      simp at hx
      exact hne (h3.1.trans hx)
    | succ j =>
      simp only [List.set_cons_succ, List.cons.injEq, true_and] at h3
      simp only [List.getElem?_cons_succ] at hx
      have hj : j < (tail8 s).length := (List.getElem?_eq_some_iff.1 hx).1
      have := congrArg (fun l => l[j]?) h3
      rw [List.getElem?_set_self hj, hx] at this
      injection this with this
      exact hne this
end Go.Proofs.Hs
