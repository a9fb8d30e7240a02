import Derived.Test.YtfoncpamepepmaaS3
set_option linter.unusedSimpArgs false
set_option linter.unusedVariables false
namespace Go.Proofs.Ar
open Go.Vx
def fidx {α : Type} (q : α → Bool) : List α → Nat → Int
  | [], _ => -1
  | x :: l, i => if q x then (i : Int) else fidx q l (i + 1)
theorem fidx_spec {α : Type} {q : α → Bool} {l : List α} {k : Nat} : (fidx q l k = -1 ∧ ∀ x ∈ l, q x = false) ∨ ∃ i x, fidx q l k = ((k + i : Nat) : Int) ∧ l[i]? = some x ∧ q x = true := by
  induction l generalizing k with
  | nil => exact .inl ⟨rfl, by simp⟩
  | cons x l ih =>
    rw [fidx]
    split
    · next h => exact .inr ⟨0, x, rfl, rfl, h⟩
    · next h =>
      rcases ih (k := k + 1) with ⟨h1, h2⟩ | ⟨i, y, h1, h2, h3⟩
      · exact .inl ⟨h1, fun z hz => by
          rcases List.mem_cons.1 hz with rfl | hz
          · simpa using h
          · exact h2 z hz⟩
      · exact .inr ⟨i + 1, y, by rw [h1]; congr 1; omega, by simpa using h2, h3⟩
def lnD (p : List Sl × Nat) : List D := [.ptr [.sl 4 (p.1.map slD), .int .i64 p.2]]
theorem t32 (ls : List (List Sl × Nat)) (hl : ls.length ≤ maxLen) : CallP Try.prog 32 [.d (.sl 1 (ls.map lnD)), .fn (.func 33) [] []] (.d (.int .i64 (fidx busyS ls 0))) := by
  have hm := hm
  refine go32 ac32 rfl ?_
  simp only [vx, vz, Nat.reduceAdd, Nat.reduceSub, Nat.reduceMul, Nat.reduceLeDiff, Nat.reduceLT, Nat.reduceEqDiff, Nat.reduceBEq, Int.reduceToNat, Int.reduceNeg, Int.reduceEq, Int.reduceNe, Int.reduceLE, Int.reduceLT, reduceCtorEq, ↓reduceIte, ac32]
  refine loop_st (fun i : Nat => ⟨mkF 19 [(0, .d (.sl 1 (ls.map lnD))), (1, .fn (.func 33) [] []), (7, .d (.int .i64 ls.length)), (8, .d (.int .i64 i))], []⟩) (fun i => i ≤ ls.length ∧ fidx busyS ls 0 = fidx busyS (ls.drop i) i) (fun i => ls.length - i) 0 (weak_any (by simp only [vx, vz, Nat.reduceAdd, Nat.reduceSub, Nat.reduceMul, Nat.reduceLeDiff, Nat.reduceLT, Nat.reduceEqDiff, Nat.reduceBEq, Int.reduceToNat, Int.reduceNeg, Int.reduceEq, Int.reduceNe, Int.reduceLE, Int.reduceLT, reduceCtorEq, ↓reduceIte]; try trivial)) ⟨by omega, by rw [List.drop_zero]⟩ (fun i hi => ?_)
  obtain ⟨h1, h2⟩ := hi
  simp only [vx, vz, Nat.reduceAdd, Nat.reduceSub, Nat.reduceMul, Nat.reduceLeDiff, Nat.reduceLT, Nat.reduceEqDiff, Nat.reduceBEq, Int.reduceToNat, Int.reduceNeg, Int.reduceEq, Int.reduceNe, Int.reduceLE, Int.reduceLT, reduceCtorEq, ↓reduceIte]
  refine cond_split (fun hc => ?_) (fun hc => ?_)
  · simp only [decide_eq_true_eq] at hc
    obtain ⟨x, hx⟩ := get_ex (l := ls) (i := i) (by omega)
    rw [drop_at hx, fidx] at h2
    simp only [vx, vz, Nat.reduceAdd, Nat.reduceSub, Nat.reduceMul, Nat.reduceLeDiff, Nat.reduceLT, Nat.reduceEqDiff, Nat.reduceBEq, Int.reduceToNat, Int.reduceNeg, Int.reduceEq, Int.reduceNe, Int.reduceLE, Int.reduceLT, reduceCtorEq, ↓reduceIte]
    refine ⟨by omega, by omega, getM_at hx ?_⟩
    simp only [vx, vz, Nat.reduceAdd, Nat.reduceSub, Nat.reduceMul, Nat.reduceLeDiff, Nat.reduceLT, Nat.reduceEqDiff, Nat.reduceBEq, Int.reduceToNat, Int.reduceNeg, Int.reduceEq, Int.reduceNe, Int.reduceLE, Int.reduceLT, reduceCtorEq, ↓reduceIte]
    simp only [vx, vz, Nat.reduceAdd, Nat.reduceSub, Nat.reduceMul, Nat.reduceLeDiff, Nat.reduceLT, Nat.reduceEqDiff, Nat.reduceBEq, Int.reduceToNat, Int.reduceNeg, Int.reduceEq, Int.reduceNe, Int.reduceLE, Int.reduceLT, reduceCtorEq, ↓reduceIte, lnD]
    refine call_p rfl (t33 x) ?_
    simp only [vx, vz, Nat.reduceAdd, Nat.reduceSub, Nat.reduceMul, Nat.reduceLeDiff, Nat.reduceLT, Nat.reduceEqDiff, Nat.reduceBEq, Int.reduceToNat, Int.reduceNeg, Int.reduceEq, Int.reduceNe, Int.reduceLE, Int.reduceLT, reduceCtorEq, ↓reduceIte]
    refine cond_split (fun hc2 => ?_) (fun hc2 => ?_)
    · rw [if_pos hc2] at h2
      simp only [vx, vz, Nat.reduceAdd, Nat.reduceSub, Nat.reduceMul, Nat.reduceLeDiff, Nat.reduceLT, Nat.reduceEqDiff, Nat.reduceBEq, Int.reduceToNat, Int.reduceNeg, Int.reduceEq, Int.reduceNe, Int.reduceLE, Int.reduceLT, reduceCtorEq, ↓reduceIte, h2]
    · rw [if_neg (by rw [hc2]; decide)] at h2
      simp only [vx, vz, Nat.reduceAdd, Nat.reduceSub, Nat.reduceMul, Nat.reduceLeDiff, Nat.reduceLT, Nat.reduceEqDiff, Nat.reduceBEq, Int.reduceToNat, Int.reduceNeg, Int.reduceEq, Int.reduceNe, Int.reduceLE, Int.reduceLT, reduceCtorEq, ↓reduceIte]
      refine ls_n (i + 1) (by omega) (weak_any ?_) ⟨by omega, h2⟩
      simp only [vx, vz, Nat.reduceAdd, Nat.reduceSub, Nat.reduceMul, Nat.reduceLeDiff, Nat.reduceLT, Nat.reduceEqDiff, Nat.reduceBEq, Int.reduceToNat, Int.reduceNeg, Int.reduceEq, Int.reduceNe, Int.reduceLE, Int.reduceLT, reduceCtorEq, ↓reduceIte]
      rw [wr_i64 (by omega) (by omega)]
      trivial
  · simp only [decide_eq_false_iff_not] at hc
    rw [drop_end (by omega), fidx] at h2
    simp only [vx, vz, Nat.reduceAdd, Nat.reduceSub, Nat.reduceMul, Nat.reduceLeDiff, Nat.reduceLT, Nat.reduceEqDiff, Nat.reduceBEq, Int.reduceToNat, Int.reduceNeg, Int.reduceEq, Int.reduceNe, Int.reduceLE, Int.reduceLT, reduceCtorEq, ↓reduceIte, h2]
def adv (p : List Sl × Nat) : List Sl × Nat := (p.1, p.2 + 1)
def incS (p : List Sl × Nat) : List Sl × Nat := if p.2 < p.1.length then adv p else p
def idl : Sl := (true, [], [], [])
def opn (ls : List (List Sl × Nat)) : Bool := ls.any fun p => !finS p
def frS : Nat → List (List Sl × Nat) → List Sl
  | 0, _ => []
  | n + 1, ls =>
    if 0 ≤ fidx busyS ls 0 then
      match ls[(fidx busyS ls 0).toNat]? with
      | some p => match p.1[p.2]? with
        | some x => x :: frS n (ls.set (fidx busyS ls 0).toNat (adv p))
        | none => []
      | none => []
    else if opn ls then idl :: frS n (ls.map incS) else []
def rem : List (List Sl × Nat) → Nat
  | [] => 0
  | p :: l => (p.1.length - p.2) + rem l
theorem rem_set {ls : List (List Sl × Nat)} {i : Nat} {p q : List Sl × Nat} (h : ls[i]? = some p) : rem (ls.set i q) + (p.1.length - p.2) = rem ls + (q.1.length - q.2) := by
  induction ls generalizing i with
  | nil => simp at h
  | cons a ls ih => cases i with
    | zero => simp at h; subst h; simp [rem]; omega
    | succ i => have := ih (i := i) (by simpa using h); simp [rem]; omega
theorem rem_inc {ls : List (List Sl × Nat)} : rem (ls.map incS) ≤ rem ls ∧ (opn ls = true → rem (ls.map incS) < rem ls) := by
  induction ls with
  | nil => simp [rem, opn]
  | cons a ls ih =>
    have e : (incS a).1.length - (incS a).2 ≤ a.1.length - a.2 ∧ (finS a = false → (incS a).1.length - (incS a).2 < a.1.length - a.2) := by
      rw [incS]
      split
      · simp only [adv]; exact ⟨by omega, fun _ => by omega⟩
      · next h => exact ⟨Nat.le_refl _, fun hf => absurd (of_decide_eq_false hf) (by omega)⟩
    simp only [List.map_cons, rem]
    refine ⟨by omega, fun ho => ?_⟩
    rw [opn, List.any_cons, Bool.or_eq_true] at ho
    rcases ho with ho | ho
    · have := e.2 (by simpa using ho); omega
    · have := ih.2 ho; omega
theorem busy_some {p : List Sl × Nat} (h : busyS p = true) : ∃ x, p.1[p.2]? = some x ∧ x.1 = false := by
  rw [busyS] at h
  split at h
  · cases h
  · next s e => exact ⟨s, e, by simpa using h⟩
theorem fr_busy {n : Nat} {ls : List (List Sl × Nat)} {i : Nat} {p : List Sl × Nat} {x : Sl} (hi : fidx busyS ls 0 = (i : Nat)) (hp : ls[i]? = some p) (hx : p.1[p.2]? = some x) : frS (n + 1) ls = x :: frS n (ls.set i (adv p)) := by
  rw [frS, hi, if_pos (by omega), Int.toNat_natCast, hp]
  simp only [hx]
theorem fr_idle {n : Nat} {ls : List (List Sl × Nat)} (hi : fidx busyS ls 0 = -1) : frS (n + 1) ls = if opn ls then idl :: frS n (ls.map incS) else [] := by
  rw [frS, hi, if_neg (by omega)]
theorem fr_done {n : Nat} {ls : List (List Sl × Nat)} (hi : fidx busyS ls 0 = -1) (ho : opn ls = false) : frS n ls = [] := by
  cases n with
  | zero => rfl
  | succ n => rw [fr_idle hi, ho]; rfl
theorem rem_busy {ls : List (List Sl × Nat)} {i : Nat} {p : List Sl × Nat} {x : Sl} (hp : ls[i]? = some p) (hx : p.1[p.2]? = some x) : rem (ls.set i (adv p)) + 1 = rem ls := by
  have h1 := rem_set (q := adv p) hp
  have h2 := (List.getElem?_eq_some_iff.1 hx).1
  simp only [adv] at h1 ⊢
  omega
def incI (ls : List (List Sl × Nat)) (i : Nat) : List (List Sl × Nat) := (ls.take i).map incS ++ ls.drop i
theorem incI_len {ls : List (List Sl × Nat)} {i : Nat} (h : i ≤ ls.length) : (incI ls i).length = ls.length := by simp [incI]; omega
theorem incI_zero {ls : List (List Sl × Nat)} : incI ls 0 = ls := by simp [incI]
theorem incI_end {ls : List (List Sl × Nat)} {i : Nat} (h : ls.length ≤ i) : incI ls i = ls.map incS := by rw [incI, take_end h, drop_end h]; simp
theorem incI_at {ls : List (List Sl × Nat)} {i : Nat} {p : List Sl × Nat} (h : ls[i]? = some p) : (incI ls i)[i]? = some p := by
  have hi := (List.getElem?_eq_some_iff.1 h).1
  rw [incI, drop_at h, List.getElem?_append_right (by simp; omega)]
  simp; rw [Nat.min_eq_left (by omega), Nat.sub_self]; rfl
theorem incI_set {ls : List (List Sl × Nat)} {i : Nat} {p : List Sl × Nat} (h : ls[i]? = some p) : (incI ls i).set i (incS p) = incI ls (i + 1) := by
  have hi := (List.getElem?_eq_some_iff.1 h).1
  rw [incI, incI, drop_at h, take_at h, List.map_append, List.set_append_right _ _ (by simp; omega)]
  have : i - ((ls.take i).map incS).length = 0 := by simp; omega
  rw [this, List.set_cons_zero, List.append_assoc]; rfl
theorem set_same {α : Type} {l : List α} {i : Nat} {x : α} (h : l[i]? = some x) : l.set i x = l := by
  refine List.ext_getElem? fun j => ?_
  rw [List.getElem?_set]
  split
  · next e => subst e; rw [h, if_pos (List.getElem?_eq_some_iff.1 h).1]
  · rfl
end Go.Proofs.Ar
