import Derived.Test.YtkbjfoodikoppaaDoorW1
set_option linter.unusedSectionVars false
set_option linter.unusedSimpArgs false
set_option linter.unusedVariables false
namespace Go.Proofs.Mn
open Go.Vx
theorem t75 (s : B) (hl : s.length ≤ maxLen) : CallP Tryd.prog 75 [.d (.str s)] (.d (.bool (varS s))) := by
  have hm := hm
  refine go75 ac75 rfl ?_
  simp only [vx, vz, Nat.reduceAdd, Nat.reduceSub, Nat.reduceMul, Nat.reduceLeDiff, Nat.reduceLT, Nat.reduceEqDiff, Nat.reduceBEq, Int.reduceToNat, Int.reduceNeg, Int.reduceEq, Int.reduceNe, Int.reduceLE, Int.reduceLT, reduceCtorEq, ↓reduceIte, ac75]
  refine call_p rfl (t80 s 91 hl) ?_
  simp only [vx, vz, Nat.reduceAdd, Nat.reduceSub, Nat.reduceMul, Nat.reduceLeDiff, Nat.reduceLT, Nat.reduceEqDiff, Nat.reduceBEq, Int.reduceToNat, Int.reduceNeg, Int.reduceEq, Int.reduceNe, Int.reduceLE, Int.reduceLT, reduceCtorEq, ↓reduceIte]
  have hlen := cut_len 91 s
  unfold varS
  obtain ⟨c, hc⟩ : ∃ c, cutS 91 s = c := ⟨_, rfl⟩
  obtain ⟨k, r, m⟩ := c
  rw [hc] at hlen ⊢
  simp only at hlen ⊢
  cases m with
  | false =>
    rw [if_neg (by decide)]
    simp only [vx, vz, Nat.reduceAdd, Nat.reduceSub, Nat.reduceMul, Nat.reduceLeDiff, Nat.reduceLT, Nat.reduceEqDiff, Nat.reduceBEq, Int.reduceToNat, Int.reduceNeg, Int.reduceEq, Int.reduceNe, Int.reduceLE, Int.reduceLT, reduceCtorEq, ↓reduceIte]
    refine call_p rfl (t34 s hl) ?_
    simp only [vx, vz, Nat.reduceAdd, Nat.reduceSub, Nat.reduceMul, Nat.reduceLeDiff, Nat.reduceLT, Nat.reduceEqDiff, Nat.reduceBEq, Int.reduceToNat, Int.reduceNeg, Int.reduceEq, Int.reduceNe, Int.reduceLE, Int.reduceLT, reduceCtorEq, ↓reduceIte]
  | true =>
    rw [if_pos rfl]
    simp only [vx, vz, Nat.reduceAdd, Nat.reduceSub, Nat.reduceMul, Nat.reduceLeDiff, Nat.reduceLT, Nat.reduceEqDiff, Nat.reduceBEq, Int.reduceToNat, Int.reduceNeg, Int.reduceEq, Int.reduceNe, Int.reduceLE, Int.reduceLT, reduceCtorEq, ↓reduceIte]
    refine call_p rfl (t34 k (by omega)) ?_
    simp only [vx, vz, Nat.reduceAdd, Nat.reduceSub, Nat.reduceMul, Nat.reduceLeDiff, Nat.reduceLT, Nat.reduceEqDiff, Nat.reduceBEq, Int.reduceToNat, Int.reduceNeg, Int.reduceEq, Int.reduceNe, Int.reduceLE, Int.reduceLT, reduceCtorEq, ↓reduceIte]
    cases hk : nmS k with
    | false => simp only [vx, vz, Nat.reduceAdd, Nat.reduceSub, Nat.reduceMul, Nat.reduceLeDiff, Nat.reduceLT, Nat.reduceEqDiff, Nat.reduceBEq, Int.reduceToNat, Int.reduceNeg, Int.reduceEq, Int.reduceNe, Int.reduceLE, Int.reduceLT, reduceCtorEq, ↓reduceIte, Bool.false_and]
    | true =>
      rw [Bool.true_and]
      simp only [vx, vz, Nat.reduceAdd, Nat.reduceSub, Nat.reduceMul, Nat.reduceLeDiff, Nat.reduceLT, Nat.reduceEqDiff, Nat.reduceBEq, Int.reduceToNat, Int.reduceNeg, Int.reduceEq, Int.reduceNe, Int.reduceLE, Int.reduceLT, reduceCtorEq, ↓reduceIte]
      by_cases h2 : (r.length : Int) = 2
      · match r, h2 with
        | [a, b], _ =>
          simp only [vx, vz, Nat.reduceAdd, Nat.reduceSub, Nat.reduceMul, Nat.reduceLeDiff, Nat.reduceLT, Nat.reduceEqDiff, Nat.reduceBEq, Int.reduceToNat, Int.reduceNeg, Int.reduceEq, Int.reduceNe, Int.reduceLE, Int.reduceLT, reduceCtorEq, ↓reduceIte, idxB]
          have e1 : decide ((48 : Int) ≤ (a.toNat : Int)) = decide (48 ≤ a.toNat) := decide_eq_decide.2 (by omega)
          have e2 : decide ((a.toNat : Int) < 56) = decide (a.toNat < 56) := decide_eq_decide.2 (by omega)
          have e3 : decide ((b.toNat : Int) = 93) = decide (b = 93) := decide_eq_decide.2 ⟨fun h => UInt8.toNat.inj (by have : (93 : UInt8).toNat = 93 := rfl; omega), fun h => by rw [h]; rfl⟩
          by_cases h3 : 48 ≤ a.toNat
          · by_cases h4 : a.toNat < 56
            · simp only [vx, vz, Nat.reduceAdd, Nat.reduceSub, Nat.reduceMul, Nat.reduceLeDiff, Nat.reduceLT, Nat.reduceEqDiff, Nat.reduceBEq, Int.reduceToNat, Int.reduceNeg, Int.reduceEq, Int.reduceNe, Int.reduceLE, Int.reduceLT, reduceCtorEq, ↓reduceIte, e1, e2, e3, dt h3, dt h4]
            · simp only [vx, vz, Nat.reduceAdd, Nat.reduceSub, Nat.reduceMul, Nat.reduceLeDiff, Nat.reduceLT, Nat.reduceEqDiff, Nat.reduceBEq, Int.reduceToNat, Int.reduceNeg, Int.reduceEq, Int.reduceNe, Int.reduceLE, Int.reduceLT, reduceCtorEq, ↓reduceIte, e1, e2, dt h3, df h4, Bool.false_and]
          · simp only [vx, vz, Nat.reduceAdd, Nat.reduceSub, Nat.reduceMul, Nat.reduceLeDiff, Nat.reduceLT, Nat.reduceEqDiff, Nat.reduceBEq, Int.reduceToNat, Int.reduceNeg, Int.reduceEq, Int.reduceNe, Int.reduceLE, Int.reduceLT, reduceCtorEq, ↓reduceIte, e1, df h3, Bool.false_and]
      · have : idxB r = false := by
          unfold idxB
          split
          · simp at h2
          · rfl
        rw [this]
        simp only [vx, vz, Nat.reduceAdd, Nat.reduceSub, Nat.reduceMul, Nat.reduceLeDiff, Nat.reduceLT, Nat.reduceEqDiff, Nat.reduceBEq, Int.reduceToNat, Int.reduceNeg, Int.reduceEq, Int.reduceNe, Int.reduceLE, Int.reduceLT, reduceCtorEq, ↓reduceIte, df h2]
/-- the first place of an element that satisfies g -/
def fix {α : Type} (g : α → Bool) : List α → Nat → Int
  | [], _ => -1
  | x :: l, i => if g x = true then (i : Int) else fix g l (i + 1)
theorem fix_ge {α : Type} (g : α → Bool) (l : List α) (k : Nat) : decide (0 ≤ fix g l k) = l.any g := by
  induction l generalizing k with
  | nil => rfl
  | cons x l ih =>
    rw [fix, List.any_cons]
    cases h : g x with
    | true => rw [if_pos rfl, dt (by omega)]; rfl
    | false => rw [if_neg (by decide), ih]; rfl
/-- a channel: its names -/
structure Chn where
  va : B
  rd : B
  fs : List B
def Chn.d (c : Chn) : List D := [.str c.va, .str c.rd, .sl 1 (strs c.fs)]
abbrev chV (c : Chn) : V := .agg [.d (.str c.va), .d (.str c.rd), .d (.sl 1 (strs c.fs))]
theorem t79 (l : List B) (g : B → Bool) (F : FuncId) (hl : l.length ≤ maxLen) (hp : ∀ x ∈ l, CallP Tryd.prog F [.d (.str x)] (.d (.bool (g x)))) : CallP Tryd.prog 79 [.d (.sl 1 (l.map sD)), .fn (.func F) [] []] (.d (.int .i64 (fix g l 0))) := by
  have hm := hm
  refine go79 ac79 rfl ?_
  simp only [vx, vz, Nat.reduceAdd, Nat.reduceSub, Nat.reduceMul, Nat.reduceLeDiff, Nat.reduceLT, Nat.reduceEqDiff, Nat.reduceBEq, Int.reduceToNat, Int.reduceNeg, Int.reduceEq, Int.reduceNe, Int.reduceLE, Int.reduceLT, reduceCtorEq, ↓reduceIte, ac79]
  refine loop_st (fun i : Nat => ⟨mkF 19 [(0, .d (.sl 1 (l.map sD))), (1, .fn (.func F) [] []), (7, .d (.int .i64 l.length)), (8, .d (.int .i64 i))], []⟩) (fun i => i ≤ l.length ∧ fix g l 0 = fix g (l.drop i) i) (fun i => l.length - i) 0 (weak_any (by simp only [vx, vz, Nat.reduceAdd, Nat.reduceSub, Nat.reduceMul, Nat.reduceLeDiff, Nat.reduceLT, Nat.reduceEqDiff, Nat.reduceBEq, Int.reduceToNat, Int.reduceNeg, Int.reduceEq, Int.reduceNe, Int.reduceLE, Int.reduceLT, reduceCtorEq, ↓reduceIte]; try trivial)) ⟨by omega, rfl⟩ (fun i hi => ?_)
  obtain ⟨h1, h2⟩ := hi
  simp only [vx, vz, Nat.reduceAdd, Nat.reduceSub, Nat.reduceMul, Nat.reduceLeDiff, Nat.reduceLT, Nat.reduceEqDiff, Nat.reduceBEq, Int.reduceToNat, Int.reduceNeg, Int.reduceEq, Int.reduceNe, Int.reduceLE, Int.reduceLT, reduceCtorEq, ↓reduceIte]
  refine cond_split (fun hc => ?_) (fun hc => ?_)
  · simp only [decide_eq_true_eq] at hc
    obtain ⟨x, hx⟩ := get_ex (l := l) (i := i) (by omega)
    rw [drop_at hx, fix] at h2
    simp only [vx, vz, Nat.reduceAdd, Nat.reduceSub, Nat.reduceMul, Nat.reduceLeDiff, Nat.reduceLT, Nat.reduceEqDiff, Nat.reduceBEq, Int.reduceToNat, Int.reduceNeg, Int.reduceEq, Int.reduceNe, Int.reduceLE, Int.reduceLT, reduceCtorEq, ↓reduceIte]
    refine ⟨by omega, by omega, getM_at hx ?_⟩
    simp only [vx, vz, Nat.reduceAdd, Nat.reduceSub, Nat.reduceMul, Nat.reduceLeDiff, Nat.reduceLT, Nat.reduceEqDiff, Nat.reduceBEq, Int.reduceToNat, Int.reduceNeg, Int.reduceEq, Int.reduceNe, Int.reduceLE, Int.reduceLT, reduceCtorEq, ↓reduceIte]
    simp only [vx, vz, Nat.reduceAdd, Nat.reduceSub, Nat.reduceMul, Nat.reduceLeDiff, Nat.reduceLT, Nat.reduceEqDiff, Nat.reduceBEq, Int.reduceToNat, Int.reduceNeg, Int.reduceEq, Int.reduceNe, Int.reduceLE, Int.reduceLT, reduceCtorEq, ↓reduceIte, sD]
    refine call_p rfl (hp x (List.mem_of_getElem? hx)) ?_
    simp only [vx, vz, Nat.reduceAdd, Nat.reduceSub, Nat.reduceMul, Nat.reduceLeDiff, Nat.reduceLT, Nat.reduceEqDiff, Nat.reduceBEq, Int.reduceToNat, Int.reduceNeg, Int.reduceEq, Int.reduceNe, Int.reduceLE, Int.reduceLT, reduceCtorEq, ↓reduceIte]
    cases hb : g x with
    | true =>
      rw [if_pos hb] at h2
      simp only [vx, vz, Nat.reduceAdd, Nat.reduceSub, Nat.reduceMul, Nat.reduceLeDiff, Nat.reduceLT, Nat.reduceEqDiff, Nat.reduceBEq, Int.reduceToNat, Int.reduceNeg, Int.reduceEq, Int.reduceNe, Int.reduceLE, Int.reduceLT, reduceCtorEq, ↓reduceIte, h2]
    | false =>
      rw [hb, if_neg (by decide)] at h2
      simp only [vx, vz, Nat.reduceAdd, Nat.reduceSub, Nat.reduceMul, Nat.reduceLeDiff, Nat.reduceLT, Nat.reduceEqDiff, Nat.reduceBEq, Int.reduceToNat, Int.reduceNeg, Int.reduceEq, Int.reduceNe, Int.reduceLE, Int.reduceLT, reduceCtorEq, ↓reduceIte]
      refine ls_n (i + 1) (by omega) (weak_any ?_) ⟨by omega, h2⟩
      simp only [vx, vz, Nat.reduceAdd, Nat.reduceSub, Nat.reduceMul, Nat.reduceLeDiff, Nat.reduceLT, Nat.reduceEqDiff, Nat.reduceBEq, Int.reduceToNat, Int.reduceNeg, Int.reduceEq, Int.reduceNe, Int.reduceLE, Int.reduceLT, reduceCtorEq, ↓reduceIte]
      rw [wr_i64 (by omega) (by omega)]
      first | trivial | exact ⟨rfl, rfl⟩
  · simp only [decide_eq_false_iff_not] at hc
    rw [drop_end (by omega), fix] at h2
    simp only [vx, vz, Nat.reduceAdd, Nat.reduceSub, Nat.reduceMul, Nat.reduceLeDiff, Nat.reduceLT, Nat.reduceEqDiff, Nat.reduceBEq, Int.reduceToNat, Int.reduceNeg, Int.reduceEq, Int.reduceNe, Int.reduceLE, Int.reduceLT, reduceCtorEq, ↓reduceIte, h2]
theorem t73 (l : List B) (g : B → Bool) (F : FuncId) (hl : l.length ≤ maxLen) (hp : ∀ x ∈ l, CallP Tryd.prog F [.d (.str x)] (.d (.bool (g x)))) : CallP Tryd.prog 73 [.d (.sl 1 (l.map sD)), .fn (.func F) [] []] (.d (.bool (l.any g))) := by
  refine go73 ac73 rfl ?_
  simp only [vx, vz, Nat.reduceAdd, Nat.reduceSub, Nat.reduceMul, Nat.reduceLeDiff, Nat.reduceLT, Nat.reduceEqDiff, Nat.reduceBEq, Int.reduceToNat, Int.reduceNeg, Int.reduceEq, Int.reduceNe, Int.reduceLE, Int.reduceLT, reduceCtorEq, ↓reduceIte, ac73]
  refine call_p rfl (t79 l g F hl hp) ?_
  simp only [vx, vz, Nat.reduceAdd, Nat.reduceSub, Nat.reduceMul, Nat.reduceLeDiff, Nat.reduceLT, Nat.reduceEqDiff, Nat.reduceBEq, Int.reduceToNat, Int.reduceNeg, Int.reduceEq, Int.reduceNe, Int.reduceLE, Int.reduceLT, reduceCtorEq, ↓reduceIte]
  rw [fix_ge]
theorem t76 (l : List Int) (g : Int → Bool) (F : FuncId) (hl : l.length ≤ maxLen) (hp : ∀ x ∈ l, CallP Tryd.prog F [.d (.int .i64 x)] (.d (.bool (g x)))) : CallP Tryd.prog 76 [.d (.sl 1 (l.map iD)), .fn (.func F) [] []] (.d (.int .i64 (fix g l 0))) := by
  have hm := hm
  refine go76 ac76 rfl ?_
  simp only [vx, vz, Nat.reduceAdd, Nat.reduceSub, Nat.reduceMul, Nat.reduceLeDiff, Nat.reduceLT, Nat.reduceEqDiff, Nat.reduceBEq, Int.reduceToNat, Int.reduceNeg, Int.reduceEq, Int.reduceNe, Int.reduceLE, Int.reduceLT, reduceCtorEq, ↓reduceIte, ac76]
  refine loop_st (fun i : Nat => ⟨mkF 19 [(0, .d (.sl 1 (l.map iD))), (1, .fn (.func F) [] []), (7, .d (.int .i64 l.length)), (8, .d (.int .i64 i))], []⟩) (fun i => i ≤ l.length ∧ fix g l 0 = fix g (l.drop i) i) (fun i => l.length - i) 0 (weak_any (by simp only [vx, vz, Nat.reduceAdd, Nat.reduceSub, Nat.reduceMul, Nat.reduceLeDiff, Nat.reduceLT, Nat.reduceEqDiff, Nat.reduceBEq, Int.reduceToNat, Int.reduceNeg, Int.reduceEq, Int.reduceNe, Int.reduceLE, Int.reduceLT, reduceCtorEq, ↓reduceIte]; try trivial)) ⟨by omega, rfl⟩ (fun i hi => ?_)
  obtain ⟨h1, h2⟩ := hi
  simp only [vx, vz, Nat.reduceAdd, Nat.reduceSub, Nat.reduceMul, Nat.reduceLeDiff, Nat.reduceLT, Nat.reduceEqDiff, Nat.reduceBEq, Int.reduceToNat, Int.reduceNeg, Int.reduceEq, Int.reduceNe, Int.reduceLE, Int.reduceLT, reduceCtorEq, ↓reduceIte]
  refine cond_split (fun hc => ?_) (fun hc => ?_)
  · simp only [decide_eq_true_eq] at hc
    obtain ⟨x, hx⟩ := get_ex (l := l) (i := i) (by omega)
    rw [drop_at hx, fix] at h2
    simp only [vx, vz, Nat.reduceAdd, Nat.reduceSub, Nat.reduceMul, Nat.reduceLeDiff, Nat.reduceLT, Nat.reduceEqDiff, Nat.reduceBEq, Int.reduceToNat, Int.reduceNeg, Int.reduceEq, Int.reduceNe, Int.reduceLE, Int.reduceLT, reduceCtorEq, ↓reduceIte]
    refine ⟨by omega, by omega, getM_at hx ?_⟩
    simp only [vx, vz, Nat.reduceAdd, Nat.reduceSub, Nat.reduceMul, Nat.reduceLeDiff, Nat.reduceLT, Nat.reduceEqDiff, Nat.reduceBEq, Int.reduceToNat, Int.reduceNeg, Int.reduceEq, Int.reduceNe, Int.reduceLE, Int.reduceLT, reduceCtorEq, ↓reduceIte]
    simp only [vx, vz, Nat.reduceAdd, Nat.reduceSub, Nat.reduceMul, Nat.reduceLeDiff, Nat.reduceLT, Nat.reduceEqDiff, Nat.reduceBEq, Int.reduceToNat, Int.reduceNeg, Int.reduceEq, Int.reduceNe, Int.reduceLE, Int.reduceLT, reduceCtorEq, ↓reduceIte, iD]
    refine call_p rfl (hp x (List.mem_of_getElem? hx)) ?_
    simp only [vx, vz, Nat.reduceAdd, Nat.reduceSub, Nat.reduceMul, Nat.reduceLeDiff, Nat.reduceLT, Nat.reduceEqDiff, Nat.reduceBEq, Int.reduceToNat, Int.reduceNeg, Int.reduceEq, Int.reduceNe, Int.reduceLE, Int.reduceLT, reduceCtorEq, ↓reduceIte]
    cases hb : g x with
    | true =>
      rw [if_pos hb] at h2
      simp only [vx, vz, Nat.reduceAdd, Nat.reduceSub, Nat.reduceMul, Nat.reduceLeDiff, Nat.reduceLT, Nat.reduceEqDiff, Nat.reduceBEq, Int.reduceToNat, Int.reduceNeg, Int.reduceEq, Int.reduceNe, Int.reduceLE, Int.reduceLT, reduceCtorEq, ↓reduceIte, h2]
    | false =>
      rw [hb, if_neg (by decide)] at h2
      simp only [vx, vz, Nat.reduceAdd, Nat.reduceSub, Nat.reduceMul, Nat.reduceLeDiff, Nat.reduceLT, Nat.reduceEqDiff, Nat.reduceBEq, Int.reduceToNat, Int.reduceNeg, Int.reduceEq, Int.reduceNe, Int.reduceLE, Int.reduceLT, reduceCtorEq, ↓reduceIte]
      refine ls_n (i + 1) (by omega) (weak_any ?_) ⟨by omega, h2⟩
      simp only [vx, vz, Nat.reduceAdd, Nat.reduceSub, Nat.reduceMul, Nat.reduceLeDiff, Nat.reduceLT, Nat.reduceEqDiff, Nat.reduceBEq, Int.reduceToNat, Int.reduceNeg, Int.reduceEq, Int.reduceNe, Int.reduceLE, Int.reduceLT, reduceCtorEq, ↓reduceIte]
      rw [wr_i64 (by omega) (by omega)]
      first | trivial | exact ⟨rfl, rfl⟩
  · simp only [decide_eq_false_iff_not] at hc
    rw [drop_end (by omega), fix] at h2
    simp only [vx, vz, Nat.reduceAdd, Nat.reduceSub, Nat.reduceMul, Nat.reduceLeDiff, Nat.reduceLT, Nat.reduceEqDiff, Nat.reduceBEq, Int.reduceToNat, Int.reduceNeg, Int.reduceEq, Int.reduceNe, Int.reduceLE, Int.reduceLT, reduceCtorEq, ↓reduceIte, h2]
theorem t62 (l : List Int) (g : Int → Bool) (F : FuncId) (hl : l.length ≤ maxLen) (hp : ∀ x ∈ l, CallP Tryd.prog F [.d (.int .i64 x)] (.d (.bool (g x)))) : CallP Tryd.prog 62 [.d (.sl 1 (l.map iD)), .fn (.func F) [] []] (.d (.bool (l.any g))) := by
  refine go62 ac62 rfl ?_
  simp only [vx, vz, Nat.reduceAdd, Nat.reduceSub, Nat.reduceMul, Nat.reduceLeDiff, Nat.reduceLT, Nat.reduceEqDiff, Nat.reduceBEq, Int.reduceToNat, Int.reduceNeg, Int.reduceEq, Int.reduceNe, Int.reduceLE, Int.reduceLT, reduceCtorEq, ↓reduceIte, ac62]
  refine call_p rfl (t76 l g F hl hp) ?_
  simp only [vx, vz, Nat.reduceAdd, Nat.reduceSub, Nat.reduceMul, Nat.reduceLeDiff, Nat.reduceLT, Nat.reduceEqDiff, Nat.reduceBEq, Int.reduceToNat, Int.reduceNeg, Int.reduceEq, Int.reduceNe, Int.reduceLE, Int.reduceLT, reduceCtorEq, ↓reduceIte]
  rw [fix_ge]
theorem t65 (l : List Chn) (g : Chn → Bool) (F : FuncId) (hl : l.length ≤ maxLen) (hp : ∀ x ∈ l, CallP Tryd.prog F [chV x] (.d (.bool (g x)))) : CallP Tryd.prog 65 [.d (.sl 3 (l.map Chn.d)), .fn (.func F) [] []] (.d (.int .i64 (fix g l 0))) := by
  have hm := hm
  refine go65 ac65 rfl ?_
  simp only [vx, vz, Nat.reduceAdd, Nat.reduceSub, Nat.reduceMul, Nat.reduceLeDiff, Nat.reduceLT, Nat.reduceEqDiff, Nat.reduceBEq, Int.reduceToNat, Int.reduceNeg, Int.reduceEq, Int.reduceNe, Int.reduceLE, Int.reduceLT, reduceCtorEq, ↓reduceIte, ac65]
  refine loop_st (fun i : Nat => ⟨mkF 19 [(0, .d (.sl 3 (l.map Chn.d))), (1, .fn (.func F) [] []), (7, .d (.int .i64 l.length)), (8, .d (.int .i64 i))], []⟩) (fun i => i ≤ l.length ∧ fix g l 0 = fix g (l.drop i) i) (fun i => l.length - i) 0 (weak_any (by simp only [vx, vz, Nat.reduceAdd, Nat.reduceSub, Nat.reduceMul, Nat.reduceLeDiff, Nat.reduceLT, Nat.reduceEqDiff, Nat.reduceBEq, Int.reduceToNat, Int.reduceNeg, Int.reduceEq, Int.reduceNe, Int.reduceLE, Int.reduceLT, reduceCtorEq, ↓reduceIte]; try trivial)) ⟨by omega, rfl⟩ (fun i hi => ?_)
  obtain ⟨h1, h2⟩ := hi
  simp only [vx, vz, Nat.reduceAdd, Nat.reduceSub, Nat.reduceMul, Nat.reduceLeDiff, Nat.reduceLT, Nat.reduceEqDiff, Nat.reduceBEq, Int.reduceToNat, Int.reduceNeg, Int.reduceEq, Int.reduceNe, Int.reduceLE, Int.reduceLT, reduceCtorEq, ↓reduceIte]
  refine cond_split (fun hc => ?_) (fun hc => ?_)
  · simp only [decide_eq_true_eq] at hc
    obtain ⟨x, hx⟩ := get_ex (l := l) (i := i) (by omega)
    rw [drop_at hx, fix] at h2
    simp only [vx, vz, Nat.reduceAdd, Nat.reduceSub, Nat.reduceMul, Nat.reduceLeDiff, Nat.reduceLT, Nat.reduceEqDiff, Nat.reduceBEq, Int.reduceToNat, Int.reduceNeg, Int.reduceEq, Int.reduceNe, Int.reduceLE, Int.reduceLT, reduceCtorEq, ↓reduceIte]
    refine ⟨by omega, by omega, getM_at hx ?_⟩
    simp only [vx, vz, Nat.reduceAdd, Nat.reduceSub, Nat.reduceMul, Nat.reduceLeDiff, Nat.reduceLT, Nat.reduceEqDiff, Nat.reduceBEq, Int.reduceToNat, Int.reduceNeg, Int.reduceEq, Int.reduceNe, Int.reduceLE, Int.reduceLT, reduceCtorEq, ↓reduceIte]
    simp only [vx, vz, Nat.reduceAdd, Nat.reduceSub, Nat.reduceMul, Nat.reduceLeDiff, Nat.reduceLT, Nat.reduceEqDiff, Nat.reduceBEq, Int.reduceToNat, Int.reduceNeg, Int.reduceEq, Int.reduceNe, Int.reduceLE, Int.reduceLT, reduceCtorEq, ↓reduceIte, Chn.d]
    refine call_p rfl (hp x (List.mem_of_getElem? hx)) ?_
    simp only [vx, vz, Nat.reduceAdd, Nat.reduceSub, Nat.reduceMul, Nat.reduceLeDiff, Nat.reduceLT, Nat.reduceEqDiff, Nat.reduceBEq, Int.reduceToNat, Int.reduceNeg, Int.reduceEq, Int.reduceNe, Int.reduceLE, Int.reduceLT, reduceCtorEq, ↓reduceIte]
    cases hb : g x with
    | true =>
      rw [if_pos hb] at h2
      simp only [vx, vz, Nat.reduceAdd, Nat.reduceSub, Nat.reduceMul, Nat.reduceLeDiff, Nat.reduceLT, Nat.reduceEqDiff, Nat.reduceBEq, Int.reduceToNat, Int.reduceNeg, Int.reduceEq, Int.reduceNe, Int.reduceLE, Int.reduceLT, reduceCtorEq, ↓reduceIte, h2]
    | false =>
      rw [hb, if_neg (by decide)] at h2
      simp only [vx, vz, Nat.reduceAdd, Nat.reduceSub, Nat.reduceMul, Nat.reduceLeDiff, Nat.reduceLT, Nat.reduceEqDiff, Nat.reduceBEq, Int.reduceToNat, Int.reduceNeg, Int.reduceEq, Int.reduceNe, Int.reduceLE, Int.reduceLT, reduceCtorEq, ↓reduceIte]
      refine ls_n (i + 1) (by omega) (weak_any ?_) ⟨by omega, h2⟩
      simp only [vx, vz, Nat.reduceAdd, Nat.reduceSub, Nat.reduceMul, Nat.reduceLeDiff, Nat.reduceLT, Nat.reduceEqDiff, Nat.reduceBEq, Int.reduceToNat, Int.reduceNeg, Int.reduceEq, Int.reduceNe, Int.reduceLE, Int.reduceLT, reduceCtorEq, ↓reduceIte]
      rw [wr_i64 (by omega) (by omega)]
      first | trivial | exact ⟨rfl, rfl⟩
  · simp only [decide_eq_false_iff_not] at hc
    rw [drop_end (by omega), fix] at h2
    simp only [vx, vz, Nat.reduceAdd, Nat.reduceSub, Nat.reduceMul, Nat.reduceLeDiff, Nat.reduceLT, Nat.reduceEqDiff, Nat.reduceBEq, Int.reduceToNat, Int.reduceNeg, Int.reduceEq, Int.reduceNe, Int.reduceLE, Int.reduceLT, reduceCtorEq, ↓reduceIte, h2]
theorem t44 (l : List Chn) (g : Chn → Bool) (F : FuncId) (hl : l.length ≤ maxLen) (hp : ∀ x ∈ l, CallP Tryd.prog F [chV x] (.d (.bool (g x)))) : CallP Tryd.prog 44 [.d (.sl 3 (l.map Chn.d)), .fn (.func F) [] []] (.d (.bool (l.any g))) := by
  refine go44 ac44 rfl ?_
  simp only [vx, vz, Nat.reduceAdd, Nat.reduceSub, Nat.reduceMul, Nat.reduceLeDiff, Nat.reduceLT, Nat.reduceEqDiff, Nat.reduceBEq, Int.reduceToNat, Int.reduceNeg, Int.reduceEq, Int.reduceNe, Int.reduceLE, Int.reduceLT, reduceCtorEq, ↓reduceIte, ac44]
  refine call_p rfl (t65 l g F hl hp) ?_
  simp only [vx, vz, Nat.reduceAdd, Nat.reduceSub, Nat.reduceMul, Nat.reduceLeDiff, Nat.reduceLT, Nat.reduceEqDiff, Nat.reduceBEq, Int.reduceToNat, Int.reduceNeg, Int.reduceEq, Int.reduceNe, Int.reduceLE, Int.reduceLT, reduceCtorEq, ↓reduceIte]
  rw [fix_ge]
theorem t74 (s : B) (hl : s.length ≤ maxLen) : CallP Tryd.prog 74 [.d (.str s)] (.d (.bool (!varS s))) := by
  refine go74 ac74 rfl ?_
  simp only [vx, vz, Nat.reduceAdd, Nat.reduceSub, Nat.reduceMul, Nat.reduceLeDiff, Nat.reduceLT, Nat.reduceEqDiff, Nat.reduceBEq, Int.reduceToNat, Int.reduceNeg, Int.reduceEq, Int.reduceNe, Int.reduceLE, Int.reduceLT, reduceCtorEq, ↓reduceIte, ac74]
  refine call_p rfl (t75 s hl) ?_
  simp only [vx, vz, Nat.reduceAdd, Nat.reduceSub, Nat.reduceMul, Nat.reduceLeDiff, Nat.reduceLT, Nat.reduceEqDiff, Nat.reduceBEq, Int.reduceToNat, Int.reduceNeg, Int.reduceEq, Int.reduceNe, Int.reduceLE, Int.reduceLT, reduceCtorEq, ↓reduceIte]
theorem t64 (n : Int) : CallP Tryd.prog 64 [.d (.int .i64 n)] (.d (.bool (wordI n))) := by
  refine go64 ac64 rfl ?_
  unfold wordI
  by_cases h : 0 ≤ n
  · simp only [vx, vz, Nat.reduceAdd, Nat.reduceSub, Nat.reduceMul, Nat.reduceLeDiff, Nat.reduceLT, Nat.reduceEqDiff, Nat.reduceBEq, Int.reduceToNat, Int.reduceNeg, Int.reduceEq, Int.reduceNe, Int.reduceLE, Int.reduceLT, reduceCtorEq, ↓reduceIte, ac64, dt h, Bool.true_and]
  · simp only [vx, vz, Nat.reduceAdd, Nat.reduceSub, Nat.reduceMul, Nat.reduceLeDiff, Nat.reduceLT, Nat.reduceEqDiff, Nat.reduceBEq, Int.reduceToNat, Int.reduceNeg, Int.reduceEq, Int.reduceNe, Int.reduceLE, Int.reduceLT, reduceCtorEq, ↓reduceIte, ac64, df h, Bool.false_and]
theorem t63 (n : Int) : CallP Tryd.prog 63 [.d (.int .i64 n)] (.d (.bool (!wordI n))) := by
  refine go63 ac63 rfl ?_
  simp only [vx, vz, Nat.reduceAdd, Nat.reduceSub, Nat.reduceMul, Nat.reduceLeDiff, Nat.reduceLT, Nat.reduceEqDiff, Nat.reduceBEq, Int.reduceToNat, Int.reduceNeg, Int.reduceEq, Int.reduceNe, Int.reduceLE, Int.reduceLT, reduceCtorEq, ↓reduceIte, ac63]
  refine call_p rfl (t64 n) ?_
  simp only [vx, vz, Nat.reduceAdd, Nat.reduceSub, Nat.reduceMul, Nat.reduceLeDiff, Nat.reduceLT, Nat.reduceEqDiff, Nat.reduceBEq, Int.reduceToNat, Int.reduceNeg, Int.reduceEq, Int.reduceNe, Int.reduceLE, Int.reduceLT, reduceCtorEq, ↓reduceIte]
/-- is a name used twice? -/
def dupG : List B → List B → Bool
  | _, [] => false
  | s, x :: l => s.contains x || dupG (s ++ [x]) l
def hdrS (l : List B) : Int := if (l.any fun s => !varS s) = true then 5 else if dupG [] l = true then 8 else if (48 : Int) < l.length then 2 else 0
theorem dup_at {l : List B} {i : Nat} {x : B} (h : l[i]? = some x) : dupG (l.take i) (l.drop i) = ((l.take i).contains x || dupG (l.take (i + 1)) (l.drop (i + 1))) := by
  rw [drop_at h, dupG, ← take_at h]
theorem dup_end {l : List B} {i : Nat} (h : l.length ≤ i) : dupG (l.take i) (l.drop i) = false := by rw [drop_end h, dupG]
theorem dif_dup (l : List B) : ∀ s, difG s l = (!dupG s l && !(l.any fun s => !varS s)) := by
  induction l with
  | nil => intro s; rfl
  | cons x l ih =>
    intro s
    rw [difG, dupG, List.any_cons, ih]
    cases s.contains x <;> cases varS x <;> cases dupG (s ++ [x]) l <;> simp
theorem hdr_ok (l : List B) : decide (hdrS l = 0) = (difS l && decide ((l.length : Int) ≤ 48)) := by
  rw [difS, dif_dup, hdrS]
  cases (l.any fun s => !varS s) with
  | true => simp
  | false =>
    cases dupG [] l with
    | true => simp
    | false =>
      by_cases h : (48 : Int) < l.length
      · rw [if_neg (by decide), if_neg (by decide), if_pos h, df (show ¬ (l.length : Int) ≤ 48 by omega)]; rfl
      · rw [if_neg (by decide), if_neg (by decide), if_neg h, dt (show (l.length : Int) ≤ 48 by omega)]; rfl
theorem t61 (l : List B) (hl : l.length ≤ maxLen) (ok : ∀ s ∈ l, s.length ≤ maxLen) : CallP Tryd.prog 61 [.d (.sl 1 (strs l))] (.d (.int .i64 (hdrS l))) := by
  have hm := hm
  refine go61 ac61 rfl ?_
  simp only [vx, vz, Nat.reduceAdd, Nat.reduceSub, Nat.reduceMul, Nat.reduceLeDiff, Nat.reduceLT, Nat.reduceEqDiff, Nat.reduceBEq, Int.reduceToNat, Int.reduceNeg, Int.reduceEq, Int.reduceNe, Int.reduceLE, Int.reduceLT, reduceCtorEq, ↓reduceIte, ac61]
  refine call_p rfl (t73 l (fun s => !varS s) 74 hl (fun x hx => t74 x (ok x hx))) ?_
  simp only [vx, vz, Nat.reduceAdd, Nat.reduceSub, Nat.reduceMul, Nat.reduceLeDiff, Nat.reduceLT, Nat.reduceEqDiff, Nat.reduceBEq, Int.reduceToNat, Int.reduceNeg, Int.reduceEq, Int.reduceNe, Int.reduceLE, Int.reduceLT, reduceCtorEq, ↓reduceIte]
  rw [hdrS]
  cases hv : (l.any fun s => !varS s) with
  | true =>
    rw [if_pos rfl]
    simp only [vx, vz, Nat.reduceAdd, Nat.reduceSub, Nat.reduceMul, Nat.reduceLeDiff, Nat.reduceLT, Nat.reduceEqDiff, Nat.reduceBEq, Int.reduceToNat, Int.reduceNeg, Int.reduceEq, Int.reduceNe, Int.reduceLE, Int.reduceLT, reduceCtorEq, ↓reduceIte]
  | false =>
    rw [if_neg (by decide)]
    simp only [vx, vz, Nat.reduceAdd, Nat.reduceSub, Nat.reduceMul, Nat.reduceLeDiff, Nat.reduceLT, Nat.reduceEqDiff, Nat.reduceBEq, Int.reduceToNat, Int.reduceNeg, Int.reduceEq, Int.reduceNe, Int.reduceLE, Int.reduceLT, reduceCtorEq, ↓reduceIte]
    refine loop_st (fun i : Nat => ⟨mkF 23 [(0, .d (.sl 1 (strs l))), (7, .d (.sl 1 (strs l))), (8, .d (.int .i64 l.length)), (9, .d (.int .i64 i))], []⟩) (fun i => i ≤ l.length ∧ dupG [] l = dupG (l.take i) (l.drop i)) (fun i => l.length - i) 0 (weak_any (by simp only [vx, vz, Nat.reduceAdd, Nat.reduceSub, Nat.reduceMul, Nat.reduceLeDiff, Nat.reduceLT, Nat.reduceEqDiff, Nat.reduceBEq, Int.reduceToNat, Int.reduceNeg, Int.reduceEq, Int.reduceNe, Int.reduceLE, Int.reduceLT, reduceCtorEq, ↓reduceIte]; try trivial)) ⟨by omega, rfl⟩ (fun i hi => ?_)
    obtain ⟨h1, h2⟩ := hi
    simp only [vx, vz, Nat.reduceAdd, Nat.reduceSub, Nat.reduceMul, Nat.reduceLeDiff, Nat.reduceLT, Nat.reduceEqDiff, Nat.reduceBEq, Int.reduceToNat, Int.reduceNeg, Int.reduceEq, Int.reduceNe, Int.reduceLE, Int.reduceLT, reduceCtorEq, ↓reduceIte]
    refine cond_split (fun hc => ?_) (fun hc => ?_)
    · simp only [decide_eq_true_eq] at hc
      obtain ⟨x, hx⟩ := get_ex (l := l) (i := i) (by omega)
      rw [dup_at hx] at h2
      simp only [vx, vz, Nat.reduceAdd, Nat.reduceSub, Nat.reduceMul, Nat.reduceLeDiff, Nat.reduceLT, Nat.reduceEqDiff, Nat.reduceBEq, Int.reduceToNat, Int.reduceNeg, Int.reduceEq, Int.reduceNe, Int.reduceLE, Int.reduceLT, reduceCtorEq, ↓reduceIte]
      refine ⟨by omega, by omega, getM_at hx ?_⟩
      simp only [vx, vz, Nat.reduceAdd, Nat.reduceSub, Nat.reduceMul, Nat.reduceLeDiff, Nat.reduceLT, Nat.reduceEqDiff, Nat.reduceBEq, Int.reduceToNat, Int.reduceNeg, Int.reduceEq, Int.reduceNe, Int.reduceLE, Int.reduceLT, reduceCtorEq, ↓reduceIte]
      simp only [vx, vz, Nat.reduceAdd, Nat.reduceSub, Nat.reduceMul, Nat.reduceLeDiff, Nat.reduceLT, Nat.reduceEqDiff, Nat.reduceBEq, Int.reduceToNat, Int.reduceNeg, Int.reduceEq, Int.reduceNe, Int.reduceLE, Int.reduceLT, reduceCtorEq, ↓reduceIte, sD]
      refine ⟨by omega, by omega, ?_⟩
      rw [← List.map_take]
      refine call_p rfl (t35 (l.take i) x (by rw [List.length_take]; omega)) ?_
      simp only [vx, vz, Nat.reduceAdd, Nat.reduceSub, Nat.reduceMul, Nat.reduceLeDiff, Nat.reduceLT, Nat.reduceEqDiff, Nat.reduceBEq, Int.reduceToNat, Int.reduceNeg, Int.reduceEq, Int.reduceNe, Int.reduceLE, Int.reduceLT, reduceCtorEq, ↓reduceIte]
      cases hcn : (l.take i).contains x with
      | true =>
        rw [hcn, Bool.true_or] at h2
        rw [h2, if_pos rfl]
        simp only [vx, vz, Nat.reduceAdd, Nat.reduceSub, Nat.reduceMul, Nat.reduceLeDiff, Nat.reduceLT, Nat.reduceEqDiff, Nat.reduceBEq, Int.reduceToNat, Int.reduceNeg, Int.reduceEq, Int.reduceNe, Int.reduceLE, Int.reduceLT, reduceCtorEq, ↓reduceIte]
      | false =>
        rw [hcn, Bool.false_or] at h2
        simp only [vx, vz, Nat.reduceAdd, Nat.reduceSub, Nat.reduceMul, Nat.reduceLeDiff, Nat.reduceLT, Nat.reduceEqDiff, Nat.reduceBEq, Int.reduceToNat, Int.reduceNeg, Int.reduceEq, Int.reduceNe, Int.reduceLE, Int.reduceLT, reduceCtorEq, ↓reduceIte]
        refine ls_n (i + 1) (by omega) (weak_any ?_) ⟨by omega, h2⟩
        simp only [vx, vz, Nat.reduceAdd, Nat.reduceSub, Nat.reduceMul, Nat.reduceLeDiff, Nat.reduceLT, Nat.reduceEqDiff, Nat.reduceBEq, Int.reduceToNat, Int.reduceNeg, Int.reduceEq, Int.reduceNe, Int.reduceLE, Int.reduceLT, reduceCtorEq, ↓reduceIte]
        rw [wr_i64 (by omega) (by omega)]
        first | trivial | exact ⟨rfl, rfl⟩
    · simp only [decide_eq_false_iff_not] at hc
      rw [dup_end (by omega)] at h2
      rw [h2, if_neg (by decide)]
      by_cases h : (48 : Int) < l.length
      · rw [if_pos h]
        simp only [vx, vz, Nat.reduceAdd, Nat.reduceSub, Nat.reduceMul, Nat.reduceLeDiff, Nat.reduceLT, Nat.reduceEqDiff, Nat.reduceBEq, Int.reduceToNat, Int.reduceNeg, Int.reduceEq, Int.reduceNe, Int.reduceLE, Int.reduceLT, reduceCtorEq, ↓reduceIte, dt h]
      · rw [if_neg h]
        simp only [vx, vz, Nat.reduceAdd, Nat.reduceSub, Nat.reduceMul, Nat.reduceLeDiff, Nat.reduceLT, Nat.reduceEqDiff, Nat.reduceBEq, Int.reduceToNat, Int.reduceNeg, Int.reduceEq, Int.reduceNe, Int.reduceLE, Int.reduceLT, reduceCtorEq, ↓reduceIte, df h]
end Go.Proofs.Mn

namespace Go.Proofs.Mn
open Go.Vx
structure Wv where
  ns : List B
  rs : List (List Int)
def rwD (r : List Int) : List D := [.sl 1 (ints r)]
abbrev rws (l : List (List Int)) : List (List D) := l.map rwD
def Wv.d (w : Wv) : List D := [.sl 1 (strs w.ns), .sl 1 (rws w.rs)]
abbrev wvV (w : Wv) : V := .agg [.d (.sl 1 (strs w.ns)), .d (.sl 1 (rws w.rs))]
abbrev rW (w : Wv) : RowS := .live 2 [[.d (.sl 1 (strs w.ns)), .d (.sl 1 (rws w.rs))]]
structure okW (w : Wv) : Prop where
  nl : w.ns.length ≤ maxLen
  ns : ∀ s ∈ w.ns, s.length ≤ maxLen
  rl : w.rs.length ≤ maxLen
  rs : ∀ r ∈ w.rs, r.length ≤ maxLen
def rowS (n : Nat) (r : List Int) : Bool := decide (r.length = n) && r.all wordI
def vldW (w : Wv) : Bool := decide ((w.ns.length : Int) ≤ 48) && (decide ((w.rs.length : Int) ≤ 4096) && (difS w.ns && w.rs.all (rowS w.ns.length)))
theorem any_not (l : List Int) : (l.any fun n => !wordI n) = !l.all wordI := by
  induction l with
  | nil => rfl
  | cons x l ih => rw [List.any_cons, List.all_cons, ih]; cases wordI x <;> rfl
theorem all_take_at {α : Type} {g : α → Bool} {l : List α} {i : Nat} {x : α} (h : l[i]? = some x) : (l.drop i).all g = (g x && (l.drop (i + 1)).all g) := by
  rw [drop_at h, List.all_cons]
theorem t67 (l : List Int) (hl : l.length ≤ maxLen) : CallP Tryd.prog 67 [.d (.sl 1 (ints l))] (.d (.bool (l.all wordI))) := by
  have hm := hm
  refine go67 ac67 rfl ?_
  simp only [vx, vz, Nat.reduceAdd, Nat.reduceSub, Nat.reduceMul, Nat.reduceLeDiff, Nat.reduceLT, Nat.reduceEqDiff, Nat.reduceBEq, Int.reduceToNat, Int.reduceNeg, Int.reduceEq, Int.reduceNe, Int.reduceLE, Int.reduceLT, reduceCtorEq, ↓reduceIte, ac67]
  refine loop_st (fun i : Nat => ⟨mkF 22 [(0, .d (.sl 1 (ints l))), (3, .d (.int .i64 i))], []⟩) (fun i => i ≤ l.length ∧ l.all wordI = (l.drop i).all wordI) (fun i => l.length - i) 0 (weak_any (by simp only [vx, vz, Nat.reduceAdd, Nat.reduceSub, Nat.reduceMul, Nat.reduceLeDiff, Nat.reduceLT, Nat.reduceEqDiff, Nat.reduceBEq, Int.reduceToNat, Int.reduceNeg, Int.reduceEq, Int.reduceNe, Int.reduceLE, Int.reduceLT, reduceCtorEq, ↓reduceIte]; try trivial)) ⟨by omega, rfl⟩ (fun i hi => ?_)
  obtain ⟨h1, h2⟩ := hi
  simp only [vx, vz, Nat.reduceAdd, Nat.reduceSub, Nat.reduceMul, Nat.reduceLeDiff, Nat.reduceLT, Nat.reduceEqDiff, Nat.reduceBEq, Int.reduceToNat, Int.reduceNeg, Int.reduceEq, Int.reduceNe, Int.reduceLE, Int.reduceLT, reduceCtorEq, ↓reduceIte]
  refine cond_split (fun hc => ?_) (fun hc => ?_)
  · simp only [decide_eq_true_eq] at hc
    obtain ⟨x, hx⟩ := get_ex (l := l) (i := i) (by omega)
    rw [all_take_at hx] at h2
    simp only [vx, vz, Nat.reduceAdd, Nat.reduceSub, Nat.reduceMul, Nat.reduceLeDiff, Nat.reduceLT, Nat.reduceEqDiff, Nat.reduceBEq, Int.reduceToNat, Int.reduceNeg, Int.reduceEq, Int.reduceNe, Int.reduceLE, Int.reduceLT, reduceCtorEq, ↓reduceIte]
    refine ⟨by omega, by omega, getM_at hx ?_⟩
    simp only [vx, vz, Nat.reduceAdd, Nat.reduceSub, Nat.reduceMul, Nat.reduceLeDiff, Nat.reduceLT, Nat.reduceEqDiff, Nat.reduceBEq, Int.reduceToNat, Int.reduceNeg, Int.reduceEq, Int.reduceNe, Int.reduceLE, Int.reduceLT, reduceCtorEq, ↓reduceIte]
    simp only [vx, vz, Nat.reduceAdd, Nat.reduceSub, Nat.reduceMul, Nat.reduceLeDiff, Nat.reduceLT, Nat.reduceEqDiff, Nat.reduceBEq, Int.reduceToNat, Int.reduceNeg, Int.reduceEq, Int.reduceNe, Int.reduceLE, Int.reduceLT, reduceCtorEq, ↓reduceIte, iD]
    by_cases hn : x < 0
    · rw [show wordI x = false by unfold wordI; rw [df (show ¬ 0 ≤ x by omega)]; rfl, Bool.false_and] at h2
      simp only [vx, vz, Nat.reduceAdd, Nat.reduceSub, Nat.reduceMul, Nat.reduceLeDiff, Nat.reduceLT, Nat.reduceEqDiff, Nat.reduceBEq, Int.reduceToNat, Int.reduceNeg, Int.reduceEq, Int.reduceNe, Int.reduceLE, Int.reduceLT, reduceCtorEq, ↓reduceIte, dt hn, h2]
    · simp only [vx, vz, Nat.reduceAdd, Nat.reduceSub, Nat.reduceMul, Nat.reduceLeDiff, Nat.reduceLT, Nat.reduceEqDiff, Nat.reduceBEq, Int.reduceToNat, Int.reduceNeg, Int.reduceEq, Int.reduceNe, Int.reduceLE, Int.reduceLT, reduceCtorEq, ↓reduceIte, df hn]
      refine ⟨by omega, by omega, getM_at hx ?_⟩
      simp only [vx, vz, Nat.reduceAdd, Nat.reduceSub, Nat.reduceMul, Nat.reduceLeDiff, Nat.reduceLT, Nat.reduceEqDiff, Nat.reduceBEq, Int.reduceToNat, Int.reduceNeg, Int.reduceEq, Int.reduceNe, Int.reduceLE, Int.reduceLT, reduceCtorEq, ↓reduceIte]
      simp only [vx, vz, Nat.reduceAdd, Nat.reduceSub, Nat.reduceMul, Nat.reduceLeDiff, Nat.reduceLT, Nat.reduceEqDiff, Nat.reduceBEq, Int.reduceToNat, Int.reduceNeg, Int.reduceEq, Int.reduceNe, Int.reduceLE, Int.reduceLT, reduceCtorEq, ↓reduceIte, iD]
      by_cases hn2 : 65535 < x
      · rw [show wordI x = false by unfold wordI; rw [df (show ¬ x ≤ 65535 by omega), Bool.and_false], Bool.false_and] at h2
        simp only [vx, vz, Nat.reduceAdd, Nat.reduceSub, Nat.reduceMul, Nat.reduceLeDiff, Nat.reduceLT, Nat.reduceEqDiff, Nat.reduceBEq, Int.reduceToNat, Int.reduceNeg, Int.reduceEq, Int.reduceNe, Int.reduceLE, Int.reduceLT, reduceCtorEq, ↓reduceIte, dt hn2, h2]
      · rw [show wordI x = true by unfold wordI; rw [dt (show x ≤ 65535 by omega), dt (show 0 ≤ x by omega)]; rfl, Bool.true_and] at h2
        simp only [vx, vz, Nat.reduceAdd, Nat.reduceSub, Nat.reduceMul, Nat.reduceLeDiff, Nat.reduceLT, Nat.reduceEqDiff, Nat.reduceBEq, Int.reduceToNat, Int.reduceNeg, Int.reduceEq, Int.reduceNe, Int.reduceLE, Int.reduceLT, reduceCtorEq, ↓reduceIte, df hn2]
        refine ls_n (i + 1) (by omega) (weak_any ?_) ⟨by omega, h2⟩
        simp only [vx, vz, Nat.reduceAdd, Nat.reduceSub, Nat.reduceMul, Nat.reduceLeDiff, Nat.reduceLT, Nat.reduceEqDiff, Nat.reduceBEq, Int.reduceToNat, Int.reduceNeg, Int.reduceEq, Int.reduceNe, Int.reduceLE, Int.reduceLT, reduceCtorEq, ↓reduceIte]
        rw [wr_i64 (by omega) (by omega)]
        first | trivial | exact ⟨rfl, rfl⟩
  · simp only [decide_eq_false_iff_not] at hc
    rw [drop_end (by omega)] at h2
    simp only [vx, vz, Nat.reduceAdd, Nat.reduceSub, Nat.reduceMul, Nat.reduceLeDiff, Nat.reduceLT, Nat.reduceEqDiff, Nat.reduceBEq, Int.reduceToNat, Int.reduceNeg, Int.reduceEq, Int.reduceNe, Int.reduceLE, Int.reduceLT, reduceCtorEq, ↓reduceIte, h2]
    first | done | rfl
theorem t41 (w : Wv) (ok : okW w) : CallP Tryd.prog 41 [wvV w] (.d (.bool (vldW w))) := by
  have hm := hm
  have hnl := ok.nl; have hrl := ok.rl
  unfold vldW
  refine go41 ac41 rfl ?_
  simp only [vx, vz, Nat.reduceAdd, Nat.reduceSub, Nat.reduceMul, Nat.reduceLeDiff, Nat.reduceLT, Nat.reduceEqDiff, Nat.reduceBEq, Int.reduceToNat, Int.reduceNeg, Int.reduceEq, Int.reduceNe, Int.reduceLE, Int.reduceLT, reduceCtorEq, ↓reduceIte, ac41]
  by_cases h1 : (48 : Int) < w.ns.length
  · rw [df (show ¬ (w.ns.length : Int) ≤ 48 by omega)]
    simp only [vx, vz, Nat.reduceAdd, Nat.reduceSub, Nat.reduceMul, Nat.reduceLeDiff, Nat.reduceLT, Nat.reduceEqDiff, Nat.reduceBEq, Int.reduceToNat, Int.reduceNeg, Int.reduceEq, Int.reduceNe, Int.reduceLE, Int.reduceLT, reduceCtorEq, ↓reduceIte, dt h1, Bool.false_and]
  rw [dt (show (w.ns.length : Int) ≤ 48 by omega), Bool.true_and]
  simp only [vx, vz, Nat.reduceAdd, Nat.reduceSub, Nat.reduceMul, Nat.reduceLeDiff, Nat.reduceLT, Nat.reduceEqDiff, Nat.reduceBEq, Int.reduceToNat, Int.reduceNeg, Int.reduceEq, Int.reduceNe, Int.reduceLE, Int.reduceLT, reduceCtorEq, ↓reduceIte, df h1]
  by_cases h2 : (4096 : Int) < w.rs.length
  · rw [df (show ¬ (w.rs.length : Int) ≤ 4096 by omega)]
    simp only [vx, vz, Nat.reduceAdd, Nat.reduceSub, Nat.reduceMul, Nat.reduceLeDiff, Nat.reduceLT, Nat.reduceEqDiff, Nat.reduceBEq, Int.reduceToNat, Int.reduceNeg, Int.reduceEq, Int.reduceNe, Int.reduceLE, Int.reduceLT, reduceCtorEq, ↓reduceIte, dt h2, Bool.false_and]
  rw [dt (show (w.rs.length : Int) ≤ 4096 by omega), Bool.true_and]
  simp only [vx, vz, Nat.reduceAdd, Nat.reduceSub, Nat.reduceMul, Nat.reduceLeDiff, Nat.reduceLT, Nat.reduceEqDiff, Nat.reduceBEq, Int.reduceToNat, Int.reduceNeg, Int.reduceEq, Int.reduceNe, Int.reduceLE, Int.reduceLT, reduceCtorEq, ↓reduceIte, df h2]
  refine call_p rfl (t61 w.ns ok.nl ok.ns) ?_
  simp only [vx, vz, Nat.reduceAdd, Nat.reduceSub, Nat.reduceMul, Nat.reduceLeDiff, Nat.reduceLT, Nat.reduceEqDiff, Nat.reduceBEq, Int.reduceToNat, Int.reduceNeg, Int.reduceEq, Int.reduceNe, Int.reduceLE, Int.reduceLT, reduceCtorEq, ↓reduceIte]
  have hh := hdr_ok w.ns
  rw [dt (show (w.ns.length : Int) ≤ 48 by omega), Bool.and_true] at hh
  rw [decide_not, hh]
  cases hd : difS w.ns with
  | false => simp only [vx, vz, Nat.reduceAdd, Nat.reduceSub, Nat.reduceMul, Nat.reduceLeDiff, Nat.reduceLT, Nat.reduceEqDiff, Nat.reduceBEq, Int.reduceToNat, Int.reduceNeg, Int.reduceEq, Int.reduceNe, Int.reduceLE, Int.reduceLT, reduceCtorEq, ↓reduceIte, Bool.not_false, Bool.false_and]
  | true =>
    simp only [vx, vz, Nat.reduceAdd, Nat.reduceSub, Nat.reduceMul, Nat.reduceLeDiff, Nat.reduceLT, Nat.reduceEqDiff, Nat.reduceBEq, Int.reduceToNat, Int.reduceNeg, Int.reduceEq, Int.reduceNe, Int.reduceLE, Int.reduceLT, reduceCtorEq, ↓reduceIte, Bool.not_true, Bool.true_and]
    refine loop_st (fun i : Nat => ⟨mkF 39 [(1, .optr 2 0 1 0 0), (22, .d (.sl 1 (rws w.rs))), (23, .d (.int .i64 w.rs.length)), (24, .d (.int .i64 i))], [rW w]⟩) (fun i => i ≤ w.rs.length ∧ w.rs.all (rowS w.ns.length) = (w.rs.drop i).all (rowS w.ns.length)) (fun i => w.rs.length - i) 0 (weak_any (by simp only [vx, vz, Nat.reduceAdd, Nat.reduceSub, Nat.reduceMul, Nat.reduceLeDiff, Nat.reduceLT, Nat.reduceEqDiff, Nat.reduceBEq, Int.reduceToNat, Int.reduceNeg, Int.reduceEq, Int.reduceNe, Int.reduceLE, Int.reduceLT, reduceCtorEq, ↓reduceIte]; try trivial)) ⟨by omega, rfl⟩ (fun i hi => ?_)
    obtain ⟨g1, g2⟩ := hi
    simp only [vx, vz, Nat.reduceAdd, Nat.reduceSub, Nat.reduceMul, Nat.reduceLeDiff, Nat.reduceLT, Nat.reduceEqDiff, Nat.reduceBEq, Int.reduceToNat, Int.reduceNeg, Int.reduceEq, Int.reduceNe, Int.reduceLE, Int.reduceLT, reduceCtorEq, ↓reduceIte]
    refine cond_split (fun hc => ?_) (fun hc => ?_)
    · simp only [decide_eq_true_eq] at hc
      obtain ⟨x, hx⟩ := get_ex (l := w.rs) (i := i) (by omega)
      rw [all_take_at hx] at g2
      simp only [vx, vz, Nat.reduceAdd, Nat.reduceSub, Nat.reduceMul, Nat.reduceLeDiff, Nat.reduceLT, Nat.reduceEqDiff, Nat.reduceBEq, Int.reduceToNat, Int.reduceNeg, Int.reduceEq, Int.reduceNe, Int.reduceLE, Int.reduceLT, reduceCtorEq, ↓reduceIte]
      refine ⟨by omega, by omega, getM_at hx ?_⟩
      simp only [vx, vz, Nat.reduceAdd, Nat.reduceSub, Nat.reduceMul, Nat.reduceLeDiff, Nat.reduceLT, Nat.reduceEqDiff, Nat.reduceBEq, Int.reduceToNat, Int.reduceNeg, Int.reduceEq, Int.reduceNe, Int.reduceLE, Int.reduceLT, reduceCtorEq, ↓reduceIte]
      simp only [vx, vz, Nat.reduceAdd, Nat.reduceSub, Nat.reduceMul, Nat.reduceLeDiff, Nat.reduceLT, Nat.reduceEqDiff, Nat.reduceBEq, Int.reduceToNat, Int.reduceNeg, Int.reduceEq, Int.reduceNe, Int.reduceLE, Int.reduceLT, reduceCtorEq, ↓reduceIte, rwD]
      by_cases hn : (x.length : Int) = w.ns.length
      · rw [decide_not, dt hn]
        simp only [vx, vz, Nat.reduceAdd, Nat.reduceSub, Nat.reduceMul, Nat.reduceLeDiff, Nat.reduceLT, Nat.reduceEqDiff, Nat.reduceBEq, Int.reduceToNat, Int.reduceNeg, Int.reduceEq, Int.reduceNe, Int.reduceLE, Int.reduceLT, reduceCtorEq, ↓reduceIte, Bool.not_true]
        refine call_p rfl (t62 x (fun n => !wordI n) 63 (ok.rs x (List.mem_of_getElem? hx)) (fun n _ => t63 n)) ?_
        simp only [vx, vz, Nat.reduceAdd, Nat.reduceSub, Nat.reduceMul, Nat.reduceLeDiff, Nat.reduceLT, Nat.reduceEqDiff, Nat.reduceBEq, Int.reduceToNat, Int.reduceNeg, Int.reduceEq, Int.reduceNe, Int.reduceLE, Int.reduceLT, reduceCtorEq, ↓reduceIte]
        rw [any_not]
        have e : rowS w.ns.length x = x.all wordI := by unfold rowS; rw [dt (show x.length = w.ns.length by omega), Bool.true_and]
        rw [e] at g2
        cases ha : x.all wordI with
        | false =>
          rw [ha, Bool.false_and] at g2
          simp only [vx, vz, Nat.reduceAdd, Nat.reduceSub, Nat.reduceMul, Nat.reduceLeDiff, Nat.reduceLT, Nat.reduceEqDiff, Nat.reduceBEq, Int.reduceToNat, Int.reduceNeg, Int.reduceEq, Int.reduceNe, Int.reduceLE, Int.reduceLT, reduceCtorEq, ↓reduceIte, Bool.not_false, g2]
        | true =>
          rw [ha, Bool.true_and] at g2
          simp only [vx, vz, Nat.reduceAdd, Nat.reduceSub, Nat.reduceMul, Nat.reduceLeDiff, Nat.reduceLT, Nat.reduceEqDiff, Nat.reduceBEq, Int.reduceToNat, Int.reduceNeg, Int.reduceEq, Int.reduceNe, Int.reduceLE, Int.reduceLT, reduceCtorEq, ↓reduceIte, Bool.not_true]
          refine ls_n (i + 1) (by omega) (weak_any ?_) ⟨by omega, g2⟩
          simp only [vx, vz, Nat.reduceAdd, Nat.reduceSub, Nat.reduceMul, Nat.reduceLeDiff, Nat.reduceLT, Nat.reduceEqDiff, Nat.reduceBEq, Int.reduceToNat, Int.reduceNeg, Int.reduceEq, Int.reduceNe, Int.reduceLE, Int.reduceLT, reduceCtorEq, ↓reduceIte]
          rw [wr_i64 (by omega) (by omega)]
          first | trivial | exact ⟨rfl, rfl⟩
      · rw [decide_not, df hn]
        have e : rowS w.ns.length x = false := by unfold rowS; rw [df (show ¬ x.length = w.ns.length by omega), Bool.false_and]
        rw [e, Bool.false_and] at g2
        simp only [vx, vz, Nat.reduceAdd, Nat.reduceSub, Nat.reduceMul, Nat.reduceLeDiff, Nat.reduceLT, Nat.reduceEqDiff, Nat.reduceBEq, Int.reduceToNat, Int.reduceNeg, Int.reduceEq, Int.reduceNe, Int.reduceLE, Int.reduceLT, reduceCtorEq, ↓reduceIte, Bool.not_false, g2]
    · simp only [decide_eq_false_iff_not] at hc
      rw [drop_end (by omega)] at g2
      simp only [vx, vz, Nat.reduceAdd, Nat.reduceSub, Nat.reduceMul, Nat.reduceLeDiff, Nat.reduceLT, Nat.reduceEqDiff, Nat.reduceBEq, Int.reduceToNat, Int.reduceNeg, Int.reduceEq, Int.reduceNe, Int.reduceLE, Int.reduceLT, reduceCtorEq, ↓reduceIte, g2]
      first | done | rfl
theorem t51 (w : Wv) (ok : okW w) : CallP Tryd.prog 51 [wvV w] (.d (.bool (vldW w))) := by
  have hm := hm
  have hnl := ok.nl; have hrl := ok.rl
  unfold vldW
  refine go51 ac51 rfl ?_
  simp only [vx, vz, Nat.reduceAdd, Nat.reduceSub, Nat.reduceMul, Nat.reduceLeDiff, Nat.reduceLT, Nat.reduceEqDiff, Nat.reduceBEq, Int.reduceToNat, Int.reduceNeg, Int.reduceEq, Int.reduceNe, Int.reduceLE, Int.reduceLT, reduceCtorEq, ↓reduceIte, ac51]
  by_cases h1 : (48 : Int) < w.ns.length
  · rw [df (show ¬ (w.ns.length : Int) ≤ 48 by omega)]
    simp only [vx, vz, Nat.reduceAdd, Nat.reduceSub, Nat.reduceMul, Nat.reduceLeDiff, Nat.reduceLT, Nat.reduceEqDiff, Nat.reduceBEq, Int.reduceToNat, Int.reduceNeg, Int.reduceEq, Int.reduceNe, Int.reduceLE, Int.reduceLT, reduceCtorEq, ↓reduceIte, dt h1, Bool.false_and]
  rw [dt (show (w.ns.length : Int) ≤ 48 by omega), Bool.true_and]
  simp only [vx, vz, Nat.reduceAdd, Nat.reduceSub, Nat.reduceMul, Nat.reduceLeDiff, Nat.reduceLT, Nat.reduceEqDiff, Nat.reduceBEq, Int.reduceToNat, Int.reduceNeg, Int.reduceEq, Int.reduceNe, Int.reduceLE, Int.reduceLT, reduceCtorEq, ↓reduceIte, df h1]
  by_cases h2 : (4096 : Int) < w.rs.length
  · rw [df (show ¬ (w.rs.length : Int) ≤ 4096 by omega)]
    simp only [vx, vz, Nat.reduceAdd, Nat.reduceSub, Nat.reduceMul, Nat.reduceLeDiff, Nat.reduceLT, Nat.reduceEqDiff, Nat.reduceBEq, Int.reduceToNat, Int.reduceNeg, Int.reduceEq, Int.reduceNe, Int.reduceLE, Int.reduceLT, reduceCtorEq, ↓reduceIte, dt h2, Bool.false_and]
  rw [dt (show (w.rs.length : Int) ≤ 4096 by omega), Bool.true_and]
  simp only [vx, vz, Nat.reduceAdd, Nat.reduceSub, Nat.reduceMul, Nat.reduceLeDiff, Nat.reduceLT, Nat.reduceEqDiff, Nat.reduceBEq, Int.reduceToNat, Int.reduceNeg, Int.reduceEq, Int.reduceNe, Int.reduceLE, Int.reduceLT, reduceCtorEq, ↓reduceIte, df h2]
  refine call_p rfl (t66 w.ns ok.nl ok.ns) ?_
  simp only [vx, vz, Nat.reduceAdd, Nat.reduceSub, Nat.reduceMul, Nat.reduceLeDiff, Nat.reduceLT, Nat.reduceEqDiff, Nat.reduceBEq, Int.reduceToNat, Int.reduceNeg, Int.reduceEq, Int.reduceNe, Int.reduceLE, Int.reduceLT, reduceCtorEq, ↓reduceIte]
  cases hd : difS w.ns with
  | false => simp only [vx, vz, Nat.reduceAdd, Nat.reduceSub, Nat.reduceMul, Nat.reduceLeDiff, Nat.reduceLT, Nat.reduceEqDiff, Nat.reduceBEq, Int.reduceToNat, Int.reduceNeg, Int.reduceEq, Int.reduceNe, Int.reduceLE, Int.reduceLT, reduceCtorEq, ↓reduceIte, Bool.not_false, Bool.false_and]
  | true =>
    simp only [vx, vz, Nat.reduceAdd, Nat.reduceSub, Nat.reduceMul, Nat.reduceLeDiff, Nat.reduceLT, Nat.reduceEqDiff, Nat.reduceBEq, Int.reduceToNat, Int.reduceNeg, Int.reduceEq, Int.reduceNe, Int.reduceLE, Int.reduceLT, reduceCtorEq, ↓reduceIte, Bool.not_true, Bool.true_and]
    refine loop_st (fun i : Nat => ⟨mkF 46 [(1, .optr 2 0 1 0 0), (3, .d (.int .i64 i))], [rW w]⟩) (fun i => i ≤ w.rs.length ∧ w.rs.all (rowS w.ns.length) = (w.rs.drop i).all (rowS w.ns.length)) (fun i => w.rs.length - i) 0 (weak_any (by simp only [vx, vz, Nat.reduceAdd, Nat.reduceSub, Nat.reduceMul, Nat.reduceLeDiff, Nat.reduceLT, Nat.reduceEqDiff, Nat.reduceBEq, Int.reduceToNat, Int.reduceNeg, Int.reduceEq, Int.reduceNe, Int.reduceLE, Int.reduceLT, reduceCtorEq, ↓reduceIte]; try trivial)) ⟨by omega, rfl⟩ (fun i hi => ?_)
    obtain ⟨g1, g2⟩ := hi
    simp only [vx, vz, Nat.reduceAdd, Nat.reduceSub, Nat.reduceMul, Nat.reduceLeDiff, Nat.reduceLT, Nat.reduceEqDiff, Nat.reduceBEq, Int.reduceToNat, Int.reduceNeg, Int.reduceEq, Int.reduceNe, Int.reduceLE, Int.reduceLT, reduceCtorEq, ↓reduceIte]
    refine cond_split (fun hc => ?_) (fun hc => ?_)
    · simp only [decide_eq_true_eq] at hc
      obtain ⟨x, hx⟩ := get_ex (l := w.rs) (i := i) (by omega)
      rw [all_take_at hx] at g2
      simp only [vx, vz, Nat.reduceAdd, Nat.reduceSub, Nat.reduceMul, Nat.reduceLeDiff, Nat.reduceLT, Nat.reduceEqDiff, Nat.reduceBEq, Int.reduceToNat, Int.reduceNeg, Int.reduceEq, Int.reduceNe, Int.reduceLE, Int.reduceLT, reduceCtorEq, ↓reduceIte]
      refine c_quiet rfl ?_
      simp only [vx, vz, Nat.reduceAdd, Nat.reduceSub, Nat.reduceMul, Nat.reduceLeDiff, Nat.reduceLT, Nat.reduceEqDiff, Nat.reduceBEq, Int.reduceToNat, Int.reduceNeg, Int.reduceEq, Int.reduceNe, Int.reduceLE, Int.reduceLT, reduceCtorEq, ↓reduceIte]
      refine ⟨by omega, by omega, getM_at hx ?_⟩
      simp only [vx, vz, Nat.reduceAdd, Nat.reduceSub, Nat.reduceMul, Nat.reduceLeDiff, Nat.reduceLT, Nat.reduceEqDiff, Nat.reduceBEq, Int.reduceToNat, Int.reduceNeg, Int.reduceEq, Int.reduceNe, Int.reduceLE, Int.reduceLT, reduceCtorEq, ↓reduceIte]
      simp only [vx, vz, Nat.reduceAdd, Nat.reduceSub, Nat.reduceMul, Nat.reduceLeDiff, Nat.reduceLT, Nat.reduceEqDiff, Nat.reduceBEq, Int.reduceToNat, Int.reduceNeg, Int.reduceEq, Int.reduceNe, Int.reduceLE, Int.reduceLT, reduceCtorEq, ↓reduceIte, rwD]
      by_cases hn : (x.length : Int) = w.ns.length
      · rw [decide_not, dt hn]
        simp only [vx, vz, Nat.reduceAdd, Nat.reduceSub, Nat.reduceMul, Nat.reduceLeDiff, Nat.reduceLT, Nat.reduceEqDiff, Nat.reduceBEq, Int.reduceToNat, Int.reduceNeg, Int.reduceEq, Int.reduceNe, Int.reduceLE, Int.reduceLT, reduceCtorEq, ↓reduceIte, Bool.not_true]
        refine ⟨by omega, by omega, getM_at hx ?_⟩
        simp only [vx, vz, Nat.reduceAdd, Nat.reduceSub, Nat.reduceMul, Nat.reduceLeDiff, Nat.reduceLT, Nat.reduceEqDiff, Nat.reduceBEq, Int.reduceToNat, Int.reduceNeg, Int.reduceEq, Int.reduceNe, Int.reduceLE, Int.reduceLT, reduceCtorEq, ↓reduceIte]
        simp only [vx, vz, Nat.reduceAdd, Nat.reduceSub, Nat.reduceMul, Nat.reduceLeDiff, Nat.reduceLT, Nat.reduceEqDiff, Nat.reduceBEq, Int.reduceToNat, Int.reduceNeg, Int.reduceEq, Int.reduceNe, Int.reduceLE, Int.reduceLT, reduceCtorEq, ↓reduceIte, rwD]
        refine call_p rfl (t67 x (ok.rs x (List.mem_of_getElem? hx))) ?_
        simp only [vx, vz, Nat.reduceAdd, Nat.reduceSub, Nat.reduceMul, Nat.reduceLeDiff, Nat.reduceLT, Nat.reduceEqDiff, Nat.reduceBEq, Int.reduceToNat, Int.reduceNeg, Int.reduceEq, Int.reduceNe, Int.reduceLE, Int.reduceLT, reduceCtorEq, ↓reduceIte]
        have e : rowS w.ns.length x = x.all wordI := by unfold rowS; rw [dt (show x.length = w.ns.length by omega), Bool.true_and]
        rw [e] at g2
        cases ha : x.all wordI with
        | false =>
          rw [ha, Bool.false_and] at g2
          simp only [vx, vz, Nat.reduceAdd, Nat.reduceSub, Nat.reduceMul, Nat.reduceLeDiff, Nat.reduceLT, Nat.reduceEqDiff, Nat.reduceBEq, Int.reduceToNat, Int.reduceNeg, Int.reduceEq, Int.reduceNe, Int.reduceLE, Int.reduceLT, reduceCtorEq, ↓reduceIte, Bool.not_false, g2]
        | true =>
          rw [ha, Bool.true_and] at g2
          simp only [vx, vz, Nat.reduceAdd, Nat.reduceSub, Nat.reduceMul, Nat.reduceLeDiff, Nat.reduceLT, Nat.reduceEqDiff, Nat.reduceBEq, Int.reduceToNat, Int.reduceNeg, Int.reduceEq, Int.reduceNe, Int.reduceLE, Int.reduceLT, reduceCtorEq, ↓reduceIte, Bool.not_true]
          refine ls_n (i + 1) (by omega) (weak_any ?_) ⟨by omega, g2⟩
          simp only [vx, vz, Nat.reduceAdd, Nat.reduceSub, Nat.reduceMul, Nat.reduceLeDiff, Nat.reduceLT, Nat.reduceEqDiff, Nat.reduceBEq, Int.reduceToNat, Int.reduceNeg, Int.reduceEq, Int.reduceNe, Int.reduceLE, Int.reduceLT, reduceCtorEq, ↓reduceIte]
          rw [wr_i64 (by omega) (by omega)]
          first | trivial | exact ⟨rfl, rfl⟩
      · rw [decide_not, df hn]
        have e : rowS w.ns.length x = false := by unfold rowS; rw [df (show ¬ x.length = w.ns.length by omega), Bool.false_and]
        rw [e, Bool.false_and] at g2
        simp only [vx, vz, Nat.reduceAdd, Nat.reduceSub, Nat.reduceMul, Nat.reduceLeDiff, Nat.reduceLT, Nat.reduceEqDiff, Nat.reduceBEq, Int.reduceToNat, Int.reduceNeg, Int.reduceEq, Int.reduceNe, Int.reduceLE, Int.reduceLT, reduceCtorEq, ↓reduceIte, Bool.not_false, g2]
    · simp only [decide_eq_false_iff_not] at hc
      rw [drop_end (by omega)] at g2
      simp only [vx, vz, Nat.reduceAdd, Nat.reduceSub, Nat.reduceMul, Nat.reduceLeDiff, Nat.reduceLT, Nat.reduceEqDiff, Nat.reduceBEq, Int.reduceToNat, Int.reduceNeg, Int.reduceEq, Int.reduceNe, Int.reduceLE, Int.reduceLT, reduceCtorEq, ↓reduceIte, g2]
      first | done | rfl
def valS (w : Wv) (n : B) (t : Int) : Int := if vldW w = true ∧ 0 ≤ plc w.ns n 0 ∧ 0 ≤ t ∧ t < w.rs.length then (w.rs.getD t.toNat []).getD (plc w.ns n 0).toNat 0 else 0
theorem plc_lt (l : List B) (s : B) (i : Nat) : plc l s i < (i + l.length : Nat) ∨ plc l s i = -1 := by
  induction l generalizing i with
  | nil => exact .inr rfl
  | cons x l ih =>
    rw [plc]
    split
    · left; rw [List.length_cons]; omega
    · rcases ih (i + 1) with h | h
      · left; rw [List.length_cons]; omega
      · exact .inr h
theorem vldW_in {w : Wv} (h : vldW w = true) : w.ns.length ≤ 48 ∧ w.rs.length ≤ 4096 ∧ difS w.ns = true ∧ ∀ r ∈ w.rs, r.length = w.ns.length ∧ r.all wordI = true := by
  unfold vldW at h
  simp only [Bool.and_eq_true, decide_eq_true_eq, List.all_eq_true] at h
  refine ⟨by omega, by omega, h.2.2.1, fun r hr => ?_⟩
  have := h.2.2.2 r hr
  unfold rowS at this
  simp only [Bool.and_eq_true, decide_eq_true_eq] at this
  exact this
theorem t40 (w : Wv) (n : B) (t : Int) (ok : okW w) : CallP Tryd.prog 40 [wvV w, .d (.str n), .d (.int .i64 t)] (.tup [.d (.int .i64 (valS w n t)), .any]) := by
  have hm := hm
  have hnl := ok.nl; have hrl := ok.rl
  refine go40 ac40 rfl ?_
  simp only [vx, vz, Nat.reduceAdd, Nat.reduceSub, Nat.reduceMul, Nat.reduceLeDiff, Nat.reduceLT, Nat.reduceEqDiff, Nat.reduceBEq, Int.reduceToNat, Int.reduceNeg, Int.reduceEq, Int.reduceNe, Int.reduceLE, Int.reduceLT, reduceCtorEq, ↓reduceIte, ac40]
  refine call_p rfl (t60 w.ns n ok.nl) ?_
  simp only [vx, vz, Nat.reduceAdd, Nat.reduceSub, Nat.reduceMul, Nat.reduceLeDiff, Nat.reduceLT, Nat.reduceEqDiff, Nat.reduceBEq, Int.reduceToNat, Int.reduceNeg, Int.reduceEq, Int.reduceNe, Int.reduceLE, Int.reduceLT, reduceCtorEq, ↓reduceIte]
  refine call_p rfl (t51 w ok) ?_
  simp only [vx, vz, Nat.reduceAdd, Nat.reduceSub, Nat.reduceMul, Nat.reduceLeDiff, Nat.reduceLT, Nat.reduceEqDiff, Nat.reduceBEq, Int.reduceToNat, Int.reduceNeg, Int.reduceEq, Int.reduceNe, Int.reduceLE, Int.reduceLT, reduceCtorEq, ↓reduceIte]
  unfold valS
  cases hv : vldW w with
  | false =>
    rw [if_neg (by simp)]
    simp only [vx, vz, Nat.reduceAdd, Nat.reduceSub, Nat.reduceMul, Nat.reduceLeDiff, Nat.reduceLT, Nat.reduceEqDiff, Nat.reduceBEq, Int.reduceToNat, Int.reduceNeg, Int.reduceEq, Int.reduceNe, Int.reduceLE, Int.reduceLT, reduceCtorEq, ↓reduceIte, Bool.not_false]
  | true =>
    obtain ⟨k1, k2, k3, k4⟩ := vldW_in hv
    simp only [vx, vz, Nat.reduceAdd, Nat.reduceSub, Nat.reduceMul, Nat.reduceLeDiff, Nat.reduceLT, Nat.reduceEqDiff, Nat.reduceBEq, Int.reduceToNat, Int.reduceNeg, Int.reduceEq, Int.reduceNe, Int.reduceLE, Int.reduceLT, reduceCtorEq, ↓reduceIte, Bool.not_true]
    by_cases h1 : plc w.ns n 0 < 0
    · rw [if_neg (by omega)]
      simp only [vx, vz, Nat.reduceAdd, Nat.reduceSub, Nat.reduceMul, Nat.reduceLeDiff, Nat.reduceLT, Nat.reduceEqDiff, Nat.reduceBEq, Int.reduceToNat, Int.reduceNeg, Int.reduceEq, Int.reduceNe, Int.reduceLE, Int.reduceLT, reduceCtorEq, ↓reduceIte, dt h1]
    simp only [vx, vz, Nat.reduceAdd, Nat.reduceSub, Nat.reduceMul, Nat.reduceLeDiff, Nat.reduceLT, Nat.reduceEqDiff, Nat.reduceBEq, Int.reduceToNat, Int.reduceNeg, Int.reduceEq, Int.reduceNe, Int.reduceLE, Int.reduceLT, reduceCtorEq, ↓reduceIte, df h1]
    by_cases h2 : t < 0
    · rw [if_neg (by omega)]
      simp only [vx, vz, Nat.reduceAdd, Nat.reduceSub, Nat.reduceMul, Nat.reduceLeDiff, Nat.reduceLT, Nat.reduceEqDiff, Nat.reduceBEq, Int.reduceToNat, Int.reduceNeg, Int.reduceEq, Int.reduceNe, Int.reduceLE, Int.reduceLT, reduceCtorEq, ↓reduceIte, dt h2]
    simp only [vx, vz, Nat.reduceAdd, Nat.reduceSub, Nat.reduceMul, Nat.reduceLeDiff, Nat.reduceLT, Nat.reduceEqDiff, Nat.reduceBEq, Int.reduceToNat, Int.reduceNeg, Int.reduceEq, Int.reduceNe, Int.reduceLE, Int.reduceLT, reduceCtorEq, ↓reduceIte, df h2]
    by_cases h3 : (w.rs.length : Int) ≤ t
    · rw [if_neg (by omega)]
      simp only [vx, vz, Nat.reduceAdd, Nat.reduceSub, Nat.reduceMul, Nat.reduceLeDiff, Nat.reduceLT, Nat.reduceEqDiff, Nat.reduceBEq, Int.reduceToNat, Int.reduceNeg, Int.reduceEq, Int.reduceNe, Int.reduceLE, Int.reduceLT, reduceCtorEq, ↓reduceIte, dt h3]
    simp only [vx, vz, Nat.reduceAdd, Nat.reduceSub, Nat.reduceMul, Nat.reduceLeDiff, Nat.reduceLT, Nat.reduceEqDiff, Nat.reduceBEq, Int.reduceToNat, Int.reduceNeg, Int.reduceEq, Int.reduceNe, Int.reduceLE, Int.reduceLT, reduceCtorEq, ↓reduceIte, df h3]
    obtain ⟨i, hi⟩ : ∃ i : Nat, t = i := ⟨t.toNat, by omega⟩
    obtain ⟨k, hk⟩ : ∃ k : Nat, plc w.ns n 0 = k := ⟨(plc w.ns n 0).toNat, by omega⟩
    obtain ⟨r, hr⟩ := get_ex (l := w.rs) (i := i) (by omega)
    have hrl := k4 r (List.mem_of_getElem? hr)
    have hkl : k < r.length := by have := plc_lt w.ns n 0; omega
    obtain ⟨x, hx⟩ := get_ex (l := r) (i := k) hkl
    rw [if_pos ⟨by omega, by omega, by omega⟩, hi, hk]
    refine ⟨by omega, by omega, getM_at hr ?_⟩
    simp only [vx, vz, Nat.reduceAdd, Nat.reduceSub, Nat.reduceMul, Nat.reduceLeDiff, Nat.reduceLT, Nat.reduceEqDiff, Nat.reduceBEq, Int.reduceToNat, Int.reduceNeg, Int.reduceEq, Int.reduceNe, Int.reduceLE, Int.reduceLT, reduceCtorEq, ↓reduceIte]
    simp only [vx, vz, Nat.reduceAdd, Nat.reduceSub, Nat.reduceMul, Nat.reduceLeDiff, Nat.reduceLT, Nat.reduceEqDiff, Nat.reduceBEq, Int.reduceToNat, Int.reduceNeg, Int.reduceEq, Int.reduceNe, Int.reduceLE, Int.reduceLT, reduceCtorEq, ↓reduceIte, rwD]
    refine ⟨by omega, by omega, getM_at hx ?_⟩
    simp only [vx, vz, Nat.reduceAdd, Nat.reduceSub, Nat.reduceMul, Nat.reduceLeDiff, Nat.reduceLT, Nat.reduceEqDiff, Nat.reduceBEq, Int.reduceToNat, Int.reduceNeg, Int.reduceEq, Int.reduceNe, Int.reduceLE, Int.reduceLT, reduceCtorEq, ↓reduceIte]
    simp only [vx, vz, Nat.reduceAdd, Nat.reduceSub, Nat.reduceMul, Nat.reduceLeDiff, Nat.reduceLT, Nat.reduceEqDiff, Nat.reduceBEq, Int.reduceToNat, Int.reduceNeg, Int.reduceEq, Int.reduceNe, Int.reduceLE, Int.reduceLT, reduceCtorEq, ↓reduceIte, iD, Int.toNat_natCast, List.getD_eq_getElem?_getD, hr, Option.getD_some, hx]
theorem t29 (w : Wv) (n : B) (t : Int) (ok : okW w) : CallP Tryd.prog 29 [wvV w, .d (.str n), .d (.int .i64 t)] (.d (.int .i64 (valS w n t))) := by
  refine go29 ac29 rfl ?_
  simp only [vx, vz, Nat.reduceAdd, Nat.reduceSub, Nat.reduceMul, Nat.reduceLeDiff, Nat.reduceLT, Nat.reduceEqDiff, Nat.reduceBEq, Int.reduceToNat, Int.reduceNeg, Int.reduceEq, Int.reduceNe, Int.reduceLE, Int.reduceLT, reduceCtorEq, ↓reduceIte, ac29]
  refine call_p rfl (t40 w n t ok) ?_
  simp only [vx, vz, Nat.reduceAdd, Nat.reduceSub, Nat.reduceMul, Nat.reduceLeDiff, Nat.reduceLT, Nat.reduceEqDiff, Nat.reduceBEq, Int.reduceToNat, Int.reduceNeg, Int.reduceEq, Int.reduceNe, Int.reduceLE, Int.reduceLT, reduceCtorEq, ↓reduceIte]
theorem t23 (w : Wv) (n : B) (t : Int) (ok : okW w) : CallP Tryd.prog 23 [wvV w, .d (.str n), .d (.int .i64 t)] (.d (.int .i64 (valS w n t))) := by
  refine go23 ac23 rfl ?_
  simp only [vx, vz, Nat.reduceAdd, Nat.reduceSub, Nat.reduceMul, Nat.reduceLeDiff, Nat.reduceLT, Nat.reduceEqDiff, Nat.reduceBEq, Int.reduceToNat, Int.reduceNeg, Int.reduceEq, Int.reduceNe, Int.reduceLE, Int.reduceLT, reduceCtorEq, ↓reduceIte, ac23]
  refine call_p rfl (t40 w n t ok) ?_
  simp only [vx, vz, Nat.reduceAdd, Nat.reduceSub, Nat.reduceMul, Nat.reduceLeDiff, Nat.reduceLT, Nat.reduceEqDiff, Nat.reduceBEq, Int.reduceToNat, Int.reduceNeg, Int.reduceEq, Int.reduceNe, Int.reduceLE, Int.reduceLT, reduceCtorEq, ↓reduceIte]
/-- is there a transfer? -/
def movS (w : Wv) (c : Chn) (t : Int) : Bool := !decide (valS w c.va t = 0) && !decide (valS w c.rd t = 0)
theorem t32 (w : Wv) (c : Chn) (t : Int) (ok : okW w) : CallP Tryd.prog 32 [wvV w, chV c, .d (.int .i64 t)] (.d (.bool (movS w c t))) := by
  refine go32 ac32 rfl ?_
  simp only [vx, vz, Nat.reduceAdd, Nat.reduceSub, Nat.reduceMul, Nat.reduceLeDiff, Nat.reduceLT, Nat.reduceEqDiff, Nat.reduceBEq, Int.reduceToNat, Int.reduceNeg, Int.reduceEq, Int.reduceNe, Int.reduceLE, Int.reduceLT, reduceCtorEq, ↓reduceIte, ac32]
  refine call_p rfl (t29 w c.va t ok) ?_
  simp only [vx, vz, Nat.reduceAdd, Nat.reduceSub, Nat.reduceMul, Nat.reduceLeDiff, Nat.reduceLT, Nat.reduceEqDiff, Nat.reduceBEq, Int.reduceToNat, Int.reduceNeg, Int.reduceEq, Int.reduceNe, Int.reduceLE, Int.reduceLT, reduceCtorEq, ↓reduceIte]
  unfold movS
  rw [decide_not]
  cases decide (valS w c.va t = 0) with
  | true => simp only [vx, vz, Nat.reduceAdd, Nat.reduceSub, Nat.reduceMul, Nat.reduceLeDiff, Nat.reduceLT, Nat.reduceEqDiff, Nat.reduceBEq, Int.reduceToNat, Int.reduceNeg, Int.reduceEq, Int.reduceNe, Int.reduceLE, Int.reduceLT, reduceCtorEq, ↓reduceIte, Bool.not_true, Bool.false_and]
  | false =>
    simp only [vx, vz, Nat.reduceAdd, Nat.reduceSub, Nat.reduceMul, Nat.reduceLeDiff, Nat.reduceLT, Nat.reduceEqDiff, Nat.reduceBEq, Int.reduceToNat, Int.reduceNeg, Int.reduceEq, Int.reduceNe, Int.reduceLE, Int.reduceLT, reduceCtorEq, ↓reduceIte, Bool.not_false, Bool.true_and]
    refine call_p rfl (t29 w c.rd t ok) ?_
    simp only [vx, vz, Nat.reduceAdd, Nat.reduceSub, Nat.reduceMul, Nat.reduceLeDiff, Nat.reduceLT, Nat.reduceEqDiff, Nat.reduceBEq, Int.reduceToNat, Int.reduceNeg, Int.reduceEq, Int.reduceNe, Int.reduceLE, Int.reduceLT, reduceCtorEq, ↓reduceIte]
    rw [decide_not]
end Go.Proofs.Mn
