import Derived.Test.YtkoonehfphkmaaaC47
import Derived.Test.YtkoonehfphkmaaaVxZ
set_option linter.unusedSimpArgs false
set_option linter.unusedVariables false
namespace Go.Proofs.Cr
open Go.Vx
abbrev B := List UInt8
theorem dt {p : Prop} [Decidable p] (h : p) : decide p = true := decide_eq_true h
theorem df {p : Prop} [Decidable p] (h : ¬ p) : decide p = false := decide_eq_false h
theorem hm : (maxLen : Int) ≤ 9223372036854775807 := by decide
theorem get_ex {α : Type} {l : List α} {i : Nat} (h : i < l.length) : ∃ x, l[i]? = some x := ⟨_, List.getElem?_eq_getElem h⟩
theorem getM_at {α β : Type} {l : List α} {f : α → β} {i : Nat} {x : α} {g : β → Prop} (h : l[i]? = some x) (hk : g (f x)) : getA (l.map f) (i : Int).toNat g :=
  getA_iff.2 ⟨f x, by simp [h], hk⟩
theorem drop_at {α : Type} {l : List α} {i : Nat} {x : α} (h : l[i]? = some x) : l.drop i = x :: l.drop (i + 1) := by
  obtain ⟨h1, h2⟩ := List.getElem?_eq_some_iff.1 h
  rw [List.drop_eq_getElem_cons h1, h2]
theorem drop_end {α : Type} {l : List α} {i : Nat} (h : l.length ≤ i) : l.drop i = [] := List.drop_eq_nil_of_le h
theorem kpL_refl {m : Nat} {rows : Go.Vx.Rows} {fr : List V} (h : fr.all (hB m) = true) : kpL m rows fr fr := by
  induction fr with
  | nil => trivial
  | cons x l ih =>
    simp only [List.all_cons, Bool.and_eq_true] at h
    exact ⟨.same _ h.1, ih h.2⟩
def iD (x : Int) : List D := [.int .i64 x]
abbrev isV (l : List Int) : V := .d (.sl 1 (l.map iD))
def lD (l : List Int) : List D := [.sl 1 (l.map iD)]
abbrev Bn := B × Int × D × D
abbrev Pt := (B × Int × Int × B × D) × List Bn
abbrev Cs := B × List Int × List (List Int)
abbrev Md := List Pt × List Cs
def bnD (b : Bn) : List D := [.str b.1, .int .i64 b.2.1, b.2.2.1, b.2.2.2]
def ptD (p : Pt) : List D := [.str p.1.1, .int .i64 p.1.2.1, .int .i64 p.1.2.2.1, .str p.1.2.2.2.1, p.1.2.2.2.2, .sl 4 (p.2.map bnD)]
def crD (c : Cs) : List D := [.str c.1, .sl 1 (c.2.1.map iD), .sl 1 (c.2.2.map lD)]
abbrev mdV (m : Md) : V := .agg [.d (.sl 6 (m.1.map ptD)), .d (.sl 3 (m.2.map crD))]
abbrev mdP (m : Md) : V := .d (.ptr [.sl 6 (m.1.map ptD), .sl 3 (m.2.map crD)])
def okM (m : Md) : Prop := m.1.length ≤ maxLen ∧ m.2.length ≤ maxLen ∧ (∀ p ∈ m.1, p.2.length ≤ maxLen) ∧ ∀ c ∈ m.2, c.2.1.length ≤ maxLen ∧ c.2.2.length ≤ maxLen ∧ ∀ l ∈ c.2.2, l.length ≤ maxLen
def miss (m : Md) (p : Int) : Bool := decide (p < 0) || decide ((m.1.length : Int) ≤ p)
theorem t36 (m : Md) (p : Int) : CallP Try.prog 36 [.d (.int .i64 p), mdP m] (.d (.bool (miss m p))) := by
  refine go36 ac36 rfl ?_
  simp only [vx, vz, Nat.reduceAdd, Nat.reduceSub, Nat.reduceMul, Nat.reduceLeDiff, Nat.reduceLT, Nat.reduceEqDiff, Nat.reduceBEq, Int.reduceToNat, Int.reduceNeg, Int.reduceEq, Int.reduceNe, Int.reduceLE, Int.reduceLT, reduceCtorEq, ↓reduceIte, ac36]
  by_cases h : p < 0
  · simp only [vx, vz, Nat.reduceAdd, Nat.reduceSub, Nat.reduceMul, Nat.reduceLeDiff, Nat.reduceLT, Nat.reduceEqDiff, Nat.reduceBEq, Int.reduceToNat, Int.reduceNeg, Int.reduceEq, Int.reduceNe, Int.reduceLE, Int.reduceLT, reduceCtorEq, ↓reduceIte, dt h, miss, Bool.true_or]
  · simp only [vx, vz, Nat.reduceAdd, Nat.reduceSub, Nat.reduceMul, Nat.reduceLeDiff, Nat.reduceLT, Nat.reduceEqDiff, Nat.reduceBEq, Int.reduceToNat, Int.reduceNeg, Int.reduceEq, Int.reduceNe, Int.reduceLE, Int.reduceLT, reduceCtorEq, ↓reduceIte, df h, miss, Bool.false_or]
def fidx {α : Type} (q : α → Bool) : List α → Nat → Int
  | [], _ => -1
  | x :: l, i => if q x then (i : Int) else fidx q l (i + 1)
theorem fidx_any {α : Type} {q : α → Bool} {l : List α} {i : Nat} : decide (0 ≤ fidx q l i) = l.any q := by
  induction l generalizing i with
  | nil => rfl
  | cons x l ih =>
    rw [fidx, List.any_cons]
    cases q x with
    | true => simp
    | false => simpa using ih
theorem t40 (m : Md) (l : List Int) (hl : l.length ≤ maxLen) : CallP Try.prog 40 [isV l, .fn (.func 36) [] [mdP m]] (.d (.int .i64 (fidx (miss m) l 0))) := by
  have hm := hm
  refine go40 ac40 rfl ?_
  simp only [vx, vz, Nat.reduceAdd, Nat.reduceSub, Nat.reduceMul, Nat.reduceLeDiff, Nat.reduceLT, Nat.reduceEqDiff, Nat.reduceBEq, Int.reduceToNat, Int.reduceNeg, Int.reduceEq, Int.reduceNe, Int.reduceLE, Int.reduceLT, reduceCtorEq, ↓reduceIte, ac40]
  refine loop_st (fun i : Nat => ⟨mkF 19 [(0, isV l), (1, .fn (.func 36) [] [mdP m]), (7, .d (.int .i64 l.length)), (8, .d (.int .i64 i))], []⟩) (fun i => i ≤ l.length ∧ fidx (miss m) l 0 = fidx (miss m) (l.drop i) i) (fun i => l.length - i) 0 (weak_any (by simp only [vx, vz, Nat.reduceAdd, Nat.reduceSub, Nat.reduceMul, Nat.reduceLeDiff, Nat.reduceLT, Nat.reduceEqDiff, Nat.reduceBEq, Int.reduceToNat, Int.reduceNeg, Int.reduceEq, Int.reduceNe, Int.reduceLE, Int.reduceLT, reduceCtorEq, ↓reduceIte]; try trivial)) ⟨by omega, by rw [List.drop_zero]⟩ (fun i hi => ?_)
  obtain ⟨h1, h2⟩ := hi
  simp only [vx, vz, Nat.reduceAdd, Nat.reduceSub, Nat.reduceMul, Nat.reduceLeDiff, Nat.reduceLT, Nat.reduceEqDiff, Nat.reduceBEq, Int.reduceToNat, Int.reduceNeg, Int.reduceEq, Int.reduceNe, Int.reduceLE, Int.reduceLT, reduceCtorEq, ↓reduceIte]
  refine cond_split (fun hc => ?_) (fun hc => ?_)
  · simp only [decide_eq_true_eq] at hc
    obtain ⟨x, hx⟩ := get_ex (l := l) (i := i) (by omega)
    rw [drop_at hx, fidx] at h2
    simp only [vx, vz, Nat.reduceAdd, Nat.reduceSub, Nat.reduceMul, Nat.reduceLeDiff, Nat.reduceLT, Nat.reduceEqDiff, Nat.reduceBEq, Int.reduceToNat, Int.reduceNeg, Int.reduceEq, Int.reduceNe, Int.reduceLE, Int.reduceLT, reduceCtorEq, ↓reduceIte]
    refine ⟨by omega, by omega, getM_at hx ?_⟩
    simp only [vx, vz, Nat.reduceAdd, Nat.reduceSub, Nat.reduceMul, Nat.reduceLeDiff, Nat.reduceLT, Nat.reduceEqDiff, Nat.reduceBEq, Int.reduceToNat, Int.reduceNeg, Int.reduceEq, Int.reduceNe, Int.reduceLE, Int.reduceLT, reduceCtorEq, ↓reduceIte]
    simp only [vx, vz, Nat.reduceAdd, Nat.reduceSub, Nat.reduceMul, Nat.reduceLeDiff, Nat.reduceLT, Nat.reduceEqDiff, Nat.reduceBEq, Int.reduceToNat, Int.reduceNeg, Int.reduceEq, Int.reduceNe, Int.reduceLE, Int.reduceLT, reduceCtorEq, ↓reduceIte, iD]
    refine call_p rfl (t36 m x) ?_
    simp only [vx, vz, Nat.reduceAdd, Nat.reduceSub, Nat.reduceMul, Nat.reduceLeDiff, Nat.reduceLT, Nat.reduceEqDiff, Nat.reduceBEq, Int.reduceToNat, Int.reduceNeg, Int.reduceEq, Int.reduceNe, Int.reduceLE, Int.reduceLT, reduceCtorEq, ↓reduceIte]
    refine cond_split (fun hc2 => ?_) (fun hc2 => ?_)
    · rw [if_pos hc2] at h2
      simp only [vx, vz, Nat.reduceAdd, Nat.reduceSub, Nat.reduceMul, Nat.reduceLeDiff, Nat.reduceLT, Nat.reduceEqDiff, Nat.reduceBEq, Int.reduceToNat, Int.reduceNeg, Int.reduceEq, Int.reduceNe, Int.reduceLE, Int.reduceLT, reduceCtorEq, ↓reduceIte, h2]
    · rw [if_neg (by rw [hc2]; decide)] at h2
      simp only [vx, vz, Nat.reduceAdd, Nat.reduceSub, Nat.reduceMul, Nat.reduceLeDiff, Nat.reduceLT, Nat.reduceEqDiff, Nat.reduceBEq, Int.reduceToNat, Int.reduceNeg, Int.reduceEq, Int.reduceNe, Int.reduceLE, Int.reduceLT, reduceCtorEq, ↓reduceIte]
      refine ls_n (i + 1) (by omega) (weak_any ?_) ⟨by omega, h2⟩
      simp only [vx, vz, Nat.reduceAdd, Nat.reduceSub, Nat.reduceMul, Nat.reduceLeDiff, Nat.reduceLT, Nat.reduceEqDiff, Nat.reduceBEq, Int.reduceToNat, Int.reduceNeg, Int.reduceEq, Int.reduceNe, Int.reduceLE, Int.reduceLT, reduceCtorEq, ↓reduceIte]
      rw [wr_i64 (by omega) (by omega)]
      trivial
  · simp only [decide_eq_false_iff_not] at hc
    rw [drop_end (by omega), fidx] at h2
    simp only [vx, vz, Nat.reduceAdd, Nat.reduceSub, Nat.reduceMul, Nat.reduceLeDiff, Nat.reduceLT, Nat.reduceEqDiff, Nat.reduceBEq, Int.reduceToNat, Int.reduceNeg, Int.reduceEq, Int.reduceNe, Int.reduceLE, Int.reduceLT, reduceCtorEq, ↓reduceIte, h2]
theorem t37 (m : Md) (l : List Int) (hl : l.length ≤ maxLen) : CallP Try.prog 37 [isV l, .fn (.func 36) [] [mdP m]] (.d (.bool (l.any (miss m)))) := by
  refine go37 ac37 rfl ?_
  simp only [vx, vz, Nat.reduceAdd, Nat.reduceSub, Nat.reduceMul, Nat.reduceLeDiff, Nat.reduceLT, Nat.reduceEqDiff, Nat.reduceBEq, Int.reduceToNat, Int.reduceNeg, Int.reduceEq, Int.reduceNe, Int.reduceLE, Int.reduceLT, reduceCtorEq, ↓reduceIte, ac37]
  refine call_p rfl (t40 m l hl) ?_
  simp only [vx, vz, Nat.reduceAdd, Nat.reduceSub, Nat.reduceMul, Nat.reduceLeDiff, Nat.reduceLT, Nat.reduceEqDiff, Nat.reduceBEq, Int.reduceToNat, Int.reduceNeg, Int.reduceEq, Int.reduceNe, Int.reduceLE, Int.reduceLT, reduceCtorEq, ↓reduceIte]
  exact fidx_any
def crOf (m : Md) (i : Int) : Option Cs := if i < 0 then none else m.2[i.toNat]?
def usb (m : Md) (i : Int) : Bool := match crOf m i with
  | none => false
  | some c => !(c.2.1.any (miss m))
theorem crOf_neg {m : Md} {i : Int} (h : i < 0 ∨ (m.2.length : Int) ≤ i) : crOf m i = none := by
  rw [crOf]
  split
  · rfl
  · exact List.getElem?_eq_none (by omega)
theorem crOf_at {m : Md} {i : Nat} : crOf m (i : Int) = m.2[i]? := by rw [crOf, if_neg (by omega), Int.toNat_natCast]
theorem t28 (m : Md) (i : Int) (ok : okM m) : CallP Try.prog 28 [mdV m, .d (.int .i64 i)] (.d (.bool (usb m i))) := by
  have hm := hm
  refine go28 ac28 rfl ?_
  by_cases h1 : i < 0
  · have h2 : usb m i = false := by rw [usb, crOf_neg (.inl h1)]
    simp only [vx, vz, Nat.reduceAdd, Nat.reduceSub, Nat.reduceMul, Nat.reduceLeDiff, Nat.reduceLT, Nat.reduceEqDiff, Nat.reduceBEq, Int.reduceToNat, Int.reduceNeg, Int.reduceEq, Int.reduceNe, Int.reduceLE, Int.reduceLT, reduceCtorEq, ↓reduceIte, ac28, dt h1, h2]
  · by_cases h2 : (m.2.length : Int) ≤ i
    · have h3 : usb m i = false := by rw [usb, crOf_neg (.inr h2)]
      simp only [vx, vz, Nat.reduceAdd, Nat.reduceSub, Nat.reduceMul, Nat.reduceLeDiff, Nat.reduceLT, Nat.reduceEqDiff, Nat.reduceBEq, Int.reduceToNat, Int.reduceNeg, Int.reduceEq, Int.reduceNe, Int.reduceLE, Int.reduceLT, reduceCtorEq, ↓reduceIte, ac28, df h1, dt h2, h3]
    · obtain ⟨i, rfl⟩ : ∃ j : Nat, i = j := ⟨i.toNat, by omega⟩
      obtain ⟨c, hc⟩ := get_ex (l := m.2) (i := i) (by omega)
      have hcl := (ok.2.2.2 c (List.mem_of_getElem? hc)).1
      have h3 : usb m i = !(c.2.1.any (miss m)) := by rw [usb, crOf_at, hc]
      simp only [vx, vz, Nat.reduceAdd, Nat.reduceSub, Nat.reduceMul, Nat.reduceLeDiff, Nat.reduceLT, Nat.reduceEqDiff, Nat.reduceBEq, Int.reduceToNat, Int.reduceNeg, Int.reduceEq, Int.reduceNe, Int.reduceLE, Int.reduceLT, reduceCtorEq, ↓reduceIte, ac28, df h1, df h2]
      refine ⟨by omega, by omega, getM_at hc ?_⟩
      simp only [vx, vz, Nat.reduceAdd, Nat.reduceSub, Nat.reduceMul, Nat.reduceLeDiff, Nat.reduceLT, Nat.reduceEqDiff, Nat.reduceBEq, Int.reduceToNat, Int.reduceNeg, Int.reduceEq, Int.reduceNe, Int.reduceLE, Int.reduceLT, reduceCtorEq, ↓reduceIte]
      simp only [vx, vz, Nat.reduceAdd, Nat.reduceSub, Nat.reduceMul, Nat.reduceLeDiff, Nat.reduceLT, Nat.reduceEqDiff, Nat.reduceBEq, Int.reduceToNat, Int.reduceNeg, Int.reduceEq, Int.reduceNe, Int.reduceLE, Int.reduceLT, reduceCtorEq, ↓reduceIte, crD]
      refine call_s (v := .d (.bool (c.2.1.any (miss m)))) ?_ rfl ?_ ?_
      · intro x hx
        simp only [List.nil_append, List.append_nil, List.mem_cons, List.not_mem_nil, or_false] at hx
        rcases hx with rfl | rfl
        · rfl
        · simp [snapOk, snapCOk, Go.Vx.rowAt, isD]
      · exact t37 m c.2.1 hcl
      simp only [vx, vz, Nat.reduceAdd, Nat.reduceSub, Nat.reduceMul, Nat.reduceLeDiff, Nat.reduceLT, Nat.reduceEqDiff, Nat.reduceBEq, Int.reduceToNat, Int.reduceNeg, Int.reduceEq, Int.reduceNe, Int.reduceLE, Int.reduceLT, reduceCtorEq, ↓reduceIte, h3]
end Go.Proofs.Cr
