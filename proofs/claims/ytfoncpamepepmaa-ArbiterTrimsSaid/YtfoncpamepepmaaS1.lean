import Derived.Test.YtfoncpamepepmaaC29
import Derived.Test.YtfoncpamepepmaaVxZ
set_option linter.unusedSimpArgs false
set_option linter.unusedVariables false
namespace Go.Proofs.Ar
open Go.Vx
abbrev B := List UInt8
theorem dt {p : Prop} [Decidable p] (h : p) : decide p = true := decide_eq_true h
theorem df {p : Prop} [Decidable p] (h : ¬ p) : decide p = false := decide_eq_false h
theorem hm : (maxLen : Int) ≤ 9223372036854775807 := by decide
theorem mL : 100000 ≤ maxLen := by decide
theorem get_ex {α : Type} {l : List α} {i : Nat} (h : i < l.length) : ∃ x, l[i]? = some x := ⟨_, List.getElem?_eq_getElem h⟩
theorem getM_at {α β : Type} {l : List α} {f : α → β} {i : Nat} {x : α} {g : β → Prop} (h : l[i]? = some x) (hk : g (f x)) : getA (l.map f) (i : Int).toNat g :=
  getA_iff.2 ⟨f x, by simp [h], hk⟩
theorem getM_nat {α β : Type} {l : List α} {f : α → β} {i : Nat} {x : α} {g : β → Prop} (h : l[i]? = some x) (hk : g (f x)) : getA (l.map f) i g :=
  getA_iff.2 ⟨f x, by simp [h], hk⟩
theorem drop_at {α : Type} {l : List α} {i : Nat} {x : α} (h : l[i]? = some x) : l.drop i = x :: l.drop (i + 1) := by
  obtain ⟨h1, h2⟩ := List.getElem?_eq_some_iff.1 h
  rw [List.drop_eq_getElem_cons h1, h2]
theorem drop_end {α : Type} {l : List α} {i : Nat} (h : l.length ≤ i) : l.drop i = [] := List.drop_eq_nil_of_le h
theorem take_at {α : Type} {l : List α} {i : Nat} {x : α} (h : l[i]? = some x) : l.take (i + 1) = l.take i ++ [x] := by
  obtain ⟨h1, h2⟩ := List.getElem?_eq_some_iff.1 h
  rw [List.take_succ_eq_append_getElem h1, h2]
theorem take_end {α : Type} {l : List α} {i : Nat} (h : l.length ≤ i) : l.take i = l := List.take_of_length_le h
theorem kpL_refl {m : Nat} {rows : Go.Vx.Rows} {fr : List V} (h : fr.all (hB m) = true) : kpL m rows fr fr := by
  induction fr with
  | nil => trivial
  | cons x l ih =>
    simp only [List.all_cons, Bool.and_eq_true] at h
    exact ⟨.same _ h.1, ih h.2⟩
def iD (x : Int) : List D := [.int .i64 x]
def sD (s : B) : List D := [.str s]
abbrev Sl := Bool × List B × List Int × B
def slD (s : Sl) : List D := [.bool s.1, .sl 1 (s.2.1.map sD), .sl 1 (s.2.2.1.map iD), .str s.2.2.2]
def stD (l : List Sl) : List D := [.sl 4 (l.map slD)]
abbrev slV (s : Sl) : V := .agg [.d (.bool s.1), .d (.sl 1 (s.2.1.map sD)), .d (.sl 1 (s.2.2.1.map iD)), .d (.str s.2.2.2)]
abbrev stV (l : List Sl) : V := .d (.sl 4 (l.map slD))
abbrev llV (l : List (List Sl)) : V := .d (.sl 1 (l.map stD))
def okS (s : Sl) : Prop := s.2.1.length ≤ 10 ∧ s.2.2.1.length ≤ 10
theorem sn_all {rows : Go.Vx.Rows} {sz h n : Nat} {es : List (List D)} (hrow : Go.Vx.rowAt rows h = .live sz (es.map (·.map .d))) (hn : n = es.length) (hsz : ∀ e ∈ es, e.length = sz) : Snap rows (.osl sz h n 0 n) (.d (.sl sz es)) :=
  sn_osl (es := es) hrow hn.symm (by omega) hsz (by rw [List.drop_zero, List.take_of_length_le (by omega)])
theorem szs {l : List B} : ∀ e ∈ l.map sD, e.length = 1 := fun e he => by obtain ⟨t, _, rfl⟩ := List.mem_map.1 he; rfl
theorem szi {l : List Int} : ∀ e ∈ l.map iD, e.length = 1 := fun e he => by obtain ⟨t, _, rfl⟩ := List.mem_map.1 he; rfl
theorem szl {l : List Sl} : ∀ e ∈ l.map slD, e.length = 4 := fun e he => by obtain ⟨t, _, rfl⟩ := List.mem_map.1 he; rfl
theorem szt {l : List (List Sl)} : ∀ e ∈ l.map stD, e.length = 1 := fun e he => by obtain ⟨t, _, rfl⟩ := List.mem_map.1 he; rfl
theorem t43 (l : List B) (hl : l.length ≤ 10) : CallP Try.prog 43 [.d (.sl 1 (l.map sD))] (.d (.sl 1 (l.map sD))) := by
  refine go43 ac43 rfl ?_
  cases l with
  | nil =>
    simp only [vx, vz, Nat.reduceAdd, Nat.reduceSub, Nat.reduceMul, Nat.reduceLeDiff, Nat.reduceLT, Nat.reduceEqDiff, Nat.reduceBEq, Int.reduceToNat, Int.reduceNeg, Int.reduceEq, Int.reduceNe, Int.reduceLE, Int.reduceLT, reduceCtorEq, ↓reduceIte, ac43]
    exact ⟨by unfold maxBytes; omega, sn_all (es := []) rfl rfl (by simp)⟩
  | cons x l =>
    simp only [vx, vz, Nat.reduceAdd, Nat.reduceSub, Nat.reduceMul, Nat.reduceLeDiff, Nat.reduceLT, Nat.reduceEqDiff, Nat.reduceBEq, Int.reduceToNat, Int.reduceNeg, Int.reduceEq, Int.reduceNe, Int.reduceLE, Int.reduceLT, reduceCtorEq, ↓reduceIte, ac43]
    simp only [List.length_cons] at hl
    exact ⟨by unfold maxBytes; omega, sn_all (es := (x :: l).map sD) rfl (by simp) szs⟩
theorem t44 (l : List Int) (hl : l.length ≤ 10) : CallP Try.prog 44 [.d (.sl 1 (l.map iD))] (.d (.sl 1 (l.map iD))) := by
  refine go44 ac44 rfl ?_
  cases l with
  | nil =>
    simp only [vx, vz, Nat.reduceAdd, Nat.reduceSub, Nat.reduceMul, Nat.reduceLeDiff, Nat.reduceLT, Nat.reduceEqDiff, Nat.reduceBEq, Int.reduceToNat, Int.reduceNeg, Int.reduceEq, Int.reduceNe, Int.reduceLE, Int.reduceLT, reduceCtorEq, ↓reduceIte, ac44]
    exact ⟨by unfold maxBytes; omega, sn_all (es := []) rfl rfl (by simp)⟩
  | cons x l =>
    simp only [vx, vz, Nat.reduceAdd, Nat.reduceSub, Nat.reduceMul, Nat.reduceLeDiff, Nat.reduceLT, Nat.reduceEqDiff, Nat.reduceBEq, Int.reduceToNat, Int.reduceNeg, Int.reduceEq, Int.reduceNe, Int.reduceLE, Int.reduceLT, reduceCtorEq, ↓reduceIte, ac44]
    simp only [List.length_cons] at hl
    exact ⟨by unfold maxBytes; omega, sn_all (es := (x :: l).map iD) rfl (by simp) szi⟩
theorem t34 (s : Sl) (ok : okS s) : CallP Try.prog 34 [slV s] (slV s) := by
  refine go34 ac34 rfl ?_
  simp only [vx, vz, Nat.reduceAdd, Nat.reduceSub, Nat.reduceMul, Nat.reduceLeDiff, Nat.reduceLT, Nat.reduceEqDiff, Nat.reduceBEq, Int.reduceToNat, Int.reduceNeg, Int.reduceEq, Int.reduceNe, Int.reduceLE, Int.reduceLT, reduceCtorEq, ↓reduceIte, ac34]
  refine call_p rfl (t43 s.2.1 ok.1) ?_
  simp only [vx, vz, Nat.reduceAdd, Nat.reduceSub, Nat.reduceMul, Nat.reduceLeDiff, Nat.reduceLT, Nat.reduceEqDiff, Nat.reduceBEq, Int.reduceToNat, Int.reduceNeg, Int.reduceEq, Int.reduceNe, Int.reduceLE, Int.reduceLT, reduceCtorEq, ↓reduceIte]
  refine call_p rfl (t44 s.2.2.1 ok.2) ?_
  simp only [vx, vz, Nat.reduceAdd, Nat.reduceSub, Nat.reduceMul, Nat.reduceLeDiff, Nat.reduceLT, Nat.reduceEqDiff, Nat.reduceBEq, Int.reduceToNat, Int.reduceNeg, Int.reduceEq, Int.reduceNe, Int.reduceLE, Int.reduceLT, reduceCtorEq, ↓reduceIte]
  exact ⟨.d _, .d _⟩
abbrev lnP (p : List Sl × Nat) : V := .d (.ptr [.sl 4 (p.1.map slD), .int .i64 p.2])
def finS (p : List Sl × Nat) : Bool := decide (p.1.length ≤ p.2)
theorem t29 (p : List Sl × Nat) : CallP Try.prog 29 [lnP p] (.d (.bool (finS p))) := by
  refine go29 ac29 rfl ?_
  simp only [vx, vz, Nat.reduceAdd, Nat.reduceSub, Nat.reduceMul, Nat.reduceLeDiff, Nat.reduceLT, Nat.reduceEqDiff, Nat.reduceBEq, Int.reduceToNat, Int.reduceNeg, Int.reduceEq, Int.reduceNe, Int.reduceLE, Int.reduceLT, reduceCtorEq, ↓reduceIte, ac29]
  refine c_quiet rfl ?_
  simp only [vx, vz, Nat.reduceAdd, Nat.reduceSub, Nat.reduceMul, Nat.reduceLeDiff, Nat.reduceLT, Nat.reduceEqDiff, Nat.reduceBEq, Int.reduceToNat, Int.reduceNeg, Int.reduceEq, Int.reduceNe, Int.reduceLE, Int.reduceLT, reduceCtorEq, ↓reduceIte]
  exact decide_eq_decide.2 Int.ofNat_le
def busyS (p : List Sl × Nat) : Bool := match p.1[p.2]? with
  | none => false
  | some s => !s.1
theorem t33 (p : List Sl × Nat) : CallP Try.prog 33 [lnP p] (.d (.bool (busyS p))) := by
  refine go33 ac33 rfl ?_
  simp only [vx, vz, Nat.reduceAdd, Nat.reduceSub, Nat.reduceMul, Nat.reduceLeDiff, Nat.reduceLT, Nat.reduceEqDiff, Nat.reduceBEq, Int.reduceToNat, Int.reduceNeg, Int.reduceEq, Int.reduceNe, Int.reduceLE, Int.reduceLT, reduceCtorEq, ↓reduceIte, ac33]
  refine c_quiet rfl ?_
  simp only [vx, vz, Nat.reduceAdd, Nat.reduceSub, Nat.reduceMul, Nat.reduceLeDiff, Nat.reduceLT, Nat.reduceEqDiff, Nat.reduceBEq, Int.reduceToNat, Int.reduceNeg, Int.reduceEq, Int.reduceNe, Int.reduceLE, Int.reduceLT, reduceCtorEq, ↓reduceIte]
  refine call_p rfl (t29 p) ?_
  simp only [vx, vz, Nat.reduceAdd, Nat.reduceSub, Nat.reduceMul, Nat.reduceLeDiff, Nat.reduceLT, Nat.reduceEqDiff, Nat.reduceBEq, Int.reduceToNat, Int.reduceNeg, Int.reduceEq, Int.reduceNe, Int.reduceLE, Int.reduceLT, reduceCtorEq, ↓reduceIte]
  cases hf : finS p with
  | true =>
    have : p.1[p.2]? = none := List.getElem?_eq_none (by simpa [finS] using hf)
    simp only [vx, vz, Nat.reduceAdd, Nat.reduceSub, Nat.reduceMul, Nat.reduceLeDiff, Nat.reduceLT, Nat.reduceEqDiff, Nat.reduceBEq, Int.reduceToNat, Int.reduceNeg, Int.reduceEq, Int.reduceNe, Int.reduceLE, Int.reduceLT, reduceCtorEq, ↓reduceIte, busyS, this]
  | false =>
    obtain ⟨x, hx⟩ := get_ex (l := p.1) (i := p.2) (by simpa [finS] using hf)
    simp only [vx, vz, Nat.reduceAdd, Nat.reduceSub, Nat.reduceMul, Nat.reduceLeDiff, Nat.reduceLT, Nat.reduceEqDiff, Nat.reduceBEq, Int.reduceToNat, Int.reduceNeg, Int.reduceEq, Int.reduceNe, Int.reduceLE, Int.reduceLT, reduceCtorEq, ↓reduceIte]
    refine ⟨by have := (List.getElem?_eq_some_iff.1 hx).1; omega, by have := (List.getElem?_eq_some_iff.1 hx).1; omega, getM_nat hx ?_⟩
    simp only [vx, vz, Nat.reduceAdd, Nat.reduceSub, Nat.reduceMul, Nat.reduceLeDiff, Nat.reduceLT, Nat.reduceEqDiff, Nat.reduceBEq, Int.reduceToNat, Int.reduceNeg, Int.reduceEq, Int.reduceNe, Int.reduceLE, Int.reduceLT, reduceCtorEq, ↓reduceIte, slD, busyS, hx]
theorem kpL_set {m : Nat} {rows : Go.Vx.Rows} {fr : List V} {i : Nat} {v v' : V} (h1 : fr[i]? = some v) (h2 : Snap (hiRows m rows) v v') (h3 : (fr.eraseIdx i).all (hB m) = true) : kpL m rows fr (fr.set i v') := by
  induction fr generalizing i with
  | nil => simp at h1
  | cons x l ih =>
    cases i with
    | zero => simp at h1; subst h1; exact ⟨.snap _ _ h2, kpL_refl (by simpa using h3)⟩
    | succ i =>
      simp only [List.eraseIdx_cons_succ, List.all_cons, Bool.and_eq_true] at h3
      exact ⟨.same _ h3.1, ih (by simpa using h1) h3.2⟩
theorem sn_ptr {rows : Go.Vx.Rows} {h : Nat} {cs : List D} {sz : Nat} (hrow : rows[h]? = some (.live sz [cs.map .d])) (hl : cs.length ≤ sz) : Snap rows (.optr sz h 1 0 0) (.d (.ptr cs)) :=
  .optr sz h 1 0 0 _ _ cs hrow rfl rfl (by omega) fun j v y h1 h2 => by
    rw [Nat.zero_add, List.getElem?_map, h2] at h1
    injection h1 with h1; subst h1
    exact .d _
theorem t30 (p : List Sl × Nat) (x : Sl) (hx : p.1[p.2]? = some x) (hp : p.2 < 1000) (ok : okS x) : CallM Try.prog 30 [.optr 2 0 1 0 0] 2 [[.d (.sl 4 (p.1.map slD)), .d (.int .i64 p.2)]] (slV x) [[.d (.sl 4 (p.1.map slD)), .d (.int .i64 (p.2 + 1 : Nat))]] := by
  have hl := (List.getElem?_eq_some_iff.1 hx).1
  refine gm30 ac30 rfl ?_
  simp only [vx, vz, Nat.reduceAdd, Nat.reduceSub, Nat.reduceMul, Nat.reduceLeDiff, Nat.reduceLT, Nat.reduceEqDiff, Nat.reduceBEq, Int.reduceToNat, Int.reduceNeg, Int.reduceEq, Int.reduceNe, Int.reduceLE, Int.reduceLT, reduceCtorEq, ↓reduceIte, ac30]
  refine c_draw ?_
  simp only [vx, vz, Nat.reduceAdd, Nat.reduceSub, Nat.reduceMul, Nat.reduceLeDiff, Nat.reduceLT, Nat.reduceEqDiff, Nat.reduceBEq, Int.reduceToNat, Int.reduceNeg, Int.reduceEq, Int.reduceNe, Int.reduceLE, Int.reduceLT, reduceCtorEq, ↓reduceIte]
  repeat (refine d_k rfl rfl ?_; simp only [vx, vz, Nat.reduceAdd, Nat.reduceSub, Nat.reduceMul, Nat.reduceLeDiff, Nat.reduceLT, Nat.reduceEqDiff, Nat.reduceBEq, Int.reduceToNat, Int.reduceNeg, Int.reduceEq, Int.reduceNe, Int.reduceLE, Int.reduceLT, reduceCtorEq, ↓reduceIte])
  refine ⟨by omega, by omega, getM_nat hx ?_⟩
  simp only [vx, vz, Nat.reduceAdd, Nat.reduceSub, Nat.reduceMul, Nat.reduceLeDiff, Nat.reduceLT, Nat.reduceEqDiff, Nat.reduceBEq, Int.reduceToNat, Int.reduceNeg, Int.reduceEq, Int.reduceNe, Int.reduceLE, Int.reduceLT, reduceCtorEq, ↓reduceIte, slD]
  repeat (refine d_k rfl rfl ?_; simp only [vx, vz, Nat.reduceAdd, Nat.reduceSub, Nat.reduceMul, Nat.reduceLeDiff, Nat.reduceLT, Nat.reduceEqDiff, Nat.reduceBEq, Int.reduceToNat, Int.reduceNeg, Int.reduceEq, Int.reduceNe, Int.reduceLE, Int.reduceLT, reduceCtorEq, ↓reduceIte])
  refine call_p rfl (t34 x ok) ?_
  simp only [vx, vz, Nat.reduceAdd, Nat.reduceSub, Nat.reduceMul, Nat.reduceLeDiff, Nat.reduceLT, Nat.reduceEqDiff, Nat.reduceBEq, Int.reduceToNat, Int.reduceNeg, Int.reduceEq, Int.reduceNe, Int.reduceLE, Int.reduceLT, reduceCtorEq, ↓reduceIte]
  rw [wr_i64 (by omega) (by omega)]
  refine retM_r ⟨mkF 23 [(2, .d (.ptr (slD x)))], [.live 2 [[.d (.sl 4 (p.1.map slD)), .d (.int .i64 (p.2 + 1 : Nat))]]]⟩ (Weak.trans (B := ⟨mkF 23 [(2, .optr 4 1 1 0 0)], _⟩) (weak_any ?_) (weak_frz2 1 (by omega) ⟨.same _ (by simp [rowB, hB]), trivial⟩ (kpL_set (i := 2) rfl (sn_ptr (cs := slD x) rfl (Nat.le_refl 4)) rfl))) rfl ?_
  · simp only [vx, vz, Nat.reduceAdd, Nat.reduceSub, Nat.reduceMul, Nat.reduceLeDiff, Nat.reduceLT, Nat.reduceEqDiff, Nat.reduceBEq, Int.reduceToNat, Int.reduceNeg, Int.reduceEq, Int.reduceNe, Int.reduceLE, Int.reduceLT, reduceCtorEq, ↓reduceIte]
    try trivial
  · refine ⟨Nat.le_refl 4, ?_⟩
    rfl
end Go.Proofs.Ar
